/- Plain: free trees and free conditions: how many there are, each tree has its free form on the list; kernel checks. No walk. | Walks for the law FnFreeTrees: FreeTreesOf of both sides, TreesOf, FreeForm, IsSuperfluous, DrawFreeTreesOf. | The law FnFreeTrees, walked. -/
import Derived.Test.YtbjeibcombjfgaaQf20
import Derived.Test.YtbjeibcombjfgaaQf24
import Derived.Test.YtbjeibcombjfgaaQf25
import Derived.Test.YtbjeibcombjfgaaQf7
set_option maxRecDepth 100000
set_option linter.unusedVariables false
set_option linter.unusedSimpArgs false
namespace Go.Proofs.Ytbjeibcombjfgaa

def FrT : List (List (List Nat)) := [[], [[0]], [[0, 1]], [[0, 1, 2]], [[0, 1, 2, 3], [0, 1, 2, 2]], [[0, 1, 2, 3, 4], [0, 1, 2, 3, 3], [0, 1, 2, 2, 2]], [[0, 1, 2, 3, 4, 5], [0, 1, 2, 3, 4, 4], [0, 1, 2, 3, 4, 3], [0, 1, 2, 3, 3, 3], [0, 1, 2, 3, 3, 2], [0, 1, 2, 2, 2, 2]], [[0, 1, 2, 3, 4, 5, 6], [0, 1, 2, 3, 4, 5, 5], [0, 1, 2, 3, 4, 5, 4], [0, 1, 2, 3, 4, 4, 4], [0, 1, 2, 3, 4, 4, 3], [0, 1, 2, 3, 4, 4, 2], [0, 1, 2, 3, 4, 3, 4], [0, 1, 2, 3, 4, 3, 3], [0, 1, 2, 3, 3, 3, 3], [0, 1, 2, 3, 3, 3, 2], [0, 1, 2, 2, 2, 2, 2]], [[0, 1, 2, 3, 4, 5, 6, 7], [0, 1, 2, 3, 4, 5, 6, 6], [0, 1, 2, 3, 4, 5, 6, 5], [0, 1, 2, 3, 4, 5, 6, 4], [0, 1, 2, 3, 4, 5, 5, 5], [0, 1, 2, 3, 4, 5, 5, 4], [0, 1, 2, 3, 4, 5, 5, 3], [0, 1, 2, 3, 4, 5, 5, 2], [0, 1, 2, 3, 4, 5, 4, 5], [0, 1, 2, 3, 4, 5, 4, 4], [0, 1, 2, 3, 4, 5, 4, 3], [0, 1, 2, 3, 4, 4, 4, 4], [0, 1, 2, 3, 4, 4, 4, 3], [0, 1, 2, 3, 4, 4, 4, 2], [0, 1, 2, 3, 4, 4, 3, 4], [0, 1, 2, 3, 4, 4, 3, 3], [0, 1, 2, 3, 4, 4, 3, 2], [0, 1, 2, 3, 4, 3, 4, 3], [0, 1, 2, 3, 4, 3, 3, 3], [0, 1, 2, 3, 3, 3, 3, 3], [0, 1, 2, 3, 3, 3, 3, 2], [0, 1, 2, 3, 3, 3, 2, 2], [0, 1, 2, 2, 2, 2, 2, 2]]]
def frLen : List Nat := [0, 1, 1, 1, 2, 3, 6, 11, 23]
def cdLen : List Nat := [0, 1, 0, 1, 1, 3, 4, 11, 19]
def eqLLN : List (List Nat) → List (List Nat) → Bool
  | [], [] => true
  | x :: xs, y :: ys => eqN x y && eqLLN xs ys
  | _, _ => false
theorem eqLLN_iff : ∀ {xs ys : List (List Nat)}, eqLLN xs ys = true → xs = ys
  | [], [], _ => rfl
  | [], _ :: _, h => by cases h
  | _ :: _, [], h => by cases h
  | x :: xs, y :: ys, h => by
    unfold eqLLN at h
    rw [Bool.and_eq_true] at h
    rw [eqN_iff.1 h.1, eqLLN_iff h.2]
def memL (r : List Nat) : List (List Nat) → Bool
  | [] => false
  | x :: xs => eqN r x || memL r xs
theorem memL_iff {r : List Nat} : ∀ {xs : List (List Nat)}, memL r xs = true → r ∈ xs
  | [], h => by cases h
  | x :: xs, h => by
    unfold memL at h
    rw [Bool.or_eq_true] at h
    rcases h with h | h
    · rw [eqN_iff.1 h]; exact List.mem_cons_self
    · exact List.mem_cons_of_mem _ (memL_iff h)
def okFr (n : Nat) : Bool := eqLLN (frN n) (FrT.getD n [])
def okFm (n : Nat) : Bool := (treesN n).all fun t => match freeO t with
  | some r => memL r (FrT.getD n [])
  | none => false
def okFc (n : Nat) : Bool := Nat.beq (FrT.getD n []).length (frLen.getD n 0) && Nat.beq ((FrT.getD n []).filter fun q => !supP q).length (cdLen.getD n 0)
theorem ft1 : (List.range 7).all (fun m => okFr (m + 1)) = true := by decide +kernel
theorem ft1b : okFr 8 = true := by decide +kernel
theorem ft2 : (List.range 7).all (fun m => okFm (m + 1)) = true := by decide +kernel
theorem ft2b : okFm 8 = true := by decide +kernel
theorem ft3 : (List.range 8).all (fun m => okFc (m + 1)) = true := by decide +kernel
theorem fr_at {n : Nat} (h1 : 1 ≤ n) (h8 : n ≤ 8) : frN n = FrT.getD n [] := by
  by_cases e : n = 8
  · subst e; exact eqLLN_iff ft1b
  · have h := ft1
    rw [List.all_eq_true] at h
    have h2 := h (n - 1) (List.mem_range.2 (by omega))
    rw [show n - 1 + 1 = n by omega] at h2
    exact eqLLN_iff h2
/-- each tree has its free form on the list -/
theorem free_mem {n : Nat} (h1 : 1 ≤ n) (h8 : n ≤ 8) {t r : List Nat} (ht : t ∈ treesN n) (hr : freeO t = some r) : r ∈ frN n := by
  rw [fr_at h1 h8]
  have h2 : okFm n = true := by
    by_cases e : n = 8
    · subst e; exact ft2b
    · have h := ft2
      rw [List.all_eq_true] at h
      have h2 := h (n - 1) (List.mem_range.2 (by omega))
      rwa [show n - 1 + 1 = n by omega] at h2
  unfold okFm at h2
  rw [List.all_eq_true] at h2
  have h3 := h2 t ht
  rw [hr] at h3
  exact memL_iff h3
/-- how many there are -/
theorem free_len {n : Nat} (h1 : 1 ≤ n) (h8 : n ≤ 8) : (frN n).length = frLen.getD n 0 ∧ (cndN n).length = cdLen.getD n 0 := by
  have h := ft3
  rw [List.all_eq_true] at h
  have h2 := h (n - 1) (List.mem_range.2 (by omega))
  rw [show n - 1 + 1 = n by omega] at h2
  unfold okFc at h2
  rw [Bool.and_eq_true] at h2
  unfold cndN
  rw [fr_at h1 h8]
  exact ⟨Nat.eq_of_beq_eq_true h2.1, Nat.eq_of_beq_eq_true h2.2⟩
/-- the conditions are free forms and not superfluous -/
theorem cnd_at {n : Nat} {q : List Nat} (h : q ∈ cndN n) : freeO q = some q ∧ supP q = false := by
  unfold cndN at h
  obtain ⟨h1, h2⟩ := List.mem_filter.1 h
  unfold frN at h1
  obtain ⟨-, h3⟩ := List.mem_filter.1 h1
  refine ⟨?_, by simpa using h2⟩
  have h4 : frB q = true := by simpa using h3
  unfold frB at h4
  cases hr : freeO q with
  | none => rw [hr] at h4; cases h4
  | some r => rw [hr] at h4; rw [eqN_iff.1 h4]
end Go.Proofs.Ytbjeibcombjfgaa

set_option maxRecDepth 100000
set_option linter.unusedVariables false
set_option linter.unusedSimpArgs false
namespace Go.Proofs.Ytbjeibcombjfgaa
open Go.RowKit

/-- what FreeTreesOf answers -/
def ftR (n : Int) : List (List Nat) := if inR n 1 8 then frN n.toNat else []
def ftC (n : Int) : Int := if inR n 1 8 then 0 else 2
def ftD (n : Int) : List (List Nat) := if inR n 1 8 then cndN n.toNat else []
def ftT (n : Int) : List (List Nat) := if inR n 1 8 then treesN n.toNat else []
theorem i_FreeTreesOf (w : World) (n : Int) (hn : In64 n) :
    Calls Try.prog 31 #[.int .i64 n] w fun e w' => ∃ x, e = .returned (.tuple #[x, .int .i64 (ftC n)]) ∧ LA w' w.heap.size x ((ftR n).map up) ∧ Below w.heap.size w w' := by
  cases h : inR n 1 8 with
  | false =>
    have HC := Lib.hid (show ftC n = 2 by simp [ftC, h])
    have HR := Lib.hid (show ftR n = [] by simp [ftR, h])
    rw [HC.out, HR.out]
    go_enter Try.func31, Try.ntmps31
    go_wp2_with (go_at_call 62; refine (i_inRange _ _ _ _).mono ?_; rintro e w' ⟨rfl, rfl⟩; rw [h])
    go_ret2
    exact ⟨_, rfl, LA.nil _ _, Below.refl _ _⟩
  | true =>
    have HC := Lib.hid (show ftC n = 0 by simp [ftC, h])
    have HR := Lib.hid (show ftR n = frN n.toNat by simp [ftR, h])
    rw [HC.out, HR.out]
    have h2 := inR_iff.1 h
    obtain ⟨k, rfl⟩ : ∃ k : Nat, n = (k : Int) := ⟨n.toNat, by omega⟩
    rw [Int.toNat_natCast]
    have h1 : 1 ≤ k := by omega
    have h8 : k ≤ 8 := by omega
    clear h2 HC HR
    go_enter Try.func31, Try.ntmps31
    go_wp2_with (first
      | (go_at_call 62; refine (i_inRange _ _ _ _).mono ?_; rintro e w' ⟨rfl, rfl⟩; rw [h])
      | (go_at_call 84; refine (i_freeTreesOf _ k h1 h8).mono ?_; rintro e w1 ⟨x1, rfl, hl1, hb1⟩; have HL1 := Lib.hid hl1; have HB1 := Lib.hid hb1; clear hl1 hb1))
    go_ret2
    exact ⟨_, rfl, HL1.out, HB1.out⟩
theorem i_FreeConditionsA (w : World) (n : Int) (hn : In64 n) :
    Calls Try.prog 33 #[.int .i64 n] w fun e w' => ∃ x, e = .returned (.tuple #[x, .int .i64 (ftC n)]) ∧ LA w' w.heap.size x ((ftD n).map up) ∧ Below w.heap.size w w' := by
  cases h : inR n 1 8 with
  | false =>
    have HC := Lib.hid (show ftC n = 2 by simp [ftC, h])
    have HR := Lib.hid (show ftD n = [] by simp [ftD, h])
    rw [HC.out, HR.out]
    go_enter Try.func33, Try.ntmps33
    go_wp2_with (go_at_call 62; refine (i_inRange _ _ _ _).mono ?_; rintro e w' ⟨rfl, rfl⟩; rw [h])
    go_ret2
    exact ⟨_, rfl, LA.nil _ _, Below.refl _ _⟩
  | true =>
    have HC := Lib.hid (show ftC n = 0 by simp [ftC, h])
    have HR := Lib.hid (show ftD n = cndN n.toNat by simp [ftD, h])
    rw [HC.out, HR.out]
    have h2 := inR_iff.1 h
    obtain ⟨k, rfl⟩ : ∃ k : Nat, n = (k : Int) := ⟨n.toNat, by omega⟩
    rw [Int.toNat_natCast]
    have h1 : 1 ≤ k := by omega
    have h8 : k ≤ 8 := by omega
    clear h2 HC HR
    go_enter Try.func33, Try.ntmps33
    go_wp2_with (first
      | (go_at_call 62; refine (i_inRange _ _ _ _).mono ?_; rintro e w' ⟨rfl, rfl⟩; rw [h])
      | (go_at_call 88; refine (i_freeConditions _ k h1 h8).mono ?_; rintro e w1 ⟨x1, rfl, hl1, hb1⟩; have HL1 := Lib.hid hl1; have HB1 := Lib.hid hb1; clear hl1 hb1))
    go_ret2
    exact ⟨_, rfl, HL1.out, HB1.out⟩
theorem i_TreesOf (w : World) (n : Int) (hn : In64 n) :
    Calls Try.prog 37 #[.int .i64 n] w fun e w' => ∃ x, e = .returned (.tuple #[x, .int .i64 (ftC n)]) ∧ LA w' w.heap.size x ((ftT n).map up) ∧ Below w.heap.size w w' := by
  cases h : inR n 1 8 with
  | false =>
    have HC := Lib.hid (show ftC n = 2 by simp [ftC, h])
    have HR := Lib.hid (show ftT n = [] by simp [ftT, h])
    rw [HC.out, HR.out]
    go_enter Try.func37, Try.ntmps37
    go_wp2_with (go_at_call 62; refine (i_inRange _ _ _ _).mono ?_; rintro e w' ⟨rfl, rfl⟩; rw [h])
    go_ret2
    exact ⟨_, rfl, LA.nil _ _, Below.refl _ _⟩
  | true =>
    have HC := Lib.hid (show ftC n = 0 by simp [ftC, h])
    have HR := Lib.hid (show ftT n = treesN n.toNat by simp [ftT, h])
    rw [HC.out, HR.out]
    have h2 := inR_iff.1 h
    obtain ⟨k, rfl⟩ : ∃ k : Nat, n = (k : Int) := ⟨n.toNat, by omega⟩
    rw [Int.toNat_natCast]
    have h1 : 1 ≤ k := by omega
    have h8 : k ≤ 8 := by omega
    clear h2 HC HR
    go_enter Try.func37, Try.ntmps37
    go_wp2_with (first
      | (go_at_call 62; refine (i_inRange _ _ _ _).mono ?_; rintro e w' ⟨rfl, rfl⟩; rw [h])
      | (go_at_call 92; refine (i_treesOf _ k h1 h8).mono ?_; rintro e w1 ⟨x1, rfl, hl1, hb1⟩; have HL1 := Lib.hid hl1; have HB1 := Lib.hid hb1; clear hl1 hb1))
    go_ret2
    exact ⟨_, rfl, HL1.out, HB1.out⟩
theorem isT_of {t : List Nat} (hl : lvl t = true) (h8 : t.length ≤ 8) : isT (up t) = true := by
  have h := lev8 (p := fun t => isT (up t)) (by decide +kernel) hl h8
  exact h
theorem i_FreeForm0 (w : World) (v : Value) (t r : List Nat) (ha : Ints w v (up t)) (ht : lvl t = true) (h8 : t.length ≤ 8) (hr : freeO t = some r) :
    Calls Try.prog 35 #[v] w fun e w' => ∃ x, e = .returned (.tuple #[x, .int .i64 0]) ∧ OwnInts w' w.heap.size tI x (up r) ∧ Below w.heap.size w w' := by
  have HI := Lib.hid (i_IsLevels w v (up t) ha)
  rw [isT_of ht h8] at HI
  have HF := Lib.hid (i_freeForm w v t r ha ht h8 (lvl_le1 ht h8) hr)
  obtain ⟨A, c, rfl, -, -, -⟩ := ha.open_
  clear ha hr
  go_enter Try.func35, Try.ntmps35
  go_wp2_with (first
    | (go_at_call 89; refine HI.out.mono ?_; rintro e w' ⟨rfl, rfl⟩)
    | (go_at_call 91; refine HF.out.mono ?_; rintro e w1 ⟨x1, rfl, hl1, hb1⟩; have HL1 := Lib.hid hl1; have HB1 := Lib.hid hb1; clear hl1 hb1))
  go_ret2
  exact ⟨_, rfl, HL1.out, HB1.out⟩
theorem i_IsSuperfluous0 (w : World) (v : Value) (t : List Nat) (ha : Ints w v (up t)) (ht : lvl t = true) (h8 : t.length ≤ 8) :
    Calls Try.prog 34 #[v] w fun e w' => e = .returned (.tuple #[.bool (supP t), .int .i64 0]) ∧ Below w.heap.size w w' := by
  have HI := Lib.hid (i_IsLevels w v (up t) ha)
  rw [isT_of ht h8] at HI
  obtain ⟨c, hc, hcl, hcc⟩ := canO_8 ht h8
  have hs := i_isSuperfluous w v t c ha h8 (lvl_le1 ht h8) hc hcl hcc
  have e : supP t = supB c := by unfold supP; rw [hc]
  rw [← e] at hs
  have HF := Lib.hid hs
  obtain ⟨A, c, rfl, -, -, -⟩ := ha.open_
  clear ha hs hc hcl hcc e
  go_enter Try.func34, Try.ntmps34
  go_wp2_with (first
    | (go_at_call 89; refine HI.out.mono ?_; rintro e w' ⟨rfl, rfl⟩)
    | (go_at_call 90; refine HF.out.mono ?_; rintro e w1 ⟨rfl, hb1⟩; have HB1 := Lib.hid hb1; clear hb1))
  go_ret2
  exact ⟨rfl, HB1.out⟩
set_option maxHeartbeats 16000000 in
theorem s_FreeTreesOf (w : World) (n : Int) (hn : In64 n) :
    Calls Try.prog 32 #[.int .i64 n] w fun e w' => ∃ x, e = .returned (.tuple #[x, .int .i64 (ftC n)]) ∧ Below w.heap.size w w' := by
  cases h : inR n 1 8 with
  | false =>
    have HC := Lib.hid (show ftC n = 2 by simp [ftC, h])
    rw [HC.out]
    go_enter Try.func32, Try.ntmps32
    go_wp2_with (go_at_call 68; refine (s_l01In _ _ _ _).mono ?_; rintro e w' ⟨rfl, rfl⟩; rw [h])
    go_ret2
    exact ⟨_, rfl, Below.refl _ _⟩
  | true =>
    have HC := Lib.hid (show ftC n = 0 by simp [ftC, h])
    rw [HC.out]
    have h2 := inR_iff.1 h
    obtain ⟨k, rfl⟩ : ∃ k : Nat, n = (k : Int) := ⟨n.toNat, by omega⟩
    have h1 : 1 ≤ k := by omega
    have h8 : k ≤ 8 := by omega
    clear h2 HC
    have HAT := Lib.hid (fun t ht => okRo_at (t := t) h1 h8 ht)
    have HTN := Lib.hid (treesN_at h1 h8)
    go_enter Try.func32, Try.ntmps32
    go_wp2_with (first
      | (go_at_call 68; refine (s_l01In _ _ _ _).mono ?_; rintro e w' ⟨rfl, rfl⟩; rw [h])
      | (go_at_call 85; go_loud (refine (s_l03Trees _ k h1 h8).mono ?_; rintro e w1 ⟨x1, rfl, hl1, hb1⟩; obtain ⟨vs, hown, hrr, hap⟩ := hl1; have hvl : vs.length = (treesN k).length := hrr.1.trans (List.length_map ..); obtain ⟨Ao, co, rfl, -, -⟩ := hown.cells.open_; rw [hvl] at hown ⊢; have HVL := Lib.hid hvl; have HOA := Lib.hid hown; have HRA := Lib.hid hrr; have HB1 := Lib.hid hb1; have OL := Lib.hid (own_lit w1 tL [] (by simp [maxLen])); clear hown hrr hap hvl hb1)))
    generalize hT : treesN k = T at HAT HTN HVL HOA HRA ⊢
    have HTL := Lib.hid HTN.out.1
    have htb := HTL.out
    go_loopw [5, 6] (fun o x wr => ∃ (j : Nat) (us : List Value), j ≤ T.length ∧ x = .int .i64 j ∧ Own wr w1.heap.size tL o us ∧ us.length ≤ j ∧ Below w1.heap.size w1 wr) (fun _ x _ => T.length - (intOf x).toNat)
    case atStart => exact ⟨0, [], Nat.zero_le _, rfl, OL.out, by simp, below1 _ _⟩
    case round =>
      obtain ⟨j, us, hj, rfl, ho, hsub, hb⟩ := hrel
      clear OL
      have HO := Lib.hid ho
      have HSU := Lib.hid hsub
      have HB := Lib.hid hb
      have HUL := Lib.hid (show us.length ≤ 115 from by have h2 := HTL.out; omega)
      clear ho hsub hb
      by_cases hlt : j < T.length
      · have hq : T[j]? = some (T[j]'hlt) := List.getElem?_eq_getElem _
        have hu : vs[j]? = some (vs[j]'(by rw [HVL.out]; exact hlt)) := List.getElem?_eq_getElem _
        have hmem : T[j]'hlt ∈ T := List.getElem_mem _
        have hrow := HRA.out.2 j _ _ hu (by rw [List.getElem?_map, hq]; rfl)
        obtain ⟨ad, n', c', he, hc0⟩ := HOA.out.cells.at_ hu
        simp only [Value.slice.injEq] at he
        obtain ⟨rfl, rfl, rfl⟩ := he
        obtain ⟨hql, hqv, hqc, -⟩ := HTN.out.2 _ hmem
        obtain ⟨r, kk, xs', hro, hfr, hdb⟩ := HAT.out _ hmem
        generalize T[j]'hlt = q at *
        generalize vs[j]'(by rw [HVL.out]; exact hlt) = u at *
        obtain ⟨Au, cu, rfl, -, -, -⟩ := hrow.ints.open_
        rw [up_len] at hrow hu hc0
        have HROW := Lib.hid hrow
        have hq8 : q.length ≤ 8 := by omega
        have hq0 : 0 < q.length := by omega
        have HRO := Lib.hid (fun W (h : Ints W (.slice Au q.length cu) (up q)) => s_l04Roots W _ q _ h (by omega) hro)
        have HSM := Lib.hid (fun W y (hy : Ints W y (up r)) (h : Ints W (.slice Au q.length cu) (up q)) => s_l01Same W y (.slice Au q.length cu) (up r) (up q) hy h)
        have hji : (j : Int) < (T.length : Int) := by omega
        have hcw := keepCell HB.out hc0
        have HC0 := Lib.hid hc0
        clear hq hu hmem hrow hql hqv hqc hro hfr hdb hc0
        generalize decide (up r = up q) = dd at HSM
        have HBC := Lib.hid (show Below w1.heap.size w1 wr.drew from HB.out.drew)
        go_wp2_with fail
        cases dd with
        | false =>
          first | go_region_law (first
            | (go_simp; go_at_call 87; go_loud ((with_reducible refine (HRO.out _ (HROW.out.below HBC.out).ints).mono ?_); rintro e w2 ⟨x2, rfl, ho2, hb2⟩; have HBX := Lib.hid (show Below wr.heap.size wr w2 from Below.trans (Below.refl wr.heap.size wr).drew hb2); have HBC := Lib.hid (HBC.out.trans (hb2.mono HBC.out.size)); obtain ⟨g, cap, A2, c2, he, hc2, -, hr2⟩ := ho2.at_ (k := 0) rfl; subst he; have hc2' : w2.cell? ⟨g, 0, none⟩ = some (.slice A2 r.length c2) := hc2; have hcw2 := keepCell HBC.out HC0.out; have HR2 := Lib.hid hr2; have hp2 : 0 < ((r, kk) :: xs').length := (by simp); clear hc2 ho2 hb2))
            | (go_simp; go_at_call 86; (with_reducible refine (HSM.out _ _ HR2.out.ints (HROW.out.below HBC.out).ints).mono ?_); rintro e w3 ⟨rfl, n3, rfl⟩; have HBC := Lib.hid (below_drewN HBC.out n3); have HBX := Lib.hid (below_drewN HBX.out n3))) | fail
          all_goals
            go_wp2_with fail
            go_roundw
            case rel =>
              exact ⟨j + 1, us, by omega, by go_num, HO.out.below HBX.out, by have := HSU.out; omega, HBC.out⟩
            case measure => simp [intOf]; omega
        | true =>
          first | go_region_law (first
            | (go_simp; go_at_call 87; go_loud ((with_reducible refine (HRO.out _ (HROW.out.below HBC.out).ints).mono ?_); rintro e w2 ⟨x2, rfl, ho2, hb2⟩; have HBX := Lib.hid (show Below wr.heap.size wr w2 from Below.trans (Below.refl wr.heap.size wr).drew hb2); have HBC := Lib.hid (HBC.out.trans (hb2.mono HBC.out.size)); obtain ⟨g, cap, A2, c2, he, hc2, -, hr2⟩ := ho2.at_ (k := 0) rfl; subst he; have hc2' : w2.cell? ⟨g, 0, none⟩ = some (.slice A2 r.length c2) := hc2; have hcw2 := keepCell HBC.out HC0.out; have HR2 := Lib.hid hr2; have hp2 : 0 < ((r, kk) :: xs').length := (by simp); clear hc2 ho2 hb2))
            | (go_simp; go_at_call 86; (with_reducible refine (HSM.out _ _ HR2.out.ints (HROW.out.below HBC.out).ints).mono ?_); rintro e w3 ⟨rfl, n3, rfl⟩; have HBC := Lib.hid (below_drewN HBC.out n3); have HBX := Lib.hid (below_drewN HBX.out n3))) | fail
          all_goals
            have hcw5 := keepCell HBC.out HC0.out
            have HO5 := Lib.hid (HO.out.below HBX.out)
            have HB5 := Lib.hid HBC.out
            go_wp2_with (at_builtin; go_loud (refine wpList_app1 T_row HO5.out (by have := HUL.out; omega) HB5.out.size (by rfl) rfl (by rfl) (by rfl) (by rfl) ?_; intro v1 w5 hown1 hgr1; have HN1 := Lib.hid hown1; have HGR := Lib.hid hgr1; clear hown1 hgr1))
            go_roundw
            case rel =>
              exact ⟨j + 1, us ++ [.slice Au q.length cu], by omega, by go_num, HN1.out, by have := HSU.out; simp; omega, HGR.out.below HB5.out HB5.out.size HO5.out.ge⟩
            case measure => simp [intOf]; omega
      · have hjl : j = T.length := by omega
        go_wp2_with fail
        go_ret2
        exact ⟨_, rfl, HB1.out.trans (HB.out.mono HB1.out.size)⟩
set_option maxHeartbeats 4000000 in
theorem s_DrawTreesOf (w : World) (A : Option Addr) (N c : Nat) (hb : ByB w w.heap.size A N) (hN : N ≤ 4096) :
    Calls Try.prog 83 #[.slice A N c] w fun e w' => ∃ k : Nat, e = .returned (.int .i64 k) ∧ k ≤ 9 ∧ Below w.heap.size w w' := by
  have HFR := Lib.hid (s_l01From w A N c hb hN)
  clear hb
  go_enter Try.func83, Try.ntmps83
  go_wp2_with (first
    | (go_at_call 58; go_loud (refine HFR.out.mono ?_; rintro e w1 ⟨p, rfl, hs1, hb1⟩; have HS1 := Lib.hid hs1; have HB1 := Lib.hid hb1; have hpl := hs1.lt; have hpg := hs1.ge; clear hs1 hb1))
    | (go_at_call 60; go_loud (refine (s_l01Pick _ _ p _ [1, 2, 3, 4, 5, 6, 7, 8, 0, 9] (HS1.out.below (below1 w1 (.cells (ints [1, 2, 3, 4, 5, 6, 7, 8, 0, 9]).toArray tI))) (lit_keep w1 p [1, 2, 3, 4, 5, 6, 7, 8, 0, 9] (by intro z hz; simp at hz; unfold In64; omega) (by simp) hpl) (by simp) (by simp)).mono ?_; rintro e w4 ⟨y, rfl, hy, hg, hs⟩; have HY := Lib.hid hy; have HG4 := Lib.hid (gtrans (gof (below1 w1 _)) hg); clear hg hs hy)))
  go_ret
  obtain ⟨k, hk, hk9⟩ : ∃ k : Nat, y = k ∧ k ≤ 9 := ⟨y.toNat, by have := HY.out; simp at this; omega, by have := HY.out; simp at this; omega⟩
  subst hk
  exact ⟨k, rfl, hk9, HB1.out.grown HG4.out HB1.out.size (fun k e => by injection e with e; omega)⟩
theorem s_DrawFreeTreesOf (w : World) (A : Option Addr) (N c : Nat) (hb : ByB w w.heap.size A N) (hN : N ≤ 4096) :
    Calls Try.prog 30 #[.slice A N c] w fun e w' => ∃ k : Nat, e = .returned (.int .i64 k) ∧ k ≤ 9 ∧ Below w.heap.size w w' := by
  have HFR := Lib.hid (s_DrawTreesOf w A N c hb hN)
  clear hb
  go_enter Try.func30, Try.ntmps30
  go_wp2_with (go_at_call 83; refine HFR.out.mono ?_; rintro e w1 ⟨k, rfl, hk, hb1⟩; have HK := Lib.hid hk; have HB1 := Lib.hid hb1; clear hk hb1)
  go_ret
  exact ⟨k, rfl, HK.out, HB1.out⟩
end Go.Proofs.Ytbjeibcombjfgaa

set_option maxRecDepth 100000
set_option linter.unusedVariables false
set_option linter.unusedSimpArgs false
namespace Go.Proofs.Ytbjeibcombjfgaa
open Go.RowKit

theorem addr_addF (g n : Nat) : (⟨g, 0, none⟩ : Addr).add n = ⟨g, n, none⟩ := by by_cases h0 : n = 0 <;> simp [Addr.add, h0]
def frI : List Int := [0, 1, 1, 1, 2, 3, 6, 11, 23]
def cdI : List Int := [0, 1, 0, 1, 1, 3, 4, 11, 19]
theorem frI_at {k : Nat} (h : k ≤ 8) : frI[k]? = some ((frLen.getD k 0 : Nat) : Int) := by
  obtain rfl | rfl | rfl | rfl | rfl | rfl | rfl | rfl | rfl : k = 0 ∨ k = 1 ∨ k = 2 ∨ k = 3 ∨ k = 4 ∨ k = 5 ∨ k = 6 ∨ k = 7 ∨ k = 8 := by omega
  all_goals rfl
theorem cdI_at {k : Nat} (h : k ≤ 8) : cdI[k]? = some ((cdLen.getD k 0 : Nat) : Int) := by
  obtain rfl | rfl | rfl | rfl | rfl | rfl | rfl | rfl | rfl : k = 0 ∨ k = 1 ∨ k = 2 ∨ k = 3 ∨ k = 4 ∨ k = 5 ∨ k = 6 ∨ k = 7 ∨ k = 8 := by omega
  all_goals rfl
/-- is a tree among the first k of a list? -/
def anyQ (F : List (List Nat)) (r : List Nat) (k : Nat) : Bool := (F.take k).any fun q => decide (up q = up r)
theorem anyQ_succ {F : List (List Nat)} {r q : List Nat} {k : Nat} (h : F[k]? = some q) : anyQ F r (k + 1) = (anyQ F r k || decide (up q = up r)) := by
  unfold anyQ
  rw [List.take_add_one, h]
  simp
theorem anyQ_mem {F : List (List Nat)} {r : List Nat} (h : r ∈ F) : anyQ F r F.length = true := by
  unfold anyQ
  rw [List.take_length, List.any_eq_true]
  exact ⟨r, h, decide_eq_true rfl⟩
/-- a row of a list of trees -/
theorem Rows.treeA {w : World} {A : Option Addr} {n c : Nat} {F : List (List Nat)} (h : Rows w (.slice A n c) (F.map up)) {i : Nat} (hi : i < n) :
    ∃ ad At ct t, A = some ad ∧ F[i]? = some t ∧ Ints w (.slice At t.length ct) (up t) ∧ w.cell? (ad.add i) = some (.slice At t.length ct) := by
  obtain ⟨A', c', he, -, -, h3⟩ := h.open_
  simp only [Value.slice.injEq] at he
  obtain ⟨rfl, hn, rfl⟩ := he
  obtain ⟨ad, u, zs, hA, hz, hu, hc⟩ := h3 i (by omega)
  rw [List.getElem?_map] at hz
  cases ht : F[i]? with
  | none => rw [ht] at hz; cases hz
  | some t =>
    rw [ht] at hz
    injection hz with hz
    subst hz
    obtain ⟨Au, cu, rfl, -, -, -⟩ := hu.open_
    rw [up_len] at hu hc
    exact ⟨ad, Au, cu, t, hA, rfl, hu, hc⟩
set_option maxHeartbeats 16000000 in
theorem law_FreeTrees (w : World) (v : Value) (n : Nat) (h : Bts w v n) :
    Calls Try.prog 6 #[v] w fun e w' => e = .returned (.bool true) ∧ Below w.heap.size w w' := by
  obtain ⟨A, c, rfl, hb⟩ := h
  have HBG := Lib.hid (l_big w A n c)
  by_cases h4 : 4096 < n
  · have hd : decide (4096 < n) = true := by simp [h4]
    rw [hd] at HBG
    clear hd h4 hb
    go_enter Try.func6, Try.ntmps6
    go_wp2_with (go_at_call 12; refine HBG.out.mono ?_; rintro e w0 ⟨rfl, rfl⟩)
    go_ret
    exact ⟨rfl, Below.refl _ _⟩
  · have hd : decide (4096 < n) = false := by simp [h4]
    rw [hd] at HBG
    have HDR := Lib.hid (s_DrawFreeTreesOf w A n c hb (by omega))
    clear hd h4 hb
    go_enter Try.func6, Try.ntmps6
    go_upto_region 4 with (first
      | (go_at_call 12; refine HBG.out.mono ?_; rintro e w0 ⟨rfl, rfl⟩)
      | (go_at_call 30; go_loud (refine HDR.out.mono ?_; rintro e w1 ⟨k, rfl, hk, hb1⟩; have HB1 := Lib.hid hb1; clear hb1)))
    clear HBG HDR
    have hk64 : In64 (k : Int) := by unfold In64; omega
    have HF1 := Lib.hid (i_FreeTreesOf w1 k hk64)
    have HF2 := Lib.hid (fun X => s_FreeTreesOf X k hk64)
    have HF3 := Lib.hid (fun X => i_FreeConditionsA X k hk64)
    have HF4 := Lib.hid (fun X => i_TreesOf X k hk64)
    cases hr : inR (k : Int) 1 8 with
    | false =>
      have hc : ftC k = 2 := by simp [ftC, hr]
      have hl : ftR k = [] := by simp [ftR, hr]
      rw [hc, hl] at HF1
      simp only [hc] at HF2 HF3
      clear hr hc hl hk64 hk
      go_wp2_with (first
        | (go_at_call 31; go_loud (refine HF1.out.mono ?_; rintro e w2 ⟨x2, rfl, hl2, hb2⟩; obtain ⟨A2, c2, rfl, -, -, -⟩ := hl2.rows.open_; have HB2 := Lib.hid (HB1.out.trans (hb2.mono HB1.out.size)); clear hl2 hb2))
        | (go_at_call 32; go_loud (refine (HF2.out _).mono ?_; rintro e w3 ⟨x3, rfl, hb3⟩; have HB3 := Lib.hid (HB2.out.trans (hb3.mono HB2.out.size)); clear hb3))
        | (go_at_call 33; go_loud (refine (HF3.out _).mono ?_; rintro e w4 ⟨x4, rfl, hl4, hb4⟩; have HB4 := Lib.hid (HB3.out.trans (hb4.mono HB3.out.size)); clear hb4 hl4)))
      go_ret
      exact ⟨rfl, HB4.out⟩
    | true =>
      have hc : ftC k = 0 := by simp [ftC, hr]
      have hl : ftR k = frN k := by simp [ftR, hr]
      have hl2 : ftD k = cndN k := by simp [ftD, hr]
      have hl3 : ftT k = treesN k := by simp [ftT, hr]
      have h2 := inR_iff.1 hr
      have h1 : 1 ≤ k := by omega
      have h8 : k ≤ 8 := by omega
      rw [hc, hl] at HF1
      simp only [hc] at HF2
      simp only [hc, hl2] at HF3
      simp only [hc, hl3] at HF4
      have HLN := Lib.hid (free_len h1 h8)
      have HMM := Lib.hid (fun t r => free_mem (t := t) (r := r) h1 h8)
      have HTN := Lib.hid (treesN_at h1 h8)
      have HCN := Lib.hid (fun q (hq : q ∈ cndN k) => (cnd_at hq : _ ∧ _))
      have HCL := Lib.hid (fun q (hq : q ∈ cndN k) => show lvl q = true ∧ q.length ≤ 8 from by
        have h5 := (List.mem_filter.1 hq).1
        have h6 := (List.mem_filter.1 h5).1
        obtain ⟨a, b, -⟩ := (treesN_at h1 h8).2 q h6
        exact ⟨b, by omega⟩)
      have HFL := Lib.hid (show (frN k).length ≤ 115 from Nat.le_trans (List.length_filter_le _ _) (treesN_at h1 h8).1)
      have HDL := Lib.hid (show (cndN k).length ≤ 115 from Nat.le_trans (List.length_filter_le _ _) HFL.out)
      have HI1 := Lib.hid (frI_at h8)
      have HI2 := Lib.hid (cdI_at h8)
      rw [← HLN.out.1] at HI1
      rw [← HLN.out.2] at HI2
      clear hr hc hl hl2 hl3 h2 hk64 HLN
      generalize frN k = F at *
      generalize cndN k = D at *
      generalize hT : treesN k = T at *
      clear hT
      go_upto_region 11 with (first
        | (go_at_call 31; go_loud (refine HF1.out.mono ?_; rintro e w2 ⟨x2, rfl, hl2, hb2⟩; obtain ⟨A2, c2, he2, -, -, -⟩ := hl2.rows.open_; rw [List.length_map] at he2; subst he2; have HL2 := Lib.hid hl2.rows; have HB2 := Lib.hid (HB1.out.trans (hb2.mono HB1.out.size)); clear hl2 hb2))
        | (go_at_call 32; go_loud (refine (HF2.out _).mono ?_; rintro e w3 ⟨x3, rfl, hb3⟩; have HB3 := Lib.hid (HB2.out.trans (hb3.mono HB2.out.size)); have HL3 := Lib.hid (HL2.out.below hb3); clear hb3))
        | (go_at_call 33; go_loud (refine (HF3.out _).mono ?_; rintro e w4 ⟨x4, rfl, hl4, hb4⟩; obtain ⟨A4, c4, he4, -, -, -⟩ := hl4.rows.open_; rw [List.length_map] at he4; subst he4; have HM4 := Lib.hid hl4.rows; have HL4 := Lib.hid (HL3.out.below hb4); have HB4 := Lib.hid (HB3.out.trans (hb4.mono HB3.out.size)); clear hb4 hl4)))
      clear HF1 HF2 HF3 HL2 HL3 HB1 HB2 HB3
      obtain ⟨g, hg⟩ : ∃ g, g = w4.heap.size := ⟨_, rfl⟩
      have HOF := Lib.hid (show Own (w4.alloc (.cells (ints frI).toArray tN)) w4.heap.size tN (.slice (some ⟨w4.heap.size, 0, none⟩) 9 9) (ints frI) from own_lit w4 tN (ints frI) (by decide))
      have HB5 := Lib.hid (below1 w4 (.cells (ints frI).toArray tN))
      obtain ⟨W5, hW5⟩ : ∃ W5, W5 = w4.alloc (.cells (ints frI).toArray tN) := ⟨_, rfl⟩
      go_upto_region 12 with fail
      rw [show (Obj.cells #[Value.int IntKind.i64 0, Value.int IntKind.i64 1, Value.int IntKind.i64 1, Value.int IntKind.i64 1, Value.int IntKind.i64 2, Value.int IntKind.i64 3, Value.int IntKind.i64 6, Value.int IntKind.i64 11, Value.int IntKind.i64 23] tN) = .cells (ints frI).toArray tN from rfl]
      rw [← hW5] at HOF HB5 ⊢
      clear hW5
      have HOC := Lib.hid (show Own (W5.alloc (.cells (ints cdI).toArray tN)) W5.heap.size tN (.slice (some ⟨W5.heap.size, 0, none⟩) 9 9) (ints cdI) from own_lit W5 tN (ints cdI) (by decide))
      have HB6 := Lib.hid (below1 W5 (.cells (ints cdI).toArray tN))
      obtain ⟨W6, hW6⟩ : ∃ W6, W6 = W5.alloc (.cells (ints cdI).toArray tN) := ⟨_, rfl⟩
      go_upto_region 13 with fail
      rw [show (Obj.cells #[Value.int IntKind.i64 0, Value.int IntKind.i64 1, Value.int IntKind.i64 0, Value.int IntKind.i64 1, Value.int IntKind.i64 1, Value.int IntKind.i64 3, Value.int IntKind.i64 4, Value.int IntKind.i64 11, Value.int IntKind.i64 19] tN) = .cells (ints cdI).toArray tN from rfl]
      rw [← hW6] at HOC HB6 ⊢
      clear hW6
      obtain ⟨a1, n1, c1, he1, hc1⟩ := (HOF.out.below HB6.out).cells.at_ (ints_get HI1.out)
      obtain ⟨a2, n2, c2', he2, hc2⟩ := HOC.out.cells.at_ (ints_get HI2.out)
      simp only [Value.slice.injEq, Option.some.injEq] at he1 he2
      obtain ⟨rfl, -, -⟩ := he1
      obtain ⟨rfl, -, -⟩ := he2
      rw [addr_addF] at hc1 hc2
      have hk9 : (k : Int) < 9 := by omega
      have HL6 := Lib.hid ((HL4.out.below HB5.out).below HB6.out)
      have HM6 := Lib.hid ((HM4.out.below HB5.out).below HB6.out)
      have HW6 := Lib.hid (HB4.out.trans ((HB5.out.trans (HB6.out.mono HB5.out.size)).mono HB4.out.size))
      clear HOF HOC HB5 HB6 HL4 HM4 HB4
      have hFL := HFL.out
      have hDL := HDL.out
      go_upto_region 15 with fail
      clear hc1 hc2 hk9
      go_wp2_with fail
      -- the conditions
      go_loopw [12] (fun x wr => ∃ i : Nat, i ≤ D.length ∧ x = .int .i64 i ∧ Below W6.heap.size W6 wr) (fun x _ => D.length - (intOf x).toNat)
      case atStart => exact ⟨0, Nat.zero_le _, rfl, Below.refl _ _⟩
      case round =>
        obtain ⟨i, hi, rfl, hb⟩ := hrel
        have HB := Lib.hid hb
        clear hb
        by_cases hlt : i < D.length
        · obtain ⟨ad, At, ct, q, rfl, hq, hti, hcr⟩ := (HM6.out.below HB.out).treeA hlt
          have hmem := List.mem_of_getElem? hq
          obtain ⟨hfr, hsp⟩ := HCN.out q hmem
          obtain ⟨hql, hq8⟩ := HCL.out q hmem
          have HTI := Lib.hid hti
          have HS := Lib.hid (fun X (hX : Ints X (.slice At q.length ct) (up q)) => i_IsSuperfluous0 X _ q hX hql hq8)
          have HR := Lib.hid (fun X (hX : Ints X (.slice At q.length ct) (up q)) => i_FreeForm0 X _ q q hX hql hq8 hfr)
          rw [hsp] at HS
          have hii : (i : Int) < (D.length : Int) := by omega
          rename World => wq
          have HC := Lib.hid hcr
          clear hmem hfr hsp hql hq8 hti hq
          go_upto_region 19 with (go_at_call 34; go_loud ((with_reducible refine (HS.out _ HTI.out).mono ?_); rintro e w7 ⟨rfl, hb7⟩; have HB7 := Lib.hid hb7; clear hb7))
          have hcr7 := keepCell HB7.out HC.out
          go_upto_region 20 with (go_at_call 35; go_loud ((with_reducible refine (HR.out _ (HTI.out.below HB7.out)).mono ?_); rintro e w8 ⟨x8, rfl, ho8, hb8⟩; obtain ⟨A8, c8, he8, -, -⟩ := ho8.1.cells.open_; rw [ints_len, up_len] at he8; subst he8; have HO8 := Lib.hid ho8.ints; have HB8 := Lib.hid (HB7.out.trans (hb8.mono HB7.out.size)); clear ho8 hb8))
          have hcr8 := keepCell HB8.out HC.out
          go_wp2_with (go_at_call 36; (refine (l_likeInts _ _ _ _ _ HO8.out (HTI.out.below HB8.out)).mono ?_); go_loud (rw [show decide (up q = up q) = true from decide_eq_true rfl]; rintro e w9 ⟨rfl, n9, hw9⟩; have HB9 := Lib.hid (show Below wq.heap.size wq w9 from by rw [hw9]; exact below_drewN HB8.out n9); clear hw9))
          go_roundw
          case rel => exact ⟨i + 1, by omega, by go_num, HB.out.trans (HB9.out.mono HB.out.size)⟩
          case measure => simp [intOf]; omega
        · have hii : ¬ ((i : Int) < (D.length : Int)) := by omega
          rename World => wq
          have HL7 := Lib.hid (HL6.out.below HB.out)
          have HW7 := Lib.hid (HW6.out.trans (HB.out.mono HW6.out.size))
          clear HM6 HL6 HW6 HB HCN HCL HI1 HI2 HDL hDL
          go_upto_region 25 with (go_at_call 37; go_loud (refine (HF4.out _).mono ?_; rintro e w8 ⟨x8, rfl, hl8, hb8⟩; obtain ⟨A8, c8, he8, -, -, -⟩ := hl8.rows.open_; rw [List.length_map] at he8; subst he8; have HT8 := Lib.hid hl8.rows; have HL8 := Lib.hid (HL7.out.below hb8); have HB8 := Lib.hid (HW7.out.trans (hb8.mono HW7.out.size)); clear hl8 hb8))
          clear HL7 HW7 HF4
          have hTL := HTN.out.1
          go_wp2_with fail
          go_loopw [19] (fun x wr => ∃ j : Nat, j ≤ T.length ∧ x = .int .i64 j ∧ Below w8.heap.size w8 wr) (fun x _ => T.length - (intOf x).toNat)
          case atStart => exact ⟨0, Nat.zero_le _, rfl, Below.refl _ _⟩
          case round =>
            obtain ⟨j, hj, rfl, hb⟩ := hrel
            have HB := Lib.hid hb
            clear hb
            by_cases hlt : j < T.length
            · obtain ⟨ad, At, ct, t, rfl, ht, hti, hcr⟩ := (HT8.out.below HB.out).treeA hlt
              have hmem := List.mem_of_getElem? ht
              obtain ⟨hql, hqv, -, -⟩ := HTN.out.2 t hmem
              have ht8 : t.length ≤ 8 := by omega
              obtain ⟨r0, rs, -, hfr, -, -⟩ := freeO_ex hqv ht8
              have HRM := Lib.hid (anyQ_mem (HMM.out t (minT r0 rs) hmem hfr))
              have HTI := Lib.hid hti
              have HR := Lib.hid (fun X (hX : Ints X (.slice At t.length ct) (up t)) => i_FreeForm0 X _ t _ hX hqv ht8 hfr)
              generalize minT r0 rs = r at HRM HR
              have hii : (j : Int) < (T.length : Int) := by omega
              rename World => wq
              clear hmem hql hqv ht8 hfr hti ht
              go_upto_region 30 with (go_at_call 35; go_loud ((with_reducible refine (HR.out _ HTI.out).mono ?_); rintro e w9 ⟨x9, rfl, ho9, hb9⟩; obtain ⟨A9, c9, he9, -, -⟩ := ho9.1.cells.open_; rw [ints_len, up_len] at he9; subst he9; have HO9 := Lib.hid ho9.ints; have HB9 := Lib.hid (HB.out.trans (hb9.mono HB.out.size)); clear ho9 hb9))
              have HL9 := Lib.hid (HL8.out.below HB9.out)
              clear HR HTI
              go_wp2_with fail
              go_loopw [22, 23] (fun x y wr => ∃ i n : Nat, i ≤ F.length ∧ x = .bool (anyQ F r i) ∧ y = .int .i64 i ∧ wr = w9.drewN n) (fun _ y _ => F.length - (intOf y).toNat)
              case atStart => exact ⟨0, 0, Nat.zero_le _, rfl, rfl, rfl⟩
              case round =>
                obtain ⟨i, n, hi, rfl, rfl, rfl⟩ := hrel
                by_cases hli : i < F.length
                · obtain ⟨af, Ag, cg, q, rfl, hq, hqi, hcq⟩ := HL9.out.treeA hli
                  have HQ := Lib.hid (anyQ_succ (r := r) hq)
                  have HQI := Lib.hid hqi
                  have hij : (i : Int) < (F.length : Int) := by omega
                  have hcq' : (w9.drewN n).cell? (af.add i) = some (.slice Ag q.length cg) := hcq
                  clear hqi hq hcq
                  cases hd : anyQ F r i with
                  | true =>
                    rw [hd] at HQ
                    clear hd
                    go_wp2_with fail
                    go_roundw
                    case rel => exact ⟨i + 1, n, by omega, by rw [HQ.out]; rfl, by go_num, rfl⟩
                    case measure => simp [intOf]; omega
                  | false =>
                    rw [hd] at HQ
                    clear hd
                    go_wp2_with (go_at_call 36; (refine (l_likeInts _ _ _ _ _ (HQI.out.drewN _) (HO9.out.drewN _)).mono ?_); go_loud (rintro e w10 ⟨rfl, n10, rfl⟩))
                    go_roundw
                    case rel => exact ⟨i + 1, n + n10, by omega, by rw [HQ.out]; rfl, by go_num, by first | rfl | rw [World.drewN_drewN]⟩
                    case measure => simp [intOf]; omega
                · have hil : i = F.length := by omega
                  subst hil
                  rw [HRM.out]
                  have hij : ¬ ((F.length : Int) < (F.length : Int)) := by omega
                  go_wp2_with fail
                  go_roundw
                  case rel => exact ⟨j + 1, by omega, by go_num, below_drewN HB9.out _⟩
                  case measure => simp [intOf]; omega
            · have hii : ¬ ((j : Int) < (T.length : Int)) := by omega
              go_wp2_with fail
              go_ret
              exact ⟨rfl, HB8.out.trans (HB.out.mono HB8.out.size)⟩
end Go.Proofs.Ytbjeibcombjfgaa

