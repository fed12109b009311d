/- Repeating a tableau, plain; an owned tableau beside a store. No program in sight. | Plain: what the law of repeated tableaus says. No walk. | Walk: composed of the program. -/
import Derived.Test.YtbjeibcombjfgaaQt22
import Derived.Test.YtbjeibcombjfgaaQt13
import Derived.Test.YtbjeibcombjfgaaQt14
import Derived.Test.YtbjeibcombjfgaaQt20
import Derived.Test.YtbjeibcombjfgaaQt16
import Derived.Test.YtbjeibcombjfgaaQt10
set_option maxRecDepth 100000
set_option linter.unusedVariables false
set_option linter.unusedSimpArgs false
namespace Go.Proofs.Ytbjeibcombjfgaa
open Go.RowKit

def repT (A : List (List Int)) (B : List Int) : Nat → List (List Int) × List Int
  | 0 => (A, B)
  | n + 1 => (compA (repT A B n).1 (repT A B n).2 A B, (repT A B n).2 ++ B)
/-- a square tableau of numbers -/
structure Sq (A : List (List Int)) (B : List Int) (s : Nat) : Prop where
  la : A.length = s
  lb : B.length = s
  rows : ∀ r ∈ A, Nums r ∧ r.length = s
  ws : Nums B
theorem Sq.numTab {A : List (List Int)} {B : List Int} {s : Nat} (h : Sq A B s) (hs : s ≤ 1000) : NumTab A B :=
  ⟨by rw [h.la]; exact hs, by rw [h.lb]; exact hs, fun r hr => ⟨(h.rows r hr).1, by rw [(h.rows r hr).2]; exact hs⟩, h.ws⟩
theorem Sq.comp {A1 A2 : List (List Int)} {B1 B2 : List Int} {s t : Nat} (h : Sq A1 B1 s) (h' : Sq A2 B2 t) : Sq (compA A1 B1 A2 B2) (B1 ++ B2) (s + t) := by
  refine ⟨by simp [compA, h.la, h'.la], by simp [h.lb, h'.lb], fun r hr => ?_, fun z hz => ?_⟩
  · rcases List.mem_append.1 hr with hr | hr
    · obtain ⟨x, hx, rfl⟩ := List.mem_map.1 hr
      refine ⟨fun z hz => ?_, by simp [padR, (h.rows x hx).2, h'.lb]⟩
      rcases List.mem_append.1 hz with hz | hz
      · exact (h.rows x hx).1 z hz
      · have := (List.mem_replicate.1 hz).2; omega
    · obtain ⟨x, hx, rfl⟩ := List.mem_map.1 hr
      refine ⟨fun z hz => ?_, by simp [(h'.rows x hx).2, h.lb]⟩
      rcases List.mem_append.1 hz with hz | hz
      · exact h.ws z hz
      · exact (h'.rows x hx).1 z hz
  · rcases List.mem_append.1 hz with hz | hz
    · exact h.ws z hz
    · exact h'.ws z hz
theorem Sq.rep {A : List (List Int)} {B : List Int} {s : Nat} (h : Sq A B s) : ∀ n, Sq (repT A B n).1 (repT A B n).2 ((n + 1) * s)
  | 0 => by simpa [repT] using h
  | n + 1 => by
    have := (Sq.rep h n).comp h
    rw [show (n + 1 + 1) * s = (n + 1) * s + s from by rw [Nat.succ_mul]]
    exact this
theorem Sq.scl {A : List (List Int)} {B : List Int} {s : Nat} (hA : A.length = s) (hB : B.length = s) (hr : ∀ r ∈ A, r.length = s) (f : Int) : Sq (A.map (Go.Proofs.Ytbjeibcombjfgaa.scl f)) (Go.Proofs.Ytbjeibcombjfgaa.scl f B) s := by
  refine ⟨by simpa using hA, by rw [scl_len]; exact hB, fun r h => ?_, scl_nums _ _⟩
  obtain ⟨x, hx, rfl⟩ := List.mem_map.1 h
  exact ⟨scl_nums _ _, by rw [scl_len]; exact hr x hx⟩

def repFac (k : Int) : Int := pw k 10005
def repC (A : List (List Int)) (Bs : List Int) (k : Int) : Int := if tabB A Bs then (if inR k 1 8 then (if (Bs.length : Int) * k ≤ 8 then 0 else 3) else 2) else 1
def repR (A : List (List Int)) (Bs : List Int) (k : Int) : List (List Int) × List Int := if repC A Bs k = 0 then repT (A.map (scl (repFac k))) (scl (repFac k) Bs) (k.toNat - 1) else ([], [])
def IsRep (A : List (List Int)) (Bs : List Int) (k : Int) (RA : List (List Int)) (RB : List Int) (c : Int) : Prop := RA = (repR A Bs k).1 ∧ RB = (repR A Bs k).2 ∧ c = repC A Bs k
theorem IsRep.unique {A : List (List Int)} {Bs : List Int} {k : Int} {RA RA' : List (List Int)} {RB RB' : List Int} {c c' : Int} (h : IsRep A Bs k RA RB c) (h' : IsRep A Bs k RA' RB' c') : RA = RA' ∧ RB = RB' ∧ c = c' := by
  obtain ⟨rfl, rfl, rfl⟩ := h
  obtain ⟨rfl, rfl, rfl⟩ := h'
  exact ⟨rfl, rfl, rfl⟩
theorem repC_ok {A : List (List Int)} {Bs : List Int} {k : Int} (h : repC A Bs k = 0) : tabB A Bs = true ∧ 1 ≤ k ∧ k ≤ 8 ∧ (Bs.length : Int) * k ≤ 8 := by
  unfold repC at h
  cases ht : tabB A Bs with
  | false => rw [ht] at h; simp at h
  | true =>
    rw [ht] at h
    cases hr : inR k 1 8 with
    | false => rw [hr] at h; simp at h
    | true =>
      rw [hr] at h
      by_cases hm : (Bs.length : Int) * k ≤ 8
      · have := inR_iff.1 hr
        exact ⟨rfl, this.1, this.2, hm⟩
      · simp [hm] at h
theorem rep_sq {A : List (List Int)} {Bs : List Int} {k : Int} (h : tabB A Bs = true) (n : Nat) : Sq (repT (A.map (scl (repFac k))) (scl (repFac k) Bs) n).1 (repT (A.map (scl (repFac k))) (scl (repFac k) Bs) n).2 ((n + 1) * Bs.length) :=
  (Sq.scl (isTab_of h).len rfl (fun r hr => ((isTab_of h).row r hr).1) _).rep n
theorem rep_bd {s n : Nat} {k : Int} (h1 : 1 ≤ k) (h : (s : Int) * k ≤ 8) (hn : n + 1 ≤ k.toNat) : (n + 1) * s ≤ 8 := by
  have h2 : ((n + 1 : Nat) : Int) ≤ k := by omega
  have h3 : (s : Int) * ((n + 1 : Nat) : Int) ≤ (s : Int) * k := Int.mul_le_mul_of_nonneg_left h2 (by omega)
  have h4 : (((n + 1) * s : Nat) : Int) = (s : Int) * ((n + 1 : Nat) : Int) := by rw [Int.natCast_mul, Int.mul_comm]
  omega
theorem IsRep.short {A : List (List Int)} {Bs : List Int} {k : Int} {RA : List (List Int)} {RB : List Int} {c : Int} (h : IsRep A Bs k RA RB c) : tot RA ≤ 1000 ∧ RB.length ≤ 1000 := by
  obtain ⟨rfl, rfl, rfl⟩ := h
  unfold repR
  by_cases hc : repC A Bs k = 0
  · obtain ⟨ht, h1, h2, h3⟩ := repC_ok hc
    have hq := rep_sq (k := k) ht (k.toNat - 1)
    have hb := rep_bd (n := k.toNat - 1) h1 h3 (by omega)
    rw [if_pos hc]
    have ht2 := tot_le (n := 8) fun r hr => by rw [(hq.rows r hr).2]; exact hb
    rw [hq.la] at ht2
    rw [hq.lb]
    omega
  · rw [if_neg hc]
    simp [tot]

theorem OT.storeAt {w : World} {B C p : Nat} {v : Value} {A : List (List Int)} {Bs : List Int} {cs : Array Value} (h : OT w B C v A Bs) (hk : Blk w p 27 cs) (i : Nat) (u : Value) : OT (w.setCell ⟨p, i, none⟩ u) B C v A Bs := by
  obtain ⟨va, vb, vs, rfl, h1, h2, h3, h4, h5⟩ := h
  have hh : ∀ b, b ≠ p → (w.setCell ⟨p, i, none⟩ u).heap[b]? = w.heap[b]? := fun b hb => Below.heap_setCell w ⟨p, i, none⟩ u b hb
  refine ⟨va, vb, vs, rfl, h1.of_block fun b hb => hh b (fun e => h1.ne_blk hk (by decide) (e ▸ hb)), h2, ⟨h3.1, fun k u' zs hu hz => ?_, h3.2.2⟩, ⟨⟨h4.1.1.of_block fun b hb => hh b (fun e => h4.1.1.ne_blk hk (by decide) (e ▸ hb)), h4.1.2⟩, h4.2⟩, h5⟩
  have h6 := h3.2.1 k u' zs hu hz
  exact ⟨⟨h6.1.1.of_block fun b hb => hh b (fun e => h6.1.1.ne_blk hk (by decide) (e ▸ hb)), h6.1.2⟩, h6.2⟩
end Go.Proofs.Ytbjeibcombjfgaa

set_option linter.unusedVariables false
set_option linter.unusedSimpArgs false
namespace Go.Proofs.Ytbjeibcombjfgaa
open Go.RowKit

theorem invK {a : Int} (h0 : 0 < a) (h1 : a < 10007) : a * pw a 10005 % 10007 = 1 := by
  have h := inv_powI (a := a) (n := 1) h0 h1
  have e : pw a 1 = a := by
    show a ^ 1 % 10007 = a
    rw [Int.pow_succ, Int.pow_zero, Int.one_mul]
    omega
  rw [e, Int.pow_succ, Int.pow_zero, Int.one_mul] at h
  exact h
theorem repT_rp (A : List (List Int)) (B : List Int) : ∀ n, repT A B n = rpT A B n
  | 0 => rfl
  | n + 1 => by
    show (compA (repT A B n).1 (repT A B n).2 A B, (repT A B n).2 ++ B) = (jnT (rpT A B n).1 (rpT A B n).2 A B, (rpT A B n).2 ++ B)
    rw [repT_rp A B n]
    rfl
theorem tabB_sq {A : List (List Int)} {B : List Int} {s : Nat} (h : SqT A B s) (h1 : 1 ≤ s) (h8 : s ≤ 8) : tabB A B = true := by
  have hb := h.lb
  have ha := h.la
  simp only [tabB, Bool.and_eq_true, decide_eq_true_eq, List.all_eq_true, inR_iff]
  refine ⟨⟨⟨⟨by omega, by omega⟩, by omega⟩, nums_iff.2 h.ws⟩, fun r hr => ?_⟩
  unfold rowB
  rw [Bool.and_eq_true, decide_eq_true_eq, hb]
  exact ⟨(h.rows r hr).2, nums_iff.2 (h.rows r hr).1⟩
theorem repC_one {A : List (List Int)} {Bs : List Int} (h : tabB A Bs = true) : repC A Bs 1 = 0 := by
  have h8 := (isTab_of h).hi
  unfold repC
  rw [h, if_pos rfl, if_pos (show inR 1 1 8 = true by decide), if_pos (by omega)]
theorem rep_law {A : List (List Int)} {Bs : List Int} {k : Int} (h : repC A Bs k = 0) :
    tabC A Bs = 0 ∧ tabC (repR A Bs k).1 (repR A Bs k).2 = 0 ∧ ordR A Bs ≤ ordR (repR A Bs k).1 (repR A Bs k).2 ∧ repC A Bs 1 = 0 ∧ repR A Bs 1 = (A, Bs) ∧ ((repR A Bs k).2.length : Int) = k * (Bs.length : Int) ∧ 1 ≤ k ∧ k ≤ 8 ∧ Bs.length ≤ 8 := by
  obtain ⟨hb, hk1, hk8, hl⟩ := repC_ok h
  have hI := isTab_of hb
  have hS := SqT.of hI
  obtain ⟨n, rfl⟩ : ∃ n : Nat, k = ((n : Int) + 1) := ⟨(k - 1).toNat, by omega⟩
  have hn : ((n : Int) + 1).toNat - 1 = n := by omega
  have hR : repR A Bs ((n : Int) + 1) = rpT (sclT (repFac ((n : Int) + 1)) A) (scl (repFac ((n : Int) + 1)) Bs) n := by
    unfold repR
    rw [if_pos h, hn, repT_rp]
    rfl
  have hf : ((n : Int) + 1) * repFac ((n : Int) + 1) % 10007 = 1 := invK (by omega) (by omega)
  have hlen := rpT_len hS (repFac ((n : Int) + 1)) n
  have hq := (hS.scl (repFac ((n : Int) + 1))).rp n
  have hlo := hI.lo
  have h8 : (n + 1) * Bs.length ≤ 8 := by
    have e : (((n + 1) * Bs.length : Nat) : Int) = (Bs.length : Int) * ((n : Int) + 1) := by rw [Int.natCast_mul, Int.mul_comm]; rfl
    omega
  have h1 : 1 ≤ (n + 1) * Bs.length := Nat.le_trans (by omega) (Nat.mul_le_mul (show 1 ≤ n + 1 by omega) hlo)
  have ht := tabB_sq hq h1 h8
  rw [hR]
  refine ⟨by simp [tabC, hb], by simp [tabC, ht], ?_, repC_one hb, ?_, ?_, hk1, hk8, hI.hi⟩
  · unfold ordR
    rw [if_pos hb, if_pos ht]
    exact rpT_order hS hf
  · unfold repR
    rw [if_pos (repC_one hb), show (1 : Int).toNat - 1 = 0 by decide]
    have e : repFac 1 = 1 := pw_one 10005
    rw [e]
    obtain ⟨e1, e2⟩ := sclT_one hS
    show (sclT 1 A, scl 1 Bs) = (A, Bs)
    rw [e1, e2]
  · rw [hlen, Int.natCast_mul]
    rfl
end Go.Proofs.Ytbjeibcombjfgaa

set_option maxRecDepth 100000
set_option linter.unusedVariables false
set_option linter.unusedSimpArgs false
namespace Go.Proofs.Ytbjeibcombjfgaa
open Go.RowKit

/-- a literal of two lists -/
theorem rows_two {W : World} {u1 u2 : Value} {z1 z2 : List Int} (h1 : Ints W u1 z1) (h2 : Ints W u2 z2) : Rows (W.alloc (.cells #[u1, u2] tL)) (.slice (some ⟨W.heap.size, 0, none⟩) 2 2) [z1, z2] := by
  refine ⟨[u1, u2], (own_lit W tL [u1, u2] (by simp [maxLen])).cells, rfl, fun k u x hu hx => ?_⟩
  match k, hu, hx with
  | 0, hu, hx => simp at hu hx; subst hu; subst hx; exact h1.below (below1 _ _)
  | 1, hu, hx => simp at hu hx; subst hu; subst hx; exact h2.below (below1 _ _)
  | k + 2, hu, hx => simp at hu

set_option maxHeartbeats 4000000 in
theorem im_composed (w : World) (v v' : Value) (A1 A2 : List (List Int)) (B1 B2 : List Int) (ha : TabArg w v A1 B1) (hb : TabArg w v' A2 B2) (hT : NumTab A1 B1) (hT' : NumTab A2 B2) :
    Calls Try.prog 66 #[v, v'] w fun e w' => ∃ r, e = .returned r ∧ OT w' w.heap.size w'.heap.size r (compA A1 B1 A2 B2) (B1 ++ B2) ∧ Below w.heap.size w w' := by
  have HTY := Lib.hid hb
  obtain ⟨va, vb, rfl, hA, hB⟩ := ha
  obtain ⟨va', vb', rfl, hA', hB'⟩ := hb
  have HB := Lib.hid hB
  have HB' := Lib.hid hB'
  obtain ⟨Xa, xa, rfl, l1, l2, h3⟩ := hA.open_
  obtain ⟨Xb, xb, rfl, -, -, -⟩ := hB.open_
  obtain ⟨Ya, ya, rfl, m1, m2, g3⟩ := hA'.open_
  obtain ⟨Yb, yb, rfl, -, -, -⟩ := hB'.open_
  have H3 := Lib.hid h3
  have G3 := Lib.hid g3
  have hal := hT.la
  have hbl := hT.lb
  have hal' := hT'.la
  have hbl' := hT'.lb
  have HT := Lib.hid hT
  have HT' := Lib.hid hT'
  clear hA hB hA' hB' h3 g3 hT hT'
  have B0 := Lib.hid (below3 w (.cells #[.slice Xa A1.length xa, .slice Xb B1.length xb] 27) (.cells #[.slice Ya A2.length ya, .slice Yb B2.length yb] 27) (.cells #[.slice none 0 0, .slice none 0 0] 27))
  have HE1 := Lib.hid (show Env w (((w.alloc (.cells #[.slice Xa A1.length xa, .slice Xb B1.length xb] 27)).alloc (.cells #[.slice Ya A2.length ya, .slice Yb B2.length yb] 27)).alloc (.cells #[.slice none 0 0, .slice none 0 0] 27)) #[.slice Xa A1.length xa, .slice Xb B1.length xb] #[.slice Ya A2.length ya, .slice Yb B2.length yb] #[.slice none 0 0, .slice none 0 0] from ⟨((Blk.new w #[.slice Xa A1.length xa, .slice Xb B1.length xb] 27).alloc (.cells #[.slice Ya A2.length ya, .slice Yb B2.length yb] 27)).alloc (.cells #[.slice none 0 0, .slice none 0 0] 27), (Blk.new1 w (.cells #[.slice Xa A1.length xa, .slice Xb B1.length xb] 27) #[.slice Ya A2.length ya, .slice Yb B2.length yb] 27).alloc (.cells #[.slice none 0 0, .slice none 0 0] 27), Blk.new2 w (.cells #[.slice Xa A1.length xa, .slice Xb B1.length xb] 27) (.cells #[.slice Ya A2.length ya, .slice Yb B2.length yb] 27) #[.slice none 0 0, .slice none 0 0] 27, B0.out⟩)
  have HIN := Lib.hid (show ∀ z ∈ B1 ++ B2, In64 z from nums_in (fun z hz => by rcases List.mem_append.1 hz with h | h; exact HT.out.ws z h; exact HT'.out.ws z h))
  go_enter Try.func66, Try.ntmps66
  go_wp2_with fail
  have hs1 : (((w.alloc (.cells #[.slice Xa A1.length xa, .slice Xb B1.length xb] 27)).alloc (.cells #[.slice Ya A2.length ya, .slice Yb B2.length yb] 27)).alloc (.cells #[.slice none 0 0, .slice none 0 0] 27)).heap.size = w.heap.size + 1 + 1 + 1 := by simp
  generalize (((w.alloc (.cells #[.slice Xa A1.length xa, .slice Xb B1.length xb] 27)).alloc (.cells #[.slice Ya A2.length ya, .slice Yb B2.length yb] 27)).alloc (.cells #[.slice none 0 0, .slice none 0 0] 27)) = w1 at B0 HE1 hs1 ⊢
  rw [← hs1]
  clear hs1
  have hlt1 : w.heap.size + 1 + 1 < w1.heap.size := HE1.out.k2.lt
  refine (lib_ConcatI _ _ [B1, B2] (rows_two (HB.out.below B0.out) (HB'.out.below B0.out)) (by simp; omega)).mono ?_
  rintro e w5 ⟨v5, rfl, ho5, hb5⟩
  rw [show [B1, B2].flatten = B1 ++ B2 from by simp] at ho5
  obtain ⟨A6, c6, hv6, -, -, -⟩ := ho5.ints.open_
  rw [List.length_append] at hv6
  subst hv6
  have HB5 := Lib.hid (show Below w1.heap.size w1 w5 from (below1 w1 _).trans (hb5.mono (by simp)))
  have hpp : w.heap.size + 1 + 1 < w5.heap.size := Nat.lt_of_lt_of_le hlt1 HB5.out.size
  have HF := Lib.hid (show FillT w (w5.alloc (.cells #[.slice none 0 0, (.slice A6 (B1.length + B2.length) c6)] 27)) w5.heap.size (.slice none 0 0) (.slice A6 (B1.length + B2.length) c6) [] [] (B1 ++ B2) from ⟨⟨Own.nil _ _ _, RowsOwn.nil _ _ _ _, (ho5.mono (by simp; omega)).below (below1 _ _), fun k u hu => by simp at hu⟩, Blk.new _ _ _, by omega, (B0.out.trans (HB5.out.mono B0.out.size)).alloc (by omega) _⟩)
  have HE := Lib.hid ((HE1.out.step HB5.out).step (below1 w5 (.cells #[.slice none 0 0, (.slice A6 (B1.length + B2.length) c6)] 27)))
  have q0 : (w5.alloc (.cells #[.slice none 0 0, (.slice A6 (B1.length + B2.length) c6)] 27)).cell? ⟨w.heap.size, 0, none⟩ = some (.slice Xa A1.length xa) := HE.out.k0.cell 0
  clear ho5 hb5
  go_wp2_with fail
  clear q0
  generalize (w5.alloc (.cells #[.slice none 0 0, (.slice A6 (B1.length + B2.length) c6)] 27)) = w4 at HF HE ⊢
  generalize w5.heap.size = p at HF HE hpp ⊢
  go_loopw [20] (fun i wr => ∃ (j : Nat) (va : Value) (vs : List Value), j ≤ A1.length ∧ i = .int .i64 j ∧ FillT w wr p va (.slice A6 (B1.length + B2.length) c6) vs ((A1.take j).map (padR B2.length)) (B1 ++ B2) ∧ Env w wr #[.slice Xa A1.length xa, .slice Xb B1.length xb] #[.slice Ya A2.length ya, .slice Yb B2.length yb] #[.slice none 0 0, .slice none 0 0]) (fun i _ => A1.length - (intOf i).toNat)
  case atStart => exact ⟨0, _, [], Nat.zero_le _, rfl, HF.out, HE.out⟩
  case round =>
    obtain ⟨j, va, vs, hj, rfl, hfill, henv⟩ := hrel
    clear HF HE
    have HF := Lib.hid hfill
    have HE := Lib.hid henv
    clear hfill henv
    by_cases hlt : j < A1.length
    · obtain ⟨ad, u, zs, rfl, hz, hu, hc0⟩ := H3.out j hlt
      obtain ⟨A5, c5, rfl, p1, p2, -⟩ := hu.open_
      have HU := Lib.hid (hu.below HE.out.below)
      have hzl := (HT.out.rows zs (List.mem_of_getElem? hz)).2
      have HZI := Lib.hid (show ∀ z ∈ padR B2.length zs, In64 z from nums_in (fun z h => by rcases List.mem_append.1 h with h | h; exact (HT.out.rows zs (List.mem_of_getElem? hz)).1 z h; have := (List.mem_replicate.1 h).2; omega))
      have HS := Lib.hid (show (A1.take (j + 1)).map (padR B2.length) = (A1.take j).map (padR B2.length) ++ [padR B2.length zs] by rw [List.take_add_one, hz]; simp)
      have hvl : vs.length ≤ 1000 := by have := HF.out.two.rows.1; rw [List.length_map, List.length_take] at this; omega
      have hcz : wr.cell? (ad.add j) = some (.slice A5 zs.length c5) := by
        rw [HE.out.below.cell (by rw [block_add]; have := World.block_lt_of_cell? w _ hc0; rwa [block_add] at this)]; exact hc0
      clear hz hu hc0
      have HSE := Lib.hid (show ∀ W : World, Env w W #[.slice (some ad) A1.length xa, .slice Xb B1.length xb] #[.slice Ya A2.length ya, .slice Yb B2.length yb] #[.slice none 0 0, .slice none 0 0] → W.cell? ⟨w.heap.size + 1, 0, none⟩ = some (.slice Ya A2.length ya) ∧ W.cell? ⟨w.heap.size + 1, 1, none⟩ = some (.slice Yb B2.length yb) from fun W hW => ⟨hW.k1.cell 0, hW.k1.cell 1⟩)
      go_wp2_with fail
      refine AnyT.begin (k := 11) (S := fun b w' => (w'.cell? ⟨w.heap.size + 1, 0, none⟩ = some (.slice Ya A2.length ya) ∧ w'.cell? ⟨w.heap.size + 1, 1, none⟩ = some (.slice Yb B2.length yb)) ∧ (b = false → w'.cell? ⟨p, 0, none⟩ = some va)) (by kernel_rfl) ?_
      have hS : (fun (b : Bool) (w' : World) => (w'.cell? ⟨w.heap.size + 1, 0, none⟩ = some (.slice Ya A2.length ya) ∧ w'.cell? ⟨w.heap.size + 1, 1, none⟩ = some (.slice Yb B2.length yb)) ∧ (b = false → w'.cell? ⟨p, 0, none⟩ = some va)) false wr.drew := ⟨HSE.out wr HE.out, fun _ => HF.out.blk.cell 0⟩
      refine AnyT.take0 (i := 0) (v := ?_) rfl (by kernel_rfl) (by kernel_rfl) (by kernel_rfl) (by decide) (fun _ _ _ h => h) hS (Or.inl ⟨by first | kernel_rfl | rfl, ?_⟩) ?_
      rotate_left
      · rintro w' ⟨b, hw'⟩; obtain ⟨hw1, -⟩ := hw'; (try (obtain ⟨hw1, hw2⟩ := hw1)); (try (obtain ⟨hw2, hw3⟩ := hw2)); (try (obtain ⟨hw3, hw4⟩ := hw3)); go_simp; try with_reducible rfl
      try simp only [Act.put, List.setIfInBounds_toArray, List.set_cons_zero, List.set_cons_succ]
      refine AnyT.take1 (i := 1) (v := ?_) rfl (by kernel_rfl) (by kernel_rfl) (by kernel_rfl) (by decide) (by kernel_rfl) rfl (fun _ _ _ h => h) hS (Or.inl ⟨by first | kernel_rfl | rfl, ?_⟩) ?_
      rotate_left
      · intro w' hw'; have hw3 := hw'.2 rfl; go_simp; try with_reducible rfl
      try simp only [Act.put, List.setIfInBounds_toArray, List.set_cons_zero, List.set_cons_succ]
      refine AnyT.take0 (i := 2) (v := ?_) rfl (by kernel_rfl) (by kernel_rfl) (by kernel_rfl) (by decide) (fun _ _ _ h => h) hS (Or.inl ⟨by first | kernel_rfl | rfl, ?_⟩) ?_
      rotate_left
      · rintro w' ⟨b, hw'⟩; obtain ⟨hw1, -⟩ := hw'; (try (obtain ⟨hw1, hw2⟩ := hw1)); (try (obtain ⟨hw2, hw3⟩ := hw2)); (try (obtain ⟨hw3, hw4⟩ := hw3)); go_simp; try with_reducible rfl
      try simp only [Act.put, List.setIfInBounds_toArray, List.set_cons_zero, List.set_cons_succ]
      refine AnyT.take0 (i := 3) (v := ?_) rfl (by kernel_rfl) (by kernel_rfl) (by kernel_rfl) (by decide) (fun _ _ _ h => h) hS (Or.inl ⟨by first | kernel_rfl | rfl, ?_⟩) ?_
      rotate_left
      · rintro w' ⟨b, hw'⟩; obtain ⟨hw1, -⟩ := hw'; (try (obtain ⟨hw1, hw2⟩ := hw1)); (try (obtain ⟨hw2, hw3⟩ := hw2)); (try (obtain ⟨hw3, hw4⟩ := hw3)); go_simp; try with_reducible rfl
      try simp only [Act.put, List.setIfInBounds_toArray, List.set_cons_zero, List.set_cons_succ]
      refine AnyT.go (rs := [4]) (by kernel_rfl) (by simp) ?_
      refine AllT.cons rfl (fun K hK => ?_) AllT.nil
      go_simp
      refine (im_stages _ _ A2 B2 (by exact HTY.out.below HE.out.below.drew)).mono ?_
      rintro e w2 ⟨rfl, hb2w⟩
      have hb2 : Below wr.heap.size wr w2 := below_of_drew hb2w
      refine hK.out _ _ ⟨HSE.out _ (HE.out.step hb2), fun _ => (HF.out.step hb2).blk.cell 0⟩ (fun hS => ?_)
      clear hK
      try simp only [Act.put, List.setIfInBounds_toArray, List.set_cons_zero, List.set_cons_succ]
      refine AnyT.go (rs := [5]) (by kernel_rfl) (by simp) ?_
      refine AllT.cons rfl (fun K hK => ?_) AllT.nil
      refine step_mk T_int B2.length (by omega) (W := w2) (by rfl) (by rfl) (by rfl) (by rfl) ?_
      intro w3 hown3 hb3w hlt3
      have hb3 : Below wr.heap.size wr w3 := hb2.trans (hb3w.mono hb2.size)
      have ho3 : OwnInts w3 w2.heap.size tI (.slice (some ⟨w2.heap.size, 0, none⟩) B2.length B2.length) (List.replicate B2.length 0) := ⟨by simpa [ints] using hown3, fun z h => by have := (List.mem_replicate.1 h).2; subst this; unfold In64; omega⟩
      refine hK.out _ _ ⟨HSE.out _ (HE.out.step hb3), fun _ => (HF.out.step hb3).blk.cell 0⟩ (fun hS => ?_)
      clear hK
      try simp only [Act.put, List.setIfInBounds_toArray, List.set_cons_zero, List.set_cons_succ]
      refine AnyT.go (rs := [6]) (by kernel_rfl) (by simp) ?_
      refine AllT.cons rfl (fun K hK => ?_) AllT.nil
      go_simp
      have hb4 : Below wr.heap.size wr (w3.alloc (.cells #[.slice A5 zs.length c5, .slice (some ⟨w2.heap.size, 0, none⟩) B2.length B2.length] tL)) := hb3.alloc hb3.size _
      refine hK.out _ _ ⟨HSE.out _ (HE.out.step hb4), fun _ => (HF.out.step hb4).blk.cell 0⟩ (fun hS => ?_)
      clear hK
      try simp only [Act.put, List.setIfInBounds_toArray, List.set_cons_zero, List.set_cons_succ]
      refine AnyT.go (rs := [7]) (by kernel_rfl) (by simp) ?_
      refine AllT.cons rfl (fun K hK => ?_) AllT.nil
      go_simp
      refine (lib_ConcatI _ _ [zs, List.replicate B2.length 0] (by exact rows_two (HU.out.below hb3) ho3.ints) (by simp; omega)).mono ?_
      rintro e w7 ⟨v7, rfl, ho7w, hb7w⟩
      have hb7 : Below wr.heap.size wr w7 := hb4.trans (hb7w.mono hb4.size)
      have ho7 : OwnInts w7 wr.heap.size tI v7 (padR B2.length zs) := by have h := ho7w.mono hb4.size; rwa [show [zs, List.replicate B2.length 0].flatten = padR B2.length zs from by simp [padR]] at h
      have F7 := HF.out.step hb7
      have E7 := HE.out.step hb7
      clear hown3 hb3w ho7w hb7w hb2w
      obtain ⟨A7, c7, hv7, -, -, -⟩ := ho7.ints.open_
      rw [show (padR B2.length zs).length = zs.length + B2.length from by simp [padR]] at hv7
      subst hv7
      refine hK.out _ _ ⟨HSE.out _ E7, fun _ => F7.blk.cell 0⟩ (fun hS => ?_)
      clear hK
      try simp only [Act.put, List.setIfInBounds_toArray, List.set_cons_zero, List.set_cons_succ]
      refine AnyT.go (rs := [8]) (by kernel_rfl) (by simp) ?_
      refine AllT.cons rfl (fun K hK => ?_) AllT.nil
      go_simp
      have hb8 : Below wr.heap.size wr (w7.alloc (.cells #[.slice A7 (zs.length + B2.length) c7] tL)) := hb7.alloc hb7.size _
      have F8 := HF.out.step hb8
      have E8 := HE.out.step hb8
      refine hK.out _ _ ⟨HSE.out _ E8, fun _ => F8.blk.cell 0⟩ (fun hS => ?_)
      clear hK
      try simp only [Act.put, List.setIfInBounds_toArray, List.set_cons_zero, List.set_cons_succ]
      refine AnyT.go (rs := [9]) (by kernel_rfl) (by simp) ?_
      refine AllT.cons rfl (fun K hK => ?_) AllT.nil
      refine step_app1g T_row (B := w.heap.size + 1) (v := va) (vs := vs) (W := w7.alloc (.cells #[.slice A7 (zs.length + B2.length) c7] tL)) (u := .slice A7 (zs.length + B2.length) c7) (ad := ⟨w7.heap.size, 0, none⟩) F8.two.own (by omega) (by have := F8.blk.lt; have := F8.ge; omega) (by rfl) rfl (by rfl) (by rfl) (by rfl) ((Blk.new w7 _ _).cell 0) ?_
      intro v9 w9 hown9 hgr9
      obtain ⟨A9, c9, hv9, -, -⟩ := hown9.cells.open_
      rw [show (vs ++ [Value.slice A7 (zs.length + B2.length) c7]).length = vs.length + 1 from by simp] at hv9
      subst hv9
      have F9 := Lib.hid (HF.out.next hb8 (ho7.below (below1 _ _)) hown9 hgr9)
      have E9 := E8.grow F8.two.own (by decide) (by omega) hgr9
      have KP := F8.blk.grow hgr9 F8.npA
      have e0 : w9.cell? ⟨p, 0, none⟩ = some va := KP.cell 0
      have e2 : w9.frozen? ⟨p, 0, none⟩ = false := KP.frozen 0
      refine hK.out _ _ ⟨HSE.out _ E9, fun _ => e0⟩ (fun hS => ?_)
      clear hK
      try simp only [Act.put, List.setIfInBounds_toArray, List.set_cons_zero, List.set_cons_succ]
      refine AnyT.take0 (i := 10) (v := ?_) rfl (by kernel_rfl) (by kernel_rfl) (by kernel_rfl) (by decide) (fun _ _ _ h => h) hS (Or.inl ⟨by first | kernel_rfl | rfl, ?_⟩) ?_
      rotate_left
      · rintro w' ⟨b, hw'⟩; obtain ⟨hw1, -⟩ := hw'; (try (obtain ⟨hw1, hw2⟩ := hw1)); (try (obtain ⟨hw2, hw3⟩ := hw2)); (try (obtain ⟨hw3, hw4⟩ := hw3)); go_simp; try with_reducible rfl
      try simp only [Act.put, List.setIfInBounds_toArray, List.set_cons_zero, List.set_cons_succ]
      refine AnyT.go (rs := [11]) (by kernel_rfl) (by simp) ?_
      refine AllT.cons rfl (fun K hK => ?_) AllT.nil
      go_simp
      have E10 := Lib.hid (E9.store hpp 0 (.slice A9 (vs.length + 1) c9))
      refine hK.out _ _ ⟨HSE.out _ E10.out, fun h => Bool.noConfusion (show true = false from h)⟩ (fun hS => ?_)
      clear hK
      refine AnyT.done (by kernel_rfl) ?_ _
      clear hS hown9 hgr9 F7 E7 F8 E8 E9 hb7 hb8 ho7 KP e0 e2 hcz
      go_wp2_with fail
      go_roundw
      case rel =>
        refine ⟨j + 1, .slice A9 (vs.length + 1) c9, vs ++ [.slice A7 (zs.length + B2.length) c7], by omega, by go_num, ?_, E10.out⟩
        rw [HS.out]
        exact F9.out
      case measure => simp [intOf]; omega
    · have : j = A1.length := by omega
      subst this
      rw [List.take_length] at HF
      have q1 : wr.cell? ⟨w.heap.size + 1, 0, none⟩ = some (.slice Ya A2.length ya) := HE.out.k1.cell 0
      go_wp2_with fail
      clear q1
      obtain ⟨wa, rfl⟩ : ∃ wa : World, wa = wr := ⟨_, rfl⟩
      go_loopw [39] (fun i wr => ∃ (j : Nat) (va : Value) (vs : List Value), j ≤ A2.length ∧ i = .int .i64 j ∧ FillT w wr p va (.slice A6 (B1.length + B2.length) c6) vs (A1.map (padR B2.length) ++ (A2.take j).map (B1 ++ ·)) (B1 ++ B2) ∧ Env w wr #[.slice Xa A1.length xa, .slice Xb B1.length xb] #[.slice Ya A2.length ya, .slice Yb B2.length yb] #[.slice none 0 0, .slice none 0 0]) (fun i _ => A2.length - (intOf i).toNat)
      case atStart => exact ⟨0, _, vs, Nat.zero_le _, rfl, by simpa using HF.out, HE.out⟩
      case round =>
        obtain ⟨j, va, vs, hj, rfl, hfill, henv⟩ := hrel
        clear HF HE
        have HF := Lib.hid hfill
        have HE := Lib.hid henv
        clear hfill henv
        by_cases hlt2 : j < A2.length
        · obtain ⟨ad, u, zs, rfl, hz, hu, hc0⟩ := G3.out j hlt2
          obtain ⟨A5, c5, rfl, p1, p2, -⟩ := hu.open_
          have HU := Lib.hid (hu.below HE.out.below)
          have hzl := (HT'.out.rows zs (List.mem_of_getElem? hz)).2
          have HZI := Lib.hid (show ∀ z ∈ B1 ++ zs, In64 z from nums_in (fun z h => by rcases List.mem_append.1 h with h | h; exact HT.out.ws z h; exact (HT'.out.rows zs (List.mem_of_getElem? hz)).1 z h))
          have HS := Lib.hid (show A1.map (padR B2.length) ++ (A2.take (j + 1)).map (B1 ++ ·) = A1.map (padR B2.length) ++ (A2.take j).map (B1 ++ ·) ++ [B1 ++ zs] by rw [List.take_add_one, hz]; simp)
          have hvl : vs.length ≤ 2000 := by have := HF.out.two.rows.1; rw [List.length_append, List.length_map, List.length_map, List.length_take] at this; omega
          have hcz : wr.cell? (ad.add j) = some (.slice A5 zs.length c5) := by
            rw [HE.out.below.cell (by rw [block_add]; have := World.block_lt_of_cell? w _ hc0; rwa [block_add] at this)]; exact hc0
          clear hz hu hc0
          have HSE := Lib.hid (show ∀ W : World, Env w W #[.slice Xa A1.length xa, .slice Xb B1.length xb] #[.slice (some ad) A2.length ya, .slice Yb B2.length yb] #[.slice none 0 0, .slice none 0 0] → W.cell? ⟨w.heap.size, 1, none⟩ = some (.slice Xb B1.length xb) from fun W hW => hW.k0.cell 1)
          go_wp2_with fail
          refine AnyT.begin (k := 10) (S := fun b w' => (w'.cell? ⟨w.heap.size, 1, none⟩ = some (.slice Xb B1.length xb)) ∧ (b = false → w'.cell? ⟨p, 0, none⟩ = some va)) (by kernel_rfl) ?_
          have hS : (fun (b : Bool) (w' : World) => (w'.cell? ⟨w.heap.size, 1, none⟩ = some (.slice Xb B1.length xb)) ∧ (b = false → w'.cell? ⟨p, 0, none⟩ = some va)) false wr.drew := ⟨HSE.out wr HE.out, fun _ => HF.out.blk.cell 0⟩
          refine AnyT.take0 (i := 0) (v := ?_) rfl (by kernel_rfl) (by kernel_rfl) (by kernel_rfl) (by decide) (fun _ _ _ h => h) hS (Or.inl ⟨by first | kernel_rfl | rfl, ?_⟩) ?_
          rotate_left
          · rintro w' ⟨b, hw'⟩; obtain ⟨hw1, -⟩ := hw'; (try (obtain ⟨hw1, hw2⟩ := hw1)); (try (obtain ⟨hw2, hw3⟩ := hw2)); (try (obtain ⟨hw3, hw4⟩ := hw3)); go_simp; try with_reducible rfl
          try simp only [Act.put, List.setIfInBounds_toArray, List.set_cons_zero, List.set_cons_succ]
          refine AnyT.take1 (i := 1) (v := ?_) rfl (by kernel_rfl) (by kernel_rfl) (by kernel_rfl) (by decide) (by kernel_rfl) rfl (fun _ _ _ h => h) hS (Or.inl ⟨by first | kernel_rfl | rfl, ?_⟩) ?_
          rotate_left
          · intro w' hw'; have hw3 := hw'.2 rfl; go_simp; try with_reducible rfl
          try simp only [Act.put, List.setIfInBounds_toArray, List.set_cons_zero, List.set_cons_succ]
          refine AnyT.take0 (i := 2) (v := ?_) rfl (by kernel_rfl) (by kernel_rfl) (by kernel_rfl) (by decide) (fun _ _ _ h => h) hS (Or.inl ⟨by first | kernel_rfl | rfl, ?_⟩) ?_
          rotate_left
          · rintro w' ⟨b, hw'⟩; obtain ⟨hw1, -⟩ := hw'; (try (obtain ⟨hw1, hw2⟩ := hw1)); (try (obtain ⟨hw2, hw3⟩ := hw2)); (try (obtain ⟨hw3, hw4⟩ := hw3)); go_simp; try with_reducible rfl
          try simp only [Act.put, List.setIfInBounds_toArray, List.set_cons_zero, List.set_cons_succ]
          refine AnyT.take0 (i := 3) (v := ?_) rfl (by kernel_rfl) (by kernel_rfl) (by kernel_rfl) (by decide) (fun _ _ _ h => h) hS (Or.inl ⟨by first | kernel_rfl | rfl, ?_⟩) ?_
          rotate_left
          · rintro w' ⟨b, hw'⟩; obtain ⟨hw1, -⟩ := hw'; (try (obtain ⟨hw1, hw2⟩ := hw1)); (try (obtain ⟨hw2, hw3⟩ := hw2)); (try (obtain ⟨hw3, hw4⟩ := hw3)); go_simp; try with_reducible rfl
          try simp only [Act.put, List.setIfInBounds_toArray, List.set_cons_zero, List.set_cons_succ]
          refine AnyT.take0 (i := 4) (v := ?_) rfl (by kernel_rfl) (by kernel_rfl) (by kernel_rfl) (by decide) (fun _ _ _ h => h) hS (Or.inl ⟨by first | kernel_rfl | rfl, ?_⟩) ?_
          rotate_left
          · rintro w' ⟨b, hw'⟩; obtain ⟨hw1, -⟩ := hw'; (try (obtain ⟨hw1, hw2⟩ := hw1)); (try (obtain ⟨hw2, hw3⟩ := hw2)); (try (obtain ⟨hw3, hw4⟩ := hw3)); go_simp; try with_reducible rfl
          try simp only [Act.put, List.setIfInBounds_toArray, List.set_cons_zero, List.set_cons_succ]
          refine AnyT.go (rs := [5]) (by kernel_rfl) (by simp) ?_
          refine AllT.cons rfl (fun K hK => ?_) AllT.nil
          go_simp
          have hb4 : Below wr.heap.size wr (wr.drew.alloc (.cells #[.slice Xb B1.length xb, .slice A5 zs.length c5] tL)) := (Below.refl wr.heap.size wr).drew.alloc (Nat.le_refl _) _
          refine hK.out _ _ ⟨HSE.out _ (HE.out.step hb4), fun _ => (HF.out.step hb4).blk.cell 0⟩ (fun hS => ?_)
          clear hK
          try simp only [Act.put, List.setIfInBounds_toArray, List.set_cons_zero, List.set_cons_succ]
          refine AnyT.go (rs := [6]) (by kernel_rfl) (by simp) ?_
          refine AllT.cons rfl (fun K hK => ?_) AllT.nil
          go_simp
          refine (lib_ConcatI _ _ [B1, zs] (by exact rows_two (W := wr.drew) (HB.out.below HE.out.below.drew) HU.out) (by simp; omega)).mono ?_
          rintro e w7 ⟨v7, rfl, ho7w, hb7w⟩
          have hb7 : Below wr.heap.size wr w7 := hb4.trans (hb7w.mono hb4.size)
          have ho7 : OwnInts w7 wr.heap.size tI v7 (B1 ++ zs) := by have h := ho7w.mono hb4.size; rwa [show [B1, zs].flatten = B1 ++ zs from by simp] at h
          have F7 := HF.out.step hb7
          have E7 := HE.out.step hb7
          clear ho7w hb7w
          obtain ⟨A7, c7, hv7, -, -, -⟩ := ho7.ints.open_
          rw [List.length_append] at hv7
          subst hv7
          refine hK.out _ _ ⟨HSE.out _ E7, fun _ => F7.blk.cell 0⟩ (fun hS => ?_)
          clear hK
          try simp only [Act.put, List.setIfInBounds_toArray, List.set_cons_zero, List.set_cons_succ]
          refine AnyT.go (rs := [7]) (by kernel_rfl) (by simp) ?_
          refine AllT.cons rfl (fun K hK => ?_) AllT.nil
          go_simp
          have hb8 : Below wr.heap.size wr (w7.alloc (.cells #[.slice A7 (B1.length + zs.length) c7] tL)) := hb7.alloc hb7.size _
          have F8 := HF.out.step hb8
          have E8 := HE.out.step hb8
          refine hK.out _ _ ⟨HSE.out _ E8, fun _ => F8.blk.cell 0⟩ (fun hS => ?_)
          clear hK
          try simp only [Act.put, List.setIfInBounds_toArray, List.set_cons_zero, List.set_cons_succ]
          refine AnyT.go (rs := [8]) (by kernel_rfl) (by simp) ?_
          refine AllT.cons rfl (fun K hK => ?_) AllT.nil
          refine step_app1g T_row (B := w.heap.size + 1) (v := va) (vs := vs) (W := w7.alloc (.cells #[.slice A7 (B1.length + zs.length) c7] tL)) (u := .slice A7 (B1.length + zs.length) c7) (ad := ⟨w7.heap.size, 0, none⟩) F8.two.own (by omega) (by have := F8.blk.lt; have := F8.ge; omega) (by rfl) rfl (by rfl) (by rfl) (by rfl) ((Blk.new w7 _ _).cell 0) ?_
          intro v9 w9 hown9 hgr9
          obtain ⟨A9, c9, hv9, -, -⟩ := hown9.cells.open_
          rw [show (vs ++ [Value.slice A7 (B1.length + zs.length) c7]).length = vs.length + 1 from by simp] at hv9
          subst hv9
          have F9 := Lib.hid (HF.out.next hb8 (ho7.below (below1 _ _)) hown9 hgr9)
          have E9 := E8.grow F8.two.own (by decide) (by omega) hgr9
          have KP := F8.blk.grow hgr9 F8.npA
          have e0 : w9.cell? ⟨p, 0, none⟩ = some va := KP.cell 0
          have e2 : w9.frozen? ⟨p, 0, none⟩ = false := KP.frozen 0
          refine hK.out _ _ ⟨HSE.out _ E9, fun _ => e0⟩ (fun hS => ?_)
          clear hK
          try simp only [Act.put, List.setIfInBounds_toArray, List.set_cons_zero, List.set_cons_succ]
          refine AnyT.take0 (i := 9) (v := ?_) rfl (by kernel_rfl) (by kernel_rfl) (by kernel_rfl) (by decide) (fun _ _ _ h => h) hS (Or.inl ⟨by first | kernel_rfl | rfl, ?_⟩) ?_
          rotate_left
          · rintro w' ⟨b, hw'⟩; obtain ⟨hw1, -⟩ := hw'; (try (obtain ⟨hw1, hw2⟩ := hw1)); (try (obtain ⟨hw2, hw3⟩ := hw2)); (try (obtain ⟨hw3, hw4⟩ := hw3)); go_simp; try with_reducible rfl
          try simp only [Act.put, List.setIfInBounds_toArray, List.set_cons_zero, List.set_cons_succ]
          refine AnyT.go (rs := [10]) (by kernel_rfl) (by simp) ?_
          refine AllT.cons rfl (fun K hK => ?_) AllT.nil
          go_simp
          have E10 := Lib.hid (E9.store hpp 0 (.slice A9 (vs.length + 1) c9))
          refine hK.out _ _ ⟨HSE.out _ E10.out, fun h => Bool.noConfusion (show true = false from h)⟩ (fun hS => ?_)
          clear hK
          refine AnyT.done (by kernel_rfl) ?_ _
          clear hS hown9 hgr9 F7 E7 F8 E8 E9 hb7 hb8 ho7 KP e0 e2 hcz
          go_wp2_with fail
          go_roundw
          case rel =>
            refine ⟨j + 1, .slice A9 (vs.length + 1) c9, vs ++ [.slice A7 (B1.length + zs.length) c7], by omega, by go_num, ?_, E10.out⟩
            rw [HS.out]
            exact F9.out
          case measure => simp [intOf]; omega
        · have : j = A2.length := by omega
          subst this
          rw [List.take_length] at HF
          obtain ⟨A7, c7, hv7, -, -⟩ := HF.out.two.own.cells.open_
          have hvl : vs.length = A1.length + A2.length := by have := HF.out.two.rows.1; simpa using this
          rw [hvl] at hv7
          subst hv7
          have e0 : wr.cell? ⟨p, 0, none⟩ = some (.slice A7 (A1.length + A2.length) c7) := HF.out.blk.cell 0
          have e1 : wr.cell? ⟨p, 1, none⟩ = some (.slice A6 (B1.length + B2.length) c6) := HF.out.blk.cell 1
          have f0 : wr.cell? ⟨w.heap.size + 1 + 1, 0, none⟩ = some (.slice none 0 0) := HE.out.k2.cell 0
          have f1 : wr.cell? ⟨w.heap.size + 1 + 1, 1, none⟩ = some (.slice none 0 0) := HE.out.k2.cell 1
          have f2 := HE.out.k2.frozen 0
          have f3 := HE.out.k2.frozen 1
          have HTW := Lib.hid ((HF.out.two.storeAt HE.out.k2 (by decide) (by decide) 0 (.slice A7 (A1.length + A2.length) c7)).storeAt (HE.out.k2.set_ 0 (.slice A7 (A1.length + A2.length) c7)) (by decide) (by decide) 1 (.slice A6 (B1.length + B2.length) c6))
          have HBE := Lib.hid (HE.out.below)
          clear hvl
          go_wp2_with fail
          refine bodyPost_ret (v := .agg #[.slice A7 (A1.length + A2.length) c7, (.slice A6 (B1.length + B2.length) c6)]) (by simp [results, Try.results66, go_sem, f0, f1]) rfl ⟨_, rfl, HTW.out.tab.mono (by omega) (Nat.le_refl _), (HBE.out.setCell (p := ⟨w.heap.size + 1 + 1, 0, none⟩) (by show _ ≤ w.heap.size + 1 + 1; omega) _).setCell (p := ⟨w.heap.size + 1 + 1, 1, none⟩) (by show _ ≤ w.heap.size + 1 + 1; omega) _⟩
end Go.Proofs.Ytbjeibcombjfgaa

