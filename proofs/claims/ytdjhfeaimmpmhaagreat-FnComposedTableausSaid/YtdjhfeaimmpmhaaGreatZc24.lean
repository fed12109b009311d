/- Walks: is it a tableau (the program's and the reference's test). |  | Walks: IsSymmetric of the program and of the reference. | A tableau is a tableau of numbers; the empty tableau. No program in sight. | The polynomials of collocation, plain. No program in sight. | Repeating a tableau, plain; an owned tableau beside a store. No program in sight. | Plain: the branches of the trees of maps as the walks meet them, with their places; stage weights as lists. No walk. | Walks of the library's Grow, Concat at lists of numbers. -/
import Derived.Test.YtdjhfeaimmpmhaaGreatRows
import Derived.Test.YtdjhfeaimmpmhaaGreatZc3
import Derived.Test.YtdjhfeaimmpmhaaGreatZc1
import Derived.Test.YtdjhfeaimmpmhaaGreatZc4
import Derived.Test.YtdjhfeaimmpmhaaGreatZc6
import Derived.WalkLawsBesides
import Derived.BigGuardPart
import Derived.Deep.QuietTactic
import Derived.BigQuiet
import Derived.Test.YtdjhfeaimmpmhaaGreatZc21
import Derived.Test.YtdjhfeaimmpmhaaGreatZc19
import Derived.Test.YtdjhfeaimmpmhaaGreatZc23
import Derived.Test.YtdjhfeaimmpmhaaGreatZc20
import Derived.Lib.AppendZeros
set_option linter.unusedVariables false
set_option linter.unusedSimpArgs false
namespace Go.Proofs.YtdjhfeaimmpmhaaGreat
open Go.RowKit

def rowB (n : Nat) (row : List Int) : Bool := decide (row.length = n) && nums row
def tabB (A : List (List Int)) (Bs : List Int) : Bool := inR Bs.length 1 8 && decide (A.length = Bs.length) && nums Bs && A.all (rowB Bs.length)

set_option maxHeartbeats 400000 in
theorem lib_IndexFuncR (w : World) (v : Value) (xss : List (List Int)) (g : Nat) (c0 : Value) (p : List Int → Bool) (ha : Rows w v xss)
    (hcf : ∀ (args : Array Value) (w : World), Sem.run Tryz.prog (callFunc g args) w = .ok (.enter g args) w)
    (hp : ∀ (u : Value) (zs : List Int), Ints w u zs → Calls Tryz.prog g #[u, c0] w fun e w' => e = .returned (.bool (p zs)) ∧ w = w') :
    Calls Tryz.prog 196 #[v, .func (.func g) #[] #[c0]] w fun e w' => e = .returned (.int .i64 (idxF p xss)) ∧ w = w' := by
  obtain ⟨A, c, rfl, h1, h2, h3⟩ := ha.open_
  clear ha
  have H3 := Lib.hid h3
  have HP := Lib.hid hp
  clear h3 hp
  go_enter Tryz.func196, Tryz.ntmps196
  go_wp2_with fail
  go_loop [8] (fun i => ∃ k : Nat, k ≤ xss.length ∧ i = .int .i64 k ∧ Hid (∀ i y, i < k → xss[i]? = some y → p y = false)) (fun i => xss.length - (intOf i).toNat)
  case atStart => exact ⟨0, Nat.zero_le _, rfl, fun i y h => by omega⟩
  case round =>
    obtain ⟨k, hk, rfl, hI⟩ := hrel
    by_cases hlt : k < xss.length
    · obtain ⟨ad, u, zs, rfl, hz, hu, hc⟩ := H3.out k hlt
      have HZ := Lib.hid hz
      have HU := Lib.hid hu
      clear hz hu
      go_wp2_with fail
      refine (HP.out u zs HU.out).mono ?_
      rintro e w' ⟨rfl, rfl⟩
      go_wp2_with fail
      · have hpz : p zs = true := by assumption
        go_ret
        exact ⟨ret_int (idxF_hit hI.out HZ.out hpz).symm, rfl⟩
      · have hpz : p zs = false := by assumption
        go_round
        case rel =>
          refine ⟨k + 1, by omega, by go_num, fun i y hi hy => ?_⟩
          by_cases e : i = k
          · subst e
            rw [HZ.out] at hy
            cases hy
            exact hpz
          · exact hI.out i y (by omega) hy
        case measure => simp [intOf]; omega
    · have : k = xss.length := by omega
      subst this
      go_wp2_with fail
      go_ret
      exact ⟨ret_int (idxF_miss hI.out).symm, rfl⟩

set_option maxHeartbeats 400000 in
theorem lib_ContainsFuncR (w : World) (v : Value) (xss : List (List Int)) (g : Nat) (c0 : Value) (p : List Int → Bool) (ha : Rows w v xss)
    (hcf : ∀ (args : Array Value) (w : World), Sem.run Tryz.prog (callFunc g args) w = .ok (.enter g args) w)
    (hp : ∀ (u : Value) (zs : List Int), Ints w u zs → Calls Tryz.prog g #[u, c0] w fun e w' => e = .returned (.bool (p zs)) ∧ w = w') :
    Calls Tryz.prog 155 #[v, .func (.func g) #[] #[c0]] w fun e w' => e = .returned (.bool (xss.any p)) ∧ w = w' := by
  have HA := Lib.hid ha
  have HP := Lib.hid hp
  clear ha hp
  go_enter Tryz.func155, Tryz.ntmps155
  go_wp2_with (go_at_call 196; refine (lib_IndexFuncR _ _ _ _ _ _ HA.out hcf HP.out).mono ?_; rintro e w' ⟨rfl, rfl⟩)
  go_ret
  exact ⟨ret_bool (idxF_nonneg p xss), rfl⟩

set_option maxHeartbeats 400000 in
theorem i_IsTableau1 (w : World) (v : Value) (zs : List Int) (a : Addr) (n : Nat) (ha : Ints w v zs) (hc : w.cell? a = some (.int .i64 (n : Int))) :
    Calls Tryz.prog 156 #[v, .pointer (some a)] w fun e w' => e = .returned (.bool (!rowB n zs)) ∧ w = w' := by
  have HA := Lib.hid ha
  obtain ⟨A, c, rfl, h1, h2, h3⟩ := ha.open_
  clear ha h3
  by_cases hl : zs.length = n
  · have HF := Lib.hid (show (!rowB n zs) = !nums zs by simp [rowB, hl])
    have hd : (((zs.length : Nat) : Int) != (n : Int)) = false := by simp [hl]
    clear hl
    go_enter Tryz.func156, Tryz.ntmps156
    go_wp2_with (go_at_call 54; refine (i_areNumbers _ _ _ HA.out).mono ?_; rintro e w' ⟨rfl, rfl⟩)
    go_ret
    exact ⟨ret_bool HF.out.symm, rfl⟩
  · have HF := Lib.hid (show (!rowB n zs) = true by simp [rowB, hl])
    have hd : (((zs.length : Nat) : Int) != (n : Int)) = true := by simp; omega
    clear hl
    go_enter Tryz.func156, Tryz.ntmps156
    go_wp2_with (go_at_call 54; refine (i_areNumbers _ _ _ HA.out).mono ?_; rintro e w' ⟨rfl, rfl⟩)
    go_ret
    exact ⟨ret_bool HF.out.symm, rfl⟩

theorem any_not_all {α : Type} (p : α → Bool) (l : List α) : (l.any fun x => !p x) = !l.all p := by
  induction l with
  | nil => rfl
  | cons x l ih => simp only [List.any_cons, List.all_cons, ih]; cases p x <;> simp

set_option maxHeartbeats 1000000 in
theorem i_IsTableau (w : World) (v : Value) (A : List (List Int)) (Bs : List Int) (ha : TabArg w v A Bs) :
    Calls Tryz.prog 100 #[v] w fun e w' => e = .returned (.bool (tabB A Bs)) ∧ Below w.heap.size w w' := by
  obtain ⟨va, vb, rfl, ha1, ha2⟩ := ha
  have BB := Lib.hid (below2 w (.cells #[va, vb] 45) (.cells #[.int .i64 (Bs.length : Int)] 3))
  have H1 := Lib.hid (ha1.below BB.out)
  have H2 := Lib.hid (ha2.below BB.out)
  obtain ⟨A1, c1, rfl, g1, g2, _⟩ := ha1.open_
  obtain ⟨A2, c2, rfl, k1, k2, _⟩ := ha2.open_
  clear ha1 ha2
  cases hr : inR Bs.length 1 8 with
  | false =>
    have HF := Lib.hid (show tabB A Bs = false by simp [tabB, hr])
    go_enter Tryz.func100, Tryz.ntmps100
    go_wp2_with (first | (go_at_call 154; refine (lib_lengthI _ _ _ H2.out).mono ?_; rintro e w' ⟨rfl, rfl⟩) | (go_at_call 146; refine (i_inRange _ _ _ _).mono ?_; rintro e w' ⟨rfl, rfl⟩))
    go_ret
    exact ⟨ret_bool HF.out.symm, BB.out⟩
  | true =>
    by_cases hl : A.length = Bs.length
    · have hd : (((A.length : Nat) : Int) != (Bs.length : Int)) = false := by simp [hl]
      cases hn : nums Bs with
      | false =>
        have HF := Lib.hid (show tabB A Bs = false by simp [tabB, hn])
        clear hl
        go_enter Tryz.func100, Tryz.ntmps100
        go_wp2_with (first | (go_at_call 154; refine (lib_lengthI _ _ _ H2.out).mono ?_; rintro e w' ⟨rfl, rfl⟩) | (go_at_call 146; refine (i_inRange _ _ _ _).mono ?_; rintro e w' ⟨rfl, rfl⟩) | (go_at_call 54; refine (i_areNumbers _ _ _ H2.out).mono ?_; rintro e w' ⟨rfl, rfl⟩))
        go_ret
        exact ⟨ret_bool HF.out.symm, BB.out⟩
      | true =>
        have HF := Lib.hid (show tabB A Bs = A.all (rowB Bs.length) by simp [tabB, hr, hl, hn])
        clear hl
        go_enter Tryz.func100, Tryz.ntmps100
        go_wp2_with (first | (go_at_call 154; refine (lib_lengthI _ _ _ H2.out).mono ?_; rintro e w' ⟨rfl, rfl⟩) | (go_at_call 146; refine (i_inRange _ _ _ _).mono ?_; rintro e w' ⟨rfl, rfl⟩) | (go_at_call 54; refine (i_areNumbers _ _ _ H2.out).mono ?_; rintro e w' ⟨rfl, rfl⟩))
        refine (lib_ContainsFuncR _ _ _ _ _ (fun row => !rowB Bs.length row) H1.out (fun _ _ => by kernel_rfl) (fun u zs hu => i_IsTableau1 _ _ _ _ _ hu (by simp))).mono ?_
        rintro e w' ⟨rfl, rfl⟩
        go_wp2_with fail
        go_ret
        exact ⟨ret_bool (by rw [HF.out, any_not_all, Bool.not_not]), BB.out⟩
    · have hd : (((A.length : Nat) : Int) != (Bs.length : Int)) = true := by simp; omega
      have HF := Lib.hid (show tabB A Bs = false by simp [tabB, hl])
      clear hl
      go_enter Tryz.func100, Tryz.ntmps100
      go_wp2_with (first | (go_at_call 154; refine (lib_lengthI _ _ _ H2.out).mono ?_; rintro e w' ⟨rfl, rfl⟩) | (go_at_call 146; refine (i_inRange _ _ _ _).mono ?_; rintro e w' ⟨rfl, rfl⟩))
      go_ret
      exact ⟨ret_bool HF.out.symm, BB.out⟩

theorem all_rows {n : Nat} {A : List (List Int)} (h : ∀ i y, i < A.length → A[i]? = some y → rowB n y = true) : A.all (rowB n) = true := by
  rw [List.all_eq_true]
  intro x hx
  obtain ⟨i, hi, rfl⟩ := List.getElem_of_mem hx
  exact h i _ hi (List.getElem?_eq_getElem hi)
theorem not_all_rows {n k : Nat} {A : List (List Int)} {zs : List Int} (h : A[k]? = some zs) (hz : rowB n zs = false) : A.all (rowB n) = false := by
  rw [List.all_eq_false]
  exact ⟨zs, List.mem_of_getElem? h, by simp [hz]⟩

set_option maxHeartbeats 1000000 in
theorem s_l09Is (w : World) (v : Value) (A : List (List Int)) (Bs : List Int) (ha : TabArg w v A Bs) :
    Calls Tryz.prog 103 #[v] w fun e w' => e = .returned (.bool (tabB A Bs)) ∧ Below w.heap.size w w' := by
  obtain ⟨va, vb, rfl, ha1, ha2⟩ := ha
  have BB := Lib.hid (below1 w (.cells #[va, vb] 45))
  have H1 := Lib.hid (ha1.below BB.out)
  have H2 := Lib.hid (ha2.below BB.out)
  obtain ⟨A1, c1, hva, g1, g2, g3⟩ := H1.out.open_
  obtain ⟨A2, c2, hvb, k1, k2, _⟩ := ha2.open_
  subst hva
  subst hvb
  have G3 := Lib.hid g3
  clear ha1 ha2 g3
  by_cases q1 : (Bs.length : Int) < (1 : Int)
  · have HF := Lib.hid (show tabB A Bs = false by simp [tabB, inR]; omega)
    go_enter Tryz.func103, Tryz.ntmps103
    go_wp2_with (go_at_call 61; refine (s_l01Numbers _ _ _ H2.out).mono ?_; rintro e w' ⟨rfl, rfl⟩)
    go_ret
    exact ⟨ret_bool HF.out.symm, BB.out⟩
  · by_cases q2 : (8 : Int) < (Bs.length : Int)
    · have HF := Lib.hid (show tabB A Bs = false by simp [tabB, inR]; omega)
      go_enter Tryz.func103, Tryz.ntmps103
      go_wp2_with (go_at_call 61; refine (s_l01Numbers _ _ _ H2.out).mono ?_; rintro e w' ⟨rfl, rfl⟩)
      go_ret
      exact ⟨ret_bool HF.out.symm, BB.out⟩
    · have hr : inR Bs.length 1 8 = true := by rw [inR_iff]; omega
      by_cases hl : A.length = Bs.length
      · have hd : (((A.length : Nat) : Int) != (Bs.length : Int)) = false := by simp [hl]
        have hle : A.length ≤ Bs.length := by omega
        have hle' : Bs.length ≤ A.length := by omega
        cases hn : nums Bs with
        | false =>
          have HF := Lib.hid (show tabB A Bs = false by simp [tabB, hn])
          clear hl hr
          go_enter Tryz.func103, Tryz.ntmps103
          go_wp2_with (go_at_call 61; refine (s_l01Numbers _ _ _ H2.out).mono ?_; rintro e w' ⟨rfl, rfl⟩)
          go_ret
          exact ⟨ret_bool HF.out.symm, BB.out⟩
        | true =>
          have HF := Lib.hid (show tabB A Bs = A.all (rowB Bs.length) by simp [tabB, hr, hl, hn])
          clear hl hr
          go_enter Tryz.func103, Tryz.ntmps103
          go_wp2_with (go_at_call 61; refine (s_l01Numbers _ _ _ H2.out).mono ?_; rintro e w' ⟨rfl, rfl⟩)
          go_loop [4] (fun i => ∃ k : Nat, k ≤ Bs.length ∧ i = .int .i64 k ∧ Hid (∀ i y, i < k → A[i]? = some y → rowB Bs.length y = true)) (fun i => Bs.length - (intOf i).toNat)
          case atStart => exact ⟨0, Nat.zero_le _, rfl, fun i y h => by omega⟩
          case round =>
            obtain ⟨k, hk, rfl, hI⟩ := hrel
            by_cases hlt : k < Bs.length
            · obtain ⟨ad, u, zs, rfl, hz, hu, hc⟩ := G3.out k (by omega)
              have HU := Lib.hid hu
              obtain ⟨A3, c3, rfl, _, _, _⟩ := hu.open_
              have HZ := Lib.hid hz
              have hka : (k : Int) < (A.length : Int) := by omega
              clear hz hu
              by_cases hl2 : zs.length = Bs.length
              · have hd2 : (((zs.length : Nat) : Int) != (Bs.length : Int)) = false := by simp [hl2]
                have HL2 := Lib.hid hl2
                clear hl2
                cases hn2 : nums zs with
                | false =>
                  go_wp2_with (go_at_call 61; refine (s_l01Numbers _ _ _ HU.out).mono ?_; rintro e w' ⟨rfl, rfl⟩)
                  go_ret
                  exact ⟨ret_bool (by rw [HF.out, not_all_rows HZ.out (by simp [rowB, hn2])]), BB.out⟩
                | true =>
                  go_wp2_with (go_at_call 61; refine (s_l01Numbers _ _ _ HU.out).mono ?_; rintro e w' ⟨rfl, rfl⟩)
                  go_round
                  case rel =>
                    refine ⟨k + 1, by omega, by go_num, fun i y hi hy => ?_⟩
                    by_cases e : i = k
                    · subst e
                      rw [HZ.out] at hy
                      cases hy
                      simp [rowB, hn2, HL2.out]
                    · exact hI.out i y (by omega) hy
                  case measure => simp [intOf]; omega
              · have hd2 : (((zs.length : Nat) : Int) != (Bs.length : Int)) = true := by simp; omega
                have HL2 := Lib.hid hl2
                clear hl2
                go_wp2_with (go_at_call 61; refine (s_l01Numbers _ _ _ HU.out).mono ?_; rintro e w' ⟨rfl, rfl⟩)
                go_ret
                exact ⟨ret_bool (by rw [HF.out, not_all_rows HZ.out (by simp [rowB]; intro h; exact absurd h HL2.out)]), BB.out⟩
            · have : k = Bs.length := by omega
              subst this
              go_wp2_with fail
              go_ret
              exact ⟨ret_bool (by rw [HF.out]; exact (all_rows fun i y hi hy => hI.out i y (by omega) hy).symm), BB.out⟩
      · have hd : (((A.length : Nat) : Int) != (Bs.length : Int)) = true := by simp; omega
        have HF := Lib.hid (show tabB A Bs = false by simp [tabB, hl])
        clear hl
        go_enter Tryz.func103, Tryz.ntmps103
        go_wp2_with (go_at_call 61; refine (s_l01Numbers _ _ _ H2.out).mono ?_; rintro e w' ⟨rfl, rfl⟩)
        go_ret
        exact ⟨ret_bool HF.out.symm, BB.out⟩
end Go.Proofs.YtdjhfeaimmpmhaaGreat

/- The laws' marking and holding, at lists of lists and at tableaus. -/
set_option linter.unusedVariables false
set_option linter.unusedSimpArgs false
namespace Go.Proofs.YtdjhfeaimmpmhaaGreat
open Go.RowKit

def tot (xss : List (List Int)) : Nat := xss.flatten.length
theorem tot_cons (zs : List Int) (r : List (List Int)) : tot (zs :: r) = zs.length + tot r := by simp [tot]
theorem RowsOwn.set {w w' : World} {B C : Nat} {e : TypeId} {vs : List Value} {xss : List (List Int)} {j : Nat} {u : Value} {zs : List Int} (h : RowsOwn w B C e vs xss) (hu : vs[j]? = some u) (hg : w.grownBy w' u.ownBlock) (hn : OwnInts w' B e u zs) : RowsOwn w' B C e vs (xss.set j zs) := by
  obtain ⟨h1, h2, h3⟩ := h
  refine ⟨by simp [h1], fun k u' zs' hu' hz' => ?_, h3⟩
  have hj := (List.getElem?_eq_some_iff.1 hu).1
  by_cases hk : k = j
  · subst hk
    rw [hu] at hu'
    obtain rfl : u = u' := by simpa using hu'
    have hz : xss[k]? = some (xss[k]'(by omega)) := List.getElem?_eq_getElem _
    rw [List.getElem?_set_self (by omega)] at hz'
    obtain rfl : zs = zs' := by simpa using hz'
    exact ⟨hn, (h2 k u _ hu hz).2⟩
  · rw [List.getElem?_set_ne (by omega)] at hz'
    have ho := h2 k u' zs' hu' hz'
    have hap : Apart u' u := by
      by_cases hlt : k < j
      · exact h3 k j u' u hlt hu' hu
      · exact (h3 j k u u' (by omega) hu hu').symm
    exact ⟨ho.1.kept hg hap, ho.2⟩

/-- no block has turned but those of the values vs -/
def Far (vs : List Value) (w w' : World) : Prop := ∀ b, b < w.heap.size → (∀ (i : Nat) (u : Value), vs[i]? = some u → u.ownBlock ≠ some b) → w'.heap[b]? = w.heap[b]?
theorem Far.refl (vs : List Value) (w : World) : Far vs w w := fun _ _ _ => rfl
theorem Far.grown {vs : List Value} {w w1 w2 : World} {j : Nat} {u : Value} (h : Far vs w w1) (hs : w.heap.size ≤ w1.heap.size) (hu : vs[j]? = some u) (hg : w1.grownBy w2 u.ownBlock) : Far vs w w2 :=
  fun b hb hn => (hg.block b (Nat.lt_of_lt_of_le hb hs) (fun e => hn j u hu e.symm)).trans (h b hb hn)
theorem Far.kept {vs : List Value} {w w' : World} {B C : Nat} {e : TypeId} {v : Value} {zs : List Int} (h : Far vs w w') (ho : OI w B C e v zs) (ha : ∀ (i : Nat) (u : Value), vs[i]? = some u → Apart u v) : OI w' B C e v zs :=
  ⟨⟨ho.1.1.of_block fun b hb => h b (ho.1.1.lt b hb) (fun i u hu e => (ha i u hu).elim (fun h1 => by rw [h1] at e; cases e) (fun h1 => h1 (e.trans hb.symm))), ho.1.2⟩, ho.2⟩

end Go.Proofs.YtdjhfeaimmpmhaaGreat

set_option linter.unusedVariables false
set_option linter.unusedSimpArgs false
namespace Go.Proofs.YtdjhfeaimmpmhaaGreat
open Go.RowKit

/-- what the test for a tableau says -/
structure IsTab (A : List (List Int)) (Bs : List Int) : Prop where
  lo : 1 ≤ Bs.length
  hi : Bs.length ≤ 8
  len : A.length = Bs.length
  row : ∀ zs ∈ A, zs.length = Bs.length ∧ nums zs = true
  num : nums Bs = true
theorem isTab_of {A : List (List Int)} {Bs : List Int} (h : tabB A Bs = true) : IsTab A Bs := by
  simp only [tabB, Bool.and_eq_true, decide_eq_true_eq, List.all_eq_true, inR_iff] at h
  obtain ⟨⟨⟨h1, h2⟩, h3⟩, h4⟩ := h
  refine ⟨by omega, by omega, h2, fun zs hz => ?_, h3⟩
  have := h4 zs hz
  simpa [rowB] using this

def tabC (A : List (List Int)) (Bs : List Int) : Int := if tabB A Bs then 0 else 1

set_option maxHeartbeats 400000 in
theorem im_stages (w : World) (v : Value) (A : List (List Int)) (Bs : List Int) (ha : TabArg w v A Bs) :
    Calls Tryz.prog 101 #[v] w fun e w' => e = .returned (.int .i64 Bs.length) ∧ Below w.heap.size w w' := by
  obtain ⟨va, vb, rfl, ha1, ha2⟩ := ha
  have BB := Lib.hid (below1 w (.cells #[va, vb] 45))
  obtain ⟨A2, c2, rfl, k1, k2, _⟩ := ha2.open_
  clear ha1 ha2
  go_enter Tryz.func101, Tryz.ntmps101
  go_wp2
  go_ret
  exact ⟨rfl, BB.out⟩

end Go.Proofs.YtdjhfeaimmpmhaaGreat

set_option linter.unusedVariables false
set_option linter.unusedSimpArgs false
namespace Go.Proofs.YtdjhfeaimmpmhaaGreat
open Go.RowKit

theorem tot_le {n : Nat} : ∀ {xss : List (List Int)}, (∀ zs ∈ xss, zs.length ≤ n) → tot xss ≤ xss.length * n
  | [], _ => by simp [tot]
  | zs :: r, h => by
    rw [tot_cons, List.length_cons, Nat.succ_mul]
    have h1 := h zs List.mem_cons_self
    have h2 := tot_le (xss := r) fun ys hy => h ys (List.mem_cons_of_mem _ hy)
    omega
theorem IsTab.numTab {A : List (List Int)} {Bs : List Int} (h : IsTab A Bs) : NumTab A Bs :=
  ⟨by have := h.len; have := h.hi; omega, by have := h.hi; omega, fun zs hz => ⟨nums_iff.1 (h.row zs hz).2, by have := (h.row zs hz).1; have := h.hi; omega⟩, nums_iff.1 h.num⟩
theorem OT.nil (w : World) (B C : Nat) : OT w B C (.agg #[.slice none 0 0, .slice none 0 0]) [] [] :=
  ⟨_, _, [], rfl, Own.nil _ _ _, fun b hb => by simp [Value.ownBlock] at hb, RowsOwn.nil _ _ _ _, OI.nil _ _ _ _, fun k u hu => by simp at hu⟩

theorem isNum_mod {k : Int} (h : isNum k = true) : k % 10007 = k ∧ 0 ≤ k ∧ k ≤ 10006 := by
  have := inR_iff.1 h
  omega

end Go.Proofs.YtdjhfeaimmpmhaaGreat

set_option linter.unusedVariables false
set_option linter.unusedSimpArgs false
namespace Go.Proofs.YtdjhfeaimmpmhaaGreat
open Go.RowKit

end Go.Proofs.YtdjhfeaimmpmhaaGreat

set_option maxRecDepth 100000
set_option linter.unusedVariables false
set_option linter.unusedSimpArgs false
namespace Go.Proofs.YtdjhfeaimmpmhaaGreat
open Go.RowKit

def repT (A : List (List Int)) (B : List Int) : Nat → List (List Int) × List Int
  | 0 => (A, B)
  | n + 1 => (compA (repT A B n).1 (repT A B n).2 A B, (repT A B n).2 ++ B)
/-- a square tableau of numbers -/
structure Sq (A : List (List Int)) (B : List Int) (s : Nat) : Prop where
  la : A.length = s
  lb : B.length = s
  rows : ∀ r ∈ A, Nums r ∧ r.length = s
  ws : Nums B
theorem Sq.numTab {A : List (List Int)} {B : List Int} {s : Nat} (h : Sq A B s) (hs : s ≤ 1000) : NumTab A B :=
  ⟨by rw [h.la]; exact hs, by rw [h.lb]; exact hs, fun r hr => ⟨(h.rows r hr).1, by rw [(h.rows r hr).2]; exact hs⟩, h.ws⟩
theorem Sq.comp {A1 A2 : List (List Int)} {B1 B2 : List Int} {s t : Nat} (h : Sq A1 B1 s) (h' : Sq A2 B2 t) : Sq (compA A1 B1 A2 B2) (B1 ++ B2) (s + t) := by
  refine ⟨by simp [compA, h.la, h'.la], by simp [h.lb, h'.lb], fun r hr => ?_, fun z hz => ?_⟩
  · rcases List.mem_append.1 hr with hr | hr
    · obtain ⟨x, hx, rfl⟩ := List.mem_map.1 hr
      refine ⟨fun z hz => ?_, by simp [padR, (h.rows x hx).2, h'.lb]⟩
      rcases List.mem_append.1 hz with hz | hz
      · exact (h.rows x hx).1 z hz
      · have := (List.mem_replicate.1 hz).2; omega
    · obtain ⟨x, hx, rfl⟩ := List.mem_map.1 hr
      refine ⟨fun z hz => ?_, by simp [(h'.rows x hx).2, h.lb]⟩
      rcases List.mem_append.1 hz with hz | hz
      · exact h.ws z hz
      · exact (h'.rows x hx).1 z hz
  · rcases List.mem_append.1 hz with hz | hz
    · exact h.ws z hz
    · exact h'.ws z hz
theorem Sq.rep {A : List (List Int)} {B : List Int} {s : Nat} (h : Sq A B s) : ∀ n, Sq (repT A B n).1 (repT A B n).2 ((n + 1) * s)
  | 0 => by simpa [repT] using h
  | n + 1 => by
    have := (Sq.rep h n).comp h
    rw [show (n + 1 + 1) * s = (n + 1) * s + s from by rw [Nat.succ_mul]]
    exact this
theorem Sq.scl {A : List (List Int)} {B : List Int} {s : Nat} (hA : A.length = s) (hB : B.length = s) (hr : ∀ r ∈ A, r.length = s) (f : Int) : Sq (A.map (Go.Proofs.YtdjhfeaimmpmhaaGreat.scl f)) (Go.Proofs.YtdjhfeaimmpmhaaGreat.scl f B) s := by
  refine ⟨by simpa using hA, by rw [scl_len]; exact hB, fun r h => ?_, scl_nums _ _⟩
  obtain ⟨x, hx, rfl⟩ := List.mem_map.1 h
  exact ⟨scl_nums _ _, by rw [scl_len]; exact hr x hx⟩

def repFac (k : Int) : Int := pw k 10005
def repC (A : List (List Int)) (Bs : List Int) (k : Int) : Int := if tabB A Bs then (if inR k 1 8 then (if (Bs.length : Int) * k ≤ 8 then 0 else 3) else 2) else 1
def repR (A : List (List Int)) (Bs : List Int) (k : Int) : List (List Int) × List Int := if repC A Bs k = 0 then repT (A.map (scl (repFac k))) (scl (repFac k) Bs) (k.toNat - 1) else ([], [])
def IsRep (A : List (List Int)) (Bs : List Int) (k : Int) (RA : List (List Int)) (RB : List Int) (c : Int) : Prop := RA = (repR A Bs k).1 ∧ RB = (repR A Bs k).2 ∧ c = repC A Bs k
theorem IsRep.unique {A : List (List Int)} {Bs : List Int} {k : Int} {RA RA' : List (List Int)} {RB RB' : List Int} {c c' : Int} (h : IsRep A Bs k RA RB c) (h' : IsRep A Bs k RA' RB' c') : RA = RA' ∧ RB = RB' ∧ c = c' := by
  obtain ⟨rfl, rfl, rfl⟩ := h
  obtain ⟨rfl, rfl, rfl⟩ := h'
  exact ⟨rfl, rfl, rfl⟩
theorem repC_ok {A : List (List Int)} {Bs : List Int} {k : Int} (h : repC A Bs k = 0) : tabB A Bs = true ∧ 1 ≤ k ∧ k ≤ 8 ∧ (Bs.length : Int) * k ≤ 8 := by
  unfold repC at h
  cases ht : tabB A Bs with
  | false => rw [ht] at h; simp at h
  | true =>
    rw [ht] at h
    cases hr : inR k 1 8 with
    | false => rw [hr] at h; simp at h
    | true =>
      rw [hr] at h
      by_cases hm : (Bs.length : Int) * k ≤ 8
      · have := inR_iff.1 hr
        exact ⟨rfl, this.1, this.2, hm⟩
      · simp [hm] at h
theorem rep_sq {A : List (List Int)} {Bs : List Int} {k : Int} (h : tabB A Bs = true) (n : Nat) : Sq (repT (A.map (scl (repFac k))) (scl (repFac k) Bs) n).1 (repT (A.map (scl (repFac k))) (scl (repFac k) Bs) n).2 ((n + 1) * Bs.length) :=
  (Sq.scl (isTab_of h).len rfl (fun r hr => ((isTab_of h).row r hr).1) _).rep n
theorem rep_bd {s n : Nat} {k : Int} (h1 : 1 ≤ k) (h : (s : Int) * k ≤ 8) (hn : n + 1 ≤ k.toNat) : (n + 1) * s ≤ 8 := by
  have h2 : ((n + 1 : Nat) : Int) ≤ k := by omega
  have h3 : (s : Int) * ((n + 1 : Nat) : Int) ≤ (s : Int) * k := Int.mul_le_mul_of_nonneg_left h2 (by omega)
  have h4 : (((n + 1) * s : Nat) : Int) = (s : Int) * ((n + 1 : Nat) : Int) := by rw [Int.natCast_mul, Int.mul_comm]
  omega
theorem IsRep.short {A : List (List Int)} {Bs : List Int} {k : Int} {RA : List (List Int)} {RB : List Int} {c : Int} (h : IsRep A Bs k RA RB c) : tot RA ≤ 1000 ∧ RB.length ≤ 1000 := by
  obtain ⟨rfl, rfl, rfl⟩ := h
  unfold repR
  by_cases hc : repC A Bs k = 0
  · obtain ⟨ht, h1, h2, h3⟩ := repC_ok hc
    have hq := rep_sq (k := k) ht (k.toNat - 1)
    have hb := rep_bd (n := k.toNat - 1) h1 h3 (by omega)
    rw [if_pos hc]
    have ht2 := tot_le (n := 8) fun r hr => by rw [(hq.rows r hr).2]; exact hb
    rw [hq.la] at ht2
    rw [hq.lb]
    omega
  · rw [if_neg hc]
    simp [tot]

theorem OT.storeAt {w : World} {B C p : Nat} {v : Value} {A : List (List Int)} {Bs : List Int} {cs : Array Value} (h : OT w B C v A Bs) (hk : Blk w p 45 cs) (i : Nat) (u : Value) : OT (w.setCell ⟨p, i, none⟩ u) B C v A Bs := by
  obtain ⟨va, vb, vs, rfl, h1, h2, h3, h4, h5⟩ := h
  have hh : ∀ b, b ≠ p → (w.setCell ⟨p, i, none⟩ u).heap[b]? = w.heap[b]? := fun b hb => Below.heap_setCell w ⟨p, i, none⟩ u b hb
  refine ⟨va, vb, vs, rfl, h1.of_block fun b hb => hh b (fun e => h1.ne_blk hk (by decide) (e ▸ hb)), h2, ⟨h3.1, fun k u' zs hu hz => ?_, h3.2.2⟩, ⟨⟨h4.1.1.of_block fun b hb => hh b (fun e => h4.1.1.ne_blk hk (by decide) (e ▸ hb)), h4.1.2⟩, h4.2⟩, h5⟩
  have h6 := h3.2.1 k u' zs hu hz
  exact ⟨⟨h6.1.1.of_block fun b hb => hh b (fun e => h6.1.1.ne_blk hk (by decide) (e ▸ hb)), h6.1.2⟩, h6.2⟩
end Go.Proofs.YtdjhfeaimmpmhaaGreat

set_option maxRecDepth 100000
set_option linter.unusedVariables false
set_option linter.unusedSimpArgs false
namespace Go.Proofs.YtdjhfeaimmpmhaaGreat
open Go.RowKit

def okBr (n : Nat) : Bool := match brO (tr n) with
  | some bs => bs.all (fun b => Nat.blt 0 (idxN T6n b) && (Nat.ble (idxN T6n b) n && eqN (tr (idxN T6n b - 1)) b)) && Nat.beq (cmpN (srtZ (bs.map (idxN T6n))) (srtZ (bt (n + 1)))) 0
  | none => false
theorem tj1 : (List.range 37).all okBr = true := by decide +kernel
/-- the branches of the n-th tree -/
theorem br_bt {n : Nat} (hn : n < 37) : ∃ bs, brO (tr n) = some bs ∧ (∀ b ∈ bs, 0 < idxN T6n b ∧ idxN T6n b ≤ n ∧ tr (idxN T6n b - 1) = b) ∧ ∀ f : Nat → Int, pz f (bs.map (idxN T6n)) = pz f (bt (n + 1)) := by
  have h1 := tj1
  rw [List.all_eq_true] at h1
  have h2 := h1 n (List.mem_range.2 hn)
  unfold okBr at h2
  cases hb : brO (tr n) with
  | none => rw [hb] at h2; cases h2
  | some bs =>
    rw [hb] at h2
    simp only [Bool.and_eq_true, List.all_eq_true] at h2
    refine ⟨bs, rfl, fun b hbs => ?_, fun f => ?_⟩
    · obtain ⟨a1, a2, a3⟩ := h2.1 b hbs
      exact ⟨blt_lt a1, Nat.le_of_ble_eq_true a2, eqN_iff.1 a3⟩
    · rw [← srtZ_pz, cmpN_zero (Nat.eq_of_beq_eq_true h2.2), srtZ_pz]
/-- the stage weights of the tree at p -/
def stL (A : List (List Int)) (s p : Nat) : List Int := (List.range s).map fun i => wt s (fT A) zeroV i p % 10007
/-- what they are after some branches -/
def stB (A : List (List Int)) (s : Nat) (qs : List Nat) : List Int := (List.range s).map fun i => pz (uV s (fT A) i) qs % 10007
/-- the matrix times the stage weights -/
def apL (A : List (List Int)) (s p : Nat) : List Int := (List.range s).map fun i => uV s (fT A) i p % 10007
theorem stB_nil (A : List (List Int)) (s : Nat) : stB A s [] = List.replicate s 1 := by
  unfold stB
  refine List.ext_getElem (by simp) fun i h1 h2 => ?_
  simp [pz_nil]
theorem stB_end (A : List (List Int)) (s : Nat) {n : Nat} (hn : n < 37) {bs : List (List Nat)} (h : ∀ f : Nat → Int, pz f (bs.map (idxN T6n)) = pz f (bt (n + 1))) : stB A s (bs.map (idxN T6n)) = stL A s (n + 1) := by
  unfold stB stL
  refine List.map_congr_left fun i _ => ?_
  rw [h, wt_zero s (fT A) i (by omega)]
theorem stB_get (A : List (List Int)) (s : Nat) (qs : List Nat) {i : Nat} (hi : i < s) : (stB A s qs)[i]? = some (pz (uV s (fT A) i) qs % 10007) := by
  unfold stB
  rw [List.getElem?_map, List.getElem?_range hi]
  rfl
theorem apL_get (A : List (List Int)) (s p : Nat) {i : Nat} (hi : i < s) : (apL A s p)[i]? = some (uV s (fT A) i p % 10007) := by
  unfold apL
  rw [List.getElem?_map, List.getElem?_range hi]
  rfl
theorem stL_get (A : List (List Int)) (s p : Nat) {i : Nat} (hi : i < s) : (stL A s p)[i]? = some (wt s (fT A) zeroV i p % 10007) := by
  unfold stL
  rw [List.getElem?_map, List.getElem?_range hi]
  rfl
/-- one branch more -/
theorem stB_step (A : List (List Int)) (s : Nat) (qs : List Nat) (q i : Nat) : (pz (uV s (fT A) i) qs % 10007) * (uV s (fT A) i q % 10007) % 10007 = pz (uV s (fT A) i) (qs ++ [q]) % 10007 := by
  rw [pz_append, pz_cons, pz_nil, Int.mul_one]
  exact mulm (Int.emod_emod_of_dvd _ (Int.dvd_refl _)) (Int.emod_emod_of_dvd _ (Int.dvd_refl _))
/-- a row times the stage weights -/
theorem row_ap (A : List (List Int)) (s i : Nat) {p : Nat} (h0 : 0 < p) : sR s (fun k => fT A i k * (stL A s p).getD k 0) % 10007 = uV s (fT A) i p % 10007 := by
  unfold uV
  rw [if_neg (by omega)]
  refine sR_mod fun k hk => ?_
  rw [List.getD_eq_getElem?_getD, stL_get A s p hk]
  exact mulm rfl (Int.emod_emod_of_dvd _ (Int.dvd_refl _))
/-- the weights times the stage weights -/
theorem b_st (A : List (List Int)) (B : List Int) {p : Nat} (h0 : 0 < p) : sR B.length (fun k => fB B k * (stL A B.length p).getD k 0) % 10007 = wgtT B.length (fT A) (fB B) p % 10007 := by
  rw [wgt_pos _ _ _ h0]
  refine sR_mod fun k hk => ?_
  rw [List.getD_eq_getElem?_getD, stL_get A _ p hk]
  exact mulm rfl (Int.emod_emod_of_dvd _ (Int.dvd_refl _))
end Go.Proofs.YtdjhfeaimmpmhaaGreat

set_option maxRecDepth 100000
set_option linter.unusedVariables false
set_option linter.unusedSimpArgs false
namespace Go.Proofs.YtdjhfeaimmpmhaaGreat
open Go.RowKit

set_option maxHeartbeats 1000000 in
theorem lib_GrowI (w : World) (n : Nat) (hn : n ≤ 4294967296) :
    Calls Tryz.prog 197 #[.slice none 0 0, .int .i64 (n : Int)] w fun e w' => ∃ r, e = .returned r ∧ Own w' w.heap.size tI r [] ∧ Below w.heap.size w w' := by
  by_cases h0 : n = 0
  · subst h0
    go_enter Tryz.func197, Tryz.ntmps197
    go_wp2
    go_ret
    exact ⟨_, rfl, Own.nil _ _ _, Below.refl _ _⟩
  · obtain ⟨i, hi, hz, h1, h2⟩ := info_parts T_int.info
    have hp : (0 : Int) < (n : Int) := by omega
    have hr := Go.Lib.run_append_nil_zeros (P := Tryz.prog) w 24 3 24 tI i (.int .i64 0) .i64 .i64 T_int.under Tryz.underlying3 hi hz n (by omega) (by rw [h1]; omega) (by omega) (by rw [h2]; omega)
    have hge := grownCap_ge w n 0 tI
    have hcm := grownCap_le_maxLen w n 0 tI (by simp only [maxLen]; omega)
    have hO : Own (w.drew.alloc (.cells (Builtin.zeroCells (Value.cells (.int .i64 0)) n ++ Builtin.zeroCells (Value.cells (.int .i64 0)) (grownCap w n 0 tI - n)) tI)) w.heap.size tI (.slice (some ⟨w.heap.size, 0, none⟩) 0 (grownCap w n 0 tI)) [] :=
      World.ownsRow_made (w := w.drew) (base := w.heap.size) (e := tI) (size := 1) _ (grownCap w n 0 tI) (Nat.le_refl _) hcm (by simp [size_zeroCells, Value.cells]; omega)
    have HO := Lib.hid hO
    have HB := Lib.hid ((Below.refl w.heap.size w).drew.alloc (Nat.le_refl _) (.cells (Builtin.zeroCells (Value.cells (.int .i64 0)) n ++ Builtin.zeroCells (Value.cells (.int .i64 0)) (grownCap w n 0 tI - n)) tI))
    have HR := Lib.hid hr
    have hcm' : grownCap w n 0 tI ≤ 9223372036854775807 := by simpa [maxLen] using hcm
    clear hO hr hcm
    generalize grownCap w n 0 tI = cp at hge hcm' HO HB HR
    generalize (w.drew.alloc (.cells (Builtin.zeroCells (Value.cells (.int .i64 0)) n ++ Builtin.zeroCells (Value.cells (.int .i64 0)) (cp - n)) tI)) = w1 at HO HB HR
    go_enter Tryz.func197, Tryz.ntmps197
    go_wp2_with (at_builtin; refine Go.Lib.wpList_append_run w rfl _ _ _ _ (by rfl) _ _ (by rfl) (by rfl) _ _ HR.out ?_)
    go_ret
    exact ⟨_, rfl, HO.out, HB.out⟩

theorem flat_take {xss : List (List Int)} {k : Nat} {zs : List Int} (h : xss[k]? = some zs) : (xss.take (k + 1)).flatten = (xss.take k).flatten ++ zs := by
  rw [List.take_add_one, h]; simp
theorem flat_take_le (xss : List (List Int)) (k : Nat) : (xss.take k).flatten.length ≤ xss.flatten.length := by
  conv => rhs; rw [← List.take_append_drop k xss]
  rw [List.flatten_append, List.length_append]; omega
theorem ints_oneCell' (zs : List Int) : ∀ u ∈ ints zs, u.oneCell' = true := by
  intro u hu
  obtain ⟨_, _, rfl⟩ := List.mem_map.1 hu
  rfl
theorem ints_append (a b : List Int) : ints (a ++ b) = ints a ++ ints b := by simp [ints]

set_option maxHeartbeats 1000000 in
theorem lib_ConcatI (w : World) (v : Value) (xss : List (List Int)) (ha : Rows w v xss) (hn : xss.flatten.length ≤ 4294967296) :
    Calls Tryz.prog 157 #[v] w fun e w' => ∃ r, e = .returned r ∧ OwnInts w' w.heap.size tI r xss.flatten ∧ Below w.heap.size w w' := by
  have HA := Lib.hid ha
  obtain ⟨A, c, rfl, h1, h2, h3⟩ := ha.open_
  have H3 := Lib.hid h3
  clear h3 ha
  have HIN := Lib.hid (show ∀ z ∈ xss.flatten, In64 z from fun z hz => by
    obtain ⟨zs, hzs, hz⟩ := List.mem_flatten.1 hz
    obtain ⟨k, hk, rfl⟩ := List.getElem_of_mem hzs
    obtain ⟨ad, u, zs, _, hz0, hu, _⟩ := H3.out k hk
    rw [List.getElem?_eq_getElem hk] at hz0
    cases hz0
    exact hu.2 z hz)
  go_enter Tryz.func157, Tryz.ntmps157
  go_wp2_with fail
  go_loop [3, 11] (fun s i => ∃ k : Nat, k ≤ xss.length ∧ i = .int .i64 k ∧ s = .int .i64 ((xss.take k).flatten.length : Nat)) (fun _ i => xss.length - (intOf i).toNat)
  case atStart => exact ⟨0, Nat.zero_le _, rfl, rfl⟩
  case round =>
    obtain ⟨k, hk, rfl, rfl⟩ := hrel
    by_cases hlt : k < xss.length
    · obtain ⟨ad, u, zs, rfl, hz, hu, hc⟩ := H3.out k hlt
      obtain ⟨A3, c3, rfl, _, _, -⟩ := hu.open_
      have hle := flat_take_le xss (k + 1)
      have hft := flat_take hz
      have e1 : (xss.take (k + 1)).flatten.length = (xss.take k).flatten.length + zs.length := by rw [hft, List.length_append]
      rw [e1] at hle
      have E1 := Lib.hid e1
      clear e1 hft hz hu
      generalize (xss.take k).flatten.length = m at hle E1 ⊢
      have hge0 : (0 : Int) ≤ (m : Int) + (zs.length : Int) := by omega
      go_wp2_with fail
      go_round
      case rel => exact ⟨k + 1, by omega, by go_num, by rw [E1.out]; go_num⟩
      case measure => simp [intOf]; omega
    · have : k = xss.length := by omega
      subst this
      rw [List.take_length]
      have HN0 := Lib.hid hn
      generalize xss.flatten.length = N at hn ⊢
      go_wp2_with fail
      refine (lib_GrowI _ N hn).mono ?_
      rintro e w1 ⟨r, rfl, hown, hb1⟩
      have HO := Lib.hid hown
      have HB := Lib.hid hb1
      clear hown hb1
      go_wp2_with fail
      go_loopw [6, 27] (fun s i wr => ∃ k : Nat, k ≤ xss.length ∧ i = .int .i64 k ∧ Own wr w.heap.size tI s (ints (xss.take k).flatten) ∧ Below w.heap.size w wr) (fun _ i _ => xss.length - (intOf i).toNat)
      case atStart => exact ⟨0, Nat.zero_le _, rfl, HO.out, HB.out⟩
      case round =>
        obtain ⟨k, hk, rfl, hown, hb⟩ := hrel
        clear HO HB
        have HO := Lib.hid hown
        have HB := Lib.hid hb
        clear hown hb
        by_cases hlt : k < xss.length
        · obtain ⟨ad, u, zs, rfl, hz, hu, hc0⟩ := H3.out k hlt
          have hc : wr.cell? (ad.add k) = some u := by
            rw [HB.out.cell (by rw [block_add]; have := World.block_lt_of_cell? w _ hc0; rwa [block_add] at this)]; exact hc0
          have HU := Lib.hid (hu.below HB.out)
          have hft := flat_take hz
          have hle := flat_take_le xss (k + 1)
          rw [hft, List.length_append] at hle
          have hn0 := HN0.out
          have hlen : (xss.take k).flatten.length + zs.length < 1099511627776 := by omega
          have HLE := Lib.hid hlen
          clear hle hn0 hlen
          have HF := Lib.hid hft
          clear hz hu hc0 hft
          go_wp2_with (at_builtin; refine wpList_appN T_int HO.out HU.out.1 (by rw [ints_len, ints_len]; exact HLE.out) HB.out.size (ints_oneCell' _) rfl (by rfl) (by rfl) (by rfl) ?_; intro v1 w2 hown1 hgr1)
          go_roundw
          case rel =>
            refine ⟨k + 1, by omega, by go_num, ?_, hgr1.below HB.out HB.out.size HO.out.ge⟩
            rw [HF.out, ints_append]
            exact hown1
          case measure => simp [intOf]; omega
        · have : k = xss.length := by omega
          subst this
          go_wp2_with fail
          go_ret
          exact ⟨_, rfl, ⟨by simpa using HO.out, HIN.out⟩, HB.out⟩
end Go.Proofs.YtdjhfeaimmpmhaaGreat

