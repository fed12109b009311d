/- Walks of tests: in a range, a number, all numbers. | The walk of the program's length at lists of numbers. | Monomials: words of memory; walks of isMonomial of the program and l13Degree of the reference. | Monomials and fields that came in: words of memory. No program in sight. | Fields, plain: what makes a field. No program in sight. | Walk: l13Is of the reference. | Walk: l03Canon of the reference. | Walk: rootOn of the program. | slices.SortFunc at lists of numbers: laid. | A list of one's own that the library has sorted. | slices.SortFunc with 'slices.Compare(b, a)', at lists of one's own: the lists in descending order. | Walks: slices.Clone at numbers; the columns of both. -/
import Derived.Test.YtheldcjiogpbjaaGreatRows
import Derived.Test.YtheldcjiogpbjaaGreatG1
import Derived.Test.YtheldcjiogpbjaaGreatG2
import Derived.WalkLawsBesides
import Derived.BigGuardPart
import Derived.Test.YtheldcjiogpbjaaGreatG3
import Derived.Shelf.SlSortCmp.Whole1
import Derived.Shelf.SlSortCmp.NoneTotal
import Derived.Shelf.SlGeneric
import Derived.Ground.SlsfProg
import Derived.Shelf.GgSortFunc.Insertion
import Derived.WalkSpells
import Derived.Deep.RegionLaw
set_option linter.unusedVariables false
set_option linter.unusedSimpArgs false
namespace Go.Proofs.YtheldcjiogpbjaaGreat
open Go.RowKit

set_option maxHeartbeats 400000 in
theorem i_inRange (n lo hi : Int) (w : World) :
    Calls Tryz.prog 81 #[.int .i64 n, .int .i64 lo, .int .i64 hi] w fun e w' => e = .returned (.bool (inR n lo hi)) ∧ w = w' := by
  by_cases h1 : lo ≤ n
  · by_cases h2 : n ≤ hi
    · go_enter Tryz.func81, Tryz.ntmps81
      go_wp2
      go_ret
      exact ⟨ret_bool (by simp [inR, h1, h2]), rfl⟩
    · go_enter Tryz.func81, Tryz.ntmps81
      go_wp2
      go_ret
      exact ⟨ret_bool (by simp [inR, h1, h2]), rfl⟩
  · go_enter Tryz.func81, Tryz.ntmps81
    go_wp2
    go_ret
    exact ⟨ret_bool (by simp [inR]; omega), rfl⟩

set_option maxHeartbeats 400000 in
theorem s_l01In (n lo hi : Int) (w : World) :
    Calls Tryz.prog 78 #[.int .i64 n, .int .i64 lo, .int .i64 hi] w fun e w' => e = .returned (.bool (inR n lo hi)) ∧ w = w' := by
  by_cases h1 : lo ≤ n
  · by_cases h2 : n ≤ hi
    · go_enter Tryz.func78, Tryz.ntmps78
      go_wp2
      go_ret
      exact ⟨ret_bool (by simp [inR, h1, h2]), rfl⟩
    · go_enter Tryz.func78, Tryz.ntmps78
      go_wp2
      go_ret
      exact ⟨ret_bool (by simp [inR, h1, h2]), rfl⟩
  · go_enter Tryz.func78, Tryz.ntmps78
    go_wp2
    go_ret
    exact ⟨ret_bool (by simp [inR]; omega), rfl⟩

set_option maxHeartbeats 400000 in
theorem i_IsNumber (n : Int) (w : World) : Calls Tryz.prog 148 #[.int .i64 n] w fun e w' => e = .returned (.bool (isNum n)) ∧ w = w' := by
  go_enter Tryz.func148, Tryz.ntmps148
  go_wp2_with (go_at_call 81; refine (i_inRange _ _ _ _).mono ?_; rintro e w' ⟨rfl, rfl⟩)
  go_ret
  exact ⟨rfl, rfl⟩

set_option maxHeartbeats 400000 in
theorem s_IsNumber (n : Int) (w : World) : Calls Tryz.prog 145 #[.int .i64 n] w fun e w' => e = .returned (.bool (isNum n)) ∧ w = w' := by
  go_enter Tryz.func145, Tryz.ntmps145
  go_wp2_with (go_at_call 78; refine (s_l01In _ _ _ _).mono ?_; rintro e w' ⟨rfl, rfl⟩)
  go_ret
  exact ⟨rfl, rfl⟩

set_option maxHeartbeats 400000 in
theorem i_areNumbers1 (n : Int) (w : World) : Calls Tryz.prog 147 #[.int .i64 n] w fun e w' => e = .returned (.bool (!isNum n)) ∧ w = w' := by
  go_enter Tryz.func147, Tryz.ntmps147
  go_wp2_with (go_at_call 148; refine (i_IsNumber _ _).mono ?_; rintro e w' ⟨rfl, rfl⟩)
  go_ret
  exact ⟨rfl, rfl⟩

set_option maxHeartbeats 400000 in
theorem lib_IndexFuncI (w : World) (v : Value) (zs : List Int) (g : Nat) (p : Int → Bool) (ha : Ints w v zs)
    (hcf : ∀ (args : Array Value) (w : World), Sem.run Tryz.prog (callFunc g args) w = .ok (.enter g args) w)
    (hp : ∀ z : Int, Calls Tryz.prog g #[.int .i64 z] w fun e w' => e = .returned (.bool (p z)) ∧ w = w') :
    Calls Tryz.prog 178 #[v, .func (.func g) #[] #[]] w fun e w' => e = .returned (.int .i64 (idxF p zs)) ∧ w = w' := by
  obtain ⟨A, c, rfl, h1, h2, h3⟩ := ha.open_
  clear ha
  have H3 := Lib.hid h3
  have HP := Lib.hid hp
  clear h3 hp
  go_enter Tryz.func178, Tryz.ntmps178
  go_wp2_with fail
  go_loop [8] (fun i => ∃ k : Nat, k ≤ zs.length ∧ i = .int .i64 k ∧ Hid (∀ i y, i < k → zs[i]? = some y → p y = false)) (fun i => zs.length - (intOf i).toNat)
  case atStart => exact ⟨0, Nat.zero_le _, rfl, fun i y h => by omega⟩
  case round =>
    obtain ⟨k, hk, rfl, hI⟩ := hrel
    by_cases hlt : k < zs.length
    · obtain ⟨ad, z, rfl, hz, hz2, hc⟩ := H3.out k hlt
      have HZ := Lib.hid hz
      clear hz hz2
      go_wp2_with fail
      refine (HP.out z).mono ?_
      rintro e w' ⟨rfl, rfl⟩
      go_wp2_with fail
      · have hpz : p z = true := by assumption
        go_ret
        exact ⟨ret_int (idxF_hit hI.out HZ.out hpz).symm, rfl⟩
      · have hpz : p z = false := by assumption
        go_round
        case rel =>
          refine ⟨k + 1, by omega, by go_num, fun i y hi hy => ?_⟩
          by_cases e : i = k
          · subst e
            rw [HZ.out] at hy
            cases hy
            exact hpz
          · exact hI.out i y (by omega) hy
        case measure => simp [intOf]; omega
    · have : k = zs.length := by omega
      subst this
      go_wp2_with fail
      go_ret
      exact ⟨ret_int (idxF_miss hI.out).symm, rfl⟩

set_option maxHeartbeats 400000 in
theorem lib_ContainsFuncI (w : World) (v : Value) (zs : List Int) (g : Nat) (p : Int → Bool) (ha : Ints w v zs)
    (hcf : ∀ (args : Array Value) (w : World), Sem.run Tryz.prog (callFunc g args) w = .ok (.enter g args) w)
    (hp : ∀ z : Int, Calls Tryz.prog g #[.int .i64 z] w fun e w' => e = .returned (.bool (p z)) ∧ w = w') :
    Calls Tryz.prog 146 #[v, .func (.func g) #[] #[]] w fun e w' => e = .returned (.bool (zs.any p)) ∧ w = w' := by
  have HA := Lib.hid ha
  have HP := Lib.hid hp
  clear ha hp
  go_enter Tryz.func146, Tryz.ntmps146
  go_wp2_with (go_at_call 178; refine (lib_IndexFuncI _ _ _ _ _ HA.out hcf HP.out).mono ?_; rintro e w' ⟨rfl, rfl⟩)
  go_ret
  exact ⟨ret_bool (idxF_nonneg p zs), rfl⟩

set_option maxHeartbeats 400000 in
theorem i_areNumbers (w : World) (v : Value) (zs : List Int) (ha : Ints w v zs) : Calls Tryz.prog 117 #[v] w fun e w' => e = .returned (.bool (nums zs)) ∧ w = w' := by
  have HA := Lib.hid ha
  clear ha
  go_enter Tryz.func117, Tryz.ntmps117
  go_wp2_with (go_at_call 146; refine (lib_ContainsFuncI _ _ _ _ (fun z => !isNum z) HA.out (fun _ _ => by kernel_rfl) (fun z => i_areNumbers1 z _)).mono ?_; rintro e w' ⟨rfl, rfl⟩)
  go_ret
  exact ⟨ret_bool (by rw [any_not_nums, Bool.not_not]), rfl⟩

set_option maxHeartbeats 400000 in
theorem s_l01Numbers (w : World) (v : Value) (zs : List Int) (ha : Ints w v zs) : Calls Tryz.prog 116 #[v] w fun e w' => e = .returned (.bool (nums zs)) ∧ w = w' := by
  obtain ⟨A, c, rfl, h1, h2, h3⟩ := ha.open_
  clear ha
  have H3 := Lib.hid h3
  clear h3
  go_enter Tryz.func116, Tryz.ntmps116
  go_wp2_with fail
  go_loop [3] (fun i => ∃ k : Nat, k ≤ zs.length ∧ i = .int .i64 k ∧ Hid (∀ i y, i < k → zs[i]? = some y → isNum y = true)) (fun i => zs.length - (intOf i).toNat)
  case atStart => exact ⟨0, Nat.zero_le _, rfl, fun i y h => by omega⟩
  case round =>
    obtain ⟨k, hk, rfl, hI⟩ := hrel
    by_cases hlt : k < zs.length
    · obtain ⟨ad, z, rfl, hz, hz2, hc⟩ := H3.out k hlt
      have HZ := Lib.hid hz
      clear hz hz2
      go_wp2_with (go_at_call 145; refine (s_IsNumber _ _).mono ?_; rintro e w' ⟨rfl, rfl⟩)
      · have hpz : isNum z = false := by simpa using (by assumption : (!isNum z) = true)
        go_ret
        exact ⟨ret_bool (nums_false HZ.out hpz).symm, rfl⟩
      · have hpz : isNum z = true := by simpa using (by assumption : (!isNum z) = false)
        go_round
        case rel =>
          refine ⟨k + 1, by omega, by go_num, fun i y hi hy => ?_⟩
          by_cases e : i = k
          · subst e
            rw [HZ.out] at hy
            cases hy
            exact hpz
          · exact hI.out i y (by omega) hy
        case measure => simp [intOf]; omega
    · have : k = zs.length := by omega
      subst this
      go_wp2_with fail
      go_ret
      exact ⟨ret_bool (nums_all hI.out).symm, rfl⟩
end Go.Proofs.YtheldcjiogpbjaaGreat
set_option linter.unusedVariables false
set_option linter.unusedSimpArgs false
namespace Go.Proofs.YtheldcjiogpbjaaGreat
open Go.RowKit

set_option maxHeartbeats 400000 in
theorem lib_lengthI (w : World) (v : Value) (zs : List Int) (ha : Ints w v zs) : Calls Tryz.prog 68 #[v] w fun e w' => e = .returned (.int .i64 zs.length) ∧ w = w' := by
  obtain ⟨A, c, rfl, h1, h2, h3⟩ := ha.open_
  clear ha h3
  go_enter Tryz.func68, Tryz.ntmps68
  go_wp2
  go_ret
  exact ⟨rfl, rfl⟩

end Go.Proofs.YtheldcjiogpbjaaGreat
set_option maxRecDepth 100000
set_option linter.unusedVariables false
set_option linter.unusedSimpArgs false
namespace Go.Proofs.YtheldcjiogpbjaaGreat
open Go.RowKit

/-- a monomial: the factor and the powers -/
abbrev Mono := Int × List Int
/-- a monomial that can be read -/
def MonoArg (w : World) (v : Value) (m : Mono) : Prop := ∃ u, v = .agg #[.int .i64 m.1, u] ∧ In64 m.1 ∧ Ints w u m.2
theorem MonoArg.below {w w' : World} {v : Value} {m : Mono} (h : MonoArg w v m) (hb : Below w.heap.size w w') : MonoArg w' v m := by
  obtain ⟨u, rfl, h1, h2⟩ := h
  exact ⟨u, rfl, h1, h2.below hb⟩

def powOk (ps : List Int) : Bool := ps.all fun e => inR e 0 3
def degOk (ps : List Int) : Bool := powOk ps && decide (sumF id ps ≤ 3)
/-- is m a monomial of n variables? -/
def monoB (n : Int) (m : Mono) : Bool := degOk m.2 && (!decide (m.1 = 0) && (isNum m.1 && decide ((m.2.length : Int) = n)))
theorem powOk_take {ps : List Int} {j : Nat} (h : ∀ i y, i < j → ps[i]? = some y → inR y 0 3 = true) : ∀ x ∈ ps.take j, 0 ≤ x ∧ x ≤ 3 := by
  intro x hx
  obtain ⟨i, hi, rfl⟩ := List.getElem_of_mem hx
  have hl : i < j ∧ i < ps.length := by simp at hi; omega
  have := h i _ hl.1 (by rw [List.getElem?_eq_getElem hl.2])
  rw [List.getElem_take]
  exact inR_iff.1 this
theorem powOk_all {ps : List Int} (h : ∀ i y, i < ps.length → ps[i]? = some y → inR y 0 3 = true) : powOk ps = true := by
  unfold powOk
  rw [List.all_eq_true]
  intro x hx
  obtain ⟨i, hi, rfl⟩ := List.getElem_of_mem hx
  exact h i _ hi (List.getElem?_eq_getElem hi)
theorem powOk_no {ps : List Int} {j : Nat} {x : Int} (hx : ps[j]? = some x) (h : inR x 0 3 = false) : powOk ps = false := by
  unfold powOk
  rw [List.all_eq_false]
  exact ⟨x, List.mem_of_getElem? hx, by rw [h]; simp⟩

/-- the degree that the reference reckons -/
def degV (ps : List Int) : Int := if ps.all (fun e => inR e 0 100) then sumF id ps else 1000
theorem sumF_nonneg {ps : List Int} (h : ∀ x ∈ ps, 0 ≤ x) : 0 ≤ sumF id ps ∧ ∀ x ∈ ps, x ≤ sumF id ps := by
  induction ps with
  | nil => simp [sumF]
  | cons y r ih =>
    have h1 := ih (fun x hx => h x (List.mem_cons_of_mem _ hx))
    have h2 := h y List.mem_cons_self
    have e : sumF id (y :: r) = y + sumF id r := by simp [sumF]
    rw [e]
    refine ⟨by omega, fun x hx => ?_⟩
    rcases List.mem_cons.1 hx with rfl | hx
    · omega
    · have := h1.2 x hx; omega
theorem degV_ok (ps : List Int) : decide (degV ps ≤ 3) = degOk ps := by
  unfold degV degOk
  cases ha : ps.all (fun e => inR e 0 100) with
  | true =>
    rw [if_pos rfl]
    have h0 : ∀ x ∈ ps, 0 ≤ x := fun x hx => (inR_iff.1 (List.all_eq_true.1 ha x hx)).1
    have h1 := sumF_nonneg h0
    by_cases hs : sumF id ps ≤ 3
    · have hp : powOk ps = true := by
        unfold powOk
        rw [List.all_eq_true]
        intro x hx
        exact inR_iff.2 ⟨h0 x hx, by have := h1.2 x hx; omega⟩
      simp [hs, hp]
    · simp [hs]
  | false =>
    rw [if_neg (by simp)]
    have hp : powOk ps = false := by
      rw [List.all_eq_false] at ha
      obtain ⟨x, hx, hn⟩ := ha
      unfold powOk
      rw [List.all_eq_false]
      refine ⟨x, hx, ?_⟩
      simp only [Bool.not_eq_true] at hn ⊢
      have := inR_not.1 hn
      exact inR_not.2 (by omega)
    simp [hp]
theorem cent_no {ps : List Int} {j : Nat} {x : Int} (hx : ps[j]? = some x) (h : x < 0 ∨ 100 < x) : degV ps = 1000 := by
  unfold degV
  rw [if_neg]
  rw [Bool.not_eq_true, List.all_eq_false]
  exact ⟨x, List.mem_of_getElem? hx, by rw [Bool.not_eq_true]; exact inR_not.2 h⟩
theorem cent_all {ps : List Int} (h : ∀ i y, i < ps.length → ps[i]? = some y → 0 ≤ y ∧ y ≤ 100) : degV ps = sumF id ps := by
  unfold degV
  rw [if_pos]
  rw [List.all_eq_true]
  intro x hx
  obtain ⟨i, hi, rfl⟩ := List.getElem_of_mem hx
  exact inR_iff.2 (h i _ hi (List.getElem?_eq_getElem hi))

end Go.Proofs.YtheldcjiogpbjaaGreat
set_option maxRecDepth 100000
set_option linter.unusedVariables false
set_option linter.unusedSimpArgs false
namespace Go.Proofs.YtheldcjiogpbjaaGreat
open Go.RowKit

/-- a list of monomials that can be read -/
def Monos (w : World) (v : Value) (ms : List Mono) : Prop :=
  ∃ A c, v = .slice A ms.length c ∧ ms.length ≤ c ∧ c ≤ maxLen ∧ ∀ (k : Nat) (m : Mono), ms[k]? = some m → ∃ b o u, A = some ⟨b, o, none⟩ ∧ In64 m.1 ∧ Ints w u m.2 ∧ w.cell? ⟨b, o + k * 2, none⟩ = some (.int .i64 m.1) ∧ w.cell? ⟨b, o + k * 2 + 1, none⟩ = some u
theorem Monos.below {w w' : World} {v : Value} {ms : List Mono} (h : Monos w v ms) (hb : Below w.heap.size w w') : Monos w' v ms := by
  obtain ⟨A, c, rfl, h1, h2, h3⟩ := h
  refine ⟨A, c, rfl, h1, h2, fun k m hm => ?_⟩
  obtain ⟨b, o, u, hA, hf, hu, hc, hc'⟩ := h3 k m hm
  refine ⟨b, o, u, hA, hf, hu.below hb, ?_, ?_⟩
  · rw [hb.cell (World.block_lt_of_cell? w _ hc)]; exact hc
  · rw [hb.cell (World.block_lt_of_cell? w _ hc')]; exact hc'
theorem Monos.open_ {w : World} {v : Value} {ms : List Mono} (h : Monos w v ms) : ∃ A c, v = .slice A ms.length c ∧ ms.length ≤ c ∧ c ≤ 9223372036854775807 ∧ ∀ (k : Nat), k < ms.length → ∃ b o m u, A = some ⟨b, o, none⟩ ∧ ms[k]? = some m ∧ In64 m.1 ∧ Ints w u m.2 ∧ w.cell? ⟨b, o + k * 2, none⟩ = some (.int .i64 m.1) ∧ w.cell? ⟨b, o + k * 2 + 1, none⟩ = some u := by
  obtain ⟨A, c, rfl, h1, h2, h3⟩ := h
  refine ⟨A, c, rfl, h1, by simpa [maxLen] using h2, fun k hk => ?_⟩
  obtain ⟨b, o, u, hA, hf, hu, hc, hc'⟩ := h3 k ms[k] (List.getElem?_eq_getElem hk)
  exact ⟨b, o, ms[k], u, hA, List.getElem?_eq_getElem hk, hf, hu, hc, hc'⟩
/-- lists of monomials that can be read -/
def MRows (w : World) (v : Value) (pss : List (List Mono)) : Prop :=
  ∃ vs, Cells w v vs ∧ vs.length = pss.length ∧ ∀ (k : Nat) (u : Value) (ms : List Mono), vs[k]? = some u → pss[k]? = some ms → Monos w u ms
theorem MRows.below {w w' : World} {v : Value} {pss : List (List Mono)} (h : MRows w v pss) (hb : Below w.heap.size w w') : MRows w' v pss := by
  obtain ⟨vs, h1, h2, h3⟩ := h
  exact ⟨vs, h1.below hb, h2, fun k u ms hu hm => (h3 k u ms hu hm).below hb⟩
theorem MRows.open_ {w : World} {v : Value} {pss : List (List Mono)} (h : MRows w v pss) : ∃ A c, v = .slice A pss.length c ∧ pss.length ≤ c ∧ c ≤ 9223372036854775807 ∧ ∀ (k : Nat), k < pss.length → ∃ ad u ms, A = some ad ∧ pss[k]? = some ms ∧ Monos w u ms ∧ w.cell? (ad.add k) = some u := by
  obtain ⟨vs, ⟨A, c, rfl, h1, h2, h3⟩, h4, h5⟩ := h
  rw [h4] at h1 ⊢
  refine ⟨A, c, rfl, h1, by simpa [maxLen] using h2, fun k hk => ?_⟩
  have hv : vs[k]? = some (vs[k]'(by rw [h4]; exact hk)) := List.getElem?_eq_getElem _
  obtain ⟨ad, hA, hc⟩ := h3 k _ hv
  exact ⟨ad, _, pss[k], hA, List.getElem?_eq_getElem hk, h5 k _ _ hv (List.getElem?_eq_getElem hk), hc⟩
def FieldArg (w : World) (v : Value) (n : Int) (pss : List (List Mono)) : Prop := ∃ vp, v = .agg #[.int .i64 n, vp] ∧ In64 n ∧ MRows w vp pss

end Go.Proofs.YtheldcjiogpbjaaGreat
set_option maxRecDepth 100000
set_option linter.unusedVariables false
set_option linter.unusedSimpArgs false
namespace Go.Proofs.YtheldcjiogpbjaaGreat
open Go.RowKit

/-- is the k-th monomial no monomial, or not behind the one ahead of it? -/
def badAt (n : Int) (ms : List Mono) (k : Nat) : Bool := !monoB n (ms.getD k (0, [])) || (decide (0 < k) && !lessL (ms.getD (k - 1) (0, [])).2 (ms.getD k (0, [])).2)
def partB (n : Int) (ms : List Mono) : Bool := (List.range ms.length).all fun k => !badAt n ms k
def fieldB (n : Int) (pss : List (List Mono)) : Bool := inR n 1 3 && (decide ((pss.length : Int) = n) && pss.all (partB n))
theorem partB_no {n : Int} {ms : List Mono} {k : Nat} (hk : k < ms.length) (h : badAt n ms k = true) : partB n ms = false := by
  unfold partB
  rw [List.all_eq_false]
  exact ⟨k, List.mem_range.2 hk, by rw [h]; simp⟩
theorem partB_all {n : Int} {ms : List Mono} (h : ∀ k, k < ms.length → badAt n ms k = false) : partB n ms = true := by
  unfold partB
  rw [List.all_eq_true]
  intro k hk
  rw [h k (List.mem_range.1 hk)]
  rfl
theorem parts_no {n : Int} {pss : List (List Mono)} {j : Nat} {ms : List Mono} (hm : pss[j]? = some ms) (h : partB n ms = false) : pss.all (partB n) = false := by
  rw [List.all_eq_false]
  exact ⟨ms, List.mem_of_getElem? hm, by rw [h]; simp⟩
theorem parts_all {n : Int} {pss : List (List Mono)} (h : ∀ i ms, i < pss.length → pss[i]? = some ms → partB n ms = true) : pss.all (partB n) = true := by
  rw [List.all_eq_true]
  intro ms hm
  obtain ⟨i, hi, rfl⟩ := List.getElem_of_mem hm
  exact h i _ hi (List.getElem?_eq_getElem hi)

end Go.Proofs.YtheldcjiogpbjaaGreat
set_option maxRecDepth 100000
set_option linter.unusedVariables false
set_option linter.unusedSimpArgs false
namespace Go.Proofs.YtheldcjiogpbjaaGreat
open Go.RowKit

theorem quiet_lessF {w : World} {n : Nat} {v v' : Value} {a b : List Int} (h : Ints w v a) (h' : Ints w v' b) :
    Calls Tryz.prog 151 #[v, v'] (w.drewN n) fun e w'' => e = .returned (.bool (lessL a b)) ∧ ∃ m, w'' = w.drewN m :=
  (s_l01Less _ _ _ a b (h.drewN n) (h'.drewN n)).mono fun _ _ ⟨he, m, hm⟩ => ⟨he, n + m, by rw [hm, World.drewN_drewN]⟩

theorem factor_in (f : Int) : inR f 1 10006 = (!decide (f = 0) && isNum f) := by
  unfold isNum inR
  by_cases h : f = 0
  · subst h; decide
  · by_cases h1 : 1 ≤ f
    · have : 0 ≤ f := by omega
      simp [h, h1, this]
    · have : ¬ 0 ≤ f := by omega
      simp [h1, this]

theorem monoB_eq (n f : Int) (ps : List Int) : monoB n (f, ps) = (inR f 1 10006 && (decide ((ps.length : Int) = n) && degOk ps)) := by
  unfold monoB
  rw [factor_in]
  cases degOk ps <;> cases decide (f = 0) <;> cases isNum f <;> cases decide ((ps.length : Int) = n) <;> rfl

end Go.Proofs.YtheldcjiogpbjaaGreat
set_option maxRecDepth 100000
set_option linter.unusedVariables false
set_option linter.unusedSimpArgs false
namespace Go.Proofs.YtheldcjiogpbjaaGreat
open Go.RowKit

section
variable {w : World} {B : Nat} {vs us : List Value} {xss yss : List (List Int)}
theorem RR.append (h : RR w B vs xss) (h' : RR w B us yss) : RR w B (vs ++ us) (xss ++ yss) := by
  refine ⟨by simp [h.1, h'.1], fun k u zs hu hz => ?_⟩
  by_cases hlt : k < vs.length
  · rw [List.getElem?_append_left hlt] at hu
    rw [List.getElem?_append_left (by rw [← h.1]; exact hlt)] at hz
    exact h.2 k u zs hu hz
  · rw [List.getElem?_append_right (by omega)] at hu
    rw [List.getElem?_append_right (by rw [← h.1]; omega), ← h.1] at hz
    exact h'.2 _ u zs hu hz
theorem RR.take (h : RR w B vs xss) (k : Nat) : RR w B (vs.take k) (xss.take k) := by
  refine ⟨by simp [h.1], fun j u zs hu hz => ?_⟩
  rw [List.getElem?_take] at hu hz
  split at hu
  · rw [if_pos (by assumption)] at hz
    exact h.2 j u zs hu hz
  · cases hu
theorem RR.drop (h : RR w B vs xss) (k : Nat) : RR w B (vs.drop k) (xss.drop k) := by
  refine ⟨by simp [h.1], fun j u zs hu hz => ?_⟩
  rw [List.getElem?_drop] at hu hz
  exact h.2 _ u zs hu hz
theorem RR.one {u : Value} {zs : List Int} (h : OwnInts w B tI u zs) : RR w B [u] [zs] := (RR.nil w B).snoc h
theorem RR.insert {u : Value} {zs : List Int} (h : RR w B vs xss) (hu : OwnInts w B tI u zs) (k : Nat) : RR w B ([] ++ vs.take k ++ ([u] ++ vs.drop k)) (xss.take k ++ zs :: xss.drop k) :=
  (h.take k).append ((RR.one hu).append (h.drop k))
end

/-- 's[k:]' and 's[:k]' of a list of lists -/
theorem cells_from {w : World} {A : Option Addr} {n c : Nat} {vs : List Value} (h : Cells w (.slice A n c) vs) (hn : n = vs.length) (k : Nat) (hk : k ≤ vs.length) :
    ∃ y, (∀ W, (Instr.slice 43 (.slice A n c) (some (.int .i64 k)) none none).run Tryz.prog W = .ok y W) ∧ Cells w y (vs.drop k) := by
  obtain ⟨X, h1, h2⟩ := sliced_cells h (k := k) (m := vs.length) hk (Nat.le_refl _)
  rw [List.take_length] at h2
  exact ⟨_, fun W => by rw [sl_from Tryz.underlying43 sizeL W A n c k k rfl (by omega), hn, h1], h2⟩
theorem cells_to {w : World} {A : Option Addr} {n c : Nat} {vs : List Value} (h : Cells w (.slice A n c) vs) (hc : n ≤ c) (hn : n = vs.length) (k : Nat) (hk : k ≤ vs.length) :
    ∃ y, (∀ W, (Instr.slice 43 (.slice A n c) none (some (.int .i64 k)) none).run Tryz.prog W = .ok y W) ∧ Cells w y (vs.take k) := by
  obtain ⟨X, h1, h2⟩ := sliced_cells h (k := 0) (m := k) (Nat.zero_le _) hk
  simp only [List.drop_zero] at h2
  exact ⟨_, fun W => by rw [sl_to Tryz.underlying43 sizeL W A n c k k rfl (by omega), h1], h2⟩
theorem bdA (w : World) (n : Nat) (o : Obj) : Below w.heap.size w ((w.drewN n).alloc o) := (below_drewN (Below.refl _ _) n).alloc (Nat.le_refl _) _

set_option maxHeartbeats 8000000 in
theorem s_l03Canon : ∀ (f : Nat) (w : World) (v : Value) (t r : List Nat), Ints w v (up t) → canO f t = some r → t.length ≤ 1000 → (∀ l ∈ t, l ≤ 1000000) →
    Calls Tryz.prog 123 #[v] w fun e w' => ∃ x, e = .returned x ∧ OwnInts w' w.heap.size tI x (up r) ∧ Below w.heap.size w w' := by
  intro f
  induction f with
  | zero => intro w v t r _ h; cases h
  | succ f ih =>
    intro w v t r ha hcan hn hl
    obtain ⟨bs, cs, hb, hm, hr⟩ := canO_parts hcan
    have IH := Lib.hid ih
    have HA := Lib.hid ha
    have HB := Lib.hid hb
    have HM := Lib.hid hm
    have HR := Lib.hid hr
    have HL := Lib.hid hl
    have HLE := Lib.hid (brO_lens hb hn)
    have HLM := Lib.hid (brO_mem hb hl)
    have HRL := Lib.hid (show r.length ≤ 1000 by rw [canO_len hcan]; exact hn)
    have HCL := Lib.hid (mapO_len hm)
    have hbl : bs.length ≤ 1000 := HLE.out.1
    obtain ⟨A, c, rfl, -, -, -⟩ := ha.open_
    rw [up_len] at HA ⊢
    clear ih ha hb hm hr hl hcan
    go_enter Tryz.func123, Tryz.ntmps123
    go_wp2_with (go_at_call 138; refine (s_l03Parts _ _ t bs HA.out HB.out hn HL.out).mono ?_; rintro e w1 ⟨r1, rfl, ho1, hb1⟩; have HP := Lib.hid ho1.rows; have HB1 := Lib.hid hb1; obtain ⟨A1, c1, hr1, -, -, hrow1⟩ := ho1.rows.open_; rw [List.length_map] at hr1 hrow1; subst hr1; have HROW := Lib.hid hrow1; have OL := Lib.hid (show Own (w1.alloc (.cells #[] tL)) w1.heap.size tL (.slice (some ⟨w1.heap.size, 0, none⟩) 0 0) [] from own_lit w1 tL [] (by simp [maxLen])); clear ho1 hb1 hrow1)
    go_loopw [4, 5, 6, 7, 8] (fun sv i s6 s7 s8 wr => ∃ (j : Nat) (vs : List Value), j ≤ bs.length ∧ i = .int .i64 j ∧ Own wr w1.heap.size tL sv vs ∧ RR wr w1.heap.size vs ((srtF [] (cs.take j)).map up) ∧ Below w1.heap.size w1 wr) (fun _ i _ _ _ _ => bs.length - (intOf i).toNat)
    case atStart => exact ⟨0, [], Nat.zero_le _, rfl, OL.out, RR.nil _ _, below1 _ _⟩
    case round =>
      obtain ⟨j, vs, hj, rfl, hown, hrr, hbw⟩ := hrel
      clear OL
      have HO := Lib.hid hown
      have HRR := Lib.hid hrr
      have HBW := Lib.hid hbw
      obtain ⟨A2, c2, rfl, k1, k2⟩ := hown.cells.open_
      have hvl : vs.length = j := by rw [hrr.1, List.length_map, len_srtF, List.length_take, HCL.out]; simp; omega
      have HVL := Lib.hid hvl
      have HSL := Lib.hid (show (srtF [] (cs.take j)).length = j by rw [len_srtF, List.length_take, HCL.out]; simp; omega)
      rw [hvl] at HO k1 ⊢
      clear hown hrr hbw hvl
      by_cases hlt : j < bs.length
      · obtain ⟨ad, u, zs, rfl, hz, hu, hc0⟩ := HROW.out j hlt
        have hc : wr.cell? (ad.add j) = some u := by
          rw [HBW.out.cell (by rw [block_add]; have := World.block_lt_of_cell? w1 _ hc0; rwa [block_add] at this)]; exact hc0
        have hbj : bs[j]? = some (bs[j]'hlt) := List.getElem?_eq_getElem _
        obtain ⟨cj, hcj, hcan⟩ := mapO_get HM.out j _ hbj
        have hzb : zs = up (bs[j]'hlt) := by rw [List.getElem?_map, hbj] at hz; injection hz with hz; exact hz.symm
        subst hzb
        have HU := Lib.hid (hu.below HBW.out)
        have HCAN := Lib.hid hcan
        have HSN := Lib.hid (show srtF [] (cs.take (j + 1)) = insD cj (srtF [] (cs.take j)) by rw [List.take_add_one, hcj]; exact srtF_snoc _ _ _)
        have HBJ1 := Lib.hid (HLE.out.2 _ (List.mem_of_getElem? hbj))
        have HBJ2 := Lib.hid (HLM.out _ (List.mem_of_getElem? hbj))
        have hji : (j : Int) < (bs.length : Int) := by omega
        generalize hss : srtF [] (cs.take j) = ss at HRR HSN HSL
        generalize bs[j]'hlt = bj at HU HCAN HBJ1 HBJ2
        clear hz hu hc0 hbj hcj hcan hss
        go_wp2_with (go_at_call 123; refine (IH.out _ _ _ _ HU.out HCAN.out HBJ1.out HBJ2.out).mono ?_; rintro e w2 ⟨r2, rfl, ho2, hb2⟩; obtain ⟨A5, c5, he5, -, -, -⟩ := ho2.ints.open_; rw [up_len] at he5; subst he5; have HO2 := Lib.hid ho2; have HB2 := Lib.hid hb2; clear ho2 hb2)
        have HIN := Lib.hid (insD_at cj ss)
        have HST := Lib.hid (insAt_step cj ss)
        have HAL := Lib.hid (show insAt cj ss ≤ j from by have := insAt_le cj ss; rw [HSL.out] at this; exact this)
        have hj1 : j ≤ 1000 := by omega
        have HOW2 := Lib.hid (HO.out.below HB2.out)
        have HONE := Lib.hid HRR.out.oneCell
        generalize insAt cj ss = a at HIN HST HAL
        go_loopw [7] (fun i wi => ∃ (k n : Nat), k ≤ a ∧ i = .int .i64 k ∧ wi = w2.drewN n) (fun i _ => a - (intOf i).toNat)
        case atStart => exact ⟨0, 0, Nat.zero_le _, rfl, rfl⟩
        case round =>
          obtain ⟨k, n, hk, rfl, rfl⟩ := hrel
          have hrow : k < j → ∃ ad' u' q, A2 = some ad' ∧ w2.cell? (ad'.add k) = some u' ∧ Ints w2 u' (up q) ∧ ss[k]? = some q := by
            intro hkj
            have hu' : vs[k]? = some (vs[k]'(by rw [HVL.out]; exact hkj)) := List.getElem?_eq_getElem _
            have hq : ss[k]? = some (ss[k]'(by rw [HSL.out]; exact hkj)) := List.getElem?_eq_getElem _
            have hi := HRR.out.2 k _ _ hu' (by rw [List.getElem?_map, hq]; rfl)
            obtain ⟨ad', n', c', he, hc'⟩ := HOW2.out.cells.at_ hu'
            simp only [Value.slice.injEq] at he
            exact ⟨ad', _, _, he.1, hc', (hi.below HB2.out).ints, hq⟩
          by_cases hlt2 : k < a
          · obtain ⟨ad', u', q, rfl, hc', hq1, hq2⟩ := hrow (by have := HAL.out; omega)
            have hless : ltN q cj = false := by
              rcases HST.out k q (by omega) hq2 with ⟨_, h⟩ | ⟨h, _⟩
              · omega
              · exact h
            have HQ := Lib.hid hq1
            have hkj : (k : Int) < (j : Int) := by have := HAL.out; omega
            clear hq1 hq2 hrow
            go_wp2_with (go_at_call 151; refine (quiet_lessF HQ.out HO2.out.ints).mono ?_; rintro e w3 ⟨rfl, n3, rfl⟩; rw [lessL_up, hless])
            go_roundw
            case rel => exact ⟨k + 1, n3, by omega, by go_num, rfl⟩
            case measure => simp [intOf]; omega
          · have hka : a = k := by omega
            subst hka
            have haj := HAL.out
            obtain ⟨y1, hy1, hcy1⟩ := cells_from HOW2.out.cells HVL.out.symm a (by rw [HVL.out]; exact haj)
            obtain ⟨y2, hy2, hcy2⟩ := cells_to HOW2.out.cells k1 HVL.out.symm a (by rw [HVL.out]; exact haj)
            have HCY1 := Lib.hid hcy1
            have HCY2 := Lib.hid hcy2
            have hcase : (∃ ad' u' q, A2 = some ad' ∧ w2.cell? (ad'.add a) = some u' ∧ Ints w2 u' (up q) ∧ ltN q cj = true ∧ (a : Int) < (j : Int)) ∨ j = a := by
              by_cases h : a < j
              · obtain ⟨ad', u', q, h1, h2, h3, h4⟩ := hrow h
                refine .inl ⟨ad', u', q, h1, h2, h3, ?_, by omega⟩
                rcases HST.out a q (Nat.le_refl _) h4 with ⟨h, _⟩ | ⟨_, h⟩
                · exact h
                · omega
              · exact .inr (by omega)
            clear hcy1 hcy2 hrow hlt2 hk
            rcases hcase with ⟨ad', u', q, rfl, hc', hq1, hless, hkj⟩ | rfl
            · have HQ := Lib.hid hq1
              clear hq1
              go_wp2_with (first
                | (go_at_call 151; refine (quiet_lessF HQ.out HO2.out.ints).mono ?_; rintro e w3 ⟨rfl, n3, rfl⟩; rw [lessL_up, hless])
                | (at_builtin; refine wpList_appN T_row (B := w2.heap.size) (v := .slice (some ⟨w2.heap.size, 0, none⟩) 1 1) (vs := [.slice A5 cj.length c5]) (own_lit _ tL [.slice A5 cj.length c5] (by simp [maxLen])) (HCY1.out.below (bdA _ _ _)) (by have h := HVL.out; simp only [List.length_drop, List.length_cons, List.length_nil, h]; omega) (by simp) (fun u hu => HONE.out u (List.mem_of_mem_drop hu)) (by rfl) rfl (by rfl) (by rfl) ?_; intro v1 w3 hown1 hgr1; have HB3 := Lib.hid (hgr1.below (bdA _ _ _) (bdA _ _ _).size (fun b hb => by simp [Value.ownBlock] at hb; omega)); clear hgr1)
                | (at_builtin; refine wpList_appN T_row (B := w3.heap.size) (v := .slice (some ⟨w3.heap.size, 0, none⟩) 0 0) (vs := []) (own_lit w3 tL [] (by simp [maxLen])) ((HCY2.out.below HB3.out).below (below1 w3 _)) (by have h := HVL.out; simp only [List.length_take, List.length_nil, h]; omega) (by simp) (fun u hu => HONE.out u (List.mem_of_mem_take hu)) (by rfl) rfl (by rfl) (by rfl) ?_; intro v2 w4 hown2 hgr2; have HB4 := Lib.hid (hgr2.below (below1 w3 _) (below1 w3 _).size (fun b hb => by simp [Value.ownBlock] at hb; omega)); clear hgr2)
                | (at_builtin; refine wpList_appN T_row (B := w3.heap.size) (v := v2) hown2 (hown1.below HB4.out).cells (by have h := HVL.out; simp only [List.length_append, List.length_take, List.length_drop, List.length_cons, List.length_nil, h]; omega) HB4.out.size (fun u hu => by rcases List.mem_append.1 hu with hu | hu; (simp at hu; subst hu; exact (RR.one HO2.out).oneCell _ (by simp)); exact HONE.out u (List.mem_of_mem_drop hu)) (by rfl) rfl (by rfl) (by rfl) ?_; intro v3 w5 hown3 hgr3; have HB5 := Lib.hid (hgr3.below HB4.out HB4.out.size hown2.ge); clear hgr3))
              go_roundw
              case rel =>
                have b25 := HB3.out.trans (HB5.out.mono HB3.out.size)
                have bw5 := HB2.out.trans (b25.mono HB2.out.size)
                refine ⟨j + 1, _, by omega, by go_num, hown3.mono (Nat.le_trans HBW.out.size (Nat.le_trans HB2.out.size HB3.out.size)), ?_, HBW.out.trans (bw5.mono HBW.out.size)⟩
                rw [HSN.out, HIN.out, List.map_append, List.map_cons, List.map_take, List.map_drop]
                exact (HRR.out.below bw5).insert ((HO2.out.below b25).mono HBW.out.size) _
              case measure => simp [intOf]; omega
            · clear hc
              go_wp2_with (first
                | (at_builtin; refine wpList_appN T_row (B := w2.heap.size) (v := .slice (some ⟨w2.heap.size, 0, none⟩) 1 1) (vs := [.slice A5 cj.length c5]) (own_lit _ tL [.slice A5 cj.length c5] (by simp [maxLen])) (HCY1.out.below (bdA _ _ _)) (by have h := HVL.out; simp only [List.length_drop, List.length_cons, List.length_nil, h]; omega) (by simp) (fun u hu => HONE.out u (List.mem_of_mem_drop hu)) (by rfl) rfl (by rfl) (by rfl) ?_; intro v1 w3 hown1 hgr1; have HB3 := Lib.hid (hgr1.below (bdA _ _ _) (bdA _ _ _).size (fun b hb => by simp [Value.ownBlock] at hb; omega)); clear hgr1)
                | (at_builtin; refine wpList_appN T_row (B := w3.heap.size) (v := .slice (some ⟨w3.heap.size, 0, none⟩) 0 0) (vs := []) (own_lit w3 tL [] (by simp [maxLen])) ((HCY2.out.below HB3.out).below (below1 w3 _)) (by have h := HVL.out; simp only [List.length_take, List.length_nil, h]; omega) (by simp) (fun u hu => HONE.out u (List.mem_of_mem_take hu)) (by rfl) rfl (by rfl) (by rfl) ?_; intro v2 w4 hown2 hgr2; have HB4 := Lib.hid (hgr2.below (below1 w3 _) (below1 w3 _).size (fun b hb => by simp [Value.ownBlock] at hb; omega)); clear hgr2)
                | (at_builtin; refine wpList_appN T_row (B := w3.heap.size) (v := v2) hown2 (hown1.below HB4.out).cells (by have h := HVL.out; simp only [List.length_append, List.length_take, List.length_drop, List.length_cons, List.length_nil, h]; omega) HB4.out.size (fun u hu => by rcases List.mem_append.1 hu with hu | hu; (simp at hu; subst hu; exact (RR.one HO2.out).oneCell _ (by simp)); exact HONE.out u (List.mem_of_mem_drop hu)) (by rfl) rfl (by rfl) (by rfl) ?_; intro v3 w5 hown3 hgr3; have HB5 := Lib.hid (hgr3.below HB4.out HB4.out.size hown2.ge); clear hgr3))
              go_roundw
              case rel =>
                have b25 := HB3.out.trans (HB5.out.mono HB3.out.size)
                have bw5 := HB2.out.trans (b25.mono HB2.out.size)
                refine ⟨j + 1, _, by omega, by go_num, hown3.mono (Nat.le_trans HBW.out.size (Nat.le_trans HB2.out.size HB3.out.size)), ?_, HBW.out.trans (bw5.mono HBW.out.size)⟩
                rw [HSN.out, HIN.out, List.map_append, List.map_cons, List.map_take, List.map_drop]
                exact (HRR.out.below bw5).insert ((HO2.out.below b25).mono HBW.out.size) _
              case measure => simp [intOf]; omega
      · have : j = bs.length := by omega
        subst this
        have HE := Lib.hid (show rootN (srtF [] (cs.take bs.length)) = r by rw [← HCL.out, List.take_length]; exact HR.out.symm)
        have HSB := Lib.hid (show ∀ q ∈ srtF [] (cs.take bs.length), q.length ≤ 1000 ∧ ∀ l ∈ q, l < 1000 from fun q hq => by
          rcases mem_srtF hq with h | h
          · simp at h
          · obtain ⟨x, hx, hxq⟩ := mapO_all HM.out q (List.mem_of_mem_take h)
            have h1 := canO_len hxq
            have h2 := HLE.out.2 x hx
            exact ⟨by omega, fun l hl => by have := canO_lt hxq l hl; omega⟩)
        generalize hss : srtF [] (cs.take bs.length) = ss at HRR HSL HE HSB
        have HBT := Lib.hid (show ∀ j, brLen (ss.take j) ≤ 1000 from fun j => by
          have h1 := congrArg brLen (List.take_append_drop j ss)
          have h2 := HRL.out
          rw [← HE.out, rootN, List.length_cons, bumps_len] at h2
          rw [brLen_append] at h1
          omega)
        have OL2 := Lib.hid (show OwnInts (wr.alloc (.cells #[.int .i64 0] tI)) wr.heap.size tI (.slice (some ⟨wr.heap.size, 0, none⟩) 1 1) [0] from ⟨own_lit wr tI [.int .i64 0] (by simp [maxLen]), fun z hz => by simp at hz; subst hz; unfold In64; omega⟩)
        clear hss
        go_wp2_with fail
        obtain ⟨w3, rfl⟩ : ∃ w3 : World, w3 = wr := ⟨_, rfl⟩
        go_loopw [9, 10, 11] (fun o i s11 wq => ∃ j : Nat, j ≤ bs.length ∧ i = .int .i64 j ∧ OwnInts wq w3.heap.size tI o (up (0 :: bumps (ss.take j))) ∧ Below w3.heap.size w3 wq) (fun _ i _ _ => bs.length - (intOf i).toNat)
        case atStart => exact ⟨0, Nat.zero_le _, rfl, by simpa [up, bumps] using OL2.out, below1 _ _⟩
        case round =>
          obtain ⟨j, hj, rfl, ho, hb⟩ := hrel
          clear OL2
          have HOI := Lib.hid ho
          have HBQ := Lib.hid hb
          clear ho hb
          by_cases hlt : j < bs.length
          · have hu' : vs[j]? = some (vs[j]'(by rw [HVL.out]; exact hlt)) := List.getElem?_eq_getElem _
            have hq : ss[j]? = some (ss[j]'(by rw [HSL.out]; exact hlt)) := List.getElem?_eq_getElem _
            have hi := HRR.out.2 j _ _ hu' (by rw [List.getElem?_map, hq]; rfl)
            obtain ⟨ad', n', c', he, hc'⟩ := HO.out.cells.at_ hu'
            simp only [Value.slice.injEq] at he
            obtain ⟨rfl, -, -⟩ := he
            obtain ⟨Aq, cq, heq, l1, l2, hcq⟩ := hi.ints.open_
            have HQB := Lib.hid (HSB.out _ (List.mem_of_getElem? hq))
            have HSN := Lib.hid (show ss.take (j + 1) = ss.take j ++ [ss[j]'(by rw [HSL.out]; exact hlt)] by rw [List.take_add_one, hq]; rfl)
            rw [heq] at hc'
            generalize ss[j]'(by rw [HSL.out]; exact hlt) = q at HQB HSN hc' hcq l1
            rw [up_len] at hc' hcq l1
            have HCU := Lib.hid (show ∀ W : World, Below w3.heap.size w3 W → W.cell? (ad'.add j) = some (.slice Aq q.length cq) from fun W hW => by rw [hW.cell (by rw [block_add]; have := World.block_lt_of_cell? w3 _ hc'; rwa [block_add] at this)]; exact hc')
            have HCQ := Lib.hid hcq
            have hji : (j : Int) < (bs.length : Int) := by omega
            clear hu' hq hi hc' heq hcq
            go_wp2_with fail
            obtain ⟨wo, rfl⟩ : ∃ wo : World, wo = wr := ⟨_, rfl⟩
            go_loopw [9, 11] (fun o i wi => ∃ k : Nat, k ≤ q.length ∧ i = .int .i64 k ∧ OwnInts wi w3.heap.size tI o (up (0 :: bumps (ss.take j) ++ bump (q.take k))) ∧ Below w3.heap.size w3 wi) (fun _ i _ => q.length - (intOf i).toNat)
            case atStart => exact ⟨0, Nat.zero_le _, rfl, by simpa [bump] using HOI.out, HBQ.out⟩
            case round =>
              obtain ⟨k, hk, rfl, ho, hb⟩ := hrel
              clear HOI HBQ
              have HOI := Lib.hid ho
              have HBQ := Lib.hid hb
              have hcu := HCU.out _ hb
              clear ho hb
              by_cases hlt2 : k < q.length
              · obtain ⟨aq, z, rfl, hz, -, hcz0⟩ := HCQ.out k hlt2
                obtain ⟨l, hlk, hzl⟩ := up_getD hz
                have hcz : wr.cell? (aq.add k) = some (.int .i64 z) := by
                  rw [HBQ.out.cell (by rw [block_add]; have := World.block_lt_of_cell? w3 _ hcz0; rwa [block_add] at this)]; exact hcz0
                have hl1 := HQB.out.2 l (List.mem_of_getElem? hlk)
                have hwz : IntKind.i64.wrap (z + 1) = z + 1 := IntWalk.i64_in _ (by omega)
                have hz64 : In64 (z + 1) := by unfold In64; omega
                have HTK := Lib.hid (show bump (q.take (k + 1)) = bump (q.take k) ++ [l + 1] by rw [List.take_add_one, hlk, bump_append]; rfl)
                have HZL := Lib.hid hzl
                have HLN := Lib.hid (show (up (0 :: bumps (ss.take j) ++ bump (q.take k))).length ≤ 1000000 by
                  have h1 := HBT.out j
                  have h2 := HQB.out.1
                  rw [up_len, List.length_append, List.length_cons, bumps_len, bump_len, List.length_take]
                  omega)
                have hki : (k : Int) < (q.length : Int) := by omega
                clear hz hlk hcz0 hzl hl1
                go_wp2_with (at_builtin; refine wpList_app1 T_int HOI.out.1 (by rw [ints_len]; have := HLN.out; omega) HBQ.out.size (by rfl) rfl (by rfl) (by rfl) (by rfl) ?_; intro v1 w5 hown1 hgr1; have HN := Lib.hid hown1; have HB5 := Lib.hid (hgr1.below HBQ.out HBQ.out.size HOI.out.1.ge); clear hown1 hgr1)
                go_roundw
                case rel =>
                  refine ⟨k + 1, by omega, by go_num, ?_, HB5.out⟩
                  have e : up (0 :: bumps (ss.take j) ++ bump (q.take (k + 1))) = up (0 :: bumps (ss.take j) ++ bump (q.take k)) ++ [z + 1] := by
                    rw [HTK.out, ← List.append_assoc, up_append, HZL.out]; rfl
                  rw [e]
                  exact ⟨by simpa [ints] using HN.out, fun y hy => by rcases List.mem_append.1 hy with hy | hy; exact HOI.out.2 y hy; simp at hy; subst hy; exact hz64⟩
                case measure => simp [intOf]; omega
              · have : k = q.length := by omega
                subst this
                have e : up (0 :: bumps (ss.take j) ++ bump (q.take q.length)) = up (0 :: bumps (ss.take (j + 1))) := by
                  rw [List.take_length, HSN.out, bumps_append]; simp [bumps]
                have HOI2 := Lib.hid (e ▸ HOI.out)
                clear HOI e
                go_wp2_with fail
                go_roundw
                case rel => exact ⟨j + 1, by omega, by go_num, HOI2.out, HBQ.out⟩
                case measure => simp [intOf]; omega
          · have : j = bs.length := by omega
            subst this
            go_wp2_with fail
            go_ret
            have hfin := HOI.out
            rw [← HSL.out, List.take_length] at hfin
            have hr : up (0 :: bumps ss) = up r := by rw [← HE.out]; rfl
            rw [hr] at hfin
            have b13 := HBW.out.trans (HBQ.out.mono HBW.out.size)
            exact ⟨_, rfl, hfin.mono (Nat.le_trans HB1.out.size HBW.out.size), HB1.out.trans (b13.mono HB1.out.size)⟩
end Go.Proofs.YtheldcjiogpbjaaGreat
set_option maxRecDepth 100000
set_option linter.unusedVariables false
set_option linter.unusedSimpArgs false
namespace Go.Proofs.YtheldcjiogpbjaaGreat
open Go.RowKit

set_option maxHeartbeats 4000000 in
theorem i_rootOn (w : World) (v : Value) (ss : List (List Nat)) (ha : Rows w v (ss.map up)) (hsb : ∀ q ∈ ss, q.length ≤ 1000 ∧ ∀ l ∈ q, l < 1000000) (hbt : brLen ss ≤ 1000) (hn : ss.length ≤ 1000) :
    Calls Tryz.prog 166 #[v] w fun e w' => ∃ x, e = .returned x ∧ OwnInts w' w.heap.size tI x (up (rootN ss)) ∧ Below w.heap.size w w' := by
  obtain ⟨A, c, rfl, l1, l2, h3⟩ := ha.open_
  rw [List.length_map] at h3 l1 ⊢
  have H3 := Lib.hid h3
  have HSB := Lib.hid hsb
  have HBT := Lib.hid (show ∀ j, brLen (ss.take j) ≤ 1000 from fun j => by
    have h1 := congrArg brLen (List.take_append_drop j ss)
    rw [brLen_append] at h1
    omega)
  have OL2 := Lib.hid (show OwnInts (w.alloc (.cells #[.int .i64 0] tI)) w.heap.size tI (.slice (some ⟨w.heap.size, 0, none⟩) 1 1) [0] from ⟨own_lit w tI [.int .i64 0] (by simp [maxLen]), fun z hz => by simp at hz; subst hz; unfold In64; omega⟩)
  clear ha h3 hsb hbt
  go_enter Tryz.func166, Tryz.ntmps166
  go_wp2_with fail
  go_loopw [3, 11] (fun o i wq => ∃ j : Nat, j ≤ ss.length ∧ i = .int .i64 j ∧ OwnInts wq w.heap.size tI o (up (0 :: bumps (ss.take j))) ∧ Below w.heap.size w wq) (fun _ i _ => ss.length - (intOf i).toNat)
  case atStart => exact ⟨0, Nat.zero_le _, rfl, by simpa [up, bumps] using OL2.out, below1 _ _⟩
  case round =>
    obtain ⟨j, hj, rfl, ho, hb⟩ := hrel
    clear OL2
    have HOI := Lib.hid ho
    have HBQ := Lib.hid hb
    clear ho hb
    by_cases hlt : j < ss.length
    · obtain ⟨ad', u, zs, rfl, hz, hu, hc'⟩ := H3.out j hlt
      have hq : ss[j]? = some (ss[j]'hlt) := List.getElem?_eq_getElem _
      have hzq : zs = up (ss[j]'hlt) := by rw [List.getElem?_map, hq] at hz; injection hz with hz; exact hz.symm
      subst hzq
      obtain ⟨Aq, cq, heq, l1, l2, hcq⟩ := hu.open_
      have HQB := Lib.hid (HSB.out _ (List.mem_of_getElem? hq))
      have HSN := Lib.hid (show ss.take (j + 1) = ss.take j ++ [ss[j]'hlt] by rw [List.take_add_one, hq]; rfl)
      rw [heq] at hc'
      generalize ss[j]'hlt = q at HQB HSN hc' hcq l1
      rw [up_len] at hc' hcq l1
      have hcu : wr.cell? (ad'.add j) = some (.slice Aq q.length cq) := by rw [HBQ.out.cell (by rw [block_add]; have := World.block_lt_of_cell? w _ hc'; rwa [block_add] at this)]; exact hc'
      have HCQ := Lib.hid hcq
      have hji : (j : Int) < (ss.length : Int) := by omega
      clear hz hq hu hc' heq hcq
      go_wp2_with fail
      clear hcu
      obtain ⟨wo, rfl⟩ : ∃ wo : World, wo = wr := ⟨_, rfl⟩
      go_loopw [3, 17] (fun o i wi => ∃ k : Nat, k ≤ q.length ∧ i = .int .i64 k ∧ OwnInts wi w.heap.size tI o (up (0 :: bumps (ss.take j) ++ bump (q.take k))) ∧ Below w.heap.size w wi) (fun _ i _ => q.length - (intOf i).toNat)
      case atStart => exact ⟨0, Nat.zero_le _, rfl, by simpa [bump] using HOI.out, HBQ.out⟩
      case round =>
        obtain ⟨k, hk, rfl, ho, hb⟩ := hrel
        clear HOI HBQ
        have HOI := Lib.hid ho
        have HBQ := Lib.hid hb
        clear ho hb
        by_cases hlt2 : k < q.length
        · obtain ⟨aq, z, rfl, hz, -, hcz0⟩ := HCQ.out k hlt2
          obtain ⟨l, hlk, hzl⟩ := up_getD hz
          have hcz : wr.cell? (aq.add k) = some (.int .i64 z) := by
            rw [HBQ.out.cell (by rw [block_add]; have := World.block_lt_of_cell? w _ hcz0; rwa [block_add] at this)]; exact hcz0
          have hl1 := HQB.out.2 l (List.mem_of_getElem? hlk)
          have hwz : IntKind.i64.wrap (z + 1) = z + 1 := IntWalk.i64_in _ (by omega)
          have hz64 : In64 (z + 1) := by unfold In64; omega
          have HTK := Lib.hid (show bump (q.take (k + 1)) = bump (q.take k) ++ [l + 1] by rw [List.take_add_one, hlk, bump_append]; rfl)
          have HZL := Lib.hid hzl
          have HLN := Lib.hid (show (up (0 :: bumps (ss.take j) ++ bump (q.take k))).length ≤ 1000000 by
            have h1 := HBT.out j
            have h2 := HQB.out.1
            rw [up_len, List.length_append, List.length_cons, bumps_len, bump_len, List.length_take]
            omega)
          have hki : (k : Int) < (q.length : Int) := by omega
          clear hz hlk hcz0 hzl hl1
          go_wp2_with (at_builtin; refine wpList_app1 T_int HOI.out.1 (by rw [ints_len]; have := HLN.out; omega) HBQ.out.size (by rfl) rfl (by rfl) (by rfl) (by rfl) ?_; intro v1 w5 hown1 hgr1; have HN := Lib.hid hown1; have HB5 := Lib.hid (hgr1.below HBQ.out HBQ.out.size HOI.out.1.ge); clear hown1 hgr1)
          go_roundw
          case rel =>
            refine ⟨k + 1, by omega, by go_num, ?_, HB5.out⟩
            have e : up (0 :: bumps (ss.take j) ++ bump (q.take (k + 1))) = up (0 :: bumps (ss.take j) ++ bump (q.take k)) ++ [z + 1] := by
              rw [HTK.out, ← List.append_assoc, up_append, HZL.out]; rfl
            rw [e]
            exact ⟨by simpa [ints] using HN.out, fun y hy => by rcases List.mem_append.1 hy with hy | hy; exact HOI.out.2 y hy; simp at hy; subst hy; exact hz64⟩
          case measure => simp [intOf]; omega
        · have : k = q.length := by omega
          subst this
          have e : up (0 :: bumps (ss.take j) ++ bump (q.take q.length)) = up (0 :: bumps (ss.take (j + 1))) := by
            rw [List.take_length, HSN.out, bumps_append]; simp [bumps]
          have HOI2 := Lib.hid (e ▸ HOI.out)
          clear HOI e
          go_wp2_with fail
          go_roundw
          case rel => exact ⟨j + 1, by omega, by go_num, HOI2.out, HBQ.out⟩
          case measure => simp [intOf]; omega
    · have : j = ss.length := by omega
      subst this
      go_wp2_with fail
      go_ret
      have hfin := HOI.out
      rw [List.take_length] at hfin
      exact ⟨_, rfl, hfin, HBQ.out⟩
end Go.Proofs.YtheldcjiogpbjaaGreat
set_option maxRecDepth 100000
namespace Go.Proofs
open Go.Shelf Go.RowKit Go.Lib Go.Sort
def Tryz.lsort_ren : Go.Shelf.Ren := ⟨fun | 6 => 196 | 15 => 158 | 14 => 217 | 28 => 191 | 29 => 192 | 20 => 221 | 21 => 227 | 22 => 228 | 23 => 229 | 24 => 230 | 25 => 231 | 26 => 232 | 27 => 233 | 46 => 236 | 47 => 205 | 48 => 206 | 49 => 237 | 50 => 238 | 57 => 240 | n => n, fun | 22 => 43 | 24 => 22 | 25 => 102 | 3 => 3 | 39 => 131 | 0 => 0 | 53 => 156 | 55 => 68 | 4 => 4 | 46 => 150 | 45 => 149 | 50 => 117 | 5 => 5 | 9 => 9 | 66 => 166 | 70 => 170 | 76 => 182 | 77 => 183 | n => n, fun | n => n⟩
theorem Tryz.lsort : Go.Proofs.SlLaysF.n6 Tryz.prog Tryz.lsort_ren := {
  mixed := by kernel_rfl
  f6 := ⟨Tryz.f196.name, by decide, Tryz.func196.trans (congrArg some (by kernel_rfl))⟩
  f14 := ⟨Tryz.f217.name, by decide, Tryz.func217.trans (congrArg some (by kernel_rfl))⟩
  f15 := Tryz.func158.trans (congrArg some (by kernel_rfl))
  f20 := ⟨Tryz.f221.name, by decide, Tryz.func221.trans (congrArg some (by kernel_rfl))⟩
  f21 := ⟨Tryz.f227.name, by decide, Tryz.func227.trans (congrArg some (by kernel_rfl))⟩
  f22 := ⟨Tryz.f228.name, by decide, Tryz.func228.trans (congrArg some (by kernel_rfl))⟩
  f23 := ⟨Tryz.f229.name, by decide, Tryz.func229.trans (congrArg some (by kernel_rfl))⟩
  f24 := ⟨Tryz.f230.name, by decide, Tryz.func230.trans (congrArg some (by kernel_rfl))⟩
  f25 := ⟨Tryz.f231.name, by decide, Tryz.func231.trans (congrArg some (by kernel_rfl))⟩
  f26 := ⟨Tryz.f232.name, by decide, Tryz.func232.trans (congrArg some (by kernel_rfl))⟩
  f27 := ⟨Tryz.f233.name, by decide, Tryz.func233.trans (congrArg some (by kernel_rfl))⟩
  f28 := Tryz.func191.trans (congrArg some (by kernel_rfl))
  f29 := Tryz.func192.trans (congrArg some (by kernel_rfl))
  f46 := ⟨Tryz.f236.name, by decide, Tryz.func236.trans (congrArg some (by kernel_rfl))⟩
  f47 := Tryz.func205.trans (congrArg some (by kernel_rfl))
  f48 := Tryz.func206.trans (congrArg some (by kernel_rfl))
  f49 := ⟨Tryz.f237.name, by decide, Tryz.func237.trans (congrArg some (by kernel_rfl))⟩
  f50 := ⟨Tryz.f238.name, by decide, Tryz.func238.trans (congrArg some (by kernel_rfl))⟩
  f57 := ⟨Tryz.f240.name, by decide, Tryz.func240.trans (congrArg some (by kernel_rfl))⟩
  t0 := Tryz.underlying0
  a0 := Tryz.isAgg0
  z0 := Tryz.sizeOf0
  v0 := Tryz.zeroValue0
  t3 := Tryz.underlying3
  a3 := Tryz.isAgg3
  z3 := Tryz.sizeOf3
  v3 := Tryz.zeroValue3
  t4 := Tryz.underlying4
  a4 := Tryz.isAgg4
  z4 := Tryz.sizeOf4
  v4 := Tryz.zeroValue4
  t5 := Tryz.underlying5
  a5 := Tryz.isAgg5
  z5 := Tryz.sizeOf5
  v5 := Tryz.zeroValue5
  t9 := Tryz.underlying9
  a9 := Tryz.isAgg9
  z9 := Tryz.sizeOf9
  v9 := Tryz.zeroValue9
  t22 := Tryz.underlying43
  a22 := Tryz.isAgg43
  z22 := Tryz.sizeOf43
  v22 := Tryz.zeroValue43
  a24 := Tryz.isAgg22
  z24 := Tryz.sizeOf22
  t25 := Tryz.underlying102
  a25 := Tryz.isAgg102
  z25 := Tryz.sizeOf102
  v25 := Tryz.zeroValue102
  t39 := Tryz.underlying131
  a39 := Tryz.isAgg131
  z39 := Tryz.sizeOf131
  v39 := Tryz.zeroValue131
  t45 := Tryz.underlying149
  a45 := Tryz.isAgg149
  z45 := Tryz.sizeOf149
  v45 := Tryz.zeroValue149
  t46 := Tryz.underlying150
  a46 := Tryz.isAgg150
  z46 := Tryz.sizeOf150
  v46 := Tryz.zeroValue150
  t50 := Tryz.underlying117
  a50 := Tryz.isAgg117
  z50 := Tryz.sizeOf117
  v50 := Tryz.zeroValue117
  t53 := Tryz.underlying156
  a53 := Tryz.isAgg156
  z53 := Tryz.sizeOf156
  v53 := Tryz.zeroValue156
  t55 := Tryz.underlying68
  a55 := Tryz.isAgg68
  z55 := Tryz.sizeOf68
  v55 := Tryz.zeroValue68
  t66 := Tryz.underlying166
  a66 := Tryz.isAgg166
  z66 := Tryz.sizeOf166
  v66 := Tryz.zeroValue166
  t70 := Tryz.underlying170
  a70 := Tryz.isAgg170
  z70 := Tryz.sizeOf170
  v70 := Tryz.zeroValue170
  t76 := Tryz.underlying182
  a76 := Tryz.isAgg182
  z76 := Tryz.sizeOf182
  v76 := Tryz.zeroValue182
  t77 := Tryz.underlying183
  a77 := Tryz.isAgg183
  z77 := Tryz.sizeOf183
  v77 := Tryz.zeroValue183 }
end Go.Proofs
set_option maxRecDepth 100000
set_option linter.unusedVariables false
set_option linter.unusedSimpArgs false
namespace Go.Proofs.YtheldcjiogpbjaaGreat
open Go.RowKit Go.Sort Go.Shelf

section
variable {α : Type} [Inhabited α] {enc : α → Value} {w : World} {B g cap n : Nat} {e : TypeId} {d : List α} {os : Array Obj}
theorem holds_own (h : Own w B e (.slice (some ⟨g, 0, none⟩) d.length cap) (d.map enc)) : Holds enc w g 0 d.toArray := by
  rcases h.cases with ⟨e, _⟩ | ⟨g', cap', cur, e, h1, h2, h3, h4, h5, h6, h7⟩
  · cases e
  simp only [Value.slice.injEq, Option.some.injEq, Addr.mk.injEq] at e
  obtain ⟨⟨rfl, -⟩, -, rfl⟩ := e
  intro j hj
  have hj' : j < d.length := by simpa using hj
  refine ⟨?_, by simp [World.frozen?, h3]⟩
  have h8 : (cur.toList.take (d.map enc).length)[j]? = (d.map enc)[j]? := by rw [h7]
  rw [List.getElem?_take_of_lt (by simpa using hj')] at h8
  simp only [World.cell?, h3, Nat.zero_add]
  simp only [Option.isSome_none, Bool.false_eq_true, if_false]
  rw [← Array.getElem?_toList, h8]
  simp [hj']
theorem heap_srt {cur : Array Value} {fr : Nat × Nat} (d : Array α) (hb : w.heap[g]? = some (.cells cur e fr)) :
    (sortWorld enc w g 0 n d os).heap[g]? = some (.cells (putCells enc 0 d cur) e fr) := by
  have hg : g < w.heap.size := (Array.getElem?_eq_some_iff.1 hb).1
  unfold sortWorld
  rw [heap_grow_old _ _ (by simpa using hg)]
  simp [putRow, mapBlock, Sort.ahead, Array.getElem?_modify, hb, onCells]
theorem grownBy_srt (d : Array α) : w.grownBy (sortWorld enc w g 0 n d os) (some g) := by
  unfold sortWorld
  refine ⟨rfl, rfl, rfl, by simp, fun k hk hne => ?_⟩
  rw [heap_grow_old _ _ (by simpa using hk)]
  have : g ≠ k := fun e => hne (by rw [e])
  simp [putRow, mapBlock, Sort.ahead, Array.getElem?_modify, this]
theorem take_put (cur : Array Value) (ts : List α) (h : ts.length ≤ cur.size) : (putCells enc 0 ts.toArray cur).toList.take ts.length = ts.map enc := by
  apply List.ext_getElem?
  intro j
  by_cases hj : j < ts.length
  · rw [List.getElem?_take_of_lt hj, Array.getElem?_toList]
    simp [putCells, hj, show j < cur.size by omega]
  · rw [List.getElem?_take_eq_none (by omega), List.getElem?_eq_none (by simp; omega)]
/-- behind the sort the same slice owns the sorted list -/
theorem own_srt {ts : List α} (h : Own w B e (.slice (some ⟨g, 0, none⟩) d.length cap) (d.map enc)) (hl : ts.length = d.length) :
    Own (sortWorld enc w g 0 n ts.toArray os) B e (.slice (some ⟨g, 0, none⟩) d.length cap) (ts.map enc) := by
  rcases h.cases with ⟨e, _⟩ | ⟨g', cap', cur, e, h1, h2, h3, h4, h5, h6, h7⟩
  · cases e
  simp only [Value.slice.injEq, Option.some.injEq, Addr.mk.injEq] at e
  obtain ⟨⟨rfl, -⟩, -, rfl⟩ := e
  rw [List.length_map] at h4
  unfold Own
  rw [List.length_map]
  exact ⟨by simp, .inr ⟨g, cap, _, by rw [hl], h1, heap_srt _ h3, by omega, h5, by simp [putCells, h6], by rw [Nat.mul_one]; exact take_put cur ts (by omega)⟩⟩
end
end Go.Proofs.YtheldcjiogpbjaaGreat
set_option maxRecDepth 100000
set_option linter.unusedVariables false
set_option linter.unusedSimpArgs false
namespace Go.Proofs.YtheldcjiogpbjaaGreat
open Go.RowKit Go.Sort Go.Shelf

theorem i_canonDesc (w : World) (v v' : Value) (a b : List Int) (ha : Ints w v a) (hb : Ints w v' b) :
    Calls Tryz.prog 197 #[v, v'] w fun e w' => e = .returned (.int .i64 (cmpL b a)) ∧ w = w' := by
  have HA := Lib.hid ha
  have HB := Lib.hid hb
  obtain ⟨A, c, rfl, -, -, -⟩ := ha.open_
  obtain ⟨A', c', rfl, -, -, -⟩ := hb.open_
  clear ha hb
  go_enter Tryz.func197, Tryz.ntmps197
  go_wp2_with (go_at_call 156; refine (lib_Compare _ _ _ b a HB.out HA.out).mono ?_; rintro e w1 ⟨rfl, rfl⟩)
  go_ret
  exact ⟨rfl, rfl⟩

/-- a list of numbers of one's own, with what it holds -/
abbrev Row1s (w : World) (B : Nat) := {p : Value × List Nat // OwnInts w B tI p.1 (up p.2)}
instance (w : World) (B : Nat) : Inhabited (Row1s w B) := ⟨⟨(.slice none 0 0, []), OwnInts.nil _ _ _⟩⟩

theorem mkRows {w : World} {B : Nat} : ∀ {vs : List Value} {bs : List (List Nat)}, RR w B vs (bs.map up) → ∃ d : List (Row1s w B), d.map (fun x => x.1.1) = vs ∧ d.map (fun x => x.1.2) = bs
  | [], [], _ => ⟨[], rfl, rfl⟩
  | [], _ :: _, h => by have := h.1; simp at this
  | _ :: _, [], h => by have := h.1; simp at this
  | v :: vs, b :: bs, h => by
    obtain ⟨d, h1, h2⟩ := mkRows (vs := vs) (bs := bs) ⟨by have := h.1; simpa using this, fun k u zs hu hz => h.2 (k + 1) u zs (by simpa using hu) (by simpa using hz)⟩
    exact ⟨⟨(v, b), h.2 0 v (up b) (by simp) (by simp)⟩ :: d, by simp [h1], by simp [h2]⟩

theorem rowCmp {w : World} {B : Nat} (x y : Row1s w B) : ltOf (fun (x y : Row1s w B) => cmpL (up y.1.2) (up x.1.2)) x y = ltN y.1.2 x.1.2 := cmpL_up _ _
theorem rowSwo (w : World) (B : Nat) : SWO (ltOf fun (x y : Row1s w B) => cmpL (up y.1.2) (up x.1.2)) where
  irrefl x := by rw [rowCmp]; exact ltN_irrefl _
  trans x y z h1 h2 := by rw [rowCmp] at *; exact ltN_trans h2 h1
  ntrans x y z h1 h2 := by rw [rowCmp] at *; exact ltN_ntrans h2 h1

theorem lib_SortDesc (w : World) (B cap : Nat) (A : Option Addr) (vs : List Value) (bs : List (List Nat)) (h : Own w B tL (.slice A vs.length cap) vs) (hr : RR w B vs (bs.map up)) (hn : vs.length ≤ 1000) :
    Calls Tryz.prog 196 #[.slice A vs.length cap, .func (.func 197) #[] #[]] w fun e w' => e = .returned (.tuple #[]) ∧
      ∃ vs', vs'.length = vs.length ∧ Own w' B tL (.slice A vs.length cap) vs' ∧ RR w' B vs' ((srtD bs).map up) ∧ w.grownBy w' (Value.ownBlock (.slice A vs.length cap)) := by
  rcases h.cases with ⟨he, rfl⟩ | ⟨g, cap', cur, he, hBg, hgs, -⟩
  · simp only [Value.slice.injEq] at he
    obtain ⟨rfl, -, rfl⟩ := he
    have hb : bs = [] := by have h0 := hr.1; rw [List.length_map] at h0; exact List.eq_nil_of_length_eq_zero h0.symm
    subst hb
    refine (AnyF.slices_SortFunc_none { Tryz.lsort with } none 0 _ w).mono ?_
    rintro e w' ⟨rfl, rfl⟩
    exact ⟨rfl, [], rfl, h, hr, World.grownBy.refl _ _⟩
  · simp only [Value.slice.injEq] at he
    obtain ⟨rfl, -, rfl⟩ := he
    obtain ⟨d, hd1, hd2⟩ := mkRows hr
    have hdl : d.length = vs.length := by rw [← hd1, List.length_map]
    have ho : Own w B tL (.slice (some ⟨g, 0, none⟩) d.length cap) (d.map fun x => x.1.1) := by rw [hd1, hdl]; exact h
    have hone : OneCell (fun x : Row1s w B => x.1.1) := fun x => (RR.one x.2).oneCell _ (by simp)
    have eg : ∀ args w, (callFunc 197 args).run Tryz.prog w = .ok (.enter 197 args) w := enters_of Tryz.func197 (by kernel_rfl) rfl
    have hkeep : ∀ (x : Row1s w B) (m : Nat) (dk : Array (Row1s w B)) (os : Array Obj), OwnInts (sortWorld (fun x : Row1s w B => x.1.1) w g 0 m dk os) B tI x.1.1 (up x.1.2) := fun x m dk os =>
      x.2.kept (v' := .slice (some ⟨g, 0, none⟩) vs.length cap) (grownBy_srt dk) (x.2.1.ne_of_type h (by decide))
    have hcmp : CmpReads Tryz.prog 197 #[] (fun x : Row1s w B => x.1.1) (fun x y => cmpL (up y.1.2) (up x.1.2)) g 0 d.toArray.size w := fun m os dk _ x y =>
      (i_canonDesc _ _ _ _ _ (hkeep x m dk os).ints (hkeep y m dk os).ints).mono fun e w' ⟨he, hw⟩ => ⟨he, 0, hw.symm⟩
    have hcon := Any.slices_SortFunc Tryz.lsort (fun x : Row1s w B => x.1.1) hone _ (rowSwo w B) 197 #[] g 0 cap d.toArray w eg hcmp.lays (holds_own ho) hgs (by simp; omega)
    rw [List.size_toArray, hdl] at hcon
    refine hcon.mono ?_
    rintro e w' ⟨rfl, d', n, os, hp, hs, rfl⟩
    have hsz : d'.size = vs.length := by have := hp.1; simp at this; omega
    have hperm : d'.toList.Perm d := by
      have h3 := hp.2.2
      rw [← hsz] at h3
      simp only [Array.extract_size] at h3
      have e : (d.toArray.extract 0 d'.size).toList = d := by
        rw [show d'.size = d.toArray.size by simp; omega, Array.extract_size]
      rw [e] at h3
      exact h3
    have hdesc : Desc (d'.toList.map fun x => x.1.2) := by
      rw [Desc, List.pairwise_iff_getElem]
      intro i j hi hj hij
      simp at hi hj
      have h4 := hs i j (Nat.zero_le _) hij (by omega)
      rw [rowCmp, getElem!_pos d' i (by omega), getElem!_pos d' j (by omega)] at h4
      simpa using h4
    have hL : (d'.toList.map fun x => x.1.2) = srtD bs := srtD_unique (by rw [← hd2]; exact hperm.map _) hdesc
    have hl : d'.toList.length = d.length := by simp; omega
    have hfin := own_srt (n := n) (os := os) ho hl
    simp only [Array.toArray_toList] at hfin
    rw [hdl] at hfin
    refine ⟨rfl, d'.toList.map (fun x => x.1.1), by simp; omega, hfin, ⟨by rw [← hL]; simp, fun k u zs hu hz => ?_⟩, grownBy_srt d'⟩
    rw [← hL, List.map_map, List.getElem?_map] at hz
    rw [List.getElem?_map] at hu
    cases hx : d'.toList[k]? with
    | none => rw [hx] at hu; cases hu
    | some x =>
      rw [hx] at hu hz
      simp only [Option.map_some, Option.some.injEq, Function.comp] at hu hz
      subst hu; subst hz
      exact hkeep x _ _ _
end Go.Proofs.YtheldcjiogpbjaaGreat
set_option maxRecDepth 100000
set_option linter.unusedVariables false
set_option linter.unusedSimpArgs false
namespace Go.Proofs.YtheldcjiogpbjaaGreat
open Go.RowKit

theorem ints_oneV (zs : List Int) : ∀ u ∈ ints zs, u.oneCell' = true := by
  intro u hu
  obtain ⟨z, _, rfl⟩ := List.mem_map.1 hu
  rfl

set_option maxHeartbeats 1000000 in
theorem lib_Clone (w : World) (v : Value) (zs : List Int) (ha : Ints w v zs) (hn : zs.length ≤ 4294967296) :
    Calls Tryz.prog 159 #[v] w fun e w' => ∃ r, e = .returned r ∧ OwnInts w' w.heap.size tI r zs ∧ Below w.heap.size w w' := by
  obtain ⟨A, c, rfl, l1, l2, h3⟩ := ha.open_
  have HA := Lib.hid ha
  clear h3 ha
  have OL := Lib.hid (own_lit w tI [] (by simp [maxLen]))
  have B1 := Lib.hid (below1 w (.cells #[] tI))
  have en := fun (W : World) (a : Option Addr) (n c : Nat) => Lib.run_eql_slice_nil (P := Tryz.prog) W 22 2 a n c 0 0 Tryz.underlying22
  go_enter Tryz.func159, Tryz.ntmps159
  cases A with
  | none =>
    have HZ := Lib.hid (show zs = [] by
      obtain ⟨A, c', hv, -, -, h3⟩ := HA.out.open_
      simp only [Value.slice.injEq] at hv
      obtain ⟨rfl, -, -⟩ := hv
      cases zs with
      | nil => rfl
      | cons z r => obtain ⟨ad, _, hA, _⟩ := h3 0 (by simp); cases hA)
    go_wp2_with fail
    go_ret
    refine ⟨_, rfl, ?_, Below.refl _ _⟩
    rw [HZ.out]
    exact OwnInts.nil _ _ _
  | some ad =>
    go_wp2_with (at_builtin; refine wpList_appN T_int OL.out (HA.out.below B1.out).1 (by rw [ints_len]; simp; omega) B1.out.size (ints_oneV _) rfl (by rfl) (by rfl) (by rfl) ?_; intro v1 w2 hown1 hgr1)
    go_ret
    exact ⟨_, rfl, ⟨by simpa using hown1, HA.out.2⟩, hgr1.below B1.out (by simp) OL.out.ge⟩

end Go.Proofs.YtheldcjiogpbjaaGreat
