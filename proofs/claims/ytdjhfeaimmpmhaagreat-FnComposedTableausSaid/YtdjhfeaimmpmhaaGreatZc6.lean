/- Walks of tests: in a range, a number, all numbers. | The walk of the program's length at lists of numbers. | Monomials: words of memory; walks of isMonomial of the program and l13Degree of the reference. | Monomials and fields that came in: words of memory. No program in sight. | Fields, plain: what makes a field. No program in sight. | Walk: l13Is of the reference. | Walk: l03Canon of the reference. | Walk: rootOn of the program. | slices.SortFunc at lists of numbers: laid. | A list of one's own that the library has sorted. | slices.SortFunc with 'slices.Compare(b, a)', at lists of one's own: the lists in descending order. | Walks: slices.Clone at numbers; the columns of both. | Lists of lists of one's own whose rows can be read and lie apart from one another. -/
import Derived.Test.YtdjhfeaimmpmhaaGreatRows
import Derived.Test.YtdjhfeaimmpmhaaGreatZc3
import Derived.Test.YtdjhfeaimmpmhaaGreatZc1
import Derived.WalkLawsBesides
import Derived.BigGuardPart
import Derived.Test.YtdjhfeaimmpmhaaGreatZc5
import Derived.Shelf.SlSortCmp.Whole1
import Derived.Shelf.SlSortCmp.NoneTotal
import Derived.Shelf.SlGeneric
import Derived.Ground.SlsfProg
import Derived.Shelf.GgSortFunc.Insertion
import Derived.WalkSpells
import Derived.Deep.RegionLaw
import Derived.Test.YtdjhfeaimmpmhaaGreatZc4
set_option linter.unusedVariables false
set_option linter.unusedSimpArgs false
namespace Go.Proofs.YtdjhfeaimmpmhaaGreat
open Go.RowKit

set_option maxHeartbeats 400000 in
theorem i_inRange (n lo hi : Int) (w : World) :
    Calls Tryz.prog 146 #[.int .i64 n, .int .i64 lo, .int .i64 hi] w fun e w' => e = .returned (.bool (inR n lo hi)) ∧ w = w' := by
  by_cases h1 : lo ≤ n
  · by_cases h2 : n ≤ hi
    · go_enter Tryz.func146, Tryz.ntmps146
      go_wp2
      go_ret
      exact ⟨ret_bool (by simp [inR, h1, h2]), rfl⟩
    · go_enter Tryz.func146, Tryz.ntmps146
      go_wp2
      go_ret
      exact ⟨ret_bool (by simp [inR, h1, h2]), rfl⟩
  · go_enter Tryz.func146, Tryz.ntmps146
    go_wp2
    go_ret
    exact ⟨ret_bool (by simp [inR]; omega), rfl⟩

set_option maxHeartbeats 400000 in
theorem s_l01In (n lo hi : Int) (w : World) :
    Calls Tryz.prog 172 #[.int .i64 n, .int .i64 lo, .int .i64 hi] w fun e w' => e = .returned (.bool (inR n lo hi)) ∧ w = w' := by
  by_cases h1 : lo ≤ n
  · by_cases h2 : n ≤ hi
    · go_enter Tryz.func172, Tryz.ntmps172
      go_wp2
      go_ret
      exact ⟨ret_bool (by simp [inR, h1, h2]), rfl⟩
    · go_enter Tryz.func172, Tryz.ntmps172
      go_wp2
      go_ret
      exact ⟨ret_bool (by simp [inR, h1, h2]), rfl⟩
  · go_enter Tryz.func172, Tryz.ntmps172
    go_wp2
    go_ret
    exact ⟨ret_bool (by simp [inR]; omega), rfl⟩

set_option maxHeartbeats 400000 in
theorem i_IsNumber (n : Int) (w : World) : Calls Tryz.prog 86 #[.int .i64 n] w fun e w' => e = .returned (.bool (isNum n)) ∧ w = w' := by
  go_enter Tryz.func86, Tryz.ntmps86
  go_wp2_with (go_at_call 146; refine (i_inRange _ _ _ _).mono ?_; rintro e w' ⟨rfl, rfl⟩)
  go_ret
  exact ⟨rfl, rfl⟩

set_option maxHeartbeats 400000 in
theorem s_IsNumber (n : Int) (w : World) : Calls Tryz.prog 121 #[.int .i64 n] w fun e w' => e = .returned (.bool (isNum n)) ∧ w = w' := by
  go_enter Tryz.func121, Tryz.ntmps121
  go_wp2_with (go_at_call 172; refine (s_l01In _ _ _ _).mono ?_; rintro e w' ⟨rfl, rfl⟩)
  go_ret
  exact ⟨rfl, rfl⟩

set_option maxHeartbeats 400000 in
theorem i_areNumbers1 (n : Int) (w : World) : Calls Tryz.prog 114 #[.int .i64 n] w fun e w' => e = .returned (.bool (!isNum n)) ∧ w = w' := by
  go_enter Tryz.func114, Tryz.ntmps114
  go_wp2_with (go_at_call 86; refine (i_IsNumber _ _).mono ?_; rintro e w' ⟨rfl, rfl⟩)
  go_ret
  exact ⟨rfl, rfl⟩

set_option maxHeartbeats 400000 in
theorem lib_IndexFuncI (w : World) (v : Value) (zs : List Int) (g : Nat) (p : Int → Bool) (ha : Ints w v zs)
    (hcf : ∀ (args : Array Value) (w : World), Sem.run Tryz.prog (callFunc g args) w = .ok (.enter g args) w)
    (hp : ∀ z : Int, Calls Tryz.prog g #[.int .i64 z] w fun e w' => e = .returned (.bool (p z)) ∧ w = w') :
    Calls Tryz.prog 163 #[v, .func (.func g) #[] #[]] w fun e w' => e = .returned (.int .i64 (idxF p zs)) ∧ w = w' := by
  obtain ⟨A, c, rfl, h1, h2, h3⟩ := ha.open_
  clear ha
  have H3 := Lib.hid h3
  have HP := Lib.hid hp
  clear h3 hp
  go_enter Tryz.func163, Tryz.ntmps163
  go_wp2_with fail
  go_loop [8] (fun i => ∃ k : Nat, k ≤ zs.length ∧ i = .int .i64 k ∧ Hid (∀ i y, i < k → zs[i]? = some y → p y = false)) (fun i => zs.length - (intOf i).toNat)
  case atStart => exact ⟨0, Nat.zero_le _, rfl, fun i y h => by omega⟩
  case round =>
    obtain ⟨k, hk, rfl, hI⟩ := hrel
    by_cases hlt : k < zs.length
    · obtain ⟨ad, z, rfl, hz, hz2, hc⟩ := H3.out k hlt
      have HZ := Lib.hid hz
      clear hz hz2
      go_wp2_with fail
      refine (HP.out z).mono ?_
      rintro e w' ⟨rfl, rfl⟩
      go_wp2_with fail
      · have hpz : p z = true := by assumption
        go_ret
        exact ⟨ret_int (idxF_hit hI.out HZ.out hpz).symm, rfl⟩
      · have hpz : p z = false := by assumption
        go_round
        case rel =>
          refine ⟨k + 1, by omega, by go_num, fun i y hi hy => ?_⟩
          by_cases e : i = k
          · subst e
            rw [HZ.out] at hy
            cases hy
            exact hpz
          · exact hI.out i y (by omega) hy
        case measure => simp [intOf]; omega
    · have : k = zs.length := by omega
      subst this
      go_wp2_with fail
      go_ret
      exact ⟨ret_int (idxF_miss hI.out).symm, rfl⟩

set_option maxHeartbeats 400000 in
theorem lib_ContainsFuncI (w : World) (v : Value) (zs : List Int) (g : Nat) (p : Int → Bool) (ha : Ints w v zs)
    (hcf : ∀ (args : Array Value) (w : World), Sem.run Tryz.prog (callFunc g args) w = .ok (.enter g args) w)
    (hp : ∀ z : Int, Calls Tryz.prog g #[.int .i64 z] w fun e w' => e = .returned (.bool (p z)) ∧ w = w') :
    Calls Tryz.prog 113 #[v, .func (.func g) #[] #[]] w fun e w' => e = .returned (.bool (zs.any p)) ∧ w = w' := by
  have HA := Lib.hid ha
  have HP := Lib.hid hp
  clear ha hp
  go_enter Tryz.func113, Tryz.ntmps113
  go_wp2_with (go_at_call 163; refine (lib_IndexFuncI _ _ _ _ _ HA.out hcf HP.out).mono ?_; rintro e w' ⟨rfl, rfl⟩)
  go_ret
  exact ⟨ret_bool (idxF_nonneg p zs), rfl⟩

set_option maxHeartbeats 400000 in
theorem i_areNumbers (w : World) (v : Value) (zs : List Int) (ha : Ints w v zs) : Calls Tryz.prog 54 #[v] w fun e w' => e = .returned (.bool (nums zs)) ∧ w = w' := by
  have HA := Lib.hid ha
  clear ha
  go_enter Tryz.func54, Tryz.ntmps54
  go_wp2_with (go_at_call 113; refine (lib_ContainsFuncI _ _ _ _ (fun z => !isNum z) HA.out (fun _ _ => by kernel_rfl) (fun z => i_areNumbers1 z _)).mono ?_; rintro e w' ⟨rfl, rfl⟩)
  go_ret
  exact ⟨ret_bool (by rw [any_not_nums, Bool.not_not]), rfl⟩

set_option maxHeartbeats 400000 in
theorem s_l01Numbers (w : World) (v : Value) (zs : List Int) (ha : Ints w v zs) : Calls Tryz.prog 61 #[v] w fun e w' => e = .returned (.bool (nums zs)) ∧ w = w' := by
  obtain ⟨A, c, rfl, h1, h2, h3⟩ := ha.open_
  clear ha
  have H3 := Lib.hid h3
  clear h3
  go_enter Tryz.func61, Tryz.ntmps61
  go_wp2_with fail
  go_loop [3] (fun i => ∃ k : Nat, k ≤ zs.length ∧ i = .int .i64 k ∧ Hid (∀ i y, i < k → zs[i]? = some y → isNum y = true)) (fun i => zs.length - (intOf i).toNat)
  case atStart => exact ⟨0, Nat.zero_le _, rfl, fun i y h => by omega⟩
  case round =>
    obtain ⟨k, hk, rfl, hI⟩ := hrel
    by_cases hlt : k < zs.length
    · obtain ⟨ad, z, rfl, hz, hz2, hc⟩ := H3.out k hlt
      have HZ := Lib.hid hz
      clear hz hz2
      go_wp2_with (go_at_call 121; refine (s_IsNumber _ _).mono ?_; rintro e w' ⟨rfl, rfl⟩)
      · have hpz : isNum z = false := by simpa using (by assumption : (!isNum z) = true)
        go_ret
        exact ⟨ret_bool (nums_false HZ.out hpz).symm, rfl⟩
      · have hpz : isNum z = true := by simpa using (by assumption : (!isNum z) = false)
        go_round
        case rel =>
          refine ⟨k + 1, by omega, by go_num, fun i y hi hy => ?_⟩
          by_cases e : i = k
          · subst e
            rw [HZ.out] at hy
            cases hy
            exact hpz
          · exact hI.out i y (by omega) hy
        case measure => simp [intOf]; omega
    · have : k = zs.length := by omega
      subst this
      go_wp2_with fail
      go_ret
      exact ⟨ret_bool (nums_all hI.out).symm, rfl⟩
end Go.Proofs.YtdjhfeaimmpmhaaGreat

set_option linter.unusedVariables false
set_option linter.unusedSimpArgs false
namespace Go.Proofs.YtdjhfeaimmpmhaaGreat
open Go.RowKit

set_option maxHeartbeats 400000 in
theorem lib_lengthI (w : World) (v : Value) (zs : List Int) (ha : Ints w v zs) : Calls Tryz.prog 154 #[v] w fun e w' => e = .returned (.int .i64 zs.length) ∧ w = w' := by
  obtain ⟨A, c, rfl, h1, h2, h3⟩ := ha.open_
  clear ha h3
  go_enter Tryz.func154, Tryz.ntmps154
  go_wp2
  go_ret
  exact ⟨rfl, rfl⟩

end Go.Proofs.YtdjhfeaimmpmhaaGreat

set_option maxRecDepth 100000
set_option linter.unusedVariables false
set_option linter.unusedSimpArgs false
namespace Go.Proofs.YtdjhfeaimmpmhaaGreat
open Go.RowKit

/-- a monomial: the factor and the powers -/
abbrev Mono := Int × List Int
/-- a monomial that can be read -/
def MonoArg (w : World) (v : Value) (m : Mono) : Prop := ∃ u, v = .agg #[.int .i64 m.1, u] ∧ In64 m.1 ∧ Ints w u m.2
theorem MonoArg.below {w w' : World} {v : Value} {m : Mono} (h : MonoArg w v m) (hb : Below w.heap.size w w') : MonoArg w' v m := by
  obtain ⟨u, rfl, h1, h2⟩ := h
  exact ⟨u, rfl, h1, h2.below hb⟩

end Go.Proofs.YtdjhfeaimmpmhaaGreat

set_option maxRecDepth 100000
set_option linter.unusedVariables false
set_option linter.unusedSimpArgs false
namespace Go.Proofs.YtdjhfeaimmpmhaaGreat
open Go.RowKit

/-- a list of monomials that can be read -/
def Monos (w : World) (v : Value) (ms : List Mono) : Prop :=
  ∃ A c, v = .slice A ms.length c ∧ ms.length ≤ c ∧ c ≤ maxLen ∧ ∀ (k : Nat) (m : Mono), ms[k]? = some m → ∃ b o u, A = some ⟨b, o, none⟩ ∧ In64 m.1 ∧ Ints w u m.2 ∧ w.cell? ⟨b, o + k * 2, none⟩ = some (.int .i64 m.1) ∧ w.cell? ⟨b, o + k * 2 + 1, none⟩ = some u
theorem Monos.below {w w' : World} {v : Value} {ms : List Mono} (h : Monos w v ms) (hb : Below w.heap.size w w') : Monos w' v ms := by
  obtain ⟨A, c, rfl, h1, h2, h3⟩ := h
  refine ⟨A, c, rfl, h1, h2, fun k m hm => ?_⟩
  obtain ⟨b, o, u, hA, hf, hu, hc, hc'⟩ := h3 k m hm
  refine ⟨b, o, u, hA, hf, hu.below hb, ?_, ?_⟩
  · rw [hb.cell (World.block_lt_of_cell? w _ hc)]; exact hc
  · rw [hb.cell (World.block_lt_of_cell? w _ hc')]; exact hc'
theorem Monos.open_ {w : World} {v : Value} {ms : List Mono} (h : Monos w v ms) : ∃ A c, v = .slice A ms.length c ∧ ms.length ≤ c ∧ c ≤ 9223372036854775807 ∧ ∀ (k : Nat), k < ms.length → ∃ b o m u, A = some ⟨b, o, none⟩ ∧ ms[k]? = some m ∧ In64 m.1 ∧ Ints w u m.2 ∧ w.cell? ⟨b, o + k * 2, none⟩ = some (.int .i64 m.1) ∧ w.cell? ⟨b, o + k * 2 + 1, none⟩ = some u := by
  obtain ⟨A, c, rfl, h1, h2, h3⟩ := h
  refine ⟨A, c, rfl, h1, by simpa [maxLen] using h2, fun k hk => ?_⟩
  obtain ⟨b, o, u, hA, hf, hu, hc, hc'⟩ := h3 k ms[k] (List.getElem?_eq_getElem hk)
  exact ⟨b, o, ms[k], u, hA, List.getElem?_eq_getElem hk, hf, hu, hc, hc'⟩
/-- lists of monomials that can be read -/
def MRows (w : World) (v : Value) (pss : List (List Mono)) : Prop :=
  ∃ vs, Cells w v vs ∧ vs.length = pss.length ∧ ∀ (k : Nat) (u : Value) (ms : List Mono), vs[k]? = some u → pss[k]? = some ms → Monos w u ms
theorem MRows.below {w w' : World} {v : Value} {pss : List (List Mono)} (h : MRows w v pss) (hb : Below w.heap.size w w') : MRows w' v pss := by
  obtain ⟨vs, h1, h2, h3⟩ := h
  exact ⟨vs, h1.below hb, h2, fun k u ms hu hm => (h3 k u ms hu hm).below hb⟩
theorem MRows.open_ {w : World} {v : Value} {pss : List (List Mono)} (h : MRows w v pss) : ∃ A c, v = .slice A pss.length c ∧ pss.length ≤ c ∧ c ≤ 9223372036854775807 ∧ ∀ (k : Nat), k < pss.length → ∃ ad u ms, A = some ad ∧ pss[k]? = some ms ∧ Monos w u ms ∧ w.cell? (ad.add k) = some u := by
  obtain ⟨vs, ⟨A, c, rfl, h1, h2, h3⟩, h4, h5⟩ := h
  rw [h4] at h1 ⊢
  refine ⟨A, c, rfl, h1, by simpa [maxLen] using h2, fun k hk => ?_⟩
  have hv : vs[k]? = some (vs[k]'(by rw [h4]; exact hk)) := List.getElem?_eq_getElem _
  obtain ⟨ad, hA, hc⟩ := h3 k _ hv
  exact ⟨ad, _, pss[k], hA, List.getElem?_eq_getElem hk, h5 k _ _ hv (List.getElem?_eq_getElem hk), hc⟩
end Go.Proofs.YtdjhfeaimmpmhaaGreat

set_option maxRecDepth 100000
set_option linter.unusedVariables false
set_option linter.unusedSimpArgs false
namespace Go.Proofs.YtdjhfeaimmpmhaaGreat
open Go.RowKit

end Go.Proofs.YtdjhfeaimmpmhaaGreat

set_option maxRecDepth 100000
set_option linter.unusedVariables false
set_option linter.unusedSimpArgs false
namespace Go.Proofs.YtdjhfeaimmpmhaaGreat
open Go.RowKit

end Go.Proofs.YtdjhfeaimmpmhaaGreat

set_option maxRecDepth 100000
set_option linter.unusedVariables false
set_option linter.unusedSimpArgs false
namespace Go.Proofs.YtdjhfeaimmpmhaaGreat
open Go.RowKit

section
variable {w : World} {B : Nat} {vs us : List Value} {xss yss : List (List Int)}
theorem RR.append (h : RR w B vs xss) (h' : RR w B us yss) : RR w B (vs ++ us) (xss ++ yss) := by
  refine ⟨by simp [h.1, h'.1], fun k u zs hu hz => ?_⟩
  by_cases hlt : k < vs.length
  · rw [List.getElem?_append_left hlt] at hu
    rw [List.getElem?_append_left (by rw [← h.1]; exact hlt)] at hz
    exact h.2 k u zs hu hz
  · rw [List.getElem?_append_right (by omega)] at hu
    rw [List.getElem?_append_right (by rw [← h.1]; omega), ← h.1] at hz
    exact h'.2 _ u zs hu hz
theorem RR.take (h : RR w B vs xss) (k : Nat) : RR w B (vs.take k) (xss.take k) := by
  refine ⟨by simp [h.1], fun j u zs hu hz => ?_⟩
  rw [List.getElem?_take] at hu hz
  split at hu
  · rw [if_pos (by assumption)] at hz
    exact h.2 j u zs hu hz
  · cases hu
theorem RR.drop (h : RR w B vs xss) (k : Nat) : RR w B (vs.drop k) (xss.drop k) := by
  refine ⟨by simp [h.1], fun j u zs hu hz => ?_⟩
  rw [List.getElem?_drop] at hu hz
  exact h.2 _ u zs hu hz
theorem RR.one {u : Value} {zs : List Int} (h : OwnInts w B tI u zs) : RR w B [u] [zs] := (RR.nil w B).snoc h
end

end Go.Proofs.YtdjhfeaimmpmhaaGreat

set_option maxRecDepth 100000
set_option linter.unusedVariables false
set_option linter.unusedSimpArgs false
namespace Go.Proofs.YtdjhfeaimmpmhaaGreat
open Go.RowKit

set_option maxHeartbeats 4000000 in
theorem i_rootOn (w : World) (v : Value) (ss : List (List Nat)) (ha : Rows w v (ss.map up)) (hsb : ∀ q ∈ ss, q.length ≤ 1000 ∧ ∀ l ∈ q, l < 1000000) (hbt : brLen ss ≤ 1000) (hn : ss.length ≤ 1000) :
    Calls Tryz.prog 205 #[v] w fun e w' => ∃ x, e = .returned x ∧ OwnInts w' w.heap.size tI x (up (rootN ss)) ∧ Below w.heap.size w w' := by
  obtain ⟨A, c, rfl, l1, l2, h3⟩ := ha.open_
  rw [List.length_map] at h3 l1 ⊢
  have H3 := Lib.hid h3
  have HSB := Lib.hid hsb
  have HBT := Lib.hid (show ∀ j, brLen (ss.take j) ≤ 1000 from fun j => by
    have h1 := congrArg brLen (List.take_append_drop j ss)
    rw [brLen_append] at h1
    omega)
  have OL2 := Lib.hid (show OwnInts (w.alloc (.cells #[.int .i64 0] tI)) w.heap.size tI (.slice (some ⟨w.heap.size, 0, none⟩) 1 1) [0] from ⟨own_lit w tI [.int .i64 0] (by simp [maxLen]), fun z hz => by simp at hz; subst hz; unfold In64; omega⟩)
  clear ha h3 hsb hbt
  go_enter Tryz.func205, Tryz.ntmps205
  go_wp2_with fail
  go_loopw [3, 11] (fun o i wq => ∃ j : Nat, j ≤ ss.length ∧ i = .int .i64 j ∧ OwnInts wq w.heap.size tI o (up (0 :: bumps (ss.take j))) ∧ Below w.heap.size w wq) (fun _ i _ => ss.length - (intOf i).toNat)
  case atStart => exact ⟨0, Nat.zero_le _, rfl, by simpa [up, bumps] using OL2.out, below1 _ _⟩
  case round =>
    obtain ⟨j, hj, rfl, ho, hb⟩ := hrel
    clear OL2
    have HOI := Lib.hid ho
    have HBQ := Lib.hid hb
    clear ho hb
    by_cases hlt : j < ss.length
    · obtain ⟨ad', u, zs, rfl, hz, hu, hc'⟩ := H3.out j hlt
      have hq : ss[j]? = some (ss[j]'hlt) := List.getElem?_eq_getElem _
      have hzq : zs = up (ss[j]'hlt) := by rw [List.getElem?_map, hq] at hz; injection hz with hz; exact hz.symm
      subst hzq
      obtain ⟨Aq, cq, heq, l1, l2, hcq⟩ := hu.open_
      have HQB := Lib.hid (HSB.out _ (List.mem_of_getElem? hq))
      have HSN := Lib.hid (show ss.take (j + 1) = ss.take j ++ [ss[j]'hlt] by rw [List.take_add_one, hq]; rfl)
      rw [heq] at hc'
      generalize ss[j]'hlt = q at HQB HSN hc' hcq l1
      rw [up_len] at hc' hcq l1
      have hcu : wr.cell? (ad'.add j) = some (.slice Aq q.length cq) := by rw [HBQ.out.cell (by rw [block_add]; have := World.block_lt_of_cell? w _ hc'; rwa [block_add] at this)]; exact hc'
      have HCQ := Lib.hid hcq
      have hji : (j : Int) < (ss.length : Int) := by omega
      clear hz hq hu hc' heq hcq
      go_wp2_with fail
      clear hcu
      obtain ⟨wo, rfl⟩ : ∃ wo : World, wo = wr := ⟨_, rfl⟩
      go_loopw [3, 17] (fun o i wi => ∃ k : Nat, k ≤ q.length ∧ i = .int .i64 k ∧ OwnInts wi w.heap.size tI o (up (0 :: bumps (ss.take j) ++ bump (q.take k))) ∧ Below w.heap.size w wi) (fun _ i _ => q.length - (intOf i).toNat)
      case atStart => exact ⟨0, Nat.zero_le _, rfl, by simpa [bump] using HOI.out, HBQ.out⟩
      case round =>
        obtain ⟨k, hk, rfl, ho, hb⟩ := hrel
        clear HOI HBQ
        have HOI := Lib.hid ho
        have HBQ := Lib.hid hb
        clear ho hb
        by_cases hlt2 : k < q.length
        · obtain ⟨aq, z, rfl, hz, -, hcz0⟩ := HCQ.out k hlt2
          obtain ⟨l, hlk, hzl⟩ := up_getD hz
          have hcz : wr.cell? (aq.add k) = some (.int .i64 z) := by
            rw [HBQ.out.cell (by rw [block_add]; have := World.block_lt_of_cell? w _ hcz0; rwa [block_add] at this)]; exact hcz0
          have hl1 := HQB.out.2 l (List.mem_of_getElem? hlk)
          have hwz : IntKind.i64.wrap (z + 1) = z + 1 := IntWalk.i64_in _ (by omega)
          have hz64 : In64 (z + 1) := by unfold In64; omega
          have HTK := Lib.hid (show bump (q.take (k + 1)) = bump (q.take k) ++ [l + 1] by rw [List.take_add_one, hlk, bump_append]; rfl)
          have HZL := Lib.hid hzl
          have HLN := Lib.hid (show (up (0 :: bumps (ss.take j) ++ bump (q.take k))).length ≤ 1000000 by
            have h1 := HBT.out j
            have h2 := HQB.out.1
            rw [up_len, List.length_append, List.length_cons, bumps_len, bump_len, List.length_take]
            omega)
          have hki : (k : Int) < (q.length : Int) := by omega
          clear hz hlk hcz0 hzl hl1
          go_wp2_with (at_builtin; refine wpList_app1 T_int HOI.out.1 (by rw [ints_len]; have := HLN.out; omega) HBQ.out.size (by rfl) rfl (by rfl) (by rfl) (by rfl) ?_; intro v1 w5 hown1 hgr1; have HN := Lib.hid hown1; have HB5 := Lib.hid (hgr1.below HBQ.out HBQ.out.size HOI.out.1.ge); clear hown1 hgr1)
          go_roundw
          case rel =>
            refine ⟨k + 1, by omega, by go_num, ?_, HB5.out⟩
            have e : up (0 :: bumps (ss.take j) ++ bump (q.take (k + 1))) = up (0 :: bumps (ss.take j) ++ bump (q.take k)) ++ [z + 1] := by
              rw [HTK.out, ← List.append_assoc, up_append, HZL.out]; rfl
            rw [e]
            exact ⟨by simpa [ints] using HN.out, fun y hy => by rcases List.mem_append.1 hy with hy | hy; exact HOI.out.2 y hy; simp at hy; subst hy; exact hz64⟩
          case measure => simp [intOf]; omega
        · have : k = q.length := by omega
          subst this
          have e : up (0 :: bumps (ss.take j) ++ bump (q.take q.length)) = up (0 :: bumps (ss.take (j + 1))) := by
            rw [List.take_length, HSN.out, bumps_append]; simp [bumps]
          have HOI2 := Lib.hid (e ▸ HOI.out)
          clear HOI e
          go_wp2_with fail
          go_roundw
          case rel => exact ⟨j + 1, by omega, by go_num, HOI2.out, HBQ.out⟩
          case measure => simp [intOf]; omega
    · have : j = ss.length := by omega
      subst this
      go_wp2_with fail
      go_ret
      have hfin := HOI.out
      rw [List.take_length] at hfin
      exact ⟨_, rfl, hfin, HBQ.out⟩
end Go.Proofs.YtdjhfeaimmpmhaaGreat

set_option maxRecDepth 100000
namespace Go.Proofs
open Go.Shelf Go.RowKit Go.Lib Go.Sort
def Tryz.lsort_ren : Go.Shelf.Ren := ⟨fun | 6 => 203 | 15 => 230 | 14 => 229 | 28 => 249 | 29 => 250 | 20 => 241 | 21 => 242 | 22 => 243 | 23 => 244 | 24 => 245 | 25 => 246 | 26 => 247 | 27 => 248 | 46 => 265 | 47 => 266 | 48 => 267 | 49 => 268 | 50 => 269 | 57 => 274 | n => n, fun | 22 => 43 | 24 => 24 | 25 => 106 | 3 => 3 | 39 => 102 | 0 => 0 | 53 => 189 | 55 => 34 | 4 => 4 | 46 => 183 | 45 => 182 | 50 => 104 | 5 => 5 | 9 => 9 | 66 => 204 | 70 => 208 | 76 => 212 | 77 => 213 | n => n, fun | n => n⟩
theorem Tryz.lsort : Go.Proofs.SlLaysF.n6 Tryz.prog Tryz.lsort_ren := {
  mixed := by kernel_rfl
  f6 := ⟨Tryz.f203.name, by decide, Tryz.func203.trans (congrArg some (by kernel_rfl))⟩
  f14 := ⟨Tryz.f229.name, by decide, Tryz.func229.trans (congrArg some (by kernel_rfl))⟩
  f15 := Tryz.func230.trans (congrArg some (by kernel_rfl))
  f20 := ⟨Tryz.f241.name, by decide, Tryz.func241.trans (congrArg some (by kernel_rfl))⟩
  f21 := ⟨Tryz.f242.name, by decide, Tryz.func242.trans (congrArg some (by kernel_rfl))⟩
  f22 := ⟨Tryz.f243.name, by decide, Tryz.func243.trans (congrArg some (by kernel_rfl))⟩
  f23 := ⟨Tryz.f244.name, by decide, Tryz.func244.trans (congrArg some (by kernel_rfl))⟩
  f24 := ⟨Tryz.f245.name, by decide, Tryz.func245.trans (congrArg some (by kernel_rfl))⟩
  f25 := ⟨Tryz.f246.name, by decide, Tryz.func246.trans (congrArg some (by kernel_rfl))⟩
  f26 := ⟨Tryz.f247.name, by decide, Tryz.func247.trans (congrArg some (by kernel_rfl))⟩
  f27 := ⟨Tryz.f248.name, by decide, Tryz.func248.trans (congrArg some (by kernel_rfl))⟩
  f28 := Tryz.func249.trans (congrArg some (by kernel_rfl))
  f29 := Tryz.func250.trans (congrArg some (by kernel_rfl))
  f46 := ⟨Tryz.f265.name, by decide, Tryz.func265.trans (congrArg some (by kernel_rfl))⟩
  f47 := Tryz.func266.trans (congrArg some (by kernel_rfl))
  f48 := Tryz.func267.trans (congrArg some (by kernel_rfl))
  f49 := ⟨Tryz.f268.name, by decide, Tryz.func268.trans (congrArg some (by kernel_rfl))⟩
  f50 := ⟨Tryz.f269.name, by decide, Tryz.func269.trans (congrArg some (by kernel_rfl))⟩
  f57 := ⟨Tryz.f274.name, by decide, Tryz.func274.trans (congrArg some (by kernel_rfl))⟩
  t0 := Tryz.underlying0
  a0 := Tryz.isAgg0
  z0 := Tryz.sizeOf0
  v0 := Tryz.zeroValue0
  t3 := Tryz.underlying3
  a3 := Tryz.isAgg3
  z3 := Tryz.sizeOf3
  v3 := Tryz.zeroValue3
  t4 := Tryz.underlying4
  a4 := Tryz.isAgg4
  z4 := Tryz.sizeOf4
  v4 := Tryz.zeroValue4
  t5 := Tryz.underlying5
  a5 := Tryz.isAgg5
  z5 := Tryz.sizeOf5
  v5 := Tryz.zeroValue5
  t9 := Tryz.underlying9
  a9 := Tryz.isAgg9
  z9 := Tryz.sizeOf9
  v9 := Tryz.zeroValue9
  t22 := Tryz.underlying43
  a22 := Tryz.isAgg43
  z22 := Tryz.sizeOf43
  v22 := Tryz.zeroValue43
  a24 := Tryz.isAgg24
  z24 := Tryz.sizeOf24
  t25 := Tryz.underlying106
  a25 := Tryz.isAgg106
  z25 := Tryz.sizeOf106
  v25 := Tryz.zeroValue106
  t39 := Tryz.underlying102
  a39 := Tryz.isAgg102
  z39 := Tryz.sizeOf102
  v39 := Tryz.zeroValue102
  t45 := Tryz.underlying182
  a45 := Tryz.isAgg182
  z45 := Tryz.sizeOf182
  v45 := Tryz.zeroValue182
  t46 := Tryz.underlying183
  a46 := Tryz.isAgg183
  z46 := Tryz.sizeOf183
  v46 := Tryz.zeroValue183
  t50 := Tryz.underlying104
  a50 := Tryz.isAgg104
  z50 := Tryz.sizeOf104
  v50 := Tryz.zeroValue104
  t53 := Tryz.underlying189
  a53 := Tryz.isAgg189
  z53 := Tryz.sizeOf189
  v53 := Tryz.zeroValue189
  t55 := Tryz.underlying34
  a55 := Tryz.isAgg34
  z55 := Tryz.sizeOf34
  v55 := Tryz.zeroValue34
  t66 := Tryz.underlying204
  a66 := Tryz.isAgg204
  z66 := Tryz.sizeOf204
  v66 := Tryz.zeroValue204
  t70 := Tryz.underlying208
  a70 := Tryz.isAgg208
  z70 := Tryz.sizeOf208
  v70 := Tryz.zeroValue208
  t76 := Tryz.underlying212
  a76 := Tryz.isAgg212
  z76 := Tryz.sizeOf212
  v76 := Tryz.zeroValue212
  t77 := Tryz.underlying213
  a77 := Tryz.isAgg213
  z77 := Tryz.sizeOf213
  v77 := Tryz.zeroValue213 }
end Go.Proofs

set_option maxRecDepth 100000
set_option linter.unusedVariables false
set_option linter.unusedSimpArgs false
namespace Go.Proofs.YtdjhfeaimmpmhaaGreat
open Go.RowKit Go.Sort Go.Shelf

section
variable {α : Type} [Inhabited α] {enc : α → Value} {w : World} {B g cap n : Nat} {e : TypeId} {d : List α} {os : Array Obj}
theorem holds_own (h : Own w B e (.slice (some ⟨g, 0, none⟩) d.length cap) (d.map enc)) : Holds enc w g 0 d.toArray := by
  rcases h.cases with ⟨e, _⟩ | ⟨g', cap', cur, e, h1, h2, h3, h4, h5, h6, h7⟩
  · cases e
  simp only [Value.slice.injEq, Option.some.injEq, Addr.mk.injEq] at e
  obtain ⟨⟨rfl, -⟩, -, rfl⟩ := e
  intro j hj
  have hj' : j < d.length := by simpa using hj
  refine ⟨?_, by simp [World.frozen?, h3]⟩
  have h8 : (cur.toList.take (d.map enc).length)[j]? = (d.map enc)[j]? := by rw [h7]
  rw [List.getElem?_take_of_lt (by simpa using hj')] at h8
  simp only [World.cell?, h3, Nat.zero_add]
  simp only [Option.isSome_none, Bool.false_eq_true, if_false]
  rw [← Array.getElem?_toList, h8]
  simp [hj']
theorem heap_srt {cur : Array Value} {fr : Nat × Nat} (d : Array α) (hb : w.heap[g]? = some (.cells cur e fr)) :
    (sortWorld enc w g 0 n d os).heap[g]? = some (.cells (putCells enc 0 d cur) e fr) := by
  have hg : g < w.heap.size := (Array.getElem?_eq_some_iff.1 hb).1
  unfold sortWorld
  rw [heap_grow_old _ _ (by simpa using hg)]
  simp [putRow, mapBlock, Sort.ahead, Array.getElem?_modify, hb, onCells]
theorem grownBy_srt (d : Array α) : w.grownBy (sortWorld enc w g 0 n d os) (some g) := by
  unfold sortWorld
  refine ⟨rfl, rfl, rfl, by simp, fun k hk hne => ?_⟩
  rw [heap_grow_old _ _ (by simpa using hk)]
  have : g ≠ k := fun e => hne (by rw [e])
  simp [putRow, mapBlock, Sort.ahead, Array.getElem?_modify, this]
theorem take_put (cur : Array Value) (ts : List α) (h : ts.length ≤ cur.size) : (putCells enc 0 ts.toArray cur).toList.take ts.length = ts.map enc := by
  apply List.ext_getElem?
  intro j
  by_cases hj : j < ts.length
  · rw [List.getElem?_take_of_lt hj, Array.getElem?_toList]
    simp [putCells, hj, show j < cur.size by omega]
  · rw [List.getElem?_take_eq_none (by omega), List.getElem?_eq_none (by simp; omega)]
/-- behind the sort the same slice owns the sorted list -/
theorem own_srt {ts : List α} (h : Own w B e (.slice (some ⟨g, 0, none⟩) d.length cap) (d.map enc)) (hl : ts.length = d.length) :
    Own (sortWorld enc w g 0 n ts.toArray os) B e (.slice (some ⟨g, 0, none⟩) d.length cap) (ts.map enc) := by
  rcases h.cases with ⟨e, _⟩ | ⟨g', cap', cur, e, h1, h2, h3, h4, h5, h6, h7⟩
  · cases e
  simp only [Value.slice.injEq, Option.some.injEq, Addr.mk.injEq] at e
  obtain ⟨⟨rfl, -⟩, -, rfl⟩ := e
  rw [List.length_map] at h4
  unfold Own
  rw [List.length_map]
  exact ⟨by simp, .inr ⟨g, cap, _, by rw [hl], h1, heap_srt _ h3, by omega, h5, by simp [putCells, h6], by rw [Nat.mul_one]; exact take_put cur ts (by omega)⟩⟩
end
end Go.Proofs.YtdjhfeaimmpmhaaGreat

set_option maxRecDepth 100000
set_option linter.unusedVariables false
set_option linter.unusedSimpArgs false
namespace Go.Proofs.YtdjhfeaimmpmhaaGreat
open Go.RowKit Go.Sort Go.Shelf

theorem i_canonDesc (w : World) (v v' : Value) (a b : List Int) (ha : Ints w v a) (hb : Ints w v' b) :
    Calls Tryz.prog 204 #[v, v'] w fun e w' => e = .returned (.int .i64 (cmpL b a)) ∧ w = w' := by
  have HA := Lib.hid ha
  have HB := Lib.hid hb
  obtain ⟨A, c, rfl, -, -, -⟩ := ha.open_
  obtain ⟨A', c', rfl, -, -, -⟩ := hb.open_
  clear ha hb
  go_enter Tryz.func204, Tryz.ntmps204
  go_wp2_with (go_at_call 168; refine (lib_Compare _ _ _ b a HB.out HA.out).mono ?_; rintro e w1 ⟨rfl, rfl⟩)
  go_ret
  exact ⟨rfl, rfl⟩

/-- a list of numbers of one's own, with what it holds -/
abbrev Row1s (w : World) (B : Nat) := {p : Value × List Nat // OwnInts w B tI p.1 (up p.2)}
instance (w : World) (B : Nat) : Inhabited (Row1s w B) := ⟨⟨(.slice none 0 0, []), OwnInts.nil _ _ _⟩⟩

theorem mkRows {w : World} {B : Nat} : ∀ {vs : List Value} {bs : List (List Nat)}, RR w B vs (bs.map up) → ∃ d : List (Row1s w B), d.map (fun x => x.1.1) = vs ∧ d.map (fun x => x.1.2) = bs
  | [], [], _ => ⟨[], rfl, rfl⟩
  | [], _ :: _, h => by have := h.1; simp at this
  | _ :: _, [], h => by have := h.1; simp at this
  | v :: vs, b :: bs, h => by
    obtain ⟨d, h1, h2⟩ := mkRows (vs := vs) (bs := bs) ⟨by have := h.1; simpa using this, fun k u zs hu hz => h.2 (k + 1) u zs (by simpa using hu) (by simpa using hz)⟩
    exact ⟨⟨(v, b), h.2 0 v (up b) (by simp) (by simp)⟩ :: d, by simp [h1], by simp [h2]⟩

theorem rowCmp {w : World} {B : Nat} (x y : Row1s w B) : ltOf (fun (x y : Row1s w B) => cmpL (up y.1.2) (up x.1.2)) x y = ltN y.1.2 x.1.2 := cmpL_up _ _
theorem rowSwo (w : World) (B : Nat) : SWO (ltOf fun (x y : Row1s w B) => cmpL (up y.1.2) (up x.1.2)) where
  irrefl x := by rw [rowCmp]; exact ltN_irrefl _
  trans x y z h1 h2 := by rw [rowCmp] at *; exact ltN_trans h2 h1
  ntrans x y z h1 h2 := by rw [rowCmp] at *; exact ltN_ntrans h2 h1

theorem lib_SortDesc (w : World) (B cap : Nat) (A : Option Addr) (vs : List Value) (bs : List (List Nat)) (h : Own w B tL (.slice A vs.length cap) vs) (hr : RR w B vs (bs.map up)) (hn : vs.length ≤ 1000) :
    Calls Tryz.prog 203 #[.slice A vs.length cap, .func (.func 204) #[] #[]] w fun e w' => e = .returned (.tuple #[]) ∧
      ∃ vs', vs'.length = vs.length ∧ Own w' B tL (.slice A vs.length cap) vs' ∧ RR w' B vs' ((srtD bs).map up) ∧ w.grownBy w' (Value.ownBlock (.slice A vs.length cap)) := by
  rcases h.cases with ⟨he, rfl⟩ | ⟨g, cap', cur, he, hBg, hgs, -⟩
  · simp only [Value.slice.injEq] at he
    obtain ⟨rfl, -, rfl⟩ := he
    have hb : bs = [] := by have h0 := hr.1; rw [List.length_map] at h0; exact List.eq_nil_of_length_eq_zero h0.symm
    subst hb
    refine (AnyF.slices_SortFunc_none { Tryz.lsort with } none 0 _ w).mono ?_
    rintro e w' ⟨rfl, rfl⟩
    exact ⟨rfl, [], rfl, h, hr, World.grownBy.refl _ _⟩
  · simp only [Value.slice.injEq] at he
    obtain ⟨rfl, -, rfl⟩ := he
    obtain ⟨d, hd1, hd2⟩ := mkRows hr
    have hdl : d.length = vs.length := by rw [← hd1, List.length_map]
    have ho : Own w B tL (.slice (some ⟨g, 0, none⟩) d.length cap) (d.map fun x => x.1.1) := by rw [hd1, hdl]; exact h
    have hone : OneCell (fun x : Row1s w B => x.1.1) := fun x => (RR.one x.2).oneCell _ (by simp)
    have eg : ∀ args w, (callFunc 204 args).run Tryz.prog w = .ok (.enter 204 args) w := enters_of Tryz.func204 (by kernel_rfl) rfl
    have hkeep : ∀ (x : Row1s w B) (m : Nat) (dk : Array (Row1s w B)) (os : Array Obj), OwnInts (sortWorld (fun x : Row1s w B => x.1.1) w g 0 m dk os) B tI x.1.1 (up x.1.2) := fun x m dk os =>
      x.2.kept (v' := .slice (some ⟨g, 0, none⟩) vs.length cap) (grownBy_srt dk) (x.2.1.ne_of_type h (by decide))
    have hcmp : CmpReads Tryz.prog 204 #[] (fun x : Row1s w B => x.1.1) (fun x y => cmpL (up y.1.2) (up x.1.2)) g 0 d.toArray.size w := fun m os dk _ x y =>
      (i_canonDesc _ _ _ _ _ (hkeep x m dk os).ints (hkeep y m dk os).ints).mono fun e w' ⟨he, hw⟩ => ⟨he, 0, hw.symm⟩
    have hcon := Any.slices_SortFunc Tryz.lsort (fun x : Row1s w B => x.1.1) hone _ (rowSwo w B) 204 #[] g 0 cap d.toArray w eg hcmp.lays (holds_own ho) hgs (by simp; omega)
    rw [List.size_toArray, hdl] at hcon
    refine hcon.mono ?_
    rintro e w' ⟨rfl, d', n, os, hp, hs, rfl⟩
    have hsz : d'.size = vs.length := by have := hp.1; simp at this; omega
    have hperm : d'.toList.Perm d := by
      have h3 := hp.2.2
      rw [← hsz] at h3
      simp only [Array.extract_size] at h3
      have e : (d.toArray.extract 0 d'.size).toList = d := by
        rw [show d'.size = d.toArray.size by simp; omega, Array.extract_size]
      rw [e] at h3
      exact h3
    have hdesc : Desc (d'.toList.map fun x => x.1.2) := by
      rw [Desc, List.pairwise_iff_getElem]
      intro i j hi hj hij
      simp at hi hj
      have h4 := hs i j (Nat.zero_le _) hij (by omega)
      rw [rowCmp, getElem!_pos d' i (by omega), getElem!_pos d' j (by omega)] at h4
      simpa using h4
    have hL : (d'.toList.map fun x => x.1.2) = srtD bs := srtD_unique (by rw [← hd2]; exact hperm.map _) hdesc
    have hl : d'.toList.length = d.length := by simp; omega
    have hfin := own_srt (n := n) (os := os) ho hl
    simp only [Array.toArray_toList] at hfin
    rw [hdl] at hfin
    refine ⟨rfl, d'.toList.map (fun x => x.1.1), by simp; omega, hfin, ⟨by rw [← hL]; simp, fun k u zs hu hz => ?_⟩, grownBy_srt d'⟩
    rw [← hL, List.map_map, List.getElem?_map] at hz
    rw [List.getElem?_map] at hu
    cases hx : d'.toList[k]? with
    | none => rw [hx] at hu; cases hu
    | some x =>
      rw [hx] at hu hz
      simp only [Option.map_some, Option.some.injEq, Function.comp] at hu hz
      subst hu; subst hz
      exact hkeep x _ _ _
end Go.Proofs.YtdjhfeaimmpmhaaGreat

set_option maxRecDepth 100000
set_option linter.unusedVariables false
set_option linter.unusedSimpArgs false
namespace Go.Proofs.YtdjhfeaimmpmhaaGreat
open Go.RowKit

theorem ints_oneV (zs : List Int) : ∀ u ∈ ints zs, u.oneCell' = true := by
  intro u hu
  obtain ⟨z, _, rfl⟩ := List.mem_map.1 hu
  rfl

set_option maxHeartbeats 1000000 in
theorem lib_Clone (w : World) (v : Value) (zs : List Int) (ha : Ints w v zs) (hn : zs.length ≤ 4294967296) :
    Calls Tryz.prog 167 #[v] w fun e w' => ∃ r, e = .returned r ∧ OwnInts w' w.heap.size tI r zs ∧ Below w.heap.size w w' := by
  obtain ⟨A, c, rfl, l1, l2, h3⟩ := ha.open_
  have HA := Lib.hid ha
  clear h3 ha
  have OL := Lib.hid (own_lit w tI [] (by simp [maxLen]))
  have B1 := Lib.hid (below1 w (.cells #[] tI))
  have en := fun (W : World) (a : Option Addr) (n c : Nat) => Lib.run_eql_slice_nil (P := Tryz.prog) W 24 2 a n c 0 0 Tryz.underlying24
  go_enter Tryz.func167, Tryz.ntmps167
  cases A with
  | none =>
    have HZ := Lib.hid (show zs = [] by
      obtain ⟨A, c', hv, -, -, h3⟩ := HA.out.open_
      simp only [Value.slice.injEq] at hv
      obtain ⟨rfl, -, -⟩ := hv
      cases zs with
      | nil => rfl
      | cons z r => obtain ⟨ad, _, hA, _⟩ := h3 0 (by simp); cases hA)
    go_wp2_with fail
    go_ret
    refine ⟨_, rfl, ?_, Below.refl _ _⟩
    rw [HZ.out]
    exact OwnInts.nil _ _ _
  | some ad =>
    go_wp2_with (at_builtin; refine wpList_appN T_int OL.out (HA.out.below B1.out).1 (by rw [ints_len]; simp; omega) B1.out.size (ints_oneV _) rfl (by rfl) (by rfl) (by rfl) ?_; intro v1 w2 hown1 hgr1)
    go_ret
    exact ⟨_, rfl, ⟨by simpa using hown1, HA.out.2⟩, hgr1.below B1.out (by simp) OL.out.ge⟩

end Go.Proofs.YtdjhfeaimmpmhaaGreat

set_option maxRecDepth 100000
set_option linter.unusedVariables false
set_option linter.unusedSimpArgs false
namespace Go.Proofs.YtdjhfeaimmpmhaaGreat
open Go.RowKit

theorem pairApart_perm {vs vs' : List Value} (h : vs.Pairwise Apart) (hp : vs'.Perm vs) : vs'.Pairwise Apart := (hp.pairwise_iff fun h => h.symm).2 h
theorem pairApart_cons {vs : List Value} {u : Value} (h : vs.Pairwise Apart) (hu : ∀ x ∈ vs, Apart x u) : (u :: vs).Pairwise Apart := List.pairwise_cons.2 ⟨fun x hx => (hu x hx).symm, h⟩
theorem pairApart_snoc {vs : List Value} {u : Value} (h : vs.Pairwise Apart) (hu : ∀ x ∈ vs, Apart x u) : (vs ++ [u]).Pairwise Apart := pairApart_perm (pairApart_cons h hu) (List.perm_append_singleton u vs)
/-- a row that has just been made lies apart from rows that were there -/
theorem RR.fresh {w : World} {B M : Nat} {vs : List Value} {xss : List (List Int)} {u : Value} (h : RR w B vs xss) (hM : w.heap.size ≤ M) (hu : ∀ b, u.ownBlock = some b → M ≤ b) : ∀ x ∈ vs, Apart x u := by
  intro x hx
  obtain ⟨k, hk, rfl⟩ := List.getElem_of_mem hx
  have hz : xss[k]? = some (xss[k]'(by rw [← h.1]; exact hk)) := List.getElem?_eq_getElem _
  exact apart_of_lt (fun b hb => Nat.lt_of_lt_of_le ((h.2 k _ _ (List.getElem?_eq_getElem hk) hz).1.lt b hb) hM) hu

def LA (w : World) (B : Nat) (v : Value) (xss : List (List Int)) : Prop := ∃ vs, Own w B tL v vs ∧ RR w B vs xss ∧ vs.Pairwise Apart
section
variable {w w' : World} {B : Nat} {v : Value} {xss : List (List Int)}
theorem LA.ll (h : LA w B v xss) : LL w B v xss := by obtain ⟨vs, h1, h2, -⟩ := h; exact ⟨vs, h1, h2⟩
theorem LA.below (h : LA w B v xss) (hb : Below w.heap.size w w') : LA w' B v xss := by obtain ⟨vs, h1, h2, h3⟩ := h; exact ⟨vs, h1.below hb, h2.below hb, h3⟩
theorem LA.mono {B' : Nat} (h : LA w B v xss) (hB : B' ≤ B) : LA w B' v xss := by obtain ⟨vs, h1, h2, h3⟩ := h; exact ⟨vs, h1.mono hB, h2.mono hB, h3⟩
theorem LA.rows (h : LA w B v xss) : Rows w v xss := h.ll.rows
theorem LA.nil (w : World) (B : Nat) : LA w B (.slice none 0 0) [] := ⟨[], Own.nil _ _ _, RR.nil _ _, List.Pairwise.nil⟩
theorem LA.or (h : LA w B v xss) : OR w B w.heap.size tL tI v xss := by
  obtain ⟨vs, h1, h2, h3⟩ := h
  refine ⟨vs, h1, h1.lt, h2.1, fun k u zs hu hz => OI.of (h2.2 k u zs hu hz), fun i j u u' hij hu hu' => ?_⟩
  have hi := (List.getElem?_eq_some_iff.1 hu).1
  have hj := (List.getElem?_eq_some_iff.1 hu').1
  have := List.pairwise_iff_getElem.1 h3 i j hi hj hij
  rw [(List.getElem?_eq_some_iff.1 hu).2, (List.getElem?_eq_some_iff.1 hu').2] at this
  exact this
end
end Go.Proofs.YtdjhfeaimmpmhaaGreat

