/- Walks: allStages, l10Backwards. -/
import Derived.Test.YtgbfifcbbfhpmaaScaleP
set_option linter.unusedVariables false
set_option linter.unusedSimpArgs false
namespace Go.Proofs.Ytgbfifcbbfhpmaa
open Go.RowKit

/-- 0, 1, .. n - 1 -/
def upTo (n : Nat) : List Int := (List.range n).map fun (i : Nat) => (i : Int)
theorem upTo_len (n : Nat) : (upTo n).length = n := by simp [upTo]
theorem upTo_succ (n : Nat) : upTo (n + 1) = upTo n ++ [(n : Int)] := by simp [upTo, List.range_succ]
theorem upTo_in (n : Nat) (h : n ≤ 1000000) : ∀ z ∈ upTo n, In64 z := by
  intro z hz
  obtain ⟨i, hi, rfl⟩ := List.mem_map.1 hz
  have := List.mem_range.1 hi
  unfold In64
  omega
/-- n - 1, .. 1, 0: the first j of them -/
def downTo (n j : Nat) : List Int := (List.range j).map fun (i : Nat) => ((n - 1 - i : Nat) : Int)
theorem downTo_len (n j : Nat) : (downTo n j).length = j := by simp [downTo]
theorem downTo_succ (n j : Nat) : downTo n (j + 1) = downTo n j ++ [((n - 1 - j : Nat) : Int)] := by simp [downTo, List.range_succ]
theorem downTo_in (n j : Nat) (h : n ≤ 1000000) : ∀ z ∈ downTo n j, In64 z := by
  intro z hz
  obtain ⟨i, hi, rfl⟩ := List.mem_map.1 hz
  unfold In64
  omega

set_option maxHeartbeats 1000000 in
theorem s_l10Backwards (w : World) (n : Nat) (hn : n ≤ 1000) :
    Calls Try.prog 50 #[.int .i64 (n : Int)] w fun e w' => ∃ r, e = .returned r ∧ OwnInts w' w.heap.size tI r (downTo n n) ∧ Below w.heap.size w w' := by
  have OL := Lib.hid (own_lit w tI [] (by simp [maxLen]))
  go_enter Try.func50, Try.ntmps50
  go_wp2_with fail
  go_loopw [3, 4] (fun o i wr => ∃ j : Nat, j ≤ n ∧ i = .int .i64 ((n : Int) - 1 - (j : Int)) ∧ Own wr w.heap.size tI o (ints (downTo n j)) ∧ Below w.heap.size w wr) (fun _ i _ => (intOf i + 1).toNat)
  case atStart => exact ⟨0, Nat.zero_le _, by simp, by simpa [downTo, ints] using OL.out, (Below.refl _ _).alloc (Nat.le_refl _) _⟩
  case round =>
    obtain ⟨j, hj, rfl, hown, hb⟩ := hrel
    clear OL
    have HO := Lib.hid hown
    have HB := Lib.hid hb
    clear hown hb
    by_cases hlt : j < n
    · have hge : 0 ≤ (n : Int) - 1 - (j : Int) := by omega
      go_wp2_with (at_builtin; refine wpList_app1 T_int HO.out (by rw [ints_len, downTo_len]; omega) HB.out.size (by rfl) rfl (by rfl) (by rfl) (by rfl) ?_; intro v1 w1 hown1 hgr1)
      go_roundw
      case rel =>
        refine ⟨j + 1, by omega, by congr 1; omega, ?_, hgr1.below HB.out HB.out.size HO.out.ge⟩
        have e : ((n - 1 - j : Nat) : Int) = (n : Int) - 1 - (j : Int) := by omega
        rw [downTo_succ, e]
        simpa [ints] using hown1
      case measure => simp [intOf]; omega
    · have : j = n := by omega
      subst this
      have hneg : ¬ (0 : Int) ≤ (j : Int) - 1 - (j : Int) := by omega
      go_wp2_with fail
      go_ret
      exact ⟨_, rfl, ⟨HO.out, downTo_in _ _ (by omega)⟩, HB.out⟩

set_option maxHeartbeats 1000000 in
theorem im_allStages (w : World) (v : Value) (A : List (List Int)) (Bs : List Int) (ha : TabArg w v A Bs) (hn : Bs.length ≤ 1000) :
    Calls Try.prog 100 #[v] w fun e w' => ∃ r, e = .returned r ∧ OwnInts w' w.heap.size tI r (upTo Bs.length) ∧ Below w.heap.size w w' := by
  obtain ⟨Aa, ca, Ab, cb, rfl⟩ := ha.open_
  clear ha
  have OL := Lib.hid (own_lit (w.alloc (.cells #[.slice Aa A.length ca, .slice Ab Bs.length cb] 27)) tI [] (by simp [maxLen]))
  have B0 := Lib.hid (below2 w (.cells #[.slice Aa A.length ca, .slice Ab Bs.length cb] 27) (.cells #[] tI))
  go_enter Try.func100, Try.ntmps100
  go_wp2_with fail
  go_loopw [3, 9] (fun o i wr => ∃ j : Nat, j ≤ Bs.length ∧ i = .int .i64 (j : Int) ∧ Own wr w.heap.size tI o (ints (upTo j)) ∧ Below w.heap.size w wr) (fun _ i _ => Bs.length - (intOf i).toNat)
  case atStart => exact ⟨0, Nat.zero_le _, rfl, (by have h := OL.out.mono (B' := w.heap.size) (by simp); simpa [upTo, ints] using h), B0.out⟩
  case round =>
    obtain ⟨j, hj, rfl, hown, hb⟩ := hrel
    clear OL
    have HO := Lib.hid hown
    have HB := Lib.hid hb
    clear hown hb
    by_cases hlt : j < Bs.length
    · go_wp2_with (at_builtin; refine wpList_app1 T_int HO.out (by rw [ints_len, upTo_len]; omega) HB.out.size (by rfl) rfl (by rfl) (by rfl) (by rfl) ?_; intro v1 w1 hown1 hgr1)
      go_roundw
      case rel =>
        refine ⟨j + 1, by omega, by go_num, ?_, hgr1.below HB.out HB.out.size HO.out.ge⟩
        rw [upTo_succ]
        simpa [ints] using hown1
      case measure => simp [intOf]; omega
    · have : j = Bs.length := by omega
      subst this
      go_wp2_with fail
      go_ret
      exact ⟨_, rfl, ⟨HO.out, upTo_in _ (by omega)⟩, HB.out⟩
end Go.Proofs.Ytgbfifcbbfhpmaa
