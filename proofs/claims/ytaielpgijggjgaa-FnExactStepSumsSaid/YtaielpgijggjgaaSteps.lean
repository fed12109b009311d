/- Walks of the steps: areSteps, StepSums. -/
import Derived.Test.YtaielpgijggjgaaRows
import Derived.Test.YtaielpgijggjgaaMem
import Derived.Test.YtaielpgijggjgaaNum
import Derived.Test.YtaielpgijggjgaaA
import Derived.Test.YtaielpgijggjgaaB
import Derived.Test.YtaielpgijggjgaaL
import Derived.WalkLawsBesides
import Derived.BigGuardPart
set_option linter.unusedVariables false
set_option linter.unusedSimpArgs false
namespace Go.Proofs.Ytaielpgijggjgaa
open Go.RowKit

def stepsB (zs : List Int) : Bool := inR zs.length 1 9 && nums zs
def stepSum (zs : List Int) (k : Nat) : Int := sumF (fun g => pw g k) zs % 10007
def stepSumsTo (zs : List Int) (j : Nat) : List Int := (List.range j).map fun i => stepSum zs (i + 1)
def stepSumsF (zs : List Int) : List Int := if stepsB zs then stepSumsTo zs 6 else []
def stepSumsC (zs : List Int) : Int := if stepsB zs then 0 else 2

set_option maxHeartbeats 400000 in
theorem lib_lengthI (w : World) (v : Value) (zs : List Int) (ha : Ints w v zs) : Calls Try.prog 49 #[v] w fun e w' => e = .returned (.int .i64 zs.length) ∧ w = w' := by
  obtain ⟨A, c, rfl, h1, h2, h3⟩ := ha.open_
  clear ha h3
  go_enter Try.func49, Try.ntmps49
  go_wp2
  go_ret
  exact ⟨rfl, rfl⟩

set_option maxHeartbeats 400000 in
theorem i_areSteps (w : World) (v : Value) (zs : List Int) (ha : Ints w v zs) : Calls Try.prog 31 #[v] w fun e w' => e = .returned (.bool (stepsB zs)) ∧ w = w' := by
  have HA := Lib.hid ha
  clear ha
  cases hr : inR zs.length 1 9 with
  | true =>
    have HF : stepsB zs = nums zs := by simp [stepsB, hr]
    have HF' := Lib.hid HF
    clear HF
    go_enter Try.func31, Try.ntmps31
    go_wp2_with (first | (go_at_call 49; refine (lib_lengthI _ _ _ HA.out).mono ?_; rintro e w' ⟨rfl, rfl⟩) | (go_at_call 48; refine (i_inRange _ _ _ _).mono ?_; rintro e w' ⟨rfl, rfl⟩) | (go_at_call 50; refine (i_areNumbers _ _ _ HA.out).mono ?_; rintro e w' ⟨rfl, rfl⟩))
    go_ret
    exact ⟨ret_bool HF'.out.symm, rfl⟩
  | false =>
    have HF : stepsB zs = false := by simp [stepsB, hr]
    have HF' := Lib.hid HF
    clear HF
    go_enter Try.func31, Try.ntmps31
    go_wp2_with (first | (go_at_call 49; refine (lib_lengthI _ _ _ HA.out).mono ?_; rintro e w' ⟨rfl, rfl⟩) | (go_at_call 48; refine (i_inRange _ _ _ _).mono ?_; rintro e w' ⟨rfl, rfl⟩) | (go_at_call 50; refine (i_areNumbers _ _ _ HA.out).mono ?_; rintro e w' ⟨rfl, rfl⟩))
    go_ret
    exact ⟨ret_bool HF'.out.symm, rfl⟩

set_option maxHeartbeats 400000 in
theorem s_l18Steps (w : World) (v : Value) (zs : List Int) (ha : Ints w v zs) : Calls Try.prog 28 #[v] w fun e w' => e = .returned (.bool (stepsB zs)) ∧ w = w' := by
  obtain ⟨A, c, rfl, h1, h2, h3⟩ := ha.open_
  have HA := Lib.hid ha
  clear ha h3
  by_cases c1 : (1 : Int) ≤ (zs.length : Int)
  · by_cases c2 : (zs.length : Int) ≤ (9 : Int)
    · have HF : stepsB zs = nums zs := by simp [stepsB, inR]; omega
      have HF' := Lib.hid HF
      clear HF
      go_enter Try.func28, Try.ntmps28
      go_wp2_with (go_at_call 45; refine (s_l01Numbers _ _ _ HA.out).mono ?_; rintro e w' ⟨rfl, rfl⟩)
      go_ret
      exact ⟨ret_bool HF'.out.symm, rfl⟩
    · have HF : stepsB zs = false := by simp [stepsB, inR]; omega
      have HF' := Lib.hid HF
      clear HF
      go_enter Try.func28, Try.ntmps28
      go_wp2_with (go_at_call 45; refine (s_l01Numbers _ _ _ HA.out).mono ?_; rintro e w' ⟨rfl, rfl⟩)
      go_ret
      exact ⟨ret_bool HF'.out.symm, rfl⟩
  · have HF : stepsB zs = false := by simp [stepsB, inR]; omega
    have HF' := Lib.hid HF
    clear HF
    go_enter Try.func28, Try.ntmps28
    go_wp2_with (go_at_call 45; refine (s_l01Numbers _ _ _ HA.out).mono ?_; rintro e w' ⟨rfl, rfl⟩)
    go_ret
    exact ⟨ret_bool HF'.out.symm, rfl⟩

theorem stepSumsTo_succ (zs : List Int) (j : Nat) : stepSumsTo zs (j + 1) = stepSumsTo zs j ++ [stepSum zs (j + 1)] := by simp [stepSumsTo, List.range_succ]
theorem stepSumsTo_len (zs : List Int) (j : Nat) : (stepSumsTo zs j).length = j := by simp [stepSumsTo]
theorem stepSumsTo_in (zs : List Int) (j : Nat) : ∀ z ∈ stepSumsTo zs j, In64 z := by
  intro z hz
  obtain ⟨i, _, rfl⟩ := List.mem_map.1 hz
  unfold In64 stepSum
  omega

set_option maxHeartbeats 1000000 in
theorem i_StepSums (w : World) (v : Value) (zs : List Int) (ha : Ints w v zs) :
    Calls Try.prog 16 #[v] w fun e w' => ∃ r, e = .returned (.tuple #[r, .int .i64 (stepSumsC zs)]) ∧ OwnInts w' w.heap.size 2 r (stepSumsF zs) ∧ Below w.heap.size w w' := by
  have HA := Lib.hid ha
  cases hs : stepsB zs with
  | false =>
    rw [show stepSumsF zs = [] by simp [stepSumsF, hs], show stepSumsC zs = 2 by simp [stepSumsC, hs]]
    clear ha
    go_enter Try.func16, Try.ntmps16
    go_wp2_with (go_at_call 31; refine (i_areSteps _ _ _ HA.out).mono ?_; rintro e w' ⟨rfl, rfl⟩)
    go_ret2
    exact ⟨_, rfl, OwnInts.nil _ _ _, Below.refl _ _⟩
  | true =>
    rw [show stepSumsF zs = stepSumsTo zs 6 by simp [stepSumsF, hs], show stepSumsC zs = 0 by simp [stepSumsC, hs]]
    have hb : inR zs.length 1 9 = true ∧ nums zs = true := by simpa [stepsB] using hs
    have hn := nums_iff.1 hb.2
    have hl := inR_iff.1 hb.1
    have hl9 : zs.length ≤ 9 := by omega
    have HN := Lib.hid hn
    clear hb hn hl
    obtain ⟨A, c, rfl, h1, h2, h3⟩ := ha.open_
    have H3 := Lib.hid h3
    clear ha h3
    have OL := Lib.hid (own_lit w 2 [] (by simp [maxLen]))
    go_enter Try.func16, Try.ntmps16
    go_wp2_with (go_at_call 31; refine (i_areSteps _ _ _ HA.out).mono ?_; rintro e w' ⟨rfl, rfl⟩)
    go_loopw [4, 5] (fun o k wr => ∃ j : Nat, j ≤ 6 ∧ k = .int .i64 ((j : Int) + 1) ∧ Own wr w.heap.size 2 o (ints (stepSumsTo zs j)) ∧ Below w.heap.size w wr) (fun _ k _ => 8 - (intOf k).toNat)
    case atStart => exact ⟨0, by omega, rfl, OL.out, (Below.refl _ _).alloc (Nat.le_refl _) _⟩
    case round =>
      obtain ⟨j, hj, rfl, hown, hb⟩ := hrel
      have HO := Lib.hid hown
      have HB := Lib.hid hb
      clear hown hb
      by_cases hlt : j < 6
      · have hk6 : (j : Int) + 1 ≤ 6 := by omega
        go_wp2_with fail
        obtain ⟨wo, rfl⟩ : ∃ wo : World, wo = wr := ⟨_, rfl⟩
        go_loop [6, 19] (fun s i => ∃ k : Nat, k ≤ zs.length ∧ i = .int .i64 k ∧ s = .int .i64 (sumF (fun g => pw g (j + 1)) (zs.take k))) (fun _ i => zs.length - (intOf i).toNat)
        case atStart => exact ⟨0, Nat.zero_le _, rfl, rfl⟩
        case round =>
          obtain ⟨k, hk, rfl, rfl⟩ := hrel
          by_cases hlt2 : k < zs.length
          · obtain ⟨ad, z, rfl, hz, hz2, hc0⟩ := H3.out k hlt2
            have hc : wo.cell? (ad.add k) = some (.int .i64 z) := by
              rw [HB.out.cell (by rw [block_add]; have := World.block_lt_of_cell? w _ hc0; rwa [block_add] at this)]; exact hc0
            have hzn := HN.out z (List.mem_of_getElem? hz)
            have HS := Lib.hid (sumF_take (fun g => pw g (j + 1)) hz)
            have hbd := sumF_bd (fun g => pw g (j + 1)) 10006 (zs.take k) (fun x _ => pw_bd x (j + 1))
            have hbd2 : sumF (fun g => pw g (j + 1)) (zs.take k) ≤ 90054 := by
              have := hbd.2
              have e : ((zs.take k).length : Int) ≤ 9 := by simp; omega
              omega
            have hbd1 := hbd.1
            have hpb := pw_bd z (j + 1)
            clear hbd hz hz2 hc0
            go_wp2_with (go_at_call 32; refine (i_pow _ _ _ (by omega) (by omega) (by omega) (by omega)).mono ?_; rintro e w' ⟨rfl, rfl⟩)
            go_round
            case rel => exact ⟨k + 1, by omega, by go_num, by rw [HS.out]⟩
            case measure => simp [intOf]; omega
          · have : k = zs.length := by omega
            subst this
            have hbd := sumF_bd (fun g => pw g (j + 1)) 10006 zs (fun x _ => pw_bd x (j + 1))
            rw [List.take_length]
            have hbd2 : sumF (fun g => pw g (j + 1)) zs ≤ 90054 := by
              have := hbd.2
              omega
            have hbd1 := hbd.1
            clear hbd
            go_wp2_with (first | (go_at_call 33; refine (i_num _ _ (by omega) (by omega)).mono ?_; rintro e w' ⟨rfl, rfl⟩) | (at_builtin; refine wpList_app1 T_int HO.out (by rw [ints_len, stepSumsTo_len]; omega) HB.out.size (by rfl) rfl (by rfl) (by rfl) (by rfl) ?_; intro v1 w1 hown1 hgr1))
            go_roundw
            case rel => 
              refine ⟨j + 1, by omega, by go_num, ?_, hgr1.below HB.out HB.out.size HO.out.ge⟩
              rw [stepSumsTo_succ]
              simpa [ints, stepSum] using hown1
            case measure => simp [intOf]; omega
      · have : j = 6 := by omega
        subst this
        go_wp2_with fail
        go_ret2
        exact ⟨_, rfl, ⟨HO.out, stepSumsTo_in _ _⟩, HB.out⟩
set_option maxHeartbeats 1000000 in
theorem s_StepSums (w : World) (v : Value) (zs : List Int) (ha : Ints w v zs) :
    Calls Try.prog 14 #[v] w fun e w' => ∃ r, e = .returned (.tuple #[r, .int .i64 (stepSumsC zs)]) ∧ OwnInts w' w.heap.size 2 r (stepSumsF zs) ∧ Below w.heap.size w w' := by
  have HA := Lib.hid ha
  cases hs : stepsB zs with
  | false =>
    rw [show stepSumsF zs = [] by simp [stepSumsF, hs], show stepSumsC zs = 2 by simp [stepSumsC, hs]]
    clear ha
    go_enter Try.func14, Try.ntmps14
    go_wp2_with (go_at_call 28; refine (s_l18Steps _ _ _ HA.out).mono ?_; rintro e w' ⟨rfl, rfl⟩)
    go_ret2
    exact ⟨_, rfl, OwnInts.nil _ _ _, Below.refl _ _⟩
  | true =>
    rw [show stepSumsF zs = stepSumsTo zs 6 by simp [stepSumsF, hs], show stepSumsC zs = 0 by simp [stepSumsC, hs]]
    have hb : inR zs.length 1 9 = true ∧ nums zs = true := by simpa [stepsB] using hs
    have hn := nums_iff.1 hb.2
    have HN := Lib.hid hn
    clear hb hn
    obtain ⟨A, c, rfl, h1, h2, h3⟩ := ha.open_
    have H3 := Lib.hid h3
    clear ha h3
    have OL := Lib.hid (own_lit w 2 [] (by simp [maxLen]))
    go_enter Try.func14, Try.ntmps14
    go_wp2_with (go_at_call 28; refine (s_l18Steps _ _ _ HA.out).mono ?_; rintro e w' ⟨rfl, rfl⟩)
    go_loopw [4, 5] (fun o k wr => ∃ j : Nat, j ≤ 6 ∧ k = .int .i64 ((j : Int) + 1) ∧ Own wr w.heap.size 2 o (ints (stepSumsTo zs j)) ∧ Below w.heap.size w wr) (fun _ k _ => 8 - (intOf k).toNat)
    case atStart => exact ⟨0, by omega, rfl, OL.out, (Below.refl _ _).alloc (Nat.le_refl _) _⟩
    case round =>
      obtain ⟨j, hj, rfl, hown, hb⟩ := hrel
      have HO := Lib.hid hown
      have HB := Lib.hid hb
      clear hown hb
      by_cases hlt : j < 6
      · have hk6 : (j : Int) + 1 ≤ 6 := by omega
        go_wp2_with fail
        obtain ⟨wo, rfl⟩ : ∃ wo : World, wo = wr := ⟨_, rfl⟩
        go_loop [6, 7] (fun s i => ∃ k : Nat, k ≤ zs.length ∧ i = .int .i64 k ∧ s = .int .i64 (sumF (fun g => pw g (j + 1)) (zs.take k) % 10007)) (fun _ i => zs.length - (intOf i).toNat)
        case atStart => exact ⟨0, Nat.zero_le _, rfl, rfl⟩
        case round =>
          obtain ⟨k, hk, rfl, rfl⟩ := hrel
          by_cases hlt2 : k < zs.length
          · obtain ⟨ad, z, rfl, hz, hz2, hc0⟩ := H3.out k hlt2
            have hc : wo.cell? (ad.add k) = some (.int .i64 z) := by
              rw [HB.out.cell (by rw [block_add]; have := World.block_lt_of_cell? w _ hc0; rwa [block_add] at this)]; exact hc0
            have hzn := HN.out z (List.mem_of_getElem? hz)
            have HS := Lib.hid (sumF_take (fun g => pw g (j + 1)) hz)
            have hpb := pw_bd z (j + 1)
            clear hz hz2 hc0
            go_wp2_with (first | (go_at_call 30; refine (s_l01Pow _ _ _ (by omega) (by omega) (by omega) (by omega)).mono ?_; rintro e w' ⟨rfl, rfl⟩) | (go_at_call 29; refine (s_l01Add _ _ _ (by omega) (by omega) (by omega) (by omega)).mono ?_; rintro e w' ⟨rfl, rfl⟩))
            go_round
            case rel => exact ⟨k + 1, by omega, by go_num, by rw [HS.out]⟩
            case measure => simp [intOf]; omega
          · have : k = zs.length := by omega
            subst this
            rw [List.take_length]
            go_wp2_with (at_builtin; refine wpList_app1 T_int HO.out (by rw [ints_len, stepSumsTo_len]; omega) HB.out.size (by rfl) rfl (by rfl) (by rfl) (by rfl) ?_; intro v1 w1 hown1 hgr1)
            go_roundw
            case rel =>
              refine ⟨j + 1, by omega, by go_num, ?_, hgr1.below HB.out HB.out.size HO.out.ge⟩
              rw [stepSumsTo_succ]
              simpa [ints, stepSum] using hown1
            case measure => simp [intOf]; omega
      · have : j = 6 := by omega
        subst this
        go_wp2_with fail
        go_ret2
        exact ⟨_, rfl, ⟨HO.out, stepSumsTo_in _ _⟩, HB.out⟩

theorem stepSumsF_len (zs : List Int) : (stepSumsF zs).length ≤ 6 := by
  unfold stepSumsF
  split
  · rw [stepSumsTo_len]; omega
  · simp
end Go.Proofs.Ytaielpgijggjgaa
