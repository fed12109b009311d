/- Walks of tests: in a range, a number, all numbers. -/
import Derived.Test.YtgnmnpjbmdifbaaRows
import Derived.Test.YtgnmnpjbmdifbaaMem
import Derived.Test.YtgnmnpjbmdifbaaNum
import Derived.WalkLawsBesides
import Derived.BigGuardPart
set_option linter.unusedVariables false
set_option linter.unusedSimpArgs false
namespace Go.Proofs.Ytgnmnpjbmdifbaa
open Go.RowKit

set_option maxHeartbeats 400000 in
theorem i_inRange (n lo hi : Int) (w : World) :
    Calls Try.prog 61 #[.int .i64 n, .int .i64 lo, .int .i64 hi] w fun e w' => e = .returned (.bool (inR n lo hi)) ∧ w = w' := by
  by_cases h1 : lo ≤ n
  · by_cases h2 : n ≤ hi
    · go_enter Try.func61, Try.ntmps61
      go_wp2
      go_ret
      exact ⟨ret_bool (by simp [inR, h1, h2]), rfl⟩
    · go_enter Try.func61, Try.ntmps61
      go_wp2
      go_ret
      exact ⟨ret_bool (by simp [inR, h1, h2]), rfl⟩
  · go_enter Try.func61, Try.ntmps61
    go_wp2
    go_ret
    exact ⟨ret_bool (by simp [inR]; omega), rfl⟩

set_option maxHeartbeats 400000 in
theorem s_l01In (n lo hi : Int) (w : World) :
    Calls Try.prog 89 #[.int .i64 n, .int .i64 lo, .int .i64 hi] w fun e w' => e = .returned (.bool (inR n lo hi)) ∧ w = w' := by
  by_cases h1 : lo ≤ n
  · by_cases h2 : n ≤ hi
    · go_enter Try.func89, Try.ntmps89
      go_wp2
      go_ret
      exact ⟨ret_bool (by simp [inR, h1, h2]), rfl⟩
    · go_enter Try.func89, Try.ntmps89
      go_wp2
      go_ret
      exact ⟨ret_bool (by simp [inR, h1, h2]), rfl⟩
  · go_enter Try.func89, Try.ntmps89
    go_wp2
    go_ret
    exact ⟨ret_bool (by simp [inR]; omega), rfl⟩

set_option maxHeartbeats 400000 in
theorem i_IsNumber (n : Int) (w : World) : Calls Try.prog 114 #[.int .i64 n] w fun e w' => e = .returned (.bool (isNum n)) ∧ w = w' := by
  go_enter Try.func114, Try.ntmps114
  go_wp2_with (go_at_call 61; refine (i_inRange _ _ _ _).mono ?_; rintro e w' ⟨rfl, rfl⟩)
  go_ret
  exact ⟨rfl, rfl⟩

set_option maxHeartbeats 400000 in
theorem s_IsNumber (n : Int) (w : World) : Calls Try.prog 117 #[.int .i64 n] w fun e w' => e = .returned (.bool (isNum n)) ∧ w = w' := by
  go_enter Try.func117, Try.ntmps117
  go_wp2_with (go_at_call 89; refine (s_l01In _ _ _ _).mono ?_; rintro e w' ⟨rfl, rfl⟩)
  go_ret
  exact ⟨rfl, rfl⟩

set_option maxHeartbeats 400000 in
theorem i_areNumbers1 (n : Int) (w : World) : Calls Try.prog 153 #[.int .i64 n] w fun e w' => e = .returned (.bool (!isNum n)) ∧ w = w' := by
  go_enter Try.func153, Try.ntmps153
  go_wp2_with (go_at_call 114; refine (i_IsNumber _ _).mono ?_; rintro e w' ⟨rfl, rfl⟩)
  go_ret
  exact ⟨rfl, rfl⟩

set_option maxHeartbeats 400000 in
theorem lib_IndexFuncI (w : World) (v : Value) (zs : List Int) (g : Nat) (p : Int → Bool) (ha : Ints w v zs)
    (hcf : ∀ (args : Array Value) (w : World), Sem.run Try.prog (callFunc g args) w = .ok (.enter g args) w)
    (hp : ∀ z : Int, Calls Try.prog g #[.int .i64 z] w fun e w' => e = .returned (.bool (p z)) ∧ w = w') :
    Calls Try.prog 186 #[v, .func (.func g) #[] #[]] w fun e w' => e = .returned (.int .i64 (idxF p zs)) ∧ w = w' := by
  obtain ⟨A, c, rfl, h1, h2, h3⟩ := ha.open_
  clear ha
  have H3 := Lib.hid h3
  have HP := Lib.hid hp
  clear h3 hp
  go_enter Try.func186, Try.ntmps186
  go_wp2_with fail
  go_loop [8] (fun i => ∃ k : Nat, k ≤ zs.length ∧ i = .int .i64 k ∧ Hid (∀ i y, i < k → zs[i]? = some y → p y = false)) (fun i => zs.length - (intOf i).toNat)
  case atStart => exact ⟨0, Nat.zero_le _, rfl, fun i y h => by omega⟩
  case round =>
    obtain ⟨k, hk, rfl, hI⟩ := hrel
    by_cases hlt : k < zs.length
    · obtain ⟨ad, z, rfl, hz, hz2, hc⟩ := H3.out k hlt
      have HZ := Lib.hid hz
      clear hz hz2
      go_wp2_with fail
      refine (HP.out z).mono ?_
      rintro e w' ⟨rfl, rfl⟩
      go_wp2_with fail
      · have hpz : p z = true := by assumption
        go_ret
        exact ⟨ret_int (idxF_hit hI.out HZ.out hpz).symm, rfl⟩
      · have hpz : p z = false := by assumption
        go_round
        case rel =>
          refine ⟨k + 1, by omega, by go_num, fun i y hi hy => ?_⟩
          by_cases e : i = k
          · subst e
            rw [HZ.out] at hy
            cases hy
            exact hpz
          · exact hI.out i y (by omega) hy
        case measure => simp [intOf]; omega
    · have : k = zs.length := by omega
      subst this
      go_wp2_with fail
      go_ret
      exact ⟨ret_int (idxF_miss hI.out).symm, rfl⟩

set_option maxHeartbeats 400000 in
theorem lib_ContainsFuncI (w : World) (v : Value) (zs : List Int) (g : Nat) (p : Int → Bool) (ha : Ints w v zs)
    (hcf : ∀ (args : Array Value) (w : World), Sem.run Try.prog (callFunc g args) w = .ok (.enter g args) w)
    (hp : ∀ z : Int, Calls Try.prog g #[.int .i64 z] w fun e w' => e = .returned (.bool (p z)) ∧ w = w') :
    Calls Try.prog 152 #[v, .func (.func g) #[] #[]] w fun e w' => e = .returned (.bool (zs.any p)) ∧ w = w' := by
  have HA := Lib.hid ha
  have HP := Lib.hid hp
  clear ha hp
  go_enter Try.func152, Try.ntmps152
  go_wp2_with (go_at_call 186; refine (lib_IndexFuncI _ _ _ _ _ HA.out hcf HP.out).mono ?_; rintro e w' ⟨rfl, rfl⟩)
  go_ret
  exact ⟨ret_bool (idxF_nonneg p zs), rfl⟩

set_option maxHeartbeats 400000 in
theorem i_areNumbers (w : World) (v : Value) (zs : List Int) (ha : Ints w v zs) : Calls Try.prog 95 #[v] w fun e w' => e = .returned (.bool (nums zs)) ∧ w = w' := by
  have HA := Lib.hid ha
  clear ha
  go_enter Try.func95, Try.ntmps95
  go_wp2_with (go_at_call 152; refine (lib_ContainsFuncI _ _ _ _ (fun z => !isNum z) HA.out (fun _ _ => by kernel_rfl) (fun z => i_areNumbers1 z _)).mono ?_; rintro e w' ⟨rfl, rfl⟩)
  go_ret
  exact ⟨ret_bool (by rw [any_not_nums, Bool.not_not]), rfl⟩

set_option maxHeartbeats 400000 in
theorem s_l01Numbers (w : World) (v : Value) (zs : List Int) (ha : Ints w v zs) : Calls Try.prog 93 #[v] w fun e w' => e = .returned (.bool (nums zs)) ∧ w = w' := by
  obtain ⟨A, c, rfl, h1, h2, h3⟩ := ha.open_
  clear ha
  have H3 := Lib.hid h3
  clear h3
  go_enter Try.func93, Try.ntmps93
  go_wp2_with fail
  go_loop [3] (fun i => ∃ k : Nat, k ≤ zs.length ∧ i = .int .i64 k ∧ Hid (∀ i y, i < k → zs[i]? = some y → isNum y = true)) (fun i => zs.length - (intOf i).toNat)
  case atStart => exact ⟨0, Nat.zero_le _, rfl, fun i y h => by omega⟩
  case round =>
    obtain ⟨k, hk, rfl, hI⟩ := hrel
    by_cases hlt : k < zs.length
    · obtain ⟨ad, z, rfl, hz, hz2, hc⟩ := H3.out k hlt
      have HZ := Lib.hid hz
      clear hz hz2
      go_wp2_with (go_at_call 117; refine (s_IsNumber _ _).mono ?_; rintro e w' ⟨rfl, rfl⟩)
      · have hpz : isNum z = false := by simpa using (by assumption : (!isNum z) = true)
        go_ret
        exact ⟨ret_bool (nums_false HZ.out hpz).symm, rfl⟩
      · have hpz : isNum z = true := by simpa using (by assumption : (!isNum z) = false)
        go_round
        case rel =>
          refine ⟨k + 1, by omega, by go_num, fun i y hi hy => ?_⟩
          by_cases e : i = k
          · subst e
            rw [HZ.out] at hy
            cases hy
            exact hpz
          · exact hI.out i y (by omega) hy
        case measure => simp [intOf]; omega
    · have : k = zs.length := by omega
      subst this
      go_wp2_with fail
      go_ret
      exact ⟨ret_bool (nums_all hI.out).symm, rfl⟩
end Go.Proofs.Ytgnmnpjbmdifbaa
