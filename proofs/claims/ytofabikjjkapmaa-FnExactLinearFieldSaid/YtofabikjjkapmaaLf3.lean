/- Walks: comparing lists, of the library and of the reference. | Walks of tests: in a range, a number, all numbers. | The walk of the program's length at lists of numbers. | Monomials: words of memory; walks of isMonomial of the program and l13Degree of the reference. | Monomials and fields that came in: words of memory. No program in sight. | The laws' helper: a monomial made anew. | Owned lists of monomials: two cells an element. The laws' helper that makes them anew. | Owned fields. The laws' helpers that make them anew. | The laws' helpers: the sizes of monomials. | The laws' helpers: the sizes of fields. | The laws' marking of fields. -/
import Derived.Test.YtofabikjjkapmaaRows
import Derived.Test.YtofabikjjkapmaaLf1
import Derived.Test.YtofabikjjkapmaaLf2
import Derived.WalkLawsBesides
import Derived.Deep.QuietTactic
import Derived.BigQuiet
import Derived.BigGuardPart
import Derived.Laws.MakeOwn
set_option maxRecDepth 100000
set_option linter.unusedVariables false
set_option linter.unusedSimpArgs false
namespace Go.Proofs.Ytofabikjjkapmaa
open Go.RowKit

def cmpZ (x y : Int) : Int := if x < y then -1 else if y < x then 1 else 0
/-- the comparison of two lists -/
def cmpL : List Int → List Int → Int
  | [], [] => 0
  | [], _ :: _ => -1
  | _ :: _, [] => 1
  | x :: xs, y :: ys => if x < y then -1 else if y < x then 1 else cmpL xs ys
def lessL (a b : List Int) : Bool := decide (cmpL a b < 0)
theorem cmpL_nil_left {b : List Int} : cmpL [] b = if 0 < b.length then -1 else 0 := by cases b <;> simp [cmpL]
theorem cmpL_nil_right {a : List Int} (h : 0 < a.length) : cmpL a [] = 1 := by
  cases a with
  | nil => simp at h
  | cons x xs => rfl
theorem cmpL_step {a b : List Int} {k : Nat} {x y : Int} (hx : a[k]? = some x) (hy : b[k]? = some y) : cmpL (a.drop k) (b.drop k) = if x < y then -1 else if y < x then 1 else cmpL (a.drop (k + 1)) (b.drop (k + 1)) := by
  have ha := (List.getElem?_eq_some_iff.1 hx).1
  have hb := (List.getElem?_eq_some_iff.1 hy).1
  rw [List.drop_eq_getElem_cons ha, List.drop_eq_getElem_cons hb]
  have e1 : a[k] = x := by rw [List.getElem?_eq_getElem ha] at hx; simpa using hx
  have e2 : b[k] = y := by rw [List.getElem?_eq_getElem hb] at hy; simpa using hy
  rw [e1, e2, cmpL]

set_option maxHeartbeats 400000 in
theorem lib_isNaN (x : Int) (w : World) : Calls Try.prog 113 #[.int .i64 x] w fun e w' => e = .returned (.bool false) ∧ w = w' := by
  go_enter Try.func113, Try.ntmps113
  go_wp2
  go_ret
  exact ⟨ret_bool (by simp), rfl⟩

set_option maxHeartbeats 400000 in
theorem lib_cmp (x y : Int) (w : World) : Calls Try.prog 89 #[.int .i64 x, .int .i64 y] w fun e w' => e = .returned (.int .i64 (cmpZ x y)) ∧ w = w' := by
  go_enter Try.func89, Try.ntmps89
  by_cases h1 : x < y
  · have h2 : ¬ y < x := by omega
    go_wp2_with (go_at_call 113; refine (lib_isNaN _ _).mono ?_; rintro e w' ⟨rfl, rfl⟩)
    go_ret
    exact ⟨ret_int (by simp [cmpZ, h1]), rfl⟩
  · by_cases h2 : y < x
    · go_wp2_with (go_at_call 113; refine (lib_isNaN _ _).mono ?_; rintro e w' ⟨rfl, rfl⟩)
      go_ret
      exact ⟨ret_int (by simp [cmpZ, h1, h2]), rfl⟩
    · go_wp2_with (go_at_call 113; refine (lib_isNaN _ _).mono ?_; rintro e w' ⟨rfl, rfl⟩)
      go_ret
      exact ⟨ret_int (by unfold cmpZ; rw [if_neg (by omega), if_neg (by omega)]), rfl⟩

set_option maxHeartbeats 1000000 in
theorem lib_Compare (w : World) (v v' : Value) (a b : List Int) (ha : Ints w v a) (hb : Ints w v' b) :
    Calls Try.prog 66 #[v, v'] w fun e w' => e = .returned (.int .i64 (cmpL a b)) ∧ w = w' := by
  obtain ⟨A, c, rfl, l1, l2, h3⟩ := ha.open_
  obtain ⟨B, d, rfl, m1, m2, g3⟩ := hb.open_
  have H3 := Lib.hid h3
  have G3 := Lib.hid g3
  clear ha hb h3 g3
  go_enter Try.func66, Try.ntmps66
  go_wp2_with fail
  go_loop [11] (fun i => ∃ k : Nat, k ≤ a.length ∧ k ≤ b.length ∧ i = .int .i64 k ∧ Hid (cmpL a b = cmpL (a.drop k) (b.drop k))) (fun i => a.length - (intOf i).toNat)
  case atStart => exact ⟨0, Nat.zero_le _, Nat.zero_le _, rfl, (rfl : cmpL a b = cmpL (a.drop 0) (b.drop 0))⟩
  case round =>
    obtain ⟨k, hk, hkb, rfl, hI⟩ := hrel
    by_cases hlt : k < a.length
    · obtain ⟨ad, x, rfl, hx, -, hcx⟩ := H3.out k hlt
      by_cases hlb : k < b.length
      · obtain ⟨ad', y, rfl, hy, -, hcy⟩ := G3.out k hlb
        have HS := Lib.hid (hI.out.trans (cmpL_step hx hy))
        have hng : ¬ (b.length : Int) ≤ (k : Int) := by omega
        clear hx hy
        by_cases h1 : x < y
        · have hz : cmpZ x y = -1 := by simp [cmpZ, h1]
          have HR := Lib.hid (show cmpL a b = -1 by rw [HS.out, if_pos h1])
          go_wp2_with (go_at_call 89; refine (lib_cmp _ _ _).mono ?_; rintro e w' ⟨rfl, rfl⟩; rw [hz])
          go_ret
          exact ⟨ret_int HR.out.symm, rfl⟩
        · by_cases h2 : y < x
          · have hz : cmpZ x y = 1 := by simp [cmpZ, h1, h2]
            have HR := Lib.hid (show cmpL a b = 1 by rw [HS.out, if_neg h1, if_pos h2])
            go_wp2_with (go_at_call 89; refine (lib_cmp _ _ _).mono ?_; rintro e w' ⟨rfl, rfl⟩; rw [hz])
            go_ret
            exact ⟨ret_int HR.out.symm, rfl⟩
          · have hz : cmpZ x y = 0 := by simp [cmpZ, h1, h2]
            have HR := Lib.hid (show cmpL a b = cmpL (a.drop (k + 1)) (b.drop (k + 1)) by rw [HS.out, if_neg h1, if_neg h2])
            go_wp2_with (go_at_call 89; refine (lib_cmp _ _ _).mono ?_; rintro e w' ⟨rfl, rfl⟩; rw [hz])
            go_round
            case rel => exact ⟨k + 1, by omega, by omega, by go_num, HR.out⟩
            case measure => simp [intOf]; omega
      · have hkb2 : k = b.length := by omega
        have HR := Lib.hid (show cmpL a b = 1 by rw [hI.out, hkb2, List.drop_length, cmpL_nil_right (by simp; omega)])
        have hng : (b.length : Int) ≤ (k : Int) := by omega
        clear hkb2 hx
        go_wp2_with fail
        go_ret
        exact ⟨ret_int HR.out.symm, rfl⟩
    · have hka : k = a.length := by omega
      have HR := Lib.hid (show cmpL a b = if 0 < (b.drop k).length then -1 else 0 by rw [hI.out, hka, List.drop_length, cmpL_nil_left])
      have hna : ¬ (k : Int) < (a.length : Int) := by omega
      by_cases hlb : (a.length : Int) < (b.length : Int)
      · have HR2 := Lib.hid (show cmpL a b = -1 by rw [HR.out, if_pos (by simp; omega)])
        clear hka
        go_wp2_with fail
        go_ret
        exact ⟨ret_int HR2.out.symm, rfl⟩
      · have HR2 := Lib.hid (show cmpL a b = 0 by rw [HR.out, if_neg (by simp; omega)])
        clear hka
        go_wp2_with fail
        go_ret
        exact ⟨ret_int HR2.out.symm, rfl⟩

set_option maxHeartbeats 1000000 in
theorem s_l01Less (w : World) (v v' : Value) (a b : List Int) (ha : Ints w v a) (hb : Ints w v' b) :
    Calls Try.prog 56 #[v, v'] w fun e w' => e = .returned (.bool (lessL a b)) ∧ ∃ n, w' = w.drewN n := by
  obtain ⟨A, c, rfl, l1, l2, h3⟩ := ha.open_
  obtain ⟨B, d, rfl, m1, m2, g3⟩ := hb.open_
  have H3 := Lib.hid h3
  have G3 := Lib.hid g3
  clear ha hb h3 g3
  go_enter Try.func56, Try.ntmps56
  go_wp2_with fail
  go_loopw [5] (fun i wr => ∃ k n : Nat, k ≤ a.length ∧ k ≤ b.length ∧ i = .int .i64 k ∧ Hid (cmpL a b = cmpL (a.drop k) (b.drop k)) ∧ wr = w.drewN n) (fun i _ => a.length - (intOf i).toNat)
  case atStart => exact ⟨0, 0, Nat.zero_le _, Nat.zero_le _, rfl, (rfl : cmpL a b = cmpL (a.drop 0) (b.drop 0)), rfl⟩
  case round =>
    obtain ⟨k, n, hk, hkb, rfl, hI, rfl⟩ := hrel
    by_cases hlt : k < a.length
    · obtain ⟨ad, x, rfl, hx, -, hcx⟩ := H3.out k hlt
      by_cases hlb : k < b.length
      · obtain ⟨ad', y, rfl, hy, -, hcy⟩ := G3.out k hlb
        have HS := Lib.hid (hI.out.trans (cmpL_step hx hy))
        have hka' : (k : Int) < (a.length : Int) := by omega
        have hkb' : (k : Int) < (b.length : Int) := by omega
        clear hx hy
        by_cases h0 : x = y
        · have HR := Lib.hid (show cmpL a b = cmpL (a.drop (k + 1)) (b.drop (k + 1)) by rw [HS.out, if_neg (by omega), if_neg (by omega)])
          subst h0
          go_wp2_with fail
          go_quiet (fail)
          go_wp2_with fail
          go_roundw
          case rel => exact ⟨k + 1, _, by omega, by omega, by go_num, HR.out, rfl⟩
          case measure => simp [intOf]; omega
        · have HR := Lib.hid (show lessL a b = decide (x < y) by
            unfold lessL
            rw [HS.out]
            by_cases h1 : x < y
            · rw [if_pos h1]; simp [h1]
            · rw [if_neg h1, if_pos (by omega)]; simp [h1])
          go_wp2_with fail
          go_quiet (fail)
          go_wp2_with fail
          go_quiet (fail)
          go_wp2_with fail
          go_ret
          exact ⟨ret_bool HR.out.symm, _, by rw [World.drewN_drewN, World.drewN_drewN]⟩
      · have HR := Lib.hid (show lessL a b = decide (a.length < b.length) by
          unfold lessL
          rw [hI.out, show k = b.length by omega, List.drop_length, cmpL_nil_right (by simp; omega)]
          simp
          omega)
        have hng : ¬ (k : Int) < (b.length : Int) := by omega
        have hka' : (k : Int) < (a.length : Int) := by omega
        clear hx
        go_wp2_with fail
        go_ret
        exact ⟨ret_bool HR.out.symm, _, rfl⟩
    · have HR := Lib.hid (show lessL a b = decide (a.length < b.length) by
        unfold lessL
        rw [hI.out, show k = a.length by omega, List.drop_length, cmpL_nil_left]
        by_cases h : a.length < b.length
        · rw [if_pos (by simp; omega)]; simp [h]
        · rw [if_neg (by simp; omega)]; simp; omega)
      have hna : ¬ (k : Int) < (a.length : Int) := by omega
      go_wp2_with fail
      go_ret
      exact ⟨ret_bool HR.out.symm, _, rfl⟩
end Go.Proofs.Ytofabikjjkapmaa

set_option linter.unusedVariables false
set_option linter.unusedSimpArgs false
namespace Go.Proofs.Ytofabikjjkapmaa
open Go.RowKit

set_option maxHeartbeats 400000 in
theorem i_inRange (n lo hi : Int) (w : World) :
    Calls Try.prog 44 #[.int .i64 n, .int .i64 lo, .int .i64 hi] w fun e w' => e = .returned (.bool (inR n lo hi)) ∧ w = w' := by
  by_cases h1 : lo ≤ n
  · by_cases h2 : n ≤ hi
    · go_enter Try.func44, Try.ntmps44
      go_wp2
      go_ret
      exact ⟨ret_bool (by simp [inR, h1, h2]), rfl⟩
    · go_enter Try.func44, Try.ntmps44
      go_wp2
      go_ret
      exact ⟨ret_bool (by simp [inR, h1, h2]), rfl⟩
  · go_enter Try.func44, Try.ntmps44
    go_wp2
    go_ret
    exact ⟨ret_bool (by simp [inR]; omega), rfl⟩

set_option maxHeartbeats 400000 in
theorem s_l01In (n lo hi : Int) (w : World) :
    Calls Try.prog 51 #[.int .i64 n, .int .i64 lo, .int .i64 hi] w fun e w' => e = .returned (.bool (inR n lo hi)) ∧ w = w' := by
  by_cases h1 : lo ≤ n
  · by_cases h2 : n ≤ hi
    · go_enter Try.func51, Try.ntmps51
      go_wp2
      go_ret
      exact ⟨ret_bool (by simp [inR, h1, h2]), rfl⟩
    · go_enter Try.func51, Try.ntmps51
      go_wp2
      go_ret
      exact ⟨ret_bool (by simp [inR, h1, h2]), rfl⟩
  · go_enter Try.func51, Try.ntmps51
    go_wp2
    go_ret
    exact ⟨ret_bool (by simp [inR]; omega), rfl⟩

set_option maxHeartbeats 400000 in
theorem i_IsNumber (n : Int) (w : World) : Calls Try.prog 74 #[.int .i64 n] w fun e w' => e = .returned (.bool (isNum n)) ∧ w = w' := by
  go_enter Try.func74, Try.ntmps74
  go_wp2_with (go_at_call 44; refine (i_inRange _ _ _ _).mono ?_; rintro e w' ⟨rfl, rfl⟩)
  go_ret
  exact ⟨rfl, rfl⟩

set_option maxHeartbeats 400000 in
theorem s_IsNumber (n : Int) (w : World) : Calls Try.prog 68 #[.int .i64 n] w fun e w' => e = .returned (.bool (isNum n)) ∧ w = w' := by
  go_enter Try.func68, Try.ntmps68
  go_wp2_with (go_at_call 51; refine (s_l01In _ _ _ _).mono ?_; rintro e w' ⟨rfl, rfl⟩)
  go_ret
  exact ⟨rfl, rfl⟩

set_option maxHeartbeats 400000 in
theorem i_areNumbers1 (n : Int) (w : World) : Calls Try.prog 73 #[.int .i64 n] w fun e w' => e = .returned (.bool (!isNum n)) ∧ w = w' := by
  go_enter Try.func73, Try.ntmps73
  go_wp2_with (go_at_call 74; refine (i_IsNumber _ _).mono ?_; rintro e w' ⟨rfl, rfl⟩)
  go_ret
  exact ⟨rfl, rfl⟩

set_option maxHeartbeats 400000 in
theorem lib_IndexFuncI (w : World) (v : Value) (zs : List Int) (g : Nat) (p : Int → Bool) (ha : Ints w v zs)
    (hcf : ∀ (args : Array Value) (w : World), Sem.run Try.prog (callFunc g args) w = .ok (.enter g args) w)
    (hp : ∀ z : Int, Calls Try.prog g #[.int .i64 z] w fun e w' => e = .returned (.bool (p z)) ∧ w = w') :
    Calls Try.prog 91 #[v, .func (.func g) #[] #[]] w fun e w' => e = .returned (.int .i64 (idxF p zs)) ∧ w = w' := by
  obtain ⟨A, c, rfl, h1, h2, h3⟩ := ha.open_
  clear ha
  have H3 := Lib.hid h3
  have HP := Lib.hid hp
  clear h3 hp
  go_enter Try.func91, Try.ntmps91
  go_wp2_with fail
  go_loop [8] (fun i => ∃ k : Nat, k ≤ zs.length ∧ i = .int .i64 k ∧ Hid (∀ i y, i < k → zs[i]? = some y → p y = false)) (fun i => zs.length - (intOf i).toNat)
  case atStart => exact ⟨0, Nat.zero_le _, rfl, fun i y h => by omega⟩
  case round =>
    obtain ⟨k, hk, rfl, hI⟩ := hrel
    by_cases hlt : k < zs.length
    · obtain ⟨ad, z, rfl, hz, hz2, hc⟩ := H3.out k hlt
      have HZ := Lib.hid hz
      clear hz hz2
      go_wp2_with fail
      refine (HP.out z).mono ?_
      rintro e w' ⟨rfl, rfl⟩
      go_wp2_with fail
      · have hpz : p z = true := by assumption
        go_ret
        exact ⟨ret_int (idxF_hit hI.out HZ.out hpz).symm, rfl⟩
      · have hpz : p z = false := by assumption
        go_round
        case rel =>
          refine ⟨k + 1, by omega, by go_num, fun i y hi hy => ?_⟩
          by_cases e : i = k
          · subst e
            rw [HZ.out] at hy
            cases hy
            exact hpz
          · exact hI.out i y (by omega) hy
        case measure => simp [intOf]; omega
    · have : k = zs.length := by omega
      subst this
      go_wp2_with fail
      go_ret
      exact ⟨ret_int (idxF_miss hI.out).symm, rfl⟩

set_option maxHeartbeats 400000 in
theorem lib_ContainsFuncI (w : World) (v : Value) (zs : List Int) (g : Nat) (p : Int → Bool) (ha : Ints w v zs)
    (hcf : ∀ (args : Array Value) (w : World), Sem.run Try.prog (callFunc g args) w = .ok (.enter g args) w)
    (hp : ∀ z : Int, Calls Try.prog g #[.int .i64 z] w fun e w' => e = .returned (.bool (p z)) ∧ w = w') :
    Calls Try.prog 72 #[v, .func (.func g) #[] #[]] w fun e w' => e = .returned (.bool (zs.any p)) ∧ w = w' := by
  have HA := Lib.hid ha
  have HP := Lib.hid hp
  clear ha hp
  go_enter Try.func72, Try.ntmps72
  go_wp2_with (go_at_call 91; refine (lib_IndexFuncI _ _ _ _ _ HA.out hcf HP.out).mono ?_; rintro e w' ⟨rfl, rfl⟩)
  go_ret
  exact ⟨ret_bool (idxF_nonneg p zs), rfl⟩

set_option maxHeartbeats 400000 in
theorem i_areNumbers (w : World) (v : Value) (zs : List Int) (ha : Ints w v zs) : Calls Try.prog 46 #[v] w fun e w' => e = .returned (.bool (nums zs)) ∧ w = w' := by
  have HA := Lib.hid ha
  clear ha
  go_enter Try.func46, Try.ntmps46
  go_wp2_with (go_at_call 72; refine (lib_ContainsFuncI _ _ _ _ (fun z => !isNum z) HA.out (fun _ _ => by kernel_rfl) (fun z => i_areNumbers1 z _)).mono ?_; rintro e w' ⟨rfl, rfl⟩)
  go_ret
  exact ⟨ret_bool (by rw [any_not_nums, Bool.not_not]), rfl⟩

set_option maxHeartbeats 400000 in
theorem s_l01Numbers (w : World) (v : Value) (zs : List Int) (ha : Ints w v zs) : Calls Try.prog 41 #[v] w fun e w' => e = .returned (.bool (nums zs)) ∧ w = w' := by
  obtain ⟨A, c, rfl, h1, h2, h3⟩ := ha.open_
  clear ha
  have H3 := Lib.hid h3
  clear h3
  go_enter Try.func41, Try.ntmps41
  go_wp2_with fail
  go_loop [3] (fun i => ∃ k : Nat, k ≤ zs.length ∧ i = .int .i64 k ∧ Hid (∀ i y, i < k → zs[i]? = some y → isNum y = true)) (fun i => zs.length - (intOf i).toNat)
  case atStart => exact ⟨0, Nat.zero_le _, rfl, fun i y h => by omega⟩
  case round =>
    obtain ⟨k, hk, rfl, hI⟩ := hrel
    by_cases hlt : k < zs.length
    · obtain ⟨ad, z, rfl, hz, hz2, hc⟩ := H3.out k hlt
      have HZ := Lib.hid hz
      clear hz hz2
      go_wp2_with (go_at_call 68; refine (s_IsNumber _ _).mono ?_; rintro e w' ⟨rfl, rfl⟩)
      · have hpz : isNum z = false := by simpa using (by assumption : (!isNum z) = true)
        go_ret
        exact ⟨ret_bool (nums_false HZ.out hpz).symm, rfl⟩
      · have hpz : isNum z = true := by simpa using (by assumption : (!isNum z) = false)
        go_round
        case rel =>
          refine ⟨k + 1, by omega, by go_num, fun i y hi hy => ?_⟩
          by_cases e : i = k
          · subst e
            rw [HZ.out] at hy
            cases hy
            exact hpz
          · exact hI.out i y (by omega) hy
        case measure => simp [intOf]; omega
    · have : k = zs.length := by omega
      subst this
      go_wp2_with fail
      go_ret
      exact ⟨ret_bool (nums_all hI.out).symm, rfl⟩
end Go.Proofs.Ytofabikjjkapmaa

set_option linter.unusedVariables false
set_option linter.unusedSimpArgs false
namespace Go.Proofs.Ytofabikjjkapmaa
open Go.RowKit

set_option maxHeartbeats 400000 in
theorem lib_lengthI (w : World) (v : Value) (zs : List Int) (ha : Ints w v zs) : Calls Try.prog 45 #[v] w fun e w' => e = .returned (.int .i64 zs.length) ∧ w = w' := by
  obtain ⟨A, c, rfl, h1, h2, h3⟩ := ha.open_
  clear ha h3
  go_enter Try.func45, Try.ntmps45
  go_wp2
  go_ret
  exact ⟨rfl, rfl⟩

end Go.Proofs.Ytofabikjjkapmaa

set_option maxRecDepth 100000
set_option linter.unusedVariables false
set_option linter.unusedSimpArgs false
namespace Go.Proofs.Ytofabikjjkapmaa
open Go.RowKit

/-- a monomial: the factor and the powers -/
abbrev Mono := Int × List Int
/-- a monomial that can be read -/
def MonoArg (w : World) (v : Value) (m : Mono) : Prop := ∃ u, v = .agg #[.int .i64 m.1, u] ∧ In64 m.1 ∧ Ints w u m.2
theorem MonoArg.below {w w' : World} {v : Value} {m : Mono} (h : MonoArg w v m) (hb : Below w.heap.size w w') : MonoArg w' v m := by
  obtain ⟨u, rfl, h1, h2⟩ := h
  exact ⟨u, rfl, h1, h2.below hb⟩

end Go.Proofs.Ytofabikjjkapmaa

set_option maxRecDepth 100000
set_option linter.unusedVariables false
set_option linter.unusedSimpArgs false
namespace Go.Proofs.Ytofabikjjkapmaa
open Go.RowKit

/-- a list of monomials that can be read -/
def Monos (w : World) (v : Value) (ms : List Mono) : Prop :=
  ∃ A c, v = .slice A ms.length c ∧ ms.length ≤ c ∧ c ≤ maxLen ∧ ∀ (k : Nat) (m : Mono), ms[k]? = some m → ∃ b o u, A = some ⟨b, o, none⟩ ∧ In64 m.1 ∧ Ints w u m.2 ∧ w.cell? ⟨b, o + k * 2, none⟩ = some (.int .i64 m.1) ∧ w.cell? ⟨b, o + k * 2 + 1, none⟩ = some u
theorem Monos.below {w w' : World} {v : Value} {ms : List Mono} (h : Monos w v ms) (hb : Below w.heap.size w w') : Monos w' v ms := by
  obtain ⟨A, c, rfl, h1, h2, h3⟩ := h
  refine ⟨A, c, rfl, h1, h2, fun k m hm => ?_⟩
  obtain ⟨b, o, u, hA, hf, hu, hc, hc'⟩ := h3 k m hm
  refine ⟨b, o, u, hA, hf, hu.below hb, ?_, ?_⟩
  · rw [hb.cell (World.block_lt_of_cell? w _ hc)]; exact hc
  · rw [hb.cell (World.block_lt_of_cell? w _ hc')]; exact hc'
theorem Monos.open_ {w : World} {v : Value} {ms : List Mono} (h : Monos w v ms) : ∃ A c, v = .slice A ms.length c ∧ ms.length ≤ c ∧ c ≤ 9223372036854775807 ∧ ∀ (k : Nat), k < ms.length → ∃ b o m u, A = some ⟨b, o, none⟩ ∧ ms[k]? = some m ∧ In64 m.1 ∧ Ints w u m.2 ∧ w.cell? ⟨b, o + k * 2, none⟩ = some (.int .i64 m.1) ∧ w.cell? ⟨b, o + k * 2 + 1, none⟩ = some u := by
  obtain ⟨A, c, rfl, h1, h2, h3⟩ := h
  refine ⟨A, c, rfl, h1, by simpa [maxLen] using h2, fun k hk => ?_⟩
  obtain ⟨b, o, u, hA, hf, hu, hc, hc'⟩ := h3 k ms[k] (List.getElem?_eq_getElem hk)
  exact ⟨b, o, ms[k], u, hA, List.getElem?_eq_getElem hk, hf, hu, hc, hc'⟩
/-- lists of monomials that can be read -/
def MRows (w : World) (v : Value) (pss : List (List Mono)) : Prop :=
  ∃ vs, Cells w v vs ∧ vs.length = pss.length ∧ ∀ (k : Nat) (u : Value) (ms : List Mono), vs[k]? = some u → pss[k]? = some ms → Monos w u ms
theorem MRows.below {w w' : World} {v : Value} {pss : List (List Mono)} (h : MRows w v pss) (hb : Below w.heap.size w w') : MRows w' v pss := by
  obtain ⟨vs, h1, h2, h3⟩ := h
  exact ⟨vs, h1.below hb, h2, fun k u ms hu hm => (h3 k u ms hu hm).below hb⟩
theorem MRows.open_ {w : World} {v : Value} {pss : List (List Mono)} (h : MRows w v pss) : ∃ A c, v = .slice A pss.length c ∧ pss.length ≤ c ∧ c ≤ 9223372036854775807 ∧ ∀ (k : Nat), k < pss.length → ∃ ad u ms, A = some ad ∧ pss[k]? = some ms ∧ Monos w u ms ∧ w.cell? (ad.add k) = some u := by
  obtain ⟨vs, ⟨A, c, rfl, h1, h2, h3⟩, h4, h5⟩ := h
  rw [h4] at h1 ⊢
  refine ⟨A, c, rfl, h1, by simpa [maxLen] using h2, fun k hk => ?_⟩
  have hv : vs[k]? = some (vs[k]'(by rw [h4]; exact hk)) := List.getElem?_eq_getElem _
  obtain ⟨ad, hA, hc⟩ := h3 k _ hv
  exact ⟨ad, _, pss[k], hA, List.getElem?_eq_getElem hk, h5 k _ _ hv (List.getElem?_eq_getElem hk), hc⟩
def FieldArg (w : World) (v : Value) (n : Int) (pss : List (List Mono)) : Prop := ∃ vp, v = .agg #[.int .i64 n, vp] ∧ In64 n ∧ MRows w vp pss

end Go.Proofs.Ytofabikjjkapmaa

set_option maxRecDepth 100000
set_option linter.unusedVariables false
set_option linter.unusedSimpArgs false
namespace Go.Proofs.Ytofabikjjkapmaa
open Go.RowKit

end Go.Proofs.Ytofabikjjkapmaa

set_option maxRecDepth 100000
set_option linter.unusedVariables false
set_option linter.unusedSimpArgs false
namespace Go.Proofs.Ytofabikjjkapmaa
open Go.RowKit

abbrev tM : TypeId := 82
abbrev tMs : TypeId := 45

/-- block g has room for n monomials, and holds the first ones, whose powers lie at us -/
def MBlk (w : World) (g n : Nat) (ms : List Mono) (us : List Value) : Prop :=
  ∃ cs : Array Value, Blk w g tM cs ∧ cs.size = n * 2 ∧ ∀ (i : Nat) (m : Mono) (u : Value), ms[i]? = some m → us[i]? = some u → cs[i * 2]? = some (.int .i64 m.1) ∧ cs[i * 2 + 1]? = some u

section
variable {w w' : World} {g n B C B' C' : Nat} {ms : List Mono} {us : List Value} {v : Value}
theorem MBlk.lt (h : MBlk w g n ms us) : g < w.heap.size := by obtain ⟨cs, h1, -, -⟩ := h; exact h1.lt
theorem MBlk.of_block (h : MBlk w g n ms us) (hb : w'.heap[g]? = w.heap[g]?) : MBlk w' g n ms us := by
  obtain ⟨cs, h1, h2, h3⟩ := h
  exact ⟨cs, hb.trans h1, h2, h3⟩
theorem MBlk.below (h : MBlk w g n ms us) (hb : Below w.heap.size w w') : MBlk w' g n ms us := h.of_block (hb.block g h.lt)
theorem MBlk.room (h : MBlk w g n ms us) {k : Nat} (hk : k < n) : (∃ u, w.cell? ⟨g, k * 2, none⟩ = some u) ∧ (∃ u, w.cell? ⟨g, k * 2 + 1, none⟩ = some u) ∧ w.frozen? ⟨g, k * 2, none⟩ = false ∧ w.frozen? ⟨g, k * 2 + 1, none⟩ = false := by
  obtain ⟨cs, h1, h2, h3⟩ := h
  refine ⟨⟨cs[k * 2]'(by omega), ?_⟩, ⟨cs[k * 2 + 1]'(by omega), ?_⟩, h1.frozen _, h1.frozen _⟩
  · rw [h1.cell]; exact Array.getElem?_eq_getElem _
  · rw [h1.cell]; exact Array.getElem?_eq_getElem _
theorem MBlk.next (h : MBlk w g n ms us) (hu : us.length = ms.length) (hk : ms.length < n) (m : Mono) (u : Value) :
    MBlk ((w.setCell ⟨g, ms.length * 2, none⟩ (.int .i64 m.1)).setCell ⟨g, ms.length * 2 + 1, none⟩ u) g n (ms ++ [m]) (us ++ [u]) := by
  obtain ⟨cs, h1, h2, h3⟩ := h
  refine ⟨(cs.setIfInBounds (ms.length * 2) (.int .i64 m.1)).setIfInBounds (ms.length * 2 + 1) u, (h1.set_ _ _).set_ _ _, by simpa using h2, fun i m' u' hm hu' => ?_⟩
  have hi := (List.getElem?_eq_some_iff.1 hm).1
  simp only [List.length_append, List.length_singleton] at hi
  by_cases hlt : i < ms.length
  · rw [List.getElem?_append_left hlt] at hm
    rw [List.getElem?_append_left (by omega)] at hu'
    obtain ⟨a, b⟩ := h3 i m' u' hm hu'
    rw [Array.getElem?_setIfInBounds_ne (by omega), Array.getElem?_setIfInBounds_ne (by omega), Array.getElem?_setIfInBounds_ne (by omega), Array.getElem?_setIfInBounds_ne (by omega)]
    exact ⟨a, b⟩
  · have : i = ms.length := by omega
    subst this
    rw [List.getElem?_append_right (Nat.le_refl _)] at hm
    rw [List.getElem?_append_right (by omega), hu] at hu'
    simp at hm hu'
    subst hm; subst hu'
    rw [Array.getElem?_setIfInBounds_ne (by omega), Array.getElem?_setIfInBounds_self_of_lt (by omega), Array.getElem?_setIfInBounds_self_of_lt (by simp; omega)]
    exact ⟨rfl, rfl⟩
theorem MBlk.new (w : World) (z : Array Value) (n : Nat) : MBlk (w.alloc (.cells (madeCells z (n * 2)) tM)) w.heap.size n [] [] :=
  ⟨_, Blk.new w _ tM, size_madeCells _ _, fun i m u h => by simp at h⟩

/-- an owned list of monomials -/
def OM (w : World) (B C : Nat) (v : Value) (ms : List Mono) : Prop :=
  ∃ (g : Nat) (us : List Value), v = .slice (some ⟨g, 0, none⟩) ms.length ms.length ∧ B ≤ g ∧ g < C ∧ MBlk w g ms.length ms us ∧ us.length = ms.length ∧ RowsOwn w B C tI us (ms.map (·.2)) ∧ ms.length ≤ maxLen ∧ ∀ m ∈ ms, In64 m.1
theorem OM.below (h : OM w B C v ms) (hb : Below w.heap.size w w') : OM w' B C v ms := by
  obtain ⟨g, us, rfl, h1, h2, h3, h4, h5, h6, h7⟩ := h
  exact ⟨g, us, rfl, h1, h2, h3.below hb, h4, h5.below hb, h6, h7⟩
theorem OM.mono (h : OM w B C v ms) (h1 : B' ≤ B) (h2 : C ≤ C') : OM w B' C' v ms := by
  obtain ⟨g, us, rfl, a1, a2, a3, a4, a5, a6, a7⟩ := h
  exact ⟨g, us, rfl, by omega, by omega, a3, a4, a5.mono h1 h2, a6, a7⟩
theorem OM.kept (h : OM w B C v ms) (hc : Chg B' C' w w') (hd : C ≤ B' ∨ C' ≤ B) : OM w' B C v ms := by
  obtain ⟨g, us, rfl, a1, a2, a3, a4, a5, a6, a7⟩ := h
  exact ⟨g, us, rfl, a1, a2, a3.of_block (hc.block g a3.lt (by omega)), a4, a5.kept hc hd, a6, a7⟩
theorem OM.monos (h : OM w B C v ms) : Monos w v ms := by
  obtain ⟨g, us, rfl, a1, a2, ⟨cs, b1, b2, b3⟩, a4, a5, a6, a7⟩ := h
  refine ⟨_, _, rfl, Nat.le_refl _, a6, fun k m hm => ?_⟩
  have hk := (List.getElem?_eq_some_iff.1 hm).1
  have hu : us[k]? = some (us[k]'(by omega)) := List.getElem?_eq_getElem _
  obtain ⟨c1, c2⟩ := b3 k m _ hm hu
  refine ⟨g, 0, _, rfl, a7 m (List.mem_of_getElem? hm), (a5.2.1 k _ m.2 hu (by simp [hm])).ints, ?_, ?_⟩
  · rw [b1.cell, ← c1]; simp
  · rw [b1.cell, ← c2]; simp
end

end Go.Proofs.Ytofabikjjkapmaa

set_option maxRecDepth 100000
set_option linter.unusedVariables false
set_option linter.unusedSimpArgs false
namespace Go.Proofs.Ytofabikjjkapmaa
open Go.RowKit

/-- owned lists of monomials, one behind the other -/
def OMF (w : World) : Nat → Nat → List Value → List (List Mono) → Prop
  | B, C, [], [] => B ≤ C
  | B, C, v :: vs, ms :: pss => ∃ M, OM w B M v ms ∧ OMF w M C vs pss
  | _, _, _, _ => False

section
variable {w w' : World} {v : Value} {ms : List Mono}
theorem OM.lt {B C : Nat} (h : OM w B C v ms) : B < C := by obtain ⟨g, us, _, h1, h2, _⟩ := h; omega
theorem OM.le {B C : Nat} (h : OM w B C v ms) : ∀ b, v.ownBlock = some b → B ≤ b ∧ b < C := by
  obtain ⟨g, us, rfl, h1, h2, _⟩ := h
  intro b hb
  simp [Value.ownBlock] at hb
  omega
theorem OMF.le : ∀ {B C : Nat} {vs : List Value} {pss : List (List Mono)}, OMF w B C vs pss → B ≤ C
  | B, C, [], [], h => h
  | B, C, v :: vs, ms :: pss, ⟨M, h1, h2⟩ => by have := h1.lt; have := h2.le; omega
  | B, C, [], ms :: pss, h => h.elim
  | B, C, v :: vs, [], h => h.elim
theorem OMF.len : ∀ {B C : Nat} {vs : List Value} {pss : List (List Mono)}, OMF w B C vs pss → vs.length = pss.length
  | B, C, [], [], h => rfl
  | B, C, v :: vs, ms :: pss, ⟨M, h1, h2⟩ => by simp [h2.len]
  | B, C, [], ms :: pss, h => h.elim
  | B, C, v :: vs, [], h => h.elim
theorem OMF.imp {P : Nat → Nat → Prop} (hf : ∀ B C v ms, P B C → OM w B C v ms → OM w' B C v ms) (hp : ∀ B C M, P B C → B ≤ M → M ≤ C → P B M ∧ P M C) : ∀ {B C : Nat} {vs : List Value} {pss : List (List Mono)}, P B C → OMF w B C vs pss → OMF w' B C vs pss
  | B, C, [], [], _, h => h
  | B, C, v :: vs, ms :: pss, hB, ⟨M, h1, h2⟩ => by
    obtain ⟨a, b⟩ := hp B C M hB (Nat.le_of_lt h1.lt) h2.le
    exact ⟨M, hf _ _ _ _ a h1, h2.imp hf hp b⟩
  | B, C, [], ms :: pss, _, h => h.elim
  | B, C, v :: vs, [], _, h => h.elim
theorem OMF.below {B C : Nat} {vs : List Value} {pss : List (List Mono)} (h : OMF w B C vs pss) (hb : Below w.heap.size w w') : OMF w' B C vs pss :=
  h.imp (P := fun _ _ => True) (fun _ _ _ _ _ h => h.below hb) (fun _ _ _ _ _ _ => ⟨trivial, trivial⟩) trivial
theorem OMF.kept {B C B' C' : Nat} {vs : List Value} {pss : List (List Mono)} (h : OMF w B C vs pss) (hc : Chg B' C' w w') (hd : C ≤ B' ∨ C' ≤ B) : OMF w' B C vs pss :=
  h.imp (P := fun B C => C ≤ B' ∨ C' ≤ B) (fun _ _ _ _ hd h => h.kept hc hd) (fun B C M hd h1 h2 => ⟨by omega, by omega⟩) hd
theorem OMF.snoc : ∀ {B C D : Nat} {vs : List Value} {pss : List (List Mono)}, OMF w B C vs pss → OM w C D v ms → OMF w B D (vs ++ [v]) (pss ++ [ms])
  | B, C, D, [], [], h, h' => ⟨D, h'.mono h (Nat.le_refl _), Nat.le_refl _⟩
  | B, C, D, u :: vs, ns :: pss, ⟨M, h1, h2⟩, h' => ⟨M, h1, h2.snoc h'⟩
  | B, C, D, [], ns :: pss, h, _ => h.elim
  | B, C, D, u :: vs, [], h, _ => h.elim
theorem OMF.widen : ∀ {B C D : Nat} {vs : List Value} {pss : List (List Mono)}, OMF w B C vs pss → C ≤ D → OMF w B D vs pss
  | B, C, D, [], [], h, h' => Nat.le_trans h h'
  | B, C, D, u :: vs, ns :: pss, ⟨M, h1, h2⟩, h' => ⟨M, h1, h2.widen h'⟩
  | B, C, D, [], ns :: pss, h, _ => h.elim
  | B, C, D, u :: vs, [], h, _ => h.elim
theorem OMF.get : ∀ {B C : Nat} {vs : List Value} {pss : List (List Mono)}, OMF w B C vs pss → ∀ (k : Nat) (u : Value) (ms : List Mono), vs[k]? = some u → pss[k]? = some ms → ∃ lo hi, B ≤ lo ∧ hi ≤ C ∧ OM w lo hi u ms
  | B, C, [], [], h, k, u, ms, hu, _ => by simp at hu
  | B, C, v :: vs, ns :: pss, ⟨M, h1, h2⟩, 0, u, ms, hu, hm => by simp at hu hm; subst hu; subst hm; exact ⟨B, M, Nat.le_refl _, h2.le, h1⟩
  | B, C, v :: vs, ns :: pss, ⟨M, h1, h2⟩, k + 1, u, ms, hu, hm => by
    obtain ⟨lo, hi, a, b, c⟩ := h2.get k u ms (by simpa using hu) (by simpa using hm)
    have := h1.lt
    exact ⟨lo, hi, by omega, b, c⟩
  | B, C, [], ns :: pss, h, _, _, _, _, _ => h.elim
  | B, C, u :: vs, [], h, _, _, _, _, _ => h.elim

/-- an owned list of lists of monomials -/
def OF (w : World) (B C : Nat) (v : Value) (pss : List (List Mono)) : Prop :=
  ∃ vs g, v = .slice (some ⟨g, 0, none⟩) pss.length pss.length ∧ B ≤ g ∧ Own w B tMs v vs ∧ OMF w (g + 1) C vs pss
theorem OF.below {B C : Nat} {pss : List (List Mono)} (h : OF w B C v pss) (hb : Below w.heap.size w w') : OF w' B C v pss := by
  obtain ⟨vs, g, h1, h2, h3, h4⟩ := h
  exact ⟨vs, g, h1, h2, h3.below hb, h4.below hb⟩
theorem OF.kept {B C B' C' : Nat} {pss : List (List Mono)} (h : OF w B C v pss) (hc : Chg B' C' w w') (hd : C ≤ B' ∨ C' ≤ B) : OF w' B C v pss := by
  obtain ⟨vs, g, h1, h2, h3, h4⟩ := h
  have := h4.le
  refine ⟨vs, g, h1, h2, h3.of_block fun b hb => hc.block b (h3.lt b hb) ?_, h4.kept hc (by omega)⟩
  rw [h1] at hb
  simp [Value.ownBlock] at hb
  omega
theorem OF.mono {B C B' C' : Nat} {pss : List (List Mono)} (h : OF w B C v pss) (h1 : B' ≤ B) (h2 : C ≤ C') : OF w B' C' v pss := by
  obtain ⟨vs, g, a1, a2, a3, a4⟩ := h
  exact ⟨vs, g, a1, by omega, a3.mono h1, a4.widen h2⟩
theorem OF.rows {B C : Nat} {pss : List (List Mono)} (h : OF w B C v pss) : MRows w v pss := by
  obtain ⟨vs, g, a1, a2, a3, a4⟩ := h
  refine ⟨vs, a3.cells, a4.len, fun k u ms hu hm => ?_⟩
  obtain ⟨lo, hi, -, -, h⟩ := a4.get k u ms hu hm
  exact h.monos
end

end Go.Proofs.Ytofabikjjkapmaa

set_option maxRecDepth 100000
set_option linter.unusedVariables false
set_option linter.unusedSimpArgs false
namespace Go.Proofs.Ytofabikjjkapmaa
open Go.RowKit

end Go.Proofs.Ytofabikjjkapmaa

set_option maxRecDepth 100000
set_option linter.unusedVariables false
set_option linter.unusedSimpArgs false
namespace Go.Proofs.Ytofabikjjkapmaa
open Go.RowKit

end Go.Proofs.Ytofabikjjkapmaa

set_option maxRecDepth 100000
set_option linter.unusedVariables false
set_option linter.unusedSimpArgs false
namespace Go.Proofs.Ytofabikjjkapmaa
open Go.RowKit

def msTot : List Mono → Nat
  | [] => 0
  | m :: ms => 1 + m.2.length + msTot ms
theorem msTot_append (a b : List Mono) : msTot (a ++ b) = msTot a + msTot b := by
  induction a with
  | nil => simp [msTot]
  | cons m a ih => simp [msTot, ih]; omega
theorem msTot_take_succ {ms : List Mono} {j : Nat} {m : Mono} (h : ms[j]? = some m) : msTot (ms.take (j + 1)) = msTot (ms.take j) + (1 + m.2.length) := by
  rw [List.take_add_one, h, msTot_append]; simp [msTot]
theorem msTot_take_le (ms : List Mono) (j : Nat) : msTot (ms.take j) ≤ msTot ms := by
  conv => rhs; rw [← List.take_append_drop j ms]
  rw [msTot_append]; omega
def fTot : List (List Mono) → Nat
  | [] => 0
  | ms :: pss => msTot ms + fTot pss
theorem fTot_append (a b : List (List Mono)) : fTot (a ++ b) = fTot a + fTot b := by
  induction a with
  | nil => simp [fTot]
  | cons m a ih => simp [fTot, ih]; omega
theorem fTot_take_succ {pss : List (List Mono)} {j : Nat} {ms : List Mono} (h : pss[j]? = some ms) : fTot (pss.take (j + 1)) = fTot (pss.take j) + msTot ms := by
  rw [List.take_add_one, h, fTot_append]; simp [fTot]
theorem fTot_take_le (pss : List (List Mono)) (j : Nat) : fTot (pss.take j) ≤ fTot pss := by
  conv => rhs; rw [← List.take_append_drop j pss]
  rw [fTot_append]; omega
theorem oi_ne_mono {w : World} {B : Nat} {u : Value} {zs : List Int} {g : Nat} {cs : Array Value} (h : OwnInts w B tI u zs) (hb : Blk w g tM cs) : u.ownBlock ≠ some g := by
  rcases h.1.cases with ⟨rfl, _⟩ | ⟨g', cap, cur, rfl, _, _, hg, _⟩
  · simp [Value.ownBlock]
  · simp only [Value.ownBlock, ne_eq, Option.some.injEq]
    rintro rfl
    rw [show w.heap[g']? = _ from hb] at hg
    injection hg with hg
    injection hg with _ ht
    exact absurd ht (by decide)

/-- what is left to be marked of a list of monomials behind place j -/
structure MLeft (w : World) (B C g n j : Nat) (ms : List Mono) (us : List Value) : Prop where
  blk : ∃ cs : Array Value, Blk w g tM cs ∧ cs.size = n * 2 ∧ ∀ (i : Nat) (u : Value), j ≤ i → us[i]? = some u → cs[i * 2 + 1]? = some u
  pow : ∀ (i : Nat) (u : Value) (m : Mono), j ≤ i → us[i]? = some u → ms[i]? = some m → OI w B C tI u m.2

theorem MLeft.store {w : World} {B C g n j : Nat} {ms : List Mono} {us : List Value} (h : MLeft w B C g n j ms us) (u : Value) : MLeft (w.setCell ⟨g, j * 2, none⟩ u) B C g n j ms us := by
  obtain ⟨⟨cs, h1, h2, h3⟩, h4⟩ := h
  refine ⟨⟨_, h1.set_ (j * 2) u, by simpa using h2, fun i u' hi hu => ?_⟩, fun i u' m hi hu hm => ?_⟩
  · rw [Array.getElem?_setIfInBounds_ne (by omega)]
    exact h3 i u' hi hu
  · have ho := h4 i u' m hi hu hm
    refine ⟨⟨ho.1.1.of_block fun b hb => Below.heap_setCell w ⟨g, j * 2, none⟩ u b (fun e => oi_ne_mono ho.1 h1 (by rw [hb]; exact congrArg some e)), ho.1.2⟩, ho.2⟩

theorem MLeft.next {w w' : World} {B C g n j : Nat} {ms : List Mono} {us : List Value} {u : Value} {m : Mono} (h : MLeft w B C g n j ms us) (hu : us[j]? = some u) (hm : ms[j]? = some m) (hg : w.grownBy w' u.ownBlock)
    (hap : ∀ (i : Nat) (u' : Value), i ≠ j → us[i]? = some u' → Apart u' u) : MLeft w' B C g n (j + 1) ms us := by
  obtain ⟨⟨cs, h1, h2, h3⟩, h4⟩ := h
  refine ⟨⟨cs, (hg.block g h1.lt (fun e => oi_ne_mono (h4 j u m (Nat.le_refl _) hu hm).1 h1 e.symm)).trans h1, h2, fun i u' hi hu' => h3 i u' (by omega) hu'⟩, fun i u' m' hi hu' hm' => ?_⟩
  have ho := h4 i u' m' (by omega) hu' hm'
  exact ⟨ho.1.kept hg (hap i u' (by omega) hu'), ho.2⟩

end Go.Proofs.Ytofabikjjkapmaa

