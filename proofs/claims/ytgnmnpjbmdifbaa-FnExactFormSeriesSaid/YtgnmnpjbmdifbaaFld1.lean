/- Walks: comparing lists, of the library and of the reference. -/
import Derived.Test.YtgnmnpjbmdifbaaRows
import Derived.Test.YtgnmnpjbmdifbaaMem
import Derived.Test.YtgnmnpjbmdifbaaMem2
import Derived.Test.YtgnmnpjbmdifbaaNum
import Derived.Test.YtgnmnpjbmdifbaaL
import Derived.WalkLawsBesides
import Derived.Deep.QuietTactic
import Derived.BigQuiet
set_option maxRecDepth 100000
set_option linter.unusedVariables false
set_option linter.unusedSimpArgs false
namespace Go.Proofs.Ytgnmnpjbmdifbaa
open Go.RowKit

def cmpZ (x y : Int) : Int := if x < y then -1 else if y < x then 1 else 0
/-- the comparison of two lists -/
def cmpL : List Int → List Int → Int
  | [], [] => 0
  | [], _ :: _ => -1
  | _ :: _, [] => 1
  | x :: xs, y :: ys => if x < y then -1 else if y < x then 1 else cmpL xs ys
def lessL (a b : List Int) : Bool := decide (cmpL a b < 0)
theorem cmpL_nil_left {b : List Int} : cmpL [] b = if 0 < b.length then -1 else 0 := by cases b <;> simp [cmpL]
theorem cmpL_nil_right {a : List Int} (h : 0 < a.length) : cmpL a [] = 1 := by
  cases a with
  | nil => simp at h
  | cons x xs => rfl
theorem cmpL_step {a b : List Int} {k : Nat} {x y : Int} (hx : a[k]? = some x) (hy : b[k]? = some y) : cmpL (a.drop k) (b.drop k) = if x < y then -1 else if y < x then 1 else cmpL (a.drop (k + 1)) (b.drop (k + 1)) := by
  have ha := (List.getElem?_eq_some_iff.1 hx).1
  have hb := (List.getElem?_eq_some_iff.1 hy).1
  rw [List.drop_eq_getElem_cons ha, List.drop_eq_getElem_cons hb]
  have e1 : a[k] = x := by rw [List.getElem?_eq_getElem ha] at hx; simpa using hx
  have e2 : b[k] = y := by rw [List.getElem?_eq_getElem hb] at hy; simpa using hy
  rw [e1, e2, cmpL]

set_option maxHeartbeats 400000 in
theorem lib_isNaN (x : Int) (w : World) : Calls Try.prog 168 #[.int .i64 x] w fun e w' => e = .returned (.bool false) ∧ w = w' := by
  go_enter Try.func168, Try.ntmps168
  go_wp2
  go_ret
  exact ⟨ret_bool (by simp), rfl⟩

set_option maxHeartbeats 400000 in
theorem lib_cmp (x y : Int) (w : World) : Calls Try.prog 115 #[.int .i64 x, .int .i64 y] w fun e w' => e = .returned (.int .i64 (cmpZ x y)) ∧ w = w' := by
  go_enter Try.func115, Try.ntmps115
  by_cases h1 : x < y
  · have h2 : ¬ y < x := by omega
    go_wp2_with (go_at_call 168; refine (lib_isNaN _ _).mono ?_; rintro e w' ⟨rfl, rfl⟩)
    go_ret
    exact ⟨ret_int (by simp [cmpZ, h1]), rfl⟩
  · by_cases h2 : y < x
    · go_wp2_with (go_at_call 168; refine (lib_isNaN _ _).mono ?_; rintro e w' ⟨rfl, rfl⟩)
      go_ret
      exact ⟨ret_int (by simp [cmpZ, h1, h2]), rfl⟩
    · go_wp2_with (go_at_call 168; refine (lib_isNaN _ _).mono ?_; rintro e w' ⟨rfl, rfl⟩)
      go_ret
      exact ⟨ret_int (by unfold cmpZ; rw [if_neg (by omega), if_neg (by omega)]), rfl⟩

set_option maxHeartbeats 1000000 in
theorem lib_Compare (w : World) (v v' : Value) (a b : List Int) (ha : Ints w v a) (hb : Ints w v' b) :
    Calls Try.prog 64 #[v, v'] w fun e w' => e = .returned (.int .i64 (cmpL a b)) ∧ w = w' := by
  obtain ⟨A, c, rfl, l1, l2, h3⟩ := ha.open_
  obtain ⟨B, d, rfl, m1, m2, g3⟩ := hb.open_
  have H3 := Lib.hid h3
  have G3 := Lib.hid g3
  clear ha hb h3 g3
  go_enter Try.func64, Try.ntmps64
  go_wp2_with fail
  go_loop [11] (fun i => ∃ k : Nat, k ≤ a.length ∧ k ≤ b.length ∧ i = .int .i64 k ∧ Hid (cmpL a b = cmpL (a.drop k) (b.drop k))) (fun i => a.length - (intOf i).toNat)
  case atStart => exact ⟨0, Nat.zero_le _, Nat.zero_le _, rfl, (rfl : cmpL a b = cmpL (a.drop 0) (b.drop 0))⟩
  case round =>
    obtain ⟨k, hk, hkb, rfl, hI⟩ := hrel
    by_cases hlt : k < a.length
    · obtain ⟨ad, x, rfl, hx, -, hcx⟩ := H3.out k hlt
      by_cases hlb : k < b.length
      · obtain ⟨ad', y, rfl, hy, -, hcy⟩ := G3.out k hlb
        have HS := Lib.hid (hI.out.trans (cmpL_step hx hy))
        have hng : ¬ (b.length : Int) ≤ (k : Int) := by omega
        clear hx hy
        by_cases h1 : x < y
        · have hz : cmpZ x y = -1 := by simp [cmpZ, h1]
          have HR := Lib.hid (show cmpL a b = -1 by rw [HS.out, if_pos h1])
          go_wp2_with (go_at_call 115; refine (lib_cmp _ _ _).mono ?_; rintro e w' ⟨rfl, rfl⟩; rw [hz])
          go_ret
          exact ⟨ret_int HR.out.symm, rfl⟩
        · by_cases h2 : y < x
          · have hz : cmpZ x y = 1 := by simp [cmpZ, h1, h2]
            have HR := Lib.hid (show cmpL a b = 1 by rw [HS.out, if_neg h1, if_pos h2])
            go_wp2_with (go_at_call 115; refine (lib_cmp _ _ _).mono ?_; rintro e w' ⟨rfl, rfl⟩; rw [hz])
            go_ret
            exact ⟨ret_int HR.out.symm, rfl⟩
          · have hz : cmpZ x y = 0 := by simp [cmpZ, h1, h2]
            have HR := Lib.hid (show cmpL a b = cmpL (a.drop (k + 1)) (b.drop (k + 1)) by rw [HS.out, if_neg h1, if_neg h2])
            go_wp2_with (go_at_call 115; refine (lib_cmp _ _ _).mono ?_; rintro e w' ⟨rfl, rfl⟩; rw [hz])
            go_round
            case rel => exact ⟨k + 1, by omega, by omega, by go_num, HR.out⟩
            case measure => simp [intOf]; omega
      · have hkb2 : k = b.length := by omega
        have HR := Lib.hid (show cmpL a b = 1 by rw [hI.out, hkb2, List.drop_length, cmpL_nil_right (by simp; omega)])
        have hng : (b.length : Int) ≤ (k : Int) := by omega
        clear hkb2 hx
        go_wp2_with fail
        go_ret
        exact ⟨ret_int HR.out.symm, rfl⟩
    · have hka : k = a.length := by omega
      have HR := Lib.hid (show cmpL a b = if 0 < (b.drop k).length then -1 else 0 by rw [hI.out, hka, List.drop_length, cmpL_nil_left])
      have hna : ¬ (k : Int) < (a.length : Int) := by omega
      by_cases hlb : (a.length : Int) < (b.length : Int)
      · have HR2 := Lib.hid (show cmpL a b = -1 by rw [HR.out, if_pos (by simp; omega)])
        clear hka
        go_wp2_with fail
        go_ret
        exact ⟨ret_int HR2.out.symm, rfl⟩
      · have HR2 := Lib.hid (show cmpL a b = 0 by rw [HR.out, if_neg (by simp; omega)])
        clear hka
        go_wp2_with fail
        go_ret
        exact ⟨ret_int HR2.out.symm, rfl⟩

set_option maxHeartbeats 1000000 in
theorem s_l01Less (w : World) (v v' : Value) (a b : List Int) (ha : Ints w v a) (hb : Ints w v' b) :
    Calls Try.prog 112 #[v, v'] w fun e w' => e = .returned (.bool (lessL a b)) ∧ ∃ n, w' = w.drewN n := by
  obtain ⟨A, c, rfl, l1, l2, h3⟩ := ha.open_
  obtain ⟨B, d, rfl, m1, m2, g3⟩ := hb.open_
  have H3 := Lib.hid h3
  have G3 := Lib.hid g3
  clear ha hb h3 g3
  go_enter Try.func112, Try.ntmps112
  go_wp2_with fail
  go_loopw [5] (fun i wr => ∃ k n : Nat, k ≤ a.length ∧ k ≤ b.length ∧ i = .int .i64 k ∧ Hid (cmpL a b = cmpL (a.drop k) (b.drop k)) ∧ wr = w.drewN n) (fun i _ => a.length - (intOf i).toNat)
  case atStart => exact ⟨0, 0, Nat.zero_le _, Nat.zero_le _, rfl, (rfl : cmpL a b = cmpL (a.drop 0) (b.drop 0)), rfl⟩
  case round =>
    obtain ⟨k, n, hk, hkb, rfl, hI, rfl⟩ := hrel
    by_cases hlt : k < a.length
    · obtain ⟨ad, x, rfl, hx, -, hcx⟩ := H3.out k hlt
      by_cases hlb : k < b.length
      · obtain ⟨ad', y, rfl, hy, -, hcy⟩ := G3.out k hlb
        have HS := Lib.hid (hI.out.trans (cmpL_step hx hy))
        have hka' : (k : Int) < (a.length : Int) := by omega
        have hkb' : (k : Int) < (b.length : Int) := by omega
        clear hx hy
        by_cases h0 : x = y
        · have HR := Lib.hid (show cmpL a b = cmpL (a.drop (k + 1)) (b.drop (k + 1)) by rw [HS.out, if_neg (by omega), if_neg (by omega)])
          subst h0
          go_wp2_with fail
          go_quiet (fail)
          go_wp2_with fail
          go_roundw
          case rel => exact ⟨k + 1, _, by omega, by omega, by go_num, HR.out, rfl⟩
          case measure => simp [intOf]; omega
        · have HR := Lib.hid (show lessL a b = decide (x < y) by
            unfold lessL
            rw [HS.out]
            by_cases h1 : x < y
            · rw [if_pos h1]; simp [h1]
            · rw [if_neg h1, if_pos (by omega)]; simp [h1])
          go_wp2_with fail
          go_quiet (fail)
          go_wp2_with fail
          go_quiet (fail)
          go_wp2_with fail
          go_ret
          exact ⟨ret_bool HR.out.symm, _, by rw [World.drewN_drewN, World.drewN_drewN]⟩
      · have HR := Lib.hid (show lessL a b = decide (a.length < b.length) by
          unfold lessL
          rw [hI.out, show k = b.length by omega, List.drop_length, cmpL_nil_right (by simp; omega)]
          simp
          omega)
        have hng : ¬ (k : Int) < (b.length : Int) := by omega
        have hka' : (k : Int) < (a.length : Int) := by omega
        clear hx
        go_wp2_with fail
        go_ret
        exact ⟨ret_bool HR.out.symm, _, rfl⟩
    · have HR := Lib.hid (show lessL a b = decide (a.length < b.length) by
        unfold lessL
        rw [hI.out, show k = a.length by omega, List.drop_length, cmpL_nil_left]
        by_cases h : a.length < b.length
        · rw [if_pos (by simp; omega)]; simp [h]
        · rw [if_neg (by simp; omega)]; simp; omega)
      have hna : ¬ (k : Int) < (a.length : Int) := by omega
      go_wp2_with fail
      go_ret
      exact ⟨ret_bool HR.out.symm, _, rfl⟩
end Go.Proofs.Ytgnmnpjbmdifbaa
