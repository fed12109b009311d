/- Walks: places in a list, nodes, integrals: of the library, the program and the reference. -/
import Derived.Test.YtgbfifcbbfhpmaaColP
import Derived.Test.YtgbfifcbbfhpmaaLen
import Derived.Test.YtgbfifcbbfhpmaaB
import Derived.Deep.QuietTactic
import Derived.BigQuiet
set_option linter.unusedVariables false
set_option linter.unusedSimpArgs false
namespace Go.Proofs.Ytgbfifcbbfhpmaa
open Go.RowKit

theorem Ints.pre {w : World} {A : Option Addr} {n c : Nat} {zs : List Int} (h : Ints w (.slice A n c) zs) (k : Nat) (hk : k ≤ zs.length) : Ints w (.slice A k c) (zs.take k) := by
  obtain ⟨A', c', hv, l1, l2, h3⟩ := h.open_
  simp only [Value.slice.injEq] at hv
  obtain ⟨rfl, rfl, rfl⟩ := hv
  have hl : (ints (zs.take k)).length = k := by simp [ints]; omega
  refine ⟨⟨A, c, by rw [hl], by rw [hl]; omega, by simpa [maxLen] using l2, fun j u hu => ?_⟩, fun z hz => h.2 z (List.mem_of_mem_take hz)⟩
  have hj : j < k := by rw [← hl]; exact (List.getElem?_eq_some_iff.1 hu).1
  obtain ⟨ad, z, hA, hz, -, hc⟩ := h3 j (by omega)
  refine ⟨ad, hA, ?_⟩
  rw [hc, ← hu]
  simp [ints, List.getElem?_take, hj, hz]

set_option maxHeartbeats 400000 in
theorem lib_Index (w : World) (v : Value) (zs : List Int) (x : Int) (ha : Ints w v zs) :
    Calls Try.prog 146 #[v, .int .i64 x] w fun e w' => e = .returned (.int .i64 (idxF (fun z => z == x) zs)) ∧ w = w' := by
  obtain ⟨A, c, rfl, h1, h2, h3⟩ := ha.open_
  clear ha
  have H3 := Lib.hid h3
  clear h3
  go_enter Try.func146, Try.ntmps146
  go_wp2_with fail
  go_loop [8] (fun i => ∃ k : Nat, k ≤ zs.length ∧ i = .int .i64 k ∧ Hid (∀ i y, i < k → zs[i]? = some y → (y == x) = false)) (fun i => zs.length - (intOf i).toNat)
  case atStart => exact ⟨0, Nat.zero_le _, rfl, fun i y h => by omega⟩
  case round =>
    obtain ⟨k, hk, rfl, hI⟩ := hrel
    by_cases hlt : k < zs.length
    · obtain ⟨ad, z, rfl, hz, hz2, hc⟩ := H3.out k hlt
      have HZ := Lib.hid hz
      clear hz hz2
      by_cases hxz : x = z
      · subst hxz
        go_wp2_with fail
        go_ret
        exact ⟨ret_int (idxF_hit hI.out HZ.out (by simp)).symm, rfl⟩
      · have HX := Lib.hid hxz
        go_wp2_with fail
        go_round
        case rel =>
          refine ⟨k + 1, by omega, by go_num, fun i y hi hy => ?_⟩
          by_cases e : i = k
          · subst e
            rw [HZ.out] at hy
            cases hy
            simpa using fun h => HX.out h.symm
          · exact hI.out i y (by omega) hy
        case measure => simp [intOf]; omega
    · have : k = zs.length := by omega
      subst this
      go_wp2_with fail
      go_ret
      exact ⟨ret_int (idxF_miss hI.out).symm, rfl⟩

set_option maxHeartbeats 400000 in
theorem s_l01Index (w : World) (v : Value) (zs : List Int) (x : Int) (ha : Ints w v zs) :
    Calls Try.prog 143 #[v, .int .i64 x] w fun e w' => e = .returned (.int .i64 (idxF (fun z => z == x) zs)) ∧ w = w' := by
  obtain ⟨A, c, rfl, h1, h2, h3⟩ := ha.open_
  clear ha
  have H3 := Lib.hid h3
  clear h3
  go_enter Try.func143, Try.ntmps143
  go_wp2_with fail
  go_loop [5] (fun i => ∃ k : Nat, k ≤ zs.length ∧ i = .int .i64 k ∧ Hid (∀ i y, i < k → zs[i]? = some y → (y == x) = false)) (fun i => zs.length - (intOf i).toNat)
  case atStart => exact ⟨0, Nat.zero_le _, rfl, fun i y h => by omega⟩
  case round =>
    obtain ⟨k, hk, rfl, hI⟩ := hrel
    by_cases hlt : k < zs.length
    · obtain ⟨ad, z, rfl, hz, hz2, hc⟩ := H3.out k hlt
      have HZ := Lib.hid hz
      clear hz hz2
      by_cases hxz : z = x
      · subst hxz
        go_wp2_with fail
        go_ret
        exact ⟨ret_int (idxF_hit hI.out HZ.out (by simp)).symm, rfl⟩
      · have HX := Lib.hid hxz
        go_wp2_with fail
        go_round
        case rel =>
          refine ⟨k + 1, by omega, by go_num, fun i y hi hy => ?_⟩
          by_cases e : i = k
          · subst e
            rw [HZ.out] at hy
            cases hy
            simpa using HX.out
          · exact hI.out i y (by omega) hy
        case measure => simp [intOf]; omega
    · have : k = zs.length := by omega
      subst this
      go_wp2_with fail
      go_ret
      exact ⟨ret_int (idxF_miss hI.out).symm, rfl⟩

/-- is x on the list? -/
def hasB (zs : List Int) (x : Int) : Bool := zs.any fun z => z == x
set_option maxHeartbeats 400000 in
theorem lib_Contains (w : World) (v : Value) (zs : List Int) (x : Int) (ha : Ints w v zs) :
    Calls Try.prog 107 #[v, .int .i64 x] w fun e w' => e = .returned (.bool (hasB zs x)) ∧ w = w' := by
  have HA := Lib.hid ha
  clear ha
  go_enter Try.func107, Try.ntmps107
  go_wp2_with (go_at_call 146; refine (lib_Index _ _ _ _ HA.out).mono ?_; rintro e w' ⟨rfl, rfl⟩)
  go_ret
  exact ⟨ret_bool (idxF_nonneg _ zs), rfl⟩
set_option maxHeartbeats 400000 in
theorem s_l01Has (w : World) (v : Value) (zs : List Int) (x : Int) (ha : Ints w v zs) :
    Calls Try.prog 104 #[v, .int .i64 x] w fun e w' => e = .returned (.bool (hasB zs x)) ∧ w = w' := by
  have HA := Lib.hid ha
  clear ha
  go_enter Try.func104, Try.ntmps104
  go_wp2_with (go_at_call 143; refine (s_l01Index _ _ _ _ HA.out).mono ?_; rintro e w' ⟨rfl, rfl⟩)
  go_ret
  exact ⟨ret_bool (idxF_nonneg _ zs), rfl⟩

/-- does the k-th node stand ahead of itself? -/
def again (zs : List Int) (k : Nat) : Bool := hasB (zs.take k) (zs.getD k 0)
def nodesOk (zs : List Int) : Bool := inR zs.length 1 8 && nums zs
def nodesC (zs : List Int) : Int := if nodesOk zs then (if (List.range zs.length).any (again zs) then 5 else 0) else 2
theorem again_any {zs : List Int} {k : Nat} (hk : k < zs.length) (h : again zs k = true) : (List.range zs.length).any (again zs) = true :=
  List.any_eq_true.2 ⟨k, List.mem_range.2 hk, h⟩
theorem again_none {zs : List Int} (h : ∀ i, i < zs.length → again zs i = false) : (List.range zs.length).any (again zs) = false := by
  rw [List.any_eq_false]
  intro i hi
  rw [h i (List.mem_range.1 hi)]
  simp

set_option maxHeartbeats 1000000 in
theorem i_checkNodesList (w : World) (v : Value) (zs : List Int) (ha : Ints w v zs) :
    Calls Try.prog 55 #[v] w fun e w' => e = .returned (.int .i64 (nodesC zs)) ∧ w = w' := by
  have HA := Lib.hid ha
  obtain ⟨A, c, rfl, h1, h2, h3⟩ := ha.open_
  clear ha
  have H3 := Lib.hid h3
  clear h3
  go_enter Try.func55, Try.ntmps55
  go_wp2_with fail
  refine (lib_lengthI _ _ _ HA.out).mono ?_
  rintro e w' ⟨rfl, rfl⟩
  go_wp2_with fail
  refine (i_inRange _ _ _ _).mono ?_
  rintro e w' ⟨rfl, rfl⟩
  cases hr : inR zs.length 1 8 with
  | false =>
    have HR := Lib.hid hr
    go_wp2_with fail
    go_ret
    exact ⟨ret_int (by simp [nodesC, nodesOk, HR.out]), rfl⟩
  | true =>
    have HR := Lib.hid hr
    clear hr
    go_wp2_with fail
    refine (i_areNumbers _ _ _ HA.out).mono ?_
    rintro e w' ⟨rfl, rfl⟩
    cases hm : nums zs with
    | false =>
      have HM := Lib.hid hm
      go_wp2_with fail
      go_ret
      exact ⟨ret_int (by simp [nodesC, nodesOk, HM.out]), rfl⟩
    | true =>
      have HM := Lib.hid hm
      clear hm
      go_wp2_with fail
      go_loop [16] (fun i => ∃ k : Nat, k ≤ zs.length ∧ i = .int .i64 k ∧ Hid (∀ i, i < k → again zs i = false)) (fun i => zs.length - (intOf i).toNat)
      case atStart => exact ⟨0, Nat.zero_le _, rfl, fun i h => by omega⟩
      case round =>
        obtain ⟨k, hk, rfl, hI⟩ := hrel
        by_cases hlt : k < zs.length
        · obtain ⟨ad, z, rfl, hz, hz2, hc⟩ := H3.out k hlt
          have HZ := Lib.hid (show zs.getD k 0 = z by simp [List.getD, hz])
          have HP := Lib.hid (HA.out.pre k hk)
          have hkc : k ≤ c := by omega
          have hkc' : (k : Int) ≤ (c : Int) := by omega
          clear hz hz2
          go_wp2_with fail
          refine (lib_Contains _ _ _ z (by exact HP.out)).mono ?_
          rintro e w' ⟨rfl, rfl⟩
          cases hg : hasB (zs.take k) z with
          | true =>
            have HG := Lib.hid (show again zs k = true by unfold again; rw [HZ.out]; exact hg)
            go_wp2_with fail
            go_ret
            exact ⟨ret_int (by simp [nodesC, nodesOk, HM.out, HR.out, again_any hlt HG.out]), rfl⟩
          | false =>
            have HG := Lib.hid (show again zs k = false by unfold again; rw [HZ.out]; exact hg)
            go_wp2_with fail
            go_round
            case rel =>
              refine ⟨k + 1, by omega, by go_num, fun i hi => ?_⟩
              by_cases e : i = k
              · subst e; exact HG.out
              · exact hI.out i (by omega)
            case measure => simp [intOf]; omega
        · have : k = zs.length := by omega
          subst this
          go_wp2_with fail
          go_ret
          exact ⟨ret_int (by simp [nodesC, nodesOk, HM.out, HR.out, again_none hI.out]), rfl⟩
end Go.Proofs.Ytgbfifcbbfhpmaa
