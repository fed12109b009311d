/- Walks: places in a list, nodes, integrals: of the library, the program and the reference. | Walks: the nodes' code of the reference, fractions, integrals. -/
import Derived.Test.YtbjeibcombjfgaaQt14
import Derived.Test.YtbjeibcombjfgaaQt5
import Derived.Deep.QuietTactic
import Derived.BigQuiet
import Derived.Deep.RegionHeld3
set_option linter.unusedVariables false
set_option linter.unusedSimpArgs false
namespace Go.Proofs.Ytbjeibcombjfgaa
open Go.RowKit

theorem Ints.pre {w : World} {A : Option Addr} {n c : Nat} {zs : List Int} (h : Ints w (.slice A n c) zs) (k : Nat) (hk : k ≤ zs.length) : Ints w (.slice A k c) (zs.take k) := by
  obtain ⟨A', c', hv, l1, l2, h3⟩ := h.open_
  simp only [Value.slice.injEq] at hv
  obtain ⟨rfl, rfl, rfl⟩ := hv
  have hl : (ints (zs.take k)).length = k := by simp [ints]; omega
  refine ⟨⟨A, c, by rw [hl], by rw [hl]; omega, by simpa [maxLen] using l2, fun j u hu => ?_⟩, fun z hz => h.2 z (List.mem_of_mem_take hz)⟩
  have hj : j < k := by rw [← hl]; exact (List.getElem?_eq_some_iff.1 hu).1
  obtain ⟨ad, z, hA, hz, -, hc⟩ := h3 j (by omega)
  refine ⟨ad, hA, ?_⟩
  rw [hc, ← hu]
  simp [ints, List.getElem?_take, hj, hz]

set_option maxHeartbeats 400000 in
theorem s_l01Index (w : World) (v : Value) (zs : List Int) (x : Int) (ha : Ints w v zs) :
    Calls Try.prog 215 #[v, .int .i64 x] w fun e w' => e = .returned (.int .i64 (idxF (fun z => z == x) zs)) ∧ w = w' := by
  obtain ⟨A, c, rfl, h1, h2, h3⟩ := ha.open_
  clear ha
  have H3 := Lib.hid h3
  clear h3
  go_enter Try.func215, Try.ntmps215
  go_wp2_with fail
  go_loop [5] (fun i => ∃ k : Nat, k ≤ zs.length ∧ i = .int .i64 k ∧ Hid (∀ i y, i < k → zs[i]? = some y → (y == x) = false)) (fun i => zs.length - (intOf i).toNat)
  case atStart => exact ⟨0, Nat.zero_le _, rfl, fun i y h => by omega⟩
  case round =>
    obtain ⟨k, hk, rfl, hI⟩ := hrel
    by_cases hlt : k < zs.length
    · obtain ⟨ad, z, rfl, hz, hz2, hc⟩ := H3.out k hlt
      have HZ := Lib.hid hz
      clear hz hz2
      by_cases hxz : z = x
      · subst hxz
        go_wp2_with fail
        go_ret
        exact ⟨ret_int (idxF_hit hI.out HZ.out (by simp)).symm, rfl⟩
      · have HX := Lib.hid hxz
        go_wp2_with fail
        go_round
        case rel =>
          refine ⟨k + 1, by omega, by go_num, fun i y hi hy => ?_⟩
          by_cases e : i = k
          · subst e
            rw [HZ.out] at hy
            cases hy
            simpa using HX.out
          · exact hI.out i y (by omega) hy
        case measure => simp [intOf]; omega
    · have : k = zs.length := by omega
      subst this
      go_wp2_with fail
      go_ret
      exact ⟨ret_int (idxF_miss hI.out).symm, rfl⟩

/-- is x on the list? -/
def hasB (zs : List Int) (x : Int) : Bool := zs.any fun z => z == x
set_option maxHeartbeats 400000 in
theorem s_l01Has (w : World) (v : Value) (zs : List Int) (x : Int) (ha : Ints w v zs) :
    Calls Try.prog 192 #[v, .int .i64 x] w fun e w' => e = .returned (.bool (hasB zs x)) ∧ w = w' := by
  have HA := Lib.hid ha
  clear ha
  go_enter Try.func192, Try.ntmps192
  go_wp2_with (go_at_call 215; refine (s_l01Index _ _ _ _ HA.out).mono ?_; rintro e w' ⟨rfl, rfl⟩)
  go_ret
  exact ⟨ret_bool (idxF_nonneg _ zs), rfl⟩

/-- does the k-th node stand ahead of itself? -/
def again (zs : List Int) (k : Nat) : Bool := hasB (zs.take k) (zs.getD k 0)
def nodesOk (zs : List Int) : Bool := inR zs.length 1 8 && nums zs
def nodesC (zs : List Int) : Int := if nodesOk zs then (if (List.range zs.length).any (again zs) then 5 else 0) else 2
theorem again_any {zs : List Int} {k : Nat} (hk : k < zs.length) (h : again zs k = true) : (List.range zs.length).any (again zs) = true :=
  List.any_eq_true.2 ⟨k, List.mem_range.2 hk, h⟩
theorem again_none {zs : List Int} (h : ∀ i, i < zs.length → again zs i = false) : (List.range zs.length).any (again zs) = false := by
  rw [List.any_eq_false]
  intro i hi
  rw [h i (List.mem_range.1 hi)]
  simp

end Go.Proofs.Ytbjeibcombjfgaa

set_option linter.unusedVariables false
set_option linter.unusedSimpArgs false
namespace Go.Proofs.Ytbjeibcombjfgaa
open Go.RowKit

set_option maxHeartbeats 1000000 in
theorem s_l11Nodes (w : World) (v : Value) (zs : List Int) (ha : Ints w v zs) :
    Calls Try.prog 134 #[v] w fun e w' => e = .returned (.int .i64 (nodesC zs)) ∧ ∃ n, w' = w.drewN n := by
  have HA := Lib.hid ha
  obtain ⟨A, c, rfl, h1, h2, h3⟩ := ha.open_
  clear ha
  have H3 := Lib.hid h3
  clear h3
  have hR : inR zs.length 1 8 = (decide (1 ≤ (zs.length : Int)) && decide ((zs.length : Int) ≤ 8)) := rfl
  have HR := Lib.hid hR
  clear hR
  go_enter Try.func134, Try.ntmps134
  by_cases hlo : (zs.length : Int) < 1
  · have HL := Lib.hid (show nodesC zs = 2 by simp [nodesC, nodesOk, HR.out]; omega)
    go_wp2_with fail
    go_ret
    exact ⟨ret_int HL.out.symm, 0, rfl⟩
  · by_cases hhi : (8 : Int) < (zs.length : Int)
    · have HL := Lib.hid (show nodesC zs = 2 by simp [nodesC, nodesOk, HR.out]; omega)
      go_wp2_with fail
      go_ret
      exact ⟨ret_int HL.out.symm, 0, rfl⟩
    · have HRT := Lib.hid (show inR zs.length 1 8 = true by rw [HR.out]; simp; omega)
      go_wp2_with fail
      refine (s_l01Numbers _ _ _ HA.out).mono ?_
      rintro e w' ⟨rfl, rfl⟩
      cases hm : nums zs with
      | false =>
        have HM := Lib.hid hm
        go_wp2_with fail
        go_ret
        exact ⟨ret_int (by simp [nodesC, nodesOk, HM.out]), 0, rfl⟩
      | true =>
        have HM := Lib.hid hm
        clear hm
        go_wp2_with fail
        go_loopw [3] (fun i wr => ∃ k n : Nat, k ≤ zs.length ∧ i = .int .i64 k ∧ Hid (∀ i, i < k → again zs i = false) ∧ wr = w.drewN n) (fun i _ => zs.length - (intOf i).toNat)
        case atStart => exact ⟨0, 0, Nat.zero_le _, rfl, fun i h => by omega, rfl⟩
        case round =>
          obtain ⟨k, n, hk, rfl, hI, rfl⟩ := hrel
          by_cases hlt : k < zs.length
          · obtain ⟨ad, z, rfl, hz, hz2, hc⟩ := H3.out k hlt
            have HZ := Lib.hid (show zs.getD k 0 = z by simp [List.getD, hz])
            have HP := Lib.hid (HA.out.pre k hk)
            have hkc : k ≤ c := by omega
            have hkc' : (k : Int) ≤ (c : Int) := by omega
            have hki : (k : Int) < (zs.length : Int) := by omega
            clear hz hz2
            go_wp2_with fail
            go_quiet ((go_at_call 192; exact quiet_same (s_l01Has _ _ _ z (by exact HP.out.drewN _))))
            cases hg : hasB (zs.take k) z with
            | true =>
              have HG := Lib.hid (show again zs k = true by unfold again; rw [HZ.out]; exact hg)
              go_wp2_with fail
              go_ret
              exact ⟨ret_int (by simp [nodesC, nodesOk, HM.out, HRT.out, again_any hlt HG.out]), _, World.drewN_drewN ..⟩
            | false =>
              have HG := Lib.hid (show again zs k = false by unfold again; rw [HZ.out]; exact hg)
              go_wp2_with fail
              go_roundw
              case rel =>
                refine ⟨k + 1, _, by omega, by go_num, fun i hi => ?_, rfl⟩
                by_cases e : i = k
                · subst e; exact HG.out
                · exact hI.out i (by omega)
              case measure => simp [intOf]; omega
          · have : k = zs.length := by omega
            subst this
            go_wp2_with fail
            go_ret
            exact ⟨ret_int (by simp [nodesC, nodesOk, HM.out, HRT.out, again_none hI.out]), _, rfl⟩

set_option maxHeartbeats 400000 in
theorem s_l01Frac1 (k : Int) (w : World) (h0 : 0 ≤ k) (h1 : k ≤ 2000000000) :
    Calls Try.prog 70 #[.int .i64 1, .int .i64 k] w fun e w' => e = .returned (.int .i64 (pw k 10005)) ∧ w = w' := by
  have HP := Lib.hid (show (1 : Int) % 10007 * pw (k % 10007) 10005 % 10007 = pw k 10005 by rw [pw_mod, show (1 : Int) % 10007 = 1 from by decide, Int.one_mul, pw_self])
  have hb := pw_bd (k % 10007) 10005
  go_enter Try.func70, Try.ntmps70
  go_wp2_with (first | (go_at_call 123; refine (s_l01Mod _ _ (by omega) (by omega)).mono ?_; rintro e w' ⟨rfl, rfl⟩) | (go_at_call 124; refine (s_l01Inv _ _ (by omega) (by omega)).mono ?_; rintro e w' ⟨rfl, rfl⟩) | (go_at_call 122; refine (s_l01Mul _ _ _ (by omega) (by omega) (by omega) (by omega)).mono ?_; rintro e w' ⟨rfl, rfl⟩))
  go_ret
  refine ⟨ret_int ?_, rfl⟩
  have := HP.out
  simpa using this

set_option maxHeartbeats 1000000 in
theorem s_l11Integral (w : World) (v : Value) (p : List Int) (x : Int) (ha : Ints w v p) (hN : Nums p) (hn : p.length ≤ 1000) (h0 : 0 ≤ x) (h1 : x ≤ 10006) :
    Calls Try.prog 193 #[v, .int .i64 0, .int .i64 x] w fun e w' => e = .returned (.int .i64 (integ p x)) ∧ ∃ n, w' = w.drewN n := by
  obtain ⟨A, c, rfl, l1, l2, h3⟩ := ha.open_
  have H3 := Lib.hid h3
  have HN := Lib.hid hN
  clear ha h3 hN
  go_enter Try.func193, Try.ntmps193
  go_wp2_with fail
  go_loopw [7, 8] (fun s i wr => ∃ j n : Nat, j ≤ p.length ∧ i = .int .i64 j ∧ s = .int .i64 (sumTo (iterm p x) j % 10007) ∧ wr = w.drewN n) (fun _ i _ => p.length - (intOf i).toNat)
  case atStart => exact ⟨0, 0, Nat.zero_le _, rfl, rfl, rfl⟩
  case round =>
    obtain ⟨j, n, hj, rfl, rfl, rfl⟩ := hrel
    have hsb : 0 ≤ sumTo (iterm p x) j % 10007 ∧ sumTo (iterm p x) j % 10007 ≤ 10006 := by omega
    by_cases hlt : j < p.length
    · obtain ⟨ad, z, rfl, hz, -, hc⟩ := H3.out j hlt
      have hzn := HN.out z (List.mem_of_getElem? hz)
      have HI := Lib.hid (show z * (pw x (j + 1) * pw ((j : Int) + 1) 10005 % 10007) % 10007 = iterm p x j by rw [← iterm_eq]; simp [List.getD, hz])
      have HT := Lib.hid (show sumTo (iterm p x) (j + 1) % 10007 = (sumTo (iterm p x) j % 10007 + iterm p x j) % 10007 by rw [sumTo, mod_add_l])
      have ht : ((j : Int) + 1).toNat = j + 1 := by omega
      have b1 := pw_bd x (j + 1)
      have b2 := pw_bd ((j : Int) + 1) 10005
      have hji : (j : Int) < (p.length : Int) := by omega
      clear hz
      generalize hs : sumTo (iterm p x) j % 10007 = s at hsb HT
      clear hs
      go_wp2_with fail
      go_quiet ((first | (go_at_call 186; exact quiet_same (s_l01Pow _ _ _ (by omega) (by omega) (by omega) (by omega))) | (go_at_call 70; exact quiet_same (s_l01Frac1 _ _ (by omega) (by omega))) | (go_at_call 122; exact quiet_same (s_l01Mul _ _ _ (by omega) (by omega) (by omega) (by omega))) | (go_at_call 182; exact quiet_same (s_l01Add _ _ _ (by omega) (by omega) (by omega) (by omega)))))
      go_wp2_with fail
      go_roundw
      case rel =>
        refine ⟨j + 1, _, by omega, by go_num, ?_, rfl⟩
        rw [HT.out, ← HI.out]
      case measure => simp [intOf]; omega
    · have : j = p.length := by omega
      subst this
      go_wp2_with fail
      go_ret
      exact ⟨rfl, _, rfl⟩
end Go.Proofs.Ytbjeibcombjfgaa

