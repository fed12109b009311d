/- Walks of the library's Grow, Concat at lists of numbers. -/
import Derived.Test.YtgbfifcbbfhpmaaRows
import Derived.Test.YtgbfifcbbfhpmaaMem
import Derived.Test.YtgbfifcbbfhpmaaMem2
import Derived.Test.YtgbfifcbbfhpmaaNum
import Derived.Test.YtgbfifcbbfhpmaaL
import Derived.Test.YtgbfifcbbfhpmaaLR
import Derived.WalkLawsBesides
import Derived.Lib.AppendZeros
set_option maxRecDepth 100000
set_option linter.unusedVariables false
set_option linter.unusedSimpArgs false
namespace Go.Proofs.Ytgbfifcbbfhpmaa
open Go.RowKit

set_option maxHeartbeats 1000000 in
theorem lib_GrowI (w : World) (n : Nat) (hn : n ≤ 4294967296) :
    Calls Try.prog 148 #[.slice none 0 0, .int .i64 (n : Int)] w fun e w' => ∃ r, e = .returned r ∧ Own w' w.heap.size tI r [] ∧ Below w.heap.size w w' := by
  by_cases h0 : n = 0
  · subst h0
    go_enter Try.func148, Try.ntmps148
    go_wp2
    go_ret
    exact ⟨_, rfl, Own.nil _ _ _, Below.refl _ _⟩
  · obtain ⟨i, hi, hz, h1, h2⟩ := info_parts T_int.info
    have hp : (0 : Int) < (n : Int) := by omega
    have hr := Go.Lib.run_append_nil_zeros (P := Try.prog) w 23 3 23 tI i (.int .i64 0) .i64 .i64 T_int.under Try.underlying3 hi hz n (by omega) (by rw [h1]; omega) (by omega) (by rw [h2]; omega)
    have hge := grownCap_ge w n 0 tI
    have hcm := grownCap_le_maxLen w n 0 tI (by simp only [maxLen]; omega)
    have hO : Own (w.drew.alloc (.cells (Builtin.zeroCells (Value.cells (.int .i64 0)) n ++ Builtin.zeroCells (Value.cells (.int .i64 0)) (grownCap w n 0 tI - n)) tI)) w.heap.size tI (.slice (some ⟨w.heap.size, 0, none⟩) 0 (grownCap w n 0 tI)) [] :=
      World.ownsRow_made (w := w.drew) (base := w.heap.size) (e := tI) (size := 1) _ (grownCap w n 0 tI) (Nat.le_refl _) hcm (by simp [size_zeroCells, Value.cells]; omega)
    have HO := Lib.hid hO
    have HB := Lib.hid ((Below.refl w.heap.size w).drew.alloc (Nat.le_refl _) (.cells (Builtin.zeroCells (Value.cells (.int .i64 0)) n ++ Builtin.zeroCells (Value.cells (.int .i64 0)) (grownCap w n 0 tI - n)) tI))
    have HR := Lib.hid hr
    have hcm' : grownCap w n 0 tI ≤ 9223372036854775807 := by simpa [maxLen] using hcm
    clear hO hr hcm
    generalize grownCap w n 0 tI = cp at hge hcm' HO HB HR
    generalize (w.drew.alloc (.cells (Builtin.zeroCells (Value.cells (.int .i64 0)) n ++ Builtin.zeroCells (Value.cells (.int .i64 0)) (cp - n)) tI)) = w1 at HO HB HR
    go_enter Try.func148, Try.ntmps148
    go_wp2_with (at_builtin; refine Go.Lib.wpList_append_run w rfl _ _ _ _ (by rfl) _ _ (by rfl) (by rfl) _ _ HR.out ?_)
    go_ret
    exact ⟨_, rfl, HO.out, HB.out⟩

theorem flat_take {xss : List (List Int)} {k : Nat} {zs : List Int} (h : xss[k]? = some zs) : (xss.take (k + 1)).flatten = (xss.take k).flatten ++ zs := by
  rw [List.take_add_one, h]; simp
theorem flat_take_le (xss : List (List Int)) (k : Nat) : (xss.take k).flatten.length ≤ xss.flatten.length := by
  conv => rhs; rw [← List.take_append_drop k xss]
  rw [List.flatten_append, List.length_append]; omega
theorem ints_oneCell' (zs : List Int) : ∀ u ∈ ints zs, u.oneCell' = true := by
  intro u hu
  obtain ⟨_, _, rfl⟩ := List.mem_map.1 hu
  rfl
theorem ints_append (a b : List Int) : ints (a ++ b) = ints a ++ ints b := by simp [ints]

set_option maxHeartbeats 1000000 in
theorem lib_ConcatI (w : World) (v : Value) (xss : List (List Int)) (ha : Rows w v xss) (hn : xss.flatten.length ≤ 4294967296) :
    Calls Try.prog 117 #[v] w fun e w' => ∃ r, e = .returned r ∧ OwnInts w' w.heap.size tI r xss.flatten ∧ Below w.heap.size w w' := by
  have HA := Lib.hid ha
  obtain ⟨A, c, rfl, h1, h2, h3⟩ := ha.open_
  have H3 := Lib.hid h3
  clear h3 ha
  have HIN := Lib.hid (show ∀ z ∈ xss.flatten, In64 z from fun z hz => by
    obtain ⟨zs, hzs, hz⟩ := List.mem_flatten.1 hz
    obtain ⟨k, hk, rfl⟩ := List.getElem_of_mem hzs
    obtain ⟨ad, u, zs, _, hz0, hu, _⟩ := H3.out k hk
    rw [List.getElem?_eq_getElem hk] at hz0
    cases hz0
    exact hu.2 z hz)
  go_enter Try.func117, Try.ntmps117
  go_wp2_with fail
  go_loop [3, 11] (fun s i => ∃ k : Nat, k ≤ xss.length ∧ i = .int .i64 k ∧ s = .int .i64 ((xss.take k).flatten.length : Nat)) (fun _ i => xss.length - (intOf i).toNat)
  case atStart => exact ⟨0, Nat.zero_le _, rfl, rfl⟩
  case round =>
    obtain ⟨k, hk, rfl, rfl⟩ := hrel
    by_cases hlt : k < xss.length
    · obtain ⟨ad, u, zs, rfl, hz, hu, hc⟩ := H3.out k hlt
      obtain ⟨A3, c3, rfl, _, _, -⟩ := hu.open_
      have hle := flat_take_le xss (k + 1)
      have hft := flat_take hz
      have e1 : (xss.take (k + 1)).flatten.length = (xss.take k).flatten.length + zs.length := by rw [hft, List.length_append]
      rw [e1] at hle
      have E1 := Lib.hid e1
      clear e1 hft hz hu
      generalize (xss.take k).flatten.length = m at hle E1 ⊢
      have hge0 : (0 : Int) ≤ (m : Int) + (zs.length : Int) := by omega
      go_wp2_with fail
      go_round
      case rel => exact ⟨k + 1, by omega, by go_num, by rw [E1.out]; go_num⟩
      case measure => simp [intOf]; omega
    · have : k = xss.length := by omega
      subst this
      rw [List.take_length]
      have HN0 := Lib.hid hn
      generalize xss.flatten.length = N at hn ⊢
      go_wp2_with fail
      refine (lib_GrowI _ N hn).mono ?_
      rintro e w1 ⟨r, rfl, hown, hb1⟩
      have HO := Lib.hid hown
      have HB := Lib.hid hb1
      clear hown hb1
      go_wp2_with fail
      go_loopw [6, 27] (fun s i wr => ∃ k : Nat, k ≤ xss.length ∧ i = .int .i64 k ∧ Own wr w.heap.size tI s (ints (xss.take k).flatten) ∧ Below w.heap.size w wr) (fun _ i _ => xss.length - (intOf i).toNat)
      case atStart => exact ⟨0, Nat.zero_le _, rfl, HO.out, HB.out⟩
      case round =>
        obtain ⟨k, hk, rfl, hown, hb⟩ := hrel
        clear HO HB
        have HO := Lib.hid hown
        have HB := Lib.hid hb
        clear hown hb
        by_cases hlt : k < xss.length
        · obtain ⟨ad, u, zs, rfl, hz, hu, hc0⟩ := H3.out k hlt
          have hc : wr.cell? (ad.add k) = some u := by
            rw [HB.out.cell (by rw [block_add]; have := World.block_lt_of_cell? w _ hc0; rwa [block_add] at this)]; exact hc0
          have HU := Lib.hid (hu.below HB.out)
          have hft := flat_take hz
          have hle := flat_take_le xss (k + 1)
          rw [hft, List.length_append] at hle
          have hn0 := HN0.out
          have hlen : (xss.take k).flatten.length + zs.length < 1099511627776 := by omega
          have HLE := Lib.hid hlen
          clear hle hn0 hlen
          have HF := Lib.hid hft
          clear hz hu hc0 hft
          go_wp2_with (at_builtin; refine wpList_appN T_int HO.out HU.out.1 (by rw [ints_len, ints_len]; exact HLE.out) HB.out.size (ints_oneCell' _) rfl (by rfl) (by rfl) (by rfl) ?_; intro v1 w2 hown1 hgr1)
          go_roundw
          case rel =>
            refine ⟨k + 1, by omega, by go_num, ?_, hgr1.below HB.out HB.out.size HO.out.ge⟩
            rw [HF.out, ints_append]
            exact hown1
          case measure => simp [intOf]; omega
        · have : k = xss.length := by omega
          subst this
          go_wp2_with fail
          go_ret
          exact ⟨_, rfl, ⟨by simpa using HO.out, HIN.out⟩, HB.out⟩
end Go.Proofs.Ytgbfifcbbfhpmaa
