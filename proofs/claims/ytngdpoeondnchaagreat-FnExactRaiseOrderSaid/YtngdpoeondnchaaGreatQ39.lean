/- The law FnExactRaiseOrder, walked over the contracts of both. (printed by lawgen3.py) | Walks of the library's Grow, Concat at lists of numbers. | Walks of the library's Repeat at a list of one number. | Roots modulo 10007 that jumps need, by the kernel's arithmetic. No program in sight. -/
import Derived.Test.YtngdpoeondnchaaGreatQ2
import Derived.WalkLawsBesides
import Derived.Deep.RegionHeld3
import Derived.Test.YtngdpoeondnchaaGreatRows
import Derived.Test.YtngdpoeondnchaaGreatQ1
import Derived.Test.YtngdpoeondnchaaGreatQ3
import Derived.Lib.AppendZeros
import Derived.Deep.RegionLaw
import Derived.Laws.CopyOwn
set_option linter.unusedVariables false
set_option linter.unusedSimpArgs false
namespace Go.Proofs.YtngdpoeondnchaaGreat
open Go.RowKit

set_option maxRecDepth 100000 in
set_option maxHeartbeats 8000000 in
theorem law_FnExactRaiseOrder_gen (w : World) (v0 : Value) (zs0 : List Int) (ha0 : Ints w v0 zs0) (r : List Int) (c : Int) (hR : zs0.length ≤ 1048576 → r.length ≤ 1048576)
    (hS : zs0.length ≤ 1048576 → ∀ (W : World) (v0 : Value), Ints W v0 zs0 → Calls Tryz.prog 51 #[v0] W fun e w' => ∃ u, e = .returned (.tuple #[u, .int .i64 c]) ∧ OI w' W.heap.size w'.heap.size tI u r ∧ Below W.heap.size W w')
    (hI : zs0.length ≤ 1048576 → ∀ (W : World) (v0 : Value), Ints W v0 zs0 → Calls Tryz.prog 52 #[v0] W fun e w' => ∃ u, e = .returned (.tuple #[u, .int .i64 c]) ∧ OI w' W.heap.size w'.heap.size tI u r ∧ Below W.heap.size W w') :
    Calls Tryz.prog 14 #[v0] w fun e w' => e = .returned (.bool true) ∧ Below w.heap.size w w' := by
  have B := Lib.hid (Below.refl w.heap.size w)
  have HS := Lib.hid hS
  have HI := Lib.hid hI
  clear hS hI
  have HR := Lib.hid hR
  clear hR
  have HA0 := Lib.hid ha0
  obtain ⟨A0, c0, rfl, -, -, -⟩ := ha0.open_
  clear ha0
  go_enter Tryz.func14, Tryz.ntmps14
  by_cases hbig0 : (1048576 : Int) < (zs0.length : Int)
  · go_wp2_with fail
    go_ret
    exact ⟨rfl, Below.refl _ _⟩
  have hsm0 : zs0.length ≤ 1048576 := by omega
  go_wp2_with fail
  have HS := Lib.hid (HS.out hsm0)
  have HI := Lib.hid (HI.out hsm0)
  have HR := Lib.hid (HR.out hsm0)
  refine (n_to_ints _ _ zs0 (HA0.out.below B.out) (by omega)).mono ?_
  rintro e w1 ⟨xT0, rfl, hT0, b2⟩
  have Z3 := Lib.hid (b2.size)
  have NB := Lib.hid (B.out.trans (b2.mono B.out.size))
  clear B
  have B := NB
  clear NB
  clear b2
  have T0 := Lib.hid hT0
  clear hT0
  go_wp2_with fail
  refine (HS.out _ _ T0.out.ints).mono ?_
  rintro e w4 ⟨xW, rfl, hW, b5⟩
  have Z6 := Lib.hid (b5.size)
  have NT0 := Lib.hid (T0.out.below b5)
  clear T0
  have T0 := NT0
  clear NT0
  have NB := Lib.hid (B.out.trans (b5.mono B.out.size))
  clear B
  have B := NB
  clear NB
  clear b5
  have W := Lib.hid hW
  clear hW
  clear T0
  go_wp2_with fail
  refine (n_to_ints _ _ zs0 (HA0.out.below B.out) (by omega)).mono ?_
  rintro e w7 ⟨xX0, rfl, hX0, b8⟩
  have Z9 := Lib.hid (b8.size)
  have NW := Lib.hid (W.out.below b8)
  clear W
  have W := NW
  clear NW
  have NB := Lib.hid (B.out.trans (b8.mono B.out.size))
  clear B
  have B := NB
  clear NB
  clear b8
  have X0 := Lib.hid hX0
  clear hX0
  go_wp2_with fail
  refine (HI.out _ _ X0.out.ints).mono ?_
  rintro e w10 ⟨xG, rfl, hG, b11⟩
  have Z12 := Lib.hid (b11.size)
  have NW := Lib.hid (W.out.below b11)
  clear W
  have W := NW
  clear NW
  have NX0 := Lib.hid (X0.out.below b11)
  clear X0
  have X0 := NX0
  clear NX0
  have NB := Lib.hid (B.out.trans (b11.mono B.out.size))
  clear B
  have B := NB
  clear NB
  clear b11
  have G := Lib.hid hG
  clear hG
  go_wp2_with fail
  refine (n_eq_ints _ _ _ r G.out.ints W.out.ints).mono ?_
  rintro e w13 ⟨rfl, b14⟩
  have Z15 := Lib.hid (b14.size)
  have NW := Lib.hid (W.out.below b14)
  clear W
  have W := NW
  clear NW
  have NX0 := Lib.hid (X0.out.below b14)
  clear X0
  have X0 := NX0
  clear NX0
  have NG := Lib.hid (G.out.below b14)
  clear G
  have G := NG
  clear NG
  have NB := Lib.hid (B.out.trans (b14.mono B.out.size))
  clear B
  have B := NB
  clear NB
  clear b14
  go_wp2_with fail
  refine (n_to_ints _ _ zs0 (HA0.out.below B.out) (by omega)).mono ?_
  rintro e w16 ⟨xY0, rfl, hY0, b17⟩
  have Z18 := Lib.hid (b17.size)
  have NW := Lib.hid (W.out.below b17)
  clear W
  have W := NW
  clear NW
  have NX0 := Lib.hid (X0.out.below b17)
  clear X0
  have X0 := NX0
  clear NX0
  have NG := Lib.hid (G.out.below b17)
  clear G
  have G := NG
  clear NG
  have NB := Lib.hid (B.out.trans (b17.mono B.out.size))
  clear B
  have B := NB
  clear NB
  clear b17
  have Y0 := Lib.hid hY0
  clear hY0
  go_wp2_with fail
  refine (n_eq_ints _ _ _ zs0 X0.out.ints Y0.out.ints).mono ?_
  rintro e w19 ⟨rfl, b20⟩
  have Z21 := Lib.hid (b20.size)
  have NW := Lib.hid (W.out.below b20)
  clear W
  have W := NW
  clear NW
  have NX0 := Lib.hid (X0.out.below b20)
  clear X0
  have X0 := NX0
  clear NX0
  have NG := Lib.hid (G.out.below b20)
  clear G
  have G := NG
  clear NG
  have NY0 := Lib.hid (Y0.out.below b20)
  clear Y0
  have Y0 := NY0
  clear NY0
  have NB := Lib.hid (B.out.trans (b20.mono B.out.size))
  clear B
  have B := NB
  clear NB
  clear b20
  clear Y0
  go_wp2_with fail
  refine (n_mark_ints _ _ _ _ zs0 (1) X0.out (by omega) (by omega) (by omega)).mono ?_
  rintro e w22 ⟨rfl, -, chw22⟩
  have Z23 := Lib.hid (chw22.size)
  have NW := Lib.hid (W.out.kept chw22 (by have y0 := Z3.out; have y1 := Z6.out; have y2 := Z9.out; have y3 := Z12.out; have y4 := Z15.out; have y5 := Z18.out; have y6 := Z21.out; have y7 := Z23.out; omega))
  clear W
  have W := NW
  clear NW
  have NG := Lib.hid (G.out.kept chw22 (by have y0 := Z3.out; have y1 := Z6.out; have y2 := Z9.out; have y3 := Z12.out; have y4 := Z15.out; have y5 := Z18.out; have y6 := Z21.out; have y7 := Z23.out; omega))
  clear G
  have G := NG
  clear NG
  clear X0
  have NB := Lib.hid (chw22.below B.out (by have y0 := Z3.out; have y1 := Z6.out; have y2 := Z9.out; have y3 := Z12.out; have y4 := Z15.out; have y5 := Z18.out; have y6 := Z21.out; have y7 := Z23.out; omega) B.out.size)
  clear B
  have B := NB
  clear NB
  clear chw22
  have hk0 : (0 : Int) ≤ 1 + (zs0.length : Int) := by omega
  go_wp2_with fail
  clear hk0
  refine (n_eq_ints _ _ _ r G.out.ints W.out.ints).mono ?_
  rintro e w24 ⟨rfl, b25⟩
  have Z26 := Lib.hid (b25.size)
  have NW := Lib.hid (W.out.below b25)
  clear W
  have W := NW
  clear NW
  have NG := Lib.hid (G.out.below b25)
  clear G
  have G := NG
  clear NG
  have NB := Lib.hid (B.out.trans (b25.mono B.out.size))
  clear B
  have B := NB
  clear NB
  clear b25
  go_wp2_with fail
  have hr0 : (0 : Int) ≤ 1 + ((r.length : Nat) : Int) := by omega
  refine (n_mark_ints _ _ _ _ r 1 G.out (by have y := HR.out; omega) (by omega) (by omega)).mono ?_
  rintro e w27 ⟨rfl, hw27, chw27⟩
  have Z28 := Lib.hid (chw27.size)
  have NW := Lib.hid (W.out.kept chw27 (by have y0 := Z3.out; have y1 := Z6.out; have y2 := Z9.out; have y3 := Z12.out; have y4 := Z15.out; have y5 := Z18.out; have y6 := Z21.out; have y7 := Z23.out; have y8 := Z26.out; have y9 := Z28.out; omega))
  clear W
  have W := NW
  clear NW
  have NG := Lib.hid (hw27)
  clear G
  have G := NG
  clear NG
  have NB := Lib.hid (chw27.below B.out (by have y0 := Z3.out; have y1 := Z6.out; have y2 := Z9.out; have y3 := Z12.out; have y4 := Z15.out; have y5 := Z18.out; have y6 := Z21.out; have y7 := Z23.out; have y8 := Z26.out; have y9 := Z28.out; omega) B.out.size)
  clear B
  have B := NB
  clear NB
  clear hw27 chw27
  go_wp2_with fail
  refine (n_held_ints _ _ r.length G.out.ints (by have y := HR.out; omega)).mono ?_
  rintro e w29 ⟨rfl, b30⟩
  have Z31 := Lib.hid (b30.size)
  have NW := Lib.hid (W.out.below b30)
  clear W
  have W := NW
  clear NW
  have NG := Lib.hid (G.out.below b30)
  clear G
  have G := NG
  clear NG
  have NB := Lib.hid (B.out.trans (b30.mono B.out.size))
  clear B
  have B := NB
  clear NB
  clear b30
  go_wp2_with fail
  refine (n_to_ints _ _ zs0 (HA0.out.below B.out) (by omega)).mono ?_
  rintro e w32 ⟨xV0, rfl, hV0, b33⟩
  have Z34 := Lib.hid (b33.size)
  have NW := Lib.hid (W.out.below b33)
  clear W
  have W := NW
  clear NW
  have NG := Lib.hid (G.out.below b33)
  clear G
  have G := NG
  clear NG
  have NB := Lib.hid (B.out.trans (b33.mono B.out.size))
  clear B
  have B := NB
  clear NB
  clear b33
  have V0 := Lib.hid hV0
  clear hV0
  go_wp2_with fail
  refine (HI.out _ _ V0.out.ints).mono ?_
  rintro e w35 ⟨xH, rfl, hH, b36⟩
  have Z37 := Lib.hid (b36.size)
  have NW := Lib.hid (W.out.below b36)
  clear W
  have W := NW
  clear NW
  have NG := Lib.hid (G.out.below b36)
  clear G
  have G := NG
  clear NG
  have NV0 := Lib.hid (V0.out.below b36)
  clear V0
  have V0 := NV0
  clear NV0
  have NB := Lib.hid (B.out.trans (b36.mono B.out.size))
  clear B
  have B := NB
  clear NB
  clear b36
  have H := Lib.hid hH
  clear hH
  clear V0
  go_wp2_with fail
  refine (n_eq_ints _ _ _ r H.out.ints W.out.ints).mono ?_
  rintro e w38 ⟨rfl, b39⟩
  have Z40 := Lib.hid (b39.size)
  have NW := Lib.hid (W.out.below b39)
  clear W
  have W := NW
  clear NW
  have NG := Lib.hid (G.out.below b39)
  clear G
  have G := NG
  clear NG
  have NH := Lib.hid (H.out.below b39)
  clear H
  have H := NH
  clear NH
  have NB := Lib.hid (B.out.trans (b39.mono B.out.size))
  clear B
  have B := NB
  clear NB
  clear b39
  go_wp2_with fail
  refine (n_held_ints _ _ r.length G.out.ints (by have y := HR.out; omega)).mono ?_
  rintro e w41 ⟨rfl, b42⟩
  have Z43 := Lib.hid (b42.size)
  have NW := Lib.hid (W.out.below b42)
  clear W
  have W := NW
  clear NW
  have NG := Lib.hid (G.out.below b42)
  clear G
  have G := NG
  clear NG
  have NH := Lib.hid (H.out.below b42)
  clear H
  have H := NH
  clear NH
  have NB := Lib.hid (B.out.trans (b42.mono B.out.size))
  clear B
  have B := NB
  clear NB
  clear b42
  go_wp2_with fail
  go_ret
  exact ⟨rfl, B.out⟩
end Go.Proofs.YtngdpoeondnchaaGreat

set_option maxRecDepth 100000
set_option linter.unusedVariables false
set_option linter.unusedSimpArgs false
namespace Go.Proofs.YtngdpoeondnchaaGreat
open Go.RowKit

set_option maxHeartbeats 1000000 in
theorem lib_GrowI (w : World) (n : Nat) (hn : n ≤ 4294967296) :
    Calls Tryz.prog 164 #[.slice none 0 0, .int .i64 (n : Int)] w fun e w' => ∃ r, e = .returned r ∧ Own w' w.heap.size tI r [] ∧ Below w.heap.size w w' := by
  by_cases h0 : n = 0
  · subst h0
    go_enter Tryz.func164, Tryz.ntmps164
    go_wp2
    go_ret
    exact ⟨_, rfl, Own.nil _ _ _, Below.refl _ _⟩
  · obtain ⟨i, hi, hz, h1, h2⟩ := info_parts T_int.info
    have hp : (0 : Int) < (n : Int) := by omega
    have hr := Go.Lib.run_append_nil_zeros (P := Tryz.prog) w 27 3 27 tI i (.int .i64 0) .i64 .i64 T_int.under Tryz.underlying3 hi hz n (by omega) (by rw [h1]; omega) (by omega) (by rw [h2]; omega)
    have hge := grownCap_ge w n 0 tI
    have hcm := grownCap_le_maxLen w n 0 tI (by simp only [maxLen]; omega)
    have hO : Own (w.drew.alloc (.cells (Builtin.zeroCells (Value.cells (.int .i64 0)) n ++ Builtin.zeroCells (Value.cells (.int .i64 0)) (grownCap w n 0 tI - n)) tI)) w.heap.size tI (.slice (some ⟨w.heap.size, 0, none⟩) 0 (grownCap w n 0 tI)) [] :=
      World.ownsRow_made (w := w.drew) (base := w.heap.size) (e := tI) (size := 1) _ (grownCap w n 0 tI) (Nat.le_refl _) hcm (by simp [size_zeroCells, Value.cells]; omega)
    have HO := Lib.hid hO
    have HB := Lib.hid ((Below.refl w.heap.size w).drew.alloc (Nat.le_refl _) (.cells (Builtin.zeroCells (Value.cells (.int .i64 0)) n ++ Builtin.zeroCells (Value.cells (.int .i64 0)) (grownCap w n 0 tI - n)) tI))
    have HR := Lib.hid hr
    have hcm' : grownCap w n 0 tI ≤ 9223372036854775807 := by simpa [maxLen] using hcm
    clear hO hr hcm
    generalize grownCap w n 0 tI = cp at hge hcm' HO HB HR
    generalize (w.drew.alloc (.cells (Builtin.zeroCells (Value.cells (.int .i64 0)) n ++ Builtin.zeroCells (Value.cells (.int .i64 0)) (cp - n)) tI)) = w1 at HO HB HR
    go_enter Tryz.func164, Tryz.ntmps164
    go_wp2_with (at_builtin; refine Go.Lib.wpList_append_run w rfl _ _ _ _ (by rfl) _ _ (by rfl) (by rfl) _ _ HR.out ?_)
    go_ret
    exact ⟨_, rfl, HO.out, HB.out⟩

theorem flat_take {xss : List (List Int)} {k : Nat} {zs : List Int} (h : xss[k]? = some zs) : (xss.take (k + 1)).flatten = (xss.take k).flatten ++ zs := by
  rw [List.take_add_one, h]; simp
theorem flat_take_le (xss : List (List Int)) (k : Nat) : (xss.take k).flatten.length ≤ xss.flatten.length := by
  conv => rhs; rw [← List.take_append_drop k xss]
  rw [List.flatten_append, List.length_append]; omega
theorem ints_oneCell' (zs : List Int) : ∀ u ∈ ints zs, u.oneCell' = true := by
  intro u hu
  obtain ⟨_, _, rfl⟩ := List.mem_map.1 hu
  rfl
theorem ints_append (a b : List Int) : ints (a ++ b) = ints a ++ ints b := by simp [ints]

set_option maxHeartbeats 1000000 in
theorem lib_ConcatI (w : World) (v : Value) (xss : List (List Int)) (ha : Rows w v xss) (hn : xss.flatten.length ≤ 4294967296) :
    Calls Tryz.prog 138 #[v] w fun e w' => ∃ r, e = .returned r ∧ OwnInts w' w.heap.size tI r xss.flatten ∧ Below w.heap.size w w' := by
  have HA := Lib.hid ha
  obtain ⟨A, c, rfl, h1, h2, h3⟩ := ha.open_
  have H3 := Lib.hid h3
  clear h3 ha
  have HIN := Lib.hid (show ∀ z ∈ xss.flatten, In64 z from fun z hz => by
    obtain ⟨zs, hzs, hz⟩ := List.mem_flatten.1 hz
    obtain ⟨k, hk, rfl⟩ := List.getElem_of_mem hzs
    obtain ⟨ad, u, zs, _, hz0, hu, _⟩ := H3.out k hk
    rw [List.getElem?_eq_getElem hk] at hz0
    cases hz0
    exact hu.2 z hz)
  go_enter Tryz.func138, Tryz.ntmps138
  go_wp2_with fail
  go_loop [3, 11] (fun s i => ∃ k : Nat, k ≤ xss.length ∧ i = .int .i64 k ∧ s = .int .i64 ((xss.take k).flatten.length : Nat)) (fun _ i => xss.length - (intOf i).toNat)
  case atStart => exact ⟨0, Nat.zero_le _, rfl, rfl⟩
  case round =>
    obtain ⟨k, hk, rfl, rfl⟩ := hrel
    by_cases hlt : k < xss.length
    · obtain ⟨ad, u, zs, rfl, hz, hu, hc⟩ := H3.out k hlt
      obtain ⟨A3, c3, rfl, _, _, -⟩ := hu.open_
      have hle := flat_take_le xss (k + 1)
      have hft := flat_take hz
      have e1 : (xss.take (k + 1)).flatten.length = (xss.take k).flatten.length + zs.length := by rw [hft, List.length_append]
      rw [e1] at hle
      have E1 := Lib.hid e1
      clear e1 hft hz hu
      generalize (xss.take k).flatten.length = m at hle E1 ⊢
      have hge0 : (0 : Int) ≤ (m : Int) + (zs.length : Int) := by omega
      go_wp2_with fail
      go_round
      case rel => exact ⟨k + 1, by omega, by go_num, by rw [E1.out]; go_num⟩
      case measure => simp [intOf]; omega
    · have : k = xss.length := by omega
      subst this
      rw [List.take_length]
      have HN0 := Lib.hid hn
      generalize xss.flatten.length = N at hn ⊢
      go_wp2_with fail
      refine (lib_GrowI _ N hn).mono ?_
      rintro e w1 ⟨r, rfl, hown, hb1⟩
      have HO := Lib.hid hown
      have HB := Lib.hid hb1
      clear hown hb1
      go_wp2_with fail
      go_loopw [6, 27] (fun s i wr => ∃ k : Nat, k ≤ xss.length ∧ i = .int .i64 k ∧ Own wr w.heap.size tI s (ints (xss.take k).flatten) ∧ Below w.heap.size w wr) (fun _ i _ => xss.length - (intOf i).toNat)
      case atStart => exact ⟨0, Nat.zero_le _, rfl, HO.out, HB.out⟩
      case round =>
        obtain ⟨k, hk, rfl, hown, hb⟩ := hrel
        clear HO HB
        have HO := Lib.hid hown
        have HB := Lib.hid hb
        clear hown hb
        by_cases hlt : k < xss.length
        · obtain ⟨ad, u, zs, rfl, hz, hu, hc0⟩ := H3.out k hlt
          have hc : wr.cell? (ad.add k) = some u := by
            rw [HB.out.cell (by rw [block_add]; have := World.block_lt_of_cell? w _ hc0; rwa [block_add] at this)]; exact hc0
          have HU := Lib.hid (hu.below HB.out)
          have hft := flat_take hz
          have hle := flat_take_le xss (k + 1)
          rw [hft, List.length_append] at hle
          have hn0 := HN0.out
          have hlen : (xss.take k).flatten.length + zs.length < 1099511627776 := by omega
          have HLE := Lib.hid hlen
          clear hle hn0 hlen
          have HF := Lib.hid hft
          clear hz hu hc0 hft
          go_wp2_with (at_builtin; refine wpList_appN T_int HO.out HU.out.1 (by rw [ints_len, ints_len]; exact HLE.out) HB.out.size (ints_oneCell' _) rfl (by rfl) (by rfl) (by rfl) ?_; intro v1 w2 hown1 hgr1)
          go_roundw
          case rel =>
            refine ⟨k + 1, by omega, by go_num, ?_, hgr1.below HB.out HB.out.size HO.out.ge⟩
            rw [HF.out, ints_append]
            exact hown1
          case measure => simp [intOf]; omega
        · have : k = xss.length := by omega
          subst this
          go_wp2_with fail
          go_ret
          exact ⟨_, rfl, ⟨by simpa using HO.out, HIN.out⟩, HB.out⟩
end Go.Proofs.YtngdpoeondnchaaGreat

set_option maxRecDepth 100000
set_option linter.unusedVariables false
set_option linter.unusedSimpArgs false
namespace Go.Proofs.YtngdpoeondnchaaGreat
open Go.RowKit

theorem Own.whole {w : World} {B : Nat} {e : TypeId} {g n : Nat} {vs : List Value} (h : Own w B e (.slice (some ⟨g, 0, none⟩) n n) vs) (hl : vs.length = n) : w.heap[g]? = some (.cells vs.toArray e (0, 0)) := by
  rcases h.cases with ⟨h, _⟩ | ⟨g', cap, cur, hv, _, _, hg, hc, _, hs, ht⟩
  · cases h
  · simp only [Value.slice.injEq, Option.some.injEq, Addr.mk.injEq, and_true, true_and] at hv
    obtain ⟨rfl, rfl, rfl⟩ := hv
    rw [hg]
    have : cur.toList = vs := by rw [← ht, hl, List.take_of_length_le (by rw [Array.length_toList, hs]; exact Nat.le_refl _)]
    rw [← this]
theorem Own.of_whole {w : World} {B : Nat} {e : TypeId} {g n : Nat} {vs : List Value} (h : w.heap[g]? = some (.cells vs.toArray e (0, 0))) (hl : vs.length = n) (hB : B ≤ g) (hn : n ≤ maxLen) : Own w B e (.slice (some ⟨g, 0, none⟩) n n) vs := by
  subst hl
  exact ⟨by simp, .inr ⟨g, _, _, rfl, hB, h, Nat.le_refl _, hn, by simp, by simp⟩⟩

set_option maxHeartbeats 1000000 in
theorem lib_Mul1 (w : World) (n : Nat) (h1 : 1 ≤ n) (h8 : n ≤ 8) :
    Calls Tryz.prog 163 #[.int .u64 1, .int .u64 (n : Int)] w fun e w' => e = .returned (.tuple #[.int .u64 0, .int .u64 (n : Int)]) ∧ w = w' := by
  have : n = 1 ∨ n = 2 ∨ n = 3 ∨ n = 4 ∨ n = 5 ∨ n = 6 ∨ n = 7 ∨ n = 8 := by omega
  rcases this with rfl | rfl | rfl | rfl | rfl | rfl | rfl | rfl
  all_goals
    go_enter Tryz.func163, Tryz.ntmps163
    go_wp2
    go_ret2
    exact ⟨rfl, rfl⟩

/-- m times g, then zeros up to n -/
def fillG (g : Int) (m n : Nat) : List Value := List.replicate m (Value.int .i64 g) ++ List.replicate (n - m) (Value.int .i64 0)
theorem fillG_len {g : Int} {m n : Nat} (h : m ≤ n) : (fillG g m n).length = n := by simp [fillG]; omega
theorem fillG_splice {g : Int} {m n c : Nat} (h : m + c ≤ n) : splice (fillG g m n) m (List.replicate c (Value.int .i64 g)) = fillG g (m + c) n := by
  unfold splice fillG
  rw [List.take_left' (by simp), List.length_replicate, List.drop_append]
  simp only [List.length_replicate, List.drop_replicate]
  rw [show m - (m + c) = 0 by omega, show m + c - m = c by omega, show n - m - c = n - (m + c) by omega]
  simp only [List.replicate_zero, List.nil_append]
  rw [← List.append_assoc, List.replicate_append_replicate]
theorem fillG_get {g : Int} {m n j : Nat} (h : j < m) : (fillG g m n)[j]? = some (Value.int .i64 g) := by
  unfold fillG
  rw [List.getElem?_append_left (by simpa using h)]
  simp [h]

theorem size_int : (Tryz.prog.info? tI).map (·.size) = some 1 := by kernel_rfl

theorem copy_src {w w1 : World} {ad : Addr} {g : Int} (hb : Below w.heap.size w w1) (hc : w.cell? (ad.add 0) = some (.int .i64 g)) : ∀ (j : Nat) (u : Value), [Value.int .i64 g][j]? = some u → w1.cell? (ad.add j) = some u := by
  intro j u hj
  cases j with
  | zero =>
    simp at hj; subst hj
    rw [hb.cell (World.block_lt_of_cell? w _ hc)]; exact hc
  | succ j => simp at hj

set_option maxHeartbeats 1000000 in
theorem lib_Repeat1 (w : World) (v : Value) (g : Int) (n : Nat) (ha : Ints w v [g]) (h1 : 1 ≤ n) (h8 : n ≤ 8) :
    Calls Tryz.prog 137 #[v, .int .i64 (n : Int)] w fun e w' => ∃ r, e = .returned r ∧ OwnInts w' w.heap.size tI r (List.replicate n g) ∧ Below w.heap.size w w' := by
  have HA := Lib.hid ha
  obtain ⟨A, c, rfl, l1, l2, l3⟩ := ha.open_
  obtain ⟨ad, z, rfl, hz, hz2, hc⟩ := l3 0 (by simp)
  obtain rfl : g = z := by simpa using hz
  have HC0 := Lib.hid hc
  clear l3 ha hz hc
  have H64 := Lib.hid hz2
  clear hz2
  go_enter Tryz.func137, Tryz.ntmps137
  go_wp2_with fail
  refine (lib_Mul1 _ n h1 h8).mono ?_
  rintro e w' ⟨rfl, rfl⟩
  go_wp2_with (first | (at_make; refine wpList_mk rfl _ _ _ rfl _ _ _ T_int n _ (by rfl) (by rfl) (by rfl) (by omega) _ ?_; intro w1 hown hb hs1; have HOWN := Lib.hid hown; have HB1 := Lib.hid hb; clear hown hb) | (refine wpList_copy_splice rfl (.tmp 31) (.tmp 32) _ _ (by rfl) tI T_int.under size_int (some ⟨w.heap.size, 0, none⟩) (some ad) n n 1 c (by rfl) (by rfl) w.heap.size 0 (fillG g 0 n) tI (by simpa [fillG] using HOWN.out.whole (by simp)) [.int .i64 g] (Nat.min_eq_left h1).symm (fun _ => ⟨rfl, ad, rfl, copy_src HB1.out HC0.out⟩) (by rw [fillG_len (by omega)]; simp; omega) (by simp [Value.oneCell']) w.heap.size w HB1.out (Nat.le_refl _) ?_; intro w2 hg2 hb2; have HB2 := Lib.hid hb2; clear hb2))
  have hg3 : Hid (w2.heap[w.heap.size]? = some (.cells (fillG g 1 n).toArray tI (0, 0))) := by
    have e : splice (fillG g 0 n) 0 [Value.int .i64 g] = fillG g 1 n := by simpa using fillG_splice (g := g) (m := 0) (c := 1) (n := n) (by omega)
    have := hg2.out
    rw [e] at this
    exact this
  clear hg2 HB1 HOWN
  go_loopw [8] (fun i wr => ∃ m : Nat, 1 ≤ m ∧ m ≤ n ∧ i = .int .i64 m ∧ Hid (wr.heap[w.heap.size]? = some (.cells (fillG g m n).toArray tI (0, 0))) ∧ Below w.heap.size w wr) (fun i _ => n - (intOf i).toNat)
  case atStart => exact ⟨1, Nat.le_refl _, h1, rfl, hg3, HB2.out⟩
  case round =>
    obtain ⟨m, hm1, hmn, rfl, hgm, hb⟩ := hrel
    clear hg3 HB2
    have HB := Lib.hid hb
    clear hb
    by_cases hlt : m < n
    · have hlt' : (m : Int) < (n : Int) := by omega
      have hne : ¬ n = m := by omega
      have hm0 : (0 : Int) ≤ (m : Int) := by omega
      have hmle : (m : Int) ≤ (n : Int) := by omega
      have hcm : m + Nat.min m (n - m) ≤ n := by
        have : Nat.min m (n - m) ≤ n - m := Nat.min_le_right _ _
        omega
      have hc1 : 1 ≤ Nat.min m (n - m) := Nat.le_min.2 ⟨hm1, by omega⟩
      have HSP := Lib.hid (fillG_splice (g := g) hcm)
      have HSRC := Lib.hid (show ∀ (j : Nat) (u : Value), (List.replicate (Nat.min m (n - m)) (Value.int .i64 g))[j]? = some u → wr.cell? ((⟨w.heap.size, 0, none⟩ : Addr).add j) = some u from fun j u hj => by
        have hj1 := (List.getElem?_eq_some_iff.1 hj).1
        simp only [List.length_replicate] at hj1
        have hjm : j < m := by have : Nat.min m (n - m) ≤ m := Nat.min_le_left _ _; omega
        have hju : u = .int .i64 g := by
          obtain ⟨_, e⟩ := List.getElem?_eq_some_iff.1 hj
          simp at e
          exact e.symm
        subst hju
        rw [Addr.add_lit, Nat.zero_add, cell_of_row wr _ j _ tI (0, 0) hgm.out]
        simpa using fillG_get hjm)
      generalize hcc : Nat.min m (n - m) = cc at hcm hc1 HSP HSRC
      have HCC := Lib.hid hcc
      clear hcc
      have wcc : IntKind.i64.wrap ((m : Int) + (cc : Int)) = (m : Int) + (cc : Int) := IntWalk.i64_in _ (by omega)
      go_wp2_with fail
      go_region_held3 (fun _ => True) (exact trivial) ((refine step_copy_splice rfl (.tmp 41) (.tmp 44) 27 27 (by rfl) tI T_int.under size_int (some ⟨w.heap.size, m, none⟩) (some ⟨w.heap.size, 0, none⟩) (n - m) (n - m) m n (by rfl) (by rfl) w.heap.size m (fillG g m n) tI hgm.out (List.replicate cc (.int .i64 g)) (by rw [List.length_replicate]; exact HCC.out.symm) (fun _ => ⟨rfl, _, rfl, HSRC.out⟩) (by rw [List.length_replicate, fillG_len hmn]; exact hcm) (by intro v hv; obtain ⟨_, rfl⟩ := List.mem_replicate.1 hv; rfl) w.heap.size w HB.out.drew (Nat.le_refl _) ?_; intro w4 hg4 hb4))
      have HG4 : Hid (w4.heap[w.heap.size]? = some (.cells (fillG g (m + cc) n).toArray tI (0, 0))) := by
        have := hg4.out
        rw [HSP.out] at this
        exact this
      have HB4 := Lib.hid hb4
      clear hg4 hb4
      go_wp2_with fail
      go_roundw
      case rel => exact ⟨m + cc, by omega, hcm, by go_num, HG4, HB4.out⟩
      case measure => simp [intOf]; omega
    · have : m = n := by omega
      subst this
      go_wp2_with fail
      go_ret
      have e : fillG g m m = ints (List.replicate m g) := by simp [fillG, ints]
      have hh := hgm.out
      rw [e] at hh
      refine ⟨_, rfl, ⟨Own.of_whole hh (by simp [ints]) (Nat.le_refl _) (by simp only [maxLen]; omega), fun z hz => ?_⟩, HB.out⟩
      obtain ⟨_, rfl⟩ := List.mem_replicate.1 hz
      exact H64.out
end Go.Proofs.YtngdpoeondnchaaGreat

set_option linter.unusedVariables false
namespace Go.Proofs.YtngdpoeondnchaaGreat

/-- the exponent that undoes the third or fifth power -/
def rootE (k : Int) : Nat := if k = 3 then 6671 else 8005

/-- no number below R has the power, R has it -/
def rootTest (a : Nat) (k R : Nat) : Bool := (List.range R).all (fun b => decide (b ^ k % 10007 ≠ a)) && decide (R ^ k % 10007 = a) && decide (R < 10007)
theorem pw_natJ (a k : Nat) : pw (a : Int) k = ((a ^ k % 10007 : Nat) : Int) := by
  unfold pw
  rw [Int.natCast_emod, Int.natCast_pow]
  rfl

theorem rootTest_spec {a k R : Nat} (h : rootTest a k R = true) : (∀ b : Nat, b < R → pw (b : Int) k ≠ (a : Int)) ∧ pw (R : Int) k = (a : Int) ∧ R < 10007 := by
  simp only [rootTest, Bool.and_eq_true, List.all_eq_true, List.mem_range, decide_eq_true_eq] at h
  refine ⟨fun b hb => ?_, ?_, h.2⟩
  · have := h.1.1 b hb
    rw [pw_natJ]
    omega
  · have := h.1.2
    rw [pw_natJ]
    omega

/-- powers by squaring, on natural numbers -/
def powm : Nat → Nat → Nat → Nat
  | 0, _, _ => 1
  | f + 1, a, k => if k = 0 then 1 else if k % 2 = 1 then a * powm f (a * a % 10007) (k / 2) % 10007 else powm f (a * a % 10007) (k / 2)
theorem mod_pow (x n : Nat) : (x % 10007) ^ n % 10007 = x ^ n % 10007 := by rw [Nat.pow_mod, Nat.mod_mod, ← Nat.pow_mod]
theorem powm_eq : ∀ (f a k : Nat), k < 2 ^ f → powm f a k % 10007 = a ^ k % 10007
  | 0, a, k, h => by
    have : k = 0 := by simpa using h
    subst this; rfl
  | f + 1, a, k, h => by
    unfold powm
    by_cases h0 : k = 0
    · subst h0; rfl
    · rw [if_neg h0]
      have hk : k / 2 < 2 ^ f := by rw [Nat.pow_succ] at h; omega
      have ih := powm_eq f (a * a % 10007) (k / 2) hk
      rw [mod_pow] at ih
      have e2 : (a * a) ^ (k / 2) = a ^ (2 * (k / 2)) := by rw [Nat.pow_mul, Nat.pow_two]
      rw [e2] at ih
      by_cases h1 : k % 2 = 1
      · rw [if_pos h1, Nat.mod_mod, Nat.mul_mod, ih, ← Nat.mul_mod]
        congr 1
        rw [Nat.mul_comm, ← Nat.pow_succ]
        congr 1
        omega
      · rw [if_neg h1, ih]
        congr 2
        omega
theorem pw_powm {a k : Nat} {r : Nat} (h : powm 14 a k = r) (hk : k < 16384) (hr : r < 10007) : pw (a : Int) k = (r : Int) := by
  rw [pw_natJ, ← powm_eq 14 a k hk, h, Nat.mod_eq_of_lt hr]

def r23 : Nat := powm 14 2 6671
def r25 : Nat := powm 14 2 8005
def r43 : Nat := powm 14 4 6671
def r45 : Nat := powm 14 4 8005
theorem t23 : rootTest 2 3 r23 = true := by decide +kernel
theorem t25 : rootTest 2 5 r25 = true := by decide +kernel
theorem t43 : rootTest 4 3 r43 = true := by decide +kernel
theorem t45 : rootTest 4 5 r45 = true := by decide +kernel

/-- the root of many, for a jump of a order -/
def rootR (many p : Int) : Nat := if many = 2 then (if p = 2 then r23 else r25) else (if p = 2 then r43 else r45)
theorem rootR_spec {many p : Int} (hm : many = 2 ∨ many = 4) (hp : p = 2 ∨ p = 4) :
    (∀ b : Nat, b < rootR many p → pw (b : Int) (p + 1).toNat ≠ many) ∧ pw (rootR many p : Int) (p + 1).toNat = many ∧ rootR many p < 10007 ∧ pw many (rootE (p + 1)) = (rootR many p : Int) := by
  rcases hm with rfl | rfl <;> rcases hp with rfl | rfl
  · have := rootTest_spec t23
    exact ⟨this.1, this.2.1, this.2.2, pw_powm (a := 2) (k := 6671) rfl (by omega) this.2.2⟩
  · have := rootTest_spec t25
    exact ⟨this.1, this.2.1, this.2.2, pw_powm (a := 2) (k := 8005) rfl (by omega) this.2.2⟩
  · have := rootTest_spec t43
    exact ⟨this.1, this.2.1, this.2.2, pw_powm (a := 4) (k := 6671) rfl (by omega) this.2.2⟩
  · have := rootTest_spec t45
    exact ⟨this.1, this.2.1, this.2.2, pw_powm (a := 4) (k := 8005) rfl (by omega) this.2.2⟩

/-- the size of the outer steps -/
def jumpG (p : Int) (side : Nat) : Int := pw ((2 * (side : Int) - (rootR (2 * side) p : Int)) % 10007) 10005
def jumpL (p : Int) (side : Nat) : List Int := List.replicate side (jumpG p side) ++ (1 - 2 * (side : Int) * jumpG p side) % 10007 :: List.replicate side (jumpG p side)
def jumpOk (p : Int) : Bool := decide (p = 2) || decide (p = 4)
def jumpF (p : Int) (side : Nat) : List Int := if jumpOk p then jumpL p side else []
def jumpC (p : Int) : Int := if jumpOk p then 0 else 2
end Go.Proofs.YtngdpoeondnchaaGreat

