/- The law FnExactModifiedMap, walked over the contracts of both. (printed by lawgen3.py) | Walks: modifiedMap, ModifiedMap, ModifyingMap of the program and of the reference. | The law FnExactModifiedMap. -/
import Derived.Test.YtheldcjiogpbjaaGreatG2
import Derived.WalkLawsBesides
import Derived.Deep.RegionHeld3
import Derived.Test.YtheldcjiogpbjaaGreatG31
set_option linter.unusedVariables false
set_option linter.unusedSimpArgs false
namespace Go.Proofs.YtheldcjiogpbjaaGreat
open Go.RowKit

set_option maxRecDepth 100000 in
set_option maxHeartbeats 8000000 in
theorem law_FnExactModifiedMap_gen (w : World) (v0 : Value) (zs0 : List Int) (ha0 : Ints w v0 zs0) (r : List Int) (c : Int) (hR : zs0.length ≤ 1048576 → r.length ≤ 1048576)
    (hS : zs0.length ≤ 1048576 → ∀ (W : World) (v0 : Value), Ints W v0 zs0 → Calls Tryz.prog 33 #[v0] W fun e w' => ∃ u, e = .returned (.tuple #[u, .int .i64 c]) ∧ OI w' W.heap.size w'.heap.size tI u r ∧ Below W.heap.size W w')
    (hI : zs0.length ≤ 1048576 → ∀ (W : World) (v0 : Value), Ints W v0 zs0 → Calls Tryz.prog 34 #[v0] W fun e w' => ∃ u, e = .returned (.tuple #[u, .int .i64 c]) ∧ OI w' W.heap.size w'.heap.size tI u r ∧ Below W.heap.size W w') :
    Calls Tryz.prog 10 #[v0] w fun e w' => e = .returned (.bool true) ∧ Below w.heap.size w w' := by
  have B := Lib.hid (Below.refl w.heap.size w)
  have HS := Lib.hid hS
  have HI := Lib.hid hI
  clear hS hI
  have HR := Lib.hid hR
  clear hR
  have HA0 := Lib.hid ha0
  obtain ⟨A0, c0, rfl, -, -, -⟩ := ha0.open_
  clear ha0
  go_enter Tryz.func10, Tryz.ntmps10
  by_cases hbig0 : (1048576 : Int) < (zs0.length : Int)
  · go_wp2_with fail
    go_ret
    exact ⟨rfl, Below.refl _ _⟩
  have hsm0 : zs0.length ≤ 1048576 := by omega
  go_wp2_with fail
  have HS := Lib.hid (HS.out hsm0)
  have HI := Lib.hid (HI.out hsm0)
  have HR := Lib.hid (HR.out hsm0)
  refine (n_to_ints _ _ zs0 (HA0.out.below B.out) (by omega)).mono ?_
  rintro e w1 ⟨xT0, rfl, hT0, b2⟩
  have Z3 := Lib.hid (b2.size)
  have NB := Lib.hid (B.out.trans (b2.mono B.out.size))
  clear B
  have B := NB
  clear NB
  clear b2
  have T0 := Lib.hid hT0
  clear hT0
  go_wp2_with fail
  refine (HS.out _ _ T0.out.ints).mono ?_
  rintro e w4 ⟨xW, rfl, hW, b5⟩
  have Z6 := Lib.hid (b5.size)
  have NT0 := Lib.hid (T0.out.below b5)
  clear T0
  have T0 := NT0
  clear NT0
  have NB := Lib.hid (B.out.trans (b5.mono B.out.size))
  clear B
  have B := NB
  clear NB
  clear b5
  have W := Lib.hid hW
  clear hW
  clear T0
  go_wp2_with fail
  refine (n_to_ints _ _ zs0 (HA0.out.below B.out) (by omega)).mono ?_
  rintro e w7 ⟨xX0, rfl, hX0, b8⟩
  have Z9 := Lib.hid (b8.size)
  have NW := Lib.hid (W.out.below b8)
  clear W
  have W := NW
  clear NW
  have NB := Lib.hid (B.out.trans (b8.mono B.out.size))
  clear B
  have B := NB
  clear NB
  clear b8
  have X0 := Lib.hid hX0
  clear hX0
  go_wp2_with fail
  refine (HI.out _ _ X0.out.ints).mono ?_
  rintro e w10 ⟨xG, rfl, hG, b11⟩
  have Z12 := Lib.hid (b11.size)
  have NW := Lib.hid (W.out.below b11)
  clear W
  have W := NW
  clear NW
  have NX0 := Lib.hid (X0.out.below b11)
  clear X0
  have X0 := NX0
  clear NX0
  have NB := Lib.hid (B.out.trans (b11.mono B.out.size))
  clear B
  have B := NB
  clear NB
  clear b11
  have G := Lib.hid hG
  clear hG
  go_wp2_with fail
  refine (n_eq_ints _ _ _ r G.out.ints W.out.ints).mono ?_
  rintro e w13 ⟨rfl, b14⟩
  have Z15 := Lib.hid (b14.size)
  have NW := Lib.hid (W.out.below b14)
  clear W
  have W := NW
  clear NW
  have NX0 := Lib.hid (X0.out.below b14)
  clear X0
  have X0 := NX0
  clear NX0
  have NG := Lib.hid (G.out.below b14)
  clear G
  have G := NG
  clear NG
  have NB := Lib.hid (B.out.trans (b14.mono B.out.size))
  clear B
  have B := NB
  clear NB
  clear b14
  go_wp2_with fail
  refine (n_to_ints _ _ zs0 (HA0.out.below B.out) (by omega)).mono ?_
  rintro e w16 ⟨xY0, rfl, hY0, b17⟩
  have Z18 := Lib.hid (b17.size)
  have NW := Lib.hid (W.out.below b17)
  clear W
  have W := NW
  clear NW
  have NX0 := Lib.hid (X0.out.below b17)
  clear X0
  have X0 := NX0
  clear NX0
  have NG := Lib.hid (G.out.below b17)
  clear G
  have G := NG
  clear NG
  have NB := Lib.hid (B.out.trans (b17.mono B.out.size))
  clear B
  have B := NB
  clear NB
  clear b17
  have Y0 := Lib.hid hY0
  clear hY0
  go_wp2_with fail
  refine (n_eq_ints _ _ _ zs0 X0.out.ints Y0.out.ints).mono ?_
  rintro e w19 ⟨rfl, b20⟩
  have Z21 := Lib.hid (b20.size)
  have NW := Lib.hid (W.out.below b20)
  clear W
  have W := NW
  clear NW
  have NX0 := Lib.hid (X0.out.below b20)
  clear X0
  have X0 := NX0
  clear NX0
  have NG := Lib.hid (G.out.below b20)
  clear G
  have G := NG
  clear NG
  have NY0 := Lib.hid (Y0.out.below b20)
  clear Y0
  have Y0 := NY0
  clear NY0
  have NB := Lib.hid (B.out.trans (b20.mono B.out.size))
  clear B
  have B := NB
  clear NB
  clear b20
  clear Y0
  go_wp2_with fail
  refine (n_mark_ints _ _ _ _ zs0 (1) X0.out (by omega) (by omega) (by omega)).mono ?_
  rintro e w22 ⟨rfl, -, chw22⟩
  have Z23 := Lib.hid (chw22.size)
  have NW := Lib.hid (W.out.kept chw22 (by have y0 := Z3.out; have y1 := Z6.out; have y2 := Z9.out; have y3 := Z12.out; have y4 := Z15.out; have y5 := Z18.out; have y6 := Z21.out; have y7 := Z23.out; omega))
  clear W
  have W := NW
  clear NW
  have NG := Lib.hid (G.out.kept chw22 (by have y0 := Z3.out; have y1 := Z6.out; have y2 := Z9.out; have y3 := Z12.out; have y4 := Z15.out; have y5 := Z18.out; have y6 := Z21.out; have y7 := Z23.out; omega))
  clear G
  have G := NG
  clear NG
  clear X0
  have NB := Lib.hid (chw22.below B.out (by have y0 := Z3.out; have y1 := Z6.out; have y2 := Z9.out; have y3 := Z12.out; have y4 := Z15.out; have y5 := Z18.out; have y6 := Z21.out; have y7 := Z23.out; omega) B.out.size)
  clear B
  have B := NB
  clear NB
  clear chw22
  have hk0 : (0 : Int) ≤ 1 + (zs0.length : Int) := by omega
  go_wp2_with fail
  clear hk0
  refine (n_eq_ints _ _ _ r G.out.ints W.out.ints).mono ?_
  rintro e w24 ⟨rfl, b25⟩
  have Z26 := Lib.hid (b25.size)
  have NW := Lib.hid (W.out.below b25)
  clear W
  have W := NW
  clear NW
  have NG := Lib.hid (G.out.below b25)
  clear G
  have G := NG
  clear NG
  have NB := Lib.hid (B.out.trans (b25.mono B.out.size))
  clear B
  have B := NB
  clear NB
  clear b25
  go_wp2_with fail
  have hr0 : (0 : Int) ≤ 1 + ((r.length : Nat) : Int) := by omega
  refine (n_mark_ints _ _ _ _ r 1 G.out (by have y := HR.out; omega) (by omega) (by omega)).mono ?_
  rintro e w27 ⟨rfl, hw27, chw27⟩
  have Z28 := Lib.hid (chw27.size)
  have NW := Lib.hid (W.out.kept chw27 (by have y0 := Z3.out; have y1 := Z6.out; have y2 := Z9.out; have y3 := Z12.out; have y4 := Z15.out; have y5 := Z18.out; have y6 := Z21.out; have y7 := Z23.out; have y8 := Z26.out; have y9 := Z28.out; omega))
  clear W
  have W := NW
  clear NW
  have NG := Lib.hid (hw27)
  clear G
  have G := NG
  clear NG
  have NB := Lib.hid (chw27.below B.out (by have y0 := Z3.out; have y1 := Z6.out; have y2 := Z9.out; have y3 := Z12.out; have y4 := Z15.out; have y5 := Z18.out; have y6 := Z21.out; have y7 := Z23.out; have y8 := Z26.out; have y9 := Z28.out; omega) B.out.size)
  clear B
  have B := NB
  clear NB
  clear hw27 chw27
  go_wp2_with fail
  refine (n_held_ints _ _ r.length G.out.ints (by have y := HR.out; omega)).mono ?_
  rintro e w29 ⟨rfl, b30⟩
  have Z31 := Lib.hid (b30.size)
  have NW := Lib.hid (W.out.below b30)
  clear W
  have W := NW
  clear NW
  have NG := Lib.hid (G.out.below b30)
  clear G
  have G := NG
  clear NG
  have NB := Lib.hid (B.out.trans (b30.mono B.out.size))
  clear B
  have B := NB
  clear NB
  clear b30
  go_wp2_with fail
  refine (n_to_ints _ _ zs0 (HA0.out.below B.out) (by omega)).mono ?_
  rintro e w32 ⟨xV0, rfl, hV0, b33⟩
  have Z34 := Lib.hid (b33.size)
  have NW := Lib.hid (W.out.below b33)
  clear W
  have W := NW
  clear NW
  have NG := Lib.hid (G.out.below b33)
  clear G
  have G := NG
  clear NG
  have NB := Lib.hid (B.out.trans (b33.mono B.out.size))
  clear B
  have B := NB
  clear NB
  clear b33
  have V0 := Lib.hid hV0
  clear hV0
  go_wp2_with fail
  refine (HI.out _ _ V0.out.ints).mono ?_
  rintro e w35 ⟨xH, rfl, hH, b36⟩
  have Z37 := Lib.hid (b36.size)
  have NW := Lib.hid (W.out.below b36)
  clear W
  have W := NW
  clear NW
  have NG := Lib.hid (G.out.below b36)
  clear G
  have G := NG
  clear NG
  have NV0 := Lib.hid (V0.out.below b36)
  clear V0
  have V0 := NV0
  clear NV0
  have NB := Lib.hid (B.out.trans (b36.mono B.out.size))
  clear B
  have B := NB
  clear NB
  clear b36
  have H := Lib.hid hH
  clear hH
  clear V0
  go_wp2_with fail
  refine (n_eq_ints _ _ _ r H.out.ints W.out.ints).mono ?_
  rintro e w38 ⟨rfl, b39⟩
  have Z40 := Lib.hid (b39.size)
  have NW := Lib.hid (W.out.below b39)
  clear W
  have W := NW
  clear NW
  have NG := Lib.hid (G.out.below b39)
  clear G
  have G := NG
  clear NG
  have NH := Lib.hid (H.out.below b39)
  clear H
  have H := NH
  clear NH
  have NB := Lib.hid (B.out.trans (b39.mono B.out.size))
  clear B
  have B := NB
  clear NB
  clear b39
  go_wp2_with fail
  refine (n_held_ints _ _ r.length G.out.ints (by have y := HR.out; omega)).mono ?_
  rintro e w41 ⟨rfl, b42⟩
  have Z43 := Lib.hid (b42.size)
  have NW := Lib.hid (W.out.below b42)
  clear W
  have W := NW
  clear NW
  have NG := Lib.hid (G.out.below b42)
  clear G
  have G := NG
  clear NG
  have NH := Lib.hid (H.out.below b42)
  clear H
  have H := NH
  clear NH
  have NB := Lib.hid (B.out.trans (b42.mono B.out.size))
  clear B
  have B := NB
  clear NB
  clear b42
  go_wp2_with fail
  go_ret
  exact ⟨rfl, B.out⟩
end Go.Proofs.YtheldcjiogpbjaaGreat
set_option maxRecDepth 100000
set_option linter.unusedVariables false
set_option linter.unusedSimpArgs false
namespace Go.Proofs.YtheldcjiogpbjaaGreat
open Go.RowKit

set_option maxHeartbeats 4000000 in
theorem i_modifiedMap (w : World) (v va : Value) (Bf : Option Addr) (m0 d : Nat) (a : List Int) (ha : Rows w v (T6n.map up)) (h1 : Ints w va a) (l1 : a.length = 38) (hN1 : Nums a) :
    Calls Tryz.prog 76 #[.agg #[v, .slice Bf m0 d], va] w fun e w' => ∃ x, e = .returned x ∧ OwnInts w' w.heap.size tI x (intZ EX a) ∧ Below w.heap.size w w' := by
  obtain ⟨A, cA, he, -, -, -⟩ := ha.open_
  rw [List.length_map, T6n_len] at he
  subst he
  obtain ⟨Aa, ca, rfl, -, -, -⟩ := h1.open_
  rw [l1] at h1 ⊢
  obtain ⟨W, hW⟩ : ∃ W, W = w.alloc (.cells #[.slice A 37 cA, .slice Bf m0 d] tFo) := ⟨_, rfl⟩
  have hbw : Below w.heap.size w W := by rw [hW]; exact below1 w _
  have HBW := Lib.hid hbw
  have HKF := Lib.hid (show Blk W w.heap.size tFo #[.slice A 37 cA, .slice Bf m0 d] from by rw [hW]; exact Blk.new _ _ _)
  have HRW := Lib.hid (ha.below hbw)
  have HAW := Lib.hid (h1.below hbw)
  have HLA := Lib.hid l1
  have HNA := Lib.hid hN1
  clear ha h1 l1 hN1 hbw
  go_enter Tryz.func76, Tryz.ntmps76
  go_upto_region 1 with fail
  rw [← hW]
  clear hW
  have k1 : W.cell? ⟨w.heap.size, 0, none⟩ = some (.slice A 37 cA) := HKF.out.cell 0
  have k2 : W.cell? ⟨w.heap.size, 1, none⟩ = some (.slice Bf m0 d) := HKF.out.cell 1
  go_region_law (first
    | (go_simp; go_at_call 84; refine (i_exactMap _ _ Bf m0 d (by exact HRW.out)).mono ?_; rintro e w5 ⟨r5, rfl, ho5, hb5'⟩; have hb5 : Below W.heap.size W w5 := (by exact below_of_drew hb5'); have HO5 := Lib.hid ho5; have HB5 := Lib.hid hb5; have m1 : w5.cell? ⟨w.heap.size, 0, none⟩ = some (.slice A 37 cA) := (HKF.out.below hb5 HKF.out.lt).cell 0; have m2 : w5.cell? ⟨w.heap.size, 1, none⟩ = some (.slice Bf m0 d) := (HKF.out.below hb5 HKF.out.lt).cell 1; clear ho5 hb5')
    | (go_simp; go_at_call 83; refine (i_intoMap w5 (.slice A 37 cA) r5 _ Bf m0 d EX a (by exact HRW.out.below HB5.out) (by exact HO5.out.ints) EX_len EX_nums' (by exact HAW.out.below HB5.out) HLA.out HNA.out).mono ?_; rintro e w7 ⟨x7, rfl, ho7, hb7⟩; have HO7 := Lib.hid ho7; have HB7 := Lib.hid hb7; clear ho7 hb7))
  all_goals
    go_wp2_with fail
    go_ret
    exact ⟨_, rfl, HO7.out.mono (Nat.le_trans HBW.out.size HB5.out.size), (HBW.out.trans (HB5.out.mono HBW.out.size)).trans (HB7.out.mono (Nat.le_trans HBW.out.size HB5.out.size))⟩
noncomputable def mdmR (a : List Int) : List Int := if chrC a = 0 then intZ EX a else []
set_option maxHeartbeats 4000000 in
theorem i_ModifiedMap (w : World) (v : Value) (a : List Int) (h1 : Ints w v a) :
    Calls Tryz.prog 34 #[v] w fun e w' => ∃ x, e = .returned (.tuple #[x, .int .i64 (chrC a)]) ∧ OwnInts w' w.heap.size tI x (mdmR a) ∧ Below w.heap.size w w' := by
  have HCH := Lib.hid (i_checkCharacter w v a h1)
  have HA := Lib.hid h1
  obtain ⟨A, c, rfl, -, -, -⟩ := h1.open_
  clear h1
  by_cases hc : chrC a = 0
  · obtain ⟨hm, -⟩ := chr_of hc
    obtain ⟨l1, n1⟩ := mapB_true hm
    have HR := Lib.hid (show mdmR a = intZ EX a from if_pos hc)
    rw [hc] at HCH ⊢
    have HMM := Lib.hid (fun W v0 Bf m0 d (h : Rows W v0 (T6n.map up)) (g : Ints W (.slice A a.length c) a) => i_modifiedMap W v0 _ Bf m0 d a h g l1 n1)
    clear hc hm l1 n1
    go_enter Tryz.func34, Tryz.ntmps34
    go_wp2_with (first
      | (go_at_call 63; refine HCH.out.mono ?_; rintro e w0 ⟨rfl, rfl⟩)
      | (go_at_call 48; go_loud (refine (i_newForms _).mono ?_; rintro e w1 ⟨f, rfl, hf, hb1⟩; obtain ⟨Af, cf, Ay, my, cy, rfl, hrf⟩ := hf.opens; have HRF := Lib.hid hrf; have HB1 := Lib.hid hb1; clear hf hrf hb1))
      | (go_at_call 76; go_loud (refine (HMM.out _ _ Ay my cy HRF.out (HA.out.below HB1.out)).mono ?_; rintro e w3 ⟨x3, rfl, ho3, hb3⟩; have HO3 := Lib.hid ho3; have HB3 := Lib.hid hb3; clear ho3 hb3)))
    go_ret2
    rw [HR.out]
    exact ⟨_, rfl, HO3.out.mono HB1.out.size, HB1.out.trans (HB3.out.mono HB1.out.size)⟩
  · have HR := Lib.hid (show mdmR a = [] from if_neg hc)
    rw [HR.out]
    have hd : (chrC a != 0) = true := by simp [hc]
    generalize chrC a = cc at *
    clear hc HR
    go_enter Tryz.func34, Tryz.ntmps34
    go_wp2_with (go_at_call 63; refine HCH.out.mono ?_; rintro e w0 ⟨rfl, rfl⟩)
    go_ret2
    exact ⟨_, rfl, OwnInts.nil _ _ _, Below.refl _ _⟩
set_option maxHeartbeats 4000000 in
theorem s_ModifiedMap (w : World) (v : Value) (a : List Int) (h1 : Ints w v a) :
    Calls Tryz.prog 33 #[v] w fun e w' => ∃ x, e = .returned (.tuple #[x, .int .i64 (chrC a)]) ∧ OwnInts w' w.heap.size tI x (mdmR a) ∧ Below w.heap.size w w' := by
  have HCH := Lib.hid (s_l07Code1 w v a h1)
  have HA := Lib.hid h1
  obtain ⟨A, c, rfl, -, -, -⟩ := h1.open_
  clear h1
  by_cases hc : chrC a = 0
  · obtain ⟨hm, -⟩ := chr_of hc
    obtain ⟨l1, n1⟩ := mapB_true hm
    have HR := Lib.hid (show mdmR a = intZ EX a from if_pos hc)
    rw [hc] at HCH ⊢
    have HMM := Lib.hid (fun W v0 (h : Ints W v0 EX) (g : Ints W (.slice A a.length c) a) => s_l17Fit W v0 _ EX a h EX_len EX_nums' g l1 n1)
    clear hc hm l1 n1
    go_enter Tryz.func33, Tryz.ntmps33
    go_wp2_with (first
      | (go_at_call 58; refine HCH.out.mono ?_; rintro e w0 ⟨rfl, rfl⟩)
      | (go_at_call 60; go_loud (refine (s_l07Exact _).mono ?_; rintro e w1 ⟨x1, rfl, ho1, hb1⟩; have HO1 := Lib.hid ho1; have HB1 := Lib.hid hb1; clear ho1 hb1))
      | (go_at_call 75; go_loud (refine (HMM.out _ _ HO1.out.ints (HA.out.below HB1.out)).mono ?_; rintro e w3 ⟨x3, rfl, ho3, hb3⟩; have HO3 := Lib.hid ho3; have HB3 := Lib.hid hb3; clear ho3 hb3)))
    go_ret2
    rw [HR.out]
    exact ⟨_, rfl, HO3.out.mono HB1.out.size, HB1.out.trans (HB3.out.mono HB1.out.size)⟩
  · have HR := Lib.hid (show mdmR a = [] from if_neg hc)
    rw [HR.out]
    have hd : (chrC a != 0) = true := by simp [hc]
    generalize chrC a = cc at *
    clear hc HR
    go_enter Tryz.func33, Tryz.ntmps33
    go_wp2_with (go_at_call 58; refine HCH.out.mono ?_; rintro e w0 ⟨rfl, rfl⟩)
    go_ret2
    exact ⟨_, rfl, OwnInts.nil _ _ _, Below.refl _ _⟩
noncomputable def mdyC (a : List Int) : Int := if chrC a = 0 then (if a.getD 1 0 = 0 then 5 else 0) else chrC a
noncomputable def mdyR (a : List Int) : List Int := if mdyC a = 0 then intZ a EX else []
set_option maxHeartbeats 8000000 in
theorem i_ModifyingMap (w : World) (v : Value) (a : List Int) (h1 : Ints w v a) :
    Calls Tryz.prog 38 #[v] w fun e w' => ∃ x, e = .returned (.tuple #[x, .int .i64 (mdyC a)]) ∧ OwnInts w' w.heap.size tI x (mdyR a) ∧ Below w.heap.size w w' := by
  have HCH := Lib.hid (i_checkCharacter w v a h1)
  have HA := Lib.hid h1
  obtain ⟨A, c, rfl, -, -, -⟩ := h1.open_
  by_cases hc : chrC a = 0
  · obtain ⟨hm1, -⟩ := chr_of hc
    obtain ⟨l1, n1⟩ := mapB_true hm1
    rw [l1] at h1 HA HCH ⊢
    obtain ⟨ad, rfl, -, -, -⟩ := map_cell h1 n1 (k := 0) (by omega)
    have hcy := map_one h1 n1
    rw [hc] at HCH
    have HLA := Lib.hid l1
    have HNA := Lib.hid (show Nums a from n1)
    obtain ⟨y1, hy1⟩ : ∃ y1, y1 = a.getD 1 0 := ⟨_, rfl⟩
    rw [← hy1] at hcy
    by_cases hz : y1 = 0
    · have hd : (y1 == 0) = true := by simp [hz]
      have HC := Lib.hid (show mdyC a = 5 from by rw [mdyC, if_pos hc, if_pos (by rw [← hy1]; exact hz)])
      have HR := Lib.hid (show mdyR a = [] from by rw [mdyR, HC.out]; rfl)
      clear hc hm1 l1 n1 h1 hy1 hz
      go_enter Tryz.func38, Tryz.ntmps38
      go_wp2_with (go_at_call 63; refine HCH.out.mono ?_; rintro e w0 ⟨rfl, rfl⟩)
      go_ret2
      rw [HC.out, HR.out]
      exact ⟨_, rfl, OwnInts.nil _ _ _, Below.refl _ _⟩
    · have hd : (y1 == 0) = false := by simp [hz]
      have HC := Lib.hid (show mdyC a = 0 from by rw [mdyC, if_pos hc, if_neg (by rw [← hy1]; exact hz)])
      have HR := Lib.hid (show mdyR a = intZ a EX from by rw [mdyR, HC.out]; rfl)
      clear hc hm1 l1 n1 h1 hy1 hz
      go_enter Tryz.func38, Tryz.ntmps38
      go_upto_region 7 with (first
        | (go_at_call 63; refine HCH.out.mono ?_; rintro e w0 ⟨rfl, rfl⟩)
        | (go_at_call 48; go_loud (refine (i_newForms _).mono ?_; rintro e w1 ⟨f, rfl, hf, hb1⟩; obtain ⟨Af, cf, Ay, my, cy, rfl, hrf⟩ := hf.opens; have HRF := Lib.hid hrf; have HB1W := Lib.hid hb1; clear hf hrf hb1)))
      obtain ⟨W, hW⟩ : ∃ W, W = w1.alloc (.cells #[.slice Af 37 cf, .slice Ay my cy] tFo) := ⟨_, rfl⟩
      have hbw : Below w1.heap.size w1 W := by rw [hW]; exact below1 w1 _
      have HBW := Lib.hid (HB1W.out.trans (hbw.mono HB1W.out.size))
      have HKF := Lib.hid (show Blk W w1.heap.size tFo #[.slice Af 37 cf, .slice Ay my cy] from by rw [hW]; exact Blk.new _ _ _)
      have HRW := Lib.hid (HRF.out.below hbw)
      have HAW := Lib.hid (HA.out.below HBW.out)
      rw [← hW]
      clear hW hbw hcy
      have k1 : W.cell? ⟨w1.heap.size, 0, none⟩ = some (.slice Af 37 cf) := HKF.out.cell 0
      have k2 : W.cell? ⟨w1.heap.size, 1, none⟩ = some (.slice Ay my cy) := HKF.out.cell 1
      go_region_law (first
        | (go_simp; go_at_call 84; refine (i_exactMap _ _ Ay my cy (by exact HRW.out)).mono ?_; rintro e w5 ⟨r5, rfl, ho5, hb5'⟩; have hb5 : Below W.heap.size W w5 := (by exact below_of_drew hb5'); have HO5 := Lib.hid ho5; have HB5 := Lib.hid hb5; have m1 : w5.cell? ⟨w1.heap.size, 0, none⟩ = some (.slice Af 37 cf) := (HKF.out.below hb5 HKF.out.lt).cell 0; have m2 : w5.cell? ⟨w1.heap.size, 1, none⟩ = some (.slice Ay my cy) := (HKF.out.below hb5 HKF.out.lt).cell 1; clear ho5 hb5')
        | (go_simp; go_at_call 83; refine (i_intoMap w5 (.slice Af 37 cf) _ r5 Ay my cy a EX (by exact HRW.out.below HB5.out) (by exact HAW.out.below HB5.out) HLA.out HNA.out (by exact HO5.out.ints) EX_len EX_nums').mono ?_; rintro e w7 ⟨x7, rfl, ho7, hb7⟩; have HO7 := Lib.hid ho7; have HB7 := Lib.hid hb7; clear ho7 hb7))
      all_goals
        go_wp2_with fail
        go_ret2
        rw [HC.out, HR.out]
        exact ⟨_, rfl, HO7.out.mono (Nat.le_trans HBW.out.size HB5.out.size), (HBW.out.trans (HB5.out.mono HBW.out.size)).trans (HB7.out.mono (Nat.le_trans HBW.out.size HB5.out.size))⟩
  · have HC := Lib.hid (show mdyC a = chrC a from if_neg hc)
    have HR := Lib.hid (show mdyR a = [] from by rw [mdyR, HC.out, if_neg hc])
    rw [HR.out, HC.out]
    have hd : (chrC a != 0) = true := by simp [hc]
    generalize chrC a = cc at *
    clear hc HR HC h1
    go_enter Tryz.func38, Tryz.ntmps38
    go_wp2_with (go_at_call 63; refine HCH.out.mono ?_; rintro e w0 ⟨rfl, rfl⟩)
    go_ret2
    exact ⟨_, rfl, OwnInts.nil _ _ _, Below.refl _ _⟩
set_option maxHeartbeats 8000000 in
theorem s_ModifyingMap (w : World) (v : Value) (a : List Int) (h1 : Ints w v a) :
    Calls Tryz.prog 37 #[v] w fun e w' => ∃ x, e = .returned (.tuple #[x, .int .i64 (mdyC a)]) ∧ OwnInts w' w.heap.size tI x (mdyR a) ∧ Below w.heap.size w w' := by
  have HCH := Lib.hid (s_l07Code1 w v a h1)
  have HA := Lib.hid h1
  obtain ⟨A, c, rfl, -, -, -⟩ := h1.open_
  by_cases hc : chrC a = 0
  · obtain ⟨hm1, -⟩ := chr_of hc
    obtain ⟨l1, n1⟩ := mapB_true hm1
    rw [l1] at h1 HA HCH ⊢
    obtain ⟨ad, rfl, -, -, -⟩ := map_cell h1 n1 (k := 0) (by omega)
    have hcy := map_one h1 n1
    rw [hc] at HCH
    have HMM := Lib.hid (fun W v0 (h : Ints W v0 EX) (g : Ints W (.slice (some ad) 38 c) a) => s_l17Fit W _ v0 a EX g l1 n1 h EX_len EX_nums')
    obtain ⟨y1, hy1⟩ : ∃ y1, y1 = a.getD 1 0 := ⟨_, rfl⟩
    rw [← hy1] at hcy
    by_cases hz : y1 = 0
    · have hd : (y1 == 0) = true := by simp [hz]
      have HC := Lib.hid (show mdyC a = 5 from by rw [mdyC, if_pos hc, if_pos (by rw [← hy1]; exact hz)])
      have HR := Lib.hid (show mdyR a = [] from by rw [mdyR, HC.out]; rfl)
      clear hc hm1 l1 n1 h1 hy1 hz
      go_enter Tryz.func37, Tryz.ntmps37
      go_wp2_with (go_at_call 58; refine HCH.out.mono ?_; rintro e w0 ⟨rfl, rfl⟩)
      go_ret2
      rw [HC.out, HR.out]
      exact ⟨_, rfl, OwnInts.nil _ _ _, Below.refl _ _⟩
    · have hd : (y1 == 0) = false := by simp [hz]
      have HC := Lib.hid (show mdyC a = 0 from by rw [mdyC, if_pos hc, if_neg (by rw [← hy1]; exact hz)])
      have HR := Lib.hid (show mdyR a = intZ a EX from by rw [mdyR, HC.out]; rfl)
      clear hc hm1 l1 n1 h1 hy1 hz
      go_enter Tryz.func37, Tryz.ntmps37
      go_wp2_with (first
        | (go_at_call 58; refine HCH.out.mono ?_; rintro e w0 ⟨rfl, rfl⟩)
        | (go_at_call 60; go_loud (refine (s_l07Exact _).mono ?_; rintro e w1 ⟨x1, rfl, ho1, hb1⟩; have HO1 := Lib.hid ho1; have HB1 := Lib.hid hb1; clear ho1 hb1))
        | (go_at_call 75; go_loud (refine (HMM.out _ _ HO1.out.ints (HA.out.below HB1.out)).mono ?_; rintro e w3 ⟨x3, rfl, ho3, hb3⟩; have HO3 := Lib.hid ho3; have HB3 := Lib.hid hb3; clear ho3 hb3)))
      go_ret2
      rw [HC.out, HR.out]
      exact ⟨_, rfl, HO3.out.mono HB1.out.size, HB1.out.trans (HB3.out.mono HB1.out.size)⟩
  · have HC := Lib.hid (show mdyC a = chrC a from if_neg hc)
    have HR := Lib.hid (show mdyR a = [] from by rw [mdyR, HC.out, if_neg hc])
    rw [HR.out, HC.out]
    have hd : (chrC a != 0) = true := by simp [hc]
    generalize chrC a = cc at *
    clear hc HR HC h1
    go_enter Tryz.func37, Tryz.ntmps37
    go_wp2_with (go_at_call 58; refine HCH.out.mono ?_; rintro e w0 ⟨rfl, rfl⟩)
    go_ret2
    exact ⟨_, rfl, OwnInts.nil _ _ _, Below.refl _ _⟩
end Go.Proofs.YtheldcjiogpbjaaGreat
set_option maxRecDepth 100000
set_option linter.unusedVariables false
set_option linter.unusedSimpArgs false
namespace Go.Proofs.YtheldcjiogpbjaaGreat
open Go.RowKit

theorem mdmR_len (a : List Int) : (mdmR a).length ≤ 1048576 := by
  unfold mdmR
  split
  · unfold intZ; rw [filS_len]; omega
  · simp
theorem law_ModifiedMap (w : World) (v : Value) (zs : List Int) (ha : Ints w v zs) :
    Calls Tryz.prog 10 #[v] w fun e w' => e = .returned (.bool true) ∧ Below w.heap.size w w' :=
  law_FnExactModifiedMap_gen w v zs ha (mdmR zs) (chrC zs) (fun _ => mdmR_len zs)
    (fun _ W v0 h0 => (s_ModifiedMap W v0 zs h0).mono fun e w' h => by obtain ⟨x, he, ho, hb⟩ := h; exact ⟨x, he, OI.of ho, hb⟩)
    (fun _ W v0 h0 => (i_ModifiedMap W v0 zs h0).mono fun e w' h => by obtain ⟨x, he, ho, hb⟩ := h; exact ⟨x, he, OI.of ho, hb⟩)
end Go.Proofs.YtheldcjiogpbjaaGreat
