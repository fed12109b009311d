/- The law FnExactComposeSteps, walked over the contracts of both. (printed by lawgen3.py) | Plain: repeated convolutions with scaled maps. No walk. -/
import Derived.Test.YtngdpoeondnchaaGreatP2
import Derived.WalkLawsBesides
import Derived.Deep.RegionHeld3
import Derived.Test.YtngdpoeondnchaaGreatP34
set_option linter.unusedVariables false
set_option linter.unusedSimpArgs false
namespace Go.Proofs.YtngdpoeondnchaaGreat
open Go.RowKit

set_option maxRecDepth 100000 in
set_option maxHeartbeats 8000000 in
theorem law_FnExactComposeSteps_gen (w : World) (v0 : Value) (zs0 : List Int) (ha0 : Ints w v0 zs0) (v1 : Value) (zs1 : List Int) (ha1 : Ints w v1 zs1) (r : List Int) (c : Int) (hR : zs0.length ≤ 1048576 → zs1.length ≤ 1048576 → r.length ≤ 1048576)
    (hS : zs0.length ≤ 1048576 → zs1.length ≤ 1048576 → ∀ (W : World) (v0 v1 : Value), Ints W v0 zs0 → Ints W v1 zs1 → Calls Tryz.prog 34 #[v0, v1] W fun e w' => ∃ u, e = .returned (.tuple #[u, .int .i64 c]) ∧ OI w' W.heap.size w'.heap.size tI u r ∧ Below W.heap.size W w')
    (hI : zs0.length ≤ 1048576 → zs1.length ≤ 1048576 → ∀ (W : World) (v0 v1 : Value), Ints W v0 zs0 → Ints W v1 zs1 → Calls Tryz.prog 35 #[v0, v1] W fun e w' => ∃ u, e = .returned (.tuple #[u, .int .i64 c]) ∧ OI w' W.heap.size w'.heap.size tI u r ∧ Below W.heap.size W w') :
    Calls Tryz.prog 8 #[v0, v1] w fun e w' => e = .returned (.bool true) ∧ Below w.heap.size w w' := by
  have B := Lib.hid (Below.refl w.heap.size w)
  have HS := Lib.hid hS
  have HI := Lib.hid hI
  clear hS hI
  have HR := Lib.hid hR
  clear hR
  have HA0 := Lib.hid ha0
  obtain ⟨A0, c0, rfl, -, -, -⟩ := ha0.open_
  clear ha0
  have HA1 := Lib.hid ha1
  obtain ⟨A1, c1, rfl, -, -, -⟩ := ha1.open_
  clear ha1
  go_enter Tryz.func8, Tryz.ntmps8
  by_cases hbig0 : (1048576 : Int) < (zs0.length : Int)
  · go_wp2_with fail
    go_ret
    exact ⟨rfl, Below.refl _ _⟩
  have hsm0 : zs0.length ≤ 1048576 := by omega
  by_cases hbig1 : (1048576 : Int) < (zs1.length : Int)
  · go_wp2_with fail
    go_ret
    exact ⟨rfl, Below.refl _ _⟩
  have hsm1 : zs1.length ≤ 1048576 := by omega
  go_wp2_with fail
  have HS := Lib.hid (HS.out hsm0 hsm1)
  have HI := Lib.hid (HI.out hsm0 hsm1)
  have HR := Lib.hid (HR.out hsm0 hsm1)
  refine (n_to_ints _ _ zs0 (HA0.out.below B.out) (by omega)).mono ?_
  rintro e w1 ⟨xT0, rfl, hT0, b2⟩
  have Z3 := Lib.hid (b2.size)
  have NB := Lib.hid (B.out.trans (b2.mono B.out.size))
  clear B
  have B := NB
  clear NB
  clear b2
  have T0 := Lib.hid hT0
  clear hT0
  go_wp2_with fail
  refine (n_to_ints _ _ zs1 (HA1.out.below B.out) (by omega)).mono ?_
  rintro e w4 ⟨xT1, rfl, hT1, b5⟩
  have Z6 := Lib.hid (b5.size)
  have NT0 := Lib.hid (T0.out.below b5)
  clear T0
  have T0 := NT0
  clear NT0
  have NB := Lib.hid (B.out.trans (b5.mono B.out.size))
  clear B
  have B := NB
  clear NB
  clear b5
  have T1 := Lib.hid hT1
  clear hT1
  go_wp2_with fail
  refine (HS.out _ _ _ T0.out.ints T1.out.ints).mono ?_
  rintro e w7 ⟨xW, rfl, hW, b8⟩
  have Z9 := Lib.hid (b8.size)
  have NT0 := Lib.hid (T0.out.below b8)
  clear T0
  have T0 := NT0
  clear NT0
  have NT1 := Lib.hid (T1.out.below b8)
  clear T1
  have T1 := NT1
  clear NT1
  have NB := Lib.hid (B.out.trans (b8.mono B.out.size))
  clear B
  have B := NB
  clear NB
  clear b8
  have W := Lib.hid hW
  clear hW
  clear T0
  clear T1
  go_wp2_with fail
  refine (n_to_ints _ _ zs0 (HA0.out.below B.out) (by omega)).mono ?_
  rintro e w10 ⟨xX0, rfl, hX0, b11⟩
  have Z12 := Lib.hid (b11.size)
  have NW := Lib.hid (W.out.below b11)
  clear W
  have W := NW
  clear NW
  have NB := Lib.hid (B.out.trans (b11.mono B.out.size))
  clear B
  have B := NB
  clear NB
  clear b11
  have X0 := Lib.hid hX0
  clear hX0
  go_wp2_with fail
  refine (n_to_ints _ _ zs1 (HA1.out.below B.out) (by omega)).mono ?_
  rintro e w13 ⟨xX1, rfl, hX1, b14⟩
  have Z15 := Lib.hid (b14.size)
  have NW := Lib.hid (W.out.below b14)
  clear W
  have W := NW
  clear NW
  have NX0 := Lib.hid (X0.out.below b14)
  clear X0
  have X0 := NX0
  clear NX0
  have NB := Lib.hid (B.out.trans (b14.mono B.out.size))
  clear B
  have B := NB
  clear NB
  clear b14
  have X1 := Lib.hid hX1
  clear hX1
  go_wp2_with fail
  refine (HI.out _ _ _ X0.out.ints X1.out.ints).mono ?_
  rintro e w16 ⟨xG, rfl, hG, b17⟩
  have Z18 := Lib.hid (b17.size)
  have NW := Lib.hid (W.out.below b17)
  clear W
  have W := NW
  clear NW
  have NX0 := Lib.hid (X0.out.below b17)
  clear X0
  have X0 := NX0
  clear NX0
  have NX1 := Lib.hid (X1.out.below b17)
  clear X1
  have X1 := NX1
  clear NX1
  have NB := Lib.hid (B.out.trans (b17.mono B.out.size))
  clear B
  have B := NB
  clear NB
  clear b17
  have G := Lib.hid hG
  clear hG
  go_wp2_with fail
  refine (n_eq_ints _ _ _ r G.out.ints W.out.ints).mono ?_
  rintro e w19 ⟨rfl, b20⟩
  have Z21 := Lib.hid (b20.size)
  have NW := Lib.hid (W.out.below b20)
  clear W
  have W := NW
  clear NW
  have NX0 := Lib.hid (X0.out.below b20)
  clear X0
  have X0 := NX0
  clear NX0
  have NX1 := Lib.hid (X1.out.below b20)
  clear X1
  have X1 := NX1
  clear NX1
  have NG := Lib.hid (G.out.below b20)
  clear G
  have G := NG
  clear NG
  have NB := Lib.hid (B.out.trans (b20.mono B.out.size))
  clear B
  have B := NB
  clear NB
  clear b20
  go_wp2_with fail
  refine (n_to_ints _ _ zs0 (HA0.out.below B.out) (by omega)).mono ?_
  rintro e w22 ⟨xY0, rfl, hY0, b23⟩
  have Z24 := Lib.hid (b23.size)
  have NW := Lib.hid (W.out.below b23)
  clear W
  have W := NW
  clear NW
  have NX0 := Lib.hid (X0.out.below b23)
  clear X0
  have X0 := NX0
  clear NX0
  have NX1 := Lib.hid (X1.out.below b23)
  clear X1
  have X1 := NX1
  clear NX1
  have NG := Lib.hid (G.out.below b23)
  clear G
  have G := NG
  clear NG
  have NB := Lib.hid (B.out.trans (b23.mono B.out.size))
  clear B
  have B := NB
  clear NB
  clear b23
  have Y0 := Lib.hid hY0
  clear hY0
  go_wp2_with fail
  refine (n_eq_ints _ _ _ zs0 X0.out.ints Y0.out.ints).mono ?_
  rintro e w25 ⟨rfl, b26⟩
  have Z27 := Lib.hid (b26.size)
  have NW := Lib.hid (W.out.below b26)
  clear W
  have W := NW
  clear NW
  have NX0 := Lib.hid (X0.out.below b26)
  clear X0
  have X0 := NX0
  clear NX0
  have NX1 := Lib.hid (X1.out.below b26)
  clear X1
  have X1 := NX1
  clear NX1
  have NG := Lib.hid (G.out.below b26)
  clear G
  have G := NG
  clear NG
  have NY0 := Lib.hid (Y0.out.below b26)
  clear Y0
  have Y0 := NY0
  clear NY0
  have NB := Lib.hid (B.out.trans (b26.mono B.out.size))
  clear B
  have B := NB
  clear NB
  clear b26
  clear Y0
  go_wp2_with fail
  refine (n_to_ints _ _ zs1 (HA1.out.below B.out) (by omega)).mono ?_
  rintro e w28 ⟨xY1, rfl, hY1, b29⟩
  have Z30 := Lib.hid (b29.size)
  have NW := Lib.hid (W.out.below b29)
  clear W
  have W := NW
  clear NW
  have NX0 := Lib.hid (X0.out.below b29)
  clear X0
  have X0 := NX0
  clear NX0
  have NX1 := Lib.hid (X1.out.below b29)
  clear X1
  have X1 := NX1
  clear NX1
  have NG := Lib.hid (G.out.below b29)
  clear G
  have G := NG
  clear NG
  have NB := Lib.hid (B.out.trans (b29.mono B.out.size))
  clear B
  have B := NB
  clear NB
  clear b29
  have Y1 := Lib.hid hY1
  clear hY1
  go_wp2_with fail
  refine (n_eq_ints _ _ _ zs1 X1.out.ints Y1.out.ints).mono ?_
  rintro e w31 ⟨rfl, b32⟩
  have Z33 := Lib.hid (b32.size)
  have NW := Lib.hid (W.out.below b32)
  clear W
  have W := NW
  clear NW
  have NX0 := Lib.hid (X0.out.below b32)
  clear X0
  have X0 := NX0
  clear NX0
  have NX1 := Lib.hid (X1.out.below b32)
  clear X1
  have X1 := NX1
  clear NX1
  have NG := Lib.hid (G.out.below b32)
  clear G
  have G := NG
  clear NG
  have NY1 := Lib.hid (Y1.out.below b32)
  clear Y1
  have Y1 := NY1
  clear NY1
  have NB := Lib.hid (B.out.trans (b32.mono B.out.size))
  clear B
  have B := NB
  clear NB
  clear b32
  clear Y1
  go_wp2_with fail
  refine (n_mark_ints _ _ _ _ zs0 (1) X0.out (by omega) (by omega) (by omega)).mono ?_
  rintro e w34 ⟨rfl, -, chw34⟩
  have Z35 := Lib.hid (chw34.size)
  have NW := Lib.hid (W.out.kept chw34 (by have y0 := Z3.out; have y1 := Z6.out; have y2 := Z9.out; have y3 := Z12.out; have y4 := Z15.out; have y5 := Z18.out; have y6 := Z21.out; have y7 := Z24.out; have y8 := Z27.out; have y9 := Z30.out; have y10 := Z33.out; have y11 := Z35.out; omega))
  clear W
  have W := NW
  clear NW
  have NX1 := Lib.hid (X1.out.kept chw34 (by have y0 := Z3.out; have y1 := Z6.out; have y2 := Z9.out; have y3 := Z12.out; have y4 := Z15.out; have y5 := Z18.out; have y6 := Z21.out; have y7 := Z24.out; have y8 := Z27.out; have y9 := Z30.out; have y10 := Z33.out; have y11 := Z35.out; omega))
  clear X1
  have X1 := NX1
  clear NX1
  have NG := Lib.hid (G.out.kept chw34 (by have y0 := Z3.out; have y1 := Z6.out; have y2 := Z9.out; have y3 := Z12.out; have y4 := Z15.out; have y5 := Z18.out; have y6 := Z21.out; have y7 := Z24.out; have y8 := Z27.out; have y9 := Z30.out; have y10 := Z33.out; have y11 := Z35.out; omega))
  clear G
  have G := NG
  clear NG
  clear X0
  have NB := Lib.hid (chw34.below B.out (by have y0 := Z3.out; have y1 := Z6.out; have y2 := Z9.out; have y3 := Z12.out; have y4 := Z15.out; have y5 := Z18.out; have y6 := Z21.out; have y7 := Z24.out; have y8 := Z27.out; have y9 := Z30.out; have y10 := Z33.out; have y11 := Z35.out; omega) B.out.size)
  clear B
  have B := NB
  clear NB
  clear chw34
  go_wp2_with fail
  refine (n_mark_ints _ _ _ _ zs1 (1 + (zs0.length : Int)) X1.out (by omega) (by omega) (by omega)).mono ?_
  rintro e w36 ⟨rfl, -, chw36⟩
  have Z37 := Lib.hid (chw36.size)
  have NW := Lib.hid (W.out.kept chw36 (by have y0 := Z3.out; have y1 := Z6.out; have y2 := Z9.out; have y3 := Z12.out; have y4 := Z15.out; have y5 := Z18.out; have y6 := Z21.out; have y7 := Z24.out; have y8 := Z27.out; have y9 := Z30.out; have y10 := Z33.out; have y11 := Z35.out; have y12 := Z37.out; omega))
  clear W
  have W := NW
  clear NW
  have NG := Lib.hid (G.out.kept chw36 (by have y0 := Z3.out; have y1 := Z6.out; have y2 := Z9.out; have y3 := Z12.out; have y4 := Z15.out; have y5 := Z18.out; have y6 := Z21.out; have y7 := Z24.out; have y8 := Z27.out; have y9 := Z30.out; have y10 := Z33.out; have y11 := Z35.out; have y12 := Z37.out; omega))
  clear G
  have G := NG
  clear NG
  clear X1
  have NB := Lib.hid (chw36.below B.out (by have y0 := Z3.out; have y1 := Z6.out; have y2 := Z9.out; have y3 := Z12.out; have y4 := Z15.out; have y5 := Z18.out; have y6 := Z21.out; have y7 := Z24.out; have y8 := Z27.out; have y9 := Z30.out; have y10 := Z33.out; have y11 := Z35.out; have y12 := Z37.out; omega) B.out.size)
  clear B
  have B := NB
  clear NB
  clear chw36
  have hk0 : (0 : Int) ≤ 1 + (zs0.length : Int) + (zs1.length : Int) := by omega
  go_wp2_with fail
  clear hk0
  refine (n_eq_ints _ _ _ r G.out.ints W.out.ints).mono ?_
  rintro e w38 ⟨rfl, b39⟩
  have Z40 := Lib.hid (b39.size)
  have NW := Lib.hid (W.out.below b39)
  clear W
  have W := NW
  clear NW
  have NG := Lib.hid (G.out.below b39)
  clear G
  have G := NG
  clear NG
  have NB := Lib.hid (B.out.trans (b39.mono B.out.size))
  clear B
  have B := NB
  clear NB
  clear b39
  go_wp2_with fail
  have hr0 : (0 : Int) ≤ 1 + ((r.length : Nat) : Int) := by omega
  refine (n_mark_ints _ _ _ _ r 1 G.out (by have y := HR.out; omega) (by omega) (by omega)).mono ?_
  rintro e w41 ⟨rfl, hw41, chw41⟩
  have Z42 := Lib.hid (chw41.size)
  have NW := Lib.hid (W.out.kept chw41 (by have y0 := Z3.out; have y1 := Z6.out; have y2 := Z9.out; have y3 := Z12.out; have y4 := Z15.out; have y5 := Z18.out; have y6 := Z21.out; have y7 := Z24.out; have y8 := Z27.out; have y9 := Z30.out; have y10 := Z33.out; have y11 := Z35.out; have y12 := Z37.out; have y13 := Z40.out; have y14 := Z42.out; omega))
  clear W
  have W := NW
  clear NW
  have NG := Lib.hid (hw41)
  clear G
  have G := NG
  clear NG
  have NB := Lib.hid (chw41.below B.out (by have y0 := Z3.out; have y1 := Z6.out; have y2 := Z9.out; have y3 := Z12.out; have y4 := Z15.out; have y5 := Z18.out; have y6 := Z21.out; have y7 := Z24.out; have y8 := Z27.out; have y9 := Z30.out; have y10 := Z33.out; have y11 := Z35.out; have y12 := Z37.out; have y13 := Z40.out; have y14 := Z42.out; omega) B.out.size)
  clear B
  have B := NB
  clear NB
  clear hw41 chw41
  go_wp2_with fail
  refine (n_held_ints _ _ r.length G.out.ints (by have y := HR.out; omega)).mono ?_
  rintro e w43 ⟨rfl, b44⟩
  have Z45 := Lib.hid (b44.size)
  have NW := Lib.hid (W.out.below b44)
  clear W
  have W := NW
  clear NW
  have NG := Lib.hid (G.out.below b44)
  clear G
  have G := NG
  clear NG
  have NB := Lib.hid (B.out.trans (b44.mono B.out.size))
  clear B
  have B := NB
  clear NB
  clear b44
  go_wp2_with fail
  refine (n_to_ints _ _ zs0 (HA0.out.below B.out) (by omega)).mono ?_
  rintro e w46 ⟨xV0, rfl, hV0, b47⟩
  have Z48 := Lib.hid (b47.size)
  have NW := Lib.hid (W.out.below b47)
  clear W
  have W := NW
  clear NW
  have NG := Lib.hid (G.out.below b47)
  clear G
  have G := NG
  clear NG
  have NB := Lib.hid (B.out.trans (b47.mono B.out.size))
  clear B
  have B := NB
  clear NB
  clear b47
  have V0 := Lib.hid hV0
  clear hV0
  go_wp2_with fail
  refine (n_to_ints _ _ zs1 (HA1.out.below B.out) (by omega)).mono ?_
  rintro e w49 ⟨xV1, rfl, hV1, b50⟩
  have Z51 := Lib.hid (b50.size)
  have NW := Lib.hid (W.out.below b50)
  clear W
  have W := NW
  clear NW
  have NG := Lib.hid (G.out.below b50)
  clear G
  have G := NG
  clear NG
  have NV0 := Lib.hid (V0.out.below b50)
  clear V0
  have V0 := NV0
  clear NV0
  have NB := Lib.hid (B.out.trans (b50.mono B.out.size))
  clear B
  have B := NB
  clear NB
  clear b50
  have V1 := Lib.hid hV1
  clear hV1
  go_wp2_with fail
  refine (HI.out _ _ _ V0.out.ints V1.out.ints).mono ?_
  rintro e w52 ⟨xH, rfl, hH, b53⟩
  have Z54 := Lib.hid (b53.size)
  have NW := Lib.hid (W.out.below b53)
  clear W
  have W := NW
  clear NW
  have NG := Lib.hid (G.out.below b53)
  clear G
  have G := NG
  clear NG
  have NV0 := Lib.hid (V0.out.below b53)
  clear V0
  have V0 := NV0
  clear NV0
  have NV1 := Lib.hid (V1.out.below b53)
  clear V1
  have V1 := NV1
  clear NV1
  have NB := Lib.hid (B.out.trans (b53.mono B.out.size))
  clear B
  have B := NB
  clear NB
  clear b53
  have H := Lib.hid hH
  clear hH
  clear V0
  clear V1
  go_wp2_with fail
  refine (n_eq_ints _ _ _ r H.out.ints W.out.ints).mono ?_
  rintro e w55 ⟨rfl, b56⟩
  have Z57 := Lib.hid (b56.size)
  have NW := Lib.hid (W.out.below b56)
  clear W
  have W := NW
  clear NW
  have NG := Lib.hid (G.out.below b56)
  clear G
  have G := NG
  clear NG
  have NH := Lib.hid (H.out.below b56)
  clear H
  have H := NH
  clear NH
  have NB := Lib.hid (B.out.trans (b56.mono B.out.size))
  clear B
  have B := NB
  clear NB
  clear b56
  go_wp2_with fail
  refine (n_held_ints _ _ r.length G.out.ints (by have y := HR.out; omega)).mono ?_
  rintro e w58 ⟨rfl, b59⟩
  have Z60 := Lib.hid (b59.size)
  have NW := Lib.hid (W.out.below b59)
  clear W
  have W := NW
  clear NW
  have NG := Lib.hid (G.out.below b59)
  clear G
  have G := NG
  clear NG
  have NH := Lib.hid (H.out.below b59)
  clear H
  have H := NH
  clear NH
  have NB := Lib.hid (B.out.trans (b59.mono B.out.size))
  clear B
  have B := NB
  clear NB
  clear b59
  go_wp2_with fail
  go_ret
  exact ⟨rfl, B.out⟩
end Go.Proofs.YtngdpoeondnchaaGreat

set_option maxRecDepth 100000
set_option linter.unusedVariables false
set_option linter.unusedSimpArgs false
namespace Go.Proofs.YtngdpoeondnchaaGreat
open Go.RowKit

theorem unM_nums : Nums unM := refL_nums [] 0
/-- the part, convolved k times -/
def itC (p : List Int) : Nat → List Int
  | 0 => unM
  | n + 1 => cvZ (itC p n) p
theorem itC_len (p : List Int) (n : Nat) : (itC p n).length = 38 := by
  cases n with
  | zero => rfl
  | succ n => exact cvZ_len _ _
theorem itC_nums {p : List Int} (h : Nums p) (n : Nat) : Nums (itC p n) := by
  cases n with
  | zero => exact unM_nums
  | succ n => exact cvZ_nums h
theorem itC_head {p : List Int} (h : p.getD 0 0 = 1) (n : Nat) : (itC p n).getD 0 0 = 1 := by
  cases n with
  | zero => rfl
  | succ n => exact h
/-- the map, scaled by each step and convolved -/
def cmS (a steps : List Int) : Nat → List Int
  | 0 => unM
  | n + 1 => cvZ (cmS a steps n) (scZ a (steps.getD n 0))
theorem cmS_len (a steps : List Int) (n : Nat) : (cmS a steps n).length = 38 := by
  cases n with
  | zero => rfl
  | succ n => exact cvZ_len _ _
theorem cmS_nums (a steps : List Int) (n : Nat) : Nums (cmS a steps n) := by
  cases n with
  | zero => exact unM_nums
  | succ n => exact cvZ_nums (scZ_nums _ _)
theorem cmS_head {a : List Int} (hN : Nums a) (h : a.getD 0 0 = 1) (steps : List Int) (n : Nat) : (cmS a steps n).getD 0 0 = 1 := by
  cases n with
  | zero => rfl
  | succ n => show (scZ a (steps.getD n 0)).getD 0 0 = 1; rw [scZ_head hN, h]
end Go.Proofs.YtngdpoeondnchaaGreat

