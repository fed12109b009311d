/- The law FnExactSubstituteMap, walked over the contracts of both. (printed by lawgen3.py) | slices.SortFunc at partitions: laid. | Walks: the comparison of partitions; slices.SortFunc at partitions. -/
import Derived.Test.YtheldcjiogpbjaaGreatG2
import Derived.WalkLawsBesides
import Derived.Deep.RegionHeld3
import Derived.Test.YtheldcjiogpbjaaGreatG4
import Derived.Shelf.SlSortCmp.WholeK
import Derived.Shelf.SlSortCmp.NoneTotal
import Derived.Shelf.SlGeneric
import Derived.Ground.SlsfProg
import Derived.Test.YtheldcjiogpbjaaGreatG8
set_option linter.unusedVariables false
set_option linter.unusedSimpArgs false
namespace Go.Proofs.YtheldcjiogpbjaaGreat
open Go.RowKit

set_option maxRecDepth 100000 in
set_option maxHeartbeats 8000000 in
theorem law_FnExactSubstituteMap_gen (w : World) (v0 : Value) (zs0 : List Int) (ha0 : Ints w v0 zs0) (v1 : Value) (zs1 : List Int) (ha1 : Ints w v1 zs1) (r : List Int) (c : Int) (hR : zs0.length ≤ 1048576 → zs1.length ≤ 1048576 → r.length ≤ 1048576)
    (hS : zs0.length ≤ 1048576 → zs1.length ≤ 1048576 → ∀ (W : World) (v0 v1 : Value), Ints W v0 zs0 → Ints W v1 zs1 → Calls Tryz.prog 15 #[v0, v1] W fun e w' => ∃ u, e = .returned (.tuple #[u, .int .i64 c]) ∧ OI w' W.heap.size w'.heap.size tI u r ∧ Below W.heap.size W w')
    (hI : zs0.length ≤ 1048576 → zs1.length ≤ 1048576 → ∀ (W : World) (v0 v1 : Value), Ints W v0 zs0 → Ints W v1 zs1 → Calls Tryz.prog 17 #[v0, v1] W fun e w' => ∃ u, e = .returned (.tuple #[u, .int .i64 c]) ∧ OI w' W.heap.size w'.heap.size tI u r ∧ Below W.heap.size W w') :
    Calls Tryz.prog 3 #[v0, v1] w fun e w' => e = .returned (.bool true) ∧ Below w.heap.size w w' := by
  have B := Lib.hid (Below.refl w.heap.size w)
  have HS := Lib.hid hS
  have HI := Lib.hid hI
  clear hS hI
  have HR := Lib.hid hR
  clear hR
  have HA0 := Lib.hid ha0
  obtain ⟨A0, c0, rfl, -, -, -⟩ := ha0.open_
  clear ha0
  have HA1 := Lib.hid ha1
  obtain ⟨A1, c1, rfl, -, -, -⟩ := ha1.open_
  clear ha1
  go_enter Tryz.func3, Tryz.ntmps3
  by_cases hbig0 : (1048576 : Int) < (zs0.length : Int)
  · go_wp2_with fail
    go_ret
    exact ⟨rfl, Below.refl _ _⟩
  have hsm0 : zs0.length ≤ 1048576 := by omega
  by_cases hbig1 : (1048576 : Int) < (zs1.length : Int)
  · go_wp2_with fail
    go_ret
    exact ⟨rfl, Below.refl _ _⟩
  have hsm1 : zs1.length ≤ 1048576 := by omega
  go_wp2_with fail
  have HS := Lib.hid (HS.out hsm0 hsm1)
  have HI := Lib.hid (HI.out hsm0 hsm1)
  have HR := Lib.hid (HR.out hsm0 hsm1)
  refine (n_to_ints _ _ zs0 (HA0.out.below B.out) (by omega)).mono ?_
  rintro e w1 ⟨xT0, rfl, hT0, b2⟩
  have Z3 := Lib.hid (b2.size)
  have NB := Lib.hid (B.out.trans (b2.mono B.out.size))
  clear B
  have B := NB
  clear NB
  clear b2
  have T0 := Lib.hid hT0
  clear hT0
  go_wp2_with fail
  refine (n_to_ints _ _ zs1 (HA1.out.below B.out) (by omega)).mono ?_
  rintro e w4 ⟨xT1, rfl, hT1, b5⟩
  have Z6 := Lib.hid (b5.size)
  have NT0 := Lib.hid (T0.out.below b5)
  clear T0
  have T0 := NT0
  clear NT0
  have NB := Lib.hid (B.out.trans (b5.mono B.out.size))
  clear B
  have B := NB
  clear NB
  clear b5
  have T1 := Lib.hid hT1
  clear hT1
  go_wp2_with fail
  refine (HS.out _ _ _ T0.out.ints T1.out.ints).mono ?_
  rintro e w7 ⟨xW, rfl, hW, b8⟩
  have Z9 := Lib.hid (b8.size)
  have NT0 := Lib.hid (T0.out.below b8)
  clear T0
  have T0 := NT0
  clear NT0
  have NT1 := Lib.hid (T1.out.below b8)
  clear T1
  have T1 := NT1
  clear NT1
  have NB := Lib.hid (B.out.trans (b8.mono B.out.size))
  clear B
  have B := NB
  clear NB
  clear b8
  have W := Lib.hid hW
  clear hW
  clear T0
  clear T1
  go_wp2_with fail
  refine (n_to_ints _ _ zs0 (HA0.out.below B.out) (by omega)).mono ?_
  rintro e w10 ⟨xX0, rfl, hX0, b11⟩
  have Z12 := Lib.hid (b11.size)
  have NW := Lib.hid (W.out.below b11)
  clear W
  have W := NW
  clear NW
  have NB := Lib.hid (B.out.trans (b11.mono B.out.size))
  clear B
  have B := NB
  clear NB
  clear b11
  have X0 := Lib.hid hX0
  clear hX0
  go_wp2_with fail
  refine (n_to_ints _ _ zs1 (HA1.out.below B.out) (by omega)).mono ?_
  rintro e w13 ⟨xX1, rfl, hX1, b14⟩
  have Z15 := Lib.hid (b14.size)
  have NW := Lib.hid (W.out.below b14)
  clear W
  have W := NW
  clear NW
  have NX0 := Lib.hid (X0.out.below b14)
  clear X0
  have X0 := NX0
  clear NX0
  have NB := Lib.hid (B.out.trans (b14.mono B.out.size))
  clear B
  have B := NB
  clear NB
  clear b14
  have X1 := Lib.hid hX1
  clear hX1
  go_wp2_with fail
  refine (HI.out _ _ _ X0.out.ints X1.out.ints).mono ?_
  rintro e w16 ⟨xG, rfl, hG, b17⟩
  have Z18 := Lib.hid (b17.size)
  have NW := Lib.hid (W.out.below b17)
  clear W
  have W := NW
  clear NW
  have NX0 := Lib.hid (X0.out.below b17)
  clear X0
  have X0 := NX0
  clear NX0
  have NX1 := Lib.hid (X1.out.below b17)
  clear X1
  have X1 := NX1
  clear NX1
  have NB := Lib.hid (B.out.trans (b17.mono B.out.size))
  clear B
  have B := NB
  clear NB
  clear b17
  have G := Lib.hid hG
  clear hG
  go_wp2_with fail
  refine (n_eq_ints _ _ _ r G.out.ints W.out.ints).mono ?_
  rintro e w19 ⟨rfl, b20⟩
  have Z21 := Lib.hid (b20.size)
  have NW := Lib.hid (W.out.below b20)
  clear W
  have W := NW
  clear NW
  have NX0 := Lib.hid (X0.out.below b20)
  clear X0
  have X0 := NX0
  clear NX0
  have NX1 := Lib.hid (X1.out.below b20)
  clear X1
  have X1 := NX1
  clear NX1
  have NG := Lib.hid (G.out.below b20)
  clear G
  have G := NG
  clear NG
  have NB := Lib.hid (B.out.trans (b20.mono B.out.size))
  clear B
  have B := NB
  clear NB
  clear b20
  go_wp2_with fail
  refine (n_to_ints _ _ zs0 (HA0.out.below B.out) (by omega)).mono ?_
  rintro e w22 ⟨xY0, rfl, hY0, b23⟩
  have Z24 := Lib.hid (b23.size)
  have NW := Lib.hid (W.out.below b23)
  clear W
  have W := NW
  clear NW
  have NX0 := Lib.hid (X0.out.below b23)
  clear X0
  have X0 := NX0
  clear NX0
  have NX1 := Lib.hid (X1.out.below b23)
  clear X1
  have X1 := NX1
  clear NX1
  have NG := Lib.hid (G.out.below b23)
  clear G
  have G := NG
  clear NG
  have NB := Lib.hid (B.out.trans (b23.mono B.out.size))
  clear B
  have B := NB
  clear NB
  clear b23
  have Y0 := Lib.hid hY0
  clear hY0
  go_wp2_with fail
  refine (n_eq_ints _ _ _ zs0 X0.out.ints Y0.out.ints).mono ?_
  rintro e w25 ⟨rfl, b26⟩
  have Z27 := Lib.hid (b26.size)
  have NW := Lib.hid (W.out.below b26)
  clear W
  have W := NW
  clear NW
  have NX0 := Lib.hid (X0.out.below b26)
  clear X0
  have X0 := NX0
  clear NX0
  have NX1 := Lib.hid (X1.out.below b26)
  clear X1
  have X1 := NX1
  clear NX1
  have NG := Lib.hid (G.out.below b26)
  clear G
  have G := NG
  clear NG
  have NY0 := Lib.hid (Y0.out.below b26)
  clear Y0
  have Y0 := NY0
  clear NY0
  have NB := Lib.hid (B.out.trans (b26.mono B.out.size))
  clear B
  have B := NB
  clear NB
  clear b26
  clear Y0
  go_wp2_with fail
  refine (n_to_ints _ _ zs1 (HA1.out.below B.out) (by omega)).mono ?_
  rintro e w28 ⟨xY1, rfl, hY1, b29⟩
  have Z30 := Lib.hid (b29.size)
  have NW := Lib.hid (W.out.below b29)
  clear W
  have W := NW
  clear NW
  have NX0 := Lib.hid (X0.out.below b29)
  clear X0
  have X0 := NX0
  clear NX0
  have NX1 := Lib.hid (X1.out.below b29)
  clear X1
  have X1 := NX1
  clear NX1
  have NG := Lib.hid (G.out.below b29)
  clear G
  have G := NG
  clear NG
  have NB := Lib.hid (B.out.trans (b29.mono B.out.size))
  clear B
  have B := NB
  clear NB
  clear b29
  have Y1 := Lib.hid hY1
  clear hY1
  go_wp2_with fail
  refine (n_eq_ints _ _ _ zs1 X1.out.ints Y1.out.ints).mono ?_
  rintro e w31 ⟨rfl, b32⟩
  have Z33 := Lib.hid (b32.size)
  have NW := Lib.hid (W.out.below b32)
  clear W
  have W := NW
  clear NW
  have NX0 := Lib.hid (X0.out.below b32)
  clear X0
  have X0 := NX0
  clear NX0
  have NX1 := Lib.hid (X1.out.below b32)
  clear X1
  have X1 := NX1
  clear NX1
  have NG := Lib.hid (G.out.below b32)
  clear G
  have G := NG
  clear NG
  have NY1 := Lib.hid (Y1.out.below b32)
  clear Y1
  have Y1 := NY1
  clear NY1
  have NB := Lib.hid (B.out.trans (b32.mono B.out.size))
  clear B
  have B := NB
  clear NB
  clear b32
  clear Y1
  go_wp2_with fail
  refine (n_mark_ints _ _ _ _ zs0 (1) X0.out (by omega) (by omega) (by omega)).mono ?_
  rintro e w34 ⟨rfl, -, chw34⟩
  have Z35 := Lib.hid (chw34.size)
  have NW := Lib.hid (W.out.kept chw34 (by have y0 := Z3.out; have y1 := Z6.out; have y2 := Z9.out; have y3 := Z12.out; have y4 := Z15.out; have y5 := Z18.out; have y6 := Z21.out; have y7 := Z24.out; have y8 := Z27.out; have y9 := Z30.out; have y10 := Z33.out; have y11 := Z35.out; omega))
  clear W
  have W := NW
  clear NW
  have NX1 := Lib.hid (X1.out.kept chw34 (by have y0 := Z3.out; have y1 := Z6.out; have y2 := Z9.out; have y3 := Z12.out; have y4 := Z15.out; have y5 := Z18.out; have y6 := Z21.out; have y7 := Z24.out; have y8 := Z27.out; have y9 := Z30.out; have y10 := Z33.out; have y11 := Z35.out; omega))
  clear X1
  have X1 := NX1
  clear NX1
  have NG := Lib.hid (G.out.kept chw34 (by have y0 := Z3.out; have y1 := Z6.out; have y2 := Z9.out; have y3 := Z12.out; have y4 := Z15.out; have y5 := Z18.out; have y6 := Z21.out; have y7 := Z24.out; have y8 := Z27.out; have y9 := Z30.out; have y10 := Z33.out; have y11 := Z35.out; omega))
  clear G
  have G := NG
  clear NG
  clear X0
  have NB := Lib.hid (chw34.below B.out (by have y0 := Z3.out; have y1 := Z6.out; have y2 := Z9.out; have y3 := Z12.out; have y4 := Z15.out; have y5 := Z18.out; have y6 := Z21.out; have y7 := Z24.out; have y8 := Z27.out; have y9 := Z30.out; have y10 := Z33.out; have y11 := Z35.out; omega) B.out.size)
  clear B
  have B := NB
  clear NB
  clear chw34
  go_wp2_with fail
  refine (n_mark_ints _ _ _ _ zs1 (1 + (zs0.length : Int)) X1.out (by omega) (by omega) (by omega)).mono ?_
  rintro e w36 ⟨rfl, -, chw36⟩
  have Z37 := Lib.hid (chw36.size)
  have NW := Lib.hid (W.out.kept chw36 (by have y0 := Z3.out; have y1 := Z6.out; have y2 := Z9.out; have y3 := Z12.out; have y4 := Z15.out; have y5 := Z18.out; have y6 := Z21.out; have y7 := Z24.out; have y8 := Z27.out; have y9 := Z30.out; have y10 := Z33.out; have y11 := Z35.out; have y12 := Z37.out; omega))
  clear W
  have W := NW
  clear NW
  have NG := Lib.hid (G.out.kept chw36 (by have y0 := Z3.out; have y1 := Z6.out; have y2 := Z9.out; have y3 := Z12.out; have y4 := Z15.out; have y5 := Z18.out; have y6 := Z21.out; have y7 := Z24.out; have y8 := Z27.out; have y9 := Z30.out; have y10 := Z33.out; have y11 := Z35.out; have y12 := Z37.out; omega))
  clear G
  have G := NG
  clear NG
  clear X1
  have NB := Lib.hid (chw36.below B.out (by have y0 := Z3.out; have y1 := Z6.out; have y2 := Z9.out; have y3 := Z12.out; have y4 := Z15.out; have y5 := Z18.out; have y6 := Z21.out; have y7 := Z24.out; have y8 := Z27.out; have y9 := Z30.out; have y10 := Z33.out; have y11 := Z35.out; have y12 := Z37.out; omega) B.out.size)
  clear B
  have B := NB
  clear NB
  clear chw36
  have hk0 : (0 : Int) ≤ 1 + (zs0.length : Int) + (zs1.length : Int) := by omega
  go_wp2_with fail
  clear hk0
  refine (n_eq_ints _ _ _ r G.out.ints W.out.ints).mono ?_
  rintro e w38 ⟨rfl, b39⟩
  have Z40 := Lib.hid (b39.size)
  have NW := Lib.hid (W.out.below b39)
  clear W
  have W := NW
  clear NW
  have NG := Lib.hid (G.out.below b39)
  clear G
  have G := NG
  clear NG
  have NB := Lib.hid (B.out.trans (b39.mono B.out.size))
  clear B
  have B := NB
  clear NB
  clear b39
  go_wp2_with fail
  have hr0 : (0 : Int) ≤ 1 + ((r.length : Nat) : Int) := by omega
  refine (n_mark_ints _ _ _ _ r 1 G.out (by have y := HR.out; omega) (by omega) (by omega)).mono ?_
  rintro e w41 ⟨rfl, hw41, chw41⟩
  have Z42 := Lib.hid (chw41.size)
  have NW := Lib.hid (W.out.kept chw41 (by have y0 := Z3.out; have y1 := Z6.out; have y2 := Z9.out; have y3 := Z12.out; have y4 := Z15.out; have y5 := Z18.out; have y6 := Z21.out; have y7 := Z24.out; have y8 := Z27.out; have y9 := Z30.out; have y10 := Z33.out; have y11 := Z35.out; have y12 := Z37.out; have y13 := Z40.out; have y14 := Z42.out; omega))
  clear W
  have W := NW
  clear NW
  have NG := Lib.hid (hw41)
  clear G
  have G := NG
  clear NG
  have NB := Lib.hid (chw41.below B.out (by have y0 := Z3.out; have y1 := Z6.out; have y2 := Z9.out; have y3 := Z12.out; have y4 := Z15.out; have y5 := Z18.out; have y6 := Z21.out; have y7 := Z24.out; have y8 := Z27.out; have y9 := Z30.out; have y10 := Z33.out; have y11 := Z35.out; have y12 := Z37.out; have y13 := Z40.out; have y14 := Z42.out; omega) B.out.size)
  clear B
  have B := NB
  clear NB
  clear hw41 chw41
  go_wp2_with fail
  refine (n_held_ints _ _ r.length G.out.ints (by have y := HR.out; omega)).mono ?_
  rintro e w43 ⟨rfl, b44⟩
  have Z45 := Lib.hid (b44.size)
  have NW := Lib.hid (W.out.below b44)
  clear W
  have W := NW
  clear NW
  have NG := Lib.hid (G.out.below b44)
  clear G
  have G := NG
  clear NG
  have NB := Lib.hid (B.out.trans (b44.mono B.out.size))
  clear B
  have B := NB
  clear NB
  clear b44
  go_wp2_with fail
  refine (n_to_ints _ _ zs0 (HA0.out.below B.out) (by omega)).mono ?_
  rintro e w46 ⟨xV0, rfl, hV0, b47⟩
  have Z48 := Lib.hid (b47.size)
  have NW := Lib.hid (W.out.below b47)
  clear W
  have W := NW
  clear NW
  have NG := Lib.hid (G.out.below b47)
  clear G
  have G := NG
  clear NG
  have NB := Lib.hid (B.out.trans (b47.mono B.out.size))
  clear B
  have B := NB
  clear NB
  clear b47
  have V0 := Lib.hid hV0
  clear hV0
  go_wp2_with fail
  refine (n_to_ints _ _ zs1 (HA1.out.below B.out) (by omega)).mono ?_
  rintro e w49 ⟨xV1, rfl, hV1, b50⟩
  have Z51 := Lib.hid (b50.size)
  have NW := Lib.hid (W.out.below b50)
  clear W
  have W := NW
  clear NW
  have NG := Lib.hid (G.out.below b50)
  clear G
  have G := NG
  clear NG
  have NV0 := Lib.hid (V0.out.below b50)
  clear V0
  have V0 := NV0
  clear NV0
  have NB := Lib.hid (B.out.trans (b50.mono B.out.size))
  clear B
  have B := NB
  clear NB
  clear b50
  have V1 := Lib.hid hV1
  clear hV1
  go_wp2_with fail
  refine (HI.out _ _ _ V0.out.ints V1.out.ints).mono ?_
  rintro e w52 ⟨xH, rfl, hH, b53⟩
  have Z54 := Lib.hid (b53.size)
  have NW := Lib.hid (W.out.below b53)
  clear W
  have W := NW
  clear NW
  have NG := Lib.hid (G.out.below b53)
  clear G
  have G := NG
  clear NG
  have NV0 := Lib.hid (V0.out.below b53)
  clear V0
  have V0 := NV0
  clear NV0
  have NV1 := Lib.hid (V1.out.below b53)
  clear V1
  have V1 := NV1
  clear NV1
  have NB := Lib.hid (B.out.trans (b53.mono B.out.size))
  clear B
  have B := NB
  clear NB
  clear b53
  have H := Lib.hid hH
  clear hH
  clear V0
  clear V1
  go_wp2_with fail
  refine (n_eq_ints _ _ _ r H.out.ints W.out.ints).mono ?_
  rintro e w55 ⟨rfl, b56⟩
  have Z57 := Lib.hid (b56.size)
  have NW := Lib.hid (W.out.below b56)
  clear W
  have W := NW
  clear NW
  have NG := Lib.hid (G.out.below b56)
  clear G
  have G := NG
  clear NG
  have NH := Lib.hid (H.out.below b56)
  clear H
  have H := NH
  clear NH
  have NB := Lib.hid (B.out.trans (b56.mono B.out.size))
  clear B
  have B := NB
  clear NB
  clear b56
  go_wp2_with fail
  refine (n_held_ints _ _ r.length G.out.ints (by have y := HR.out; omega)).mono ?_
  rintro e w58 ⟨rfl, b59⟩
  have Z60 := Lib.hid (b59.size)
  have NW := Lib.hid (W.out.below b59)
  clear W
  have W := NW
  clear NW
  have NG := Lib.hid (G.out.below b59)
  clear G
  have G := NG
  clear NG
  have NH := Lib.hid (H.out.below b59)
  clear H
  have H := NH
  clear NH
  have NB := Lib.hid (B.out.trans (b59.mono B.out.size))
  clear B
  have B := NB
  clear NB
  clear b59
  go_wp2_with fail
  go_ret
  exact ⟨rfl, B.out⟩
end Go.Proofs.YtheldcjiogpbjaaGreat
set_option maxRecDepth 100000
namespace Go.Proofs
open Go.Shelf Go.RowKit Go.Lib Go.Sort
def Tryz.psort_ren : Go.Shelf.Ren := ⟨fun | 6 => 130 | 15 => 158 | 14 => 157 | 28 => 191 | 29 => 192 | 20 => 183 | 21 => 184 | 22 => 185 | 23 => 186 | 24 => 187 | 25 => 188 | 26 => 189 | 27 => 190 | 46 => 204 | 47 => 205 | 48 => 206 | 49 => 207 | 50 => 208 | 57 => 223 | n => n, fun | 22 => 76 | 24 => 79 | 25 => 104 | 3 => 3 | 39 => 131 | 0 => 0 | 53 => 156 | 55 => 68 | 4 => 4 | 46 => 150 | 45 => 149 | 50 => 117 | 5 => 5 | 9 => 9 | 66 => 166 | 70 => 170 | 76 => 182 | 77 => 183 | n => n, fun | n => n⟩
theorem Tryz.psort : Go.Proofs.SlLaysF0.n6 Tryz.prog Tryz.psort_ren := {
  mixed := by kernel_rfl
  f6 := ⟨Tryz.f130.name, by decide, Tryz.func130.trans (congrArg some (by kernel_rfl))⟩
  f14 := ⟨Tryz.f157.name, by decide, Tryz.func157.trans (congrArg some (by kernel_rfl))⟩
  f15 := Tryz.func158.trans (congrArg some (by kernel_rfl))
  f20 := ⟨Tryz.f183.name, by decide, Tryz.func183.trans (congrArg some (by kernel_rfl))⟩
  f21 := ⟨Tryz.f184.name, by decide, Tryz.func184.trans (congrArg some (by kernel_rfl))⟩
  f22 := ⟨Tryz.f185.name, by decide, Tryz.func185.trans (congrArg some (by kernel_rfl))⟩
  f23 := ⟨Tryz.f186.name, by decide, Tryz.func186.trans (congrArg some (by kernel_rfl))⟩
  f24 := ⟨Tryz.f187.name, by decide, Tryz.func187.trans (congrArg some (by kernel_rfl))⟩
  f25 := ⟨Tryz.f188.name, by decide, Tryz.func188.trans (congrArg some (by kernel_rfl))⟩
  f26 := ⟨Tryz.f189.name, by decide, Tryz.func189.trans (congrArg some (by kernel_rfl))⟩
  f27 := ⟨Tryz.f190.name, by decide, Tryz.func190.trans (congrArg some (by kernel_rfl))⟩
  f28 := Tryz.func191.trans (congrArg some (by kernel_rfl))
  f29 := Tryz.func192.trans (congrArg some (by kernel_rfl))
  f46 := ⟨Tryz.f204.name, by decide, Tryz.func204.trans (congrArg some (by kernel_rfl))⟩
  f47 := Tryz.func205.trans (congrArg some (by kernel_rfl))
  f48 := Tryz.func206.trans (congrArg some (by kernel_rfl))
  f49 := ⟨Tryz.f207.name, by decide, Tryz.func207.trans (congrArg some (by kernel_rfl))⟩
  f50 := ⟨Tryz.f208.name, by decide, Tryz.func208.trans (congrArg some (by kernel_rfl))⟩
  f57 := ⟨Tryz.f223.name, by decide, Tryz.func223.trans (congrArg some (by kernel_rfl))⟩
  t0 := Tryz.underlying0
  a0 := Tryz.isAgg0
  z0 := Tryz.sizeOf0
  v0 := Tryz.zeroValue0
  t3 := Tryz.underlying3
  a3 := Tryz.isAgg3
  z3 := Tryz.sizeOf3
  v3 := Tryz.zeroValue3
  t4 := Tryz.underlying4
  a4 := Tryz.isAgg4
  z4 := Tryz.sizeOf4
  v4 := Tryz.zeroValue4
  t5 := Tryz.underlying5
  a5 := Tryz.isAgg5
  z5 := Tryz.sizeOf5
  v5 := Tryz.zeroValue5
  t9 := Tryz.underlying9
  a9 := Tryz.isAgg9
  z9 := Tryz.sizeOf9
  v9 := Tryz.zeroValue9
  t22 := Tryz.underlying76
  a22 := Tryz.isAgg76
  z22 := Tryz.sizeOf76
  v22 := Tryz.zeroValue76
  t25 := Tryz.underlying104
  a25 := Tryz.isAgg104
  z25 := Tryz.sizeOf104
  v25 := Tryz.zeroValue104
  t39 := Tryz.underlying131
  a39 := Tryz.isAgg131
  z39 := Tryz.sizeOf131
  v39 := Tryz.zeroValue131
  t45 := Tryz.underlying149
  a45 := Tryz.isAgg149
  z45 := Tryz.sizeOf149
  v45 := Tryz.zeroValue149
  t46 := Tryz.underlying150
  a46 := Tryz.isAgg150
  z46 := Tryz.sizeOf150
  v46 := Tryz.zeroValue150
  t50 := Tryz.underlying117
  a50 := Tryz.isAgg117
  z50 := Tryz.sizeOf117
  v50 := Tryz.zeroValue117
  t53 := Tryz.underlying156
  a53 := Tryz.isAgg156
  z53 := Tryz.sizeOf156
  v53 := Tryz.zeroValue156
  t55 := Tryz.underlying68
  a55 := Tryz.isAgg68
  z55 := Tryz.sizeOf68
  v55 := Tryz.zeroValue68
  t66 := Tryz.underlying166
  a66 := Tryz.isAgg166
  z66 := Tryz.sizeOf166
  v66 := Tryz.zeroValue166
  t70 := Tryz.underlying170
  a70 := Tryz.isAgg170
  z70 := Tryz.sizeOf170
  v70 := Tryz.zeroValue170
  t76 := Tryz.underlying182
  a76 := Tryz.isAgg182
  z76 := Tryz.sizeOf182
  v76 := Tryz.zeroValue182
  t77 := Tryz.underlying183
  a77 := Tryz.isAgg183
  z77 := Tryz.sizeOf183
  v77 := Tryz.zeroValue183 }
end Go.Proofs
set_option maxRecDepth 100000
set_option linter.unusedVariables false
set_option linter.unusedSimpArgs false
namespace Go.Proofs.YtheldcjiogpbjaaGreat
open Go.RowKit Go.Sort Go.Shelf

abbrev tPt : TypeId := 79
/-- pieces and skeleton -/
abbrev PK := List (List Nat) × List Nat
def cmpP (x y : PK) : Int := if cmpT (up x.2) (up y.2) = 0 then cmpFL x.1 y.1 else cmpT (up x.2) (up y.2)
/-- partitions: by the skeletons, then by the pieces -/
def ltP (x y : PK) : Bool := lexP befN (lexL befN) (x.2, x.1) (y.2, y.1)
theorem STO.ltP : STO ltP := (STO.bef.lexP STO.bef.lexL).pull (f := fun x : PK => (x.2, x.1)) fun {a b} h => by obtain ⟨a1, a2⟩ := a; obtain ⟨b1, b2⟩ := b; injection h with h1 h2; have h1 : a2 = b2 := h1; have h2 : a1 = b1 := h2; rw [h1, h2]
theorem cmpP_lt (x y : PK) : decide (cmpP x y < 0) = ltP x y := by
  obtain ⟨x1, x2⟩ := x; obtain ⟨y1, y2⟩ := y
  unfold cmpP Go.Proofs.YtheldcjiogpbjaaGreat.ltP lexP
  simp only
  by_cases h : cmpT (up x2) (up y2) = 0
  · have := cmpT_eq0.1 h
    subst this
    rw [if_pos h, befN_irrefl, cmpFL_lt]; rfl
  · rw [if_neg h]
    rcases cmpT_bef h with ⟨h1, h2⟩ | ⟨h1, h2, h3⟩
    · rw [h2]; exact decide_eq_true h1
    · rw [h2, h3]; exact decide_eq_false h1
theorem cmpP_zero (x y : PK) : cmpP x y = 0 ↔ x = y := by
  obtain ⟨x1, x2⟩ := x; obtain ⟨y1, y2⟩ := y
  unfold cmpP
  simp only
  by_cases h : cmpT (up x2) (up y2) = 0
  · rw [if_pos h, cmpFL_zero, cmpT_eq0.1 h]; simp
  · rw [if_neg h]
    constructor
    · intro h'; exact absurd h' h
    · intro h'; injection h' with h1 h2; exact absurd (cmpT_eq0.2 h2) h
abbrev ePt (n : Nat) : Elt PK := elt2 fldR fldI n
abbrev ePc : Elt (PK × Nat) := elt3 fldR fldI

set_option maxHeartbeats 4000000 in
theorem i_cmpPart (W : World) (B B' : Nat) (c c' : List Value) (x y : PK) (n m : Nat) (hx : ePc.D W B c (x, n)) (hy : ePc.D W B' c' (y, m)) :
    Calls Tryz.prog 127 #[.agg c.toArray, .agg c'.toArray] W fun e w' => e = .returned (.int .i64 (cmpP x y)) ∧ ∃ q os, w' = grow (W.drewN q) os := by
  obtain ⟨u, s, rfl, hu0, hs0⟩ := hx
  obtain ⟨u', s', rfl, hu0', hs0'⟩ := hy
  have hu := (show LA W B u (x.1.map up) from hu0).rows
  have hu' := (show LA W B' u' (y.1.map up) from hu0').rows
  have hs := (show OwnInts W B tI s (up x.2) from hs0).ints
  have hs' := (show OwnInts W B' tI s' (up y.2) from hs0').ints
  clear hu0 hu0' hs0 hs0'
  have HU := Lib.hid hu
  have HU' := Lib.hid hu'
  have HS := Lib.hid hs
  have HS' := Lib.hid hs'
  obtain ⟨A1, c1, rfl, -, -, -⟩ := hu.open_
  obtain ⟨A2, c2, rfl, -, -, -⟩ := hu'.open_
  obtain ⟨A3, c3, rfl, -, -, -⟩ := hs.open_
  obtain ⟨A4, c4, rfl, -, -, -⟩ := hs'.open_
  simp only [List.length_map, up_len] at HU HU' HS HS' ⊢
  obtain ⟨R, hR⟩ : ∃ R, R = cmpP x y := ⟨_, rfl⟩
  rw [← hR]
  have hR2 : R = if cmpT (up x.2) (up y.2) = 0 then cmpFL x.1 y.1 else cmpT (up x.2) (up y.2) := hR
  have hct := fun W h h' => i_compareTrees W (.slice A3 x.2.length c3) (.slice A4 y.2.length c4) (up x.2) (up y.2) h h'
  have HFL := Lib.hid (fun W h h' => lib_CompareTrees W (.slice A1 x.1.length c1) (.slice A2 y.1.length c2) x.1 y.1 h h')
  generalize cmpT (up x.2) (up y.2) = z at hR2 hct
  generalize cmpFL x.1 y.1 = z2 at hR2 HFL
  have HCT := Lib.hid hct
  clear hu hu' hs hs' hct hR
  have HBB := Lib.hid (fun o o' => show Below W.heap.size W ((W.alloc o).alloc o') from ((Below.refl W.heap.size W).alloc (Nat.le_refl _) _).alloc (by simp) _)
  by_cases hz : z = 0
  · subst hz
    rw [if_pos rfl] at hR2
    have HR := Lib.hid hR2
    clear hR2
    go_enter Tryz.func127, Tryz.ntmps127
    go_wp2_with (first
      | (go_at_call 128; go_loud (refine (HCT.out _ (HS.out.below (HBB.out _ _)) (HS'.out.below (HBB.out _ _))).mono ?_; rintro e w1 ⟨rfl, rfl⟩))
      | (go_at_call 129; go_loud (refine (HFL.out _ (HU.out.below (HBB.out _ _)) (HU'.out.below (HBB.out _ _))).mono ?_; rintro e w2 ⟨rfl, rfl⟩)))
    go_ret
    exact ⟨ret_i64 HR.out.symm, 0, _, by rw [alloc_eq_grow, alloc_eq_grow, grow_grow]; rfl⟩
  · rw [if_neg hz] at hR2
    have HR := Lib.hid hR2
    have hz2 : (z != 0) = true := by simpa using hz
    clear hR2
    go_enter Tryz.func127, Tryz.ntmps127
    go_wp2_with (first
      | (go_at_call 128; go_loud (refine (HCT.out _ (HS.out.below (HBB.out _ _)) (HS'.out.below (HBB.out _ _))).mono ?_; rintro e w1 ⟨rfl, rfl⟩)))
    go_ret
    exact ⟨ret_i64 HR.out.symm, 0, _, by rw [alloc_eq_grow, alloc_eq_grow, grow_grow]; rfl⟩

theorem lib_SortPart (w : World) (B cap : Nat) (A : Option Addr) (css : List (List Value)) (xs : List PK) (h : OwnK w B tPt 3 (.slice A css.length cap) css) (hr : Elts (ePt 1) w B css xs) (hn : css.length ≤ 1000000) :
    Calls Tryz.prog 130 #[.slice A css.length cap, .func (.func 127) #[] #[]] w fun e w' => e = .returned (.tuple #[]) ∧
      ∃ css', css'.length = css.length ∧ OwnK w' B tPt 3 (.slice A css.length cap) css' ∧ Elts (ePt 1) w' B css' (srtS ltP xs) ∧ w.grownBy w' (Value.ownBlock (.slice A css.length cap)) := by
  have aE : ∀ w, (isAgg tPt).run Tryz.prog w = .ok true w := fun w => by kernel_rfl
  have zE : ∀ w, (Go.sizeOf tPt).run Tryz.prog w = .ok 3 w := fun w => by kernel_rfl
  have eg : ∀ args w, (callFunc 127 args).run Tryz.prog w = .ok (.enter 127 args) w := enters_of Tryz.func127 (by kernel_rfl) rfl
  exact sort_elts Tryz.psort (ePt 1) (e := tPt) aE zE ltP STO.ltP cmpP cmpP_lt 127 eg (by decide) (by decide) (fun W B c c' x y hx hy => i_cmpPart W B B c c' x y 1 1 hx hy) w B cap A css xs h hr hn
end Go.Proofs.YtheldcjiogpbjaaGreat
