/- The walk of the law FnExactParseField from two contracts. Printed by lawgen4.py; the law. -/
import Derived.Test.YtnnfjjadehgmeaaGreatDoorPz12
import Derived.WalkLawsBesides
import Derived.Deep.RegionHeld3
import Derived.Deep.CutRange
import Derived.Deep.CutBlock
set_option maxRecDepth 100000
set_option linter.unusedVariables false
set_option linter.unusedSimpArgs false
namespace Go.Proofs.YtnnfjjadehgmeaaGreatDoor
open Go.RowKit

set_option maxRecDepth 100000 in
set_option maxHeartbeats 8000000 in
theorem law_FnExactParseField_gen (w : World) (l0 : List UInt8) (r : List (List Mono)) (c : Int) (nr : Int) (hnr : In64 nr) (hR : l0.length ≤ 1048576 → fTot r ≤ 1048576)
    (hS : l0.length ≤ 1048576 → ∀ (W : World), Below w.heap.size w W → Calls Tryz.prog 5 #[strB l0] W fun e w' => ∃ u, e = .returned (.tuple #[.agg #[.int .i64 nr, u], .int .i64 c]) ∧ FdO w' W.heap.size w'.heap.size u r ∧ Below W.heap.size W w')
    (hI : l0.length ≤ 1048576 → ∀ (W : World), Below w.heap.size w W → Calls Tryz.prog 6 #[strB l0] W fun e w' => ∃ u, e = .returned (.tuple #[.agg #[.int .i64 nr, u], .int .i64 c]) ∧ FdO w' W.heap.size w'.heap.size u r ∧ Below W.heap.size W w') :
    Calls Tryz.prog 3 #[strB l0] w fun e w' => e = .returned (.bool true) ∧ Below w.heap.size w w' := by
  have HNR := Lib.hid hnr
  clear hnr
  have B := Lib.hid (Below.refl w.heap.size w)
  have HS := Lib.hid hS
  have HI := Lib.hid hI
  clear hS hI
  have HR := Lib.hid hR
  clear hR
  go_enter Tryz.func3, Tryz.ntmps3
  by_cases hbig0 : (1048576 : Int) < (l0.length : Int)
  · go_wp2_with fail
    go_ret
    exact ⟨rfl, B.out⟩
  have hsm0 : l0.length ≤ 1048576 := by omega
  go_wp2_with fail
  have HS := Lib.hid (HS.out hsm0)
  have HI := Lib.hid (HI.out hsm0)
  have HR := Lib.hid (HR.out hsm0)
  refine (HS.out _  B.out ).mono ?_
  rintro e w1 ⟨xW, rfl, hW, b2⟩
  have Z3 := Lib.hid (b2.size)
  have NB := Lib.hid (B.out.trans (b2.mono B.out.size))
  clear B
  have B := NB
  clear NB
  clear b2
  obtain ⟨AaW, caW, eW, -⟩ := hW.mrows.open_
  subst eW
  have W := Lib.hid hW
  clear hW
  go_wp2_with fail
  obtain ⟨w4, hw4⟩ : ∃ x, x = w1.alloc (.cells #[.int .i64 nr, .slice AaW r.length caW] 24) := ⟨_, rfl⟩
  rw [← hw4]
  have b5 : Below w1.heap.size w1 w4 := by rw [hw4]; exact below1 _ _
  have Kw := Lib.hid (show Blk w4 w1.heap.size 24 #[.int .i64 nr, .slice AaW r.length caW] by rw [hw4]; exact Blk.new _ _ _)
  have ZSw := Lib.hid (show w1.heap.size + 1 ≤ w4.heap.size by rw [hw4]; exact Nat.le_of_eq (Array.size_push _).symm)
  have Z6 := Lib.hid (b5.size)
  have NW := Lib.hid (W.out.below b5)
  clear W
  have W := NW
  clear NW
  have NB := Lib.hid (B.out.trans (b5.mono B.out.size))
  clear B
  have B := NB
  clear NB
  clear b5 hw4
  refine (HI.out _  B.out ).mono ?_
  rintro e w7 ⟨xG, rfl, hG, b8⟩
  have Z9 := Lib.hid (b8.size)
  have NW := Lib.hid (W.out.below b8)
  clear W
  have W := NW
  clear NW
  have NKw := Lib.hid (Kw.out.below b8 (by have y0 := Z3.out; have y1 := Z6.out; have y2 := ZSw.out; have y3 := Z9.out; first | omega | (simp at *; omega)))
  clear Kw
  have Kw := NKw
  clear NKw
  have NB := Lib.hid (B.out.trans (b8.mono B.out.size))
  clear B
  have B := NB
  clear NB
  clear b8
  obtain ⟨AaG, caG, eG, -⟩ := hG.mrows.open_
  subst eG
  have G := Lib.hid hG
  clear hG
  have gKw0 : w7.cell? ⟨w1.heap.size, 0, none⟩ = some (.int .i64 nr) := Kw.out.cell 0
  have gKw1 : w7.cell? ⟨w1.heap.size, 1, none⟩ = some (.slice AaW r.length caW) := Kw.out.cell 1
  go_upto_region 5 with fail
  clear gKw0 gKw1
  obtain ⟨w10, hw10⟩ : ∃ x, x = w7.alloc (.cells #[.int .i64 nr, .slice AaG r.length caG] 24) := ⟨_, rfl⟩
  rw [← hw10]
  have b11 : Below w7.heap.size w7 w10 := by rw [hw10]; exact below1 _ _
  have Kg := Lib.hid (show Blk w10 w7.heap.size 24 #[.int .i64 nr, .slice AaG r.length caG] by rw [hw10]; exact Blk.new _ _ _)
  have ZSg := Lib.hid (show w7.heap.size + 1 ≤ w10.heap.size by rw [hw10]; exact Nat.le_of_eq (Array.size_push _).symm)
  have Z12 := Lib.hid (b11.size)
  have NW := Lib.hid (W.out.below b11)
  clear W
  have W := NW
  clear NW
  have NKw := Lib.hid (Kw.out.below b11 (by have y0 := Z3.out; have y1 := Z6.out; have y2 := ZSw.out; have y3 := Z9.out; have y4 := Z12.out; first | omega | (simp at *; omega)))
  clear Kw
  have Kw := NKw
  clear NKw
  have NG := Lib.hid (G.out.below b11)
  clear G
  have G := NG
  clear NG
  have NB := Lib.hid (B.out.trans (b11.mono B.out.size))
  clear B
  have B := NB
  clear NB
  clear b11 hw10
  have gKw0 : w10.cell? ⟨w1.heap.size, 0, none⟩ = some (.int .i64 nr) := Kw.out.cell 0
  have gKw1 : w10.cell? ⟨w1.heap.size, 1, none⟩ = some (.slice AaW r.length caW) := Kw.out.cell 1
  have gKg0 : w10.cell? ⟨w7.heap.size, 0, none⟩ = some (.int .i64 nr) := Kg.out.cell 0
  have gKg1 : w10.cell? ⟨w7.heap.size, 1, none⟩ = some (.slice AaG r.length caG) := Kg.out.cell 1
  go_wp2_with fail
  clear gKw0 gKw1 gKg0 gKg1
  refine (n_eq_field _ _ _ nr r HNR.out G.out.mrows W.out.mrows).mono ?_
  rintro e w13 ⟨rfl, b14⟩
  have Z15 := Lib.hid (b14.size)
  have NW := Lib.hid (W.out.below b14)
  clear W
  have W := NW
  clear NW
  have NKw := Lib.hid (Kw.out.below b14 (by have y0 := Z3.out; have y1 := Z6.out; have y2 := ZSw.out; have y3 := Z9.out; have y4 := Z12.out; have y5 := ZSg.out; have y6 := Z15.out; first | omega | (simp at *; omega)))
  clear Kw
  have Kw := NKw
  clear NKw
  have NG := Lib.hid (G.out.below b14)
  clear G
  have G := NG
  clear NG
  have NKg := Lib.hid (Kg.out.below b14 (by have y0 := Z3.out; have y1 := Z6.out; have y2 := ZSw.out; have y3 := Z9.out; have y4 := Z12.out; have y5 := ZSg.out; have y6 := Z15.out; first | omega | (simp at *; omega)))
  clear Kg
  have Kg := NKg
  clear NKg
  have NB := Lib.hid (B.out.trans (b14.mono B.out.size))
  clear B
  have B := NB
  clear NB
  clear b14
  have gKw0 : w13.cell? ⟨w1.heap.size, 0, none⟩ = some (.int .i64 nr) := Kw.out.cell 0
  have gKw1 : w13.cell? ⟨w1.heap.size, 1, none⟩ = some (.slice AaW r.length caW) := Kw.out.cell 1
  have gKg0 : w13.cell? ⟨w7.heap.size, 0, none⟩ = some (.int .i64 nr) := Kg.out.cell 0
  have gKg1 : w13.cell? ⟨w7.heap.size, 1, none⟩ = some (.slice AaG r.length caG) := Kg.out.cell 1
  go_wp2_with fail
  clear gKw0 gKw1 gKg0 gKg1
  have hr0 : (0 : Int) ≤ 1 + ((fTot r : Nat) : Int) := by omega
  refine (n_mark_fieldO _ _ _ _ _ r 1 G.out (by have y := HR.out; omega) (by omega) (by omega)).mono ?_
  rintro e w16 ⟨rfl, hw16, chw16⟩
  have Z17 := Lib.hid (chw16.size)
  have NW := Lib.hid (W.out.kept chw16 (by have y0 := Z3.out; have y1 := Z6.out; have y2 := ZSw.out; have y3 := Z9.out; have y4 := Z12.out; have y5 := ZSg.out; have y6 := Z15.out; have y7 := Z17.out; omega))
  clear W
  have W := NW
  clear NW
  have NKw := Lib.hid (Kw.out.chg chw16 (by have y0 := Z3.out; have y1 := Z6.out; have y2 := ZSw.out; have y3 := Z9.out; have y4 := Z12.out; have y5 := ZSg.out; have y6 := Z15.out; have y7 := Z17.out; omega))
  clear Kw
  have Kw := NKw
  clear NKw
  have NKg := Lib.hid (Kg.out.chg chw16 (by have y0 := Z3.out; have y1 := Z6.out; have y2 := ZSw.out; have y3 := Z9.out; have y4 := Z12.out; have y5 := ZSg.out; have y6 := Z15.out; have y7 := Z17.out; omega))
  clear Kg
  have Kg := NKg
  clear NKg
  have NG := Lib.hid (hw16)
  clear G
  have G := NG
  clear NG
  have NB := Lib.hid (chw16.below B.out (by have y0 := Z3.out; have y1 := Z6.out; have y2 := ZSw.out; have y3 := Z9.out; have y4 := Z12.out; have y5 := ZSg.out; have y6 := Z15.out; have y7 := Z17.out; omega) B.out.size)
  clear B
  have B := NB
  clear NB
  clear hw16 chw16
  have gKw0 : w16.cell? ⟨w1.heap.size, 0, none⟩ = some (.int .i64 nr) := Kw.out.cell 0
  have gKw1 : w16.cell? ⟨w1.heap.size, 1, none⟩ = some (.slice AaW r.length caW) := Kw.out.cell 1
  have gKg0 : w16.cell? ⟨w7.heap.size, 0, none⟩ = some (.int .i64 nr) := Kg.out.cell 0
  have gKg1 : w16.cell? ⟨w7.heap.size, 1, none⟩ = some (.slice AaG r.length caG) := Kg.out.cell 1
  go_wp2_with fail
  clear gKw0 gKw1 gKg0 gKg1
  refine (n_held_field _ _ _ r G.out.mrows (by have y := HR.out; omega)).mono ?_
  rintro e w18 ⟨rfl, b19⟩
  have Z20 := Lib.hid (b19.size)
  have NW := Lib.hid (W.out.below b19)
  clear W
  have W := NW
  clear NW
  have NKw := Lib.hid (Kw.out.below b19 (by have y0 := Z3.out; have y1 := Z6.out; have y2 := ZSw.out; have y3 := Z9.out; have y4 := Z12.out; have y5 := ZSg.out; have y6 := Z15.out; have y7 := Z17.out; have y8 := Z20.out; first | omega | (simp at *; omega)))
  clear Kw
  have Kw := NKw
  clear NKw
  have NG := Lib.hid (G.out.below b19)
  clear G
  have G := NG
  clear NG
  have NKg := Lib.hid (Kg.out.below b19 (by have y0 := Z3.out; have y1 := Z6.out; have y2 := ZSw.out; have y3 := Z9.out; have y4 := Z12.out; have y5 := ZSg.out; have y6 := Z15.out; have y7 := Z17.out; have y8 := Z20.out; first | omega | (simp at *; omega)))
  clear Kg
  have Kg := NKg
  clear NKg
  have NB := Lib.hid (B.out.trans (b19.mono B.out.size))
  clear B
  have B := NB
  clear NB
  clear b19
  have gKw0 : w18.cell? ⟨w1.heap.size, 0, none⟩ = some (.int .i64 nr) := Kw.out.cell 0
  have gKw1 : w18.cell? ⟨w1.heap.size, 1, none⟩ = some (.slice AaW r.length caW) := Kw.out.cell 1
  have gKg0 : w18.cell? ⟨w7.heap.size, 0, none⟩ = some (.int .i64 nr) := Kg.out.cell 0
  have gKg1 : w18.cell? ⟨w7.heap.size, 1, none⟩ = some (.slice AaG r.length caG) := Kg.out.cell 1
  go_wp2_with fail
  clear gKw0 gKw1 gKg0 gKg1
  refine (HI.out _  B.out ).mono ?_
  rintro e w21 ⟨xH, rfl, hH, b22⟩
  have Z23 := Lib.hid (b22.size)
  have NW := Lib.hid (W.out.below b22)
  clear W
  have W := NW
  clear NW
  have NKw := Lib.hid (Kw.out.below b22 (by have y0 := Z3.out; have y1 := Z6.out; have y2 := ZSw.out; have y3 := Z9.out; have y4 := Z12.out; have y5 := ZSg.out; have y6 := Z15.out; have y7 := Z17.out; have y8 := Z20.out; have y9 := Z23.out; first | omega | (simp at *; omega)))
  clear Kw
  have Kw := NKw
  clear NKw
  have NG := Lib.hid (G.out.below b22)
  clear G
  have G := NG
  clear NG
  have NKg := Lib.hid (Kg.out.below b22 (by have y0 := Z3.out; have y1 := Z6.out; have y2 := ZSw.out; have y3 := Z9.out; have y4 := Z12.out; have y5 := ZSg.out; have y6 := Z15.out; have y7 := Z17.out; have y8 := Z20.out; have y9 := Z23.out; first | omega | (simp at *; omega)))
  clear Kg
  have Kg := NKg
  clear NKg
  have NB := Lib.hid (B.out.trans (b22.mono B.out.size))
  clear B
  have B := NB
  clear NB
  clear b22
  obtain ⟨AaH, caH, eH, -⟩ := hH.mrows.open_
  subst eH
  have H := Lib.hid hH
  clear hH
  have gKw0 : w21.cell? ⟨w1.heap.size, 0, none⟩ = some (.int .i64 nr) := Kw.out.cell 0
  have gKw1 : w21.cell? ⟨w1.heap.size, 1, none⟩ = some (.slice AaW r.length caW) := Kw.out.cell 1
  have gKg0 : w21.cell? ⟨w7.heap.size, 0, none⟩ = some (.int .i64 nr) := Kg.out.cell 0
  have gKg1 : w21.cell? ⟨w7.heap.size, 1, none⟩ = some (.slice AaG r.length caG) := Kg.out.cell 1
  go_upto_region 16 with fail
  clear gKw0 gKw1 gKg0 gKg1
  obtain ⟨w24, hw24⟩ : ∃ x, x = w21.alloc (.cells #[.int .i64 nr, .slice AaH r.length caH] 24) := ⟨_, rfl⟩
  rw [← hw24]
  have b25 : Below w21.heap.size w21 w24 := by rw [hw24]; exact below1 _ _
  have Kh := Lib.hid (show Blk w24 w21.heap.size 24 #[.int .i64 nr, .slice AaH r.length caH] by rw [hw24]; exact Blk.new _ _ _)
  have ZSh := Lib.hid (show w21.heap.size + 1 ≤ w24.heap.size by rw [hw24]; exact Nat.le_of_eq (Array.size_push _).symm)
  have Z26 := Lib.hid (b25.size)
  have NW := Lib.hid (W.out.below b25)
  clear W
  have W := NW
  clear NW
  have NKw := Lib.hid (Kw.out.below b25 (by have y0 := Z3.out; have y1 := Z6.out; have y2 := ZSw.out; have y3 := Z9.out; have y4 := Z12.out; have y5 := ZSg.out; have y6 := Z15.out; have y7 := Z17.out; have y8 := Z20.out; have y9 := Z23.out; have y10 := Z26.out; first | omega | (simp at *; omega)))
  clear Kw
  have Kw := NKw
  clear NKw
  have NG := Lib.hid (G.out.below b25)
  clear G
  have G := NG
  clear NG
  have NKg := Lib.hid (Kg.out.below b25 (by have y0 := Z3.out; have y1 := Z6.out; have y2 := ZSw.out; have y3 := Z9.out; have y4 := Z12.out; have y5 := ZSg.out; have y6 := Z15.out; have y7 := Z17.out; have y8 := Z20.out; have y9 := Z23.out; have y10 := Z26.out; first | omega | (simp at *; omega)))
  clear Kg
  have Kg := NKg
  clear NKg
  have NH := Lib.hid (H.out.below b25)
  clear H
  have H := NH
  clear NH
  have NB := Lib.hid (B.out.trans (b25.mono B.out.size))
  clear B
  have B := NB
  clear NB
  clear b25 hw24
  have gKw0 : w24.cell? ⟨w1.heap.size, 0, none⟩ = some (.int .i64 nr) := Kw.out.cell 0
  have gKw1 : w24.cell? ⟨w1.heap.size, 1, none⟩ = some (.slice AaW r.length caW) := Kw.out.cell 1
  have gKg0 : w24.cell? ⟨w7.heap.size, 0, none⟩ = some (.int .i64 nr) := Kg.out.cell 0
  have gKg1 : w24.cell? ⟨w7.heap.size, 1, none⟩ = some (.slice AaG r.length caG) := Kg.out.cell 1
  have gKh0 : w24.cell? ⟨w21.heap.size, 0, none⟩ = some (.int .i64 nr) := Kh.out.cell 0
  have gKh1 : w24.cell? ⟨w21.heap.size, 1, none⟩ = some (.slice AaH r.length caH) := Kh.out.cell 1
  go_wp2_with fail
  clear gKw0 gKw1 gKg0 gKg1 gKh0 gKh1
  refine (n_eq_field _ _ _ nr r HNR.out H.out.mrows W.out.mrows).mono ?_
  rintro e w27 ⟨rfl, b28⟩
  have Z29 := Lib.hid (b28.size)
  have NW := Lib.hid (W.out.below b28)
  clear W
  have W := NW
  clear NW
  have NKw := Lib.hid (Kw.out.below b28 (by have y0 := Z3.out; have y1 := Z6.out; have y2 := ZSw.out; have y3 := Z9.out; have y4 := Z12.out; have y5 := ZSg.out; have y6 := Z15.out; have y7 := Z17.out; have y8 := Z20.out; have y9 := Z23.out; have y10 := Z26.out; have y11 := ZSh.out; have y12 := Z29.out; first | omega | (simp at *; omega)))
  clear Kw
  have Kw := NKw
  clear NKw
  have NG := Lib.hid (G.out.below b28)
  clear G
  have G := NG
  clear NG
  have NKg := Lib.hid (Kg.out.below b28 (by have y0 := Z3.out; have y1 := Z6.out; have y2 := ZSw.out; have y3 := Z9.out; have y4 := Z12.out; have y5 := ZSg.out; have y6 := Z15.out; have y7 := Z17.out; have y8 := Z20.out; have y9 := Z23.out; have y10 := Z26.out; have y11 := ZSh.out; have y12 := Z29.out; first | omega | (simp at *; omega)))
  clear Kg
  have Kg := NKg
  clear NKg
  have NH := Lib.hid (H.out.below b28)
  clear H
  have H := NH
  clear NH
  have NKh := Lib.hid (Kh.out.below b28 (by have y0 := Z3.out; have y1 := Z6.out; have y2 := ZSw.out; have y3 := Z9.out; have y4 := Z12.out; have y5 := ZSg.out; have y6 := Z15.out; have y7 := Z17.out; have y8 := Z20.out; have y9 := Z23.out; have y10 := Z26.out; have y11 := ZSh.out; have y12 := Z29.out; first | omega | (simp at *; omega)))
  clear Kh
  have Kh := NKh
  clear NKh
  have NB := Lib.hid (B.out.trans (b28.mono B.out.size))
  clear B
  have B := NB
  clear NB
  clear b28
  have gKw0 : w27.cell? ⟨w1.heap.size, 0, none⟩ = some (.int .i64 nr) := Kw.out.cell 0
  have gKw1 : w27.cell? ⟨w1.heap.size, 1, none⟩ = some (.slice AaW r.length caW) := Kw.out.cell 1
  have gKg0 : w27.cell? ⟨w7.heap.size, 0, none⟩ = some (.int .i64 nr) := Kg.out.cell 0
  have gKg1 : w27.cell? ⟨w7.heap.size, 1, none⟩ = some (.slice AaG r.length caG) := Kg.out.cell 1
  have gKh0 : w27.cell? ⟨w21.heap.size, 0, none⟩ = some (.int .i64 nr) := Kh.out.cell 0
  have gKh1 : w27.cell? ⟨w21.heap.size, 1, none⟩ = some (.slice AaH r.length caH) := Kh.out.cell 1
  go_wp2_with fail
  clear gKw0 gKw1 gKg0 gKg1 gKh0 gKh1
  refine (n_held_field _ _ _ r G.out.mrows (by have y := HR.out; omega)).mono ?_
  rintro e w30 ⟨rfl, b31⟩
  have Z32 := Lib.hid (b31.size)
  have NW := Lib.hid (W.out.below b31)
  clear W
  have W := NW
  clear NW
  have NKw := Lib.hid (Kw.out.below b31 (by have y0 := Z3.out; have y1 := Z6.out; have y2 := ZSw.out; have y3 := Z9.out; have y4 := Z12.out; have y5 := ZSg.out; have y6 := Z15.out; have y7 := Z17.out; have y8 := Z20.out; have y9 := Z23.out; have y10 := Z26.out; have y11 := ZSh.out; have y12 := Z29.out; have y13 := Z32.out; first | omega | (simp at *; omega)))
  clear Kw
  have Kw := NKw
  clear NKw
  have NG := Lib.hid (G.out.below b31)
  clear G
  have G := NG
  clear NG
  have NKg := Lib.hid (Kg.out.below b31 (by have y0 := Z3.out; have y1 := Z6.out; have y2 := ZSw.out; have y3 := Z9.out; have y4 := Z12.out; have y5 := ZSg.out; have y6 := Z15.out; have y7 := Z17.out; have y8 := Z20.out; have y9 := Z23.out; have y10 := Z26.out; have y11 := ZSh.out; have y12 := Z29.out; have y13 := Z32.out; first | omega | (simp at *; omega)))
  clear Kg
  have Kg := NKg
  clear NKg
  have NH := Lib.hid (H.out.below b31)
  clear H
  have H := NH
  clear NH
  have NKh := Lib.hid (Kh.out.below b31 (by have y0 := Z3.out; have y1 := Z6.out; have y2 := ZSw.out; have y3 := Z9.out; have y4 := Z12.out; have y5 := ZSg.out; have y6 := Z15.out; have y7 := Z17.out; have y8 := Z20.out; have y9 := Z23.out; have y10 := Z26.out; have y11 := ZSh.out; have y12 := Z29.out; have y13 := Z32.out; first | omega | (simp at *; omega)))
  clear Kh
  have Kh := NKh
  clear NKh
  have NB := Lib.hid (B.out.trans (b31.mono B.out.size))
  clear B
  have B := NB
  clear NB
  clear b31
  have gKw0 : w30.cell? ⟨w1.heap.size, 0, none⟩ = some (.int .i64 nr) := Kw.out.cell 0
  have gKw1 : w30.cell? ⟨w1.heap.size, 1, none⟩ = some (.slice AaW r.length caW) := Kw.out.cell 1
  have gKg0 : w30.cell? ⟨w7.heap.size, 0, none⟩ = some (.int .i64 nr) := Kg.out.cell 0
  have gKg1 : w30.cell? ⟨w7.heap.size, 1, none⟩ = some (.slice AaG r.length caG) := Kg.out.cell 1
  have gKh0 : w30.cell? ⟨w21.heap.size, 0, none⟩ = some (.int .i64 nr) := Kh.out.cell 0
  have gKh1 : w30.cell? ⟨w21.heap.size, 1, none⟩ = some (.slice AaH r.length caH) := Kh.out.cell 1
  go_wp2_with fail
  clear gKw0 gKw1 gKg0 gKg1 gKh0 gKh1
  go_ret
  exact ⟨rfl, B.out⟩

theorem mTx_tot (m : Mono) : 1 + m.2.length ≤ (mTx m).length := by
  unfold mTx
  rw [List.length_append, List.length_cons, List.length_map]; omega
theorem joinTail_le {α : Type} {f : α → List UInt8} {sz : α → Nat} {sep : List UInt8} : ∀ (r : List α), (∀ x ∈ r, sz x ≤ (f x).length) → (r.map sz).sum ≤ (Lib.joinTail sep (r.map f)).length
  | [], _ => by simp
  | x :: r, h => by
    have h1 := h x (by simp)
    have h2 := joinTail_le (sep := sep) r fun y hy => h y (by simp [hy])
    simp only [Lib.joinTail, List.map_cons, List.flatten_cons, List.length_append, List.sum_cons] at h2 ⊢
    omega
theorem join_le {α : Type} {f : α → List UInt8} {sz : α → Nat} {sep : List UInt8} (r : List α) (h : ∀ x ∈ r, sz x ≤ (f x).length) : (r.map sz).sum ≤ (Lib.join (r.map f) sep).length := by
  cases r with
  | nil => simp
  | cons x r =>
    have h1 := h x (by simp)
    have h2 := joinTail_le (sep := sep) r fun y hy => h y (by simp [hy])
    rw [List.map_cons, List.map_cons, Lib.join_cons, List.length_append, List.sum_cons]
    omega
theorem msTot_sum : ∀ ms : List Mono, msTot ms = (ms.map fun m => 1 + m.2.length).sum
  | [] => rfl
  | m :: r => by rw [msTot, msTot_sum r, List.map_cons, List.sum_cons]
theorem fTot_sum : ∀ pss : List (List Mono), fTot pss = (pss.map msTot).sum
  | [] => rfl
  | m :: r => by rw [fTot, fTot_sum r, List.map_cons, List.sum_cons]
theorem parTx_tot (ms : List Mono) : msTot ms ≤ (parTx ms).length := by
  rw [msTot_sum]
  unfold parTx
  by_cases h : ms = []
  · subst h; simp
  · rw [if_neg h]
    exact join_le ms fun m _ => mTx_tot m
theorem fldTx_tot (pss : List (List Mono)) : fTot pss ≤ (fldTx pss).length := by
  rw [fTot_sum]
  unfold fldTx
  exact join_le pss fun m _ => parTx_tot m
theorem pfR_tot (l : List UInt8) : fTot (pfR l) ≤ l.length ∧ (pfR l).length ≤ 3 := by
  unfold pfR
  cases h : pfX rdMF l with
  | none => simp [fTot]
  | some pss =>
    obtain ⟨h1, h2⟩ := pfX_sound h
    refine ⟨?_, (fieldB_mono h1).2.1⟩
    rw [← h2]
    exact fldTx_tot pss
theorem law_ParseField (w : World) (l : List UInt8) (h : LibOK w) :
    Calls Tryz.prog 3 #[strB l] w fun e w' => e = .returned (.bool true) ∧ Below w.heap.size w w' :=
  law_FnExactParseField_gen w l (pfR l) (pfC l) ((pfR l).length : Nat) (by have := (pfR_tot l).2; unfold In64; omega) (fun hl => Nat.le_trans (pfR_tot l).1 hl)
    (fun hl W _ => s_ParseField W l (by omega))
    (fun hl W hb => i_ParseField W l (by omega) (h.below hb))
end Go.Proofs.YtnnfjjadehgmeaaGreatDoor

