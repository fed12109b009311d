/- The law FnExactCollocationTableau, walked: it returns true. -/
import Derived.Test.YtgbfifcbbfhpmaaMark
import Derived.Test.YtgbfifcbbfhpmaaCol7
import Derived.WalkLawsBesides
import Derived.Deep.RegionHeld3
set_option linter.unusedVariables false
set_option linter.unusedSimpArgs false
namespace Go.Proofs.Ytgbfifcbbfhpmaa
open Go.RowKit

set_option maxRecDepth 100000 in
set_option maxHeartbeats 8000000 in
theorem law_FnExactCollocationTableau (w : World) (v0 : Value) (zs0 : List Int) (ha0 : Ints w v0 zs0) :
    Calls Try.prog 4 #[v0] w fun e w' => e = .returned (.bool true) ∧ Below w.heap.size w w' := by
  have HA := Lib.hid ha0
  obtain ⟨Aa, ca, rfl, l0, m0, -⟩ := ha0.open_
  clear ha0
  have B := Lib.hid (Below.refl w.heap.size w)
  by_cases hbig : (1048576 : Int) < (zs0.length : Int)
  · go_enter Try.func4, Try.ntmps4
    go_wp2_with fail
    go_ret
    exact ⟨rfl, Below.refl _ _⟩
  · have hsm : zs0.length ≤ 4294967296 := by omega
    have hk0 : (0 : Int) ≤ 1 + (zs0.length : Int) := by omega
    go_enter Try.func4, Try.ntmps4
    go_wp2_with fail
    refine (l_toInt64S _ _ _ (HA.out.below B.out) hsm).mono ?_
    rintro e w1 ⟨xT, rfl, hT, b2⟩
    have Z3 := Lib.hid (b2.size)
    have NB := Lib.hid (B.out.trans (b2.mono B.out.size))
    clear B
    have B := NB
    clear NB
    clear b2
    have T := Lib.hid (OI.of hT)
    clear hT
    go_wp2_with fail
    refine (s_CollocationTableau _ _ _ T.out.ints).mono ?_
    rintro e w4 ⟨raW, rbW, xW, cW, rfl, pW, hW, b5⟩
    have P := Lib.hid pW
    have SH := Lib.hid pW.short
    have Z6 := Lib.hid (b5.size)
    have NT := Lib.hid (T.out.below b5)
    clear T
    have T := NT
    clear NT
    have NB := Lib.hid (B.out.trans (b5.mono B.out.size))
    clear B
    have B := NB
    clear NB
    clear b5 pW
    obtain ⟨AaW, caW, AbW, cbW, rfl⟩ := hW.open_
    have W := Lib.hid hW
    clear hW
    have hr0 : 0 ≤ 1 + (tot raW : Int) + (rbW.length : Int) := by omega
    go_wp2_with fail
    obtain ⟨w7, hw7⟩ : ∃ x, x = w4.alloc (.cells #[.slice AaW raW.length caW, .slice AbW rbW.length cbW] 27) := ⟨_, rfl⟩
    rw [← hw7]
    have b8 : Below w4.heap.size w4 w7 := by rw [hw7]; exact below1 _ _
    have Kw := Lib.hid (show Blk w7 w4.heap.size 27 #[.slice AaW raW.length caW, .slice AbW rbW.length cbW] by rw [hw7]; exact Blk.new _ _ _)
    have ZSw := Lib.hid (show w4.heap.size + 1 ≤ w7.heap.size by rw [hw7]; exact Nat.le_of_eq (Array.size_push _).symm)
    have Z9 := Lib.hid (b8.size)
    have NT := Lib.hid (T.out.below b8)
    clear T
    have T := NT
    clear NT
    have NW := Lib.hid (W.out.below b8)
    clear W
    have W := NW
    clear NW
    have NB := Lib.hid (B.out.trans (b8.mono B.out.size))
    clear B
    have B := NB
    clear NB
    clear b8 hw7
    refine (l_toInt64S _ _ _ (HA.out.below B.out) hsm).mono ?_
    rintro e w10 ⟨xX, rfl, hX, b11⟩
    have Z12 := Lib.hid (b11.size)
    have NT := Lib.hid (T.out.below b11)
    clear T
    have T := NT
    clear NT
    have NW := Lib.hid (W.out.below b11)
    clear W
    have W := NW
    clear NW
    have NKw := Lib.hid (Kw.out.below b11 (by have y0 := Z3.out; have y1 := Z6.out; have y2 := Z9.out; have y3 := ZSw.out; have y4 := Z12.out; first | omega | (simp at *; omega)))
    clear Kw
    have Kw := NKw
    clear NKw
    have NB := Lib.hid (B.out.trans (b11.mono B.out.size))
    clear B
    have B := NB
    clear NB
    clear b11
    have X := Lib.hid (OI.of hX)
    clear hX
    have gKw0 : w10.cell? ⟨w4.heap.size, 0, none⟩ = some (.slice AaW raW.length caW) := Kw.out.cell 0
    have gKw1 : w10.cell? ⟨w4.heap.size, 1, none⟩ = some (.slice AbW rbW.length cbW) := Kw.out.cell 1
    have aKw0 : ∀ o, (w10.alloc o).cell? ⟨w4.heap.size, 0, none⟩ = some (.slice AaW raW.length caW) := fun o => (Kw.out.alloc o).cell 0
    have aKw1 : ∀ o, (w10.alloc o).cell? ⟨w4.heap.size, 1, none⟩ = some (.slice AbW rbW.length cbW) := fun o => (Kw.out.alloc o).cell 1
    go_wp2_with fail
    clear gKw0 gKw1 aKw0 aKw1
    refine (i_CollocationTableau _ _ _ X.out.ints).mono ?_
    rintro e w13 ⟨raG, rbG, xG, cG, rfl, pG, hG, b14⟩
    obtain ⟨rfl, rfl, rfl⟩ := P.out.unique pG
    have Z15 := Lib.hid (b14.size)
    have NT := Lib.hid (T.out.below b14)
    clear T
    have T := NT
    clear NT
    have NW := Lib.hid (W.out.below b14)
    clear W
    have W := NW
    clear NW
    have NKw := Lib.hid (Kw.out.below b14 (by have y0 := Z3.out; have y1 := Z6.out; have y2 := Z9.out; have y3 := ZSw.out; have y4 := Z12.out; have y5 := Z15.out; first | omega | (simp at *; omega)))
    clear Kw
    have Kw := NKw
    clear NKw
    have NX := Lib.hid (X.out.below b14)
    clear X
    have X := NX
    clear NX
    have NB := Lib.hid (B.out.trans (b14.mono B.out.size))
    clear B
    have B := NB
    clear NB
    clear b14 pG
    obtain ⟨AaG, caG, AbG, cbG, rfl⟩ := hG.open_
    have G := Lib.hid hG
    clear hG
    have gKw0 : w13.cell? ⟨w4.heap.size, 0, none⟩ = some (.slice AaW raW.length caW) := Kw.out.cell 0
    have gKw1 : w13.cell? ⟨w4.heap.size, 1, none⟩ = some (.slice AbW rbW.length cbW) := Kw.out.cell 1
    have aKw0 : ∀ o, (w13.alloc o).cell? ⟨w4.heap.size, 0, none⟩ = some (.slice AaW raW.length caW) := fun o => (Kw.out.alloc o).cell 0
    have aKw1 : ∀ o, (w13.alloc o).cell? ⟨w4.heap.size, 1, none⟩ = some (.slice AbW rbW.length cbW) := fun o => (Kw.out.alloc o).cell 1
    go_wp2_with fail
    clear gKw0 gKw1 aKw0 aKw1
    obtain ⟨w16, hw16⟩ : ∃ x, x = w13.alloc (.cells #[.slice AaG raW.length caG, .slice AbG rbW.length cbG] 27) := ⟨_, rfl⟩
    rw [← hw16]
    have b17 : Below w13.heap.size w13 w16 := by rw [hw16]; exact below1 _ _
    have Kg := Lib.hid (show Blk w16 w13.heap.size 27 #[.slice AaG raW.length caG, .slice AbG rbW.length cbG] by rw [hw16]; exact Blk.new _ _ _)
    have ZSg := Lib.hid (show w13.heap.size + 1 ≤ w16.heap.size by rw [hw16]; exact Nat.le_of_eq (Array.size_push _).symm)
    have Z18 := Lib.hid (b17.size)
    have NT := Lib.hid (T.out.below b17)
    clear T
    have T := NT
    clear NT
    have NW := Lib.hid (W.out.below b17)
    clear W
    have W := NW
    clear NW
    have NKw := Lib.hid (Kw.out.below b17 (by have y0 := Z3.out; have y1 := Z6.out; have y2 := Z9.out; have y3 := ZSw.out; have y4 := Z12.out; have y5 := Z15.out; have y6 := Z18.out; first | omega | (simp at *; omega)))
    clear Kw
    have Kw := NKw
    clear NKw
    have NX := Lib.hid (X.out.below b17)
    clear X
    have X := NX
    clear NX
    have NG := Lib.hid (G.out.below b17)
    clear G
    have G := NG
    clear NG
    have NB := Lib.hid (B.out.trans (b17.mono B.out.size))
    clear B
    have B := NB
    clear NB
    clear b17 hw16
    refine (l_eqTableau _ _ _ _ _ _ _ G.out.arg W.out.arg).mono ?_
    rintro e w19 ⟨rfl, b20⟩
    have Z21 := Lib.hid (b20.size)
    have NT := Lib.hid (T.out.below b20)
    clear T
    have T := NT
    clear NT
    have NW := Lib.hid (W.out.below b20)
    clear W
    have W := NW
    clear NW
    have NKw := Lib.hid (Kw.out.below b20 (by have y0 := Z3.out; have y1 := Z6.out; have y2 := Z9.out; have y3 := ZSw.out; have y4 := Z12.out; have y5 := Z15.out; have y6 := Z18.out; have y7 := ZSg.out; have y8 := Z21.out; first | omega | (simp at *; omega)))
    clear Kw
    have Kw := NKw
    clear NKw
    have NX := Lib.hid (X.out.below b20)
    clear X
    have X := NX
    clear NX
    have NG := Lib.hid (G.out.below b20)
    clear G
    have G := NG
    clear NG
    have NKg := Lib.hid (Kg.out.below b20 (by have y0 := Z3.out; have y1 := Z6.out; have y2 := Z9.out; have y3 := ZSw.out; have y4 := Z12.out; have y5 := Z15.out; have y6 := Z18.out; have y7 := ZSg.out; have y8 := Z21.out; first | omega | (simp at *; omega)))
    clear Kg
    have Kg := NKg
    clear NKg
    have NB := Lib.hid (B.out.trans (b20.mono B.out.size))
    clear B
    have B := NB
    clear NB
    clear b20
    have gKw0 : w19.cell? ⟨w4.heap.size, 0, none⟩ = some (.slice AaW raW.length caW) := Kw.out.cell 0
    have gKw1 : w19.cell? ⟨w4.heap.size, 1, none⟩ = some (.slice AbW rbW.length cbW) := Kw.out.cell 1
    have gKg0 : w19.cell? ⟨w13.heap.size, 0, none⟩ = some (.slice AaG raW.length caG) := Kg.out.cell 0
    have gKg1 : w19.cell? ⟨w13.heap.size, 1, none⟩ = some (.slice AbG rbW.length cbG) := Kg.out.cell 1
    have aKw0 : ∀ o, (w19.alloc o).cell? ⟨w4.heap.size, 0, none⟩ = some (.slice AaW raW.length caW) := fun o => (Kw.out.alloc o).cell 0
    have aKw1 : ∀ o, (w19.alloc o).cell? ⟨w4.heap.size, 1, none⟩ = some (.slice AbW rbW.length cbW) := fun o => (Kw.out.alloc o).cell 1
    have aKg0 : ∀ o, (w19.alloc o).cell? ⟨w13.heap.size, 0, none⟩ = some (.slice AaG raW.length caG) := fun o => (Kg.out.alloc o).cell 0
    have aKg1 : ∀ o, (w19.alloc o).cell? ⟨w13.heap.size, 1, none⟩ = some (.slice AbG rbW.length cbG) := fun o => (Kg.out.alloc o).cell 1
    go_wp2_with fail
    clear gKw0 gKw1 gKg0 gKg1 aKw0 aKw1 aKg0 aKg1
    refine (l_toInt64S _ _ _ (HA.out.below B.out) hsm).mono ?_
    rintro e w22 ⟨xY, rfl, hY, b23⟩
    have Z24 := Lib.hid (b23.size)
    have NT := Lib.hid (T.out.below b23)
    clear T
    have T := NT
    clear NT
    have NW := Lib.hid (W.out.below b23)
    clear W
    have W := NW
    clear NW
    have NKw := Lib.hid (Kw.out.below b23 (by have y0 := Z3.out; have y1 := Z6.out; have y2 := Z9.out; have y3 := ZSw.out; have y4 := Z12.out; have y5 := Z15.out; have y6 := Z18.out; have y7 := ZSg.out; have y8 := Z21.out; have y9 := Z24.out; first | omega | (simp at *; omega)))
    clear Kw
    have Kw := NKw
    clear NKw
    have NX := Lib.hid (X.out.below b23)
    clear X
    have X := NX
    clear NX
    have NG := Lib.hid (G.out.below b23)
    clear G
    have G := NG
    clear NG
    have NKg := Lib.hid (Kg.out.below b23 (by have y0 := Z3.out; have y1 := Z6.out; have y2 := Z9.out; have y3 := ZSw.out; have y4 := Z12.out; have y5 := Z15.out; have y6 := Z18.out; have y7 := ZSg.out; have y8 := Z21.out; have y9 := Z24.out; first | omega | (simp at *; omega)))
    clear Kg
    have Kg := NKg
    clear NKg
    have NB := Lib.hid (B.out.trans (b23.mono B.out.size))
    clear B
    have B := NB
    clear NB
    clear b23
    have Y := Lib.hid (OI.of hY)
    clear hY
    have gKw0 : w22.cell? ⟨w4.heap.size, 0, none⟩ = some (.slice AaW raW.length caW) := Kw.out.cell 0
    have gKw1 : w22.cell? ⟨w4.heap.size, 1, none⟩ = some (.slice AbW rbW.length cbW) := Kw.out.cell 1
    have gKg0 : w22.cell? ⟨w13.heap.size, 0, none⟩ = some (.slice AaG raW.length caG) := Kg.out.cell 0
    have gKg1 : w22.cell? ⟨w13.heap.size, 1, none⟩ = some (.slice AbG rbW.length cbG) := Kg.out.cell 1
    have aKw0 : ∀ o, (w22.alloc o).cell? ⟨w4.heap.size, 0, none⟩ = some (.slice AaW raW.length caW) := fun o => (Kw.out.alloc o).cell 0
    have aKw1 : ∀ o, (w22.alloc o).cell? ⟨w4.heap.size, 1, none⟩ = some (.slice AbW rbW.length cbW) := fun o => (Kw.out.alloc o).cell 1
    have aKg0 : ∀ o, (w22.alloc o).cell? ⟨w13.heap.size, 0, none⟩ = some (.slice AaG raW.length caG) := fun o => (Kg.out.alloc o).cell 0
    have aKg1 : ∀ o, (w22.alloc o).cell? ⟨w13.heap.size, 1, none⟩ = some (.slice AbG rbW.length cbG) := fun o => (Kg.out.alloc o).cell 1
    go_wp2_with fail
    clear gKw0 gKw1 gKg0 gKg1 aKw0 aKw1 aKg0 aKg1
    refine (l_eqInt64S _ _ _ _ _ X.out.ints Y.out.ints).mono ?_
    rintro e w25 ⟨rfl, nw25, hw25⟩
    have b26 : Below w22.heap.size w22 w25 := by rw [hw25]; exact below_drewN (Below.refl _ _) _
    clear hw25
    have Z27 := Lib.hid (b26.size)
    have NT := Lib.hid (T.out.below b26)
    clear T
    have T := NT
    clear NT
    have NW := Lib.hid (W.out.below b26)
    clear W
    have W := NW
    clear NW
    have NKw := Lib.hid (Kw.out.below b26 (by have y0 := Z3.out; have y1 := Z6.out; have y2 := Z9.out; have y3 := ZSw.out; have y4 := Z12.out; have y5 := Z15.out; have y6 := Z18.out; have y7 := ZSg.out; have y8 := Z21.out; have y9 := Z24.out; have y10 := Z27.out; first | omega | (simp at *; omega)))
    clear Kw
    have Kw := NKw
    clear NKw
    have NX := Lib.hid (X.out.below b26)
    clear X
    have X := NX
    clear NX
    have NG := Lib.hid (G.out.below b26)
    clear G
    have G := NG
    clear NG
    have NKg := Lib.hid (Kg.out.below b26 (by have y0 := Z3.out; have y1 := Z6.out; have y2 := Z9.out; have y3 := ZSw.out; have y4 := Z12.out; have y5 := Z15.out; have y6 := Z18.out; have y7 := ZSg.out; have y8 := Z21.out; have y9 := Z24.out; have y10 := Z27.out; first | omega | (simp at *; omega)))
    clear Kg
    have Kg := NKg
    clear NKg
    have NY := Lib.hid (Y.out.below b26)
    clear Y
    have Y := NY
    clear NY
    have NB := Lib.hid (B.out.trans (b26.mono B.out.size))
    clear B
    have B := NB
    clear NB
    clear b26
    have gKw0 : w25.cell? ⟨w4.heap.size, 0, none⟩ = some (.slice AaW raW.length caW) := Kw.out.cell 0
    have gKw1 : w25.cell? ⟨w4.heap.size, 1, none⟩ = some (.slice AbW rbW.length cbW) := Kw.out.cell 1
    have gKg0 : w25.cell? ⟨w13.heap.size, 0, none⟩ = some (.slice AaG raW.length caG) := Kg.out.cell 0
    have gKg1 : w25.cell? ⟨w13.heap.size, 1, none⟩ = some (.slice AbG rbW.length cbG) := Kg.out.cell 1
    have aKw0 : ∀ o, (w25.alloc o).cell? ⟨w4.heap.size, 0, none⟩ = some (.slice AaW raW.length caW) := fun o => (Kw.out.alloc o).cell 0
    have aKw1 : ∀ o, (w25.alloc o).cell? ⟨w4.heap.size, 1, none⟩ = some (.slice AbW rbW.length cbW) := fun o => (Kw.out.alloc o).cell 1
    have aKg0 : ∀ o, (w25.alloc o).cell? ⟨w13.heap.size, 0, none⟩ = some (.slice AaG raW.length caG) := fun o => (Kg.out.alloc o).cell 0
    have aKg1 : ∀ o, (w25.alloc o).cell? ⟨w13.heap.size, 1, none⟩ = some (.slice AbG rbW.length cbG) := fun o => (Kg.out.alloc o).cell 1
    go_wp2_with fail
    clear gKw0 gKw1 gKg0 gKg1 aKw0 aKw1 aKg0 aKg1
    refine (l_markInt64S _ _ _ _ 1 X.out.1 (by exact hsm) (by omega) (by omega)).mono ?_
    rintro e w28 ⟨rfl, hw28, grw28, -⟩
    have chw28 := Chg.of_grown grw28 (fun b hb => ⟨X.out.1.1.ge b hb, X.out.2 b hb⟩)
    clear grw28
    have Z29 := Lib.hid (chw28.size)
    have NT := Lib.hid (T.out.kept chw28 (by have y0 := Z3.out; have y1 := Z6.out; have y2 := Z9.out; have y3 := ZSw.out; have y4 := Z12.out; have y5 := Z15.out; have y6 := Z18.out; have y7 := ZSg.out; have y8 := Z21.out; have y9 := Z24.out; have y10 := Z27.out; have y11 := Z29.out; omega))
    clear T
    have T := NT
    clear NT
    have NW := Lib.hid (W.out.kept chw28 (by have y0 := Z3.out; have y1 := Z6.out; have y2 := Z9.out; have y3 := ZSw.out; have y4 := Z12.out; have y5 := Z15.out; have y6 := Z18.out; have y7 := ZSg.out; have y8 := Z21.out; have y9 := Z24.out; have y10 := Z27.out; have y11 := Z29.out; omega))
    clear W
    have W := NW
    clear NW
    have NKw := Lib.hid (Kw.out.chg chw28 (by have y0 := Z3.out; have y1 := Z6.out; have y2 := Z9.out; have y3 := ZSw.out; have y4 := Z12.out; have y5 := Z15.out; have y6 := Z18.out; have y7 := ZSg.out; have y8 := Z21.out; have y9 := Z24.out; have y10 := Z27.out; have y11 := Z29.out; omega))
    clear Kw
    have Kw := NKw
    clear NKw
    have NG := Lib.hid (G.out.kept chw28 (by have y0 := Z3.out; have y1 := Z6.out; have y2 := Z9.out; have y3 := ZSw.out; have y4 := Z12.out; have y5 := Z15.out; have y6 := Z18.out; have y7 := ZSg.out; have y8 := Z21.out; have y9 := Z24.out; have y10 := Z27.out; have y11 := Z29.out; omega))
    clear G
    have G := NG
    clear NG
    have NKg := Lib.hid (Kg.out.chg chw28 (by have y0 := Z3.out; have y1 := Z6.out; have y2 := Z9.out; have y3 := ZSw.out; have y4 := Z12.out; have y5 := Z15.out; have y6 := Z18.out; have y7 := ZSg.out; have y8 := Z21.out; have y9 := Z24.out; have y10 := Z27.out; have y11 := Z29.out; omega))
    clear Kg
    have Kg := NKg
    clear NKg
    have NY := Lib.hid (Y.out.kept chw28 (by have y0 := Z3.out; have y1 := Z6.out; have y2 := Z9.out; have y3 := ZSw.out; have y4 := Z12.out; have y5 := Z15.out; have y6 := Z18.out; have y7 := ZSg.out; have y8 := Z21.out; have y9 := Z24.out; have y10 := Z27.out; have y11 := Z29.out; omega))
    clear Y
    have Y := NY
    clear NY
    have NX := Lib.hid (show OI w28 _ _ _ _ _ from ⟨hw28, X.out.2⟩)
    clear X
    have X := NX
    clear NX
    have NB := Lib.hid (chw28.below B.out (by have y0 := Z3.out; have y1 := Z6.out; have y2 := Z9.out; have y3 := ZSw.out; have y4 := Z12.out; have y5 := Z15.out; have y6 := Z18.out; have y7 := ZSg.out; have y8 := Z21.out; have y9 := Z24.out; have y10 := Z27.out; have y11 := Z29.out; omega) B.out.size)
    clear B
    have B := NB
    clear NB
    clear hw28 chw28
    have gKw0 : w28.cell? ⟨w4.heap.size, 0, none⟩ = some (.slice AaW raW.length caW) := Kw.out.cell 0
    have gKw1 : w28.cell? ⟨w4.heap.size, 1, none⟩ = some (.slice AbW rbW.length cbW) := Kw.out.cell 1
    have gKg0 : w28.cell? ⟨w13.heap.size, 0, none⟩ = some (.slice AaG raW.length caG) := Kg.out.cell 0
    have gKg1 : w28.cell? ⟨w13.heap.size, 1, none⟩ = some (.slice AbG rbW.length cbG) := Kg.out.cell 1
    have aKw0 : ∀ o, (w28.alloc o).cell? ⟨w4.heap.size, 0, none⟩ = some (.slice AaW raW.length caW) := fun o => (Kw.out.alloc o).cell 0
    have aKw1 : ∀ o, (w28.alloc o).cell? ⟨w4.heap.size, 1, none⟩ = some (.slice AbW rbW.length cbW) := fun o => (Kw.out.alloc o).cell 1
    have aKg0 : ∀ o, (w28.alloc o).cell? ⟨w13.heap.size, 0, none⟩ = some (.slice AaG raW.length caG) := fun o => (Kg.out.alloc o).cell 0
    have aKg1 : ∀ o, (w28.alloc o).cell? ⟨w13.heap.size, 1, none⟩ = some (.slice AbG rbW.length cbG) := fun o => (Kg.out.alloc o).cell 1
    go_wp2_with fail
    clear gKw0 gKw1 gKg0 gKg1 aKw0 aKw1 aKg0 aKg1
    refine (l_eqTableau _ _ _ _ _ _ _ G.out.arg W.out.arg).mono ?_
    rintro e w30 ⟨rfl, b31⟩
    have Z32 := Lib.hid (b31.size)
    have NT := Lib.hid (T.out.below b31)
    clear T
    have T := NT
    clear NT
    have NW := Lib.hid (W.out.below b31)
    clear W
    have W := NW
    clear NW
    have NKw := Lib.hid (Kw.out.below b31 (by have y0 := Z3.out; have y1 := Z6.out; have y2 := Z9.out; have y3 := ZSw.out; have y4 := Z12.out; have y5 := Z15.out; have y6 := Z18.out; have y7 := ZSg.out; have y8 := Z21.out; have y9 := Z24.out; have y10 := Z27.out; have y11 := Z29.out; have y12 := Z32.out; first | omega | (simp at *; omega)))
    clear Kw
    have Kw := NKw
    clear NKw
    have NX := Lib.hid (X.out.below b31)
    clear X
    have X := NX
    clear NX
    have NG := Lib.hid (G.out.below b31)
    clear G
    have G := NG
    clear NG
    have NKg := Lib.hid (Kg.out.below b31 (by have y0 := Z3.out; have y1 := Z6.out; have y2 := Z9.out; have y3 := ZSw.out; have y4 := Z12.out; have y5 := Z15.out; have y6 := Z18.out; have y7 := ZSg.out; have y8 := Z21.out; have y9 := Z24.out; have y10 := Z27.out; have y11 := Z29.out; have y12 := Z32.out; first | omega | (simp at *; omega)))
    clear Kg
    have Kg := NKg
    clear NKg
    have NY := Lib.hid (Y.out.below b31)
    clear Y
    have Y := NY
    clear NY
    have NB := Lib.hid (B.out.trans (b31.mono B.out.size))
    clear B
    have B := NB
    clear NB
    clear b31
    have gKw0 : w30.cell? ⟨w4.heap.size, 0, none⟩ = some (.slice AaW raW.length caW) := Kw.out.cell 0
    have gKw1 : w30.cell? ⟨w4.heap.size, 1, none⟩ = some (.slice AbW rbW.length cbW) := Kw.out.cell 1
    have gKg0 : w30.cell? ⟨w13.heap.size, 0, none⟩ = some (.slice AaG raW.length caG) := Kg.out.cell 0
    have gKg1 : w30.cell? ⟨w13.heap.size, 1, none⟩ = some (.slice AbG rbW.length cbG) := Kg.out.cell 1
    have aKw0 : ∀ o, (w30.alloc o).cell? ⟨w4.heap.size, 0, none⟩ = some (.slice AaW raW.length caW) := fun o => (Kw.out.alloc o).cell 0
    have aKw1 : ∀ o, (w30.alloc o).cell? ⟨w4.heap.size, 1, none⟩ = some (.slice AbW rbW.length cbW) := fun o => (Kw.out.alloc o).cell 1
    have aKg0 : ∀ o, (w30.alloc o).cell? ⟨w13.heap.size, 0, none⟩ = some (.slice AaG raW.length caG) := fun o => (Kg.out.alloc o).cell 0
    have aKg1 : ∀ o, (w30.alloc o).cell? ⟨w13.heap.size, 1, none⟩ = some (.slice AbG rbW.length cbG) := fun o => (Kg.out.alloc o).cell 1
    go_wp2_with fail
    clear gKw0 gKw1 gKg0 gKg1 aKw0 aKw1 aKg0 aKg1
    refine (l_markTableau _ _ _ _ _ _ 1 G.out (by have y0 := Z3.out; have y1 := Z6.out; have y2 := Z9.out; have y3 := ZSw.out; have y4 := Z12.out; have y5 := Z15.out; have y6 := Z18.out; have y7 := ZSg.out; have y8 := Z21.out; have y9 := Z24.out; have y10 := Z27.out; have y11 := Z29.out; have y12 := Z32.out; omega) (by have y := SH.out; omega) (by have y := SH.out; omega) (by omega) (by omega)).mono ?_
    rintro e w33 ⟨rfl, hw33, chw33⟩
    have Z34 := Lib.hid (chw33.size)
    have NT := Lib.hid (T.out.kept chw33 (by have y0 := Z3.out; have y1 := Z6.out; have y2 := Z9.out; have y3 := ZSw.out; have y4 := Z12.out; have y5 := Z15.out; have y6 := Z18.out; have y7 := ZSg.out; have y8 := Z21.out; have y9 := Z24.out; have y10 := Z27.out; have y11 := Z29.out; have y12 := Z32.out; have y13 := Z34.out; omega))
    clear T
    have T := NT
    clear NT
    have NW := Lib.hid (W.out.kept chw33 (by have y0 := Z3.out; have y1 := Z6.out; have y2 := Z9.out; have y3 := ZSw.out; have y4 := Z12.out; have y5 := Z15.out; have y6 := Z18.out; have y7 := ZSg.out; have y8 := Z21.out; have y9 := Z24.out; have y10 := Z27.out; have y11 := Z29.out; have y12 := Z32.out; have y13 := Z34.out; omega))
    clear W
    have W := NW
    clear NW
    have NKw := Lib.hid (Kw.out.chg chw33 (by have y0 := Z3.out; have y1 := Z6.out; have y2 := Z9.out; have y3 := ZSw.out; have y4 := Z12.out; have y5 := Z15.out; have y6 := Z18.out; have y7 := ZSg.out; have y8 := Z21.out; have y9 := Z24.out; have y10 := Z27.out; have y11 := Z29.out; have y12 := Z32.out; have y13 := Z34.out; omega))
    clear Kw
    have Kw := NKw
    clear NKw
    have NX := Lib.hid (X.out.kept chw33 (by have y0 := Z3.out; have y1 := Z6.out; have y2 := Z9.out; have y3 := ZSw.out; have y4 := Z12.out; have y5 := Z15.out; have y6 := Z18.out; have y7 := ZSg.out; have y8 := Z21.out; have y9 := Z24.out; have y10 := Z27.out; have y11 := Z29.out; have y12 := Z32.out; have y13 := Z34.out; omega))
    clear X
    have X := NX
    clear NX
    have NKg := Lib.hid (Kg.out.chg chw33 (by have y0 := Z3.out; have y1 := Z6.out; have y2 := Z9.out; have y3 := ZSw.out; have y4 := Z12.out; have y5 := Z15.out; have y6 := Z18.out; have y7 := ZSg.out; have y8 := Z21.out; have y9 := Z24.out; have y10 := Z27.out; have y11 := Z29.out; have y12 := Z32.out; have y13 := Z34.out; omega))
    clear Kg
    have Kg := NKg
    clear NKg
    have NY := Lib.hid (Y.out.kept chw33 (by have y0 := Z3.out; have y1 := Z6.out; have y2 := Z9.out; have y3 := ZSw.out; have y4 := Z12.out; have y5 := Z15.out; have y6 := Z18.out; have y7 := ZSg.out; have y8 := Z21.out; have y9 := Z24.out; have y10 := Z27.out; have y11 := Z29.out; have y12 := Z32.out; have y13 := Z34.out; omega))
    clear Y
    have Y := NY
    clear NY
    have NG := Lib.hid (hw33)
    clear G
    have G := NG
    clear NG
    have NB := Lib.hid (chw33.below B.out (by have y0 := Z3.out; have y1 := Z6.out; have y2 := Z9.out; have y3 := ZSw.out; have y4 := Z12.out; have y5 := Z15.out; have y6 := Z18.out; have y7 := ZSg.out; have y8 := Z21.out; have y9 := Z24.out; have y10 := Z27.out; have y11 := Z29.out; have y12 := Z32.out; have y13 := Z34.out; omega) B.out.size)
    clear B
    have B := NB
    clear NB
    clear hw33 chw33
    have gKw0 : w33.cell? ⟨w4.heap.size, 0, none⟩ = some (.slice AaW raW.length caW) := Kw.out.cell 0
    have gKw1 : w33.cell? ⟨w4.heap.size, 1, none⟩ = some (.slice AbW rbW.length cbW) := Kw.out.cell 1
    have gKg0 : w33.cell? ⟨w13.heap.size, 0, none⟩ = some (.slice AaG raW.length caG) := Kg.out.cell 0
    have gKg1 : w33.cell? ⟨w13.heap.size, 1, none⟩ = some (.slice AbG rbW.length cbG) := Kg.out.cell 1
    have aKw0 : ∀ o, (w33.alloc o).cell? ⟨w4.heap.size, 0, none⟩ = some (.slice AaW raW.length caW) := fun o => (Kw.out.alloc o).cell 0
    have aKw1 : ∀ o, (w33.alloc o).cell? ⟨w4.heap.size, 1, none⟩ = some (.slice AbW rbW.length cbW) := fun o => (Kw.out.alloc o).cell 1
    have aKg0 : ∀ o, (w33.alloc o).cell? ⟨w13.heap.size, 0, none⟩ = some (.slice AaG raW.length caG) := fun o => (Kg.out.alloc o).cell 0
    have aKg1 : ∀ o, (w33.alloc o).cell? ⟨w13.heap.size, 1, none⟩ = some (.slice AbG rbW.length cbG) := fun o => (Kg.out.alloc o).cell 1
    go_wp2_with fail
    clear gKw0 gKw1 gKg0 gKg1 aKw0 aKw1 aKg0 aKg1
    refine (l_heldTableau _ _ _ _ 1 G.out.arg (by have y := SH.out; omega) (by have y := SH.out; omega) (by omega) (by omega)).mono ?_
    rintro e w35 ⟨rfl, b36⟩
    have Z37 := Lib.hid (b36.size)
    have NT := Lib.hid (T.out.below b36)
    clear T
    have T := NT
    clear NT
    have NW := Lib.hid (W.out.below b36)
    clear W
    have W := NW
    clear NW
    have NKw := Lib.hid (Kw.out.below b36 (by have y0 := Z3.out; have y1 := Z6.out; have y2 := Z9.out; have y3 := ZSw.out; have y4 := Z12.out; have y5 := Z15.out; have y6 := Z18.out; have y7 := ZSg.out; have y8 := Z21.out; have y9 := Z24.out; have y10 := Z27.out; have y11 := Z29.out; have y12 := Z32.out; have y13 := Z34.out; have y14 := Z37.out; first | omega | (simp at *; omega)))
    clear Kw
    have Kw := NKw
    clear NKw
    have NX := Lib.hid (X.out.below b36)
    clear X
    have X := NX
    clear NX
    have NG := Lib.hid (G.out.below b36)
    clear G
    have G := NG
    clear NG
    have NKg := Lib.hid (Kg.out.below b36 (by have y0 := Z3.out; have y1 := Z6.out; have y2 := Z9.out; have y3 := ZSw.out; have y4 := Z12.out; have y5 := Z15.out; have y6 := Z18.out; have y7 := ZSg.out; have y8 := Z21.out; have y9 := Z24.out; have y10 := Z27.out; have y11 := Z29.out; have y12 := Z32.out; have y13 := Z34.out; have y14 := Z37.out; first | omega | (simp at *; omega)))
    clear Kg
    have Kg := NKg
    clear NKg
    have NY := Lib.hid (Y.out.below b36)
    clear Y
    have Y := NY
    clear NY
    have NB := Lib.hid (B.out.trans (b36.mono B.out.size))
    clear B
    have B := NB
    clear NB
    clear b36
    have gKw0 : w35.cell? ⟨w4.heap.size, 0, none⟩ = some (.slice AaW raW.length caW) := Kw.out.cell 0
    have gKw1 : w35.cell? ⟨w4.heap.size, 1, none⟩ = some (.slice AbW rbW.length cbW) := Kw.out.cell 1
    have gKg0 : w35.cell? ⟨w13.heap.size, 0, none⟩ = some (.slice AaG raW.length caG) := Kg.out.cell 0
    have gKg1 : w35.cell? ⟨w13.heap.size, 1, none⟩ = some (.slice AbG rbW.length cbG) := Kg.out.cell 1
    have aKw0 : ∀ o, (w35.alloc o).cell? ⟨w4.heap.size, 0, none⟩ = some (.slice AaW raW.length caW) := fun o => (Kw.out.alloc o).cell 0
    have aKw1 : ∀ o, (w35.alloc o).cell? ⟨w4.heap.size, 1, none⟩ = some (.slice AbW rbW.length cbW) := fun o => (Kw.out.alloc o).cell 1
    have aKg0 : ∀ o, (w35.alloc o).cell? ⟨w13.heap.size, 0, none⟩ = some (.slice AaG raW.length caG) := fun o => (Kg.out.alloc o).cell 0
    have aKg1 : ∀ o, (w35.alloc o).cell? ⟨w13.heap.size, 1, none⟩ = some (.slice AbG rbW.length cbG) := fun o => (Kg.out.alloc o).cell 1
    go_wp2_with fail
    clear gKw0 gKw1 gKg0 gKg1 aKw0 aKw1 aKg0 aKg1
    refine (l_toInt64S _ _ _ (HA.out.below B.out) hsm).mono ?_
    rintro e w38 ⟨xV, rfl, hV, b39⟩
    have Z40 := Lib.hid (b39.size)
    have NT := Lib.hid (T.out.below b39)
    clear T
    have T := NT
    clear NT
    have NW := Lib.hid (W.out.below b39)
    clear W
    have W := NW
    clear NW
    have NKw := Lib.hid (Kw.out.below b39 (by have y0 := Z3.out; have y1 := Z6.out; have y2 := Z9.out; have y3 := ZSw.out; have y4 := Z12.out; have y5 := Z15.out; have y6 := Z18.out; have y7 := ZSg.out; have y8 := Z21.out; have y9 := Z24.out; have y10 := Z27.out; have y11 := Z29.out; have y12 := Z32.out; have y13 := Z34.out; have y14 := Z37.out; have y15 := Z40.out; first | omega | (simp at *; omega)))
    clear Kw
    have Kw := NKw
    clear NKw
    have NX := Lib.hid (X.out.below b39)
    clear X
    have X := NX
    clear NX
    have NG := Lib.hid (G.out.below b39)
    clear G
    have G := NG
    clear NG
    have NKg := Lib.hid (Kg.out.below b39 (by have y0 := Z3.out; have y1 := Z6.out; have y2 := Z9.out; have y3 := ZSw.out; have y4 := Z12.out; have y5 := Z15.out; have y6 := Z18.out; have y7 := ZSg.out; have y8 := Z21.out; have y9 := Z24.out; have y10 := Z27.out; have y11 := Z29.out; have y12 := Z32.out; have y13 := Z34.out; have y14 := Z37.out; have y15 := Z40.out; first | omega | (simp at *; omega)))
    clear Kg
    have Kg := NKg
    clear NKg
    have NY := Lib.hid (Y.out.below b39)
    clear Y
    have Y := NY
    clear NY
    have NB := Lib.hid (B.out.trans (b39.mono B.out.size))
    clear B
    have B := NB
    clear NB
    clear b39
    have V := Lib.hid (OI.of hV)
    clear hV
    have gKw0 : w38.cell? ⟨w4.heap.size, 0, none⟩ = some (.slice AaW raW.length caW) := Kw.out.cell 0
    have gKw1 : w38.cell? ⟨w4.heap.size, 1, none⟩ = some (.slice AbW rbW.length cbW) := Kw.out.cell 1
    have gKg0 : w38.cell? ⟨w13.heap.size, 0, none⟩ = some (.slice AaG raW.length caG) := Kg.out.cell 0
    have gKg1 : w38.cell? ⟨w13.heap.size, 1, none⟩ = some (.slice AbG rbW.length cbG) := Kg.out.cell 1
    have aKw0 : ∀ o, (w38.alloc o).cell? ⟨w4.heap.size, 0, none⟩ = some (.slice AaW raW.length caW) := fun o => (Kw.out.alloc o).cell 0
    have aKw1 : ∀ o, (w38.alloc o).cell? ⟨w4.heap.size, 1, none⟩ = some (.slice AbW rbW.length cbW) := fun o => (Kw.out.alloc o).cell 1
    have aKg0 : ∀ o, (w38.alloc o).cell? ⟨w13.heap.size, 0, none⟩ = some (.slice AaG raW.length caG) := fun o => (Kg.out.alloc o).cell 0
    have aKg1 : ∀ o, (w38.alloc o).cell? ⟨w13.heap.size, 1, none⟩ = some (.slice AbG rbW.length cbG) := fun o => (Kg.out.alloc o).cell 1
    go_wp2_with fail
    clear gKw0 gKw1 gKg0 gKg1 aKw0 aKw1 aKg0 aKg1
    refine (i_CollocationTableau _ _ _ V.out.ints).mono ?_
    rintro e w41 ⟨raH, rbH, xH, cH, rfl, pH, hH, b42⟩
    obtain ⟨rfl, rfl, rfl⟩ := P.out.unique pH
    have Z43 := Lib.hid (b42.size)
    have NT := Lib.hid (T.out.below b42)
    clear T
    have T := NT
    clear NT
    have NW := Lib.hid (W.out.below b42)
    clear W
    have W := NW
    clear NW
    have NKw := Lib.hid (Kw.out.below b42 (by have y0 := Z3.out; have y1 := Z6.out; have y2 := Z9.out; have y3 := ZSw.out; have y4 := Z12.out; have y5 := Z15.out; have y6 := Z18.out; have y7 := ZSg.out; have y8 := Z21.out; have y9 := Z24.out; have y10 := Z27.out; have y11 := Z29.out; have y12 := Z32.out; have y13 := Z34.out; have y14 := Z37.out; have y15 := Z40.out; have y16 := Z43.out; first | omega | (simp at *; omega)))
    clear Kw
    have Kw := NKw
    clear NKw
    have NX := Lib.hid (X.out.below b42)
    clear X
    have X := NX
    clear NX
    have NG := Lib.hid (G.out.below b42)
    clear G
    have G := NG
    clear NG
    have NKg := Lib.hid (Kg.out.below b42 (by have y0 := Z3.out; have y1 := Z6.out; have y2 := Z9.out; have y3 := ZSw.out; have y4 := Z12.out; have y5 := Z15.out; have y6 := Z18.out; have y7 := ZSg.out; have y8 := Z21.out; have y9 := Z24.out; have y10 := Z27.out; have y11 := Z29.out; have y12 := Z32.out; have y13 := Z34.out; have y14 := Z37.out; have y15 := Z40.out; have y16 := Z43.out; first | omega | (simp at *; omega)))
    clear Kg
    have Kg := NKg
    clear NKg
    have NY := Lib.hid (Y.out.below b42)
    clear Y
    have Y := NY
    clear NY
    have NV := Lib.hid (V.out.below b42)
    clear V
    have V := NV
    clear NV
    have NB := Lib.hid (B.out.trans (b42.mono B.out.size))
    clear B
    have B := NB
    clear NB
    clear b42 pH
    obtain ⟨AaH, caH, AbH, cbH, rfl⟩ := hH.open_
    have H := Lib.hid hH
    clear hH
    have gKw0 : w41.cell? ⟨w4.heap.size, 0, none⟩ = some (.slice AaW raW.length caW) := Kw.out.cell 0
    have gKw1 : w41.cell? ⟨w4.heap.size, 1, none⟩ = some (.slice AbW rbW.length cbW) := Kw.out.cell 1
    have gKg0 : w41.cell? ⟨w13.heap.size, 0, none⟩ = some (.slice AaG raW.length caG) := Kg.out.cell 0
    have gKg1 : w41.cell? ⟨w13.heap.size, 1, none⟩ = some (.slice AbG rbW.length cbG) := Kg.out.cell 1
    have aKw0 : ∀ o, (w41.alloc o).cell? ⟨w4.heap.size, 0, none⟩ = some (.slice AaW raW.length caW) := fun o => (Kw.out.alloc o).cell 0
    have aKw1 : ∀ o, (w41.alloc o).cell? ⟨w4.heap.size, 1, none⟩ = some (.slice AbW rbW.length cbW) := fun o => (Kw.out.alloc o).cell 1
    have aKg0 : ∀ o, (w41.alloc o).cell? ⟨w13.heap.size, 0, none⟩ = some (.slice AaG raW.length caG) := fun o => (Kg.out.alloc o).cell 0
    have aKg1 : ∀ o, (w41.alloc o).cell? ⟨w13.heap.size, 1, none⟩ = some (.slice AbG rbW.length cbG) := fun o => (Kg.out.alloc o).cell 1
    go_wp2_with fail
    clear gKw0 gKw1 gKg0 gKg1 aKw0 aKw1 aKg0 aKg1
    obtain ⟨w44, hw44⟩ : ∃ x, x = w41.alloc (.cells #[.slice AaH raW.length caH, .slice AbH rbW.length cbH] 27) := ⟨_, rfl⟩
    rw [← hw44]
    have b45 : Below w41.heap.size w41 w44 := by rw [hw44]; exact below1 _ _
    have Kh := Lib.hid (show Blk w44 w41.heap.size 27 #[.slice AaH raW.length caH, .slice AbH rbW.length cbH] by rw [hw44]; exact Blk.new _ _ _)
    have ZSh := Lib.hid (show w41.heap.size + 1 ≤ w44.heap.size by rw [hw44]; exact Nat.le_of_eq (Array.size_push _).symm)
    have Z46 := Lib.hid (b45.size)
    have NT := Lib.hid (T.out.below b45)
    clear T
    have T := NT
    clear NT
    have NW := Lib.hid (W.out.below b45)
    clear W
    have W := NW
    clear NW
    have NKw := Lib.hid (Kw.out.below b45 (by have y0 := Z3.out; have y1 := Z6.out; have y2 := Z9.out; have y3 := ZSw.out; have y4 := Z12.out; have y5 := Z15.out; have y6 := Z18.out; have y7 := ZSg.out; have y8 := Z21.out; have y9 := Z24.out; have y10 := Z27.out; have y11 := Z29.out; have y12 := Z32.out; have y13 := Z34.out; have y14 := Z37.out; have y15 := Z40.out; have y16 := Z43.out; have y17 := Z46.out; first | omega | (simp at *; omega)))
    clear Kw
    have Kw := NKw
    clear NKw
    have NX := Lib.hid (X.out.below b45)
    clear X
    have X := NX
    clear NX
    have NG := Lib.hid (G.out.below b45)
    clear G
    have G := NG
    clear NG
    have NKg := Lib.hid (Kg.out.below b45 (by have y0 := Z3.out; have y1 := Z6.out; have y2 := Z9.out; have y3 := ZSw.out; have y4 := Z12.out; have y5 := Z15.out; have y6 := Z18.out; have y7 := ZSg.out; have y8 := Z21.out; have y9 := Z24.out; have y10 := Z27.out; have y11 := Z29.out; have y12 := Z32.out; have y13 := Z34.out; have y14 := Z37.out; have y15 := Z40.out; have y16 := Z43.out; have y17 := Z46.out; first | omega | (simp at *; omega)))
    clear Kg
    have Kg := NKg
    clear NKg
    have NY := Lib.hid (Y.out.below b45)
    clear Y
    have Y := NY
    clear NY
    have NV := Lib.hid (V.out.below b45)
    clear V
    have V := NV
    clear NV
    have NH := Lib.hid (H.out.below b45)
    clear H
    have H := NH
    clear NH
    have NB := Lib.hid (B.out.trans (b45.mono B.out.size))
    clear B
    have B := NB
    clear NB
    clear b45 hw44
    refine (l_eqTableau _ _ _ _ _ _ _ H.out.arg W.out.arg).mono ?_
    rintro e w47 ⟨rfl, b48⟩
    have Z49 := Lib.hid (b48.size)
    have NT := Lib.hid (T.out.below b48)
    clear T
    have T := NT
    clear NT
    have NW := Lib.hid (W.out.below b48)
    clear W
    have W := NW
    clear NW
    have NKw := Lib.hid (Kw.out.below b48 (by have y0 := Z3.out; have y1 := Z6.out; have y2 := Z9.out; have y3 := ZSw.out; have y4 := Z12.out; have y5 := Z15.out; have y6 := Z18.out; have y7 := ZSg.out; have y8 := Z21.out; have y9 := Z24.out; have y10 := Z27.out; have y11 := Z29.out; have y12 := Z32.out; have y13 := Z34.out; have y14 := Z37.out; have y15 := Z40.out; have y16 := Z43.out; have y17 := Z46.out; have y18 := ZSh.out; have y19 := Z49.out; first | omega | (simp at *; omega)))
    clear Kw
    have Kw := NKw
    clear NKw
    have NX := Lib.hid (X.out.below b48)
    clear X
    have X := NX
    clear NX
    have NG := Lib.hid (G.out.below b48)
    clear G
    have G := NG
    clear NG
    have NKg := Lib.hid (Kg.out.below b48 (by have y0 := Z3.out; have y1 := Z6.out; have y2 := Z9.out; have y3 := ZSw.out; have y4 := Z12.out; have y5 := Z15.out; have y6 := Z18.out; have y7 := ZSg.out; have y8 := Z21.out; have y9 := Z24.out; have y10 := Z27.out; have y11 := Z29.out; have y12 := Z32.out; have y13 := Z34.out; have y14 := Z37.out; have y15 := Z40.out; have y16 := Z43.out; have y17 := Z46.out; have y18 := ZSh.out; have y19 := Z49.out; first | omega | (simp at *; omega)))
    clear Kg
    have Kg := NKg
    clear NKg
    have NY := Lib.hid (Y.out.below b48)
    clear Y
    have Y := NY
    clear NY
    have NV := Lib.hid (V.out.below b48)
    clear V
    have V := NV
    clear NV
    have NH := Lib.hid (H.out.below b48)
    clear H
    have H := NH
    clear NH
    have NKh := Lib.hid (Kh.out.below b48 (by have y0 := Z3.out; have y1 := Z6.out; have y2 := Z9.out; have y3 := ZSw.out; have y4 := Z12.out; have y5 := Z15.out; have y6 := Z18.out; have y7 := ZSg.out; have y8 := Z21.out; have y9 := Z24.out; have y10 := Z27.out; have y11 := Z29.out; have y12 := Z32.out; have y13 := Z34.out; have y14 := Z37.out; have y15 := Z40.out; have y16 := Z43.out; have y17 := Z46.out; have y18 := ZSh.out; have y19 := Z49.out; first | omega | (simp at *; omega)))
    clear Kh
    have Kh := NKh
    clear NKh
    have NB := Lib.hid (B.out.trans (b48.mono B.out.size))
    clear B
    have B := NB
    clear NB
    clear b48
    have gKw0 : w47.cell? ⟨w4.heap.size, 0, none⟩ = some (.slice AaW raW.length caW) := Kw.out.cell 0
    have gKw1 : w47.cell? ⟨w4.heap.size, 1, none⟩ = some (.slice AbW rbW.length cbW) := Kw.out.cell 1
    have gKg0 : w47.cell? ⟨w13.heap.size, 0, none⟩ = some (.slice AaG raW.length caG) := Kg.out.cell 0
    have gKg1 : w47.cell? ⟨w13.heap.size, 1, none⟩ = some (.slice AbG rbW.length cbG) := Kg.out.cell 1
    have gKh0 : w47.cell? ⟨w41.heap.size, 0, none⟩ = some (.slice AaH raW.length caH) := Kh.out.cell 0
    have gKh1 : w47.cell? ⟨w41.heap.size, 1, none⟩ = some (.slice AbH rbW.length cbH) := Kh.out.cell 1
    have aKw0 : ∀ o, (w47.alloc o).cell? ⟨w4.heap.size, 0, none⟩ = some (.slice AaW raW.length caW) := fun o => (Kw.out.alloc o).cell 0
    have aKw1 : ∀ o, (w47.alloc o).cell? ⟨w4.heap.size, 1, none⟩ = some (.slice AbW rbW.length cbW) := fun o => (Kw.out.alloc o).cell 1
    have aKg0 : ∀ o, (w47.alloc o).cell? ⟨w13.heap.size, 0, none⟩ = some (.slice AaG raW.length caG) := fun o => (Kg.out.alloc o).cell 0
    have aKg1 : ∀ o, (w47.alloc o).cell? ⟨w13.heap.size, 1, none⟩ = some (.slice AbG rbW.length cbG) := fun o => (Kg.out.alloc o).cell 1
    have aKh0 : ∀ o, (w47.alloc o).cell? ⟨w41.heap.size, 0, none⟩ = some (.slice AaH raW.length caH) := fun o => (Kh.out.alloc o).cell 0
    have aKh1 : ∀ o, (w47.alloc o).cell? ⟨w41.heap.size, 1, none⟩ = some (.slice AbH rbW.length cbH) := fun o => (Kh.out.alloc o).cell 1
    go_wp2_with fail
    clear gKw0 gKw1 gKg0 gKg1 gKh0 gKh1 aKw0 aKw1 aKg0 aKg1 aKh0 aKh1
    refine (l_heldTableau _ _ _ _ 1 G.out.arg (by have y := SH.out; omega) (by have y := SH.out; omega) (by omega) (by omega)).mono ?_
    rintro e w50 ⟨rfl, b51⟩
    have Z52 := Lib.hid (b51.size)
    have NT := Lib.hid (T.out.below b51)
    clear T
    have T := NT
    clear NT
    have NW := Lib.hid (W.out.below b51)
    clear W
    have W := NW
    clear NW
    have NKw := Lib.hid (Kw.out.below b51 (by have y0 := Z3.out; have y1 := Z6.out; have y2 := Z9.out; have y3 := ZSw.out; have y4 := Z12.out; have y5 := Z15.out; have y6 := Z18.out; have y7 := ZSg.out; have y8 := Z21.out; have y9 := Z24.out; have y10 := Z27.out; have y11 := Z29.out; have y12 := Z32.out; have y13 := Z34.out; have y14 := Z37.out; have y15 := Z40.out; have y16 := Z43.out; have y17 := Z46.out; have y18 := ZSh.out; have y19 := Z49.out; have y20 := Z52.out; first | omega | (simp at *; omega)))
    clear Kw
    have Kw := NKw
    clear NKw
    have NX := Lib.hid (X.out.below b51)
    clear X
    have X := NX
    clear NX
    have NG := Lib.hid (G.out.below b51)
    clear G
    have G := NG
    clear NG
    have NKg := Lib.hid (Kg.out.below b51 (by have y0 := Z3.out; have y1 := Z6.out; have y2 := Z9.out; have y3 := ZSw.out; have y4 := Z12.out; have y5 := Z15.out; have y6 := Z18.out; have y7 := ZSg.out; have y8 := Z21.out; have y9 := Z24.out; have y10 := Z27.out; have y11 := Z29.out; have y12 := Z32.out; have y13 := Z34.out; have y14 := Z37.out; have y15 := Z40.out; have y16 := Z43.out; have y17 := Z46.out; have y18 := ZSh.out; have y19 := Z49.out; have y20 := Z52.out; first | omega | (simp at *; omega)))
    clear Kg
    have Kg := NKg
    clear NKg
    have NY := Lib.hid (Y.out.below b51)
    clear Y
    have Y := NY
    clear NY
    have NV := Lib.hid (V.out.below b51)
    clear V
    have V := NV
    clear NV
    have NH := Lib.hid (H.out.below b51)
    clear H
    have H := NH
    clear NH
    have NKh := Lib.hid (Kh.out.below b51 (by have y0 := Z3.out; have y1 := Z6.out; have y2 := Z9.out; have y3 := ZSw.out; have y4 := Z12.out; have y5 := Z15.out; have y6 := Z18.out; have y7 := ZSg.out; have y8 := Z21.out; have y9 := Z24.out; have y10 := Z27.out; have y11 := Z29.out; have y12 := Z32.out; have y13 := Z34.out; have y14 := Z37.out; have y15 := Z40.out; have y16 := Z43.out; have y17 := Z46.out; have y18 := ZSh.out; have y19 := Z49.out; have y20 := Z52.out; first | omega | (simp at *; omega)))
    clear Kh
    have Kh := NKh
    clear NKh
    have NB := Lib.hid (B.out.trans (b51.mono B.out.size))
    clear B
    have B := NB
    clear NB
    clear b51
    have gKw0 : w50.cell? ⟨w4.heap.size, 0, none⟩ = some (.slice AaW raW.length caW) := Kw.out.cell 0
    have gKw1 : w50.cell? ⟨w4.heap.size, 1, none⟩ = some (.slice AbW rbW.length cbW) := Kw.out.cell 1
    have gKg0 : w50.cell? ⟨w13.heap.size, 0, none⟩ = some (.slice AaG raW.length caG) := Kg.out.cell 0
    have gKg1 : w50.cell? ⟨w13.heap.size, 1, none⟩ = some (.slice AbG rbW.length cbG) := Kg.out.cell 1
    have gKh0 : w50.cell? ⟨w41.heap.size, 0, none⟩ = some (.slice AaH raW.length caH) := Kh.out.cell 0
    have gKh1 : w50.cell? ⟨w41.heap.size, 1, none⟩ = some (.slice AbH rbW.length cbH) := Kh.out.cell 1
    have aKw0 : ∀ o, (w50.alloc o).cell? ⟨w4.heap.size, 0, none⟩ = some (.slice AaW raW.length caW) := fun o => (Kw.out.alloc o).cell 0
    have aKw1 : ∀ o, (w50.alloc o).cell? ⟨w4.heap.size, 1, none⟩ = some (.slice AbW rbW.length cbW) := fun o => (Kw.out.alloc o).cell 1
    have aKg0 : ∀ o, (w50.alloc o).cell? ⟨w13.heap.size, 0, none⟩ = some (.slice AaG raW.length caG) := fun o => (Kg.out.alloc o).cell 0
    have aKg1 : ∀ o, (w50.alloc o).cell? ⟨w13.heap.size, 1, none⟩ = some (.slice AbG rbW.length cbG) := fun o => (Kg.out.alloc o).cell 1
    have aKh0 : ∀ o, (w50.alloc o).cell? ⟨w41.heap.size, 0, none⟩ = some (.slice AaH raW.length caH) := fun o => (Kh.out.alloc o).cell 0
    have aKh1 : ∀ o, (w50.alloc o).cell? ⟨w41.heap.size, 1, none⟩ = some (.slice AbH rbW.length cbH) := fun o => (Kh.out.alloc o).cell 1
    go_wp2_with fail
    clear gKw0 gKw1 gKg0 gKg1 gKh0 gKh1 aKw0 aKw1 aKg0 aKg1 aKh0 aKh1
    go_ret
    exact ⟨rfl, B.out⟩
end Go.Proofs.Ytgbfifcbbfhpmaa
