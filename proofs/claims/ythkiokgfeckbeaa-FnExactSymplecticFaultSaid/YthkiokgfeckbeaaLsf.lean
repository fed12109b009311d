/- The law FnExactSymplecticFault, walked: it returns true. -/
import Derived.Test.YthkiokgfeckbeaaMark
import Derived.Test.YthkiokgfeckbeaaSf
import Derived.WalkLawsBesides
import Derived.Deep.RegionHeld3
set_option linter.unusedVariables false
set_option linter.unusedSimpArgs false
namespace Go.Proofs.Ythkiokgfeckbeaa
open Go.RowKit

set_option maxRecDepth 100000 in
set_option maxHeartbeats 8000000 in
theorem law_FnExactSymplecticFault (w : World) (v0 : Value) (A0 : List (List Int)) (Bs0 : List Int) (ha0 : TabArg w v0 A0 Bs0) :
    Calls Try.prog 3 #[v0] w fun e w' => e = .returned (.bool true) ∧ Below w.heap.size w w' := by
  have HA := Lib.hid ha0
  obtain ⟨Aa, ca, Ab, cb, rfl⟩ := ha0.open_
  clear ha0
  have B := Lib.hid (Below.refl w.heap.size w)
  by_cases hs : szTab 1048576 A0 Bs0 < 0
  · go_enter Try.func3, Try.ntmps3
    go_wp2_with fail
    refine (l_szTableau _ _ _ _ _ (HA.out.below (below1 _ _)) (by omega) (by omega)).mono ?_
    rintro e w1 ⟨rfl, hb1⟩
    have B1 := Lib.hid ((below1 w (.cells #[.slice Aa A0.length ca, .slice Ab Bs0.length cb] 25)).trans (hb1.mono (below1 _ _).size))
    clear hb1
    go_wp2_with fail
    go_ret
    exact ⟨rfl, B1.out⟩
  · have hsh := szTab_short (by omega : 0 ≤ szTab 1048576 A0 Bs0) (by omega)
    have HSA := Lib.hid hsh.1
    have HSB := Lib.hid hsh.2.1
    have ht := szTab_tot (by omega : 0 ≤ szTab 1048576 A0 Bs0) (by omega)
    have HTA := Lib.hid ht.1
    have HTB := Lib.hid ht.2
    have hs0 : 0 ≤ szTab 1048576 A0 Bs0 := by omega
    have hk0 : 0 ≤ 1 + (tot A0 : Int) + (Bs0.length : Int) := by omega
    clear hsh hs ht
    go_enter Try.func3, Try.ntmps3
    go_wp2_with fail
    obtain ⟨w1, hw1⟩ : ∃ x, x = w.alloc (.cells #[.slice Aa A0.length ca, .slice Ab Bs0.length cb] 25) := ⟨_, rfl⟩
    rw [← hw1]
    have b2 : Below w.heap.size w w1 := by rw [hw1]; exact below1 _ _
    have Ka := Lib.hid (show Blk w1 w.heap.size 25 #[.slice Aa A0.length ca, .slice Ab Bs0.length cb] by rw [hw1]; exact Blk.new _ _ _)
    have ZSa := Lib.hid (show w.heap.size + 1 ≤ w1.heap.size by rw [hw1]; exact Nat.le_of_eq (Array.size_push _).symm)
    have Z3 := Lib.hid (b2.size)
    have NB := Lib.hid (B.out.trans (b2.mono B.out.size))
    clear B
    have B := NB
    clear NB
    clear b2 hw1
    refine (l_szTableau _ _ _ _ _ (HA.out.below B.out) (by omega) (by omega)).mono ?_
    rintro e w4 ⟨rfl, b5⟩
    have Z6 := Lib.hid (b5.size)
    have NKa := Lib.hid (Ka.out.below b5 (by have y0 := Z3.out; have y1 := ZSa.out; have y2 := Z6.out; first | omega | (simp at *; omega)))
    clear Ka
    have Ka := NKa
    clear NKa
    have NB := Lib.hid (B.out.trans (b5.mono B.out.size))
    clear B
    have B := NB
    clear NB
    clear b5
    have gKa0 : w4.cell? ⟨w.heap.size, 0, none⟩ = some (.slice Aa A0.length ca) := Ka.out.cell 0
    have gKa1 : w4.cell? ⟨w.heap.size, 1, none⟩ = some (.slice Ab Bs0.length cb) := Ka.out.cell 1
    go_wp2_with fail
    clear gKa0 gKa1
    refine (l_toTableau _ _ _ _ (HA.out.below B.out) HSA.out HSB.out).mono ?_
    rintro e w7 ⟨xT, rfl, hT, b8⟩
    have Z9 := Lib.hid (b8.size)
    have NKa := Lib.hid (Ka.out.below b8 (by have y0 := Z3.out; have y1 := ZSa.out; have y2 := Z6.out; have y3 := Z9.out; first | omega | (simp at *; omega)))
    clear Ka
    have Ka := NKa
    clear NKa
    have NB := Lib.hid (B.out.trans (b8.mono B.out.size))
    clear B
    have B := NB
    clear NB
    clear b8
    obtain ⟨AaT, caT, AbT, cbT, rfl⟩ := hT.open_
    have T := Lib.hid hT
    clear hT
    have gKa0 : w7.cell? ⟨w.heap.size, 0, none⟩ = some (.slice Aa A0.length ca) := Ka.out.cell 0
    have gKa1 : w7.cell? ⟨w.heap.size, 1, none⟩ = some (.slice Ab Bs0.length cb) := Ka.out.cell 1
    go_wp2_with fail
    clear gKa0 gKa1
    refine (s_SymplecticFault _ _ _ _ T.out.arg).mono ?_
    rintro e w10 ⟨rW, xW, cW, rfl, pW, hW, b11⟩
    have P := Lib.hid pW
    have SH := Lib.hid pW.short
    have Z12 := Lib.hid (b11.size)
    have NKa := Lib.hid (Ka.out.below b11 (by have y0 := Z3.out; have y1 := ZSa.out; have y2 := Z6.out; have y3 := Z9.out; have y4 := Z12.out; first | omega | (simp at *; omega)))
    clear Ka
    have Ka := NKa
    clear NKa
    have NT := Lib.hid (T.out.below b11)
    clear T
    have T := NT
    clear NT
    have NB := Lib.hid (B.out.trans (b11.mono B.out.size))
    clear B
    have B := NB
    clear NB
    clear b11 pW
    have W := Lib.hid (OI.of hW)
    clear hW
    have hr0 : 0 ≤ 1 + (rW.length : Int) := by omega
    have gKa0 : w10.cell? ⟨w.heap.size, 0, none⟩ = some (.slice Aa A0.length ca) := Ka.out.cell 0
    have gKa1 : w10.cell? ⟨w.heap.size, 1, none⟩ = some (.slice Ab Bs0.length cb) := Ka.out.cell 1
    go_wp2_with fail
    clear gKa0 gKa1
    refine (l_toTableau _ _ _ _ (HA.out.below B.out) HSA.out HSB.out).mono ?_
    rintro e w13 ⟨xX, rfl, hX, b14⟩
    have Z15 := Lib.hid (b14.size)
    have NKa := Lib.hid (Ka.out.below b14 (by have y0 := Z3.out; have y1 := ZSa.out; have y2 := Z6.out; have y3 := Z9.out; have y4 := Z12.out; have y5 := Z15.out; first | omega | (simp at *; omega)))
    clear Ka
    have Ka := NKa
    clear NKa
    have NT := Lib.hid (T.out.below b14)
    clear T
    have T := NT
    clear NT
    have NW := Lib.hid (W.out.below b14)
    clear W
    have W := NW
    clear NW
    have NB := Lib.hid (B.out.trans (b14.mono B.out.size))
    clear B
    have B := NB
    clear NB
    clear b14
    obtain ⟨AaX, caX, AbX, cbX, rfl⟩ := hX.open_
    have X := Lib.hid hX
    clear hX
    have gKa0 : w13.cell? ⟨w.heap.size, 0, none⟩ = some (.slice Aa A0.length ca) := Ka.out.cell 0
    have gKa1 : w13.cell? ⟨w.heap.size, 1, none⟩ = some (.slice Ab Bs0.length cb) := Ka.out.cell 1
    go_wp2_with fail
    clear gKa0 gKa1
    obtain ⟨w16, hw16⟩ : ∃ x, x = w13.alloc (.cells #[.slice AaX A0.length caX, .slice AbX Bs0.length cbX] 29) := ⟨_, rfl⟩
    rw [← hw16]
    have b17 : Below w13.heap.size w13 w16 := by rw [hw16]; exact below1 _ _
    have Kx := Lib.hid (show Blk w16 w13.heap.size 29 #[.slice AaX A0.length caX, .slice AbX Bs0.length cbX] by rw [hw16]; exact Blk.new _ _ _)
    have ZSx := Lib.hid (show w13.heap.size + 1 ≤ w16.heap.size by rw [hw16]; exact Nat.le_of_eq (Array.size_push _).symm)
    have Z18 := Lib.hid (b17.size)
    have NKa := Lib.hid (Ka.out.below b17 (by have y0 := Z3.out; have y1 := ZSa.out; have y2 := Z6.out; have y3 := Z9.out; have y4 := Z12.out; have y5 := Z15.out; have y6 := Z18.out; first | omega | (simp at *; omega)))
    clear Ka
    have Ka := NKa
    clear NKa
    have NT := Lib.hid (T.out.below b17)
    clear T
    have T := NT
    clear NT
    have NW := Lib.hid (W.out.below b17)
    clear W
    have W := NW
    clear NW
    have NX := Lib.hid (X.out.below b17)
    clear X
    have X := NX
    clear NX
    have NB := Lib.hid (B.out.trans (b17.mono B.out.size))
    clear B
    have B := NB
    clear NB
    clear b17 hw16
    refine (i_SymplecticFault _ _ _ _ X.out.arg).mono ?_
    rintro e w19 ⟨rG, xG, cG, rfl, pG, hG, b20⟩
    obtain ⟨rfl, rfl⟩ := P.out.unique pG
    have Z21 := Lib.hid (b20.size)
    have NKa := Lib.hid (Ka.out.below b20 (by have y0 := Z3.out; have y1 := ZSa.out; have y2 := Z6.out; have y3 := Z9.out; have y4 := Z12.out; have y5 := Z15.out; have y6 := Z18.out; have y7 := ZSx.out; have y8 := Z21.out; first | omega | (simp at *; omega)))
    clear Ka
    have Ka := NKa
    clear NKa
    have NT := Lib.hid (T.out.below b20)
    clear T
    have T := NT
    clear NT
    have NW := Lib.hid (W.out.below b20)
    clear W
    have W := NW
    clear NW
    have NX := Lib.hid (X.out.below b20)
    clear X
    have X := NX
    clear NX
    have NKx := Lib.hid (Kx.out.below b20 (by have y0 := Z3.out; have y1 := ZSa.out; have y2 := Z6.out; have y3 := Z9.out; have y4 := Z12.out; have y5 := Z15.out; have y6 := Z18.out; have y7 := ZSx.out; have y8 := Z21.out; first | omega | (simp at *; omega)))
    clear Kx
    have Kx := NKx
    clear NKx
    have NB := Lib.hid (B.out.trans (b20.mono B.out.size))
    clear B
    have B := NB
    clear NB
    clear b20 pG
    have G := Lib.hid (OI.of hG)
    clear hG
    have gKa0 : w19.cell? ⟨w.heap.size, 0, none⟩ = some (.slice Aa A0.length ca) := Ka.out.cell 0
    have gKa1 : w19.cell? ⟨w.heap.size, 1, none⟩ = some (.slice Ab Bs0.length cb) := Ka.out.cell 1
    have gKx0 : w19.cell? ⟨w13.heap.size, 0, none⟩ = some (.slice AaX A0.length caX) := Kx.out.cell 0
    have gKx1 : w19.cell? ⟨w13.heap.size, 1, none⟩ = some (.slice AbX Bs0.length cbX) := Kx.out.cell 1
    go_wp2_with fail
    clear gKa0 gKa1 gKx0 gKx1
    refine (l_eqInt64S _ _ _ _ _ G.out.ints W.out.ints).mono ?_
    rintro e w22 ⟨rfl, nw22, hw22⟩
    have b23 : Below w19.heap.size w19 w22 := by rw [hw22]; exact below_drewN (Below.refl _ _) _
    clear hw22
    have Z24 := Lib.hid (b23.size)
    have NKa := Lib.hid (Ka.out.below b23 (by have y0 := Z3.out; have y1 := ZSa.out; have y2 := Z6.out; have y3 := Z9.out; have y4 := Z12.out; have y5 := Z15.out; have y6 := Z18.out; have y7 := ZSx.out; have y8 := Z21.out; have y9 := Z24.out; first | omega | (simp at *; omega)))
    clear Ka
    have Ka := NKa
    clear NKa
    have NT := Lib.hid (T.out.below b23)
    clear T
    have T := NT
    clear NT
    have NW := Lib.hid (W.out.below b23)
    clear W
    have W := NW
    clear NW
    have NX := Lib.hid (X.out.below b23)
    clear X
    have X := NX
    clear NX
    have NKx := Lib.hid (Kx.out.below b23 (by have y0 := Z3.out; have y1 := ZSa.out; have y2 := Z6.out; have y3 := Z9.out; have y4 := Z12.out; have y5 := Z15.out; have y6 := Z18.out; have y7 := ZSx.out; have y8 := Z21.out; have y9 := Z24.out; first | omega | (simp at *; omega)))
    clear Kx
    have Kx := NKx
    clear NKx
    have NG := Lib.hid (G.out.below b23)
    clear G
    have G := NG
    clear NG
    have NB := Lib.hid (B.out.trans (b23.mono B.out.size))
    clear B
    have B := NB
    clear NB
    clear b23
    have gKa0 : w22.cell? ⟨w.heap.size, 0, none⟩ = some (.slice Aa A0.length ca) := Ka.out.cell 0
    have gKa1 : w22.cell? ⟨w.heap.size, 1, none⟩ = some (.slice Ab Bs0.length cb) := Ka.out.cell 1
    have gKx0 : w22.cell? ⟨w13.heap.size, 0, none⟩ = some (.slice AaX A0.length caX) := Kx.out.cell 0
    have gKx1 : w22.cell? ⟨w13.heap.size, 1, none⟩ = some (.slice AbX Bs0.length cbX) := Kx.out.cell 1
    go_wp2_with fail
    go_region_held3 (fun w' => w'.cell? ⟨w.heap.size, 0, none⟩ = some (.slice Aa A0.length ca) ∧ w'.cell? ⟨w.heap.size, 1, none⟩ = some (.slice Ab Bs0.length cb) ∧ w'.cell? ⟨w13.heap.size, 0, none⟩ = some (.slice AaX A0.length caX) ∧ w'.cell? ⟨w13.heap.size, 1, none⟩ = some (.slice AbX Bs0.length cbX)) ((go_split_ands; refine ⟨?_, ?_, ?_, ?_⟩ <;> (first | (rw [hb7.cell (by have l0 := Ka.out.lt; have l1 := Kx.out.lt; have h3 := hb6.size; simp at h3 ⊢; omega)]; assumption) | (rw [hb6.cell (by first | exact Ka.out.lt | exact Kx.out.lt)]; assumption) | go_keep)))
      (first | (go_at_call 11; refine (l_toTableau _ _ _ _ (by exact HA.out.below B.out.drew) HSA.out HSB.out).mono ?_; rintro e wq6 ⟨x1, rfl, hx1, hb6⟩) | (go_at_call 14; refine (l_eqTableau _ _ _ _ _ _ _ (by exact X.out.arg.below (below_of_drew hb6)) (by exact hx1.arg)).mono ?_; rintro e wq7 ⟨rfl, hb7⟩))
    clear gKa0 gKa1 gKx0 gKx1
    have hb6 := below_of_drew hb6
    have hb6 : Below w22.heap.size w22 wq6 := hb6
    have Z25 := Lib.hid (hb6.size)
    have NKa := Lib.hid (Ka.out.below hb6 (by have y0 := Z3.out; have y1 := ZSa.out; have y2 := Z6.out; have y3 := Z9.out; have y4 := Z12.out; have y5 := Z15.out; have y6 := Z18.out; have y7 := ZSx.out; have y8 := Z21.out; have y9 := Z24.out; have y10 := Z25.out; first | omega | (simp at *; omega)))
    clear Ka
    have Ka := NKa
    clear NKa
    have NT := Lib.hid (T.out.below hb6)
    clear T
    have T := NT
    clear NT
    have NW := Lib.hid (W.out.below hb6)
    clear W
    have W := NW
    clear NW
    have NX := Lib.hid (X.out.below hb6)
    clear X
    have X := NX
    clear NX
    have NKx := Lib.hid (Kx.out.below hb6 (by have y0 := Z3.out; have y1 := ZSa.out; have y2 := Z6.out; have y3 := Z9.out; have y4 := Z12.out; have y5 := Z15.out; have y6 := Z18.out; have y7 := ZSx.out; have y8 := Z21.out; have y9 := Z24.out; have y10 := Z25.out; first | omega | (simp at *; omega)))
    clear Kx
    have Kx := NKx
    clear NKx
    have NG := Lib.hid (G.out.below hb6)
    clear G
    have G := NG
    clear NG
    have NB := Lib.hid (B.out.trans (hb6.mono B.out.size))
    clear B
    have B := NB
    clear NB
    have Z26 := Lib.hid (hb7.size)
    have NKa := Lib.hid (Ka.out.below hb7 (by have y0 := Z3.out; have y1 := ZSa.out; have y2 := Z6.out; have y3 := Z9.out; have y4 := Z12.out; have y5 := Z15.out; have y6 := Z18.out; have y7 := ZSx.out; have y8 := Z21.out; have y9 := Z24.out; have y10 := Z25.out; have y11 := Z26.out; first | omega | (simp at *; omega)))
    clear Ka
    have Ka := NKa
    clear NKa
    have NT := Lib.hid (T.out.below hb7)
    clear T
    have T := NT
    clear NT
    have NW := Lib.hid (W.out.below hb7)
    clear W
    have W := NW
    clear NW
    have NX := Lib.hid (X.out.below hb7)
    clear X
    have X := NX
    clear NX
    have NKx := Lib.hid (Kx.out.below hb7 (by have y0 := Z3.out; have y1 := ZSa.out; have y2 := Z6.out; have y3 := Z9.out; have y4 := Z12.out; have y5 := Z15.out; have y6 := Z18.out; have y7 := ZSx.out; have y8 := Z21.out; have y9 := Z24.out; have y10 := Z25.out; have y11 := Z26.out; first | omega | (simp at *; omega)))
    clear Kx
    have Kx := NKx
    clear NKx
    have NG := Lib.hid (G.out.below hb7)
    clear G
    have G := NG
    clear NG
    have NB := Lib.hid (B.out.trans (hb7.mono B.out.size))
    clear B
    have B := NB
    clear NB
    clear hb6 hb7 hx1
    have gKa0 : wq7.cell? ⟨w.heap.size, 0, none⟩ = some (.slice Aa A0.length ca) := Ka.out.cell 0
    have gKa1 : wq7.cell? ⟨w.heap.size, 1, none⟩ = some (.slice Ab Bs0.length cb) := Ka.out.cell 1
    have gKx0 : wq7.cell? ⟨w13.heap.size, 0, none⟩ = some (.slice AaX A0.length caX) := Kx.out.cell 0
    have gKx1 : wq7.cell? ⟨w13.heap.size, 1, none⟩ = some (.slice AbX Bs0.length cbX) := Kx.out.cell 1
    go_wp2_with fail
    clear gKa0 gKa1 gKx0 gKx1
    refine (l_markTableau _ _ _ _ _ _ 1 X.out (by have y0 := Z3.out; have y1 := ZSa.out; have y2 := Z6.out; have y3 := Z9.out; have y4 := Z12.out; have y5 := Z15.out; have y6 := Z18.out; have y7 := ZSx.out; have y8 := Z21.out; have y9 := Z24.out; have y10 := Z25.out; have y11 := Z26.out; omega) (by exact HTA.out) (by exact HTB.out) (by omega) (by omega)).mono ?_
    rintro e w27 ⟨rfl, hw27, chw27⟩
    have Z28 := Lib.hid (chw27.size)
    have NKa := Lib.hid (Ka.out.chg chw27 (by have y0 := Z3.out; have y1 := ZSa.out; have y2 := Z6.out; have y3 := Z9.out; have y4 := Z12.out; have y5 := Z15.out; have y6 := Z18.out; have y7 := ZSx.out; have y8 := Z21.out; have y9 := Z24.out; have y10 := Z25.out; have y11 := Z26.out; have y12 := Z28.out; omega))
    clear Ka
    have Ka := NKa
    clear NKa
    have NT := Lib.hid (T.out.kept chw27 (by have y0 := Z3.out; have y1 := ZSa.out; have y2 := Z6.out; have y3 := Z9.out; have y4 := Z12.out; have y5 := Z15.out; have y6 := Z18.out; have y7 := ZSx.out; have y8 := Z21.out; have y9 := Z24.out; have y10 := Z25.out; have y11 := Z26.out; have y12 := Z28.out; omega))
    clear T
    have T := NT
    clear NT
    have NW := Lib.hid (W.out.kept chw27 (by have y0 := Z3.out; have y1 := ZSa.out; have y2 := Z6.out; have y3 := Z9.out; have y4 := Z12.out; have y5 := Z15.out; have y6 := Z18.out; have y7 := ZSx.out; have y8 := Z21.out; have y9 := Z24.out; have y10 := Z25.out; have y11 := Z26.out; have y12 := Z28.out; omega))
    clear W
    have W := NW
    clear NW
    have NKx := Lib.hid (Kx.out.chg chw27 (by have y0 := Z3.out; have y1 := ZSa.out; have y2 := Z6.out; have y3 := Z9.out; have y4 := Z12.out; have y5 := Z15.out; have y6 := Z18.out; have y7 := ZSx.out; have y8 := Z21.out; have y9 := Z24.out; have y10 := Z25.out; have y11 := Z26.out; have y12 := Z28.out; omega))
    clear Kx
    have Kx := NKx
    clear NKx
    have NG := Lib.hid (G.out.kept chw27 (by have y0 := Z3.out; have y1 := ZSa.out; have y2 := Z6.out; have y3 := Z9.out; have y4 := Z12.out; have y5 := Z15.out; have y6 := Z18.out; have y7 := ZSx.out; have y8 := Z21.out; have y9 := Z24.out; have y10 := Z25.out; have y11 := Z26.out; have y12 := Z28.out; omega))
    clear G
    have G := NG
    clear NG
    have NX := Lib.hid (hw27)
    clear X
    have X := NX
    clear NX
    have NB := Lib.hid (chw27.below B.out (by have y0 := Z3.out; have y1 := ZSa.out; have y2 := Z6.out; have y3 := Z9.out; have y4 := Z12.out; have y5 := Z15.out; have y6 := Z18.out; have y7 := ZSx.out; have y8 := Z21.out; have y9 := Z24.out; have y10 := Z25.out; have y11 := Z26.out; have y12 := Z28.out; omega) B.out.size)
    clear B
    have B := NB
    clear NB
    clear hw27 chw27
    have gKa0 : w27.cell? ⟨w.heap.size, 0, none⟩ = some (.slice Aa A0.length ca) := Ka.out.cell 0
    have gKa1 : w27.cell? ⟨w.heap.size, 1, none⟩ = some (.slice Ab Bs0.length cb) := Ka.out.cell 1
    have gKx0 : w27.cell? ⟨w13.heap.size, 0, none⟩ = some (.slice AaX A0.length caX) := Kx.out.cell 0
    have gKx1 : w27.cell? ⟨w13.heap.size, 1, none⟩ = some (.slice AbX Bs0.length cbX) := Kx.out.cell 1
    go_wp2_with fail
    clear gKa0 gKa1 gKx0 gKx1
    refine (l_eqInt64S _ _ _ _ _ G.out.ints W.out.ints).mono ?_
    rintro e w29 ⟨rfl, nw29, hw29⟩
    have b30 : Below w27.heap.size w27 w29 := by rw [hw29]; exact below_drewN (Below.refl _ _) _
    clear hw29
    have Z31 := Lib.hid (b30.size)
    have NKa := Lib.hid (Ka.out.below b30 (by have y0 := Z3.out; have y1 := ZSa.out; have y2 := Z6.out; have y3 := Z9.out; have y4 := Z12.out; have y5 := Z15.out; have y6 := Z18.out; have y7 := ZSx.out; have y8 := Z21.out; have y9 := Z24.out; have y10 := Z25.out; have y11 := Z26.out; have y12 := Z28.out; have y13 := Z31.out; first | omega | (simp at *; omega)))
    clear Ka
    have Ka := NKa
    clear NKa
    have NT := Lib.hid (T.out.below b30)
    clear T
    have T := NT
    clear NT
    have NW := Lib.hid (W.out.below b30)
    clear W
    have W := NW
    clear NW
    have NX := Lib.hid (X.out.below b30)
    clear X
    have X := NX
    clear NX
    have NKx := Lib.hid (Kx.out.below b30 (by have y0 := Z3.out; have y1 := ZSa.out; have y2 := Z6.out; have y3 := Z9.out; have y4 := Z12.out; have y5 := Z15.out; have y6 := Z18.out; have y7 := ZSx.out; have y8 := Z21.out; have y9 := Z24.out; have y10 := Z25.out; have y11 := Z26.out; have y12 := Z28.out; have y13 := Z31.out; first | omega | (simp at *; omega)))
    clear Kx
    have Kx := NKx
    clear NKx
    have NG := Lib.hid (G.out.below b30)
    clear G
    have G := NG
    clear NG
    have NB := Lib.hid (B.out.trans (b30.mono B.out.size))
    clear B
    have B := NB
    clear NB
    clear b30
    have gKa0 : w29.cell? ⟨w.heap.size, 0, none⟩ = some (.slice Aa A0.length ca) := Ka.out.cell 0
    have gKa1 : w29.cell? ⟨w.heap.size, 1, none⟩ = some (.slice Ab Bs0.length cb) := Ka.out.cell 1
    have gKx0 : w29.cell? ⟨w13.heap.size, 0, none⟩ = some (.slice AaX A0.length caX) := Kx.out.cell 0
    have gKx1 : w29.cell? ⟨w13.heap.size, 1, none⟩ = some (.slice AbX Bs0.length cbX) := Kx.out.cell 1
    go_wp2_with fail
    clear gKa0 gKa1 gKx0 gKx1
    refine (l_markInt64S _ _ _ _ 1 G.out.1 (by have y := SH.out; omega) (by omega) (by omega)).mono ?_
    rintro e w32 ⟨rfl, hw32, grw32, -⟩
    have chw32 := Chg.of_grown grw32 (fun b hb => ⟨G.out.1.1.ge b hb, G.out.2 b hb⟩)
    clear grw32
    have Z33 := Lib.hid (chw32.size)
    have NKa := Lib.hid (Ka.out.chg chw32 (by have y0 := Z3.out; have y1 := ZSa.out; have y2 := Z6.out; have y3 := Z9.out; have y4 := Z12.out; have y5 := Z15.out; have y6 := Z18.out; have y7 := ZSx.out; have y8 := Z21.out; have y9 := Z24.out; have y10 := Z25.out; have y11 := Z26.out; have y12 := Z28.out; have y13 := Z31.out; have y14 := Z33.out; omega))
    clear Ka
    have Ka := NKa
    clear NKa
    have NT := Lib.hid (T.out.kept chw32 (by have y0 := Z3.out; have y1 := ZSa.out; have y2 := Z6.out; have y3 := Z9.out; have y4 := Z12.out; have y5 := Z15.out; have y6 := Z18.out; have y7 := ZSx.out; have y8 := Z21.out; have y9 := Z24.out; have y10 := Z25.out; have y11 := Z26.out; have y12 := Z28.out; have y13 := Z31.out; have y14 := Z33.out; omega))
    clear T
    have T := NT
    clear NT
    have NW := Lib.hid (W.out.kept chw32 (by have y0 := Z3.out; have y1 := ZSa.out; have y2 := Z6.out; have y3 := Z9.out; have y4 := Z12.out; have y5 := Z15.out; have y6 := Z18.out; have y7 := ZSx.out; have y8 := Z21.out; have y9 := Z24.out; have y10 := Z25.out; have y11 := Z26.out; have y12 := Z28.out; have y13 := Z31.out; have y14 := Z33.out; omega))
    clear W
    have W := NW
    clear NW
    have NX := Lib.hid (X.out.kept chw32 (by have y0 := Z3.out; have y1 := ZSa.out; have y2 := Z6.out; have y3 := Z9.out; have y4 := Z12.out; have y5 := Z15.out; have y6 := Z18.out; have y7 := ZSx.out; have y8 := Z21.out; have y9 := Z24.out; have y10 := Z25.out; have y11 := Z26.out; have y12 := Z28.out; have y13 := Z31.out; have y14 := Z33.out; omega))
    clear X
    have X := NX
    clear NX
    have NKx := Lib.hid (Kx.out.chg chw32 (by have y0 := Z3.out; have y1 := ZSa.out; have y2 := Z6.out; have y3 := Z9.out; have y4 := Z12.out; have y5 := Z15.out; have y6 := Z18.out; have y7 := ZSx.out; have y8 := Z21.out; have y9 := Z24.out; have y10 := Z25.out; have y11 := Z26.out; have y12 := Z28.out; have y13 := Z31.out; have y14 := Z33.out; omega))
    clear Kx
    have Kx := NKx
    clear NKx
    have NG := Lib.hid (show OI w32 _ _ _ _ _ from ⟨hw32, G.out.2⟩)
    clear G
    have G := NG
    clear NG
    have NB := Lib.hid (chw32.below B.out (by have y0 := Z3.out; have y1 := ZSa.out; have y2 := Z6.out; have y3 := Z9.out; have y4 := Z12.out; have y5 := Z15.out; have y6 := Z18.out; have y7 := ZSx.out; have y8 := Z21.out; have y9 := Z24.out; have y10 := Z25.out; have y11 := Z26.out; have y12 := Z28.out; have y13 := Z31.out; have y14 := Z33.out; omega) B.out.size)
    clear B
    have B := NB
    clear NB
    clear hw32 chw32
    have gKa0 : w32.cell? ⟨w.heap.size, 0, none⟩ = some (.slice Aa A0.length ca) := Ka.out.cell 0
    have gKa1 : w32.cell? ⟨w.heap.size, 1, none⟩ = some (.slice Ab Bs0.length cb) := Ka.out.cell 1
    have gKx0 : w32.cell? ⟨w13.heap.size, 0, none⟩ = some (.slice AaX A0.length caX) := Kx.out.cell 0
    have gKx1 : w32.cell? ⟨w13.heap.size, 1, none⟩ = some (.slice AbX Bs0.length cbX) := Kx.out.cell 1
    go_wp2_with fail
    clear gKa0 gKa1 gKx0 gKx1
    refine (l_heldInt64S _ _ _ 1 G.out.ints (by have y := SH.out; omega) (by omega) (by omega)).mono ?_
    rintro e w34 ⟨rfl, rfl⟩
    have gKa0 : w32.cell? ⟨w.heap.size, 0, none⟩ = some (.slice Aa A0.length ca) := Ka.out.cell 0
    have gKa1 : w32.cell? ⟨w.heap.size, 1, none⟩ = some (.slice Ab Bs0.length cb) := Ka.out.cell 1
    have gKx0 : w32.cell? ⟨w13.heap.size, 0, none⟩ = some (.slice AaX A0.length caX) := Kx.out.cell 0
    have gKx1 : w32.cell? ⟨w13.heap.size, 1, none⟩ = some (.slice AbX Bs0.length cbX) := Kx.out.cell 1
    go_wp2_with fail
    clear gKa0 gKa1 gKx0 gKx1
    refine (l_toTableau _ _ _ _ (HA.out.below B.out) HSA.out HSB.out).mono ?_
    rintro e w35 ⟨xV, rfl, hV, b36⟩
    have Z37 := Lib.hid (b36.size)
    have NKa := Lib.hid (Ka.out.below b36 (by have y0 := Z3.out; have y1 := ZSa.out; have y2 := Z6.out; have y3 := Z9.out; have y4 := Z12.out; have y5 := Z15.out; have y6 := Z18.out; have y7 := ZSx.out; have y8 := Z21.out; have y9 := Z24.out; have y10 := Z25.out; have y11 := Z26.out; have y12 := Z28.out; have y13 := Z31.out; have y14 := Z33.out; have y15 := Z37.out; first | omega | (simp at *; omega)))
    clear Ka
    have Ka := NKa
    clear NKa
    have NT := Lib.hid (T.out.below b36)
    clear T
    have T := NT
    clear NT
    have NW := Lib.hid (W.out.below b36)
    clear W
    have W := NW
    clear NW
    have NX := Lib.hid (X.out.below b36)
    clear X
    have X := NX
    clear NX
    have NKx := Lib.hid (Kx.out.below b36 (by have y0 := Z3.out; have y1 := ZSa.out; have y2 := Z6.out; have y3 := Z9.out; have y4 := Z12.out; have y5 := Z15.out; have y6 := Z18.out; have y7 := ZSx.out; have y8 := Z21.out; have y9 := Z24.out; have y10 := Z25.out; have y11 := Z26.out; have y12 := Z28.out; have y13 := Z31.out; have y14 := Z33.out; have y15 := Z37.out; first | omega | (simp at *; omega)))
    clear Kx
    have Kx := NKx
    clear NKx
    have NG := Lib.hid (G.out.below b36)
    clear G
    have G := NG
    clear NG
    have NB := Lib.hid (B.out.trans (b36.mono B.out.size))
    clear B
    have B := NB
    clear NB
    clear b36
    obtain ⟨AaV, caV, AbV, cbV, rfl⟩ := hV.open_
    have V := Lib.hid hV
    clear hV
    have gKa0 : w35.cell? ⟨w.heap.size, 0, none⟩ = some (.slice Aa A0.length ca) := Ka.out.cell 0
    have gKa1 : w35.cell? ⟨w.heap.size, 1, none⟩ = some (.slice Ab Bs0.length cb) := Ka.out.cell 1
    have gKx0 : w35.cell? ⟨w13.heap.size, 0, none⟩ = some (.slice AaX A0.length caX) := Kx.out.cell 0
    have gKx1 : w35.cell? ⟨w13.heap.size, 1, none⟩ = some (.slice AbX Bs0.length cbX) := Kx.out.cell 1
    go_wp2_with fail
    clear gKa0 gKa1 gKx0 gKx1
    refine (i_SymplecticFault _ _ _ _ V.out.arg).mono ?_
    rintro e w38 ⟨rH, xH, cH, rfl, pH, hH, b39⟩
    obtain ⟨rfl, rfl⟩ := P.out.unique pH
    have Z40 := Lib.hid (b39.size)
    have NKa := Lib.hid (Ka.out.below b39 (by have y0 := Z3.out; have y1 := ZSa.out; have y2 := Z6.out; have y3 := Z9.out; have y4 := Z12.out; have y5 := Z15.out; have y6 := Z18.out; have y7 := ZSx.out; have y8 := Z21.out; have y9 := Z24.out; have y10 := Z25.out; have y11 := Z26.out; have y12 := Z28.out; have y13 := Z31.out; have y14 := Z33.out; have y15 := Z37.out; have y16 := Z40.out; first | omega | (simp at *; omega)))
    clear Ka
    have Ka := NKa
    clear NKa
    have NT := Lib.hid (T.out.below b39)
    clear T
    have T := NT
    clear NT
    have NW := Lib.hid (W.out.below b39)
    clear W
    have W := NW
    clear NW
    have NX := Lib.hid (X.out.below b39)
    clear X
    have X := NX
    clear NX
    have NKx := Lib.hid (Kx.out.below b39 (by have y0 := Z3.out; have y1 := ZSa.out; have y2 := Z6.out; have y3 := Z9.out; have y4 := Z12.out; have y5 := Z15.out; have y6 := Z18.out; have y7 := ZSx.out; have y8 := Z21.out; have y9 := Z24.out; have y10 := Z25.out; have y11 := Z26.out; have y12 := Z28.out; have y13 := Z31.out; have y14 := Z33.out; have y15 := Z37.out; have y16 := Z40.out; first | omega | (simp at *; omega)))
    clear Kx
    have Kx := NKx
    clear NKx
    have NG := Lib.hid (G.out.below b39)
    clear G
    have G := NG
    clear NG
    have NV := Lib.hid (V.out.below b39)
    clear V
    have V := NV
    clear NV
    have NB := Lib.hid (B.out.trans (b39.mono B.out.size))
    clear B
    have B := NB
    clear NB
    clear b39 pH
    have H := Lib.hid (OI.of hH)
    clear hH
    have gKa0 : w38.cell? ⟨w.heap.size, 0, none⟩ = some (.slice Aa A0.length ca) := Ka.out.cell 0
    have gKa1 : w38.cell? ⟨w.heap.size, 1, none⟩ = some (.slice Ab Bs0.length cb) := Ka.out.cell 1
    have gKx0 : w38.cell? ⟨w13.heap.size, 0, none⟩ = some (.slice AaX A0.length caX) := Kx.out.cell 0
    have gKx1 : w38.cell? ⟨w13.heap.size, 1, none⟩ = some (.slice AbX Bs0.length cbX) := Kx.out.cell 1
    go_wp2_with fail
    clear gKa0 gKa1 gKx0 gKx1
    refine (l_eqInt64S _ _ _ _ _ H.out.ints W.out.ints).mono ?_
    rintro e w41 ⟨rfl, nw41, hw41⟩
    have b42 : Below w38.heap.size w38 w41 := by rw [hw41]; exact below_drewN (Below.refl _ _) _
    clear hw41
    have Z43 := Lib.hid (b42.size)
    have NKa := Lib.hid (Ka.out.below b42 (by have y0 := Z3.out; have y1 := ZSa.out; have y2 := Z6.out; have y3 := Z9.out; have y4 := Z12.out; have y5 := Z15.out; have y6 := Z18.out; have y7 := ZSx.out; have y8 := Z21.out; have y9 := Z24.out; have y10 := Z25.out; have y11 := Z26.out; have y12 := Z28.out; have y13 := Z31.out; have y14 := Z33.out; have y15 := Z37.out; have y16 := Z40.out; have y17 := Z43.out; first | omega | (simp at *; omega)))
    clear Ka
    have Ka := NKa
    clear NKa
    have NT := Lib.hid (T.out.below b42)
    clear T
    have T := NT
    clear NT
    have NW := Lib.hid (W.out.below b42)
    clear W
    have W := NW
    clear NW
    have NX := Lib.hid (X.out.below b42)
    clear X
    have X := NX
    clear NX
    have NKx := Lib.hid (Kx.out.below b42 (by have y0 := Z3.out; have y1 := ZSa.out; have y2 := Z6.out; have y3 := Z9.out; have y4 := Z12.out; have y5 := Z15.out; have y6 := Z18.out; have y7 := ZSx.out; have y8 := Z21.out; have y9 := Z24.out; have y10 := Z25.out; have y11 := Z26.out; have y12 := Z28.out; have y13 := Z31.out; have y14 := Z33.out; have y15 := Z37.out; have y16 := Z40.out; have y17 := Z43.out; first | omega | (simp at *; omega)))
    clear Kx
    have Kx := NKx
    clear NKx
    have NG := Lib.hid (G.out.below b42)
    clear G
    have G := NG
    clear NG
    have NV := Lib.hid (V.out.below b42)
    clear V
    have V := NV
    clear NV
    have NH := Lib.hid (H.out.below b42)
    clear H
    have H := NH
    clear NH
    have NB := Lib.hid (B.out.trans (b42.mono B.out.size))
    clear B
    have B := NB
    clear NB
    clear b42
    have gKa0 : w41.cell? ⟨w.heap.size, 0, none⟩ = some (.slice Aa A0.length ca) := Ka.out.cell 0
    have gKa1 : w41.cell? ⟨w.heap.size, 1, none⟩ = some (.slice Ab Bs0.length cb) := Ka.out.cell 1
    have gKx0 : w41.cell? ⟨w13.heap.size, 0, none⟩ = some (.slice AaX A0.length caX) := Kx.out.cell 0
    have gKx1 : w41.cell? ⟨w13.heap.size, 1, none⟩ = some (.slice AbX Bs0.length cbX) := Kx.out.cell 1
    go_wp2_with fail
    clear gKa0 gKa1 gKx0 gKx1
    refine (l_heldInt64S _ _ _ 1 G.out.ints (by have y := SH.out; omega) (by omega) (by omega)).mono ?_
    rintro e w44 ⟨rfl, rfl⟩
    have gKa0 : w41.cell? ⟨w.heap.size, 0, none⟩ = some (.slice Aa A0.length ca) := Ka.out.cell 0
    have gKa1 : w41.cell? ⟨w.heap.size, 1, none⟩ = some (.slice Ab Bs0.length cb) := Ka.out.cell 1
    have gKx0 : w41.cell? ⟨w13.heap.size, 0, none⟩ = some (.slice AaX A0.length caX) := Kx.out.cell 0
    have gKx1 : w41.cell? ⟨w13.heap.size, 1, none⟩ = some (.slice AbX Bs0.length cbX) := Kx.out.cell 1
    go_wp2_with fail
    clear gKa0 gKa1 gKx0 gKx1
    go_ret
    exact ⟨rfl, B.out⟩
end Go.Proofs.Ythkiokgfeckbeaa
