/- The law FnExactRepeatTableau, walked: it returns true. -/
import Derived.Test.YtgbfifcbbfhpmaaMark
import Derived.Test.YtgbfifcbbfhpmaaRepS
import Derived.Test.YtgbfifcbbfhpmaaRepI
import Derived.WalkLawsBesides
import Derived.Deep.RegionHeld3
set_option linter.unusedVariables false
set_option linter.unusedSimpArgs false
namespace Go.Proofs.Ytgbfifcbbfhpmaa
open Go.RowKit

set_option maxRecDepth 100000 in
set_option maxHeartbeats 8000000 in
theorem law_FnExactRepeatTableau (w : World) (v0 : Value) (A0 : List (List Int)) (Bs0 : List Int) (ha0 : TabArg w v0 A0 Bs0) (n1 : Int) (ha1 : In64 n1) :
    Calls Try.prog 5 #[v0, .int .i64 n1] w fun e w' => e = .returned (.bool true) ∧ Below w.heap.size w w' := by
  have HA := Lib.hid ha0
  obtain ⟨Aa, ca, Ab, cb, rfl⟩ := ha0.open_
  clear ha0
  have B := Lib.hid (Below.refl w.heap.size w)
  by_cases hs : szTab 1048576 A0 Bs0 < 0
  · go_enter Try.func5, Try.ntmps5
    go_wp2_with fail
    refine (l_szTableau _ _ _ _ _ (HA.out.below (below1 _ _)) (by omega) (by omega)).mono ?_
    rintro e w1 ⟨rfl, hb1⟩
    have B1 := Lib.hid ((below1 w (.cells #[.slice Aa A0.length ca, .slice Ab Bs0.length cb] 25)).trans (hb1.mono (below1 _ _).size))
    clear hb1
    go_wp2_with fail
    go_ret
    exact ⟨rfl, B1.out⟩
  · have hsh := szTab_short (by omega : 0 ≤ szTab 1048576 A0 Bs0) (by omega)
    have HSA := Lib.hid hsh.1
    have HSB := Lib.hid hsh.2.1
    have ht := szTab_tot (by omega : 0 ≤ szTab 1048576 A0 Bs0) (by omega)
    have HTA := Lib.hid ht.1
    have HTB := Lib.hid ht.2
    have hs0 : 0 ≤ szTab 1048576 A0 Bs0 := by omega
    have hk0 : 0 ≤ 1 + (tot A0 : Int) + (Bs0.length : Int) := by omega
    clear hsh hs ht
    go_enter Try.func5, Try.ntmps5
    go_wp2_with fail
    obtain ⟨w1, hw1⟩ : ∃ x, x = w.alloc (.cells #[.slice Aa A0.length ca, .slice Ab Bs0.length cb] 25) := ⟨_, rfl⟩
    rw [← hw1]
    have b2 : Below w.heap.size w w1 := by rw [hw1]; exact below1 _ _
    have Ka := Lib.hid (show Blk w1 w.heap.size 25 #[.slice Aa A0.length ca, .slice Ab Bs0.length cb] by rw [hw1]; exact Blk.new _ _ _)
    have ZSa := Lib.hid (show w.heap.size + 1 ≤ w1.heap.size by rw [hw1]; exact Nat.le_of_eq (Array.size_push _).symm)
    have Z3 := Lib.hid (b2.size)
    have NB := Lib.hid (B.out.trans (b2.mono B.out.size))
    clear B
    have B := NB
    clear NB
    clear b2 hw1
    refine (l_szTableau _ _ _ _ _ (HA.out.below B.out) (by omega) (by omega)).mono ?_
    rintro e w4 ⟨rfl, b5⟩
    have Z6 := Lib.hid (b5.size)
    have NKa := Lib.hid (Ka.out.below b5 (by have y0 := Z3.out; have y1 := ZSa.out; have y2 := Z6.out; first | omega | (simp at *; omega)))
    clear Ka
    have Ka := NKa
    clear NKa
    have NB := Lib.hid (B.out.trans (b5.mono B.out.size))
    clear B
    have B := NB
    clear NB
    clear b5
    have gKa0 : w4.cell? ⟨w.heap.size, 0, none⟩ = some (.slice Aa A0.length ca) := Ka.out.cell 0
    have gKa1 : w4.cell? ⟨w.heap.size, 1, none⟩ = some (.slice Ab Bs0.length cb) := Ka.out.cell 1
    have aKa0 : ∀ o, (w4.alloc o).cell? ⟨w.heap.size, 0, none⟩ = some (.slice Aa A0.length ca) := fun o => (Ka.out.alloc o).cell 0
    have aKa1 : ∀ o, (w4.alloc o).cell? ⟨w.heap.size, 1, none⟩ = some (.slice Ab Bs0.length cb) := fun o => (Ka.out.alloc o).cell 1
    go_wp2_with fail
    clear gKa0 gKa1 aKa0 aKa1
    refine (l_toTableau _ _ _ _ (HA.out.below B.out) HSA.out HSB.out).mono ?_
    rintro e w7 ⟨xT, rfl, hT, b8⟩
    have Z9 := Lib.hid (b8.size)
    have NKa := Lib.hid (Ka.out.below b8 (by have y0 := Z3.out; have y1 := ZSa.out; have y2 := Z6.out; have y3 := Z9.out; first | omega | (simp at *; omega)))
    clear Ka
    have Ka := NKa
    clear NKa
    have NB := Lib.hid (B.out.trans (b8.mono B.out.size))
    clear B
    have B := NB
    clear NB
    clear b8
    obtain ⟨AaT, caT, AbT, cbT, rfl⟩ := hT.open_
    have T := Lib.hid hT
    clear hT
    have gKa0 : w7.cell? ⟨w.heap.size, 0, none⟩ = some (.slice Aa A0.length ca) := Ka.out.cell 0
    have gKa1 : w7.cell? ⟨w.heap.size, 1, none⟩ = some (.slice Ab Bs0.length cb) := Ka.out.cell 1
    have aKa0 : ∀ o, (w7.alloc o).cell? ⟨w.heap.size, 0, none⟩ = some (.slice Aa A0.length ca) := fun o => (Ka.out.alloc o).cell 0
    have aKa1 : ∀ o, (w7.alloc o).cell? ⟨w.heap.size, 1, none⟩ = some (.slice Ab Bs0.length cb) := fun o => (Ka.out.alloc o).cell 1
    go_wp2_with fail
    clear gKa0 gKa1 aKa0 aKa1
    refine (s_RepeatTableau _ _ _ _ T.out.arg _ ha1).mono ?_
    rintro e w10 ⟨raW, rbW, xW, cW, rfl, pW, hW, b11⟩
    have P := Lib.hid pW
    have SH := Lib.hid pW.short
    have Z12 := Lib.hid (b11.size)
    have NKa := Lib.hid (Ka.out.below b11 (by have y0 := Z3.out; have y1 := ZSa.out; have y2 := Z6.out; have y3 := Z9.out; have y4 := Z12.out; first | omega | (simp at *; omega)))
    clear Ka
    have Ka := NKa
    clear NKa
    have NT := Lib.hid (T.out.below b11)
    clear T
    have T := NT
    clear NT
    have NB := Lib.hid (B.out.trans (b11.mono B.out.size))
    clear B
    have B := NB
    clear NB
    clear b11 pW
    obtain ⟨AaW, caW, AbW, cbW, rfl⟩ := hW.open_
    have W := Lib.hid hW
    clear hW
    have hr0 : 0 ≤ 1 + (tot raW : Int) + (rbW.length : Int) := by omega
    have gKa0 : w10.cell? ⟨w.heap.size, 0, none⟩ = some (.slice Aa A0.length ca) := Ka.out.cell 0
    have gKa1 : w10.cell? ⟨w.heap.size, 1, none⟩ = some (.slice Ab Bs0.length cb) := Ka.out.cell 1
    have aKa0 : ∀ o, (w10.alloc o).cell? ⟨w.heap.size, 0, none⟩ = some (.slice Aa A0.length ca) := fun o => (Ka.out.alloc o).cell 0
    have aKa1 : ∀ o, (w10.alloc o).cell? ⟨w.heap.size, 1, none⟩ = some (.slice Ab Bs0.length cb) := fun o => (Ka.out.alloc o).cell 1
    go_wp2_with fail
    clear gKa0 gKa1 aKa0 aKa1
    obtain ⟨w13, hw13⟩ : ∃ x, x = w10.alloc (.cells #[.slice AaW raW.length caW, .slice AbW rbW.length cbW] 27) := ⟨_, rfl⟩
    rw [← hw13]
    have b14 : Below w10.heap.size w10 w13 := by rw [hw13]; exact below1 _ _
    have Kw := Lib.hid (show Blk w13 w10.heap.size 27 #[.slice AaW raW.length caW, .slice AbW rbW.length cbW] by rw [hw13]; exact Blk.new _ _ _)
    have ZSw := Lib.hid (show w10.heap.size + 1 ≤ w13.heap.size by rw [hw13]; exact Nat.le_of_eq (Array.size_push _).symm)
    have Z15 := Lib.hid (b14.size)
    have NKa := Lib.hid (Ka.out.below b14 (by have y0 := Z3.out; have y1 := ZSa.out; have y2 := Z6.out; have y3 := Z9.out; have y4 := Z12.out; have y5 := Z15.out; first | omega | (simp at *; omega)))
    clear Ka
    have Ka := NKa
    clear NKa
    have NT := Lib.hid (T.out.below b14)
    clear T
    have T := NT
    clear NT
    have NW := Lib.hid (W.out.below b14)
    clear W
    have W := NW
    clear NW
    have NB := Lib.hid (B.out.trans (b14.mono B.out.size))
    clear B
    have B := NB
    clear NB
    clear b14 hw13
    refine (l_toTableau _ _ _ _ (HA.out.below B.out) HSA.out HSB.out).mono ?_
    rintro e w16 ⟨xX, rfl, hX, b17⟩
    have Z18 := Lib.hid (b17.size)
    have NKa := Lib.hid (Ka.out.below b17 (by have y0 := Z3.out; have y1 := ZSa.out; have y2 := Z6.out; have y3 := Z9.out; have y4 := Z12.out; have y5 := Z15.out; have y6 := ZSw.out; have y7 := Z18.out; first | omega | (simp at *; omega)))
    clear Ka
    have Ka := NKa
    clear NKa
    have NT := Lib.hid (T.out.below b17)
    clear T
    have T := NT
    clear NT
    have NW := Lib.hid (W.out.below b17)
    clear W
    have W := NW
    clear NW
    have NKw := Lib.hid (Kw.out.below b17 (by have y0 := Z3.out; have y1 := ZSa.out; have y2 := Z6.out; have y3 := Z9.out; have y4 := Z12.out; have y5 := Z15.out; have y6 := ZSw.out; have y7 := Z18.out; first | omega | (simp at *; omega)))
    clear Kw
    have Kw := NKw
    clear NKw
    have NB := Lib.hid (B.out.trans (b17.mono B.out.size))
    clear B
    have B := NB
    clear NB
    clear b17
    obtain ⟨AaX, caX, AbX, cbX, rfl⟩ := hX.open_
    have X := Lib.hid hX
    clear hX
    have gKa0 : w16.cell? ⟨w.heap.size, 0, none⟩ = some (.slice Aa A0.length ca) := Ka.out.cell 0
    have gKa1 : w16.cell? ⟨w.heap.size, 1, none⟩ = some (.slice Ab Bs0.length cb) := Ka.out.cell 1
    have gKw0 : w16.cell? ⟨w10.heap.size, 0, none⟩ = some (.slice AaW raW.length caW) := Kw.out.cell 0
    have gKw1 : w16.cell? ⟨w10.heap.size, 1, none⟩ = some (.slice AbW rbW.length cbW) := Kw.out.cell 1
    have aKa0 : ∀ o, (w16.alloc o).cell? ⟨w.heap.size, 0, none⟩ = some (.slice Aa A0.length ca) := fun o => (Ka.out.alloc o).cell 0
    have aKa1 : ∀ o, (w16.alloc o).cell? ⟨w.heap.size, 1, none⟩ = some (.slice Ab Bs0.length cb) := fun o => (Ka.out.alloc o).cell 1
    have aKw0 : ∀ o, (w16.alloc o).cell? ⟨w10.heap.size, 0, none⟩ = some (.slice AaW raW.length caW) := fun o => (Kw.out.alloc o).cell 0
    have aKw1 : ∀ o, (w16.alloc o).cell? ⟨w10.heap.size, 1, none⟩ = some (.slice AbW rbW.length cbW) := fun o => (Kw.out.alloc o).cell 1
    go_wp2_with fail
    clear gKa0 gKa1 gKw0 gKw1 aKa0 aKa1 aKw0 aKw1
    obtain ⟨w19, hw19⟩ : ∃ x, x = w16.alloc (.cells #[.slice AaX A0.length caX, .slice AbX Bs0.length cbX] 27) := ⟨_, rfl⟩
    rw [← hw19]
    have b20 : Below w16.heap.size w16 w19 := by rw [hw19]; exact below1 _ _
    have Kx := Lib.hid (show Blk w19 w16.heap.size 27 #[.slice AaX A0.length caX, .slice AbX Bs0.length cbX] by rw [hw19]; exact Blk.new _ _ _)
    have ZSx := Lib.hid (show w16.heap.size + 1 ≤ w19.heap.size by rw [hw19]; exact Nat.le_of_eq (Array.size_push _).symm)
    have Z21 := Lib.hid (b20.size)
    have NKa := Lib.hid (Ka.out.below b20 (by have y0 := Z3.out; have y1 := ZSa.out; have y2 := Z6.out; have y3 := Z9.out; have y4 := Z12.out; have y5 := Z15.out; have y6 := ZSw.out; have y7 := Z18.out; have y8 := Z21.out; first | omega | (simp at *; omega)))
    clear Ka
    have Ka := NKa
    clear NKa
    have NT := Lib.hid (T.out.below b20)
    clear T
    have T := NT
    clear NT
    have NW := Lib.hid (W.out.below b20)
    clear W
    have W := NW
    clear NW
    have NKw := Lib.hid (Kw.out.below b20 (by have y0 := Z3.out; have y1 := ZSa.out; have y2 := Z6.out; have y3 := Z9.out; have y4 := Z12.out; have y5 := Z15.out; have y6 := ZSw.out; have y7 := Z18.out; have y8 := Z21.out; first | omega | (simp at *; omega)))
    clear Kw
    have Kw := NKw
    clear NKw
    have NX := Lib.hid (X.out.below b20)
    clear X
    have X := NX
    clear NX
    have NB := Lib.hid (B.out.trans (b20.mono B.out.size))
    clear B
    have B := NB
    clear NB
    clear b20 hw19
    refine (i_RepeatTableau _ _ _ _ X.out.arg _ ha1).mono ?_
    rintro e w22 ⟨raG, rbG, xG, cG, rfl, pG, hG, b23⟩
    obtain ⟨rfl, rfl, rfl⟩ := P.out.unique pG
    have Z24 := Lib.hid (b23.size)
    have NKa := Lib.hid (Ka.out.below b23 (by have y0 := Z3.out; have y1 := ZSa.out; have y2 := Z6.out; have y3 := Z9.out; have y4 := Z12.out; have y5 := Z15.out; have y6 := ZSw.out; have y7 := Z18.out; have y8 := Z21.out; have y9 := ZSx.out; have y10 := Z24.out; first | omega | (simp at *; omega)))
    clear Ka
    have Ka := NKa
    clear NKa
    have NT := Lib.hid (T.out.below b23)
    clear T
    have T := NT
    clear NT
    have NW := Lib.hid (W.out.below b23)
    clear W
    have W := NW
    clear NW
    have NKw := Lib.hid (Kw.out.below b23 (by have y0 := Z3.out; have y1 := ZSa.out; have y2 := Z6.out; have y3 := Z9.out; have y4 := Z12.out; have y5 := Z15.out; have y6 := ZSw.out; have y7 := Z18.out; have y8 := Z21.out; have y9 := ZSx.out; have y10 := Z24.out; first | omega | (simp at *; omega)))
    clear Kw
    have Kw := NKw
    clear NKw
    have NX := Lib.hid (X.out.below b23)
    clear X
    have X := NX
    clear NX
    have NKx := Lib.hid (Kx.out.below b23 (by have y0 := Z3.out; have y1 := ZSa.out; have y2 := Z6.out; have y3 := Z9.out; have y4 := Z12.out; have y5 := Z15.out; have y6 := ZSw.out; have y7 := Z18.out; have y8 := Z21.out; have y9 := ZSx.out; have y10 := Z24.out; first | omega | (simp at *; omega)))
    clear Kx
    have Kx := NKx
    clear NKx
    have NB := Lib.hid (B.out.trans (b23.mono B.out.size))
    clear B
    have B := NB
    clear NB
    clear b23 pG
    obtain ⟨AaG, caG, AbG, cbG, rfl⟩ := hG.open_
    have G := Lib.hid hG
    clear hG
    have gKa0 : w22.cell? ⟨w.heap.size, 0, none⟩ = some (.slice Aa A0.length ca) := Ka.out.cell 0
    have gKa1 : w22.cell? ⟨w.heap.size, 1, none⟩ = some (.slice Ab Bs0.length cb) := Ka.out.cell 1
    have gKw0 : w22.cell? ⟨w10.heap.size, 0, none⟩ = some (.slice AaW raW.length caW) := Kw.out.cell 0
    have gKw1 : w22.cell? ⟨w10.heap.size, 1, none⟩ = some (.slice AbW rbW.length cbW) := Kw.out.cell 1
    have gKx0 : w22.cell? ⟨w16.heap.size, 0, none⟩ = some (.slice AaX A0.length caX) := Kx.out.cell 0
    have gKx1 : w22.cell? ⟨w16.heap.size, 1, none⟩ = some (.slice AbX Bs0.length cbX) := Kx.out.cell 1
    have aKa0 : ∀ o, (w22.alloc o).cell? ⟨w.heap.size, 0, none⟩ = some (.slice Aa A0.length ca) := fun o => (Ka.out.alloc o).cell 0
    have aKa1 : ∀ o, (w22.alloc o).cell? ⟨w.heap.size, 1, none⟩ = some (.slice Ab Bs0.length cb) := fun o => (Ka.out.alloc o).cell 1
    have aKw0 : ∀ o, (w22.alloc o).cell? ⟨w10.heap.size, 0, none⟩ = some (.slice AaW raW.length caW) := fun o => (Kw.out.alloc o).cell 0
    have aKw1 : ∀ o, (w22.alloc o).cell? ⟨w10.heap.size, 1, none⟩ = some (.slice AbW rbW.length cbW) := fun o => (Kw.out.alloc o).cell 1
    have aKx0 : ∀ o, (w22.alloc o).cell? ⟨w16.heap.size, 0, none⟩ = some (.slice AaX A0.length caX) := fun o => (Kx.out.alloc o).cell 0
    have aKx1 : ∀ o, (w22.alloc o).cell? ⟨w16.heap.size, 1, none⟩ = some (.slice AbX Bs0.length cbX) := fun o => (Kx.out.alloc o).cell 1
    go_wp2_with fail
    clear gKa0 gKa1 gKw0 gKw1 gKx0 gKx1 aKa0 aKa1 aKw0 aKw1 aKx0 aKx1
    obtain ⟨w25, hw25⟩ : ∃ x, x = w22.alloc (.cells #[.slice AaG raW.length caG, .slice AbG rbW.length cbG] 27) := ⟨_, rfl⟩
    rw [← hw25]
    have b26 : Below w22.heap.size w22 w25 := by rw [hw25]; exact below1 _ _
    have Kg := Lib.hid (show Blk w25 w22.heap.size 27 #[.slice AaG raW.length caG, .slice AbG rbW.length cbG] by rw [hw25]; exact Blk.new _ _ _)
    have ZSg := Lib.hid (show w22.heap.size + 1 ≤ w25.heap.size by rw [hw25]; exact Nat.le_of_eq (Array.size_push _).symm)
    have Z27 := Lib.hid (b26.size)
    have NKa := Lib.hid (Ka.out.below b26 (by have y0 := Z3.out; have y1 := ZSa.out; have y2 := Z6.out; have y3 := Z9.out; have y4 := Z12.out; have y5 := Z15.out; have y6 := ZSw.out; have y7 := Z18.out; have y8 := Z21.out; have y9 := ZSx.out; have y10 := Z24.out; have y11 := Z27.out; first | omega | (simp at *; omega)))
    clear Ka
    have Ka := NKa
    clear NKa
    have NT := Lib.hid (T.out.below b26)
    clear T
    have T := NT
    clear NT
    have NW := Lib.hid (W.out.below b26)
    clear W
    have W := NW
    clear NW
    have NKw := Lib.hid (Kw.out.below b26 (by have y0 := Z3.out; have y1 := ZSa.out; have y2 := Z6.out; have y3 := Z9.out; have y4 := Z12.out; have y5 := Z15.out; have y6 := ZSw.out; have y7 := Z18.out; have y8 := Z21.out; have y9 := ZSx.out; have y10 := Z24.out; have y11 := Z27.out; first | omega | (simp at *; omega)))
    clear Kw
    have Kw := NKw
    clear NKw
    have NX := Lib.hid (X.out.below b26)
    clear X
    have X := NX
    clear NX
    have NKx := Lib.hid (Kx.out.below b26 (by have y0 := Z3.out; have y1 := ZSa.out; have y2 := Z6.out; have y3 := Z9.out; have y4 := Z12.out; have y5 := Z15.out; have y6 := ZSw.out; have y7 := Z18.out; have y8 := Z21.out; have y9 := ZSx.out; have y10 := Z24.out; have y11 := Z27.out; first | omega | (simp at *; omega)))
    clear Kx
    have Kx := NKx
    clear NKx
    have NG := Lib.hid (G.out.below b26)
    clear G
    have G := NG
    clear NG
    have NB := Lib.hid (B.out.trans (b26.mono B.out.size))
    clear B
    have B := NB
    clear NB
    clear b26 hw25
    refine (l_eqTableau _ _ _ _ _ _ _ G.out.arg W.out.arg).mono ?_
    rintro e w28 ⟨rfl, b29⟩
    have Z30 := Lib.hid (b29.size)
    have NKa := Lib.hid (Ka.out.below b29 (by have y0 := Z3.out; have y1 := ZSa.out; have y2 := Z6.out; have y3 := Z9.out; have y4 := Z12.out; have y5 := Z15.out; have y6 := ZSw.out; have y7 := Z18.out; have y8 := Z21.out; have y9 := ZSx.out; have y10 := Z24.out; have y11 := Z27.out; have y12 := ZSg.out; have y13 := Z30.out; first | omega | (simp at *; omega)))
    clear Ka
    have Ka := NKa
    clear NKa
    have NT := Lib.hid (T.out.below b29)
    clear T
    have T := NT
    clear NT
    have NW := Lib.hid (W.out.below b29)
    clear W
    have W := NW
    clear NW
    have NKw := Lib.hid (Kw.out.below b29 (by have y0 := Z3.out; have y1 := ZSa.out; have y2 := Z6.out; have y3 := Z9.out; have y4 := Z12.out; have y5 := Z15.out; have y6 := ZSw.out; have y7 := Z18.out; have y8 := Z21.out; have y9 := ZSx.out; have y10 := Z24.out; have y11 := Z27.out; have y12 := ZSg.out; have y13 := Z30.out; first | omega | (simp at *; omega)))
    clear Kw
    have Kw := NKw
    clear NKw
    have NX := Lib.hid (X.out.below b29)
    clear X
    have X := NX
    clear NX
    have NKx := Lib.hid (Kx.out.below b29 (by have y0 := Z3.out; have y1 := ZSa.out; have y2 := Z6.out; have y3 := Z9.out; have y4 := Z12.out; have y5 := Z15.out; have y6 := ZSw.out; have y7 := Z18.out; have y8 := Z21.out; have y9 := ZSx.out; have y10 := Z24.out; have y11 := Z27.out; have y12 := ZSg.out; have y13 := Z30.out; first | omega | (simp at *; omega)))
    clear Kx
    have Kx := NKx
    clear NKx
    have NG := Lib.hid (G.out.below b29)
    clear G
    have G := NG
    clear NG
    have NKg := Lib.hid (Kg.out.below b29 (by have y0 := Z3.out; have y1 := ZSa.out; have y2 := Z6.out; have y3 := Z9.out; have y4 := Z12.out; have y5 := Z15.out; have y6 := ZSw.out; have y7 := Z18.out; have y8 := Z21.out; have y9 := ZSx.out; have y10 := Z24.out; have y11 := Z27.out; have y12 := ZSg.out; have y13 := Z30.out; first | omega | (simp at *; omega)))
    clear Kg
    have Kg := NKg
    clear NKg
    have NB := Lib.hid (B.out.trans (b29.mono B.out.size))
    clear B
    have B := NB
    clear NB
    clear b29
    have gKa0 : w28.cell? ⟨w.heap.size, 0, none⟩ = some (.slice Aa A0.length ca) := Ka.out.cell 0
    have gKa1 : w28.cell? ⟨w.heap.size, 1, none⟩ = some (.slice Ab Bs0.length cb) := Ka.out.cell 1
    have gKw0 : w28.cell? ⟨w10.heap.size, 0, none⟩ = some (.slice AaW raW.length caW) := Kw.out.cell 0
    have gKw1 : w28.cell? ⟨w10.heap.size, 1, none⟩ = some (.slice AbW rbW.length cbW) := Kw.out.cell 1
    have gKx0 : w28.cell? ⟨w16.heap.size, 0, none⟩ = some (.slice AaX A0.length caX) := Kx.out.cell 0
    have gKx1 : w28.cell? ⟨w16.heap.size, 1, none⟩ = some (.slice AbX Bs0.length cbX) := Kx.out.cell 1
    have gKg0 : w28.cell? ⟨w22.heap.size, 0, none⟩ = some (.slice AaG raW.length caG) := Kg.out.cell 0
    have gKg1 : w28.cell? ⟨w22.heap.size, 1, none⟩ = some (.slice AbG rbW.length cbG) := Kg.out.cell 1
    have aKa0 : ∀ o, (w28.alloc o).cell? ⟨w.heap.size, 0, none⟩ = some (.slice Aa A0.length ca) := fun o => (Ka.out.alloc o).cell 0
    have aKa1 : ∀ o, (w28.alloc o).cell? ⟨w.heap.size, 1, none⟩ = some (.slice Ab Bs0.length cb) := fun o => (Ka.out.alloc o).cell 1
    have aKw0 : ∀ o, (w28.alloc o).cell? ⟨w10.heap.size, 0, none⟩ = some (.slice AaW raW.length caW) := fun o => (Kw.out.alloc o).cell 0
    have aKw1 : ∀ o, (w28.alloc o).cell? ⟨w10.heap.size, 1, none⟩ = some (.slice AbW rbW.length cbW) := fun o => (Kw.out.alloc o).cell 1
    have aKx0 : ∀ o, (w28.alloc o).cell? ⟨w16.heap.size, 0, none⟩ = some (.slice AaX A0.length caX) := fun o => (Kx.out.alloc o).cell 0
    have aKx1 : ∀ o, (w28.alloc o).cell? ⟨w16.heap.size, 1, none⟩ = some (.slice AbX Bs0.length cbX) := fun o => (Kx.out.alloc o).cell 1
    have aKg0 : ∀ o, (w28.alloc o).cell? ⟨w22.heap.size, 0, none⟩ = some (.slice AaG raW.length caG) := fun o => (Kg.out.alloc o).cell 0
    have aKg1 : ∀ o, (w28.alloc o).cell? ⟨w22.heap.size, 1, none⟩ = some (.slice AbG rbW.length cbG) := fun o => (Kg.out.alloc o).cell 1
    go_wp2_with fail
    go_region_held3 (fun w' => w'.cell? ⟨w.heap.size, 0, none⟩ = some (.slice Aa A0.length ca) ∧ w'.cell? ⟨w.heap.size, 1, none⟩ = some (.slice Ab Bs0.length cb) ∧ w'.cell? ⟨w10.heap.size, 0, none⟩ = some (.slice AaW raW.length caW) ∧ w'.cell? ⟨w10.heap.size, 1, none⟩ = some (.slice AbW rbW.length cbW) ∧ w'.cell? ⟨w16.heap.size, 0, none⟩ = some (.slice AaX A0.length caX) ∧ w'.cell? ⟨w16.heap.size, 1, none⟩ = some (.slice AbX Bs0.length cbX) ∧ w'.cell? ⟨w22.heap.size, 0, none⟩ = some (.slice AaG raW.length caG) ∧ w'.cell? ⟨w22.heap.size, 1, none⟩ = some (.slice AbG rbW.length cbG)) ((go_split_ands; refine ⟨?_, ?_, ?_, ?_, ?_, ?_, ?_, ?_⟩ <;> (first | (rw [hb7.cell (by have l0 := Ka.out.lt; have l1 := Kw.out.lt; have l2 := Kx.out.lt; have l3 := Kg.out.lt; have h3 := hb6.size; simp at h3 ⊢; omega)]; assumption) | (rw [hb6.cell (by first | exact Ka.out.lt | exact Kw.out.lt | exact Kx.out.lt | exact Kg.out.lt)]; assumption) | go_keep)))
      (first | (go_at_call 13; refine (l_toTableau _ _ _ _ (by exact HA.out.below B.out.drew) HSA.out HSB.out).mono ?_; rintro e wq6 ⟨x1, rfl, hx1, hb6⟩) | (go_at_call 15; refine (l_eqTableau _ _ _ _ _ _ _ (by exact X.out.arg.below (below_of_drew hb6)) (by exact hx1.arg)).mono ?_; rintro e wq7 ⟨rfl, hb7⟩))
    clear gKa0 gKa1 gKw0 gKw1 gKx0 gKx1 gKg0 gKg1 aKa0 aKa1 aKw0 aKw1 aKx0 aKx1 aKg0 aKg1
    have hb6 := below_of_drew hb6
    have hb6 : Below w28.heap.size w28 wq6 := hb6
    have Z31 := Lib.hid (hb6.size)
    have NKa := Lib.hid (Ka.out.below hb6 (by have y0 := Z3.out; have y1 := ZSa.out; have y2 := Z6.out; have y3 := Z9.out; have y4 := Z12.out; have y5 := Z15.out; have y6 := ZSw.out; have y7 := Z18.out; have y8 := Z21.out; have y9 := ZSx.out; have y10 := Z24.out; have y11 := Z27.out; have y12 := ZSg.out; have y13 := Z30.out; have y14 := Z31.out; first | omega | (simp at *; omega)))
    clear Ka
    have Ka := NKa
    clear NKa
    have NT := Lib.hid (T.out.below hb6)
    clear T
    have T := NT
    clear NT
    have NW := Lib.hid (W.out.below hb6)
    clear W
    have W := NW
    clear NW
    have NKw := Lib.hid (Kw.out.below hb6 (by have y0 := Z3.out; have y1 := ZSa.out; have y2 := Z6.out; have y3 := Z9.out; have y4 := Z12.out; have y5 := Z15.out; have y6 := ZSw.out; have y7 := Z18.out; have y8 := Z21.out; have y9 := ZSx.out; have y10 := Z24.out; have y11 := Z27.out; have y12 := ZSg.out; have y13 := Z30.out; have y14 := Z31.out; first | omega | (simp at *; omega)))
    clear Kw
    have Kw := NKw
    clear NKw
    have NX := Lib.hid (X.out.below hb6)
    clear X
    have X := NX
    clear NX
    have NKx := Lib.hid (Kx.out.below hb6 (by have y0 := Z3.out; have y1 := ZSa.out; have y2 := Z6.out; have y3 := Z9.out; have y4 := Z12.out; have y5 := Z15.out; have y6 := ZSw.out; have y7 := Z18.out; have y8 := Z21.out; have y9 := ZSx.out; have y10 := Z24.out; have y11 := Z27.out; have y12 := ZSg.out; have y13 := Z30.out; have y14 := Z31.out; first | omega | (simp at *; omega)))
    clear Kx
    have Kx := NKx
    clear NKx
    have NG := Lib.hid (G.out.below hb6)
    clear G
    have G := NG
    clear NG
    have NKg := Lib.hid (Kg.out.below hb6 (by have y0 := Z3.out; have y1 := ZSa.out; have y2 := Z6.out; have y3 := Z9.out; have y4 := Z12.out; have y5 := Z15.out; have y6 := ZSw.out; have y7 := Z18.out; have y8 := Z21.out; have y9 := ZSx.out; have y10 := Z24.out; have y11 := Z27.out; have y12 := ZSg.out; have y13 := Z30.out; have y14 := Z31.out; first | omega | (simp at *; omega)))
    clear Kg
    have Kg := NKg
    clear NKg
    have NB := Lib.hid (B.out.trans (hb6.mono B.out.size))
    clear B
    have B := NB
    clear NB
    have Z32 := Lib.hid (hb7.size)
    have NKa := Lib.hid (Ka.out.below hb7 (by have y0 := Z3.out; have y1 := ZSa.out; have y2 := Z6.out; have y3 := Z9.out; have y4 := Z12.out; have y5 := Z15.out; have y6 := ZSw.out; have y7 := Z18.out; have y8 := Z21.out; have y9 := ZSx.out; have y10 := Z24.out; have y11 := Z27.out; have y12 := ZSg.out; have y13 := Z30.out; have y14 := Z31.out; have y15 := Z32.out; first | omega | (simp at *; omega)))
    clear Ka
    have Ka := NKa
    clear NKa
    have NT := Lib.hid (T.out.below hb7)
    clear T
    have T := NT
    clear NT
    have NW := Lib.hid (W.out.below hb7)
    clear W
    have W := NW
    clear NW
    have NKw := Lib.hid (Kw.out.below hb7 (by have y0 := Z3.out; have y1 := ZSa.out; have y2 := Z6.out; have y3 := Z9.out; have y4 := Z12.out; have y5 := Z15.out; have y6 := ZSw.out; have y7 := Z18.out; have y8 := Z21.out; have y9 := ZSx.out; have y10 := Z24.out; have y11 := Z27.out; have y12 := ZSg.out; have y13 := Z30.out; have y14 := Z31.out; have y15 := Z32.out; first | omega | (simp at *; omega)))
    clear Kw
    have Kw := NKw
    clear NKw
    have NX := Lib.hid (X.out.below hb7)
    clear X
    have X := NX
    clear NX
    have NKx := Lib.hid (Kx.out.below hb7 (by have y0 := Z3.out; have y1 := ZSa.out; have y2 := Z6.out; have y3 := Z9.out; have y4 := Z12.out; have y5 := Z15.out; have y6 := ZSw.out; have y7 := Z18.out; have y8 := Z21.out; have y9 := ZSx.out; have y10 := Z24.out; have y11 := Z27.out; have y12 := ZSg.out; have y13 := Z30.out; have y14 := Z31.out; have y15 := Z32.out; first | omega | (simp at *; omega)))
    clear Kx
    have Kx := NKx
    clear NKx
    have NG := Lib.hid (G.out.below hb7)
    clear G
    have G := NG
    clear NG
    have NKg := Lib.hid (Kg.out.below hb7 (by have y0 := Z3.out; have y1 := ZSa.out; have y2 := Z6.out; have y3 := Z9.out; have y4 := Z12.out; have y5 := Z15.out; have y6 := ZSw.out; have y7 := Z18.out; have y8 := Z21.out; have y9 := ZSx.out; have y10 := Z24.out; have y11 := Z27.out; have y12 := ZSg.out; have y13 := Z30.out; have y14 := Z31.out; have y15 := Z32.out; first | omega | (simp at *; omega)))
    clear Kg
    have Kg := NKg
    clear NKg
    have NB := Lib.hid (B.out.trans (hb7.mono B.out.size))
    clear B
    have B := NB
    clear NB
    clear hb6 hb7 hx1
    have gKa0 : wq7.cell? ⟨w.heap.size, 0, none⟩ = some (.slice Aa A0.length ca) := Ka.out.cell 0
    have gKa1 : wq7.cell? ⟨w.heap.size, 1, none⟩ = some (.slice Ab Bs0.length cb) := Ka.out.cell 1
    have gKw0 : wq7.cell? ⟨w10.heap.size, 0, none⟩ = some (.slice AaW raW.length caW) := Kw.out.cell 0
    have gKw1 : wq7.cell? ⟨w10.heap.size, 1, none⟩ = some (.slice AbW rbW.length cbW) := Kw.out.cell 1
    have gKx0 : wq7.cell? ⟨w16.heap.size, 0, none⟩ = some (.slice AaX A0.length caX) := Kx.out.cell 0
    have gKx1 : wq7.cell? ⟨w16.heap.size, 1, none⟩ = some (.slice AbX Bs0.length cbX) := Kx.out.cell 1
    have gKg0 : wq7.cell? ⟨w22.heap.size, 0, none⟩ = some (.slice AaG raW.length caG) := Kg.out.cell 0
    have gKg1 : wq7.cell? ⟨w22.heap.size, 1, none⟩ = some (.slice AbG rbW.length cbG) := Kg.out.cell 1
    have aKa0 : ∀ o, (wq7.alloc o).cell? ⟨w.heap.size, 0, none⟩ = some (.slice Aa A0.length ca) := fun o => (Ka.out.alloc o).cell 0
    have aKa1 : ∀ o, (wq7.alloc o).cell? ⟨w.heap.size, 1, none⟩ = some (.slice Ab Bs0.length cb) := fun o => (Ka.out.alloc o).cell 1
    have aKw0 : ∀ o, (wq7.alloc o).cell? ⟨w10.heap.size, 0, none⟩ = some (.slice AaW raW.length caW) := fun o => (Kw.out.alloc o).cell 0
    have aKw1 : ∀ o, (wq7.alloc o).cell? ⟨w10.heap.size, 1, none⟩ = some (.slice AbW rbW.length cbW) := fun o => (Kw.out.alloc o).cell 1
    have aKx0 : ∀ o, (wq7.alloc o).cell? ⟨w16.heap.size, 0, none⟩ = some (.slice AaX A0.length caX) := fun o => (Kx.out.alloc o).cell 0
    have aKx1 : ∀ o, (wq7.alloc o).cell? ⟨w16.heap.size, 1, none⟩ = some (.slice AbX Bs0.length cbX) := fun o => (Kx.out.alloc o).cell 1
    have aKg0 : ∀ o, (wq7.alloc o).cell? ⟨w22.heap.size, 0, none⟩ = some (.slice AaG raW.length caG) := fun o => (Kg.out.alloc o).cell 0
    have aKg1 : ∀ o, (wq7.alloc o).cell? ⟨w22.heap.size, 1, none⟩ = some (.slice AbG rbW.length cbG) := fun o => (Kg.out.alloc o).cell 1
    go_wp2_with fail
    clear gKa0 gKa1 gKw0 gKw1 gKx0 gKx1 gKg0 gKg1 aKa0 aKa1 aKw0 aKw1 aKx0 aKx1 aKg0 aKg1
    refine (l_markTableau _ _ _ _ _ _ 1 X.out (by have y0 := Z3.out; have y1 := ZSa.out; have y2 := Z6.out; have y3 := Z9.out; have y4 := Z12.out; have y5 := Z15.out; have y6 := ZSw.out; have y7 := Z18.out; have y8 := Z21.out; have y9 := ZSx.out; have y10 := Z24.out; have y11 := Z27.out; have y12 := ZSg.out; have y13 := Z30.out; have y14 := Z31.out; have y15 := Z32.out; omega) (by exact HTA.out) (by exact HTB.out) (by omega) (by omega)).mono ?_
    rintro e w33 ⟨rfl, hw33, chw33⟩
    have Z34 := Lib.hid (chw33.size)
    have NKa := Lib.hid (Ka.out.chg chw33 (by have y0 := Z3.out; have y1 := ZSa.out; have y2 := Z6.out; have y3 := Z9.out; have y4 := Z12.out; have y5 := Z15.out; have y6 := ZSw.out; have y7 := Z18.out; have y8 := Z21.out; have y9 := ZSx.out; have y10 := Z24.out; have y11 := Z27.out; have y12 := ZSg.out; have y13 := Z30.out; have y14 := Z31.out; have y15 := Z32.out; have y16 := Z34.out; omega))
    clear Ka
    have Ka := NKa
    clear NKa
    have NT := Lib.hid (T.out.kept chw33 (by have y0 := Z3.out; have y1 := ZSa.out; have y2 := Z6.out; have y3 := Z9.out; have y4 := Z12.out; have y5 := Z15.out; have y6 := ZSw.out; have y7 := Z18.out; have y8 := Z21.out; have y9 := ZSx.out; have y10 := Z24.out; have y11 := Z27.out; have y12 := ZSg.out; have y13 := Z30.out; have y14 := Z31.out; have y15 := Z32.out; have y16 := Z34.out; omega))
    clear T
    have T := NT
    clear NT
    have NW := Lib.hid (W.out.kept chw33 (by have y0 := Z3.out; have y1 := ZSa.out; have y2 := Z6.out; have y3 := Z9.out; have y4 := Z12.out; have y5 := Z15.out; have y6 := ZSw.out; have y7 := Z18.out; have y8 := Z21.out; have y9 := ZSx.out; have y10 := Z24.out; have y11 := Z27.out; have y12 := ZSg.out; have y13 := Z30.out; have y14 := Z31.out; have y15 := Z32.out; have y16 := Z34.out; omega))
    clear W
    have W := NW
    clear NW
    have NKw := Lib.hid (Kw.out.chg chw33 (by have y0 := Z3.out; have y1 := ZSa.out; have y2 := Z6.out; have y3 := Z9.out; have y4 := Z12.out; have y5 := Z15.out; have y6 := ZSw.out; have y7 := Z18.out; have y8 := Z21.out; have y9 := ZSx.out; have y10 := Z24.out; have y11 := Z27.out; have y12 := ZSg.out; have y13 := Z30.out; have y14 := Z31.out; have y15 := Z32.out; have y16 := Z34.out; omega))
    clear Kw
    have Kw := NKw
    clear NKw
    have NKx := Lib.hid (Kx.out.chg chw33 (by have y0 := Z3.out; have y1 := ZSa.out; have y2 := Z6.out; have y3 := Z9.out; have y4 := Z12.out; have y5 := Z15.out; have y6 := ZSw.out; have y7 := Z18.out; have y8 := Z21.out; have y9 := ZSx.out; have y10 := Z24.out; have y11 := Z27.out; have y12 := ZSg.out; have y13 := Z30.out; have y14 := Z31.out; have y15 := Z32.out; have y16 := Z34.out; omega))
    clear Kx
    have Kx := NKx
    clear NKx
    have NG := Lib.hid (G.out.kept chw33 (by have y0 := Z3.out; have y1 := ZSa.out; have y2 := Z6.out; have y3 := Z9.out; have y4 := Z12.out; have y5 := Z15.out; have y6 := ZSw.out; have y7 := Z18.out; have y8 := Z21.out; have y9 := ZSx.out; have y10 := Z24.out; have y11 := Z27.out; have y12 := ZSg.out; have y13 := Z30.out; have y14 := Z31.out; have y15 := Z32.out; have y16 := Z34.out; omega))
    clear G
    have G := NG
    clear NG
    have NKg := Lib.hid (Kg.out.chg chw33 (by have y0 := Z3.out; have y1 := ZSa.out; have y2 := Z6.out; have y3 := Z9.out; have y4 := Z12.out; have y5 := Z15.out; have y6 := ZSw.out; have y7 := Z18.out; have y8 := Z21.out; have y9 := ZSx.out; have y10 := Z24.out; have y11 := Z27.out; have y12 := ZSg.out; have y13 := Z30.out; have y14 := Z31.out; have y15 := Z32.out; have y16 := Z34.out; omega))
    clear Kg
    have Kg := NKg
    clear NKg
    have NX := Lib.hid (hw33)
    clear X
    have X := NX
    clear NX
    have NB := Lib.hid (chw33.below B.out (by have y0 := Z3.out; have y1 := ZSa.out; have y2 := Z6.out; have y3 := Z9.out; have y4 := Z12.out; have y5 := Z15.out; have y6 := ZSw.out; have y7 := Z18.out; have y8 := Z21.out; have y9 := ZSx.out; have y10 := Z24.out; have y11 := Z27.out; have y12 := ZSg.out; have y13 := Z30.out; have y14 := Z31.out; have y15 := Z32.out; have y16 := Z34.out; omega) B.out.size)
    clear B
    have B := NB
    clear NB
    clear hw33 chw33
    have gKa0 : w33.cell? ⟨w.heap.size, 0, none⟩ = some (.slice Aa A0.length ca) := Ka.out.cell 0
    have gKa1 : w33.cell? ⟨w.heap.size, 1, none⟩ = some (.slice Ab Bs0.length cb) := Ka.out.cell 1
    have gKw0 : w33.cell? ⟨w10.heap.size, 0, none⟩ = some (.slice AaW raW.length caW) := Kw.out.cell 0
    have gKw1 : w33.cell? ⟨w10.heap.size, 1, none⟩ = some (.slice AbW rbW.length cbW) := Kw.out.cell 1
    have gKx0 : w33.cell? ⟨w16.heap.size, 0, none⟩ = some (.slice AaX A0.length caX) := Kx.out.cell 0
    have gKx1 : w33.cell? ⟨w16.heap.size, 1, none⟩ = some (.slice AbX Bs0.length cbX) := Kx.out.cell 1
    have gKg0 : w33.cell? ⟨w22.heap.size, 0, none⟩ = some (.slice AaG raW.length caG) := Kg.out.cell 0
    have gKg1 : w33.cell? ⟨w22.heap.size, 1, none⟩ = some (.slice AbG rbW.length cbG) := Kg.out.cell 1
    have aKa0 : ∀ o, (w33.alloc o).cell? ⟨w.heap.size, 0, none⟩ = some (.slice Aa A0.length ca) := fun o => (Ka.out.alloc o).cell 0
    have aKa1 : ∀ o, (w33.alloc o).cell? ⟨w.heap.size, 1, none⟩ = some (.slice Ab Bs0.length cb) := fun o => (Ka.out.alloc o).cell 1
    have aKw0 : ∀ o, (w33.alloc o).cell? ⟨w10.heap.size, 0, none⟩ = some (.slice AaW raW.length caW) := fun o => (Kw.out.alloc o).cell 0
    have aKw1 : ∀ o, (w33.alloc o).cell? ⟨w10.heap.size, 1, none⟩ = some (.slice AbW rbW.length cbW) := fun o => (Kw.out.alloc o).cell 1
    have aKx0 : ∀ o, (w33.alloc o).cell? ⟨w16.heap.size, 0, none⟩ = some (.slice AaX A0.length caX) := fun o => (Kx.out.alloc o).cell 0
    have aKx1 : ∀ o, (w33.alloc o).cell? ⟨w16.heap.size, 1, none⟩ = some (.slice AbX Bs0.length cbX) := fun o => (Kx.out.alloc o).cell 1
    have aKg0 : ∀ o, (w33.alloc o).cell? ⟨w22.heap.size, 0, none⟩ = some (.slice AaG raW.length caG) := fun o => (Kg.out.alloc o).cell 0
    have aKg1 : ∀ o, (w33.alloc o).cell? ⟨w22.heap.size, 1, none⟩ = some (.slice AbG rbW.length cbG) := fun o => (Kg.out.alloc o).cell 1
    go_wp2_with fail
    clear gKa0 gKa1 gKw0 gKw1 gKx0 gKx1 gKg0 gKg1 aKa0 aKa1 aKw0 aKw1 aKx0 aKx1 aKg0 aKg1
    refine (l_eqTableau _ _ _ _ _ _ _ G.out.arg W.out.arg).mono ?_
    rintro e w35 ⟨rfl, b36⟩
    have Z37 := Lib.hid (b36.size)
    have NKa := Lib.hid (Ka.out.below b36 (by have y0 := Z3.out; have y1 := ZSa.out; have y2 := Z6.out; have y3 := Z9.out; have y4 := Z12.out; have y5 := Z15.out; have y6 := ZSw.out; have y7 := Z18.out; have y8 := Z21.out; have y9 := ZSx.out; have y10 := Z24.out; have y11 := Z27.out; have y12 := ZSg.out; have y13 := Z30.out; have y14 := Z31.out; have y15 := Z32.out; have y16 := Z34.out; have y17 := Z37.out; first | omega | (simp at *; omega)))
    clear Ka
    have Ka := NKa
    clear NKa
    have NT := Lib.hid (T.out.below b36)
    clear T
    have T := NT
    clear NT
    have NW := Lib.hid (W.out.below b36)
    clear W
    have W := NW
    clear NW
    have NKw := Lib.hid (Kw.out.below b36 (by have y0 := Z3.out; have y1 := ZSa.out; have y2 := Z6.out; have y3 := Z9.out; have y4 := Z12.out; have y5 := Z15.out; have y6 := ZSw.out; have y7 := Z18.out; have y8 := Z21.out; have y9 := ZSx.out; have y10 := Z24.out; have y11 := Z27.out; have y12 := ZSg.out; have y13 := Z30.out; have y14 := Z31.out; have y15 := Z32.out; have y16 := Z34.out; have y17 := Z37.out; first | omega | (simp at *; omega)))
    clear Kw
    have Kw := NKw
    clear NKw
    have NX := Lib.hid (X.out.below b36)
    clear X
    have X := NX
    clear NX
    have NKx := Lib.hid (Kx.out.below b36 (by have y0 := Z3.out; have y1 := ZSa.out; have y2 := Z6.out; have y3 := Z9.out; have y4 := Z12.out; have y5 := Z15.out; have y6 := ZSw.out; have y7 := Z18.out; have y8 := Z21.out; have y9 := ZSx.out; have y10 := Z24.out; have y11 := Z27.out; have y12 := ZSg.out; have y13 := Z30.out; have y14 := Z31.out; have y15 := Z32.out; have y16 := Z34.out; have y17 := Z37.out; first | omega | (simp at *; omega)))
    clear Kx
    have Kx := NKx
    clear NKx
    have NG := Lib.hid (G.out.below b36)
    clear G
    have G := NG
    clear NG
    have NKg := Lib.hid (Kg.out.below b36 (by have y0 := Z3.out; have y1 := ZSa.out; have y2 := Z6.out; have y3 := Z9.out; have y4 := Z12.out; have y5 := Z15.out; have y6 := ZSw.out; have y7 := Z18.out; have y8 := Z21.out; have y9 := ZSx.out; have y10 := Z24.out; have y11 := Z27.out; have y12 := ZSg.out; have y13 := Z30.out; have y14 := Z31.out; have y15 := Z32.out; have y16 := Z34.out; have y17 := Z37.out; first | omega | (simp at *; omega)))
    clear Kg
    have Kg := NKg
    clear NKg
    have NB := Lib.hid (B.out.trans (b36.mono B.out.size))
    clear B
    have B := NB
    clear NB
    clear b36
    have gKa0 : w35.cell? ⟨w.heap.size, 0, none⟩ = some (.slice Aa A0.length ca) := Ka.out.cell 0
    have gKa1 : w35.cell? ⟨w.heap.size, 1, none⟩ = some (.slice Ab Bs0.length cb) := Ka.out.cell 1
    have gKw0 : w35.cell? ⟨w10.heap.size, 0, none⟩ = some (.slice AaW raW.length caW) := Kw.out.cell 0
    have gKw1 : w35.cell? ⟨w10.heap.size, 1, none⟩ = some (.slice AbW rbW.length cbW) := Kw.out.cell 1
    have gKx0 : w35.cell? ⟨w16.heap.size, 0, none⟩ = some (.slice AaX A0.length caX) := Kx.out.cell 0
    have gKx1 : w35.cell? ⟨w16.heap.size, 1, none⟩ = some (.slice AbX Bs0.length cbX) := Kx.out.cell 1
    have gKg0 : w35.cell? ⟨w22.heap.size, 0, none⟩ = some (.slice AaG raW.length caG) := Kg.out.cell 0
    have gKg1 : w35.cell? ⟨w22.heap.size, 1, none⟩ = some (.slice AbG rbW.length cbG) := Kg.out.cell 1
    have aKa0 : ∀ o, (w35.alloc o).cell? ⟨w.heap.size, 0, none⟩ = some (.slice Aa A0.length ca) := fun o => (Ka.out.alloc o).cell 0
    have aKa1 : ∀ o, (w35.alloc o).cell? ⟨w.heap.size, 1, none⟩ = some (.slice Ab Bs0.length cb) := fun o => (Ka.out.alloc o).cell 1
    have aKw0 : ∀ o, (w35.alloc o).cell? ⟨w10.heap.size, 0, none⟩ = some (.slice AaW raW.length caW) := fun o => (Kw.out.alloc o).cell 0
    have aKw1 : ∀ o, (w35.alloc o).cell? ⟨w10.heap.size, 1, none⟩ = some (.slice AbW rbW.length cbW) := fun o => (Kw.out.alloc o).cell 1
    have aKx0 : ∀ o, (w35.alloc o).cell? ⟨w16.heap.size, 0, none⟩ = some (.slice AaX A0.length caX) := fun o => (Kx.out.alloc o).cell 0
    have aKx1 : ∀ o, (w35.alloc o).cell? ⟨w16.heap.size, 1, none⟩ = some (.slice AbX Bs0.length cbX) := fun o => (Kx.out.alloc o).cell 1
    have aKg0 : ∀ o, (w35.alloc o).cell? ⟨w22.heap.size, 0, none⟩ = some (.slice AaG raW.length caG) := fun o => (Kg.out.alloc o).cell 0
    have aKg1 : ∀ o, (w35.alloc o).cell? ⟨w22.heap.size, 1, none⟩ = some (.slice AbG rbW.length cbG) := fun o => (Kg.out.alloc o).cell 1
    go_wp2_with fail
    clear gKa0 gKa1 gKw0 gKw1 gKx0 gKx1 gKg0 gKg1 aKa0 aKa1 aKw0 aKw1 aKx0 aKx1 aKg0 aKg1
    refine (l_markTableau _ _ _ _ _ _ 1 G.out (by have y0 := Z3.out; have y1 := ZSa.out; have y2 := Z6.out; have y3 := Z9.out; have y4 := Z12.out; have y5 := Z15.out; have y6 := ZSw.out; have y7 := Z18.out; have y8 := Z21.out; have y9 := ZSx.out; have y10 := Z24.out; have y11 := Z27.out; have y12 := ZSg.out; have y13 := Z30.out; have y14 := Z31.out; have y15 := Z32.out; have y16 := Z34.out; have y17 := Z37.out; omega) (by have y := SH.out; omega) (by have y := SH.out; omega) (by omega) (by omega)).mono ?_
    rintro e w38 ⟨rfl, hw38, chw38⟩
    have Z39 := Lib.hid (chw38.size)
    have NKa := Lib.hid (Ka.out.chg chw38 (by have y0 := Z3.out; have y1 := ZSa.out; have y2 := Z6.out; have y3 := Z9.out; have y4 := Z12.out; have y5 := Z15.out; have y6 := ZSw.out; have y7 := Z18.out; have y8 := Z21.out; have y9 := ZSx.out; have y10 := Z24.out; have y11 := Z27.out; have y12 := ZSg.out; have y13 := Z30.out; have y14 := Z31.out; have y15 := Z32.out; have y16 := Z34.out; have y17 := Z37.out; have y18 := Z39.out; omega))
    clear Ka
    have Ka := NKa
    clear NKa
    have NT := Lib.hid (T.out.kept chw38 (by have y0 := Z3.out; have y1 := ZSa.out; have y2 := Z6.out; have y3 := Z9.out; have y4 := Z12.out; have y5 := Z15.out; have y6 := ZSw.out; have y7 := Z18.out; have y8 := Z21.out; have y9 := ZSx.out; have y10 := Z24.out; have y11 := Z27.out; have y12 := ZSg.out; have y13 := Z30.out; have y14 := Z31.out; have y15 := Z32.out; have y16 := Z34.out; have y17 := Z37.out; have y18 := Z39.out; omega))
    clear T
    have T := NT
    clear NT
    have NW := Lib.hid (W.out.kept chw38 (by have y0 := Z3.out; have y1 := ZSa.out; have y2 := Z6.out; have y3 := Z9.out; have y4 := Z12.out; have y5 := Z15.out; have y6 := ZSw.out; have y7 := Z18.out; have y8 := Z21.out; have y9 := ZSx.out; have y10 := Z24.out; have y11 := Z27.out; have y12 := ZSg.out; have y13 := Z30.out; have y14 := Z31.out; have y15 := Z32.out; have y16 := Z34.out; have y17 := Z37.out; have y18 := Z39.out; omega))
    clear W
    have W := NW
    clear NW
    have NKw := Lib.hid (Kw.out.chg chw38 (by have y0 := Z3.out; have y1 := ZSa.out; have y2 := Z6.out; have y3 := Z9.out; have y4 := Z12.out; have y5 := Z15.out; have y6 := ZSw.out; have y7 := Z18.out; have y8 := Z21.out; have y9 := ZSx.out; have y10 := Z24.out; have y11 := Z27.out; have y12 := ZSg.out; have y13 := Z30.out; have y14 := Z31.out; have y15 := Z32.out; have y16 := Z34.out; have y17 := Z37.out; have y18 := Z39.out; omega))
    clear Kw
    have Kw := NKw
    clear NKw
    have NX := Lib.hid (X.out.kept chw38 (by have y0 := Z3.out; have y1 := ZSa.out; have y2 := Z6.out; have y3 := Z9.out; have y4 := Z12.out; have y5 := Z15.out; have y6 := ZSw.out; have y7 := Z18.out; have y8 := Z21.out; have y9 := ZSx.out; have y10 := Z24.out; have y11 := Z27.out; have y12 := ZSg.out; have y13 := Z30.out; have y14 := Z31.out; have y15 := Z32.out; have y16 := Z34.out; have y17 := Z37.out; have y18 := Z39.out; omega))
    clear X
    have X := NX
    clear NX
    have NKx := Lib.hid (Kx.out.chg chw38 (by have y0 := Z3.out; have y1 := ZSa.out; have y2 := Z6.out; have y3 := Z9.out; have y4 := Z12.out; have y5 := Z15.out; have y6 := ZSw.out; have y7 := Z18.out; have y8 := Z21.out; have y9 := ZSx.out; have y10 := Z24.out; have y11 := Z27.out; have y12 := ZSg.out; have y13 := Z30.out; have y14 := Z31.out; have y15 := Z32.out; have y16 := Z34.out; have y17 := Z37.out; have y18 := Z39.out; omega))
    clear Kx
    have Kx := NKx
    clear NKx
    have NKg := Lib.hid (Kg.out.chg chw38 (by have y0 := Z3.out; have y1 := ZSa.out; have y2 := Z6.out; have y3 := Z9.out; have y4 := Z12.out; have y5 := Z15.out; have y6 := ZSw.out; have y7 := Z18.out; have y8 := Z21.out; have y9 := ZSx.out; have y10 := Z24.out; have y11 := Z27.out; have y12 := ZSg.out; have y13 := Z30.out; have y14 := Z31.out; have y15 := Z32.out; have y16 := Z34.out; have y17 := Z37.out; have y18 := Z39.out; omega))
    clear Kg
    have Kg := NKg
    clear NKg
    have NG := Lib.hid (hw38)
    clear G
    have G := NG
    clear NG
    have NB := Lib.hid (chw38.below B.out (by have y0 := Z3.out; have y1 := ZSa.out; have y2 := Z6.out; have y3 := Z9.out; have y4 := Z12.out; have y5 := Z15.out; have y6 := ZSw.out; have y7 := Z18.out; have y8 := Z21.out; have y9 := ZSx.out; have y10 := Z24.out; have y11 := Z27.out; have y12 := ZSg.out; have y13 := Z30.out; have y14 := Z31.out; have y15 := Z32.out; have y16 := Z34.out; have y17 := Z37.out; have y18 := Z39.out; omega) B.out.size)
    clear B
    have B := NB
    clear NB
    clear hw38 chw38
    have gKa0 : w38.cell? ⟨w.heap.size, 0, none⟩ = some (.slice Aa A0.length ca) := Ka.out.cell 0
    have gKa1 : w38.cell? ⟨w.heap.size, 1, none⟩ = some (.slice Ab Bs0.length cb) := Ka.out.cell 1
    have gKw0 : w38.cell? ⟨w10.heap.size, 0, none⟩ = some (.slice AaW raW.length caW) := Kw.out.cell 0
    have gKw1 : w38.cell? ⟨w10.heap.size, 1, none⟩ = some (.slice AbW rbW.length cbW) := Kw.out.cell 1
    have gKx0 : w38.cell? ⟨w16.heap.size, 0, none⟩ = some (.slice AaX A0.length caX) := Kx.out.cell 0
    have gKx1 : w38.cell? ⟨w16.heap.size, 1, none⟩ = some (.slice AbX Bs0.length cbX) := Kx.out.cell 1
    have gKg0 : w38.cell? ⟨w22.heap.size, 0, none⟩ = some (.slice AaG raW.length caG) := Kg.out.cell 0
    have gKg1 : w38.cell? ⟨w22.heap.size, 1, none⟩ = some (.slice AbG rbW.length cbG) := Kg.out.cell 1
    have aKa0 : ∀ o, (w38.alloc o).cell? ⟨w.heap.size, 0, none⟩ = some (.slice Aa A0.length ca) := fun o => (Ka.out.alloc o).cell 0
    have aKa1 : ∀ o, (w38.alloc o).cell? ⟨w.heap.size, 1, none⟩ = some (.slice Ab Bs0.length cb) := fun o => (Ka.out.alloc o).cell 1
    have aKw0 : ∀ o, (w38.alloc o).cell? ⟨w10.heap.size, 0, none⟩ = some (.slice AaW raW.length caW) := fun o => (Kw.out.alloc o).cell 0
    have aKw1 : ∀ o, (w38.alloc o).cell? ⟨w10.heap.size, 1, none⟩ = some (.slice AbW rbW.length cbW) := fun o => (Kw.out.alloc o).cell 1
    have aKx0 : ∀ o, (w38.alloc o).cell? ⟨w16.heap.size, 0, none⟩ = some (.slice AaX A0.length caX) := fun o => (Kx.out.alloc o).cell 0
    have aKx1 : ∀ o, (w38.alloc o).cell? ⟨w16.heap.size, 1, none⟩ = some (.slice AbX Bs0.length cbX) := fun o => (Kx.out.alloc o).cell 1
    have aKg0 : ∀ o, (w38.alloc o).cell? ⟨w22.heap.size, 0, none⟩ = some (.slice AaG raW.length caG) := fun o => (Kg.out.alloc o).cell 0
    have aKg1 : ∀ o, (w38.alloc o).cell? ⟨w22.heap.size, 1, none⟩ = some (.slice AbG rbW.length cbG) := fun o => (Kg.out.alloc o).cell 1
    go_wp2_with fail
    clear gKa0 gKa1 gKw0 gKw1 gKx0 gKx1 gKg0 gKg1 aKa0 aKa1 aKw0 aKw1 aKx0 aKx1 aKg0 aKg1
    refine (l_heldTableau _ _ _ _ 1 G.out.arg (by have y := SH.out; omega) (by have y := SH.out; omega) (by omega) (by omega)).mono ?_
    rintro e w40 ⟨rfl, b41⟩
    have Z42 := Lib.hid (b41.size)
    have NKa := Lib.hid (Ka.out.below b41 (by have y0 := Z3.out; have y1 := ZSa.out; have y2 := Z6.out; have y3 := Z9.out; have y4 := Z12.out; have y5 := Z15.out; have y6 := ZSw.out; have y7 := Z18.out; have y8 := Z21.out; have y9 := ZSx.out; have y10 := Z24.out; have y11 := Z27.out; have y12 := ZSg.out; have y13 := Z30.out; have y14 := Z31.out; have y15 := Z32.out; have y16 := Z34.out; have y17 := Z37.out; have y18 := Z39.out; have y19 := Z42.out; first | omega | (simp at *; omega)))
    clear Ka
    have Ka := NKa
    clear NKa
    have NT := Lib.hid (T.out.below b41)
    clear T
    have T := NT
    clear NT
    have NW := Lib.hid (W.out.below b41)
    clear W
    have W := NW
    clear NW
    have NKw := Lib.hid (Kw.out.below b41 (by have y0 := Z3.out; have y1 := ZSa.out; have y2 := Z6.out; have y3 := Z9.out; have y4 := Z12.out; have y5 := Z15.out; have y6 := ZSw.out; have y7 := Z18.out; have y8 := Z21.out; have y9 := ZSx.out; have y10 := Z24.out; have y11 := Z27.out; have y12 := ZSg.out; have y13 := Z30.out; have y14 := Z31.out; have y15 := Z32.out; have y16 := Z34.out; have y17 := Z37.out; have y18 := Z39.out; have y19 := Z42.out; first | omega | (simp at *; omega)))
    clear Kw
    have Kw := NKw
    clear NKw
    have NX := Lib.hid (X.out.below b41)
    clear X
    have X := NX
    clear NX
    have NKx := Lib.hid (Kx.out.below b41 (by have y0 := Z3.out; have y1 := ZSa.out; have y2 := Z6.out; have y3 := Z9.out; have y4 := Z12.out; have y5 := Z15.out; have y6 := ZSw.out; have y7 := Z18.out; have y8 := Z21.out; have y9 := ZSx.out; have y10 := Z24.out; have y11 := Z27.out; have y12 := ZSg.out; have y13 := Z30.out; have y14 := Z31.out; have y15 := Z32.out; have y16 := Z34.out; have y17 := Z37.out; have y18 := Z39.out; have y19 := Z42.out; first | omega | (simp at *; omega)))
    clear Kx
    have Kx := NKx
    clear NKx
    have NG := Lib.hid (G.out.below b41)
    clear G
    have G := NG
    clear NG
    have NKg := Lib.hid (Kg.out.below b41 (by have y0 := Z3.out; have y1 := ZSa.out; have y2 := Z6.out; have y3 := Z9.out; have y4 := Z12.out; have y5 := Z15.out; have y6 := ZSw.out; have y7 := Z18.out; have y8 := Z21.out; have y9 := ZSx.out; have y10 := Z24.out; have y11 := Z27.out; have y12 := ZSg.out; have y13 := Z30.out; have y14 := Z31.out; have y15 := Z32.out; have y16 := Z34.out; have y17 := Z37.out; have y18 := Z39.out; have y19 := Z42.out; first | omega | (simp at *; omega)))
    clear Kg
    have Kg := NKg
    clear NKg
    have NB := Lib.hid (B.out.trans (b41.mono B.out.size))
    clear B
    have B := NB
    clear NB
    clear b41
    have gKa0 : w40.cell? ⟨w.heap.size, 0, none⟩ = some (.slice Aa A0.length ca) := Ka.out.cell 0
    have gKa1 : w40.cell? ⟨w.heap.size, 1, none⟩ = some (.slice Ab Bs0.length cb) := Ka.out.cell 1
    have gKw0 : w40.cell? ⟨w10.heap.size, 0, none⟩ = some (.slice AaW raW.length caW) := Kw.out.cell 0
    have gKw1 : w40.cell? ⟨w10.heap.size, 1, none⟩ = some (.slice AbW rbW.length cbW) := Kw.out.cell 1
    have gKx0 : w40.cell? ⟨w16.heap.size, 0, none⟩ = some (.slice AaX A0.length caX) := Kx.out.cell 0
    have gKx1 : w40.cell? ⟨w16.heap.size, 1, none⟩ = some (.slice AbX Bs0.length cbX) := Kx.out.cell 1
    have gKg0 : w40.cell? ⟨w22.heap.size, 0, none⟩ = some (.slice AaG raW.length caG) := Kg.out.cell 0
    have gKg1 : w40.cell? ⟨w22.heap.size, 1, none⟩ = some (.slice AbG rbW.length cbG) := Kg.out.cell 1
    have aKa0 : ∀ o, (w40.alloc o).cell? ⟨w.heap.size, 0, none⟩ = some (.slice Aa A0.length ca) := fun o => (Ka.out.alloc o).cell 0
    have aKa1 : ∀ o, (w40.alloc o).cell? ⟨w.heap.size, 1, none⟩ = some (.slice Ab Bs0.length cb) := fun o => (Ka.out.alloc o).cell 1
    have aKw0 : ∀ o, (w40.alloc o).cell? ⟨w10.heap.size, 0, none⟩ = some (.slice AaW raW.length caW) := fun o => (Kw.out.alloc o).cell 0
    have aKw1 : ∀ o, (w40.alloc o).cell? ⟨w10.heap.size, 1, none⟩ = some (.slice AbW rbW.length cbW) := fun o => (Kw.out.alloc o).cell 1
    have aKx0 : ∀ o, (w40.alloc o).cell? ⟨w16.heap.size, 0, none⟩ = some (.slice AaX A0.length caX) := fun o => (Kx.out.alloc o).cell 0
    have aKx1 : ∀ o, (w40.alloc o).cell? ⟨w16.heap.size, 1, none⟩ = some (.slice AbX Bs0.length cbX) := fun o => (Kx.out.alloc o).cell 1
    have aKg0 : ∀ o, (w40.alloc o).cell? ⟨w22.heap.size, 0, none⟩ = some (.slice AaG raW.length caG) := fun o => (Kg.out.alloc o).cell 0
    have aKg1 : ∀ o, (w40.alloc o).cell? ⟨w22.heap.size, 1, none⟩ = some (.slice AbG rbW.length cbG) := fun o => (Kg.out.alloc o).cell 1
    go_wp2_with fail
    clear gKa0 gKa1 gKw0 gKw1 gKx0 gKx1 gKg0 gKg1 aKa0 aKa1 aKw0 aKw1 aKx0 aKx1 aKg0 aKg1
    refine (l_toTableau _ _ _ _ (HA.out.below B.out) HSA.out HSB.out).mono ?_
    rintro e w43 ⟨xV, rfl, hV, b44⟩
    have Z45 := Lib.hid (b44.size)
    have NKa := Lib.hid (Ka.out.below b44 (by have y0 := Z3.out; have y1 := ZSa.out; have y2 := Z6.out; have y3 := Z9.out; have y4 := Z12.out; have y5 := Z15.out; have y6 := ZSw.out; have y7 := Z18.out; have y8 := Z21.out; have y9 := ZSx.out; have y10 := Z24.out; have y11 := Z27.out; have y12 := ZSg.out; have y13 := Z30.out; have y14 := Z31.out; have y15 := Z32.out; have y16 := Z34.out; have y17 := Z37.out; have y18 := Z39.out; have y19 := Z42.out; have y20 := Z45.out; first | omega | (simp at *; omega)))
    clear Ka
    have Ka := NKa
    clear NKa
    have NT := Lib.hid (T.out.below b44)
    clear T
    have T := NT
    clear NT
    have NW := Lib.hid (W.out.below b44)
    clear W
    have W := NW
    clear NW
    have NKw := Lib.hid (Kw.out.below b44 (by have y0 := Z3.out; have y1 := ZSa.out; have y2 := Z6.out; have y3 := Z9.out; have y4 := Z12.out; have y5 := Z15.out; have y6 := ZSw.out; have y7 := Z18.out; have y8 := Z21.out; have y9 := ZSx.out; have y10 := Z24.out; have y11 := Z27.out; have y12 := ZSg.out; have y13 := Z30.out; have y14 := Z31.out; have y15 := Z32.out; have y16 := Z34.out; have y17 := Z37.out; have y18 := Z39.out; have y19 := Z42.out; have y20 := Z45.out; first | omega | (simp at *; omega)))
    clear Kw
    have Kw := NKw
    clear NKw
    have NX := Lib.hid (X.out.below b44)
    clear X
    have X := NX
    clear NX
    have NKx := Lib.hid (Kx.out.below b44 (by have y0 := Z3.out; have y1 := ZSa.out; have y2 := Z6.out; have y3 := Z9.out; have y4 := Z12.out; have y5 := Z15.out; have y6 := ZSw.out; have y7 := Z18.out; have y8 := Z21.out; have y9 := ZSx.out; have y10 := Z24.out; have y11 := Z27.out; have y12 := ZSg.out; have y13 := Z30.out; have y14 := Z31.out; have y15 := Z32.out; have y16 := Z34.out; have y17 := Z37.out; have y18 := Z39.out; have y19 := Z42.out; have y20 := Z45.out; first | omega | (simp at *; omega)))
    clear Kx
    have Kx := NKx
    clear NKx
    have NG := Lib.hid (G.out.below b44)
    clear G
    have G := NG
    clear NG
    have NKg := Lib.hid (Kg.out.below b44 (by have y0 := Z3.out; have y1 := ZSa.out; have y2 := Z6.out; have y3 := Z9.out; have y4 := Z12.out; have y5 := Z15.out; have y6 := ZSw.out; have y7 := Z18.out; have y8 := Z21.out; have y9 := ZSx.out; have y10 := Z24.out; have y11 := Z27.out; have y12 := ZSg.out; have y13 := Z30.out; have y14 := Z31.out; have y15 := Z32.out; have y16 := Z34.out; have y17 := Z37.out; have y18 := Z39.out; have y19 := Z42.out; have y20 := Z45.out; first | omega | (simp at *; omega)))
    clear Kg
    have Kg := NKg
    clear NKg
    have NB := Lib.hid (B.out.trans (b44.mono B.out.size))
    clear B
    have B := NB
    clear NB
    clear b44
    obtain ⟨AaV, caV, AbV, cbV, rfl⟩ := hV.open_
    have V := Lib.hid hV
    clear hV
    have gKa0 : w43.cell? ⟨w.heap.size, 0, none⟩ = some (.slice Aa A0.length ca) := Ka.out.cell 0
    have gKa1 : w43.cell? ⟨w.heap.size, 1, none⟩ = some (.slice Ab Bs0.length cb) := Ka.out.cell 1
    have gKw0 : w43.cell? ⟨w10.heap.size, 0, none⟩ = some (.slice AaW raW.length caW) := Kw.out.cell 0
    have gKw1 : w43.cell? ⟨w10.heap.size, 1, none⟩ = some (.slice AbW rbW.length cbW) := Kw.out.cell 1
    have gKx0 : w43.cell? ⟨w16.heap.size, 0, none⟩ = some (.slice AaX A0.length caX) := Kx.out.cell 0
    have gKx1 : w43.cell? ⟨w16.heap.size, 1, none⟩ = some (.slice AbX Bs0.length cbX) := Kx.out.cell 1
    have gKg0 : w43.cell? ⟨w22.heap.size, 0, none⟩ = some (.slice AaG raW.length caG) := Kg.out.cell 0
    have gKg1 : w43.cell? ⟨w22.heap.size, 1, none⟩ = some (.slice AbG rbW.length cbG) := Kg.out.cell 1
    have aKa0 : ∀ o, (w43.alloc o).cell? ⟨w.heap.size, 0, none⟩ = some (.slice Aa A0.length ca) := fun o => (Ka.out.alloc o).cell 0
    have aKa1 : ∀ o, (w43.alloc o).cell? ⟨w.heap.size, 1, none⟩ = some (.slice Ab Bs0.length cb) := fun o => (Ka.out.alloc o).cell 1
    have aKw0 : ∀ o, (w43.alloc o).cell? ⟨w10.heap.size, 0, none⟩ = some (.slice AaW raW.length caW) := fun o => (Kw.out.alloc o).cell 0
    have aKw1 : ∀ o, (w43.alloc o).cell? ⟨w10.heap.size, 1, none⟩ = some (.slice AbW rbW.length cbW) := fun o => (Kw.out.alloc o).cell 1
    have aKx0 : ∀ o, (w43.alloc o).cell? ⟨w16.heap.size, 0, none⟩ = some (.slice AaX A0.length caX) := fun o => (Kx.out.alloc o).cell 0
    have aKx1 : ∀ o, (w43.alloc o).cell? ⟨w16.heap.size, 1, none⟩ = some (.slice AbX Bs0.length cbX) := fun o => (Kx.out.alloc o).cell 1
    have aKg0 : ∀ o, (w43.alloc o).cell? ⟨w22.heap.size, 0, none⟩ = some (.slice AaG raW.length caG) := fun o => (Kg.out.alloc o).cell 0
    have aKg1 : ∀ o, (w43.alloc o).cell? ⟨w22.heap.size, 1, none⟩ = some (.slice AbG rbW.length cbG) := fun o => (Kg.out.alloc o).cell 1
    go_wp2_with fail
    clear gKa0 gKa1 gKw0 gKw1 gKx0 gKx1 gKg0 gKg1 aKa0 aKa1 aKw0 aKw1 aKx0 aKx1 aKg0 aKg1
    refine (i_RepeatTableau _ _ _ _ V.out.arg _ ha1).mono ?_
    rintro e w46 ⟨raH, rbH, xH, cH, rfl, pH, hH, b47⟩
    obtain ⟨rfl, rfl, rfl⟩ := P.out.unique pH
    have Z48 := Lib.hid (b47.size)
    have NKa := Lib.hid (Ka.out.below b47 (by have y0 := Z3.out; have y1 := ZSa.out; have y2 := Z6.out; have y3 := Z9.out; have y4 := Z12.out; have y5 := Z15.out; have y6 := ZSw.out; have y7 := Z18.out; have y8 := Z21.out; have y9 := ZSx.out; have y10 := Z24.out; have y11 := Z27.out; have y12 := ZSg.out; have y13 := Z30.out; have y14 := Z31.out; have y15 := Z32.out; have y16 := Z34.out; have y17 := Z37.out; have y18 := Z39.out; have y19 := Z42.out; have y20 := Z45.out; have y21 := Z48.out; first | omega | (simp at *; omega)))
    clear Ka
    have Ka := NKa
    clear NKa
    have NT := Lib.hid (T.out.below b47)
    clear T
    have T := NT
    clear NT
    have NW := Lib.hid (W.out.below b47)
    clear W
    have W := NW
    clear NW
    have NKw := Lib.hid (Kw.out.below b47 (by have y0 := Z3.out; have y1 := ZSa.out; have y2 := Z6.out; have y3 := Z9.out; have y4 := Z12.out; have y5 := Z15.out; have y6 := ZSw.out; have y7 := Z18.out; have y8 := Z21.out; have y9 := ZSx.out; have y10 := Z24.out; have y11 := Z27.out; have y12 := ZSg.out; have y13 := Z30.out; have y14 := Z31.out; have y15 := Z32.out; have y16 := Z34.out; have y17 := Z37.out; have y18 := Z39.out; have y19 := Z42.out; have y20 := Z45.out; have y21 := Z48.out; first | omega | (simp at *; omega)))
    clear Kw
    have Kw := NKw
    clear NKw
    have NX := Lib.hid (X.out.below b47)
    clear X
    have X := NX
    clear NX
    have NKx := Lib.hid (Kx.out.below b47 (by have y0 := Z3.out; have y1 := ZSa.out; have y2 := Z6.out; have y3 := Z9.out; have y4 := Z12.out; have y5 := Z15.out; have y6 := ZSw.out; have y7 := Z18.out; have y8 := Z21.out; have y9 := ZSx.out; have y10 := Z24.out; have y11 := Z27.out; have y12 := ZSg.out; have y13 := Z30.out; have y14 := Z31.out; have y15 := Z32.out; have y16 := Z34.out; have y17 := Z37.out; have y18 := Z39.out; have y19 := Z42.out; have y20 := Z45.out; have y21 := Z48.out; first | omega | (simp at *; omega)))
    clear Kx
    have Kx := NKx
    clear NKx
    have NG := Lib.hid (G.out.below b47)
    clear G
    have G := NG
    clear NG
    have NKg := Lib.hid (Kg.out.below b47 (by have y0 := Z3.out; have y1 := ZSa.out; have y2 := Z6.out; have y3 := Z9.out; have y4 := Z12.out; have y5 := Z15.out; have y6 := ZSw.out; have y7 := Z18.out; have y8 := Z21.out; have y9 := ZSx.out; have y10 := Z24.out; have y11 := Z27.out; have y12 := ZSg.out; have y13 := Z30.out; have y14 := Z31.out; have y15 := Z32.out; have y16 := Z34.out; have y17 := Z37.out; have y18 := Z39.out; have y19 := Z42.out; have y20 := Z45.out; have y21 := Z48.out; first | omega | (simp at *; omega)))
    clear Kg
    have Kg := NKg
    clear NKg
    have NV := Lib.hid (V.out.below b47)
    clear V
    have V := NV
    clear NV
    have NB := Lib.hid (B.out.trans (b47.mono B.out.size))
    clear B
    have B := NB
    clear NB
    clear b47 pH
    obtain ⟨AaH, caH, AbH, cbH, rfl⟩ := hH.open_
    have H := Lib.hid hH
    clear hH
    have gKa0 : w46.cell? ⟨w.heap.size, 0, none⟩ = some (.slice Aa A0.length ca) := Ka.out.cell 0
    have gKa1 : w46.cell? ⟨w.heap.size, 1, none⟩ = some (.slice Ab Bs0.length cb) := Ka.out.cell 1
    have gKw0 : w46.cell? ⟨w10.heap.size, 0, none⟩ = some (.slice AaW raW.length caW) := Kw.out.cell 0
    have gKw1 : w46.cell? ⟨w10.heap.size, 1, none⟩ = some (.slice AbW rbW.length cbW) := Kw.out.cell 1
    have gKx0 : w46.cell? ⟨w16.heap.size, 0, none⟩ = some (.slice AaX A0.length caX) := Kx.out.cell 0
    have gKx1 : w46.cell? ⟨w16.heap.size, 1, none⟩ = some (.slice AbX Bs0.length cbX) := Kx.out.cell 1
    have gKg0 : w46.cell? ⟨w22.heap.size, 0, none⟩ = some (.slice AaG raW.length caG) := Kg.out.cell 0
    have gKg1 : w46.cell? ⟨w22.heap.size, 1, none⟩ = some (.slice AbG rbW.length cbG) := Kg.out.cell 1
    have aKa0 : ∀ o, (w46.alloc o).cell? ⟨w.heap.size, 0, none⟩ = some (.slice Aa A0.length ca) := fun o => (Ka.out.alloc o).cell 0
    have aKa1 : ∀ o, (w46.alloc o).cell? ⟨w.heap.size, 1, none⟩ = some (.slice Ab Bs0.length cb) := fun o => (Ka.out.alloc o).cell 1
    have aKw0 : ∀ o, (w46.alloc o).cell? ⟨w10.heap.size, 0, none⟩ = some (.slice AaW raW.length caW) := fun o => (Kw.out.alloc o).cell 0
    have aKw1 : ∀ o, (w46.alloc o).cell? ⟨w10.heap.size, 1, none⟩ = some (.slice AbW rbW.length cbW) := fun o => (Kw.out.alloc o).cell 1
    have aKx0 : ∀ o, (w46.alloc o).cell? ⟨w16.heap.size, 0, none⟩ = some (.slice AaX A0.length caX) := fun o => (Kx.out.alloc o).cell 0
    have aKx1 : ∀ o, (w46.alloc o).cell? ⟨w16.heap.size, 1, none⟩ = some (.slice AbX Bs0.length cbX) := fun o => (Kx.out.alloc o).cell 1
    have aKg0 : ∀ o, (w46.alloc o).cell? ⟨w22.heap.size, 0, none⟩ = some (.slice AaG raW.length caG) := fun o => (Kg.out.alloc o).cell 0
    have aKg1 : ∀ o, (w46.alloc o).cell? ⟨w22.heap.size, 1, none⟩ = some (.slice AbG rbW.length cbG) := fun o => (Kg.out.alloc o).cell 1
    go_wp2_with fail
    clear gKa0 gKa1 gKw0 gKw1 gKx0 gKx1 gKg0 gKg1 aKa0 aKa1 aKw0 aKw1 aKx0 aKx1 aKg0 aKg1
    obtain ⟨w49, hw49⟩ : ∃ x, x = w46.alloc (.cells #[.slice AaH raW.length caH, .slice AbH rbW.length cbH] 27) := ⟨_, rfl⟩
    rw [← hw49]
    have b50 : Below w46.heap.size w46 w49 := by rw [hw49]; exact below1 _ _
    have Kh := Lib.hid (show Blk w49 w46.heap.size 27 #[.slice AaH raW.length caH, .slice AbH rbW.length cbH] by rw [hw49]; exact Blk.new _ _ _)
    have ZSh := Lib.hid (show w46.heap.size + 1 ≤ w49.heap.size by rw [hw49]; exact Nat.le_of_eq (Array.size_push _).symm)
    have Z51 := Lib.hid (b50.size)
    have NKa := Lib.hid (Ka.out.below b50 (by have y0 := Z3.out; have y1 := ZSa.out; have y2 := Z6.out; have y3 := Z9.out; have y4 := Z12.out; have y5 := Z15.out; have y6 := ZSw.out; have y7 := Z18.out; have y8 := Z21.out; have y9 := ZSx.out; have y10 := Z24.out; have y11 := Z27.out; have y12 := ZSg.out; have y13 := Z30.out; have y14 := Z31.out; have y15 := Z32.out; have y16 := Z34.out; have y17 := Z37.out; have y18 := Z39.out; have y19 := Z42.out; have y20 := Z45.out; have y21 := Z48.out; have y22 := Z51.out; first | omega | (simp at *; omega)))
    clear Ka
    have Ka := NKa
    clear NKa
    have NT := Lib.hid (T.out.below b50)
    clear T
    have T := NT
    clear NT
    have NW := Lib.hid (W.out.below b50)
    clear W
    have W := NW
    clear NW
    have NKw := Lib.hid (Kw.out.below b50 (by have y0 := Z3.out; have y1 := ZSa.out; have y2 := Z6.out; have y3 := Z9.out; have y4 := Z12.out; have y5 := Z15.out; have y6 := ZSw.out; have y7 := Z18.out; have y8 := Z21.out; have y9 := ZSx.out; have y10 := Z24.out; have y11 := Z27.out; have y12 := ZSg.out; have y13 := Z30.out; have y14 := Z31.out; have y15 := Z32.out; have y16 := Z34.out; have y17 := Z37.out; have y18 := Z39.out; have y19 := Z42.out; have y20 := Z45.out; have y21 := Z48.out; have y22 := Z51.out; first | omega | (simp at *; omega)))
    clear Kw
    have Kw := NKw
    clear NKw
    have NX := Lib.hid (X.out.below b50)
    clear X
    have X := NX
    clear NX
    have NKx := Lib.hid (Kx.out.below b50 (by have y0 := Z3.out; have y1 := ZSa.out; have y2 := Z6.out; have y3 := Z9.out; have y4 := Z12.out; have y5 := Z15.out; have y6 := ZSw.out; have y7 := Z18.out; have y8 := Z21.out; have y9 := ZSx.out; have y10 := Z24.out; have y11 := Z27.out; have y12 := ZSg.out; have y13 := Z30.out; have y14 := Z31.out; have y15 := Z32.out; have y16 := Z34.out; have y17 := Z37.out; have y18 := Z39.out; have y19 := Z42.out; have y20 := Z45.out; have y21 := Z48.out; have y22 := Z51.out; first | omega | (simp at *; omega)))
    clear Kx
    have Kx := NKx
    clear NKx
    have NG := Lib.hid (G.out.below b50)
    clear G
    have G := NG
    clear NG
    have NKg := Lib.hid (Kg.out.below b50 (by have y0 := Z3.out; have y1 := ZSa.out; have y2 := Z6.out; have y3 := Z9.out; have y4 := Z12.out; have y5 := Z15.out; have y6 := ZSw.out; have y7 := Z18.out; have y8 := Z21.out; have y9 := ZSx.out; have y10 := Z24.out; have y11 := Z27.out; have y12 := ZSg.out; have y13 := Z30.out; have y14 := Z31.out; have y15 := Z32.out; have y16 := Z34.out; have y17 := Z37.out; have y18 := Z39.out; have y19 := Z42.out; have y20 := Z45.out; have y21 := Z48.out; have y22 := Z51.out; first | omega | (simp at *; omega)))
    clear Kg
    have Kg := NKg
    clear NKg
    have NV := Lib.hid (V.out.below b50)
    clear V
    have V := NV
    clear NV
    have NH := Lib.hid (H.out.below b50)
    clear H
    have H := NH
    clear NH
    have NB := Lib.hid (B.out.trans (b50.mono B.out.size))
    clear B
    have B := NB
    clear NB
    clear b50 hw49
    refine (l_eqTableau _ _ _ _ _ _ _ H.out.arg W.out.arg).mono ?_
    rintro e w52 ⟨rfl, b53⟩
    have Z54 := Lib.hid (b53.size)
    have NKa := Lib.hid (Ka.out.below b53 (by have y0 := Z3.out; have y1 := ZSa.out; have y2 := Z6.out; have y3 := Z9.out; have y4 := Z12.out; have y5 := Z15.out; have y6 := ZSw.out; have y7 := Z18.out; have y8 := Z21.out; have y9 := ZSx.out; have y10 := Z24.out; have y11 := Z27.out; have y12 := ZSg.out; have y13 := Z30.out; have y14 := Z31.out; have y15 := Z32.out; have y16 := Z34.out; have y17 := Z37.out; have y18 := Z39.out; have y19 := Z42.out; have y20 := Z45.out; have y21 := Z48.out; have y22 := Z51.out; have y23 := ZSh.out; have y24 := Z54.out; first | omega | (simp at *; omega)))
    clear Ka
    have Ka := NKa
    clear NKa
    have NT := Lib.hid (T.out.below b53)
    clear T
    have T := NT
    clear NT
    have NW := Lib.hid (W.out.below b53)
    clear W
    have W := NW
    clear NW
    have NKw := Lib.hid (Kw.out.below b53 (by have y0 := Z3.out; have y1 := ZSa.out; have y2 := Z6.out; have y3 := Z9.out; have y4 := Z12.out; have y5 := Z15.out; have y6 := ZSw.out; have y7 := Z18.out; have y8 := Z21.out; have y9 := ZSx.out; have y10 := Z24.out; have y11 := Z27.out; have y12 := ZSg.out; have y13 := Z30.out; have y14 := Z31.out; have y15 := Z32.out; have y16 := Z34.out; have y17 := Z37.out; have y18 := Z39.out; have y19 := Z42.out; have y20 := Z45.out; have y21 := Z48.out; have y22 := Z51.out; have y23 := ZSh.out; have y24 := Z54.out; first | omega | (simp at *; omega)))
    clear Kw
    have Kw := NKw
    clear NKw
    have NX := Lib.hid (X.out.below b53)
    clear X
    have X := NX
    clear NX
    have NKx := Lib.hid (Kx.out.below b53 (by have y0 := Z3.out; have y1 := ZSa.out; have y2 := Z6.out; have y3 := Z9.out; have y4 := Z12.out; have y5 := Z15.out; have y6 := ZSw.out; have y7 := Z18.out; have y8 := Z21.out; have y9 := ZSx.out; have y10 := Z24.out; have y11 := Z27.out; have y12 := ZSg.out; have y13 := Z30.out; have y14 := Z31.out; have y15 := Z32.out; have y16 := Z34.out; have y17 := Z37.out; have y18 := Z39.out; have y19 := Z42.out; have y20 := Z45.out; have y21 := Z48.out; have y22 := Z51.out; have y23 := ZSh.out; have y24 := Z54.out; first | omega | (simp at *; omega)))
    clear Kx
    have Kx := NKx
    clear NKx
    have NG := Lib.hid (G.out.below b53)
    clear G
    have G := NG
    clear NG
    have NKg := Lib.hid (Kg.out.below b53 (by have y0 := Z3.out; have y1 := ZSa.out; have y2 := Z6.out; have y3 := Z9.out; have y4 := Z12.out; have y5 := Z15.out; have y6 := ZSw.out; have y7 := Z18.out; have y8 := Z21.out; have y9 := ZSx.out; have y10 := Z24.out; have y11 := Z27.out; have y12 := ZSg.out; have y13 := Z30.out; have y14 := Z31.out; have y15 := Z32.out; have y16 := Z34.out; have y17 := Z37.out; have y18 := Z39.out; have y19 := Z42.out; have y20 := Z45.out; have y21 := Z48.out; have y22 := Z51.out; have y23 := ZSh.out; have y24 := Z54.out; first | omega | (simp at *; omega)))
    clear Kg
    have Kg := NKg
    clear NKg
    have NV := Lib.hid (V.out.below b53)
    clear V
    have V := NV
    clear NV
    have NH := Lib.hid (H.out.below b53)
    clear H
    have H := NH
    clear NH
    have NKh := Lib.hid (Kh.out.below b53 (by have y0 := Z3.out; have y1 := ZSa.out; have y2 := Z6.out; have y3 := Z9.out; have y4 := Z12.out; have y5 := Z15.out; have y6 := ZSw.out; have y7 := Z18.out; have y8 := Z21.out; have y9 := ZSx.out; have y10 := Z24.out; have y11 := Z27.out; have y12 := ZSg.out; have y13 := Z30.out; have y14 := Z31.out; have y15 := Z32.out; have y16 := Z34.out; have y17 := Z37.out; have y18 := Z39.out; have y19 := Z42.out; have y20 := Z45.out; have y21 := Z48.out; have y22 := Z51.out; have y23 := ZSh.out; have y24 := Z54.out; first | omega | (simp at *; omega)))
    clear Kh
    have Kh := NKh
    clear NKh
    have NB := Lib.hid (B.out.trans (b53.mono B.out.size))
    clear B
    have B := NB
    clear NB
    clear b53
    have gKa0 : w52.cell? ⟨w.heap.size, 0, none⟩ = some (.slice Aa A0.length ca) := Ka.out.cell 0
    have gKa1 : w52.cell? ⟨w.heap.size, 1, none⟩ = some (.slice Ab Bs0.length cb) := Ka.out.cell 1
    have gKw0 : w52.cell? ⟨w10.heap.size, 0, none⟩ = some (.slice AaW raW.length caW) := Kw.out.cell 0
    have gKw1 : w52.cell? ⟨w10.heap.size, 1, none⟩ = some (.slice AbW rbW.length cbW) := Kw.out.cell 1
    have gKx0 : w52.cell? ⟨w16.heap.size, 0, none⟩ = some (.slice AaX A0.length caX) := Kx.out.cell 0
    have gKx1 : w52.cell? ⟨w16.heap.size, 1, none⟩ = some (.slice AbX Bs0.length cbX) := Kx.out.cell 1
    have gKg0 : w52.cell? ⟨w22.heap.size, 0, none⟩ = some (.slice AaG raW.length caG) := Kg.out.cell 0
    have gKg1 : w52.cell? ⟨w22.heap.size, 1, none⟩ = some (.slice AbG rbW.length cbG) := Kg.out.cell 1
    have gKh0 : w52.cell? ⟨w46.heap.size, 0, none⟩ = some (.slice AaH raW.length caH) := Kh.out.cell 0
    have gKh1 : w52.cell? ⟨w46.heap.size, 1, none⟩ = some (.slice AbH rbW.length cbH) := Kh.out.cell 1
    have aKa0 : ∀ o, (w52.alloc o).cell? ⟨w.heap.size, 0, none⟩ = some (.slice Aa A0.length ca) := fun o => (Ka.out.alloc o).cell 0
    have aKa1 : ∀ o, (w52.alloc o).cell? ⟨w.heap.size, 1, none⟩ = some (.slice Ab Bs0.length cb) := fun o => (Ka.out.alloc o).cell 1
    have aKw0 : ∀ o, (w52.alloc o).cell? ⟨w10.heap.size, 0, none⟩ = some (.slice AaW raW.length caW) := fun o => (Kw.out.alloc o).cell 0
    have aKw1 : ∀ o, (w52.alloc o).cell? ⟨w10.heap.size, 1, none⟩ = some (.slice AbW rbW.length cbW) := fun o => (Kw.out.alloc o).cell 1
    have aKx0 : ∀ o, (w52.alloc o).cell? ⟨w16.heap.size, 0, none⟩ = some (.slice AaX A0.length caX) := fun o => (Kx.out.alloc o).cell 0
    have aKx1 : ∀ o, (w52.alloc o).cell? ⟨w16.heap.size, 1, none⟩ = some (.slice AbX Bs0.length cbX) := fun o => (Kx.out.alloc o).cell 1
    have aKg0 : ∀ o, (w52.alloc o).cell? ⟨w22.heap.size, 0, none⟩ = some (.slice AaG raW.length caG) := fun o => (Kg.out.alloc o).cell 0
    have aKg1 : ∀ o, (w52.alloc o).cell? ⟨w22.heap.size, 1, none⟩ = some (.slice AbG rbW.length cbG) := fun o => (Kg.out.alloc o).cell 1
    have aKh0 : ∀ o, (w52.alloc o).cell? ⟨w46.heap.size, 0, none⟩ = some (.slice AaH raW.length caH) := fun o => (Kh.out.alloc o).cell 0
    have aKh1 : ∀ o, (w52.alloc o).cell? ⟨w46.heap.size, 1, none⟩ = some (.slice AbH rbW.length cbH) := fun o => (Kh.out.alloc o).cell 1
    go_wp2_with fail
    clear gKa0 gKa1 gKw0 gKw1 gKx0 gKx1 gKg0 gKg1 gKh0 gKh1 aKa0 aKa1 aKw0 aKw1 aKx0 aKx1 aKg0 aKg1 aKh0 aKh1
    refine (l_heldTableau _ _ _ _ 1 G.out.arg (by have y := SH.out; omega) (by have y := SH.out; omega) (by omega) (by omega)).mono ?_
    rintro e w55 ⟨rfl, b56⟩
    have Z57 := Lib.hid (b56.size)
    have NKa := Lib.hid (Ka.out.below b56 (by have y0 := Z3.out; have y1 := ZSa.out; have y2 := Z6.out; have y3 := Z9.out; have y4 := Z12.out; have y5 := Z15.out; have y6 := ZSw.out; have y7 := Z18.out; have y8 := Z21.out; have y9 := ZSx.out; have y10 := Z24.out; have y11 := Z27.out; have y12 := ZSg.out; have y13 := Z30.out; have y14 := Z31.out; have y15 := Z32.out; have y16 := Z34.out; have y17 := Z37.out; have y18 := Z39.out; have y19 := Z42.out; have y20 := Z45.out; have y21 := Z48.out; have y22 := Z51.out; have y23 := ZSh.out; have y24 := Z54.out; have y25 := Z57.out; first | omega | (simp at *; omega)))
    clear Ka
    have Ka := NKa
    clear NKa
    have NT := Lib.hid (T.out.below b56)
    clear T
    have T := NT
    clear NT
    have NW := Lib.hid (W.out.below b56)
    clear W
    have W := NW
    clear NW
    have NKw := Lib.hid (Kw.out.below b56 (by have y0 := Z3.out; have y1 := ZSa.out; have y2 := Z6.out; have y3 := Z9.out; have y4 := Z12.out; have y5 := Z15.out; have y6 := ZSw.out; have y7 := Z18.out; have y8 := Z21.out; have y9 := ZSx.out; have y10 := Z24.out; have y11 := Z27.out; have y12 := ZSg.out; have y13 := Z30.out; have y14 := Z31.out; have y15 := Z32.out; have y16 := Z34.out; have y17 := Z37.out; have y18 := Z39.out; have y19 := Z42.out; have y20 := Z45.out; have y21 := Z48.out; have y22 := Z51.out; have y23 := ZSh.out; have y24 := Z54.out; have y25 := Z57.out; first | omega | (simp at *; omega)))
    clear Kw
    have Kw := NKw
    clear NKw
    have NX := Lib.hid (X.out.below b56)
    clear X
    have X := NX
    clear NX
    have NKx := Lib.hid (Kx.out.below b56 (by have y0 := Z3.out; have y1 := ZSa.out; have y2 := Z6.out; have y3 := Z9.out; have y4 := Z12.out; have y5 := Z15.out; have y6 := ZSw.out; have y7 := Z18.out; have y8 := Z21.out; have y9 := ZSx.out; have y10 := Z24.out; have y11 := Z27.out; have y12 := ZSg.out; have y13 := Z30.out; have y14 := Z31.out; have y15 := Z32.out; have y16 := Z34.out; have y17 := Z37.out; have y18 := Z39.out; have y19 := Z42.out; have y20 := Z45.out; have y21 := Z48.out; have y22 := Z51.out; have y23 := ZSh.out; have y24 := Z54.out; have y25 := Z57.out; first | omega | (simp at *; omega)))
    clear Kx
    have Kx := NKx
    clear NKx
    have NG := Lib.hid (G.out.below b56)
    clear G
    have G := NG
    clear NG
    have NKg := Lib.hid (Kg.out.below b56 (by have y0 := Z3.out; have y1 := ZSa.out; have y2 := Z6.out; have y3 := Z9.out; have y4 := Z12.out; have y5 := Z15.out; have y6 := ZSw.out; have y7 := Z18.out; have y8 := Z21.out; have y9 := ZSx.out; have y10 := Z24.out; have y11 := Z27.out; have y12 := ZSg.out; have y13 := Z30.out; have y14 := Z31.out; have y15 := Z32.out; have y16 := Z34.out; have y17 := Z37.out; have y18 := Z39.out; have y19 := Z42.out; have y20 := Z45.out; have y21 := Z48.out; have y22 := Z51.out; have y23 := ZSh.out; have y24 := Z54.out; have y25 := Z57.out; first | omega | (simp at *; omega)))
    clear Kg
    have Kg := NKg
    clear NKg
    have NV := Lib.hid (V.out.below b56)
    clear V
    have V := NV
    clear NV
    have NH := Lib.hid (H.out.below b56)
    clear H
    have H := NH
    clear NH
    have NKh := Lib.hid (Kh.out.below b56 (by have y0 := Z3.out; have y1 := ZSa.out; have y2 := Z6.out; have y3 := Z9.out; have y4 := Z12.out; have y5 := Z15.out; have y6 := ZSw.out; have y7 := Z18.out; have y8 := Z21.out; have y9 := ZSx.out; have y10 := Z24.out; have y11 := Z27.out; have y12 := ZSg.out; have y13 := Z30.out; have y14 := Z31.out; have y15 := Z32.out; have y16 := Z34.out; have y17 := Z37.out; have y18 := Z39.out; have y19 := Z42.out; have y20 := Z45.out; have y21 := Z48.out; have y22 := Z51.out; have y23 := ZSh.out; have y24 := Z54.out; have y25 := Z57.out; first | omega | (simp at *; omega)))
    clear Kh
    have Kh := NKh
    clear NKh
    have NB := Lib.hid (B.out.trans (b56.mono B.out.size))
    clear B
    have B := NB
    clear NB
    clear b56
    have gKa0 : w55.cell? ⟨w.heap.size, 0, none⟩ = some (.slice Aa A0.length ca) := Ka.out.cell 0
    have gKa1 : w55.cell? ⟨w.heap.size, 1, none⟩ = some (.slice Ab Bs0.length cb) := Ka.out.cell 1
    have gKw0 : w55.cell? ⟨w10.heap.size, 0, none⟩ = some (.slice AaW raW.length caW) := Kw.out.cell 0
    have gKw1 : w55.cell? ⟨w10.heap.size, 1, none⟩ = some (.slice AbW rbW.length cbW) := Kw.out.cell 1
    have gKx0 : w55.cell? ⟨w16.heap.size, 0, none⟩ = some (.slice AaX A0.length caX) := Kx.out.cell 0
    have gKx1 : w55.cell? ⟨w16.heap.size, 1, none⟩ = some (.slice AbX Bs0.length cbX) := Kx.out.cell 1
    have gKg0 : w55.cell? ⟨w22.heap.size, 0, none⟩ = some (.slice AaG raW.length caG) := Kg.out.cell 0
    have gKg1 : w55.cell? ⟨w22.heap.size, 1, none⟩ = some (.slice AbG rbW.length cbG) := Kg.out.cell 1
    have gKh0 : w55.cell? ⟨w46.heap.size, 0, none⟩ = some (.slice AaH raW.length caH) := Kh.out.cell 0
    have gKh1 : w55.cell? ⟨w46.heap.size, 1, none⟩ = some (.slice AbH rbW.length cbH) := Kh.out.cell 1
    have aKa0 : ∀ o, (w55.alloc o).cell? ⟨w.heap.size, 0, none⟩ = some (.slice Aa A0.length ca) := fun o => (Ka.out.alloc o).cell 0
    have aKa1 : ∀ o, (w55.alloc o).cell? ⟨w.heap.size, 1, none⟩ = some (.slice Ab Bs0.length cb) := fun o => (Ka.out.alloc o).cell 1
    have aKw0 : ∀ o, (w55.alloc o).cell? ⟨w10.heap.size, 0, none⟩ = some (.slice AaW raW.length caW) := fun o => (Kw.out.alloc o).cell 0
    have aKw1 : ∀ o, (w55.alloc o).cell? ⟨w10.heap.size, 1, none⟩ = some (.slice AbW rbW.length cbW) := fun o => (Kw.out.alloc o).cell 1
    have aKx0 : ∀ o, (w55.alloc o).cell? ⟨w16.heap.size, 0, none⟩ = some (.slice AaX A0.length caX) := fun o => (Kx.out.alloc o).cell 0
    have aKx1 : ∀ o, (w55.alloc o).cell? ⟨w16.heap.size, 1, none⟩ = some (.slice AbX Bs0.length cbX) := fun o => (Kx.out.alloc o).cell 1
    have aKg0 : ∀ o, (w55.alloc o).cell? ⟨w22.heap.size, 0, none⟩ = some (.slice AaG raW.length caG) := fun o => (Kg.out.alloc o).cell 0
    have aKg1 : ∀ o, (w55.alloc o).cell? ⟨w22.heap.size, 1, none⟩ = some (.slice AbG rbW.length cbG) := fun o => (Kg.out.alloc o).cell 1
    have aKh0 : ∀ o, (w55.alloc o).cell? ⟨w46.heap.size, 0, none⟩ = some (.slice AaH raW.length caH) := fun o => (Kh.out.alloc o).cell 0
    have aKh1 : ∀ o, (w55.alloc o).cell? ⟨w46.heap.size, 1, none⟩ = some (.slice AbH rbW.length cbH) := fun o => (Kh.out.alloc o).cell 1
    go_wp2_with fail
    clear gKa0 gKa1 gKw0 gKw1 gKx0 gKx1 gKg0 gKg1 gKh0 gKh1 aKa0 aKa1 aKw0 aKw1 aKx0 aKx1 aKg0 aKg1 aKh0 aKh1
    go_ret
    exact ⟨rfl, B.out⟩
end Go.Proofs.Ytgbfifcbbfhpmaa
