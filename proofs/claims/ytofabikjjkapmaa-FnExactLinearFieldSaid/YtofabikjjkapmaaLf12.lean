/- The walk of the law FnExactLinearField from two contracts. Printed by lawgen4.py; the law. | The law FnExactLinearField. | Lists of lists and tableaus that came in, opened to the words of the Mem text. | Fields that came in, opened to the words of the Mono text. -/
import Derived.Test.YtofabikjjkapmaaLf2
import Derived.Test.YtofabikjjkapmaaLf7
import Derived.Test.YtofabikjjkapmaaLf8
import Derived.Test.YtofabikjjkapmaaLf11
import Derived.WalkLawsBesides
import Derived.Deep.RegionHeld3
import Derived.Deep.CutRange
import Derived.Deep.CutBlock
import Derived.Deep.DeepCutAuto
import Derived.Test.YtofabikjjkapmaaRows
import Derived.Test.YtofabikjjkapmaaLf1
import Derived.Deep.Matrix
import Derived.Lib.SmallJoins
import Derived.Test.YtofabikjjkapmaaLf3
import Derived.Deep.SlicePairs
set_option maxRecDepth 100000
set_option linter.unusedVariables false
set_option linter.unusedSimpArgs false
namespace Go.Proofs.Ytofabikjjkapmaa
open Go.RowKit Go.Sort Go.Shelf

/-- a list of lists of monomials of one's own, in blocks that are there -/
def FdO (w : World) (B C : Nat) (u : Value) (r : List (List Mono)) : Prop := C ≤ w.heap.size ∧ PF w B C u r
section
variable {w w' : World} {B C B' C' : Nat} {u : Value} {r : List (List Mono)}
theorem FdO.below (h : FdO w B C u r) (hb : Below w.heap.size w w') : FdO w' B C u r := ⟨Nat.le_trans h.1 hb.size, h.2.agree (Same.of_below hb h.1)⟩
theorem FdO.kept (h : FdO w B C u r) (hc : Chg B' C' w w') (hd : C ≤ B' ∨ C' ≤ B) : FdO w' B C u r := ⟨Nat.le_trans h.1 hc.size, h.2.agree (Same.of_chg hc h.1 hd)⟩
theorem FdO.mrows (h : FdO w B C u r) : MRows w u r := h.2.mrows
end
theorem n_eq_field (w : World) (u u' : Value) (n : Int) (r : List (List Mono)) (hn : In64 n) (h : MRows w u r) (h' : MRows w u' r) :
    Calls Try.prog 9 #[.agg #[.int .i64 n, u], .agg #[.int .i64 n, u']] w fun e w' => e = .returned (.bool true) ∧ Below w.heap.size w w' := by
  refine (l_eqField w _ _ n n r r ⟨u, rfl, hn, h⟩ ⟨u', rfl, hn, h'⟩).mono ?_
  rintro e w' ⟨rfl, hb⟩
  exact ⟨by simp, hb⟩
theorem n_mark_fieldO (w : World) (B C : Nat) (n : Int) (u : Value) (r : List (List Mono)) (k : Int) (ho : FdO w B C u r) (hn : fTot r ≤ 1073741824) (h0 : 0 ≤ k) (h1 : k ≤ 1073741824) :
    Calls Try.prog 12 #[.agg #[.int .i64 n, u], .int .i64 k] w fun e w' => e = .returned (.int .i64 (k + (fTot r : Nat))) ∧ FdO w' B C u (markF k r) ∧ Chg B C w w' := by
  refine (n_mark_field w B C n u r k ho.2 ho.1 hn h0 h1).mono ?_
  rintro e w' ⟨rfl, h2, h3⟩
  exact ⟨rfl, ⟨Nat.le_trans ho.1 h3.size, h2⟩, h3⟩

set_option maxRecDepth 100000 in
set_option maxHeartbeats 8000000 in
theorem law_FnExactLinearField_gen (w : World) (v0 : Value) (xss0 : List (List Int)) (ha0 : Rows w v0 xss0) (r : List (List Mono)) (c : Int) (nr : Int) (hnr : In64 nr) (hR : Short xss0 → fTot r ≤ 1048576)
    (hS : Short xss0 → ∀ (W : World) (v0 : Value), Rows W v0 xss0 → Calls Try.prog 6 #[v0] W fun e w' => ∃ u, e = .returned (.tuple #[.agg #[.int .i64 nr, u], .int .i64 c]) ∧ FdO w' W.heap.size w'.heap.size u r ∧ Below W.heap.size W w')
    (hI : Short xss0 → ∀ (W : World) (v0 : Value), Rows W v0 xss0 → Calls Try.prog 8 #[v0] W fun e w' => ∃ u, e = .returned (.tuple #[.agg #[.int .i64 nr, u], .int .i64 c]) ∧ FdO w' W.heap.size w'.heap.size u r ∧ Below W.heap.size W w') :
    Calls Try.prog 3 #[v0] w fun e w' => e = .returned (.bool true) ∧ Below w.heap.size w w' := by
  have HNR := Lib.hid hnr
  clear hnr
  have B := Lib.hid (Below.refl w.heap.size w)
  have HS := Lib.hid hS
  have HI := Lib.hid hI
  clear hS hI
  have HR := Lib.hid hR
  clear hR
  have HA0 := Lib.hid ha0
  obtain ⟨A0, c0, rfl, -, -, -⟩ := ha0.open_
  clear ha0
  go_enter Try.func3, Try.ntmps3
  go_wp2_with fail
  refine (l_szInt64SS _ _ xss0 _ (HA0.out.below B.out) (by omega) (by omega)).mono ?_
  rintro e w1 ⟨rfl, ew1⟩
  have b2 : Below w.heap.size w w1 := by rw [← ew1]; exact Below.refl _ _
  clear ew1
  have Z3 := Lib.hid (b2.size)
  have NB := Lib.hid (B.out.trans (b2.mono B.out.size))
  clear B
  have B := NB
  clear NB
  clear b2
  by_cases hs0 : szRows 1048576 xss0 < 0
  · skip
    go_wp2_with fail
    go_ret
    exact ⟨rfl, B.out⟩
  have hsh0 := szRows_short (by omega : 0 ≤ szRows 1048576 xss0) (by omega)
  have F1_0 := Lib.hid hsh0.1
  have ht0 := szRows_tot (by omega : 0 ≤ szRows 1048576 xss0)
  have htt0 : tot xss0 ≤ 1048576 := by omega
  have hle0 : szRows 1048576 xss0 ≤ 1048576 := by omega
  obtain ⟨left0, hleft0⟩ : ∃ x, x = szRows 1048576 xss0 := ⟨_, rfl⟩
  rw [← hleft0] at hs0 hle0 ⊢
  clear ht0 hsh0 hleft0
  have hs0 : 0 ≤ left0 := by omega
  go_wp2_with fail
  have HS := Lib.hid (HS.out F1_0.out)
  have HI := Lib.hid (HI.out F1_0.out)
  have HR := Lib.hid (HR.out F1_0.out)
  refine (n_to_rows _ _ xss0 (HA0.out.below B.out) F1_0.out).mono ?_
  rintro e w4 ⟨xT0, rfl, hT0, b5⟩
  have Z6 := Lib.hid (b5.size)
  have NB := Lib.hid (B.out.trans (b5.mono B.out.size))
  clear B
  have B := NB
  clear NB
  clear b5
  have T0 := Lib.hid hT0
  clear hT0
  go_wp2_with fail
  refine (HS.out _ _ T0.out.rows).mono ?_
  rintro e w7 ⟨xW, rfl, hW, b8⟩
  have Z9 := Lib.hid (b8.size)
  have NT0 := Lib.hid (T0.out.below b8)
  clear T0
  have T0 := NT0
  clear NT0
  have NB := Lib.hid (B.out.trans (b8.mono B.out.size))
  clear B
  have B := NB
  clear NB
  clear b8
  obtain ⟨AaW, caW, eW, -⟩ := hW.mrows.open_
  subst eW
  have W := Lib.hid hW
  clear hW
  clear T0
  go_wp2_with fail
  obtain ⟨w10, hw10⟩ : ∃ x, x = w7.alloc (.cells #[.int .i64 nr, .slice AaW r.length caW] 26) := ⟨_, rfl⟩
  rw [← hw10]
  have b11 : Below w7.heap.size w7 w10 := by rw [hw10]; exact below1 _ _
  have Kw := Lib.hid (show Blk w10 w7.heap.size 26 #[.int .i64 nr, .slice AaW r.length caW] by rw [hw10]; exact Blk.new _ _ _)
  have ZSw := Lib.hid (show w7.heap.size + 1 ≤ w10.heap.size by rw [hw10]; exact Nat.le_of_eq (Array.size_push _).symm)
  have Z12 := Lib.hid (b11.size)
  have NW := Lib.hid (W.out.below b11)
  clear W
  have W := NW
  clear NW
  have NB := Lib.hid (B.out.trans (b11.mono B.out.size))
  clear B
  have B := NB
  clear NB
  clear b11 hw10
  refine (n_to_rows _ _ xss0 (HA0.out.below B.out) F1_0.out).mono ?_
  rintro e w13 ⟨xX0, rfl, hX0, b14⟩
  have Z15 := Lib.hid (b14.size)
  have NW := Lib.hid (W.out.below b14)
  clear W
  have W := NW
  clear NW
  have NKw := Lib.hid (Kw.out.below b14 (by have y0 := Z3.out; have y1 := Z6.out; have y2 := Z9.out; have y3 := Z12.out; have y4 := ZSw.out; have y5 := Z15.out; first | omega | (simp at *; omega)))
  clear Kw
  have Kw := NKw
  clear NKw
  have NB := Lib.hid (B.out.trans (b14.mono B.out.size))
  clear B
  have B := NB
  clear NB
  clear b14
  have X0 := Lib.hid hX0
  clear hX0
  have gKw0 : w13.cell? ⟨w7.heap.size, 0, none⟩ = some (.int .i64 nr) := Kw.out.cell 0
  have gKw1 : w13.cell? ⟨w7.heap.size, 1, none⟩ = some (.slice AaW r.length caW) := Kw.out.cell 1
  go_wp2_with fail
  clear gKw0 gKw1
  refine (HI.out _ _ X0.out.rows).mono ?_
  rintro e w16 ⟨xG, rfl, hG, b17⟩
  have Z18 := Lib.hid (b17.size)
  have NW := Lib.hid (W.out.below b17)
  clear W
  have W := NW
  clear NW
  have NKw := Lib.hid (Kw.out.below b17 (by have y0 := Z3.out; have y1 := Z6.out; have y2 := Z9.out; have y3 := Z12.out; have y4 := ZSw.out; have y5 := Z15.out; have y6 := Z18.out; first | omega | (simp at *; omega)))
  clear Kw
  have Kw := NKw
  clear NKw
  have NX0 := Lib.hid (X0.out.below b17)
  clear X0
  have X0 := NX0
  clear NX0
  have NB := Lib.hid (B.out.trans (b17.mono B.out.size))
  clear B
  have B := NB
  clear NB
  clear b17
  obtain ⟨AaG, caG, eG, -⟩ := hG.mrows.open_
  subst eG
  have G := Lib.hid hG
  clear hG
  have gKw0 : w16.cell? ⟨w7.heap.size, 0, none⟩ = some (.int .i64 nr) := Kw.out.cell 0
  have gKw1 : w16.cell? ⟨w7.heap.size, 1, none⟩ = some (.slice AaW r.length caW) := Kw.out.cell 1
  go_upto_region 8 with fail
  clear gKw0 gKw1
  obtain ⟨w19, hw19⟩ : ∃ x, x = w16.alloc (.cells #[.int .i64 nr, .slice AaG r.length caG] 26) := ⟨_, rfl⟩
  rw [← hw19]
  have b20 : Below w16.heap.size w16 w19 := by rw [hw19]; exact below1 _ _
  have Kg := Lib.hid (show Blk w19 w16.heap.size 26 #[.int .i64 nr, .slice AaG r.length caG] by rw [hw19]; exact Blk.new _ _ _)
  have ZSg := Lib.hid (show w16.heap.size + 1 ≤ w19.heap.size by rw [hw19]; exact Nat.le_of_eq (Array.size_push _).symm)
  have Z21 := Lib.hid (b20.size)
  have NW := Lib.hid (W.out.below b20)
  clear W
  have W := NW
  clear NW
  have NKw := Lib.hid (Kw.out.below b20 (by have y0 := Z3.out; have y1 := Z6.out; have y2 := Z9.out; have y3 := Z12.out; have y4 := ZSw.out; have y5 := Z15.out; have y6 := Z18.out; have y7 := Z21.out; first | omega | (simp at *; omega)))
  clear Kw
  have Kw := NKw
  clear NKw
  have NX0 := Lib.hid (X0.out.below b20)
  clear X0
  have X0 := NX0
  clear NX0
  have NG := Lib.hid (G.out.below b20)
  clear G
  have G := NG
  clear NG
  have NB := Lib.hid (B.out.trans (b20.mono B.out.size))
  clear B
  have B := NB
  clear NB
  clear b20 hw19
  have gKw0 : w19.cell? ⟨w7.heap.size, 0, none⟩ = some (.int .i64 nr) := Kw.out.cell 0
  have gKw1 : w19.cell? ⟨w7.heap.size, 1, none⟩ = some (.slice AaW r.length caW) := Kw.out.cell 1
  have gKg0 : w19.cell? ⟨w16.heap.size, 0, none⟩ = some (.int .i64 nr) := Kg.out.cell 0
  have gKg1 : w19.cell? ⟨w16.heap.size, 1, none⟩ = some (.slice AaG r.length caG) := Kg.out.cell 1
  go_wp2_with fail
  clear gKw0 gKw1 gKg0 gKg1
  refine (n_eq_field _ _ _ nr r HNR.out G.out.mrows W.out.mrows).mono ?_
  rintro e w22 ⟨rfl, b23⟩
  have Z24 := Lib.hid (b23.size)
  have NW := Lib.hid (W.out.below b23)
  clear W
  have W := NW
  clear NW
  have NKw := Lib.hid (Kw.out.below b23 (by have y0 := Z3.out; have y1 := Z6.out; have y2 := Z9.out; have y3 := Z12.out; have y4 := ZSw.out; have y5 := Z15.out; have y6 := Z18.out; have y7 := Z21.out; have y8 := ZSg.out; have y9 := Z24.out; first | omega | (simp at *; omega)))
  clear Kw
  have Kw := NKw
  clear NKw
  have NX0 := Lib.hid (X0.out.below b23)
  clear X0
  have X0 := NX0
  clear NX0
  have NG := Lib.hid (G.out.below b23)
  clear G
  have G := NG
  clear NG
  have NKg := Lib.hid (Kg.out.below b23 (by have y0 := Z3.out; have y1 := Z6.out; have y2 := Z9.out; have y3 := Z12.out; have y4 := ZSw.out; have y5 := Z15.out; have y6 := Z18.out; have y7 := Z21.out; have y8 := ZSg.out; have y9 := Z24.out; first | omega | (simp at *; omega)))
  clear Kg
  have Kg := NKg
  clear NKg
  have NB := Lib.hid (B.out.trans (b23.mono B.out.size))
  clear B
  have B := NB
  clear NB
  clear b23
  have gKw0 : w22.cell? ⟨w7.heap.size, 0, none⟩ = some (.int .i64 nr) := Kw.out.cell 0
  have gKw1 : w22.cell? ⟨w7.heap.size, 1, none⟩ = some (.slice AaW r.length caW) := Kw.out.cell 1
  have gKg0 : w22.cell? ⟨w16.heap.size, 0, none⟩ = some (.int .i64 nr) := Kg.out.cell 0
  have gKg1 : w22.cell? ⟨w16.heap.size, 1, none⟩ = some (.slice AaG r.length caG) := Kg.out.cell 1
  go_wp2_with fail
  clear gKw0 gKw1 gKg0 gKg1
  refine (n_to_rows _ _ xss0 (HA0.out.below B.out) F1_0.out).mono ?_
  rintro e w25 ⟨xY0, rfl, hY0, b26⟩
  have Z27 := Lib.hid (b26.size)
  have NW := Lib.hid (W.out.below b26)
  clear W
  have W := NW
  clear NW
  have NKw := Lib.hid (Kw.out.below b26 (by have y0 := Z3.out; have y1 := Z6.out; have y2 := Z9.out; have y3 := Z12.out; have y4 := ZSw.out; have y5 := Z15.out; have y6 := Z18.out; have y7 := Z21.out; have y8 := ZSg.out; have y9 := Z24.out; have y10 := Z27.out; first | omega | (simp at *; omega)))
  clear Kw
  have Kw := NKw
  clear NKw
  have NX0 := Lib.hid (X0.out.below b26)
  clear X0
  have X0 := NX0
  clear NX0
  have NG := Lib.hid (G.out.below b26)
  clear G
  have G := NG
  clear NG
  have NKg := Lib.hid (Kg.out.below b26 (by have y0 := Z3.out; have y1 := Z6.out; have y2 := Z9.out; have y3 := Z12.out; have y4 := ZSw.out; have y5 := Z15.out; have y6 := Z18.out; have y7 := Z21.out; have y8 := ZSg.out; have y9 := Z24.out; have y10 := Z27.out; first | omega | (simp at *; omega)))
  clear Kg
  have Kg := NKg
  clear NKg
  have NB := Lib.hid (B.out.trans (b26.mono B.out.size))
  clear B
  have B := NB
  clear NB
  clear b26
  have Y0 := Lib.hid hY0
  clear hY0
  have gKw0 : w25.cell? ⟨w7.heap.size, 0, none⟩ = some (.int .i64 nr) := Kw.out.cell 0
  have gKw1 : w25.cell? ⟨w7.heap.size, 1, none⟩ = some (.slice AaW r.length caW) := Kw.out.cell 1
  have gKg0 : w25.cell? ⟨w16.heap.size, 0, none⟩ = some (.int .i64 nr) := Kg.out.cell 0
  have gKg1 : w25.cell? ⟨w16.heap.size, 1, none⟩ = some (.slice AaG r.length caG) := Kg.out.cell 1
  go_wp2_with fail
  clear gKw0 gKw1 gKg0 gKg1
  refine (n_eq_rows _ _ _ xss0 X0.out.rows Y0.out.rows).mono ?_
  rintro e w28 ⟨rfl, b29⟩
  have Z30 := Lib.hid (b29.size)
  have NW := Lib.hid (W.out.below b29)
  clear W
  have W := NW
  clear NW
  have NKw := Lib.hid (Kw.out.below b29 (by have y0 := Z3.out; have y1 := Z6.out; have y2 := Z9.out; have y3 := Z12.out; have y4 := ZSw.out; have y5 := Z15.out; have y6 := Z18.out; have y7 := Z21.out; have y8 := ZSg.out; have y9 := Z24.out; have y10 := Z27.out; have y11 := Z30.out; first | omega | (simp at *; omega)))
  clear Kw
  have Kw := NKw
  clear NKw
  have NX0 := Lib.hid (X0.out.below b29)
  clear X0
  have X0 := NX0
  clear NX0
  have NG := Lib.hid (G.out.below b29)
  clear G
  have G := NG
  clear NG
  have NKg := Lib.hid (Kg.out.below b29 (by have y0 := Z3.out; have y1 := Z6.out; have y2 := Z9.out; have y3 := Z12.out; have y4 := ZSw.out; have y5 := Z15.out; have y6 := Z18.out; have y7 := Z21.out; have y8 := ZSg.out; have y9 := Z24.out; have y10 := Z27.out; have y11 := Z30.out; first | omega | (simp at *; omega)))
  clear Kg
  have Kg := NKg
  clear NKg
  have NY0 := Lib.hid (Y0.out.below b29)
  clear Y0
  have Y0 := NY0
  clear NY0
  have NB := Lib.hid (B.out.trans (b29.mono B.out.size))
  clear B
  have B := NB
  clear NB
  clear b29
  clear Y0
  have gKw0 : w28.cell? ⟨w7.heap.size, 0, none⟩ = some (.int .i64 nr) := Kw.out.cell 0
  have gKw1 : w28.cell? ⟨w7.heap.size, 1, none⟩ = some (.slice AaW r.length caW) := Kw.out.cell 1
  have gKg0 : w28.cell? ⟨w16.heap.size, 0, none⟩ = some (.int .i64 nr) := Kg.out.cell 0
  have gKg1 : w28.cell? ⟨w16.heap.size, 1, none⟩ = some (.slice AaG r.length caG) := Kg.out.cell 1
  go_wp2_with fail
  clear gKw0 gKw1 gKg0 gKg1
  refine (n_mark_rows _ _ _ _ xss0 (1) X0.out (by omega) (by omega) (by omega)).mono ?_
  rintro e w31 ⟨rfl, -, chw31⟩
  have Z32 := Lib.hid (chw31.size)
  have NW := Lib.hid (W.out.kept chw31 (by have y0 := Z3.out; have y1 := Z6.out; have y2 := Z9.out; have y3 := Z12.out; have y4 := ZSw.out; have y5 := Z15.out; have y6 := Z18.out; have y7 := Z21.out; have y8 := ZSg.out; have y9 := Z24.out; have y10 := Z27.out; have y11 := Z30.out; have y12 := Z32.out; omega))
  clear W
  have W := NW
  clear NW
  have NKw := Lib.hid (Kw.out.chg chw31 (by have y0 := Z3.out; have y1 := Z6.out; have y2 := Z9.out; have y3 := Z12.out; have y4 := ZSw.out; have y5 := Z15.out; have y6 := Z18.out; have y7 := Z21.out; have y8 := ZSg.out; have y9 := Z24.out; have y10 := Z27.out; have y11 := Z30.out; have y12 := Z32.out; omega))
  clear Kw
  have Kw := NKw
  clear NKw
  have NG := Lib.hid (G.out.kept chw31 (by have y0 := Z3.out; have y1 := Z6.out; have y2 := Z9.out; have y3 := Z12.out; have y4 := ZSw.out; have y5 := Z15.out; have y6 := Z18.out; have y7 := Z21.out; have y8 := ZSg.out; have y9 := Z24.out; have y10 := Z27.out; have y11 := Z30.out; have y12 := Z32.out; omega))
  clear G
  have G := NG
  clear NG
  have NKg := Lib.hid (Kg.out.chg chw31 (by have y0 := Z3.out; have y1 := Z6.out; have y2 := Z9.out; have y3 := Z12.out; have y4 := ZSw.out; have y5 := Z15.out; have y6 := Z18.out; have y7 := Z21.out; have y8 := ZSg.out; have y9 := Z24.out; have y10 := Z27.out; have y11 := Z30.out; have y12 := Z32.out; omega))
  clear Kg
  have Kg := NKg
  clear NKg
  clear X0
  have NB := Lib.hid (chw31.below B.out (by have y0 := Z3.out; have y1 := Z6.out; have y2 := Z9.out; have y3 := Z12.out; have y4 := ZSw.out; have y5 := Z15.out; have y6 := Z18.out; have y7 := Z21.out; have y8 := ZSg.out; have y9 := Z24.out; have y10 := Z27.out; have y11 := Z30.out; have y12 := Z32.out; omega) B.out.size)
  clear B
  have B := NB
  clear NB
  clear chw31
  have hk0 : (0 : Int) ≤ 1 + (tot xss0 : Nat) := by omega
  have gKw0 : w31.cell? ⟨w7.heap.size, 0, none⟩ = some (.int .i64 nr) := Kw.out.cell 0
  have gKw1 : w31.cell? ⟨w7.heap.size, 1, none⟩ = some (.slice AaW r.length caW) := Kw.out.cell 1
  have gKg0 : w31.cell? ⟨w16.heap.size, 0, none⟩ = some (.int .i64 nr) := Kg.out.cell 0
  have gKg1 : w31.cell? ⟨w16.heap.size, 1, none⟩ = some (.slice AaG r.length caG) := Kg.out.cell 1
  go_wp2_with fail
  clear gKw0 gKw1 gKg0 gKg1
  clear hk0
  refine (n_eq_field _ _ _ nr r HNR.out G.out.mrows W.out.mrows).mono ?_
  rintro e w33 ⟨rfl, b34⟩
  have Z35 := Lib.hid (b34.size)
  have NW := Lib.hid (W.out.below b34)
  clear W
  have W := NW
  clear NW
  have NKw := Lib.hid (Kw.out.below b34 (by have y0 := Z3.out; have y1 := Z6.out; have y2 := Z9.out; have y3 := Z12.out; have y4 := ZSw.out; have y5 := Z15.out; have y6 := Z18.out; have y7 := Z21.out; have y8 := ZSg.out; have y9 := Z24.out; have y10 := Z27.out; have y11 := Z30.out; have y12 := Z32.out; have y13 := Z35.out; first | omega | (simp at *; omega)))
  clear Kw
  have Kw := NKw
  clear NKw
  have NG := Lib.hid (G.out.below b34)
  clear G
  have G := NG
  clear NG
  have NKg := Lib.hid (Kg.out.below b34 (by have y0 := Z3.out; have y1 := Z6.out; have y2 := Z9.out; have y3 := Z12.out; have y4 := ZSw.out; have y5 := Z15.out; have y6 := Z18.out; have y7 := Z21.out; have y8 := ZSg.out; have y9 := Z24.out; have y10 := Z27.out; have y11 := Z30.out; have y12 := Z32.out; have y13 := Z35.out; first | omega | (simp at *; omega)))
  clear Kg
  have Kg := NKg
  clear NKg
  have NB := Lib.hid (B.out.trans (b34.mono B.out.size))
  clear B
  have B := NB
  clear NB
  clear b34
  have gKw0 : w33.cell? ⟨w7.heap.size, 0, none⟩ = some (.int .i64 nr) := Kw.out.cell 0
  have gKw1 : w33.cell? ⟨w7.heap.size, 1, none⟩ = some (.slice AaW r.length caW) := Kw.out.cell 1
  have gKg0 : w33.cell? ⟨w16.heap.size, 0, none⟩ = some (.int .i64 nr) := Kg.out.cell 0
  have gKg1 : w33.cell? ⟨w16.heap.size, 1, none⟩ = some (.slice AaG r.length caG) := Kg.out.cell 1
  go_wp2_with fail
  clear gKw0 gKw1 gKg0 gKg1
  have hr0 : (0 : Int) ≤ 1 + ((fTot r : Nat) : Int) := by omega
  refine (n_mark_fieldO _ _ _ _ _ r 1 G.out (by have y := HR.out; omega) (by omega) (by omega)).mono ?_
  rintro e w36 ⟨rfl, hw36, chw36⟩
  have Z37 := Lib.hid (chw36.size)
  have NW := Lib.hid (W.out.kept chw36 (by have y0 := Z3.out; have y1 := Z6.out; have y2 := Z9.out; have y3 := Z12.out; have y4 := ZSw.out; have y5 := Z15.out; have y6 := Z18.out; have y7 := Z21.out; have y8 := ZSg.out; have y9 := Z24.out; have y10 := Z27.out; have y11 := Z30.out; have y12 := Z32.out; have y13 := Z35.out; have y14 := Z37.out; omega))
  clear W
  have W := NW
  clear NW
  have NKw := Lib.hid (Kw.out.chg chw36 (by have y0 := Z3.out; have y1 := Z6.out; have y2 := Z9.out; have y3 := Z12.out; have y4 := ZSw.out; have y5 := Z15.out; have y6 := Z18.out; have y7 := Z21.out; have y8 := ZSg.out; have y9 := Z24.out; have y10 := Z27.out; have y11 := Z30.out; have y12 := Z32.out; have y13 := Z35.out; have y14 := Z37.out; omega))
  clear Kw
  have Kw := NKw
  clear NKw
  have NKg := Lib.hid (Kg.out.chg chw36 (by have y0 := Z3.out; have y1 := Z6.out; have y2 := Z9.out; have y3 := Z12.out; have y4 := ZSw.out; have y5 := Z15.out; have y6 := Z18.out; have y7 := Z21.out; have y8 := ZSg.out; have y9 := Z24.out; have y10 := Z27.out; have y11 := Z30.out; have y12 := Z32.out; have y13 := Z35.out; have y14 := Z37.out; omega))
  clear Kg
  have Kg := NKg
  clear NKg
  have NG := Lib.hid (hw36)
  clear G
  have G := NG
  clear NG
  have NB := Lib.hid (chw36.below B.out (by have y0 := Z3.out; have y1 := Z6.out; have y2 := Z9.out; have y3 := Z12.out; have y4 := ZSw.out; have y5 := Z15.out; have y6 := Z18.out; have y7 := Z21.out; have y8 := ZSg.out; have y9 := Z24.out; have y10 := Z27.out; have y11 := Z30.out; have y12 := Z32.out; have y13 := Z35.out; have y14 := Z37.out; omega) B.out.size)
  clear B
  have B := NB
  clear NB
  clear hw36 chw36
  have gKw0 : w36.cell? ⟨w7.heap.size, 0, none⟩ = some (.int .i64 nr) := Kw.out.cell 0
  have gKw1 : w36.cell? ⟨w7.heap.size, 1, none⟩ = some (.slice AaW r.length caW) := Kw.out.cell 1
  have gKg0 : w36.cell? ⟨w16.heap.size, 0, none⟩ = some (.int .i64 nr) := Kg.out.cell 0
  have gKg1 : w36.cell? ⟨w16.heap.size, 1, none⟩ = some (.slice AaG r.length caG) := Kg.out.cell 1
  go_wp2_with fail
  clear gKw0 gKw1 gKg0 gKg1
  refine (n_held_field _ _ _ r G.out.mrows (by have y := HR.out; omega)).mono ?_
  rintro e w38 ⟨rfl, b39⟩
  have Z40 := Lib.hid (b39.size)
  have NW := Lib.hid (W.out.below b39)
  clear W
  have W := NW
  clear NW
  have NKw := Lib.hid (Kw.out.below b39 (by have y0 := Z3.out; have y1 := Z6.out; have y2 := Z9.out; have y3 := Z12.out; have y4 := ZSw.out; have y5 := Z15.out; have y6 := Z18.out; have y7 := Z21.out; have y8 := ZSg.out; have y9 := Z24.out; have y10 := Z27.out; have y11 := Z30.out; have y12 := Z32.out; have y13 := Z35.out; have y14 := Z37.out; have y15 := Z40.out; first | omega | (simp at *; omega)))
  clear Kw
  have Kw := NKw
  clear NKw
  have NG := Lib.hid (G.out.below b39)
  clear G
  have G := NG
  clear NG
  have NKg := Lib.hid (Kg.out.below b39 (by have y0 := Z3.out; have y1 := Z6.out; have y2 := Z9.out; have y3 := Z12.out; have y4 := ZSw.out; have y5 := Z15.out; have y6 := Z18.out; have y7 := Z21.out; have y8 := ZSg.out; have y9 := Z24.out; have y10 := Z27.out; have y11 := Z30.out; have y12 := Z32.out; have y13 := Z35.out; have y14 := Z37.out; have y15 := Z40.out; first | omega | (simp at *; omega)))
  clear Kg
  have Kg := NKg
  clear NKg
  have NB := Lib.hid (B.out.trans (b39.mono B.out.size))
  clear B
  have B := NB
  clear NB
  clear b39
  have gKw0 : w38.cell? ⟨w7.heap.size, 0, none⟩ = some (.int .i64 nr) := Kw.out.cell 0
  have gKw1 : w38.cell? ⟨w7.heap.size, 1, none⟩ = some (.slice AaW r.length caW) := Kw.out.cell 1
  have gKg0 : w38.cell? ⟨w16.heap.size, 0, none⟩ = some (.int .i64 nr) := Kg.out.cell 0
  have gKg1 : w38.cell? ⟨w16.heap.size, 1, none⟩ = some (.slice AaG r.length caG) := Kg.out.cell 1
  go_wp2_with fail
  clear gKw0 gKw1 gKg0 gKg1
  refine (n_to_rows _ _ xss0 (HA0.out.below B.out) F1_0.out).mono ?_
  rintro e w41 ⟨xV0, rfl, hV0, b42⟩
  have Z43 := Lib.hid (b42.size)
  have NW := Lib.hid (W.out.below b42)
  clear W
  have W := NW
  clear NW
  have NKw := Lib.hid (Kw.out.below b42 (by have y0 := Z3.out; have y1 := Z6.out; have y2 := Z9.out; have y3 := Z12.out; have y4 := ZSw.out; have y5 := Z15.out; have y6 := Z18.out; have y7 := Z21.out; have y8 := ZSg.out; have y9 := Z24.out; have y10 := Z27.out; have y11 := Z30.out; have y12 := Z32.out; have y13 := Z35.out; have y14 := Z37.out; have y15 := Z40.out; have y16 := Z43.out; first | omega | (simp at *; omega)))
  clear Kw
  have Kw := NKw
  clear NKw
  have NG := Lib.hid (G.out.below b42)
  clear G
  have G := NG
  clear NG
  have NKg := Lib.hid (Kg.out.below b42 (by have y0 := Z3.out; have y1 := Z6.out; have y2 := Z9.out; have y3 := Z12.out; have y4 := ZSw.out; have y5 := Z15.out; have y6 := Z18.out; have y7 := Z21.out; have y8 := ZSg.out; have y9 := Z24.out; have y10 := Z27.out; have y11 := Z30.out; have y12 := Z32.out; have y13 := Z35.out; have y14 := Z37.out; have y15 := Z40.out; have y16 := Z43.out; first | omega | (simp at *; omega)))
  clear Kg
  have Kg := NKg
  clear NKg
  have NB := Lib.hid (B.out.trans (b42.mono B.out.size))
  clear B
  have B := NB
  clear NB
  clear b42
  have V0 := Lib.hid hV0
  clear hV0
  have gKw0 : w41.cell? ⟨w7.heap.size, 0, none⟩ = some (.int .i64 nr) := Kw.out.cell 0
  have gKw1 : w41.cell? ⟨w7.heap.size, 1, none⟩ = some (.slice AaW r.length caW) := Kw.out.cell 1
  have gKg0 : w41.cell? ⟨w16.heap.size, 0, none⟩ = some (.int .i64 nr) := Kg.out.cell 0
  have gKg1 : w41.cell? ⟨w16.heap.size, 1, none⟩ = some (.slice AaG r.length caG) := Kg.out.cell 1
  go_wp2_with fail
  clear gKw0 gKw1 gKg0 gKg1
  refine (HI.out _ _ V0.out.rows).mono ?_
  rintro e w44 ⟨xH, rfl, hH, b45⟩
  have Z46 := Lib.hid (b45.size)
  have NW := Lib.hid (W.out.below b45)
  clear W
  have W := NW
  clear NW
  have NKw := Lib.hid (Kw.out.below b45 (by have y0 := Z3.out; have y1 := Z6.out; have y2 := Z9.out; have y3 := Z12.out; have y4 := ZSw.out; have y5 := Z15.out; have y6 := Z18.out; have y7 := Z21.out; have y8 := ZSg.out; have y9 := Z24.out; have y10 := Z27.out; have y11 := Z30.out; have y12 := Z32.out; have y13 := Z35.out; have y14 := Z37.out; have y15 := Z40.out; have y16 := Z43.out; have y17 := Z46.out; first | omega | (simp at *; omega)))
  clear Kw
  have Kw := NKw
  clear NKw
  have NG := Lib.hid (G.out.below b45)
  clear G
  have G := NG
  clear NG
  have NKg := Lib.hid (Kg.out.below b45 (by have y0 := Z3.out; have y1 := Z6.out; have y2 := Z9.out; have y3 := Z12.out; have y4 := ZSw.out; have y5 := Z15.out; have y6 := Z18.out; have y7 := Z21.out; have y8 := ZSg.out; have y9 := Z24.out; have y10 := Z27.out; have y11 := Z30.out; have y12 := Z32.out; have y13 := Z35.out; have y14 := Z37.out; have y15 := Z40.out; have y16 := Z43.out; have y17 := Z46.out; first | omega | (simp at *; omega)))
  clear Kg
  have Kg := NKg
  clear NKg
  have NV0 := Lib.hid (V0.out.below b45)
  clear V0
  have V0 := NV0
  clear NV0
  have NB := Lib.hid (B.out.trans (b45.mono B.out.size))
  clear B
  have B := NB
  clear NB
  clear b45
  obtain ⟨AaH, caH, eH, -⟩ := hH.mrows.open_
  subst eH
  have H := Lib.hid hH
  clear hH
  clear V0
  have gKw0 : w44.cell? ⟨w7.heap.size, 0, none⟩ = some (.int .i64 nr) := Kw.out.cell 0
  have gKw1 : w44.cell? ⟨w7.heap.size, 1, none⟩ = some (.slice AaW r.length caW) := Kw.out.cell 1
  have gKg0 : w44.cell? ⟨w16.heap.size, 0, none⟩ = some (.int .i64 nr) := Kg.out.cell 0
  have gKg1 : w44.cell? ⟨w16.heap.size, 1, none⟩ = some (.slice AaG r.length caG) := Kg.out.cell 1
  go_upto_region 25 with fail
  clear gKw0 gKw1 gKg0 gKg1
  obtain ⟨w47, hw47⟩ : ∃ x, x = w44.alloc (.cells #[.int .i64 nr, .slice AaH r.length caH] 26) := ⟨_, rfl⟩
  rw [← hw47]
  have b48 : Below w44.heap.size w44 w47 := by rw [hw47]; exact below1 _ _
  have Kh := Lib.hid (show Blk w47 w44.heap.size 26 #[.int .i64 nr, .slice AaH r.length caH] by rw [hw47]; exact Blk.new _ _ _)
  have ZSh := Lib.hid (show w44.heap.size + 1 ≤ w47.heap.size by rw [hw47]; exact Nat.le_of_eq (Array.size_push _).symm)
  have Z49 := Lib.hid (b48.size)
  have NW := Lib.hid (W.out.below b48)
  clear W
  have W := NW
  clear NW
  have NKw := Lib.hid (Kw.out.below b48 (by have y0 := Z3.out; have y1 := Z6.out; have y2 := Z9.out; have y3 := Z12.out; have y4 := ZSw.out; have y5 := Z15.out; have y6 := Z18.out; have y7 := Z21.out; have y8 := ZSg.out; have y9 := Z24.out; have y10 := Z27.out; have y11 := Z30.out; have y12 := Z32.out; have y13 := Z35.out; have y14 := Z37.out; have y15 := Z40.out; have y16 := Z43.out; have y17 := Z46.out; have y18 := Z49.out; first | omega | (simp at *; omega)))
  clear Kw
  have Kw := NKw
  clear NKw
  have NG := Lib.hid (G.out.below b48)
  clear G
  have G := NG
  clear NG
  have NKg := Lib.hid (Kg.out.below b48 (by have y0 := Z3.out; have y1 := Z6.out; have y2 := Z9.out; have y3 := Z12.out; have y4 := ZSw.out; have y5 := Z15.out; have y6 := Z18.out; have y7 := Z21.out; have y8 := ZSg.out; have y9 := Z24.out; have y10 := Z27.out; have y11 := Z30.out; have y12 := Z32.out; have y13 := Z35.out; have y14 := Z37.out; have y15 := Z40.out; have y16 := Z43.out; have y17 := Z46.out; have y18 := Z49.out; first | omega | (simp at *; omega)))
  clear Kg
  have Kg := NKg
  clear NKg
  have NH := Lib.hid (H.out.below b48)
  clear H
  have H := NH
  clear NH
  have NB := Lib.hid (B.out.trans (b48.mono B.out.size))
  clear B
  have B := NB
  clear NB
  clear b48 hw47
  have gKw0 : w47.cell? ⟨w7.heap.size, 0, none⟩ = some (.int .i64 nr) := Kw.out.cell 0
  have gKw1 : w47.cell? ⟨w7.heap.size, 1, none⟩ = some (.slice AaW r.length caW) := Kw.out.cell 1
  have gKg0 : w47.cell? ⟨w16.heap.size, 0, none⟩ = some (.int .i64 nr) := Kg.out.cell 0
  have gKg1 : w47.cell? ⟨w16.heap.size, 1, none⟩ = some (.slice AaG r.length caG) := Kg.out.cell 1
  have gKh0 : w47.cell? ⟨w44.heap.size, 0, none⟩ = some (.int .i64 nr) := Kh.out.cell 0
  have gKh1 : w47.cell? ⟨w44.heap.size, 1, none⟩ = some (.slice AaH r.length caH) := Kh.out.cell 1
  go_wp2_with fail
  clear gKw0 gKw1 gKg0 gKg1 gKh0 gKh1
  refine (n_eq_field _ _ _ nr r HNR.out H.out.mrows W.out.mrows).mono ?_
  rintro e w50 ⟨rfl, b51⟩
  have Z52 := Lib.hid (b51.size)
  have NW := Lib.hid (W.out.below b51)
  clear W
  have W := NW
  clear NW
  have NKw := Lib.hid (Kw.out.below b51 (by have y0 := Z3.out; have y1 := Z6.out; have y2 := Z9.out; have y3 := Z12.out; have y4 := ZSw.out; have y5 := Z15.out; have y6 := Z18.out; have y7 := Z21.out; have y8 := ZSg.out; have y9 := Z24.out; have y10 := Z27.out; have y11 := Z30.out; have y12 := Z32.out; have y13 := Z35.out; have y14 := Z37.out; have y15 := Z40.out; have y16 := Z43.out; have y17 := Z46.out; have y18 := Z49.out; have y19 := ZSh.out; have y20 := Z52.out; first | omega | (simp at *; omega)))
  clear Kw
  have Kw := NKw
  clear NKw
  have NG := Lib.hid (G.out.below b51)
  clear G
  have G := NG
  clear NG
  have NKg := Lib.hid (Kg.out.below b51 (by have y0 := Z3.out; have y1 := Z6.out; have y2 := Z9.out; have y3 := Z12.out; have y4 := ZSw.out; have y5 := Z15.out; have y6 := Z18.out; have y7 := Z21.out; have y8 := ZSg.out; have y9 := Z24.out; have y10 := Z27.out; have y11 := Z30.out; have y12 := Z32.out; have y13 := Z35.out; have y14 := Z37.out; have y15 := Z40.out; have y16 := Z43.out; have y17 := Z46.out; have y18 := Z49.out; have y19 := ZSh.out; have y20 := Z52.out; first | omega | (simp at *; omega)))
  clear Kg
  have Kg := NKg
  clear NKg
  have NH := Lib.hid (H.out.below b51)
  clear H
  have H := NH
  clear NH
  have NKh := Lib.hid (Kh.out.below b51 (by have y0 := Z3.out; have y1 := Z6.out; have y2 := Z9.out; have y3 := Z12.out; have y4 := ZSw.out; have y5 := Z15.out; have y6 := Z18.out; have y7 := Z21.out; have y8 := ZSg.out; have y9 := Z24.out; have y10 := Z27.out; have y11 := Z30.out; have y12 := Z32.out; have y13 := Z35.out; have y14 := Z37.out; have y15 := Z40.out; have y16 := Z43.out; have y17 := Z46.out; have y18 := Z49.out; have y19 := ZSh.out; have y20 := Z52.out; first | omega | (simp at *; omega)))
  clear Kh
  have Kh := NKh
  clear NKh
  have NB := Lib.hid (B.out.trans (b51.mono B.out.size))
  clear B
  have B := NB
  clear NB
  clear b51
  have gKw0 : w50.cell? ⟨w7.heap.size, 0, none⟩ = some (.int .i64 nr) := Kw.out.cell 0
  have gKw1 : w50.cell? ⟨w7.heap.size, 1, none⟩ = some (.slice AaW r.length caW) := Kw.out.cell 1
  have gKg0 : w50.cell? ⟨w16.heap.size, 0, none⟩ = some (.int .i64 nr) := Kg.out.cell 0
  have gKg1 : w50.cell? ⟨w16.heap.size, 1, none⟩ = some (.slice AaG r.length caG) := Kg.out.cell 1
  have gKh0 : w50.cell? ⟨w44.heap.size, 0, none⟩ = some (.int .i64 nr) := Kh.out.cell 0
  have gKh1 : w50.cell? ⟨w44.heap.size, 1, none⟩ = some (.slice AaH r.length caH) := Kh.out.cell 1
  go_wp2_with fail
  clear gKw0 gKw1 gKg0 gKg1 gKh0 gKh1
  refine (n_held_field _ _ _ r G.out.mrows (by have y := HR.out; omega)).mono ?_
  rintro e w53 ⟨rfl, b54⟩
  have Z55 := Lib.hid (b54.size)
  have NW := Lib.hid (W.out.below b54)
  clear W
  have W := NW
  clear NW
  have NKw := Lib.hid (Kw.out.below b54 (by have y0 := Z3.out; have y1 := Z6.out; have y2 := Z9.out; have y3 := Z12.out; have y4 := ZSw.out; have y5 := Z15.out; have y6 := Z18.out; have y7 := Z21.out; have y8 := ZSg.out; have y9 := Z24.out; have y10 := Z27.out; have y11 := Z30.out; have y12 := Z32.out; have y13 := Z35.out; have y14 := Z37.out; have y15 := Z40.out; have y16 := Z43.out; have y17 := Z46.out; have y18 := Z49.out; have y19 := ZSh.out; have y20 := Z52.out; have y21 := Z55.out; first | omega | (simp at *; omega)))
  clear Kw
  have Kw := NKw
  clear NKw
  have NG := Lib.hid (G.out.below b54)
  clear G
  have G := NG
  clear NG
  have NKg := Lib.hid (Kg.out.below b54 (by have y0 := Z3.out; have y1 := Z6.out; have y2 := Z9.out; have y3 := Z12.out; have y4 := ZSw.out; have y5 := Z15.out; have y6 := Z18.out; have y7 := Z21.out; have y8 := ZSg.out; have y9 := Z24.out; have y10 := Z27.out; have y11 := Z30.out; have y12 := Z32.out; have y13 := Z35.out; have y14 := Z37.out; have y15 := Z40.out; have y16 := Z43.out; have y17 := Z46.out; have y18 := Z49.out; have y19 := ZSh.out; have y20 := Z52.out; have y21 := Z55.out; first | omega | (simp at *; omega)))
  clear Kg
  have Kg := NKg
  clear NKg
  have NH := Lib.hid (H.out.below b54)
  clear H
  have H := NH
  clear NH
  have NKh := Lib.hid (Kh.out.below b54 (by have y0 := Z3.out; have y1 := Z6.out; have y2 := Z9.out; have y3 := Z12.out; have y4 := ZSw.out; have y5 := Z15.out; have y6 := Z18.out; have y7 := Z21.out; have y8 := ZSg.out; have y9 := Z24.out; have y10 := Z27.out; have y11 := Z30.out; have y12 := Z32.out; have y13 := Z35.out; have y14 := Z37.out; have y15 := Z40.out; have y16 := Z43.out; have y17 := Z46.out; have y18 := Z49.out; have y19 := ZSh.out; have y20 := Z52.out; have y21 := Z55.out; first | omega | (simp at *; omega)))
  clear Kh
  have Kh := NKh
  clear NKh
  have NB := Lib.hid (B.out.trans (b54.mono B.out.size))
  clear B
  have B := NB
  clear NB
  clear b54
  have gKw0 : w53.cell? ⟨w7.heap.size, 0, none⟩ = some (.int .i64 nr) := Kw.out.cell 0
  have gKw1 : w53.cell? ⟨w7.heap.size, 1, none⟩ = some (.slice AaW r.length caW) := Kw.out.cell 1
  have gKg0 : w53.cell? ⟨w16.heap.size, 0, none⟩ = some (.int .i64 nr) := Kg.out.cell 0
  have gKg1 : w53.cell? ⟨w16.heap.size, 1, none⟩ = some (.slice AaG r.length caG) := Kg.out.cell 1
  have gKh0 : w53.cell? ⟨w44.heap.size, 0, none⟩ = some (.int .i64 nr) := Kh.out.cell 0
  have gKh1 : w53.cell? ⟨w44.heap.size, 1, none⟩ = some (.slice AaH r.length caH) := Kh.out.cell 1
  go_wp2_with fail
  clear gKw0 gKw1 gKg0 gKg1 gKh0 gKh1
  go_ret
  exact ⟨rfl, B.out⟩
end Go.Proofs.Ytofabikjjkapmaa

set_option maxRecDepth 100000
set_option linter.unusedVariables false
set_option linter.unusedSimpArgs false
namespace Go.Proofs.Ytofabikjjkapmaa
open Go.RowKit Go.Sort Go.Shelf

theorem msTot_leN {ms : List Mono} {n : Nat} (h : ∀ m ∈ ms, m.2.length ≤ n) : msTot ms ≤ ms.length * (1 + n) := by
  induction ms with
  | nil => simp [msTot]
  | cons m r ih =>
    rw [msTot, List.length_cons, Nat.add_mul]
    have := h m (by simp)
    have := ih fun x hx => h x (by simp [hx])
    omega
theorem fTot_leN {pss : List (List Mono)} {n : Nat} (h : ∀ ms ∈ pss, msTot ms ≤ n) : fTot pss ≤ pss.length * n := by
  induction pss with
  | nil => simp [fTot]
  | cons m r ih =>
    rw [fTot, List.length_cons, Nat.add_mul]
    have := h m (by simp)
    have := ih fun x hx => h x (by simp [hx])
    omega
theorem linMs_tot {row : List Int} (h : row.length ≤ 3) : msTot (linMs row) ≤ 12 := by
  have h1 : (linMs row).length ≤ 3 := by
    unfold linMs linX
    rw [List.length_map]
    refine Nat.le_trans (List.length_filter_le _ _) ?_
    rw [List.length_reverse, List.length_finRange]
    exact h
  have h2 : msTot (linMs row) ≤ (linMs row).length * (1 + 3) := msTot_leN fun m hm => by
    obtain ⟨i, -, rfl⟩ := List.mem_map.1 hm
    simp [monoX, unitV]
    exact h
  omega
theorem lf_small {m : List (List Int)} (h : lfC m = 0) : m.length ≤ 3 ∧ ∀ row ∈ m, row.length ≤ 3 := by
  unfold lfC at h
  split at h
  · cases h
  · rename_i hm
    split at h
    · cases h
    · rename_i hb
      rw [Bool.or_eq_true, decide_eq_true_eq, decide_eq_true_eq, not_or] at hb
      have h3 : m.length ≤ 3 := by omega
      have ho := matOk (by simpa using hm : matB m = true)
      refine ⟨h3, fun row hr => ?_⟩
      have := (ho.row row hr).1
      omega
theorem lf_tot (m : List (List Int)) : fTot (lfR m) ≤ 1048576 := by
  unfold lfR
  split
  · rename_i h
    obtain ⟨h1, h2⟩ := lf_small h
    have h3 : fTot (m.map linMs) ≤ (m.map linMs).length * 12 := fTot_leN fun ms hms => by
      obtain ⟨row, hr, rfl⟩ := List.mem_map.1 hms
      exact linMs_tot (h2 row hr)
    rw [List.length_map] at h3
    omega
  · simp [fTot]
theorem lf_in (m : List (List Int)) : In64 (lfN m : Nat) := by
  unfold lfN In64
  split
  · rename_i h
    have := (lf_small h).1
    omega
  · simp
theorem law_LinearField (w : World) (v : Value) (xss : List (List Int)) (ha : Rows w v xss) :
    Calls Try.prog 3 #[v] w fun e w' => e = .returned (.bool true) ∧ Below w.heap.size w w' :=
  law_FnExactLinearField_gen w v xss ha (lfR xss) (lfC xss) (lfN xss : Nat) (lf_in xss) (fun _ => lf_tot xss)
    (fun _ W v0 h0 => (s_LinearField W v0 xss h0).mono fun e w' h => by obtain ⟨x, he, ho, hb⟩ := h; exact ⟨x, he, ⟨Nat.le_refl _, ho⟩, hb⟩)
    (fun _ W v0 h0 => (i_LinearField W v0 xss h0).mono fun e w' h => by obtain ⟨x, he, ho, hb⟩ := h; exact ⟨x, he, ⟨Nat.le_refl _, ho⟩, hb⟩)
end Go.Proofs.Ytofabikjjkapmaa

set_option maxRecDepth 100000
set_option linter.unusedVariables false
set_option linter.unusedSimpArgs false
namespace Go.Proofs.Ytofabikjjkapmaa
open Go.ChangeShapes Go.WideShapes Go.ChangeAt Go.RowKit Go.Deep Go.Joins

theorem rows_of_trod {H : Type} {enc : TypeId × Value → H} {W : World} {fuel : Nat} {v : Value} {x : DataW H × List MemPlace}
    (hf : DataW.trod enc Try.prog W 0 (fun _ => true) true fuel 22 [v] = some x) : ∃ xss, Rows W v xss := by
  rcases open_int_rows Try.underlying22 Try.underlying34 Try.underlying2 (by kernel_rfl) (by kernel_rfl) hf with ⟨hcs, _⟩ | ⟨a, len, cap, A, L, C, Z, hcs, _, hl, hm, _, hr⟩
  · simp at hcs
    subst hcs
    exact ⟨[], [], ⟨none, 0, rfl, by simp, by simp [maxLen], fun k u hk => by simp at hk⟩, rfl, fun k u x hu => by simp at hu⟩
  · simp at hcs
    subst hcs
    refine ⟨(List.range len).map fun r => (Z r).take (L r), (List.range len).map fun r => .slice (A r) (L r) (C r), ⟨some a, cap, by simp, by simpa using hl, hm, fun k u hk => ⟨a, rfl, ?_⟩⟩, by simp, fun k u zs hu hz => ?_⟩
    · have hk' : k < len := by simpa using (List.getElem?_eq_some_iff.1 hk).1
      simp [hk'] at hk
      subst hk
      exact (hr k (by omega)).1
    · have hk' : k < len := by simpa using (List.getElem?_eq_some_iff.1 hu).1
      simp [hk'] at hu hz
      subst hu; subst hz
      obtain ⟨_, h1, h2, h3, h4, h5, h6⟩ := hr k (by omega)
      have hlen : (ints ((Z k).take (L k))).length = L k := by simp [ints]; omega
      refine ⟨⟨A k, C k, by rw [hlen], by rw [hlen]; exact h1, h2, fun j u hj => ?_⟩, fun z hz => in64_of_wf (h4 z (List.mem_of_mem_take hz))⟩
      have hj2 : j < (ints ((Z k).take (L k))).length := (List.getElem?_eq_some_iff.1 hj).1
      rw [hlen] at hj2
      cases hA : A k with
      | none => have := h5 hA; omega
      | some a' =>
        refine ⟨a', rfl, ?_⟩
        rw [(h6 a' hA).2 j (by omega)]
        have e : (ints ((Z k).take (L k)))[j]? = some (.int .i64 ((Z k).getD j 0)) := by
          simp [ints, List.getElem?_take, hj2, List.getD, show j < (Z k).length by omega]
        rw [e] at hj
        exact hj

end Go.Proofs.Ytofabikjjkapmaa

set_option maxRecDepth 100000
set_option linter.unusedVariables false
set_option linter.unusedSimpArgs false
namespace Go.Proofs.Ytofabikjjkapmaa
open Go.ChangeShapes Go.WideShapes Go.ChangeAt Go.RowKit Go.Deep Go.Joins

theorem open_rows {H : Type} {enc : TypeId × Value → H} {W : World} {base : Nat} {v : Value} {d : DataW H} {p : List MemPlace}
    (hv : Value.okWide Try.prog W .any base 22 v) (h : DataW.Trod enc Try.prog W 0 (fun _ => true) true 22 v d p) : ∃ xss, Rows W v xss := by
  obtain ⟨a, len, cap, rfl⟩ := okWide_slice Try.underlying22 hv
  obtain ⟨fuel, hf⟩ := h
  exact rows_of_trod (v := .slice a len cap) (by simpa [Value.cells] using hf)
end Go.Proofs.Ytofabikjjkapmaa

