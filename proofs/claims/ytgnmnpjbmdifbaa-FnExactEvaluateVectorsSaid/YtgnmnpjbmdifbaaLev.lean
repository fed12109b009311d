/- The law FnExactEvaluateVectors, walked: it returns true. -/
import Derived.Test.YtgnmnpjbmdifbaaNrm
import Derived.Test.YtgnmnpjbmdifbaaMkf
import Derived.Test.YtgnmnpjbmdifbaaLif
import Derived.WalkLawsBesides
import Derived.Deep.RegionHeld3
set_option linter.unusedVariables false
set_option linter.unusedSimpArgs false
namespace Go.Proofs.Ytgnmnpjbmdifbaa
open Go.RowKit

set_option maxRecDepth 100000 in
set_option maxHeartbeats 8000000 in
theorem law_FnExactEvaluateVectors_gen (w : World) (v0 : Value) (n0 : Int) (pss0 : List (List Mono)) (ha0 : FieldArg w v0 n0 pss0) (v1 : Value) (xss1 : List (List Int)) (ha1 : Rows w v1 xss1) (n2 : Int) (ha2 : In64 n2) (r : List Int) (c : Int) (hR : (∀ ms ∈ pss0, ∀ m ∈ ms, m.2.length ≤ 4294967296) → Short xss1 → r.length ≤ 1048576)
    (hS : (∀ ms ∈ pss0, ∀ m ∈ ms, m.2.length ≤ 4294967296) → Short xss1 → ∀ (W : World) (v0 v1 : Value), FieldArg W v0 n0 pss0 → Rows W v1 xss1 → Calls Try.prog 31 #[v0, v1, .int .i64 n2] W fun e w' => ∃ u, e = .returned (.tuple #[u, .int .i64 c]) ∧ OI w' W.heap.size w'.heap.size tI u r ∧ Below W.heap.size W w')
    (hI : (∀ ms ∈ pss0, ∀ m ∈ ms, m.2.length ≤ 4294967296) → Short xss1 → ∀ (W : World) (v0 v1 : Value), FieldArg W v0 n0 pss0 → Rows W v1 xss1 → Calls Try.prog 32 #[v0, v1, .int .i64 n2] W fun e w' => ∃ u, e = .returned (.tuple #[u, .int .i64 c]) ∧ OI w' W.heap.size w'.heap.size tI u r ∧ Below W.heap.size W w') :
    Calls Try.prog 6 #[v0, v1, .int .i64 n2] w fun e w' => e = .returned (.bool true) ∧ Below w.heap.size w w' := by
  have B := Lib.hid (Below.refl w.heap.size w)
  have HS := Lib.hid hS
  have HI := Lib.hid hI
  clear hS hI
  have HR := Lib.hid hR
  clear hR
  have HA0 := Lib.hid ha0
  obtain ⟨u0, rfl, hn0, hu0⟩ := ha0
  obtain ⟨A0, c0, rfl, -, -, -⟩ := hu0.open_
  have HN0 := Lib.hid hn0
  clear hn0 hu0
  have HA1 := Lib.hid ha1
  obtain ⟨A1, c1, rfl, -, -, -⟩ := ha1.open_
  clear ha1
  go_enter Try.func6, Try.ntmps6
  go_wp2_with fail
  obtain ⟨w1, hw1⟩ : ∃ x, x = w.alloc (.cells #[.int .i64 n0, .slice A0 pss0.length c0] 35) := ⟨_, rfl⟩
  rw [← hw1]
  have b2 : Below w.heap.size w w1 := by rw [hw1]; exact below1 _ _
  have Ka0 := Lib.hid (show Blk w1 w.heap.size 35 #[.int .i64 n0, .slice A0 pss0.length c0] by rw [hw1]; exact Blk.new _ _ _)
  have ZSa0 := Lib.hid (show w.heap.size + 1 ≤ w1.heap.size by rw [hw1]; exact Nat.le_of_eq (Array.size_push _).symm)
  have Z3 := Lib.hid (b2.size)
  have NB := Lib.hid (B.out.trans (b2.mono B.out.size))
  clear B
  have B := NB
  clear NB
  clear b2 hw1
  refine (l_szField _ _ n0 pss0 _ (HA0.out.below B.out) (by omega) (by omega)).mono ?_
  rintro e w4 ⟨rfl, b5⟩
  have Z6 := Lib.hid (b5.size)
  have NKa0 := Lib.hid (Ka0.out.below b5 (by have y0 := Z3.out; have y1 := ZSa0.out; have y2 := Z6.out; first | omega | (simp at *; omega)))
  clear Ka0
  have Ka0 := NKa0
  clear NKa0
  have NB := Lib.hid (B.out.trans (b5.mono B.out.size))
  clear B
  have B := NB
  clear NB
  clear b5
  by_cases hs0 : szFld 1048576 pss0 < 0
  · skip
    have gKa00 : w4.cell? ⟨w.heap.size, 0, none⟩ = some (.int .i64 n0) := Ka0.out.cell 0
    have gKa01 : w4.cell? ⟨w.heap.size, 1, none⟩ = some (.slice A0 pss0.length c0) := Ka0.out.cell 1
    go_wp2_with fail
    clear gKa00 gKa01
    go_ret
    exact ⟨rfl, B.out⟩
  have hsh0 := szFld_short (by omega : 0 ≤ szFld 1048576 pss0) (by omega)
  have F1_0 := Lib.hid hsh0.1
  have F2_0 := Lib.hid hsh0.2.1
  have F3_0 := Lib.hid hsh0.2.2
  have ht0 := szFld_tot (by omega : 0 ≤ szFld 1048576 pss0)
  have htt0 : fTot pss0 ≤ 1048576 := by omega
  have hle0 : szFld 1048576 pss0 ≤ 1048576 := by omega
  obtain ⟨left0, hleft0⟩ : ∃ x, x = szFld 1048576 pss0 := ⟨_, rfl⟩
  rw [← hleft0] at hs0 hle0 ⊢
  clear ht0 hsh0 hleft0
  have hs0 : 0 ≤ left0 := by omega
  have gKa00 : w4.cell? ⟨w.heap.size, 0, none⟩ = some (.int .i64 n0) := Ka0.out.cell 0
  have gKa01 : w4.cell? ⟨w.heap.size, 1, none⟩ = some (.slice A0 pss0.length c0) := Ka0.out.cell 1
  go_wp2_with fail
  clear gKa00 gKa01
  refine (l_szInt64SS _ _ xss1 _ (HA1.out.below B.out) hs0 (by omega)).mono ?_
  rintro e w7 ⟨rfl, ew7⟩
  have b8 : Below w4.heap.size w4 w7 := by rw [← ew7]; exact Below.refl _ _
  clear ew7
  have Z9 := Lib.hid (b8.size)
  have NKa0 := Lib.hid (Ka0.out.below b8 (by have y0 := Z3.out; have y1 := ZSa0.out; have y2 := Z6.out; have y3 := Z9.out; first | omega | (simp at *; omega)))
  clear Ka0
  have Ka0 := NKa0
  clear NKa0
  have NB := Lib.hid (B.out.trans (b8.mono B.out.size))
  clear B
  have B := NB
  clear NB
  clear b8
  by_cases hs1 : szRows left0 xss1 < 0
  · skip
    have gKa00 : w7.cell? ⟨w.heap.size, 0, none⟩ = some (.int .i64 n0) := Ka0.out.cell 0
    have gKa01 : w7.cell? ⟨w.heap.size, 1, none⟩ = some (.slice A0 pss0.length c0) := Ka0.out.cell 1
    go_wp2_with fail
    clear gKa00 gKa01
    go_ret
    exact ⟨rfl, B.out⟩
  have hsh1 := szRows_short (by omega : 0 ≤ szRows left0 xss1) (by omega)
  have F1_1 := Lib.hid hsh1.1
  have ht1 := szRows_tot (by omega : 0 ≤ szRows left0 xss1)
  have htt1 : tot xss1 ≤ 1048576 := by omega
  have hle1 : szRows left0 xss1 ≤ 1048576 := by omega
  obtain ⟨left1, hleft1⟩ : ∃ x, x = szRows left0 xss1 := ⟨_, rfl⟩
  rw [← hleft1] at hs1 hle1 ⊢
  clear ht1 hsh1 hleft1
  clear hs0 hle0
  have hs1 : 0 ≤ left1 := by omega
  have gKa00 : w7.cell? ⟨w.heap.size, 0, none⟩ = some (.int .i64 n0) := Ka0.out.cell 0
  have gKa01 : w7.cell? ⟨w.heap.size, 1, none⟩ = some (.slice A0 pss0.length c0) := Ka0.out.cell 1
  go_wp2_with fail
  clear gKa00 gKa01
  have HS := Lib.hid (HS.out F3_0.out F1_1.out)
  have HI := Lib.hid (HI.out F3_0.out F1_1.out)
  have HR := Lib.hid (HR.out F3_0.out F1_1.out)
  refine (l_toField _ _ n0 pss0 (HA0.out.below B.out) F1_0.out F2_0.out F3_0.out).mono ?_
  rintro e w10 ⟨xT0, rfl, -, hT0, b11⟩
  have Z12 := Lib.hid (b11.size)
  have NKa0 := Lib.hid (Ka0.out.below b11 (by have y0 := Z3.out; have y1 := ZSa0.out; have y2 := Z6.out; have y3 := Z9.out; have y4 := Z12.out; first | omega | (simp at *; omega)))
  clear Ka0
  have Ka0 := NKa0
  clear NKa0
  have NB := Lib.hid (B.out.trans (b11.mono B.out.size))
  clear B
  have B := NB
  clear NB
  clear b11
  obtain ⟨AaT0, caT0, rfl⟩ := hT0.open_
  have T0 := Lib.hid hT0
  clear hT0
  have gKa00 : w10.cell? ⟨w.heap.size, 0, none⟩ = some (.int .i64 n0) := Ka0.out.cell 0
  have gKa01 : w10.cell? ⟨w.heap.size, 1, none⟩ = some (.slice A0 pss0.length c0) := Ka0.out.cell 1
  go_wp2_with fail
  clear gKa00 gKa01
  refine (n_to_rows _ _ xss1 (HA1.out.below B.out) F1_1.out).mono ?_
  rintro e w13 ⟨xT1, rfl, hT1, b14⟩
  have Z15 := Lib.hid (b14.size)
  have NKa0 := Lib.hid (Ka0.out.below b14 (by have y0 := Z3.out; have y1 := ZSa0.out; have y2 := Z6.out; have y3 := Z9.out; have y4 := Z12.out; have y5 := Z15.out; first | omega | (simp at *; omega)))
  clear Ka0
  have Ka0 := NKa0
  clear NKa0
  have NT0 := Lib.hid (T0.out.below b14)
  clear T0
  have T0 := NT0
  clear NT0
  have NB := Lib.hid (B.out.trans (b14.mono B.out.size))
  clear B
  have B := NB
  clear NB
  clear b14
  have T1 := Lib.hid hT1
  clear hT1
  have gKa00 : w13.cell? ⟨w.heap.size, 0, none⟩ = some (.int .i64 n0) := Ka0.out.cell 0
  have gKa01 : w13.cell? ⟨w.heap.size, 1, none⟩ = some (.slice A0 pss0.length c0) := Ka0.out.cell 1
  go_wp2_with fail
  clear gKa00 gKa01
  refine (HS.out _ _ _ (T0.out.arg HN0.out) T1.out.rows).mono ?_
  rintro e w16 ⟨xW, rfl, hW, b17⟩
  have Z18 := Lib.hid (b17.size)
  have NKa0 := Lib.hid (Ka0.out.below b17 (by have y0 := Z3.out; have y1 := ZSa0.out; have y2 := Z6.out; have y3 := Z9.out; have y4 := Z12.out; have y5 := Z15.out; have y6 := Z18.out; first | omega | (simp at *; omega)))
  clear Ka0
  have Ka0 := NKa0
  clear NKa0
  have NT0 := Lib.hid (T0.out.below b17)
  clear T0
  have T0 := NT0
  clear NT0
  have NT1 := Lib.hid (T1.out.below b17)
  clear T1
  have T1 := NT1
  clear NT1
  have NB := Lib.hid (B.out.trans (b17.mono B.out.size))
  clear B
  have B := NB
  clear NB
  clear b17
  have W := Lib.hid hW
  clear hW
  clear T0
  clear T1
  have gKa00 : w16.cell? ⟨w.heap.size, 0, none⟩ = some (.int .i64 n0) := Ka0.out.cell 0
  have gKa01 : w16.cell? ⟨w.heap.size, 1, none⟩ = some (.slice A0 pss0.length c0) := Ka0.out.cell 1
  go_wp2_with fail
  clear gKa00 gKa01
  refine (l_toField _ _ n0 pss0 (HA0.out.below B.out) F1_0.out F2_0.out F3_0.out).mono ?_
  rintro e w19 ⟨xX0, rfl, -, hX0, b20⟩
  have Z21 := Lib.hid (b20.size)
  have NKa0 := Lib.hid (Ka0.out.below b20 (by have y0 := Z3.out; have y1 := ZSa0.out; have y2 := Z6.out; have y3 := Z9.out; have y4 := Z12.out; have y5 := Z15.out; have y6 := Z18.out; have y7 := Z21.out; first | omega | (simp at *; omega)))
  clear Ka0
  have Ka0 := NKa0
  clear NKa0
  have NW := Lib.hid (W.out.below b20)
  clear W
  have W := NW
  clear NW
  have NB := Lib.hid (B.out.trans (b20.mono B.out.size))
  clear B
  have B := NB
  clear NB
  clear b20
  obtain ⟨AaX0, caX0, rfl⟩ := hX0.open_
  have X0 := Lib.hid hX0
  clear hX0
  have gKa00 : w19.cell? ⟨w.heap.size, 0, none⟩ = some (.int .i64 n0) := Ka0.out.cell 0
  have gKa01 : w19.cell? ⟨w.heap.size, 1, none⟩ = some (.slice A0 pss0.length c0) := Ka0.out.cell 1
  go_wp2_with fail
  clear gKa00 gKa01
  obtain ⟨w22, hw22⟩ : ∃ x, x = w19.alloc (.cells #[.int .i64 n0, .slice AaX0 pss0.length caX0] 40) := ⟨_, rfl⟩
  rw [← hw22]
  have b23 : Below w19.heap.size w19 w22 := by rw [hw22]; exact below1 _ _
  have Kx0 := Lib.hid (show Blk w22 w19.heap.size 40 #[.int .i64 n0, .slice AaX0 pss0.length caX0] by rw [hw22]; exact Blk.new _ _ _)
  have ZSx0 := Lib.hid (show w19.heap.size + 1 ≤ w22.heap.size by rw [hw22]; exact Nat.le_of_eq (Array.size_push _).symm)
  have Z24 := Lib.hid (b23.size)
  have NKa0 := Lib.hid (Ka0.out.below b23 (by have y0 := Z3.out; have y1 := ZSa0.out; have y2 := Z6.out; have y3 := Z9.out; have y4 := Z12.out; have y5 := Z15.out; have y6 := Z18.out; have y7 := Z21.out; have y8 := Z24.out; first | omega | (simp at *; omega)))
  clear Ka0
  have Ka0 := NKa0
  clear NKa0
  have NW := Lib.hid (W.out.below b23)
  clear W
  have W := NW
  clear NW
  have NX0 := Lib.hid (X0.out.below b23)
  clear X0
  have X0 := NX0
  clear NX0
  have NB := Lib.hid (B.out.trans (b23.mono B.out.size))
  clear B
  have B := NB
  clear NB
  clear b23 hw22
  refine (n_to_rows _ _ xss1 (HA1.out.below B.out) F1_1.out).mono ?_
  rintro e w25 ⟨xX1, rfl, hX1, b26⟩
  have Z27 := Lib.hid (b26.size)
  have NKa0 := Lib.hid (Ka0.out.below b26 (by have y0 := Z3.out; have y1 := ZSa0.out; have y2 := Z6.out; have y3 := Z9.out; have y4 := Z12.out; have y5 := Z15.out; have y6 := Z18.out; have y7 := Z21.out; have y8 := Z24.out; have y9 := ZSx0.out; have y10 := Z27.out; first | omega | (simp at *; omega)))
  clear Ka0
  have Ka0 := NKa0
  clear NKa0
  have NW := Lib.hid (W.out.below b26)
  clear W
  have W := NW
  clear NW
  have NX0 := Lib.hid (X0.out.below b26)
  clear X0
  have X0 := NX0
  clear NX0
  have NKx0 := Lib.hid (Kx0.out.below b26 (by have y0 := Z3.out; have y1 := ZSa0.out; have y2 := Z6.out; have y3 := Z9.out; have y4 := Z12.out; have y5 := Z15.out; have y6 := Z18.out; have y7 := Z21.out; have y8 := Z24.out; have y9 := ZSx0.out; have y10 := Z27.out; first | omega | (simp at *; omega)))
  clear Kx0
  have Kx0 := NKx0
  clear NKx0
  have NB := Lib.hid (B.out.trans (b26.mono B.out.size))
  clear B
  have B := NB
  clear NB
  clear b26
  have X1 := Lib.hid hX1
  clear hX1
  have gKa00 : w25.cell? ⟨w.heap.size, 0, none⟩ = some (.int .i64 n0) := Ka0.out.cell 0
  have gKa01 : w25.cell? ⟨w.heap.size, 1, none⟩ = some (.slice A0 pss0.length c0) := Ka0.out.cell 1
  have gKx00 : w25.cell? ⟨w19.heap.size, 0, none⟩ = some (.int .i64 n0) := Kx0.out.cell 0
  have gKx01 : w25.cell? ⟨w19.heap.size, 1, none⟩ = some (.slice AaX0 pss0.length caX0) := Kx0.out.cell 1
  go_wp2_with fail
  clear gKa00 gKa01 gKx00 gKx01
  refine (HI.out _ _ _ (X0.out.arg HN0.out) X1.out.rows).mono ?_
  rintro e w28 ⟨xG, rfl, hG, b29⟩
  have Z30 := Lib.hid (b29.size)
  have NKa0 := Lib.hid (Ka0.out.below b29 (by have y0 := Z3.out; have y1 := ZSa0.out; have y2 := Z6.out; have y3 := Z9.out; have y4 := Z12.out; have y5 := Z15.out; have y6 := Z18.out; have y7 := Z21.out; have y8 := Z24.out; have y9 := ZSx0.out; have y10 := Z27.out; have y11 := Z30.out; first | omega | (simp at *; omega)))
  clear Ka0
  have Ka0 := NKa0
  clear NKa0
  have NW := Lib.hid (W.out.below b29)
  clear W
  have W := NW
  clear NW
  have NX0 := Lib.hid (X0.out.below b29)
  clear X0
  have X0 := NX0
  clear NX0
  have NKx0 := Lib.hid (Kx0.out.below b29 (by have y0 := Z3.out; have y1 := ZSa0.out; have y2 := Z6.out; have y3 := Z9.out; have y4 := Z12.out; have y5 := Z15.out; have y6 := Z18.out; have y7 := Z21.out; have y8 := Z24.out; have y9 := ZSx0.out; have y10 := Z27.out; have y11 := Z30.out; first | omega | (simp at *; omega)))
  clear Kx0
  have Kx0 := NKx0
  clear NKx0
  have NX1 := Lib.hid (X1.out.below b29)
  clear X1
  have X1 := NX1
  clear NX1
  have NB := Lib.hid (B.out.trans (b29.mono B.out.size))
  clear B
  have B := NB
  clear NB
  clear b29
  have G := Lib.hid hG
  clear hG
  have gKa00 : w28.cell? ⟨w.heap.size, 0, none⟩ = some (.int .i64 n0) := Ka0.out.cell 0
  have gKa01 : w28.cell? ⟨w.heap.size, 1, none⟩ = some (.slice A0 pss0.length c0) := Ka0.out.cell 1
  have gKx00 : w28.cell? ⟨w19.heap.size, 0, none⟩ = some (.int .i64 n0) := Kx0.out.cell 0
  have gKx01 : w28.cell? ⟨w19.heap.size, 1, none⟩ = some (.slice AaX0 pss0.length caX0) := Kx0.out.cell 1
  go_wp2_with fail
  clear gKa00 gKa01 gKx00 gKx01
  refine (n_eq_ints _ _ _ r G.out.ints W.out.ints).mono ?_
  rintro e w31 ⟨rfl, b32⟩
  have Z33 := Lib.hid (b32.size)
  have NKa0 := Lib.hid (Ka0.out.below b32 (by have y0 := Z3.out; have y1 := ZSa0.out; have y2 := Z6.out; have y3 := Z9.out; have y4 := Z12.out; have y5 := Z15.out; have y6 := Z18.out; have y7 := Z21.out; have y8 := Z24.out; have y9 := ZSx0.out; have y10 := Z27.out; have y11 := Z30.out; have y12 := Z33.out; first | omega | (simp at *; omega)))
  clear Ka0
  have Ka0 := NKa0
  clear NKa0
  have NW := Lib.hid (W.out.below b32)
  clear W
  have W := NW
  clear NW
  have NX0 := Lib.hid (X0.out.below b32)
  clear X0
  have X0 := NX0
  clear NX0
  have NKx0 := Lib.hid (Kx0.out.below b32 (by have y0 := Z3.out; have y1 := ZSa0.out; have y2 := Z6.out; have y3 := Z9.out; have y4 := Z12.out; have y5 := Z15.out; have y6 := Z18.out; have y7 := Z21.out; have y8 := Z24.out; have y9 := ZSx0.out; have y10 := Z27.out; have y11 := Z30.out; have y12 := Z33.out; first | omega | (simp at *; omega)))
  clear Kx0
  have Kx0 := NKx0
  clear NKx0
  have NX1 := Lib.hid (X1.out.below b32)
  clear X1
  have X1 := NX1
  clear NX1
  have NG := Lib.hid (G.out.below b32)
  clear G
  have G := NG
  clear NG
  have NB := Lib.hid (B.out.trans (b32.mono B.out.size))
  clear B
  have B := NB
  clear NB
  clear b32
  have gKa00 : w31.cell? ⟨w.heap.size, 0, none⟩ = some (.int .i64 n0) := Ka0.out.cell 0
  have gKa01 : w31.cell? ⟨w.heap.size, 1, none⟩ = some (.slice A0 pss0.length c0) := Ka0.out.cell 1
  have gKx00 : w31.cell? ⟨w19.heap.size, 0, none⟩ = some (.int .i64 n0) := Kx0.out.cell 0
  have gKx01 : w31.cell? ⟨w19.heap.size, 1, none⟩ = some (.slice AaX0 pss0.length caX0) := Kx0.out.cell 1
  go_wp2_with fail
  clear gKa00 gKa01 gKx00 gKx01
  have gKa00 : w31.cell? ⟨w.heap.size, 0, none⟩ = some (.int .i64 n0) := Ka0.out.cell 0
  have gKa01 : w31.cell? ⟨w.heap.size, 1, none⟩ = some (.slice A0 pss0.length c0) := Ka0.out.cell 1
  have gKx00 : w31.cell? ⟨w19.heap.size, 0, none⟩ = some (.int .i64 n0) := Kx0.out.cell 0
  have gKx01 : w31.cell? ⟨w19.heap.size, 1, none⟩ = some (.slice AaX0 pss0.length caX0) := Kx0.out.cell 1
  go_region_held3 (fun w' => w'.cell? ⟨w.heap.size, 0, none⟩ = some (.int .i64 n0) ∧ w'.cell? ⟨w.heap.size, 1, none⟩ = some (.slice A0 pss0.length c0) ∧ w'.cell? ⟨w19.heap.size, 0, none⟩ = some (.int .i64 n0) ∧ w'.cell? ⟨w19.heap.size, 1, none⟩ = some (.slice AaX0 pss0.length caX0)) ((go_split_ands; refine ⟨?_, ?_, ?_, ?_⟩ <;> (first | (rw [hb7.cell (by have l0 := Ka0.out.lt; have l1 := Kx0.out.lt; have h3 := hb6.size; simp at h3 ⊢; omega)]; assumption) | (rw [hb6.cell (by first | exact Ka0.out.lt | exact Kx0.out.lt)]; assumption) | go_keep)))
    (first | (go_at_call 20; refine (l_toField _ _ n0 pss0 (by exact HA0.out.below B.out.drew) F1_0.out F2_0.out F3_0.out).mono ?_; rintro e wq6 ⟨x1, rfl, hn6, hx1, hb6⟩) | (go_at_call 22; refine (l_eqField _ _ _ n0 n0 pss0 pss0 (by exact (X0.out.arg HN0.out).below (below_of_drew hb6)) (by exact hx1.arg HN0.out)).mono ?_; rintro e wq7 ⟨rfl, hb7⟩))
  clear gKa00 gKa01 gKx00 gKx01
  have hb6 : Below w31.heap.size w31 wq6 := below_of_drew hb6
  have Z34 := Lib.hid (hb6.size)
  have NKa0 := Lib.hid (Ka0.out.below hb6 (by have y0 := Z3.out; have y1 := ZSa0.out; have y2 := Z6.out; have y3 := Z9.out; have y4 := Z12.out; have y5 := Z15.out; have y6 := Z18.out; have y7 := Z21.out; have y8 := Z24.out; have y9 := ZSx0.out; have y10 := Z27.out; have y11 := Z30.out; have y12 := Z33.out; have y13 := Z34.out; first | omega | (simp at *; omega)))
  clear Ka0
  have Ka0 := NKa0
  clear NKa0
  have NW := Lib.hid (W.out.below hb6)
  clear W
  have W := NW
  clear NW
  have NX0 := Lib.hid (X0.out.below hb6)
  clear X0
  have X0 := NX0
  clear NX0
  have NKx0 := Lib.hid (Kx0.out.below hb6 (by have y0 := Z3.out; have y1 := ZSa0.out; have y2 := Z6.out; have y3 := Z9.out; have y4 := Z12.out; have y5 := Z15.out; have y6 := Z18.out; have y7 := Z21.out; have y8 := Z24.out; have y9 := ZSx0.out; have y10 := Z27.out; have y11 := Z30.out; have y12 := Z33.out; have y13 := Z34.out; first | omega | (simp at *; omega)))
  clear Kx0
  have Kx0 := NKx0
  clear NKx0
  have NX1 := Lib.hid (X1.out.below hb6)
  clear X1
  have X1 := NX1
  clear NX1
  have NG := Lib.hid (G.out.below hb6)
  clear G
  have G := NG
  clear NG
  have NB := Lib.hid (B.out.trans (hb6.mono B.out.size))
  clear B
  have B := NB
  clear NB
  have Z35 := Lib.hid (hb7.size)
  have NKa0 := Lib.hid (Ka0.out.below hb7 (by have y0 := Z3.out; have y1 := ZSa0.out; have y2 := Z6.out; have y3 := Z9.out; have y4 := Z12.out; have y5 := Z15.out; have y6 := Z18.out; have y7 := Z21.out; have y8 := Z24.out; have y9 := ZSx0.out; have y10 := Z27.out; have y11 := Z30.out; have y12 := Z33.out; have y13 := Z34.out; have y14 := Z35.out; first | omega | (simp at *; omega)))
  clear Ka0
  have Ka0 := NKa0
  clear NKa0
  have NW := Lib.hid (W.out.below hb7)
  clear W
  have W := NW
  clear NW
  have NX0 := Lib.hid (X0.out.below hb7)
  clear X0
  have X0 := NX0
  clear NX0
  have NKx0 := Lib.hid (Kx0.out.below hb7 (by have y0 := Z3.out; have y1 := ZSa0.out; have y2 := Z6.out; have y3 := Z9.out; have y4 := Z12.out; have y5 := Z15.out; have y6 := Z18.out; have y7 := Z21.out; have y8 := Z24.out; have y9 := ZSx0.out; have y10 := Z27.out; have y11 := Z30.out; have y12 := Z33.out; have y13 := Z34.out; have y14 := Z35.out; first | omega | (simp at *; omega)))
  clear Kx0
  have Kx0 := NKx0
  clear NKx0
  have NX1 := Lib.hid (X1.out.below hb7)
  clear X1
  have X1 := NX1
  clear NX1
  have NG := Lib.hid (G.out.below hb7)
  clear G
  have G := NG
  clear NG
  have NB := Lib.hid (B.out.trans (hb7.mono B.out.size))
  clear B
  have B := NB
  clear NB
  clear hb6 hb7 hx1 hn6
  have gKa00 : wq7.cell? ⟨w.heap.size, 0, none⟩ = some (.int .i64 n0) := Ka0.out.cell 0
  have gKa01 : wq7.cell? ⟨w.heap.size, 1, none⟩ = some (.slice A0 pss0.length c0) := Ka0.out.cell 1
  have gKx00 : wq7.cell? ⟨w19.heap.size, 0, none⟩ = some (.int .i64 n0) := Kx0.out.cell 0
  have gKx01 : wq7.cell? ⟨w19.heap.size, 1, none⟩ = some (.slice AaX0 pss0.length caX0) := Kx0.out.cell 1
  go_wp2_with fail
  clear gKa00 gKa01 gKx00 gKx01
  refine (n_to_rows _ _ xss1 (HA1.out.below B.out) F1_1.out).mono ?_
  rintro e w36 ⟨xY1, rfl, hY1, b37⟩
  have Z38 := Lib.hid (b37.size)
  have NKa0 := Lib.hid (Ka0.out.below b37 (by have y0 := Z3.out; have y1 := ZSa0.out; have y2 := Z6.out; have y3 := Z9.out; have y4 := Z12.out; have y5 := Z15.out; have y6 := Z18.out; have y7 := Z21.out; have y8 := Z24.out; have y9 := ZSx0.out; have y10 := Z27.out; have y11 := Z30.out; have y12 := Z33.out; have y13 := Z34.out; have y14 := Z35.out; have y15 := Z38.out; first | omega | (simp at *; omega)))
  clear Ka0
  have Ka0 := NKa0
  clear NKa0
  have NW := Lib.hid (W.out.below b37)
  clear W
  have W := NW
  clear NW
  have NX0 := Lib.hid (X0.out.below b37)
  clear X0
  have X0 := NX0
  clear NX0
  have NKx0 := Lib.hid (Kx0.out.below b37 (by have y0 := Z3.out; have y1 := ZSa0.out; have y2 := Z6.out; have y3 := Z9.out; have y4 := Z12.out; have y5 := Z15.out; have y6 := Z18.out; have y7 := Z21.out; have y8 := Z24.out; have y9 := ZSx0.out; have y10 := Z27.out; have y11 := Z30.out; have y12 := Z33.out; have y13 := Z34.out; have y14 := Z35.out; have y15 := Z38.out; first | omega | (simp at *; omega)))
  clear Kx0
  have Kx0 := NKx0
  clear NKx0
  have NX1 := Lib.hid (X1.out.below b37)
  clear X1
  have X1 := NX1
  clear NX1
  have NG := Lib.hid (G.out.below b37)
  clear G
  have G := NG
  clear NG
  have NB := Lib.hid (B.out.trans (b37.mono B.out.size))
  clear B
  have B := NB
  clear NB
  clear b37
  have Y1 := Lib.hid hY1
  clear hY1
  have gKa00 : w36.cell? ⟨w.heap.size, 0, none⟩ = some (.int .i64 n0) := Ka0.out.cell 0
  have gKa01 : w36.cell? ⟨w.heap.size, 1, none⟩ = some (.slice A0 pss0.length c0) := Ka0.out.cell 1
  have gKx00 : w36.cell? ⟨w19.heap.size, 0, none⟩ = some (.int .i64 n0) := Kx0.out.cell 0
  have gKx01 : w36.cell? ⟨w19.heap.size, 1, none⟩ = some (.slice AaX0 pss0.length caX0) := Kx0.out.cell 1
  go_wp2_with fail
  clear gKa00 gKa01 gKx00 gKx01
  refine (n_eq_rows _ _ _ xss1 X1.out.rows Y1.out.rows).mono ?_
  rintro e w39 ⟨rfl, b40⟩
  have Z41 := Lib.hid (b40.size)
  have NKa0 := Lib.hid (Ka0.out.below b40 (by have y0 := Z3.out; have y1 := ZSa0.out; have y2 := Z6.out; have y3 := Z9.out; have y4 := Z12.out; have y5 := Z15.out; have y6 := Z18.out; have y7 := Z21.out; have y8 := Z24.out; have y9 := ZSx0.out; have y10 := Z27.out; have y11 := Z30.out; have y12 := Z33.out; have y13 := Z34.out; have y14 := Z35.out; have y15 := Z38.out; have y16 := Z41.out; first | omega | (simp at *; omega)))
  clear Ka0
  have Ka0 := NKa0
  clear NKa0
  have NW := Lib.hid (W.out.below b40)
  clear W
  have W := NW
  clear NW
  have NX0 := Lib.hid (X0.out.below b40)
  clear X0
  have X0 := NX0
  clear NX0
  have NKx0 := Lib.hid (Kx0.out.below b40 (by have y0 := Z3.out; have y1 := ZSa0.out; have y2 := Z6.out; have y3 := Z9.out; have y4 := Z12.out; have y5 := Z15.out; have y6 := Z18.out; have y7 := Z21.out; have y8 := Z24.out; have y9 := ZSx0.out; have y10 := Z27.out; have y11 := Z30.out; have y12 := Z33.out; have y13 := Z34.out; have y14 := Z35.out; have y15 := Z38.out; have y16 := Z41.out; first | omega | (simp at *; omega)))
  clear Kx0
  have Kx0 := NKx0
  clear NKx0
  have NX1 := Lib.hid (X1.out.below b40)
  clear X1
  have X1 := NX1
  clear NX1
  have NG := Lib.hid (G.out.below b40)
  clear G
  have G := NG
  clear NG
  have NY1 := Lib.hid (Y1.out.below b40)
  clear Y1
  have Y1 := NY1
  clear NY1
  have NB := Lib.hid (B.out.trans (b40.mono B.out.size))
  clear B
  have B := NB
  clear NB
  clear b40
  clear Y1
  have gKa00 : w39.cell? ⟨w.heap.size, 0, none⟩ = some (.int .i64 n0) := Ka0.out.cell 0
  have gKa01 : w39.cell? ⟨w.heap.size, 1, none⟩ = some (.slice A0 pss0.length c0) := Ka0.out.cell 1
  have gKx00 : w39.cell? ⟨w19.heap.size, 0, none⟩ = some (.int .i64 n0) := Kx0.out.cell 0
  have gKx01 : w39.cell? ⟨w19.heap.size, 1, none⟩ = some (.slice AaX0 pss0.length caX0) := Kx0.out.cell 1
  go_wp2_with fail
  clear gKa00 gKa01 gKx00 gKx01
  refine (l_markField _ _ _ n0 _ pss0 (1) X0.out (by have y0 := Z3.out; have y1 := ZSa0.out; have y2 := Z6.out; have y3 := Z9.out; have y4 := Z12.out; have y5 := Z15.out; have y6 := Z18.out; have y7 := Z21.out; have y8 := Z24.out; have y9 := ZSx0.out; have y10 := Z27.out; have y11 := Z30.out; have y12 := Z33.out; have y13 := Z34.out; have y14 := Z35.out; have y15 := Z38.out; have y16 := Z41.out; omega) (by omega) (by omega) (by omega)).mono ?_
  rintro e w42 ⟨rfl, chw42⟩
  have Z43 := Lib.hid (chw42.size)
  have NKa0 := Lib.hid (Ka0.out.chg chw42 (by have y0 := Z3.out; have y1 := ZSa0.out; have y2 := Z6.out; have y3 := Z9.out; have y4 := Z12.out; have y5 := Z15.out; have y6 := Z18.out; have y7 := Z21.out; have y8 := Z24.out; have y9 := ZSx0.out; have y10 := Z27.out; have y11 := Z30.out; have y12 := Z33.out; have y13 := Z34.out; have y14 := Z35.out; have y15 := Z38.out; have y16 := Z41.out; have y17 := Z43.out; omega))
  clear Ka0
  have Ka0 := NKa0
  clear NKa0
  have NW := Lib.hid (W.out.kept chw42 (by have y0 := Z3.out; have y1 := ZSa0.out; have y2 := Z6.out; have y3 := Z9.out; have y4 := Z12.out; have y5 := Z15.out; have y6 := Z18.out; have y7 := Z21.out; have y8 := Z24.out; have y9 := ZSx0.out; have y10 := Z27.out; have y11 := Z30.out; have y12 := Z33.out; have y13 := Z34.out; have y14 := Z35.out; have y15 := Z38.out; have y16 := Z41.out; have y17 := Z43.out; omega))
  clear W
  have W := NW
  clear NW
  have NKx0 := Lib.hid (Kx0.out.chg chw42 (by have y0 := Z3.out; have y1 := ZSa0.out; have y2 := Z6.out; have y3 := Z9.out; have y4 := Z12.out; have y5 := Z15.out; have y6 := Z18.out; have y7 := Z21.out; have y8 := Z24.out; have y9 := ZSx0.out; have y10 := Z27.out; have y11 := Z30.out; have y12 := Z33.out; have y13 := Z34.out; have y14 := Z35.out; have y15 := Z38.out; have y16 := Z41.out; have y17 := Z43.out; omega))
  clear Kx0
  have Kx0 := NKx0
  clear NKx0
  have NX1 := Lib.hid (X1.out.kept chw42 (by have y0 := Z3.out; have y1 := ZSa0.out; have y2 := Z6.out; have y3 := Z9.out; have y4 := Z12.out; have y5 := Z15.out; have y6 := Z18.out; have y7 := Z21.out; have y8 := Z24.out; have y9 := ZSx0.out; have y10 := Z27.out; have y11 := Z30.out; have y12 := Z33.out; have y13 := Z34.out; have y14 := Z35.out; have y15 := Z38.out; have y16 := Z41.out; have y17 := Z43.out; omega))
  clear X1
  have X1 := NX1
  clear NX1
  have NG := Lib.hid (G.out.kept chw42 (by have y0 := Z3.out; have y1 := ZSa0.out; have y2 := Z6.out; have y3 := Z9.out; have y4 := Z12.out; have y5 := Z15.out; have y6 := Z18.out; have y7 := Z21.out; have y8 := Z24.out; have y9 := ZSx0.out; have y10 := Z27.out; have y11 := Z30.out; have y12 := Z33.out; have y13 := Z34.out; have y14 := Z35.out; have y15 := Z38.out; have y16 := Z41.out; have y17 := Z43.out; omega))
  clear G
  have G := NG
  clear NG
  clear X0
  have NB := Lib.hid (chw42.below B.out (by have y0 := Z3.out; have y1 := ZSa0.out; have y2 := Z6.out; have y3 := Z9.out; have y4 := Z12.out; have y5 := Z15.out; have y6 := Z18.out; have y7 := Z21.out; have y8 := Z24.out; have y9 := ZSx0.out; have y10 := Z27.out; have y11 := Z30.out; have y12 := Z33.out; have y13 := Z34.out; have y14 := Z35.out; have y15 := Z38.out; have y16 := Z41.out; have y17 := Z43.out; omega) B.out.size)
  clear B
  have B := NB
  clear NB
  clear chw42
  have gKa00 : w42.cell? ⟨w.heap.size, 0, none⟩ = some (.int .i64 n0) := Ka0.out.cell 0
  have gKa01 : w42.cell? ⟨w.heap.size, 1, none⟩ = some (.slice A0 pss0.length c0) := Ka0.out.cell 1
  have gKx00 : w42.cell? ⟨w19.heap.size, 0, none⟩ = some (.int .i64 n0) := Kx0.out.cell 0
  have gKx01 : w42.cell? ⟨w19.heap.size, 1, none⟩ = some (.slice AaX0 pss0.length caX0) := Kx0.out.cell 1
  go_wp2_with fail
  clear gKa00 gKa01 gKx00 gKx01
  refine (n_mark_rows _ _ _ _ xss1 (1 + (fTot pss0 : Nat)) X1.out (by omega) (by omega) (by omega)).mono ?_
  rintro e w44 ⟨rfl, -, chw44⟩
  have Z45 := Lib.hid (chw44.size)
  have NKa0 := Lib.hid (Ka0.out.chg chw44 (by have y0 := Z3.out; have y1 := ZSa0.out; have y2 := Z6.out; have y3 := Z9.out; have y4 := Z12.out; have y5 := Z15.out; have y6 := Z18.out; have y7 := Z21.out; have y8 := Z24.out; have y9 := ZSx0.out; have y10 := Z27.out; have y11 := Z30.out; have y12 := Z33.out; have y13 := Z34.out; have y14 := Z35.out; have y15 := Z38.out; have y16 := Z41.out; have y17 := Z43.out; have y18 := Z45.out; omega))
  clear Ka0
  have Ka0 := NKa0
  clear NKa0
  have NW := Lib.hid (W.out.kept chw44 (by have y0 := Z3.out; have y1 := ZSa0.out; have y2 := Z6.out; have y3 := Z9.out; have y4 := Z12.out; have y5 := Z15.out; have y6 := Z18.out; have y7 := Z21.out; have y8 := Z24.out; have y9 := ZSx0.out; have y10 := Z27.out; have y11 := Z30.out; have y12 := Z33.out; have y13 := Z34.out; have y14 := Z35.out; have y15 := Z38.out; have y16 := Z41.out; have y17 := Z43.out; have y18 := Z45.out; omega))
  clear W
  have W := NW
  clear NW
  have NKx0 := Lib.hid (Kx0.out.chg chw44 (by have y0 := Z3.out; have y1 := ZSa0.out; have y2 := Z6.out; have y3 := Z9.out; have y4 := Z12.out; have y5 := Z15.out; have y6 := Z18.out; have y7 := Z21.out; have y8 := Z24.out; have y9 := ZSx0.out; have y10 := Z27.out; have y11 := Z30.out; have y12 := Z33.out; have y13 := Z34.out; have y14 := Z35.out; have y15 := Z38.out; have y16 := Z41.out; have y17 := Z43.out; have y18 := Z45.out; omega))
  clear Kx0
  have Kx0 := NKx0
  clear NKx0
  have NG := Lib.hid (G.out.kept chw44 (by have y0 := Z3.out; have y1 := ZSa0.out; have y2 := Z6.out; have y3 := Z9.out; have y4 := Z12.out; have y5 := Z15.out; have y6 := Z18.out; have y7 := Z21.out; have y8 := Z24.out; have y9 := ZSx0.out; have y10 := Z27.out; have y11 := Z30.out; have y12 := Z33.out; have y13 := Z34.out; have y14 := Z35.out; have y15 := Z38.out; have y16 := Z41.out; have y17 := Z43.out; have y18 := Z45.out; omega))
  clear G
  have G := NG
  clear NG
  clear X1
  have NB := Lib.hid (chw44.below B.out (by have y0 := Z3.out; have y1 := ZSa0.out; have y2 := Z6.out; have y3 := Z9.out; have y4 := Z12.out; have y5 := Z15.out; have y6 := Z18.out; have y7 := Z21.out; have y8 := Z24.out; have y9 := ZSx0.out; have y10 := Z27.out; have y11 := Z30.out; have y12 := Z33.out; have y13 := Z34.out; have y14 := Z35.out; have y15 := Z38.out; have y16 := Z41.out; have y17 := Z43.out; have y18 := Z45.out; omega) B.out.size)
  clear B
  have B := NB
  clear NB
  clear chw44
  have hk0 : (0 : Int) ≤ 1 + (fTot pss0 : Nat) + (tot xss1 : Nat) := by omega
  have gKa00 : w44.cell? ⟨w.heap.size, 0, none⟩ = some (.int .i64 n0) := Ka0.out.cell 0
  have gKa01 : w44.cell? ⟨w.heap.size, 1, none⟩ = some (.slice A0 pss0.length c0) := Ka0.out.cell 1
  have gKx00 : w44.cell? ⟨w19.heap.size, 0, none⟩ = some (.int .i64 n0) := Kx0.out.cell 0
  have gKx01 : w44.cell? ⟨w19.heap.size, 1, none⟩ = some (.slice AaX0 pss0.length caX0) := Kx0.out.cell 1
  go_wp2_with fail
  clear gKa00 gKa01 gKx00 gKx01
  clear hk0
  refine (n_eq_ints _ _ _ r G.out.ints W.out.ints).mono ?_
  rintro e w46 ⟨rfl, b47⟩
  have Z48 := Lib.hid (b47.size)
  have NKa0 := Lib.hid (Ka0.out.below b47 (by have y0 := Z3.out; have y1 := ZSa0.out; have y2 := Z6.out; have y3 := Z9.out; have y4 := Z12.out; have y5 := Z15.out; have y6 := Z18.out; have y7 := Z21.out; have y8 := Z24.out; have y9 := ZSx0.out; have y10 := Z27.out; have y11 := Z30.out; have y12 := Z33.out; have y13 := Z34.out; have y14 := Z35.out; have y15 := Z38.out; have y16 := Z41.out; have y17 := Z43.out; have y18 := Z45.out; have y19 := Z48.out; first | omega | (simp at *; omega)))
  clear Ka0
  have Ka0 := NKa0
  clear NKa0
  have NW := Lib.hid (W.out.below b47)
  clear W
  have W := NW
  clear NW
  have NKx0 := Lib.hid (Kx0.out.below b47 (by have y0 := Z3.out; have y1 := ZSa0.out; have y2 := Z6.out; have y3 := Z9.out; have y4 := Z12.out; have y5 := Z15.out; have y6 := Z18.out; have y7 := Z21.out; have y8 := Z24.out; have y9 := ZSx0.out; have y10 := Z27.out; have y11 := Z30.out; have y12 := Z33.out; have y13 := Z34.out; have y14 := Z35.out; have y15 := Z38.out; have y16 := Z41.out; have y17 := Z43.out; have y18 := Z45.out; have y19 := Z48.out; first | omega | (simp at *; omega)))
  clear Kx0
  have Kx0 := NKx0
  clear NKx0
  have NG := Lib.hid (G.out.below b47)
  clear G
  have G := NG
  clear NG
  have NB := Lib.hid (B.out.trans (b47.mono B.out.size))
  clear B
  have B := NB
  clear NB
  clear b47
  have gKa00 : w46.cell? ⟨w.heap.size, 0, none⟩ = some (.int .i64 n0) := Ka0.out.cell 0
  have gKa01 : w46.cell? ⟨w.heap.size, 1, none⟩ = some (.slice A0 pss0.length c0) := Ka0.out.cell 1
  have gKx00 : w46.cell? ⟨w19.heap.size, 0, none⟩ = some (.int .i64 n0) := Kx0.out.cell 0
  have gKx01 : w46.cell? ⟨w19.heap.size, 1, none⟩ = some (.slice AaX0 pss0.length caX0) := Kx0.out.cell 1
  go_wp2_with fail
  clear gKa00 gKa01 gKx00 gKx01
  have hr0 : (0 : Int) ≤ 1 + ((r.length : Nat) : Int) := by omega
  refine (n_mark_ints _ _ _ _ r 1 G.out (by have y := HR.out; omega) (by omega) (by omega)).mono ?_
  rintro e w49 ⟨rfl, hw49, chw49⟩
  have Z50 := Lib.hid (chw49.size)
  have NKa0 := Lib.hid (Ka0.out.chg chw49 (by have y0 := Z3.out; have y1 := ZSa0.out; have y2 := Z6.out; have y3 := Z9.out; have y4 := Z12.out; have y5 := Z15.out; have y6 := Z18.out; have y7 := Z21.out; have y8 := Z24.out; have y9 := ZSx0.out; have y10 := Z27.out; have y11 := Z30.out; have y12 := Z33.out; have y13 := Z34.out; have y14 := Z35.out; have y15 := Z38.out; have y16 := Z41.out; have y17 := Z43.out; have y18 := Z45.out; have y19 := Z48.out; have y20 := Z50.out; omega))
  clear Ka0
  have Ka0 := NKa0
  clear NKa0
  have NW := Lib.hid (W.out.kept chw49 (by have y0 := Z3.out; have y1 := ZSa0.out; have y2 := Z6.out; have y3 := Z9.out; have y4 := Z12.out; have y5 := Z15.out; have y6 := Z18.out; have y7 := Z21.out; have y8 := Z24.out; have y9 := ZSx0.out; have y10 := Z27.out; have y11 := Z30.out; have y12 := Z33.out; have y13 := Z34.out; have y14 := Z35.out; have y15 := Z38.out; have y16 := Z41.out; have y17 := Z43.out; have y18 := Z45.out; have y19 := Z48.out; have y20 := Z50.out; omega))
  clear W
  have W := NW
  clear NW
  have NKx0 := Lib.hid (Kx0.out.chg chw49 (by have y0 := Z3.out; have y1 := ZSa0.out; have y2 := Z6.out; have y3 := Z9.out; have y4 := Z12.out; have y5 := Z15.out; have y6 := Z18.out; have y7 := Z21.out; have y8 := Z24.out; have y9 := ZSx0.out; have y10 := Z27.out; have y11 := Z30.out; have y12 := Z33.out; have y13 := Z34.out; have y14 := Z35.out; have y15 := Z38.out; have y16 := Z41.out; have y17 := Z43.out; have y18 := Z45.out; have y19 := Z48.out; have y20 := Z50.out; omega))
  clear Kx0
  have Kx0 := NKx0
  clear NKx0
  have NG := Lib.hid (hw49)
  clear G
  have G := NG
  clear NG
  have NB := Lib.hid (chw49.below B.out (by have y0 := Z3.out; have y1 := ZSa0.out; have y2 := Z6.out; have y3 := Z9.out; have y4 := Z12.out; have y5 := Z15.out; have y6 := Z18.out; have y7 := Z21.out; have y8 := Z24.out; have y9 := ZSx0.out; have y10 := Z27.out; have y11 := Z30.out; have y12 := Z33.out; have y13 := Z34.out; have y14 := Z35.out; have y15 := Z38.out; have y16 := Z41.out; have y17 := Z43.out; have y18 := Z45.out; have y19 := Z48.out; have y20 := Z50.out; omega) B.out.size)
  clear B
  have B := NB
  clear NB
  clear hw49 chw49
  have gKa00 : w49.cell? ⟨w.heap.size, 0, none⟩ = some (.int .i64 n0) := Ka0.out.cell 0
  have gKa01 : w49.cell? ⟨w.heap.size, 1, none⟩ = some (.slice A0 pss0.length c0) := Ka0.out.cell 1
  have gKx00 : w49.cell? ⟨w19.heap.size, 0, none⟩ = some (.int .i64 n0) := Kx0.out.cell 0
  have gKx01 : w49.cell? ⟨w19.heap.size, 1, none⟩ = some (.slice AaX0 pss0.length caX0) := Kx0.out.cell 1
  go_wp2_with fail
  clear gKa00 gKa01 gKx00 gKx01
  refine (n_held_ints _ _ r.length G.out.ints (by have y := HR.out; omega)).mono ?_
  rintro e w51 ⟨rfl, b52⟩
  have Z53 := Lib.hid (b52.size)
  have NKa0 := Lib.hid (Ka0.out.below b52 (by have y0 := Z3.out; have y1 := ZSa0.out; have y2 := Z6.out; have y3 := Z9.out; have y4 := Z12.out; have y5 := Z15.out; have y6 := Z18.out; have y7 := Z21.out; have y8 := Z24.out; have y9 := ZSx0.out; have y10 := Z27.out; have y11 := Z30.out; have y12 := Z33.out; have y13 := Z34.out; have y14 := Z35.out; have y15 := Z38.out; have y16 := Z41.out; have y17 := Z43.out; have y18 := Z45.out; have y19 := Z48.out; have y20 := Z50.out; have y21 := Z53.out; first | omega | (simp at *; omega)))
  clear Ka0
  have Ka0 := NKa0
  clear NKa0
  have NW := Lib.hid (W.out.below b52)
  clear W
  have W := NW
  clear NW
  have NKx0 := Lib.hid (Kx0.out.below b52 (by have y0 := Z3.out; have y1 := ZSa0.out; have y2 := Z6.out; have y3 := Z9.out; have y4 := Z12.out; have y5 := Z15.out; have y6 := Z18.out; have y7 := Z21.out; have y8 := Z24.out; have y9 := ZSx0.out; have y10 := Z27.out; have y11 := Z30.out; have y12 := Z33.out; have y13 := Z34.out; have y14 := Z35.out; have y15 := Z38.out; have y16 := Z41.out; have y17 := Z43.out; have y18 := Z45.out; have y19 := Z48.out; have y20 := Z50.out; have y21 := Z53.out; first | omega | (simp at *; omega)))
  clear Kx0
  have Kx0 := NKx0
  clear NKx0
  have NG := Lib.hid (G.out.below b52)
  clear G
  have G := NG
  clear NG
  have NB := Lib.hid (B.out.trans (b52.mono B.out.size))
  clear B
  have B := NB
  clear NB
  clear b52
  have gKa00 : w51.cell? ⟨w.heap.size, 0, none⟩ = some (.int .i64 n0) := Ka0.out.cell 0
  have gKa01 : w51.cell? ⟨w.heap.size, 1, none⟩ = some (.slice A0 pss0.length c0) := Ka0.out.cell 1
  have gKx00 : w51.cell? ⟨w19.heap.size, 0, none⟩ = some (.int .i64 n0) := Kx0.out.cell 0
  have gKx01 : w51.cell? ⟨w19.heap.size, 1, none⟩ = some (.slice AaX0 pss0.length caX0) := Kx0.out.cell 1
  go_wp2_with fail
  clear gKa00 gKa01 gKx00 gKx01
  refine (l_toField _ _ n0 pss0 (HA0.out.below B.out) F1_0.out F2_0.out F3_0.out).mono ?_
  rintro e w54 ⟨xV0, rfl, -, hV0, b55⟩
  have Z56 := Lib.hid (b55.size)
  have NKa0 := Lib.hid (Ka0.out.below b55 (by have y0 := Z3.out; have y1 := ZSa0.out; have y2 := Z6.out; have y3 := Z9.out; have y4 := Z12.out; have y5 := Z15.out; have y6 := Z18.out; have y7 := Z21.out; have y8 := Z24.out; have y9 := ZSx0.out; have y10 := Z27.out; have y11 := Z30.out; have y12 := Z33.out; have y13 := Z34.out; have y14 := Z35.out; have y15 := Z38.out; have y16 := Z41.out; have y17 := Z43.out; have y18 := Z45.out; have y19 := Z48.out; have y20 := Z50.out; have y21 := Z53.out; have y22 := Z56.out; first | omega | (simp at *; omega)))
  clear Ka0
  have Ka0 := NKa0
  clear NKa0
  have NW := Lib.hid (W.out.below b55)
  clear W
  have W := NW
  clear NW
  have NKx0 := Lib.hid (Kx0.out.below b55 (by have y0 := Z3.out; have y1 := ZSa0.out; have y2 := Z6.out; have y3 := Z9.out; have y4 := Z12.out; have y5 := Z15.out; have y6 := Z18.out; have y7 := Z21.out; have y8 := Z24.out; have y9 := ZSx0.out; have y10 := Z27.out; have y11 := Z30.out; have y12 := Z33.out; have y13 := Z34.out; have y14 := Z35.out; have y15 := Z38.out; have y16 := Z41.out; have y17 := Z43.out; have y18 := Z45.out; have y19 := Z48.out; have y20 := Z50.out; have y21 := Z53.out; have y22 := Z56.out; first | omega | (simp at *; omega)))
  clear Kx0
  have Kx0 := NKx0
  clear NKx0
  have NG := Lib.hid (G.out.below b55)
  clear G
  have G := NG
  clear NG
  have NB := Lib.hid (B.out.trans (b55.mono B.out.size))
  clear B
  have B := NB
  clear NB
  clear b55
  obtain ⟨AaV0, caV0, rfl⟩ := hV0.open_
  have V0 := Lib.hid hV0
  clear hV0
  have gKa00 : w54.cell? ⟨w.heap.size, 0, none⟩ = some (.int .i64 n0) := Ka0.out.cell 0
  have gKa01 : w54.cell? ⟨w.heap.size, 1, none⟩ = some (.slice A0 pss0.length c0) := Ka0.out.cell 1
  have gKx00 : w54.cell? ⟨w19.heap.size, 0, none⟩ = some (.int .i64 n0) := Kx0.out.cell 0
  have gKx01 : w54.cell? ⟨w19.heap.size, 1, none⟩ = some (.slice AaX0 pss0.length caX0) := Kx0.out.cell 1
  go_wp2_with fail
  clear gKa00 gKa01 gKx00 gKx01
  refine (n_to_rows _ _ xss1 (HA1.out.below B.out) F1_1.out).mono ?_
  rintro e w57 ⟨xV1, rfl, hV1, b58⟩
  have Z59 := Lib.hid (b58.size)
  have NKa0 := Lib.hid (Ka0.out.below b58 (by have y0 := Z3.out; have y1 := ZSa0.out; have y2 := Z6.out; have y3 := Z9.out; have y4 := Z12.out; have y5 := Z15.out; have y6 := Z18.out; have y7 := Z21.out; have y8 := Z24.out; have y9 := ZSx0.out; have y10 := Z27.out; have y11 := Z30.out; have y12 := Z33.out; have y13 := Z34.out; have y14 := Z35.out; have y15 := Z38.out; have y16 := Z41.out; have y17 := Z43.out; have y18 := Z45.out; have y19 := Z48.out; have y20 := Z50.out; have y21 := Z53.out; have y22 := Z56.out; have y23 := Z59.out; first | omega | (simp at *; omega)))
  clear Ka0
  have Ka0 := NKa0
  clear NKa0
  have NW := Lib.hid (W.out.below b58)
  clear W
  have W := NW
  clear NW
  have NKx0 := Lib.hid (Kx0.out.below b58 (by have y0 := Z3.out; have y1 := ZSa0.out; have y2 := Z6.out; have y3 := Z9.out; have y4 := Z12.out; have y5 := Z15.out; have y6 := Z18.out; have y7 := Z21.out; have y8 := Z24.out; have y9 := ZSx0.out; have y10 := Z27.out; have y11 := Z30.out; have y12 := Z33.out; have y13 := Z34.out; have y14 := Z35.out; have y15 := Z38.out; have y16 := Z41.out; have y17 := Z43.out; have y18 := Z45.out; have y19 := Z48.out; have y20 := Z50.out; have y21 := Z53.out; have y22 := Z56.out; have y23 := Z59.out; first | omega | (simp at *; omega)))
  clear Kx0
  have Kx0 := NKx0
  clear NKx0
  have NG := Lib.hid (G.out.below b58)
  clear G
  have G := NG
  clear NG
  have NV0 := Lib.hid (V0.out.below b58)
  clear V0
  have V0 := NV0
  clear NV0
  have NB := Lib.hid (B.out.trans (b58.mono B.out.size))
  clear B
  have B := NB
  clear NB
  clear b58
  have V1 := Lib.hid hV1
  clear hV1
  have gKa00 : w57.cell? ⟨w.heap.size, 0, none⟩ = some (.int .i64 n0) := Ka0.out.cell 0
  have gKa01 : w57.cell? ⟨w.heap.size, 1, none⟩ = some (.slice A0 pss0.length c0) := Ka0.out.cell 1
  have gKx00 : w57.cell? ⟨w19.heap.size, 0, none⟩ = some (.int .i64 n0) := Kx0.out.cell 0
  have gKx01 : w57.cell? ⟨w19.heap.size, 1, none⟩ = some (.slice AaX0 pss0.length caX0) := Kx0.out.cell 1
  go_wp2_with fail
  clear gKa00 gKa01 gKx00 gKx01
  refine (HI.out _ _ _ (V0.out.arg HN0.out) V1.out.rows).mono ?_
  rintro e w60 ⟨xH, rfl, hH, b61⟩
  have Z62 := Lib.hid (b61.size)
  have NKa0 := Lib.hid (Ka0.out.below b61 (by have y0 := Z3.out; have y1 := ZSa0.out; have y2 := Z6.out; have y3 := Z9.out; have y4 := Z12.out; have y5 := Z15.out; have y6 := Z18.out; have y7 := Z21.out; have y8 := Z24.out; have y9 := ZSx0.out; have y10 := Z27.out; have y11 := Z30.out; have y12 := Z33.out; have y13 := Z34.out; have y14 := Z35.out; have y15 := Z38.out; have y16 := Z41.out; have y17 := Z43.out; have y18 := Z45.out; have y19 := Z48.out; have y20 := Z50.out; have y21 := Z53.out; have y22 := Z56.out; have y23 := Z59.out; have y24 := Z62.out; first | omega | (simp at *; omega)))
  clear Ka0
  have Ka0 := NKa0
  clear NKa0
  have NW := Lib.hid (W.out.below b61)
  clear W
  have W := NW
  clear NW
  have NKx0 := Lib.hid (Kx0.out.below b61 (by have y0 := Z3.out; have y1 := ZSa0.out; have y2 := Z6.out; have y3 := Z9.out; have y4 := Z12.out; have y5 := Z15.out; have y6 := Z18.out; have y7 := Z21.out; have y8 := Z24.out; have y9 := ZSx0.out; have y10 := Z27.out; have y11 := Z30.out; have y12 := Z33.out; have y13 := Z34.out; have y14 := Z35.out; have y15 := Z38.out; have y16 := Z41.out; have y17 := Z43.out; have y18 := Z45.out; have y19 := Z48.out; have y20 := Z50.out; have y21 := Z53.out; have y22 := Z56.out; have y23 := Z59.out; have y24 := Z62.out; first | omega | (simp at *; omega)))
  clear Kx0
  have Kx0 := NKx0
  clear NKx0
  have NG := Lib.hid (G.out.below b61)
  clear G
  have G := NG
  clear NG
  have NV0 := Lib.hid (V0.out.below b61)
  clear V0
  have V0 := NV0
  clear NV0
  have NV1 := Lib.hid (V1.out.below b61)
  clear V1
  have V1 := NV1
  clear NV1
  have NB := Lib.hid (B.out.trans (b61.mono B.out.size))
  clear B
  have B := NB
  clear NB
  clear b61
  have H := Lib.hid hH
  clear hH
  clear V0
  clear V1
  have gKa00 : w60.cell? ⟨w.heap.size, 0, none⟩ = some (.int .i64 n0) := Ka0.out.cell 0
  have gKa01 : w60.cell? ⟨w.heap.size, 1, none⟩ = some (.slice A0 pss0.length c0) := Ka0.out.cell 1
  have gKx00 : w60.cell? ⟨w19.heap.size, 0, none⟩ = some (.int .i64 n0) := Kx0.out.cell 0
  have gKx01 : w60.cell? ⟨w19.heap.size, 1, none⟩ = some (.slice AaX0 pss0.length caX0) := Kx0.out.cell 1
  go_wp2_with fail
  clear gKa00 gKa01 gKx00 gKx01
  refine (n_eq_ints _ _ _ r H.out.ints W.out.ints).mono ?_
  rintro e w63 ⟨rfl, b64⟩
  have Z65 := Lib.hid (b64.size)
  have NKa0 := Lib.hid (Ka0.out.below b64 (by have y0 := Z3.out; have y1 := ZSa0.out; have y2 := Z6.out; have y3 := Z9.out; have y4 := Z12.out; have y5 := Z15.out; have y6 := Z18.out; have y7 := Z21.out; have y8 := Z24.out; have y9 := ZSx0.out; have y10 := Z27.out; have y11 := Z30.out; have y12 := Z33.out; have y13 := Z34.out; have y14 := Z35.out; have y15 := Z38.out; have y16 := Z41.out; have y17 := Z43.out; have y18 := Z45.out; have y19 := Z48.out; have y20 := Z50.out; have y21 := Z53.out; have y22 := Z56.out; have y23 := Z59.out; have y24 := Z62.out; have y25 := Z65.out; first | omega | (simp at *; omega)))
  clear Ka0
  have Ka0 := NKa0
  clear NKa0
  have NW := Lib.hid (W.out.below b64)
  clear W
  have W := NW
  clear NW
  have NKx0 := Lib.hid (Kx0.out.below b64 (by have y0 := Z3.out; have y1 := ZSa0.out; have y2 := Z6.out; have y3 := Z9.out; have y4 := Z12.out; have y5 := Z15.out; have y6 := Z18.out; have y7 := Z21.out; have y8 := Z24.out; have y9 := ZSx0.out; have y10 := Z27.out; have y11 := Z30.out; have y12 := Z33.out; have y13 := Z34.out; have y14 := Z35.out; have y15 := Z38.out; have y16 := Z41.out; have y17 := Z43.out; have y18 := Z45.out; have y19 := Z48.out; have y20 := Z50.out; have y21 := Z53.out; have y22 := Z56.out; have y23 := Z59.out; have y24 := Z62.out; have y25 := Z65.out; first | omega | (simp at *; omega)))
  clear Kx0
  have Kx0 := NKx0
  clear NKx0
  have NG := Lib.hid (G.out.below b64)
  clear G
  have G := NG
  clear NG
  have NH := Lib.hid (H.out.below b64)
  clear H
  have H := NH
  clear NH
  have NB := Lib.hid (B.out.trans (b64.mono B.out.size))
  clear B
  have B := NB
  clear NB
  clear b64
  have gKa00 : w63.cell? ⟨w.heap.size, 0, none⟩ = some (.int .i64 n0) := Ka0.out.cell 0
  have gKa01 : w63.cell? ⟨w.heap.size, 1, none⟩ = some (.slice A0 pss0.length c0) := Ka0.out.cell 1
  have gKx00 : w63.cell? ⟨w19.heap.size, 0, none⟩ = some (.int .i64 n0) := Kx0.out.cell 0
  have gKx01 : w63.cell? ⟨w19.heap.size, 1, none⟩ = some (.slice AaX0 pss0.length caX0) := Kx0.out.cell 1
  go_wp2_with fail
  clear gKa00 gKa01 gKx00 gKx01
  refine (n_held_ints _ _ r.length G.out.ints (by have y := HR.out; omega)).mono ?_
  rintro e w66 ⟨rfl, b67⟩
  have Z68 := Lib.hid (b67.size)
  have NKa0 := Lib.hid (Ka0.out.below b67 (by have y0 := Z3.out; have y1 := ZSa0.out; have y2 := Z6.out; have y3 := Z9.out; have y4 := Z12.out; have y5 := Z15.out; have y6 := Z18.out; have y7 := Z21.out; have y8 := Z24.out; have y9 := ZSx0.out; have y10 := Z27.out; have y11 := Z30.out; have y12 := Z33.out; have y13 := Z34.out; have y14 := Z35.out; have y15 := Z38.out; have y16 := Z41.out; have y17 := Z43.out; have y18 := Z45.out; have y19 := Z48.out; have y20 := Z50.out; have y21 := Z53.out; have y22 := Z56.out; have y23 := Z59.out; have y24 := Z62.out; have y25 := Z65.out; have y26 := Z68.out; first | omega | (simp at *; omega)))
  clear Ka0
  have Ka0 := NKa0
  clear NKa0
  have NW := Lib.hid (W.out.below b67)
  clear W
  have W := NW
  clear NW
  have NKx0 := Lib.hid (Kx0.out.below b67 (by have y0 := Z3.out; have y1 := ZSa0.out; have y2 := Z6.out; have y3 := Z9.out; have y4 := Z12.out; have y5 := Z15.out; have y6 := Z18.out; have y7 := Z21.out; have y8 := Z24.out; have y9 := ZSx0.out; have y10 := Z27.out; have y11 := Z30.out; have y12 := Z33.out; have y13 := Z34.out; have y14 := Z35.out; have y15 := Z38.out; have y16 := Z41.out; have y17 := Z43.out; have y18 := Z45.out; have y19 := Z48.out; have y20 := Z50.out; have y21 := Z53.out; have y22 := Z56.out; have y23 := Z59.out; have y24 := Z62.out; have y25 := Z65.out; have y26 := Z68.out; first | omega | (simp at *; omega)))
  clear Kx0
  have Kx0 := NKx0
  clear NKx0
  have NG := Lib.hid (G.out.below b67)
  clear G
  have G := NG
  clear NG
  have NH := Lib.hid (H.out.below b67)
  clear H
  have H := NH
  clear NH
  have NB := Lib.hid (B.out.trans (b67.mono B.out.size))
  clear B
  have B := NB
  clear NB
  clear b67
  have gKa00 : w66.cell? ⟨w.heap.size, 0, none⟩ = some (.int .i64 n0) := Ka0.out.cell 0
  have gKa01 : w66.cell? ⟨w.heap.size, 1, none⟩ = some (.slice A0 pss0.length c0) := Ka0.out.cell 1
  have gKx00 : w66.cell? ⟨w19.heap.size, 0, none⟩ = some (.int .i64 n0) := Kx0.out.cell 0
  have gKx01 : w66.cell? ⟨w19.heap.size, 1, none⟩ = some (.slice AaX0 pss0.length caX0) := Kx0.out.cell 1
  go_wp2_with fail
  clear gKa00 gKa01 gKx00 gKx01
  go_ret
  exact ⟨rfl, B.out⟩
end Go.Proofs.Ytgnmnpjbmdifbaa
