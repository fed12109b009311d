/- The law FnExactFormSeries, walked: it returns true. -/
import Derived.Test.YtgnmnpjbmdifbaaNrm
import Derived.Test.YtgnmnpjbmdifbaaMkf
import Derived.Test.YtgnmnpjbmdifbaaLif
import Derived.WalkLawsBesides
import Derived.Deep.RegionHeld3
set_option linter.unusedVariables false
set_option linter.unusedSimpArgs false
namespace Go.Proofs.Ytgnmnpjbmdifbaa
open Go.RowKit

set_option maxRecDepth 100000 in
set_option maxHeartbeats 8000000 in
theorem law_FnExactFormSeries_gen (w : World) (v0 : Value) (n0 : Int) (pss0 : List (List Mono)) (ha0 : FieldArg w v0 n0 pss0) (v1 : Value) (xss1 : List (List Int)) (ha1 : Rows w v1 xss1) (v2 : Value) (xss2 : List (List Int)) (ha2 : Rows w v2 xss2) (r : List Int) (c : Int) (hR : (∀ ms ∈ pss0, ∀ m ∈ ms, m.2.length ≤ 4294967296) → Short xss1 → Short xss2 → r.length ≤ 1048576)
    (hS : (∀ ms ∈ pss0, ∀ m ∈ ms, m.2.length ≤ 4294967296) → Short xss1 → Short xss2 → ∀ (W : World) (v0 v1 v2 : Value), FieldArg W v0 n0 pss0 → Rows W v1 xss1 → Rows W v2 xss2 → Calls Try.prog 36 #[v0, v1, v2] W fun e w' => ∃ u, e = .returned (.tuple #[u, .int .i64 c]) ∧ OI w' W.heap.size w'.heap.size tI u r ∧ Below W.heap.size W w')
    (hI : (∀ ms ∈ pss0, ∀ m ∈ ms, m.2.length ≤ 4294967296) → Short xss1 → Short xss2 → ∀ (W : World) (v0 v1 v2 : Value), FieldArg W v0 n0 pss0 → Rows W v1 xss1 → Rows W v2 xss2 → Calls Try.prog 37 #[v0, v1, v2] W fun e w' => ∃ u, e = .returned (.tuple #[u, .int .i64 c]) ∧ OI w' W.heap.size w'.heap.size tI u r ∧ Below W.heap.size W w') :
    Calls Try.prog 7 #[v0, v1, v2] w fun e w' => e = .returned (.bool true) ∧ Below w.heap.size w w' := by
  have B := Lib.hid (Below.refl w.heap.size w)
  have HS := Lib.hid hS
  have HI := Lib.hid hI
  clear hS hI
  have HR := Lib.hid hR
  clear hR
  have HA0 := Lib.hid ha0
  obtain ⟨u0, rfl, hn0, hu0⟩ := ha0
  obtain ⟨A0, c0, rfl, -, -, -⟩ := hu0.open_
  have HN0 := Lib.hid hn0
  clear hn0 hu0
  have HA1 := Lib.hid ha1
  obtain ⟨A1, c1, rfl, -, -, -⟩ := ha1.open_
  clear ha1
  have HA2 := Lib.hid ha2
  obtain ⟨A2, c2, rfl, -, -, -⟩ := ha2.open_
  clear ha2
  go_enter Try.func7, Try.ntmps7
  go_wp2_with fail
  obtain ⟨w1, hw1⟩ : ∃ x, x = w.alloc (.cells #[.int .i64 n0, .slice A0 pss0.length c0] 35) := ⟨_, rfl⟩
  rw [← hw1]
  have b2 : Below w.heap.size w w1 := by rw [hw1]; exact below1 _ _
  have Ka0 := Lib.hid (show Blk w1 w.heap.size 35 #[.int .i64 n0, .slice A0 pss0.length c0] by rw [hw1]; exact Blk.new _ _ _)
  have ZSa0 := Lib.hid (show w.heap.size + 1 ≤ w1.heap.size by rw [hw1]; exact Nat.le_of_eq (Array.size_push _).symm)
  have Z3 := Lib.hid (b2.size)
  have NB := Lib.hid (B.out.trans (b2.mono B.out.size))
  clear B
  have B := NB
  clear NB
  clear b2 hw1
  refine (l_szField _ _ n0 pss0 _ (HA0.out.below B.out) (by omega) (by omega)).mono ?_
  rintro e w4 ⟨rfl, b5⟩
  have Z6 := Lib.hid (b5.size)
  have NKa0 := Lib.hid (Ka0.out.below b5 (by have y0 := Z3.out; have y1 := ZSa0.out; have y2 := Z6.out; first | omega | (simp at *; omega)))
  clear Ka0
  have Ka0 := NKa0
  clear NKa0
  have NB := Lib.hid (B.out.trans (b5.mono B.out.size))
  clear B
  have B := NB
  clear NB
  clear b5
  by_cases hs0 : szFld 1048576 pss0 < 0
  · skip
    have gKa00 : w4.cell? ⟨w.heap.size, 0, none⟩ = some (.int .i64 n0) := Ka0.out.cell 0
    have gKa01 : w4.cell? ⟨w.heap.size, 1, none⟩ = some (.slice A0 pss0.length c0) := Ka0.out.cell 1
    go_wp2_with fail
    clear gKa00 gKa01
    go_ret
    exact ⟨rfl, B.out⟩
  have hsh0 := szFld_short (by omega : 0 ≤ szFld 1048576 pss0) (by omega)
  have F1_0 := Lib.hid hsh0.1
  have F2_0 := Lib.hid hsh0.2.1
  have F3_0 := Lib.hid hsh0.2.2
  have ht0 := szFld_tot (by omega : 0 ≤ szFld 1048576 pss0)
  have htt0 : fTot pss0 ≤ 1048576 := by omega
  have hle0 : szFld 1048576 pss0 ≤ 1048576 := by omega
  obtain ⟨left0, hleft0⟩ : ∃ x, x = szFld 1048576 pss0 := ⟨_, rfl⟩
  rw [← hleft0] at hs0 hle0 ⊢
  clear ht0 hsh0 hleft0
  have hs0 : 0 ≤ left0 := by omega
  have gKa00 : w4.cell? ⟨w.heap.size, 0, none⟩ = some (.int .i64 n0) := Ka0.out.cell 0
  have gKa01 : w4.cell? ⟨w.heap.size, 1, none⟩ = some (.slice A0 pss0.length c0) := Ka0.out.cell 1
  go_wp2_with fail
  clear gKa00 gKa01
  refine (l_szInt64SS _ _ xss1 _ (HA1.out.below B.out) hs0 (by omega)).mono ?_
  rintro e w7 ⟨rfl, ew7⟩
  have b8 : Below w4.heap.size w4 w7 := by rw [← ew7]; exact Below.refl _ _
  clear ew7
  have Z9 := Lib.hid (b8.size)
  have NKa0 := Lib.hid (Ka0.out.below b8 (by have y0 := Z3.out; have y1 := ZSa0.out; have y2 := Z6.out; have y3 := Z9.out; first | omega | (simp at *; omega)))
  clear Ka0
  have Ka0 := NKa0
  clear NKa0
  have NB := Lib.hid (B.out.trans (b8.mono B.out.size))
  clear B
  have B := NB
  clear NB
  clear b8
  by_cases hs1 : szRows left0 xss1 < 0
  · skip
    have gKa00 : w7.cell? ⟨w.heap.size, 0, none⟩ = some (.int .i64 n0) := Ka0.out.cell 0
    have gKa01 : w7.cell? ⟨w.heap.size, 1, none⟩ = some (.slice A0 pss0.length c0) := Ka0.out.cell 1
    go_wp2_with fail
    clear gKa00 gKa01
    go_ret
    exact ⟨rfl, B.out⟩
  have hsh1 := szRows_short (by omega : 0 ≤ szRows left0 xss1) (by omega)
  have F1_1 := Lib.hid hsh1.1
  have ht1 := szRows_tot (by omega : 0 ≤ szRows left0 xss1)
  have htt1 : tot xss1 ≤ 1048576 := by omega
  have hle1 : szRows left0 xss1 ≤ 1048576 := by omega
  obtain ⟨left1, hleft1⟩ : ∃ x, x = szRows left0 xss1 := ⟨_, rfl⟩
  rw [← hleft1] at hs1 hle1 ⊢
  clear ht1 hsh1 hleft1
  clear hs0 hle0
  have hs1 : 0 ≤ left1 := by omega
  have gKa00 : w7.cell? ⟨w.heap.size, 0, none⟩ = some (.int .i64 n0) := Ka0.out.cell 0
  have gKa01 : w7.cell? ⟨w.heap.size, 1, none⟩ = some (.slice A0 pss0.length c0) := Ka0.out.cell 1
  go_wp2_with fail
  clear gKa00 gKa01
  refine (l_szInt64SS _ _ xss2 _ (HA2.out.below B.out) hs1 (by omega)).mono ?_
  rintro e w10 ⟨rfl, ew10⟩
  have b11 : Below w7.heap.size w7 w10 := by rw [← ew10]; exact Below.refl _ _
  clear ew10
  have Z12 := Lib.hid (b11.size)
  have NKa0 := Lib.hid (Ka0.out.below b11 (by have y0 := Z3.out; have y1 := ZSa0.out; have y2 := Z6.out; have y3 := Z9.out; have y4 := Z12.out; first | omega | (simp at *; omega)))
  clear Ka0
  have Ka0 := NKa0
  clear NKa0
  have NB := Lib.hid (B.out.trans (b11.mono B.out.size))
  clear B
  have B := NB
  clear NB
  clear b11
  by_cases hs2 : szRows left1 xss2 < 0
  · skip
    have gKa00 : w10.cell? ⟨w.heap.size, 0, none⟩ = some (.int .i64 n0) := Ka0.out.cell 0
    have gKa01 : w10.cell? ⟨w.heap.size, 1, none⟩ = some (.slice A0 pss0.length c0) := Ka0.out.cell 1
    go_wp2_with fail
    clear gKa00 gKa01
    go_ret
    exact ⟨rfl, B.out⟩
  have hsh2 := szRows_short (by omega : 0 ≤ szRows left1 xss2) (by omega)
  have F1_2 := Lib.hid hsh2.1
  have ht2 := szRows_tot (by omega : 0 ≤ szRows left1 xss2)
  have htt2 : tot xss2 ≤ 1048576 := by omega
  have hle2 : szRows left1 xss2 ≤ 1048576 := by omega
  obtain ⟨left2, hleft2⟩ : ∃ x, x = szRows left1 xss2 := ⟨_, rfl⟩
  rw [← hleft2] at hs2 hle2 ⊢
  clear ht2 hsh2 hleft2
  clear hs1 hle1
  have hs2 : 0 ≤ left2 := by omega
  have gKa00 : w10.cell? ⟨w.heap.size, 0, none⟩ = some (.int .i64 n0) := Ka0.out.cell 0
  have gKa01 : w10.cell? ⟨w.heap.size, 1, none⟩ = some (.slice A0 pss0.length c0) := Ka0.out.cell 1
  go_wp2_with fail
  clear gKa00 gKa01
  have HS := Lib.hid (HS.out F3_0.out F1_1.out F1_2.out)
  have HI := Lib.hid (HI.out F3_0.out F1_1.out F1_2.out)
  have HR := Lib.hid (HR.out F3_0.out F1_1.out F1_2.out)
  refine (l_toField _ _ n0 pss0 (HA0.out.below B.out) F1_0.out F2_0.out F3_0.out).mono ?_
  rintro e w13 ⟨xT0, rfl, -, hT0, b14⟩
  have Z15 := Lib.hid (b14.size)
  have NKa0 := Lib.hid (Ka0.out.below b14 (by have y0 := Z3.out; have y1 := ZSa0.out; have y2 := Z6.out; have y3 := Z9.out; have y4 := Z12.out; have y5 := Z15.out; first | omega | (simp at *; omega)))
  clear Ka0
  have Ka0 := NKa0
  clear NKa0
  have NB := Lib.hid (B.out.trans (b14.mono B.out.size))
  clear B
  have B := NB
  clear NB
  clear b14
  obtain ⟨AaT0, caT0, rfl⟩ := hT0.open_
  have T0 := Lib.hid hT0
  clear hT0
  have gKa00 : w13.cell? ⟨w.heap.size, 0, none⟩ = some (.int .i64 n0) := Ka0.out.cell 0
  have gKa01 : w13.cell? ⟨w.heap.size, 1, none⟩ = some (.slice A0 pss0.length c0) := Ka0.out.cell 1
  go_wp2_with fail
  clear gKa00 gKa01
  refine (n_to_rows _ _ xss1 (HA1.out.below B.out) F1_1.out).mono ?_
  rintro e w16 ⟨xT1, rfl, hT1, b17⟩
  have Z18 := Lib.hid (b17.size)
  have NKa0 := Lib.hid (Ka0.out.below b17 (by have y0 := Z3.out; have y1 := ZSa0.out; have y2 := Z6.out; have y3 := Z9.out; have y4 := Z12.out; have y5 := Z15.out; have y6 := Z18.out; first | omega | (simp at *; omega)))
  clear Ka0
  have Ka0 := NKa0
  clear NKa0
  have NT0 := Lib.hid (T0.out.below b17)
  clear T0
  have T0 := NT0
  clear NT0
  have NB := Lib.hid (B.out.trans (b17.mono B.out.size))
  clear B
  have B := NB
  clear NB
  clear b17
  have T1 := Lib.hid hT1
  clear hT1
  have gKa00 : w16.cell? ⟨w.heap.size, 0, none⟩ = some (.int .i64 n0) := Ka0.out.cell 0
  have gKa01 : w16.cell? ⟨w.heap.size, 1, none⟩ = some (.slice A0 pss0.length c0) := Ka0.out.cell 1
  go_wp2_with fail
  clear gKa00 gKa01
  refine (n_to_rows _ _ xss2 (HA2.out.below B.out) F1_2.out).mono ?_
  rintro e w19 ⟨xT2, rfl, hT2, b20⟩
  have Z21 := Lib.hid (b20.size)
  have NKa0 := Lib.hid (Ka0.out.below b20 (by have y0 := Z3.out; have y1 := ZSa0.out; have y2 := Z6.out; have y3 := Z9.out; have y4 := Z12.out; have y5 := Z15.out; have y6 := Z18.out; have y7 := Z21.out; first | omega | (simp at *; omega)))
  clear Ka0
  have Ka0 := NKa0
  clear NKa0
  have NT0 := Lib.hid (T0.out.below b20)
  clear T0
  have T0 := NT0
  clear NT0
  have NT1 := Lib.hid (T1.out.below b20)
  clear T1
  have T1 := NT1
  clear NT1
  have NB := Lib.hid (B.out.trans (b20.mono B.out.size))
  clear B
  have B := NB
  clear NB
  clear b20
  have T2 := Lib.hid hT2
  clear hT2
  have gKa00 : w19.cell? ⟨w.heap.size, 0, none⟩ = some (.int .i64 n0) := Ka0.out.cell 0
  have gKa01 : w19.cell? ⟨w.heap.size, 1, none⟩ = some (.slice A0 pss0.length c0) := Ka0.out.cell 1
  go_wp2_with fail
  clear gKa00 gKa01
  refine (HS.out _ _ _ _ (T0.out.arg HN0.out) T1.out.rows T2.out.rows).mono ?_
  rintro e w22 ⟨xW, rfl, hW, b23⟩
  have Z24 := Lib.hid (b23.size)
  have NKa0 := Lib.hid (Ka0.out.below b23 (by have y0 := Z3.out; have y1 := ZSa0.out; have y2 := Z6.out; have y3 := Z9.out; have y4 := Z12.out; have y5 := Z15.out; have y6 := Z18.out; have y7 := Z21.out; have y8 := Z24.out; first | omega | (simp at *; omega)))
  clear Ka0
  have Ka0 := NKa0
  clear NKa0
  have NT0 := Lib.hid (T0.out.below b23)
  clear T0
  have T0 := NT0
  clear NT0
  have NT1 := Lib.hid (T1.out.below b23)
  clear T1
  have T1 := NT1
  clear NT1
  have NT2 := Lib.hid (T2.out.below b23)
  clear T2
  have T2 := NT2
  clear NT2
  have NB := Lib.hid (B.out.trans (b23.mono B.out.size))
  clear B
  have B := NB
  clear NB
  clear b23
  have W := Lib.hid hW
  clear hW
  clear T0
  clear T1
  clear T2
  have gKa00 : w22.cell? ⟨w.heap.size, 0, none⟩ = some (.int .i64 n0) := Ka0.out.cell 0
  have gKa01 : w22.cell? ⟨w.heap.size, 1, none⟩ = some (.slice A0 pss0.length c0) := Ka0.out.cell 1
  go_wp2_with fail
  clear gKa00 gKa01
  refine (l_toField _ _ n0 pss0 (HA0.out.below B.out) F1_0.out F2_0.out F3_0.out).mono ?_
  rintro e w25 ⟨xX0, rfl, -, hX0, b26⟩
  have Z27 := Lib.hid (b26.size)
  have NKa0 := Lib.hid (Ka0.out.below b26 (by have y0 := Z3.out; have y1 := ZSa0.out; have y2 := Z6.out; have y3 := Z9.out; have y4 := Z12.out; have y5 := Z15.out; have y6 := Z18.out; have y7 := Z21.out; have y8 := Z24.out; have y9 := Z27.out; first | omega | (simp at *; omega)))
  clear Ka0
  have Ka0 := NKa0
  clear NKa0
  have NW := Lib.hid (W.out.below b26)
  clear W
  have W := NW
  clear NW
  have NB := Lib.hid (B.out.trans (b26.mono B.out.size))
  clear B
  have B := NB
  clear NB
  clear b26
  obtain ⟨AaX0, caX0, rfl⟩ := hX0.open_
  have X0 := Lib.hid hX0
  clear hX0
  have gKa00 : w25.cell? ⟨w.heap.size, 0, none⟩ = some (.int .i64 n0) := Ka0.out.cell 0
  have gKa01 : w25.cell? ⟨w.heap.size, 1, none⟩ = some (.slice A0 pss0.length c0) := Ka0.out.cell 1
  go_wp2_with fail
  clear gKa00 gKa01
  obtain ⟨w28, hw28⟩ : ∃ x, x = w25.alloc (.cells #[.int .i64 n0, .slice AaX0 pss0.length caX0] 40) := ⟨_, rfl⟩
  rw [← hw28]
  have b29 : Below w25.heap.size w25 w28 := by rw [hw28]; exact below1 _ _
  have Kx0 := Lib.hid (show Blk w28 w25.heap.size 40 #[.int .i64 n0, .slice AaX0 pss0.length caX0] by rw [hw28]; exact Blk.new _ _ _)
  have ZSx0 := Lib.hid (show w25.heap.size + 1 ≤ w28.heap.size by rw [hw28]; exact Nat.le_of_eq (Array.size_push _).symm)
  have Z30 := Lib.hid (b29.size)
  have NKa0 := Lib.hid (Ka0.out.below b29 (by have y0 := Z3.out; have y1 := ZSa0.out; have y2 := Z6.out; have y3 := Z9.out; have y4 := Z12.out; have y5 := Z15.out; have y6 := Z18.out; have y7 := Z21.out; have y8 := Z24.out; have y9 := Z27.out; have y10 := Z30.out; first | omega | (simp at *; omega)))
  clear Ka0
  have Ka0 := NKa0
  clear NKa0
  have NW := Lib.hid (W.out.below b29)
  clear W
  have W := NW
  clear NW
  have NX0 := Lib.hid (X0.out.below b29)
  clear X0
  have X0 := NX0
  clear NX0
  have NB := Lib.hid (B.out.trans (b29.mono B.out.size))
  clear B
  have B := NB
  clear NB
  clear b29 hw28
  refine (n_to_rows _ _ xss1 (HA1.out.below B.out) F1_1.out).mono ?_
  rintro e w31 ⟨xX1, rfl, hX1, b32⟩
  have Z33 := Lib.hid (b32.size)
  have NKa0 := Lib.hid (Ka0.out.below b32 (by have y0 := Z3.out; have y1 := ZSa0.out; have y2 := Z6.out; have y3 := Z9.out; have y4 := Z12.out; have y5 := Z15.out; have y6 := Z18.out; have y7 := Z21.out; have y8 := Z24.out; have y9 := Z27.out; have y10 := Z30.out; have y11 := ZSx0.out; have y12 := Z33.out; first | omega | (simp at *; omega)))
  clear Ka0
  have Ka0 := NKa0
  clear NKa0
  have NW := Lib.hid (W.out.below b32)
  clear W
  have W := NW
  clear NW
  have NX0 := Lib.hid (X0.out.below b32)
  clear X0
  have X0 := NX0
  clear NX0
  have NKx0 := Lib.hid (Kx0.out.below b32 (by have y0 := Z3.out; have y1 := ZSa0.out; have y2 := Z6.out; have y3 := Z9.out; have y4 := Z12.out; have y5 := Z15.out; have y6 := Z18.out; have y7 := Z21.out; have y8 := Z24.out; have y9 := Z27.out; have y10 := Z30.out; have y11 := ZSx0.out; have y12 := Z33.out; first | omega | (simp at *; omega)))
  clear Kx0
  have Kx0 := NKx0
  clear NKx0
  have NB := Lib.hid (B.out.trans (b32.mono B.out.size))
  clear B
  have B := NB
  clear NB
  clear b32
  have X1 := Lib.hid hX1
  clear hX1
  have gKa00 : w31.cell? ⟨w.heap.size, 0, none⟩ = some (.int .i64 n0) := Ka0.out.cell 0
  have gKa01 : w31.cell? ⟨w.heap.size, 1, none⟩ = some (.slice A0 pss0.length c0) := Ka0.out.cell 1
  have gKx00 : w31.cell? ⟨w25.heap.size, 0, none⟩ = some (.int .i64 n0) := Kx0.out.cell 0
  have gKx01 : w31.cell? ⟨w25.heap.size, 1, none⟩ = some (.slice AaX0 pss0.length caX0) := Kx0.out.cell 1
  go_wp2_with fail
  clear gKa00 gKa01 gKx00 gKx01
  refine (n_to_rows _ _ xss2 (HA2.out.below B.out) F1_2.out).mono ?_
  rintro e w34 ⟨xX2, rfl, hX2, b35⟩
  have Z36 := Lib.hid (b35.size)
  have NKa0 := Lib.hid (Ka0.out.below b35 (by have y0 := Z3.out; have y1 := ZSa0.out; have y2 := Z6.out; have y3 := Z9.out; have y4 := Z12.out; have y5 := Z15.out; have y6 := Z18.out; have y7 := Z21.out; have y8 := Z24.out; have y9 := Z27.out; have y10 := Z30.out; have y11 := ZSx0.out; have y12 := Z33.out; have y13 := Z36.out; first | omega | (simp at *; omega)))
  clear Ka0
  have Ka0 := NKa0
  clear NKa0
  have NW := Lib.hid (W.out.below b35)
  clear W
  have W := NW
  clear NW
  have NX0 := Lib.hid (X0.out.below b35)
  clear X0
  have X0 := NX0
  clear NX0
  have NKx0 := Lib.hid (Kx0.out.below b35 (by have y0 := Z3.out; have y1 := ZSa0.out; have y2 := Z6.out; have y3 := Z9.out; have y4 := Z12.out; have y5 := Z15.out; have y6 := Z18.out; have y7 := Z21.out; have y8 := Z24.out; have y9 := Z27.out; have y10 := Z30.out; have y11 := ZSx0.out; have y12 := Z33.out; have y13 := Z36.out; first | omega | (simp at *; omega)))
  clear Kx0
  have Kx0 := NKx0
  clear NKx0
  have NX1 := Lib.hid (X1.out.below b35)
  clear X1
  have X1 := NX1
  clear NX1
  have NB := Lib.hid (B.out.trans (b35.mono B.out.size))
  clear B
  have B := NB
  clear NB
  clear b35
  have X2 := Lib.hid hX2
  clear hX2
  have gKa00 : w34.cell? ⟨w.heap.size, 0, none⟩ = some (.int .i64 n0) := Ka0.out.cell 0
  have gKa01 : w34.cell? ⟨w.heap.size, 1, none⟩ = some (.slice A0 pss0.length c0) := Ka0.out.cell 1
  have gKx00 : w34.cell? ⟨w25.heap.size, 0, none⟩ = some (.int .i64 n0) := Kx0.out.cell 0
  have gKx01 : w34.cell? ⟨w25.heap.size, 1, none⟩ = some (.slice AaX0 pss0.length caX0) := Kx0.out.cell 1
  go_wp2_with fail
  clear gKa00 gKa01 gKx00 gKx01
  refine (HI.out _ _ _ _ (X0.out.arg HN0.out) X1.out.rows X2.out.rows).mono ?_
  rintro e w37 ⟨xG, rfl, hG, b38⟩
  have Z39 := Lib.hid (b38.size)
  have NKa0 := Lib.hid (Ka0.out.below b38 (by have y0 := Z3.out; have y1 := ZSa0.out; have y2 := Z6.out; have y3 := Z9.out; have y4 := Z12.out; have y5 := Z15.out; have y6 := Z18.out; have y7 := Z21.out; have y8 := Z24.out; have y9 := Z27.out; have y10 := Z30.out; have y11 := ZSx0.out; have y12 := Z33.out; have y13 := Z36.out; have y14 := Z39.out; first | omega | (simp at *; omega)))
  clear Ka0
  have Ka0 := NKa0
  clear NKa0
  have NW := Lib.hid (W.out.below b38)
  clear W
  have W := NW
  clear NW
  have NX0 := Lib.hid (X0.out.below b38)
  clear X0
  have X0 := NX0
  clear NX0
  have NKx0 := Lib.hid (Kx0.out.below b38 (by have y0 := Z3.out; have y1 := ZSa0.out; have y2 := Z6.out; have y3 := Z9.out; have y4 := Z12.out; have y5 := Z15.out; have y6 := Z18.out; have y7 := Z21.out; have y8 := Z24.out; have y9 := Z27.out; have y10 := Z30.out; have y11 := ZSx0.out; have y12 := Z33.out; have y13 := Z36.out; have y14 := Z39.out; first | omega | (simp at *; omega)))
  clear Kx0
  have Kx0 := NKx0
  clear NKx0
  have NX1 := Lib.hid (X1.out.below b38)
  clear X1
  have X1 := NX1
  clear NX1
  have NX2 := Lib.hid (X2.out.below b38)
  clear X2
  have X2 := NX2
  clear NX2
  have NB := Lib.hid (B.out.trans (b38.mono B.out.size))
  clear B
  have B := NB
  clear NB
  clear b38
  have G := Lib.hid hG
  clear hG
  have gKa00 : w37.cell? ⟨w.heap.size, 0, none⟩ = some (.int .i64 n0) := Ka0.out.cell 0
  have gKa01 : w37.cell? ⟨w.heap.size, 1, none⟩ = some (.slice A0 pss0.length c0) := Ka0.out.cell 1
  have gKx00 : w37.cell? ⟨w25.heap.size, 0, none⟩ = some (.int .i64 n0) := Kx0.out.cell 0
  have gKx01 : w37.cell? ⟨w25.heap.size, 1, none⟩ = some (.slice AaX0 pss0.length caX0) := Kx0.out.cell 1
  go_wp2_with fail
  clear gKa00 gKa01 gKx00 gKx01
  refine (n_eq_ints _ _ _ r G.out.ints W.out.ints).mono ?_
  rintro e w40 ⟨rfl, b41⟩
  have Z42 := Lib.hid (b41.size)
  have NKa0 := Lib.hid (Ka0.out.below b41 (by have y0 := Z3.out; have y1 := ZSa0.out; have y2 := Z6.out; have y3 := Z9.out; have y4 := Z12.out; have y5 := Z15.out; have y6 := Z18.out; have y7 := Z21.out; have y8 := Z24.out; have y9 := Z27.out; have y10 := Z30.out; have y11 := ZSx0.out; have y12 := Z33.out; have y13 := Z36.out; have y14 := Z39.out; have y15 := Z42.out; first | omega | (simp at *; omega)))
  clear Ka0
  have Ka0 := NKa0
  clear NKa0
  have NW := Lib.hid (W.out.below b41)
  clear W
  have W := NW
  clear NW
  have NX0 := Lib.hid (X0.out.below b41)
  clear X0
  have X0 := NX0
  clear NX0
  have NKx0 := Lib.hid (Kx0.out.below b41 (by have y0 := Z3.out; have y1 := ZSa0.out; have y2 := Z6.out; have y3 := Z9.out; have y4 := Z12.out; have y5 := Z15.out; have y6 := Z18.out; have y7 := Z21.out; have y8 := Z24.out; have y9 := Z27.out; have y10 := Z30.out; have y11 := ZSx0.out; have y12 := Z33.out; have y13 := Z36.out; have y14 := Z39.out; have y15 := Z42.out; first | omega | (simp at *; omega)))
  clear Kx0
  have Kx0 := NKx0
  clear NKx0
  have NX1 := Lib.hid (X1.out.below b41)
  clear X1
  have X1 := NX1
  clear NX1
  have NX2 := Lib.hid (X2.out.below b41)
  clear X2
  have X2 := NX2
  clear NX2
  have NG := Lib.hid (G.out.below b41)
  clear G
  have G := NG
  clear NG
  have NB := Lib.hid (B.out.trans (b41.mono B.out.size))
  clear B
  have B := NB
  clear NB
  clear b41
  have gKa00 : w40.cell? ⟨w.heap.size, 0, none⟩ = some (.int .i64 n0) := Ka0.out.cell 0
  have gKa01 : w40.cell? ⟨w.heap.size, 1, none⟩ = some (.slice A0 pss0.length c0) := Ka0.out.cell 1
  have gKx00 : w40.cell? ⟨w25.heap.size, 0, none⟩ = some (.int .i64 n0) := Kx0.out.cell 0
  have gKx01 : w40.cell? ⟨w25.heap.size, 1, none⟩ = some (.slice AaX0 pss0.length caX0) := Kx0.out.cell 1
  go_wp2_with fail
  clear gKa00 gKa01 gKx00 gKx01
  have gKa00 : w40.cell? ⟨w.heap.size, 0, none⟩ = some (.int .i64 n0) := Ka0.out.cell 0
  have gKa01 : w40.cell? ⟨w.heap.size, 1, none⟩ = some (.slice A0 pss0.length c0) := Ka0.out.cell 1
  have gKx00 : w40.cell? ⟨w25.heap.size, 0, none⟩ = some (.int .i64 n0) := Kx0.out.cell 0
  have gKx01 : w40.cell? ⟨w25.heap.size, 1, none⟩ = some (.slice AaX0 pss0.length caX0) := Kx0.out.cell 1
  go_region_held3 (fun w' => w'.cell? ⟨w.heap.size, 0, none⟩ = some (.int .i64 n0) ∧ w'.cell? ⟨w.heap.size, 1, none⟩ = some (.slice A0 pss0.length c0) ∧ w'.cell? ⟨w25.heap.size, 0, none⟩ = some (.int .i64 n0) ∧ w'.cell? ⟨w25.heap.size, 1, none⟩ = some (.slice AaX0 pss0.length caX0)) ((go_split_ands; refine ⟨?_, ?_, ?_, ?_⟩ <;> (first | (rw [hb7.cell (by have l0 := Ka0.out.lt; have l1 := Kx0.out.lt; have h3 := hb6.size; simp at h3 ⊢; omega)]; assumption) | (rw [hb6.cell (by first | exact Ka0.out.lt | exact Kx0.out.lt)]; assumption) | go_keep)))
    (first | (go_at_call 20; refine (l_toField _ _ n0 pss0 (by exact HA0.out.below B.out.drew) F1_0.out F2_0.out F3_0.out).mono ?_; rintro e wq6 ⟨x1, rfl, hn6, hx1, hb6⟩) | (go_at_call 22; refine (l_eqField _ _ _ n0 n0 pss0 pss0 (by exact (X0.out.arg HN0.out).below (below_of_drew hb6)) (by exact hx1.arg HN0.out)).mono ?_; rintro e wq7 ⟨rfl, hb7⟩))
  clear gKa00 gKa01 gKx00 gKx01
  have hb6 : Below w40.heap.size w40 wq6 := below_of_drew hb6
  have Z43 := Lib.hid (hb6.size)
  have NKa0 := Lib.hid (Ka0.out.below hb6 (by have y0 := Z3.out; have y1 := ZSa0.out; have y2 := Z6.out; have y3 := Z9.out; have y4 := Z12.out; have y5 := Z15.out; have y6 := Z18.out; have y7 := Z21.out; have y8 := Z24.out; have y9 := Z27.out; have y10 := Z30.out; have y11 := ZSx0.out; have y12 := Z33.out; have y13 := Z36.out; have y14 := Z39.out; have y15 := Z42.out; have y16 := Z43.out; first | omega | (simp at *; omega)))
  clear Ka0
  have Ka0 := NKa0
  clear NKa0
  have NW := Lib.hid (W.out.below hb6)
  clear W
  have W := NW
  clear NW
  have NX0 := Lib.hid (X0.out.below hb6)
  clear X0
  have X0 := NX0
  clear NX0
  have NKx0 := Lib.hid (Kx0.out.below hb6 (by have y0 := Z3.out; have y1 := ZSa0.out; have y2 := Z6.out; have y3 := Z9.out; have y4 := Z12.out; have y5 := Z15.out; have y6 := Z18.out; have y7 := Z21.out; have y8 := Z24.out; have y9 := Z27.out; have y10 := Z30.out; have y11 := ZSx0.out; have y12 := Z33.out; have y13 := Z36.out; have y14 := Z39.out; have y15 := Z42.out; have y16 := Z43.out; first | omega | (simp at *; omega)))
  clear Kx0
  have Kx0 := NKx0
  clear NKx0
  have NX1 := Lib.hid (X1.out.below hb6)
  clear X1
  have X1 := NX1
  clear NX1
  have NX2 := Lib.hid (X2.out.below hb6)
  clear X2
  have X2 := NX2
  clear NX2
  have NG := Lib.hid (G.out.below hb6)
  clear G
  have G := NG
  clear NG
  have NB := Lib.hid (B.out.trans (hb6.mono B.out.size))
  clear B
  have B := NB
  clear NB
  have Z44 := Lib.hid (hb7.size)
  have NKa0 := Lib.hid (Ka0.out.below hb7 (by have y0 := Z3.out; have y1 := ZSa0.out; have y2 := Z6.out; have y3 := Z9.out; have y4 := Z12.out; have y5 := Z15.out; have y6 := Z18.out; have y7 := Z21.out; have y8 := Z24.out; have y9 := Z27.out; have y10 := Z30.out; have y11 := ZSx0.out; have y12 := Z33.out; have y13 := Z36.out; have y14 := Z39.out; have y15 := Z42.out; have y16 := Z43.out; have y17 := Z44.out; first | omega | (simp at *; omega)))
  clear Ka0
  have Ka0 := NKa0
  clear NKa0
  have NW := Lib.hid (W.out.below hb7)
  clear W
  have W := NW
  clear NW
  have NX0 := Lib.hid (X0.out.below hb7)
  clear X0
  have X0 := NX0
  clear NX0
  have NKx0 := Lib.hid (Kx0.out.below hb7 (by have y0 := Z3.out; have y1 := ZSa0.out; have y2 := Z6.out; have y3 := Z9.out; have y4 := Z12.out; have y5 := Z15.out; have y6 := Z18.out; have y7 := Z21.out; have y8 := Z24.out; have y9 := Z27.out; have y10 := Z30.out; have y11 := ZSx0.out; have y12 := Z33.out; have y13 := Z36.out; have y14 := Z39.out; have y15 := Z42.out; have y16 := Z43.out; have y17 := Z44.out; first | omega | (simp at *; omega)))
  clear Kx0
  have Kx0 := NKx0
  clear NKx0
  have NX1 := Lib.hid (X1.out.below hb7)
  clear X1
  have X1 := NX1
  clear NX1
  have NX2 := Lib.hid (X2.out.below hb7)
  clear X2
  have X2 := NX2
  clear NX2
  have NG := Lib.hid (G.out.below hb7)
  clear G
  have G := NG
  clear NG
  have NB := Lib.hid (B.out.trans (hb7.mono B.out.size))
  clear B
  have B := NB
  clear NB
  clear hb6 hb7 hx1 hn6
  have gKa00 : wq7.cell? ⟨w.heap.size, 0, none⟩ = some (.int .i64 n0) := Ka0.out.cell 0
  have gKa01 : wq7.cell? ⟨w.heap.size, 1, none⟩ = some (.slice A0 pss0.length c0) := Ka0.out.cell 1
  have gKx00 : wq7.cell? ⟨w25.heap.size, 0, none⟩ = some (.int .i64 n0) := Kx0.out.cell 0
  have gKx01 : wq7.cell? ⟨w25.heap.size, 1, none⟩ = some (.slice AaX0 pss0.length caX0) := Kx0.out.cell 1
  go_wp2_with fail
  clear gKa00 gKa01 gKx00 gKx01
  refine (n_to_rows _ _ xss1 (HA1.out.below B.out) F1_1.out).mono ?_
  rintro e w45 ⟨xY1, rfl, hY1, b46⟩
  have Z47 := Lib.hid (b46.size)
  have NKa0 := Lib.hid (Ka0.out.below b46 (by have y0 := Z3.out; have y1 := ZSa0.out; have y2 := Z6.out; have y3 := Z9.out; have y4 := Z12.out; have y5 := Z15.out; have y6 := Z18.out; have y7 := Z21.out; have y8 := Z24.out; have y9 := Z27.out; have y10 := Z30.out; have y11 := ZSx0.out; have y12 := Z33.out; have y13 := Z36.out; have y14 := Z39.out; have y15 := Z42.out; have y16 := Z43.out; have y17 := Z44.out; have y18 := Z47.out; first | omega | (simp at *; omega)))
  clear Ka0
  have Ka0 := NKa0
  clear NKa0
  have NW := Lib.hid (W.out.below b46)
  clear W
  have W := NW
  clear NW
  have NX0 := Lib.hid (X0.out.below b46)
  clear X0
  have X0 := NX0
  clear NX0
  have NKx0 := Lib.hid (Kx0.out.below b46 (by have y0 := Z3.out; have y1 := ZSa0.out; have y2 := Z6.out; have y3 := Z9.out; have y4 := Z12.out; have y5 := Z15.out; have y6 := Z18.out; have y7 := Z21.out; have y8 := Z24.out; have y9 := Z27.out; have y10 := Z30.out; have y11 := ZSx0.out; have y12 := Z33.out; have y13 := Z36.out; have y14 := Z39.out; have y15 := Z42.out; have y16 := Z43.out; have y17 := Z44.out; have y18 := Z47.out; first | omega | (simp at *; omega)))
  clear Kx0
  have Kx0 := NKx0
  clear NKx0
  have NX1 := Lib.hid (X1.out.below b46)
  clear X1
  have X1 := NX1
  clear NX1
  have NX2 := Lib.hid (X2.out.below b46)
  clear X2
  have X2 := NX2
  clear NX2
  have NG := Lib.hid (G.out.below b46)
  clear G
  have G := NG
  clear NG
  have NB := Lib.hid (B.out.trans (b46.mono B.out.size))
  clear B
  have B := NB
  clear NB
  clear b46
  have Y1 := Lib.hid hY1
  clear hY1
  have gKa00 : w45.cell? ⟨w.heap.size, 0, none⟩ = some (.int .i64 n0) := Ka0.out.cell 0
  have gKa01 : w45.cell? ⟨w.heap.size, 1, none⟩ = some (.slice A0 pss0.length c0) := Ka0.out.cell 1
  have gKx00 : w45.cell? ⟨w25.heap.size, 0, none⟩ = some (.int .i64 n0) := Kx0.out.cell 0
  have gKx01 : w45.cell? ⟨w25.heap.size, 1, none⟩ = some (.slice AaX0 pss0.length caX0) := Kx0.out.cell 1
  go_wp2_with fail
  clear gKa00 gKa01 gKx00 gKx01
  refine (n_eq_rows _ _ _ xss1 X1.out.rows Y1.out.rows).mono ?_
  rintro e w48 ⟨rfl, b49⟩
  have Z50 := Lib.hid (b49.size)
  have NKa0 := Lib.hid (Ka0.out.below b49 (by have y0 := Z3.out; have y1 := ZSa0.out; have y2 := Z6.out; have y3 := Z9.out; have y4 := Z12.out; have y5 := Z15.out; have y6 := Z18.out; have y7 := Z21.out; have y8 := Z24.out; have y9 := Z27.out; have y10 := Z30.out; have y11 := ZSx0.out; have y12 := Z33.out; have y13 := Z36.out; have y14 := Z39.out; have y15 := Z42.out; have y16 := Z43.out; have y17 := Z44.out; have y18 := Z47.out; have y19 := Z50.out; first | omega | (simp at *; omega)))
  clear Ka0
  have Ka0 := NKa0
  clear NKa0
  have NW := Lib.hid (W.out.below b49)
  clear W
  have W := NW
  clear NW
  have NX0 := Lib.hid (X0.out.below b49)
  clear X0
  have X0 := NX0
  clear NX0
  have NKx0 := Lib.hid (Kx0.out.below b49 (by have y0 := Z3.out; have y1 := ZSa0.out; have y2 := Z6.out; have y3 := Z9.out; have y4 := Z12.out; have y5 := Z15.out; have y6 := Z18.out; have y7 := Z21.out; have y8 := Z24.out; have y9 := Z27.out; have y10 := Z30.out; have y11 := ZSx0.out; have y12 := Z33.out; have y13 := Z36.out; have y14 := Z39.out; have y15 := Z42.out; have y16 := Z43.out; have y17 := Z44.out; have y18 := Z47.out; have y19 := Z50.out; first | omega | (simp at *; omega)))
  clear Kx0
  have Kx0 := NKx0
  clear NKx0
  have NX1 := Lib.hid (X1.out.below b49)
  clear X1
  have X1 := NX1
  clear NX1
  have NX2 := Lib.hid (X2.out.below b49)
  clear X2
  have X2 := NX2
  clear NX2
  have NG := Lib.hid (G.out.below b49)
  clear G
  have G := NG
  clear NG
  have NY1 := Lib.hid (Y1.out.below b49)
  clear Y1
  have Y1 := NY1
  clear NY1
  have NB := Lib.hid (B.out.trans (b49.mono B.out.size))
  clear B
  have B := NB
  clear NB
  clear b49
  clear Y1
  have gKa00 : w48.cell? ⟨w.heap.size, 0, none⟩ = some (.int .i64 n0) := Ka0.out.cell 0
  have gKa01 : w48.cell? ⟨w.heap.size, 1, none⟩ = some (.slice A0 pss0.length c0) := Ka0.out.cell 1
  have gKx00 : w48.cell? ⟨w25.heap.size, 0, none⟩ = some (.int .i64 n0) := Kx0.out.cell 0
  have gKx01 : w48.cell? ⟨w25.heap.size, 1, none⟩ = some (.slice AaX0 pss0.length caX0) := Kx0.out.cell 1
  go_wp2_with fail
  clear gKa00 gKa01 gKx00 gKx01
  refine (n_to_rows _ _ xss2 (HA2.out.below B.out) F1_2.out).mono ?_
  rintro e w51 ⟨xY2, rfl, hY2, b52⟩
  have Z53 := Lib.hid (b52.size)
  have NKa0 := Lib.hid (Ka0.out.below b52 (by have y0 := Z3.out; have y1 := ZSa0.out; have y2 := Z6.out; have y3 := Z9.out; have y4 := Z12.out; have y5 := Z15.out; have y6 := Z18.out; have y7 := Z21.out; have y8 := Z24.out; have y9 := Z27.out; have y10 := Z30.out; have y11 := ZSx0.out; have y12 := Z33.out; have y13 := Z36.out; have y14 := Z39.out; have y15 := Z42.out; have y16 := Z43.out; have y17 := Z44.out; have y18 := Z47.out; have y19 := Z50.out; have y20 := Z53.out; first | omega | (simp at *; omega)))
  clear Ka0
  have Ka0 := NKa0
  clear NKa0
  have NW := Lib.hid (W.out.below b52)
  clear W
  have W := NW
  clear NW
  have NX0 := Lib.hid (X0.out.below b52)
  clear X0
  have X0 := NX0
  clear NX0
  have NKx0 := Lib.hid (Kx0.out.below b52 (by have y0 := Z3.out; have y1 := ZSa0.out; have y2 := Z6.out; have y3 := Z9.out; have y4 := Z12.out; have y5 := Z15.out; have y6 := Z18.out; have y7 := Z21.out; have y8 := Z24.out; have y9 := Z27.out; have y10 := Z30.out; have y11 := ZSx0.out; have y12 := Z33.out; have y13 := Z36.out; have y14 := Z39.out; have y15 := Z42.out; have y16 := Z43.out; have y17 := Z44.out; have y18 := Z47.out; have y19 := Z50.out; have y20 := Z53.out; first | omega | (simp at *; omega)))
  clear Kx0
  have Kx0 := NKx0
  clear NKx0
  have NX1 := Lib.hid (X1.out.below b52)
  clear X1
  have X1 := NX1
  clear NX1
  have NX2 := Lib.hid (X2.out.below b52)
  clear X2
  have X2 := NX2
  clear NX2
  have NG := Lib.hid (G.out.below b52)
  clear G
  have G := NG
  clear NG
  have NB := Lib.hid (B.out.trans (b52.mono B.out.size))
  clear B
  have B := NB
  clear NB
  clear b52
  have Y2 := Lib.hid hY2
  clear hY2
  have gKa00 : w51.cell? ⟨w.heap.size, 0, none⟩ = some (.int .i64 n0) := Ka0.out.cell 0
  have gKa01 : w51.cell? ⟨w.heap.size, 1, none⟩ = some (.slice A0 pss0.length c0) := Ka0.out.cell 1
  have gKx00 : w51.cell? ⟨w25.heap.size, 0, none⟩ = some (.int .i64 n0) := Kx0.out.cell 0
  have gKx01 : w51.cell? ⟨w25.heap.size, 1, none⟩ = some (.slice AaX0 pss0.length caX0) := Kx0.out.cell 1
  go_wp2_with fail
  clear gKa00 gKa01 gKx00 gKx01
  refine (n_eq_rows _ _ _ xss2 X2.out.rows Y2.out.rows).mono ?_
  rintro e w54 ⟨rfl, b55⟩
  have Z56 := Lib.hid (b55.size)
  have NKa0 := Lib.hid (Ka0.out.below b55 (by have y0 := Z3.out; have y1 := ZSa0.out; have y2 := Z6.out; have y3 := Z9.out; have y4 := Z12.out; have y5 := Z15.out; have y6 := Z18.out; have y7 := Z21.out; have y8 := Z24.out; have y9 := Z27.out; have y10 := Z30.out; have y11 := ZSx0.out; have y12 := Z33.out; have y13 := Z36.out; have y14 := Z39.out; have y15 := Z42.out; have y16 := Z43.out; have y17 := Z44.out; have y18 := Z47.out; have y19 := Z50.out; have y20 := Z53.out; have y21 := Z56.out; first | omega | (simp at *; omega)))
  clear Ka0
  have Ka0 := NKa0
  clear NKa0
  have NW := Lib.hid (W.out.below b55)
  clear W
  have W := NW
  clear NW
  have NX0 := Lib.hid (X0.out.below b55)
  clear X0
  have X0 := NX0
  clear NX0
  have NKx0 := Lib.hid (Kx0.out.below b55 (by have y0 := Z3.out; have y1 := ZSa0.out; have y2 := Z6.out; have y3 := Z9.out; have y4 := Z12.out; have y5 := Z15.out; have y6 := Z18.out; have y7 := Z21.out; have y8 := Z24.out; have y9 := Z27.out; have y10 := Z30.out; have y11 := ZSx0.out; have y12 := Z33.out; have y13 := Z36.out; have y14 := Z39.out; have y15 := Z42.out; have y16 := Z43.out; have y17 := Z44.out; have y18 := Z47.out; have y19 := Z50.out; have y20 := Z53.out; have y21 := Z56.out; first | omega | (simp at *; omega)))
  clear Kx0
  have Kx0 := NKx0
  clear NKx0
  have NX1 := Lib.hid (X1.out.below b55)
  clear X1
  have X1 := NX1
  clear NX1
  have NX2 := Lib.hid (X2.out.below b55)
  clear X2
  have X2 := NX2
  clear NX2
  have NG := Lib.hid (G.out.below b55)
  clear G
  have G := NG
  clear NG
  have NY2 := Lib.hid (Y2.out.below b55)
  clear Y2
  have Y2 := NY2
  clear NY2
  have NB := Lib.hid (B.out.trans (b55.mono B.out.size))
  clear B
  have B := NB
  clear NB
  clear b55
  clear Y2
  have gKa00 : w54.cell? ⟨w.heap.size, 0, none⟩ = some (.int .i64 n0) := Ka0.out.cell 0
  have gKa01 : w54.cell? ⟨w.heap.size, 1, none⟩ = some (.slice A0 pss0.length c0) := Ka0.out.cell 1
  have gKx00 : w54.cell? ⟨w25.heap.size, 0, none⟩ = some (.int .i64 n0) := Kx0.out.cell 0
  have gKx01 : w54.cell? ⟨w25.heap.size, 1, none⟩ = some (.slice AaX0 pss0.length caX0) := Kx0.out.cell 1
  go_wp2_with fail
  clear gKa00 gKa01 gKx00 gKx01
  refine (l_markField _ _ _ n0 _ pss0 (1) X0.out (by have y0 := Z3.out; have y1 := ZSa0.out; have y2 := Z6.out; have y3 := Z9.out; have y4 := Z12.out; have y5 := Z15.out; have y6 := Z18.out; have y7 := Z21.out; have y8 := Z24.out; have y9 := Z27.out; have y10 := Z30.out; have y11 := ZSx0.out; have y12 := Z33.out; have y13 := Z36.out; have y14 := Z39.out; have y15 := Z42.out; have y16 := Z43.out; have y17 := Z44.out; have y18 := Z47.out; have y19 := Z50.out; have y20 := Z53.out; have y21 := Z56.out; omega) (by omega) (by omega) (by omega)).mono ?_
  rintro e w57 ⟨rfl, chw57⟩
  have Z58 := Lib.hid (chw57.size)
  have NKa0 := Lib.hid (Ka0.out.chg chw57 (by have y0 := Z3.out; have y1 := ZSa0.out; have y2 := Z6.out; have y3 := Z9.out; have y4 := Z12.out; have y5 := Z15.out; have y6 := Z18.out; have y7 := Z21.out; have y8 := Z24.out; have y9 := Z27.out; have y10 := Z30.out; have y11 := ZSx0.out; have y12 := Z33.out; have y13 := Z36.out; have y14 := Z39.out; have y15 := Z42.out; have y16 := Z43.out; have y17 := Z44.out; have y18 := Z47.out; have y19 := Z50.out; have y20 := Z53.out; have y21 := Z56.out; have y22 := Z58.out; omega))
  clear Ka0
  have Ka0 := NKa0
  clear NKa0
  have NW := Lib.hid (W.out.kept chw57 (by have y0 := Z3.out; have y1 := ZSa0.out; have y2 := Z6.out; have y3 := Z9.out; have y4 := Z12.out; have y5 := Z15.out; have y6 := Z18.out; have y7 := Z21.out; have y8 := Z24.out; have y9 := Z27.out; have y10 := Z30.out; have y11 := ZSx0.out; have y12 := Z33.out; have y13 := Z36.out; have y14 := Z39.out; have y15 := Z42.out; have y16 := Z43.out; have y17 := Z44.out; have y18 := Z47.out; have y19 := Z50.out; have y20 := Z53.out; have y21 := Z56.out; have y22 := Z58.out; omega))
  clear W
  have W := NW
  clear NW
  have NKx0 := Lib.hid (Kx0.out.chg chw57 (by have y0 := Z3.out; have y1 := ZSa0.out; have y2 := Z6.out; have y3 := Z9.out; have y4 := Z12.out; have y5 := Z15.out; have y6 := Z18.out; have y7 := Z21.out; have y8 := Z24.out; have y9 := Z27.out; have y10 := Z30.out; have y11 := ZSx0.out; have y12 := Z33.out; have y13 := Z36.out; have y14 := Z39.out; have y15 := Z42.out; have y16 := Z43.out; have y17 := Z44.out; have y18 := Z47.out; have y19 := Z50.out; have y20 := Z53.out; have y21 := Z56.out; have y22 := Z58.out; omega))
  clear Kx0
  have Kx0 := NKx0
  clear NKx0
  have NX1 := Lib.hid (X1.out.kept chw57 (by have y0 := Z3.out; have y1 := ZSa0.out; have y2 := Z6.out; have y3 := Z9.out; have y4 := Z12.out; have y5 := Z15.out; have y6 := Z18.out; have y7 := Z21.out; have y8 := Z24.out; have y9 := Z27.out; have y10 := Z30.out; have y11 := ZSx0.out; have y12 := Z33.out; have y13 := Z36.out; have y14 := Z39.out; have y15 := Z42.out; have y16 := Z43.out; have y17 := Z44.out; have y18 := Z47.out; have y19 := Z50.out; have y20 := Z53.out; have y21 := Z56.out; have y22 := Z58.out; omega))
  clear X1
  have X1 := NX1
  clear NX1
  have NX2 := Lib.hid (X2.out.kept chw57 (by have y0 := Z3.out; have y1 := ZSa0.out; have y2 := Z6.out; have y3 := Z9.out; have y4 := Z12.out; have y5 := Z15.out; have y6 := Z18.out; have y7 := Z21.out; have y8 := Z24.out; have y9 := Z27.out; have y10 := Z30.out; have y11 := ZSx0.out; have y12 := Z33.out; have y13 := Z36.out; have y14 := Z39.out; have y15 := Z42.out; have y16 := Z43.out; have y17 := Z44.out; have y18 := Z47.out; have y19 := Z50.out; have y20 := Z53.out; have y21 := Z56.out; have y22 := Z58.out; omega))
  clear X2
  have X2 := NX2
  clear NX2
  have NG := Lib.hid (G.out.kept chw57 (by have y0 := Z3.out; have y1 := ZSa0.out; have y2 := Z6.out; have y3 := Z9.out; have y4 := Z12.out; have y5 := Z15.out; have y6 := Z18.out; have y7 := Z21.out; have y8 := Z24.out; have y9 := Z27.out; have y10 := Z30.out; have y11 := ZSx0.out; have y12 := Z33.out; have y13 := Z36.out; have y14 := Z39.out; have y15 := Z42.out; have y16 := Z43.out; have y17 := Z44.out; have y18 := Z47.out; have y19 := Z50.out; have y20 := Z53.out; have y21 := Z56.out; have y22 := Z58.out; omega))
  clear G
  have G := NG
  clear NG
  clear X0
  have NB := Lib.hid (chw57.below B.out (by have y0 := Z3.out; have y1 := ZSa0.out; have y2 := Z6.out; have y3 := Z9.out; have y4 := Z12.out; have y5 := Z15.out; have y6 := Z18.out; have y7 := Z21.out; have y8 := Z24.out; have y9 := Z27.out; have y10 := Z30.out; have y11 := ZSx0.out; have y12 := Z33.out; have y13 := Z36.out; have y14 := Z39.out; have y15 := Z42.out; have y16 := Z43.out; have y17 := Z44.out; have y18 := Z47.out; have y19 := Z50.out; have y20 := Z53.out; have y21 := Z56.out; have y22 := Z58.out; omega) B.out.size)
  clear B
  have B := NB
  clear NB
  clear chw57
  have gKa00 : w57.cell? ⟨w.heap.size, 0, none⟩ = some (.int .i64 n0) := Ka0.out.cell 0
  have gKa01 : w57.cell? ⟨w.heap.size, 1, none⟩ = some (.slice A0 pss0.length c0) := Ka0.out.cell 1
  have gKx00 : w57.cell? ⟨w25.heap.size, 0, none⟩ = some (.int .i64 n0) := Kx0.out.cell 0
  have gKx01 : w57.cell? ⟨w25.heap.size, 1, none⟩ = some (.slice AaX0 pss0.length caX0) := Kx0.out.cell 1
  go_wp2_with fail
  clear gKa00 gKa01 gKx00 gKx01
  refine (n_mark_rows _ _ _ _ xss1 (1 + (fTot pss0 : Nat)) X1.out (by omega) (by omega) (by omega)).mono ?_
  rintro e w59 ⟨rfl, -, chw59⟩
  have Z60 := Lib.hid (chw59.size)
  have NKa0 := Lib.hid (Ka0.out.chg chw59 (by have y0 := Z3.out; have y1 := ZSa0.out; have y2 := Z6.out; have y3 := Z9.out; have y4 := Z12.out; have y5 := Z15.out; have y6 := Z18.out; have y7 := Z21.out; have y8 := Z24.out; have y9 := Z27.out; have y10 := Z30.out; have y11 := ZSx0.out; have y12 := Z33.out; have y13 := Z36.out; have y14 := Z39.out; have y15 := Z42.out; have y16 := Z43.out; have y17 := Z44.out; have y18 := Z47.out; have y19 := Z50.out; have y20 := Z53.out; have y21 := Z56.out; have y22 := Z58.out; have y23 := Z60.out; omega))
  clear Ka0
  have Ka0 := NKa0
  clear NKa0
  have NW := Lib.hid (W.out.kept chw59 (by have y0 := Z3.out; have y1 := ZSa0.out; have y2 := Z6.out; have y3 := Z9.out; have y4 := Z12.out; have y5 := Z15.out; have y6 := Z18.out; have y7 := Z21.out; have y8 := Z24.out; have y9 := Z27.out; have y10 := Z30.out; have y11 := ZSx0.out; have y12 := Z33.out; have y13 := Z36.out; have y14 := Z39.out; have y15 := Z42.out; have y16 := Z43.out; have y17 := Z44.out; have y18 := Z47.out; have y19 := Z50.out; have y20 := Z53.out; have y21 := Z56.out; have y22 := Z58.out; have y23 := Z60.out; omega))
  clear W
  have W := NW
  clear NW
  have NKx0 := Lib.hid (Kx0.out.chg chw59 (by have y0 := Z3.out; have y1 := ZSa0.out; have y2 := Z6.out; have y3 := Z9.out; have y4 := Z12.out; have y5 := Z15.out; have y6 := Z18.out; have y7 := Z21.out; have y8 := Z24.out; have y9 := Z27.out; have y10 := Z30.out; have y11 := ZSx0.out; have y12 := Z33.out; have y13 := Z36.out; have y14 := Z39.out; have y15 := Z42.out; have y16 := Z43.out; have y17 := Z44.out; have y18 := Z47.out; have y19 := Z50.out; have y20 := Z53.out; have y21 := Z56.out; have y22 := Z58.out; have y23 := Z60.out; omega))
  clear Kx0
  have Kx0 := NKx0
  clear NKx0
  have NX2 := Lib.hid (X2.out.kept chw59 (by have y0 := Z3.out; have y1 := ZSa0.out; have y2 := Z6.out; have y3 := Z9.out; have y4 := Z12.out; have y5 := Z15.out; have y6 := Z18.out; have y7 := Z21.out; have y8 := Z24.out; have y9 := Z27.out; have y10 := Z30.out; have y11 := ZSx0.out; have y12 := Z33.out; have y13 := Z36.out; have y14 := Z39.out; have y15 := Z42.out; have y16 := Z43.out; have y17 := Z44.out; have y18 := Z47.out; have y19 := Z50.out; have y20 := Z53.out; have y21 := Z56.out; have y22 := Z58.out; have y23 := Z60.out; omega))
  clear X2
  have X2 := NX2
  clear NX2
  have NG := Lib.hid (G.out.kept chw59 (by have y0 := Z3.out; have y1 := ZSa0.out; have y2 := Z6.out; have y3 := Z9.out; have y4 := Z12.out; have y5 := Z15.out; have y6 := Z18.out; have y7 := Z21.out; have y8 := Z24.out; have y9 := Z27.out; have y10 := Z30.out; have y11 := ZSx0.out; have y12 := Z33.out; have y13 := Z36.out; have y14 := Z39.out; have y15 := Z42.out; have y16 := Z43.out; have y17 := Z44.out; have y18 := Z47.out; have y19 := Z50.out; have y20 := Z53.out; have y21 := Z56.out; have y22 := Z58.out; have y23 := Z60.out; omega))
  clear G
  have G := NG
  clear NG
  clear X1
  have NB := Lib.hid (chw59.below B.out (by have y0 := Z3.out; have y1 := ZSa0.out; have y2 := Z6.out; have y3 := Z9.out; have y4 := Z12.out; have y5 := Z15.out; have y6 := Z18.out; have y7 := Z21.out; have y8 := Z24.out; have y9 := Z27.out; have y10 := Z30.out; have y11 := ZSx0.out; have y12 := Z33.out; have y13 := Z36.out; have y14 := Z39.out; have y15 := Z42.out; have y16 := Z43.out; have y17 := Z44.out; have y18 := Z47.out; have y19 := Z50.out; have y20 := Z53.out; have y21 := Z56.out; have y22 := Z58.out; have y23 := Z60.out; omega) B.out.size)
  clear B
  have B := NB
  clear NB
  clear chw59
  have gKa00 : w59.cell? ⟨w.heap.size, 0, none⟩ = some (.int .i64 n0) := Ka0.out.cell 0
  have gKa01 : w59.cell? ⟨w.heap.size, 1, none⟩ = some (.slice A0 pss0.length c0) := Ka0.out.cell 1
  have gKx00 : w59.cell? ⟨w25.heap.size, 0, none⟩ = some (.int .i64 n0) := Kx0.out.cell 0
  have gKx01 : w59.cell? ⟨w25.heap.size, 1, none⟩ = some (.slice AaX0 pss0.length caX0) := Kx0.out.cell 1
  go_wp2_with fail
  clear gKa00 gKa01 gKx00 gKx01
  refine (n_mark_rows _ _ _ _ xss2 (1 + (fTot pss0 : Nat) + (tot xss1 : Nat)) X2.out (by omega) (by omega) (by omega)).mono ?_
  rintro e w61 ⟨rfl, -, chw61⟩
  have Z62 := Lib.hid (chw61.size)
  have NKa0 := Lib.hid (Ka0.out.chg chw61 (by have y0 := Z3.out; have y1 := ZSa0.out; have y2 := Z6.out; have y3 := Z9.out; have y4 := Z12.out; have y5 := Z15.out; have y6 := Z18.out; have y7 := Z21.out; have y8 := Z24.out; have y9 := Z27.out; have y10 := Z30.out; have y11 := ZSx0.out; have y12 := Z33.out; have y13 := Z36.out; have y14 := Z39.out; have y15 := Z42.out; have y16 := Z43.out; have y17 := Z44.out; have y18 := Z47.out; have y19 := Z50.out; have y20 := Z53.out; have y21 := Z56.out; have y22 := Z58.out; have y23 := Z60.out; have y24 := Z62.out; omega))
  clear Ka0
  have Ka0 := NKa0
  clear NKa0
  have NW := Lib.hid (W.out.kept chw61 (by have y0 := Z3.out; have y1 := ZSa0.out; have y2 := Z6.out; have y3 := Z9.out; have y4 := Z12.out; have y5 := Z15.out; have y6 := Z18.out; have y7 := Z21.out; have y8 := Z24.out; have y9 := Z27.out; have y10 := Z30.out; have y11 := ZSx0.out; have y12 := Z33.out; have y13 := Z36.out; have y14 := Z39.out; have y15 := Z42.out; have y16 := Z43.out; have y17 := Z44.out; have y18 := Z47.out; have y19 := Z50.out; have y20 := Z53.out; have y21 := Z56.out; have y22 := Z58.out; have y23 := Z60.out; have y24 := Z62.out; omega))
  clear W
  have W := NW
  clear NW
  have NKx0 := Lib.hid (Kx0.out.chg chw61 (by have y0 := Z3.out; have y1 := ZSa0.out; have y2 := Z6.out; have y3 := Z9.out; have y4 := Z12.out; have y5 := Z15.out; have y6 := Z18.out; have y7 := Z21.out; have y8 := Z24.out; have y9 := Z27.out; have y10 := Z30.out; have y11 := ZSx0.out; have y12 := Z33.out; have y13 := Z36.out; have y14 := Z39.out; have y15 := Z42.out; have y16 := Z43.out; have y17 := Z44.out; have y18 := Z47.out; have y19 := Z50.out; have y20 := Z53.out; have y21 := Z56.out; have y22 := Z58.out; have y23 := Z60.out; have y24 := Z62.out; omega))
  clear Kx0
  have Kx0 := NKx0
  clear NKx0
  have NG := Lib.hid (G.out.kept chw61 (by have y0 := Z3.out; have y1 := ZSa0.out; have y2 := Z6.out; have y3 := Z9.out; have y4 := Z12.out; have y5 := Z15.out; have y6 := Z18.out; have y7 := Z21.out; have y8 := Z24.out; have y9 := Z27.out; have y10 := Z30.out; have y11 := ZSx0.out; have y12 := Z33.out; have y13 := Z36.out; have y14 := Z39.out; have y15 := Z42.out; have y16 := Z43.out; have y17 := Z44.out; have y18 := Z47.out; have y19 := Z50.out; have y20 := Z53.out; have y21 := Z56.out; have y22 := Z58.out; have y23 := Z60.out; have y24 := Z62.out; omega))
  clear G
  have G := NG
  clear NG
  clear X2
  have NB := Lib.hid (chw61.below B.out (by have y0 := Z3.out; have y1 := ZSa0.out; have y2 := Z6.out; have y3 := Z9.out; have y4 := Z12.out; have y5 := Z15.out; have y6 := Z18.out; have y7 := Z21.out; have y8 := Z24.out; have y9 := Z27.out; have y10 := Z30.out; have y11 := ZSx0.out; have y12 := Z33.out; have y13 := Z36.out; have y14 := Z39.out; have y15 := Z42.out; have y16 := Z43.out; have y17 := Z44.out; have y18 := Z47.out; have y19 := Z50.out; have y20 := Z53.out; have y21 := Z56.out; have y22 := Z58.out; have y23 := Z60.out; have y24 := Z62.out; omega) B.out.size)
  clear B
  have B := NB
  clear NB
  clear chw61
  have hk0 : (0 : Int) ≤ 1 + (fTot pss0 : Nat) + (tot xss1 : Nat) + (tot xss2 : Nat) := by omega
  have gKa00 : w61.cell? ⟨w.heap.size, 0, none⟩ = some (.int .i64 n0) := Ka0.out.cell 0
  have gKa01 : w61.cell? ⟨w.heap.size, 1, none⟩ = some (.slice A0 pss0.length c0) := Ka0.out.cell 1
  have gKx00 : w61.cell? ⟨w25.heap.size, 0, none⟩ = some (.int .i64 n0) := Kx0.out.cell 0
  have gKx01 : w61.cell? ⟨w25.heap.size, 1, none⟩ = some (.slice AaX0 pss0.length caX0) := Kx0.out.cell 1
  go_wp2_with fail
  clear gKa00 gKa01 gKx00 gKx01
  clear hk0
  refine (n_eq_ints _ _ _ r G.out.ints W.out.ints).mono ?_
  rintro e w63 ⟨rfl, b64⟩
  have Z65 := Lib.hid (b64.size)
  have NKa0 := Lib.hid (Ka0.out.below b64 (by have y0 := Z3.out; have y1 := ZSa0.out; have y2 := Z6.out; have y3 := Z9.out; have y4 := Z12.out; have y5 := Z15.out; have y6 := Z18.out; have y7 := Z21.out; have y8 := Z24.out; have y9 := Z27.out; have y10 := Z30.out; have y11 := ZSx0.out; have y12 := Z33.out; have y13 := Z36.out; have y14 := Z39.out; have y15 := Z42.out; have y16 := Z43.out; have y17 := Z44.out; have y18 := Z47.out; have y19 := Z50.out; have y20 := Z53.out; have y21 := Z56.out; have y22 := Z58.out; have y23 := Z60.out; have y24 := Z62.out; have y25 := Z65.out; first | omega | (simp at *; omega)))
  clear Ka0
  have Ka0 := NKa0
  clear NKa0
  have NW := Lib.hid (W.out.below b64)
  clear W
  have W := NW
  clear NW
  have NKx0 := Lib.hid (Kx0.out.below b64 (by have y0 := Z3.out; have y1 := ZSa0.out; have y2 := Z6.out; have y3 := Z9.out; have y4 := Z12.out; have y5 := Z15.out; have y6 := Z18.out; have y7 := Z21.out; have y8 := Z24.out; have y9 := Z27.out; have y10 := Z30.out; have y11 := ZSx0.out; have y12 := Z33.out; have y13 := Z36.out; have y14 := Z39.out; have y15 := Z42.out; have y16 := Z43.out; have y17 := Z44.out; have y18 := Z47.out; have y19 := Z50.out; have y20 := Z53.out; have y21 := Z56.out; have y22 := Z58.out; have y23 := Z60.out; have y24 := Z62.out; have y25 := Z65.out; first | omega | (simp at *; omega)))
  clear Kx0
  have Kx0 := NKx0
  clear NKx0
  have NG := Lib.hid (G.out.below b64)
  clear G
  have G := NG
  clear NG
  have NB := Lib.hid (B.out.trans (b64.mono B.out.size))
  clear B
  have B := NB
  clear NB
  clear b64
  have gKa00 : w63.cell? ⟨w.heap.size, 0, none⟩ = some (.int .i64 n0) := Ka0.out.cell 0
  have gKa01 : w63.cell? ⟨w.heap.size, 1, none⟩ = some (.slice A0 pss0.length c0) := Ka0.out.cell 1
  have gKx00 : w63.cell? ⟨w25.heap.size, 0, none⟩ = some (.int .i64 n0) := Kx0.out.cell 0
  have gKx01 : w63.cell? ⟨w25.heap.size, 1, none⟩ = some (.slice AaX0 pss0.length caX0) := Kx0.out.cell 1
  go_wp2_with fail
  clear gKa00 gKa01 gKx00 gKx01
  have hr0 : (0 : Int) ≤ 1 + ((r.length : Nat) : Int) := by omega
  refine (n_mark_ints _ _ _ _ r 1 G.out (by have y := HR.out; omega) (by omega) (by omega)).mono ?_
  rintro e w66 ⟨rfl, hw66, chw66⟩
  have Z67 := Lib.hid (chw66.size)
  have NKa0 := Lib.hid (Ka0.out.chg chw66 (by have y0 := Z3.out; have y1 := ZSa0.out; have y2 := Z6.out; have y3 := Z9.out; have y4 := Z12.out; have y5 := Z15.out; have y6 := Z18.out; have y7 := Z21.out; have y8 := Z24.out; have y9 := Z27.out; have y10 := Z30.out; have y11 := ZSx0.out; have y12 := Z33.out; have y13 := Z36.out; have y14 := Z39.out; have y15 := Z42.out; have y16 := Z43.out; have y17 := Z44.out; have y18 := Z47.out; have y19 := Z50.out; have y20 := Z53.out; have y21 := Z56.out; have y22 := Z58.out; have y23 := Z60.out; have y24 := Z62.out; have y25 := Z65.out; have y26 := Z67.out; omega))
  clear Ka0
  have Ka0 := NKa0
  clear NKa0
  have NW := Lib.hid (W.out.kept chw66 (by have y0 := Z3.out; have y1 := ZSa0.out; have y2 := Z6.out; have y3 := Z9.out; have y4 := Z12.out; have y5 := Z15.out; have y6 := Z18.out; have y7 := Z21.out; have y8 := Z24.out; have y9 := Z27.out; have y10 := Z30.out; have y11 := ZSx0.out; have y12 := Z33.out; have y13 := Z36.out; have y14 := Z39.out; have y15 := Z42.out; have y16 := Z43.out; have y17 := Z44.out; have y18 := Z47.out; have y19 := Z50.out; have y20 := Z53.out; have y21 := Z56.out; have y22 := Z58.out; have y23 := Z60.out; have y24 := Z62.out; have y25 := Z65.out; have y26 := Z67.out; omega))
  clear W
  have W := NW
  clear NW
  have NKx0 := Lib.hid (Kx0.out.chg chw66 (by have y0 := Z3.out; have y1 := ZSa0.out; have y2 := Z6.out; have y3 := Z9.out; have y4 := Z12.out; have y5 := Z15.out; have y6 := Z18.out; have y7 := Z21.out; have y8 := Z24.out; have y9 := Z27.out; have y10 := Z30.out; have y11 := ZSx0.out; have y12 := Z33.out; have y13 := Z36.out; have y14 := Z39.out; have y15 := Z42.out; have y16 := Z43.out; have y17 := Z44.out; have y18 := Z47.out; have y19 := Z50.out; have y20 := Z53.out; have y21 := Z56.out; have y22 := Z58.out; have y23 := Z60.out; have y24 := Z62.out; have y25 := Z65.out; have y26 := Z67.out; omega))
  clear Kx0
  have Kx0 := NKx0
  clear NKx0
  have NG := Lib.hid (hw66)
  clear G
  have G := NG
  clear NG
  have NB := Lib.hid (chw66.below B.out (by have y0 := Z3.out; have y1 := ZSa0.out; have y2 := Z6.out; have y3 := Z9.out; have y4 := Z12.out; have y5 := Z15.out; have y6 := Z18.out; have y7 := Z21.out; have y8 := Z24.out; have y9 := Z27.out; have y10 := Z30.out; have y11 := ZSx0.out; have y12 := Z33.out; have y13 := Z36.out; have y14 := Z39.out; have y15 := Z42.out; have y16 := Z43.out; have y17 := Z44.out; have y18 := Z47.out; have y19 := Z50.out; have y20 := Z53.out; have y21 := Z56.out; have y22 := Z58.out; have y23 := Z60.out; have y24 := Z62.out; have y25 := Z65.out; have y26 := Z67.out; omega) B.out.size)
  clear B
  have B := NB
  clear NB
  clear hw66 chw66
  have gKa00 : w66.cell? ⟨w.heap.size, 0, none⟩ = some (.int .i64 n0) := Ka0.out.cell 0
  have gKa01 : w66.cell? ⟨w.heap.size, 1, none⟩ = some (.slice A0 pss0.length c0) := Ka0.out.cell 1
  have gKx00 : w66.cell? ⟨w25.heap.size, 0, none⟩ = some (.int .i64 n0) := Kx0.out.cell 0
  have gKx01 : w66.cell? ⟨w25.heap.size, 1, none⟩ = some (.slice AaX0 pss0.length caX0) := Kx0.out.cell 1
  go_wp2_with fail
  clear gKa00 gKa01 gKx00 gKx01
  refine (n_held_ints _ _ r.length G.out.ints (by have y := HR.out; omega)).mono ?_
  rintro e w68 ⟨rfl, b69⟩
  have Z70 := Lib.hid (b69.size)
  have NKa0 := Lib.hid (Ka0.out.below b69 (by have y0 := Z3.out; have y1 := ZSa0.out; have y2 := Z6.out; have y3 := Z9.out; have y4 := Z12.out; have y5 := Z15.out; have y6 := Z18.out; have y7 := Z21.out; have y8 := Z24.out; have y9 := Z27.out; have y10 := Z30.out; have y11 := ZSx0.out; have y12 := Z33.out; have y13 := Z36.out; have y14 := Z39.out; have y15 := Z42.out; have y16 := Z43.out; have y17 := Z44.out; have y18 := Z47.out; have y19 := Z50.out; have y20 := Z53.out; have y21 := Z56.out; have y22 := Z58.out; have y23 := Z60.out; have y24 := Z62.out; have y25 := Z65.out; have y26 := Z67.out; have y27 := Z70.out; first | omega | (simp at *; omega)))
  clear Ka0
  have Ka0 := NKa0
  clear NKa0
  have NW := Lib.hid (W.out.below b69)
  clear W
  have W := NW
  clear NW
  have NKx0 := Lib.hid (Kx0.out.below b69 (by have y0 := Z3.out; have y1 := ZSa0.out; have y2 := Z6.out; have y3 := Z9.out; have y4 := Z12.out; have y5 := Z15.out; have y6 := Z18.out; have y7 := Z21.out; have y8 := Z24.out; have y9 := Z27.out; have y10 := Z30.out; have y11 := ZSx0.out; have y12 := Z33.out; have y13 := Z36.out; have y14 := Z39.out; have y15 := Z42.out; have y16 := Z43.out; have y17 := Z44.out; have y18 := Z47.out; have y19 := Z50.out; have y20 := Z53.out; have y21 := Z56.out; have y22 := Z58.out; have y23 := Z60.out; have y24 := Z62.out; have y25 := Z65.out; have y26 := Z67.out; have y27 := Z70.out; first | omega | (simp at *; omega)))
  clear Kx0
  have Kx0 := NKx0
  clear NKx0
  have NG := Lib.hid (G.out.below b69)
  clear G
  have G := NG
  clear NG
  have NB := Lib.hid (B.out.trans (b69.mono B.out.size))
  clear B
  have B := NB
  clear NB
  clear b69
  have gKa00 : w68.cell? ⟨w.heap.size, 0, none⟩ = some (.int .i64 n0) := Ka0.out.cell 0
  have gKa01 : w68.cell? ⟨w.heap.size, 1, none⟩ = some (.slice A0 pss0.length c0) := Ka0.out.cell 1
  have gKx00 : w68.cell? ⟨w25.heap.size, 0, none⟩ = some (.int .i64 n0) := Kx0.out.cell 0
  have gKx01 : w68.cell? ⟨w25.heap.size, 1, none⟩ = some (.slice AaX0 pss0.length caX0) := Kx0.out.cell 1
  go_wp2_with fail
  clear gKa00 gKa01 gKx00 gKx01
  refine (l_toField _ _ n0 pss0 (HA0.out.below B.out) F1_0.out F2_0.out F3_0.out).mono ?_
  rintro e w71 ⟨xV0, rfl, -, hV0, b72⟩
  have Z73 := Lib.hid (b72.size)
  have NKa0 := Lib.hid (Ka0.out.below b72 (by have y0 := Z3.out; have y1 := ZSa0.out; have y2 := Z6.out; have y3 := Z9.out; have y4 := Z12.out; have y5 := Z15.out; have y6 := Z18.out; have y7 := Z21.out; have y8 := Z24.out; have y9 := Z27.out; have y10 := Z30.out; have y11 := ZSx0.out; have y12 := Z33.out; have y13 := Z36.out; have y14 := Z39.out; have y15 := Z42.out; have y16 := Z43.out; have y17 := Z44.out; have y18 := Z47.out; have y19 := Z50.out; have y20 := Z53.out; have y21 := Z56.out; have y22 := Z58.out; have y23 := Z60.out; have y24 := Z62.out; have y25 := Z65.out; have y26 := Z67.out; have y27 := Z70.out; have y28 := Z73.out; first | omega | (simp at *; omega)))
  clear Ka0
  have Ka0 := NKa0
  clear NKa0
  have NW := Lib.hid (W.out.below b72)
  clear W
  have W := NW
  clear NW
  have NKx0 := Lib.hid (Kx0.out.below b72 (by have y0 := Z3.out; have y1 := ZSa0.out; have y2 := Z6.out; have y3 := Z9.out; have y4 := Z12.out; have y5 := Z15.out; have y6 := Z18.out; have y7 := Z21.out; have y8 := Z24.out; have y9 := Z27.out; have y10 := Z30.out; have y11 := ZSx0.out; have y12 := Z33.out; have y13 := Z36.out; have y14 := Z39.out; have y15 := Z42.out; have y16 := Z43.out; have y17 := Z44.out; have y18 := Z47.out; have y19 := Z50.out; have y20 := Z53.out; have y21 := Z56.out; have y22 := Z58.out; have y23 := Z60.out; have y24 := Z62.out; have y25 := Z65.out; have y26 := Z67.out; have y27 := Z70.out; have y28 := Z73.out; first | omega | (simp at *; omega)))
  clear Kx0
  have Kx0 := NKx0
  clear NKx0
  have NG := Lib.hid (G.out.below b72)
  clear G
  have G := NG
  clear NG
  have NB := Lib.hid (B.out.trans (b72.mono B.out.size))
  clear B
  have B := NB
  clear NB
  clear b72
  obtain ⟨AaV0, caV0, rfl⟩ := hV0.open_
  have V0 := Lib.hid hV0
  clear hV0
  have gKa00 : w71.cell? ⟨w.heap.size, 0, none⟩ = some (.int .i64 n0) := Ka0.out.cell 0
  have gKa01 : w71.cell? ⟨w.heap.size, 1, none⟩ = some (.slice A0 pss0.length c0) := Ka0.out.cell 1
  have gKx00 : w71.cell? ⟨w25.heap.size, 0, none⟩ = some (.int .i64 n0) := Kx0.out.cell 0
  have gKx01 : w71.cell? ⟨w25.heap.size, 1, none⟩ = some (.slice AaX0 pss0.length caX0) := Kx0.out.cell 1
  go_wp2_with fail
  clear gKa00 gKa01 gKx00 gKx01
  refine (n_to_rows _ _ xss1 (HA1.out.below B.out) F1_1.out).mono ?_
  rintro e w74 ⟨xV1, rfl, hV1, b75⟩
  have Z76 := Lib.hid (b75.size)
  have NKa0 := Lib.hid (Ka0.out.below b75 (by have y0 := Z3.out; have y1 := ZSa0.out; have y2 := Z6.out; have y3 := Z9.out; have y4 := Z12.out; have y5 := Z15.out; have y6 := Z18.out; have y7 := Z21.out; have y8 := Z24.out; have y9 := Z27.out; have y10 := Z30.out; have y11 := ZSx0.out; have y12 := Z33.out; have y13 := Z36.out; have y14 := Z39.out; have y15 := Z42.out; have y16 := Z43.out; have y17 := Z44.out; have y18 := Z47.out; have y19 := Z50.out; have y20 := Z53.out; have y21 := Z56.out; have y22 := Z58.out; have y23 := Z60.out; have y24 := Z62.out; have y25 := Z65.out; have y26 := Z67.out; have y27 := Z70.out; have y28 := Z73.out; have y29 := Z76.out; first | omega | (simp at *; omega)))
  clear Ka0
  have Ka0 := NKa0
  clear NKa0
  have NW := Lib.hid (W.out.below b75)
  clear W
  have W := NW
  clear NW
  have NKx0 := Lib.hid (Kx0.out.below b75 (by have y0 := Z3.out; have y1 := ZSa0.out; have y2 := Z6.out; have y3 := Z9.out; have y4 := Z12.out; have y5 := Z15.out; have y6 := Z18.out; have y7 := Z21.out; have y8 := Z24.out; have y9 := Z27.out; have y10 := Z30.out; have y11 := ZSx0.out; have y12 := Z33.out; have y13 := Z36.out; have y14 := Z39.out; have y15 := Z42.out; have y16 := Z43.out; have y17 := Z44.out; have y18 := Z47.out; have y19 := Z50.out; have y20 := Z53.out; have y21 := Z56.out; have y22 := Z58.out; have y23 := Z60.out; have y24 := Z62.out; have y25 := Z65.out; have y26 := Z67.out; have y27 := Z70.out; have y28 := Z73.out; have y29 := Z76.out; first | omega | (simp at *; omega)))
  clear Kx0
  have Kx0 := NKx0
  clear NKx0
  have NG := Lib.hid (G.out.below b75)
  clear G
  have G := NG
  clear NG
  have NV0 := Lib.hid (V0.out.below b75)
  clear V0
  have V0 := NV0
  clear NV0
  have NB := Lib.hid (B.out.trans (b75.mono B.out.size))
  clear B
  have B := NB
  clear NB
  clear b75
  have V1 := Lib.hid hV1
  clear hV1
  have gKa00 : w74.cell? ⟨w.heap.size, 0, none⟩ = some (.int .i64 n0) := Ka0.out.cell 0
  have gKa01 : w74.cell? ⟨w.heap.size, 1, none⟩ = some (.slice A0 pss0.length c0) := Ka0.out.cell 1
  have gKx00 : w74.cell? ⟨w25.heap.size, 0, none⟩ = some (.int .i64 n0) := Kx0.out.cell 0
  have gKx01 : w74.cell? ⟨w25.heap.size, 1, none⟩ = some (.slice AaX0 pss0.length caX0) := Kx0.out.cell 1
  go_wp2_with fail
  clear gKa00 gKa01 gKx00 gKx01
  refine (n_to_rows _ _ xss2 (HA2.out.below B.out) F1_2.out).mono ?_
  rintro e w77 ⟨xV2, rfl, hV2, b78⟩
  have Z79 := Lib.hid (b78.size)
  have NKa0 := Lib.hid (Ka0.out.below b78 (by have y0 := Z3.out; have y1 := ZSa0.out; have y2 := Z6.out; have y3 := Z9.out; have y4 := Z12.out; have y5 := Z15.out; have y6 := Z18.out; have y7 := Z21.out; have y8 := Z24.out; have y9 := Z27.out; have y10 := Z30.out; have y11 := ZSx0.out; have y12 := Z33.out; have y13 := Z36.out; have y14 := Z39.out; have y15 := Z42.out; have y16 := Z43.out; have y17 := Z44.out; have y18 := Z47.out; have y19 := Z50.out; have y20 := Z53.out; have y21 := Z56.out; have y22 := Z58.out; have y23 := Z60.out; have y24 := Z62.out; have y25 := Z65.out; have y26 := Z67.out; have y27 := Z70.out; have y28 := Z73.out; have y29 := Z76.out; have y30 := Z79.out; first | omega | (simp at *; omega)))
  clear Ka0
  have Ka0 := NKa0
  clear NKa0
  have NW := Lib.hid (W.out.below b78)
  clear W
  have W := NW
  clear NW
  have NKx0 := Lib.hid (Kx0.out.below b78 (by have y0 := Z3.out; have y1 := ZSa0.out; have y2 := Z6.out; have y3 := Z9.out; have y4 := Z12.out; have y5 := Z15.out; have y6 := Z18.out; have y7 := Z21.out; have y8 := Z24.out; have y9 := Z27.out; have y10 := Z30.out; have y11 := ZSx0.out; have y12 := Z33.out; have y13 := Z36.out; have y14 := Z39.out; have y15 := Z42.out; have y16 := Z43.out; have y17 := Z44.out; have y18 := Z47.out; have y19 := Z50.out; have y20 := Z53.out; have y21 := Z56.out; have y22 := Z58.out; have y23 := Z60.out; have y24 := Z62.out; have y25 := Z65.out; have y26 := Z67.out; have y27 := Z70.out; have y28 := Z73.out; have y29 := Z76.out; have y30 := Z79.out; first | omega | (simp at *; omega)))
  clear Kx0
  have Kx0 := NKx0
  clear NKx0
  have NG := Lib.hid (G.out.below b78)
  clear G
  have G := NG
  clear NG
  have NV0 := Lib.hid (V0.out.below b78)
  clear V0
  have V0 := NV0
  clear NV0
  have NV1 := Lib.hid (V1.out.below b78)
  clear V1
  have V1 := NV1
  clear NV1
  have NB := Lib.hid (B.out.trans (b78.mono B.out.size))
  clear B
  have B := NB
  clear NB
  clear b78
  have V2 := Lib.hid hV2
  clear hV2
  have gKa00 : w77.cell? ⟨w.heap.size, 0, none⟩ = some (.int .i64 n0) := Ka0.out.cell 0
  have gKa01 : w77.cell? ⟨w.heap.size, 1, none⟩ = some (.slice A0 pss0.length c0) := Ka0.out.cell 1
  have gKx00 : w77.cell? ⟨w25.heap.size, 0, none⟩ = some (.int .i64 n0) := Kx0.out.cell 0
  have gKx01 : w77.cell? ⟨w25.heap.size, 1, none⟩ = some (.slice AaX0 pss0.length caX0) := Kx0.out.cell 1
  go_wp2_with fail
  clear gKa00 gKa01 gKx00 gKx01
  refine (HI.out _ _ _ _ (V0.out.arg HN0.out) V1.out.rows V2.out.rows).mono ?_
  rintro e w80 ⟨xH, rfl, hH, b81⟩
  have Z82 := Lib.hid (b81.size)
  have NKa0 := Lib.hid (Ka0.out.below b81 (by have y0 := Z3.out; have y1 := ZSa0.out; have y2 := Z6.out; have y3 := Z9.out; have y4 := Z12.out; have y5 := Z15.out; have y6 := Z18.out; have y7 := Z21.out; have y8 := Z24.out; have y9 := Z27.out; have y10 := Z30.out; have y11 := ZSx0.out; have y12 := Z33.out; have y13 := Z36.out; have y14 := Z39.out; have y15 := Z42.out; have y16 := Z43.out; have y17 := Z44.out; have y18 := Z47.out; have y19 := Z50.out; have y20 := Z53.out; have y21 := Z56.out; have y22 := Z58.out; have y23 := Z60.out; have y24 := Z62.out; have y25 := Z65.out; have y26 := Z67.out; have y27 := Z70.out; have y28 := Z73.out; have y29 := Z76.out; have y30 := Z79.out; have y31 := Z82.out; first | omega | (simp at *; omega)))
  clear Ka0
  have Ka0 := NKa0
  clear NKa0
  have NW := Lib.hid (W.out.below b81)
  clear W
  have W := NW
  clear NW
  have NKx0 := Lib.hid (Kx0.out.below b81 (by have y0 := Z3.out; have y1 := ZSa0.out; have y2 := Z6.out; have y3 := Z9.out; have y4 := Z12.out; have y5 := Z15.out; have y6 := Z18.out; have y7 := Z21.out; have y8 := Z24.out; have y9 := Z27.out; have y10 := Z30.out; have y11 := ZSx0.out; have y12 := Z33.out; have y13 := Z36.out; have y14 := Z39.out; have y15 := Z42.out; have y16 := Z43.out; have y17 := Z44.out; have y18 := Z47.out; have y19 := Z50.out; have y20 := Z53.out; have y21 := Z56.out; have y22 := Z58.out; have y23 := Z60.out; have y24 := Z62.out; have y25 := Z65.out; have y26 := Z67.out; have y27 := Z70.out; have y28 := Z73.out; have y29 := Z76.out; have y30 := Z79.out; have y31 := Z82.out; first | omega | (simp at *; omega)))
  clear Kx0
  have Kx0 := NKx0
  clear NKx0
  have NG := Lib.hid (G.out.below b81)
  clear G
  have G := NG
  clear NG
  have NV0 := Lib.hid (V0.out.below b81)
  clear V0
  have V0 := NV0
  clear NV0
  have NV1 := Lib.hid (V1.out.below b81)
  clear V1
  have V1 := NV1
  clear NV1
  have NV2 := Lib.hid (V2.out.below b81)
  clear V2
  have V2 := NV2
  clear NV2
  have NB := Lib.hid (B.out.trans (b81.mono B.out.size))
  clear B
  have B := NB
  clear NB
  clear b81
  have H := Lib.hid hH
  clear hH
  clear V0
  clear V1
  clear V2
  have gKa00 : w80.cell? ⟨w.heap.size, 0, none⟩ = some (.int .i64 n0) := Ka0.out.cell 0
  have gKa01 : w80.cell? ⟨w.heap.size, 1, none⟩ = some (.slice A0 pss0.length c0) := Ka0.out.cell 1
  have gKx00 : w80.cell? ⟨w25.heap.size, 0, none⟩ = some (.int .i64 n0) := Kx0.out.cell 0
  have gKx01 : w80.cell? ⟨w25.heap.size, 1, none⟩ = some (.slice AaX0 pss0.length caX0) := Kx0.out.cell 1
  go_wp2_with fail
  clear gKa00 gKa01 gKx00 gKx01
  refine (n_eq_ints _ _ _ r H.out.ints W.out.ints).mono ?_
  rintro e w83 ⟨rfl, b84⟩
  have Z85 := Lib.hid (b84.size)
  have NKa0 := Lib.hid (Ka0.out.below b84 (by have y0 := Z3.out; have y1 := ZSa0.out; have y2 := Z6.out; have y3 := Z9.out; have y4 := Z12.out; have y5 := Z15.out; have y6 := Z18.out; have y7 := Z21.out; have y8 := Z24.out; have y9 := Z27.out; have y10 := Z30.out; have y11 := ZSx0.out; have y12 := Z33.out; have y13 := Z36.out; have y14 := Z39.out; have y15 := Z42.out; have y16 := Z43.out; have y17 := Z44.out; have y18 := Z47.out; have y19 := Z50.out; have y20 := Z53.out; have y21 := Z56.out; have y22 := Z58.out; have y23 := Z60.out; have y24 := Z62.out; have y25 := Z65.out; have y26 := Z67.out; have y27 := Z70.out; have y28 := Z73.out; have y29 := Z76.out; have y30 := Z79.out; have y31 := Z82.out; have y32 := Z85.out; first | omega | (simp at *; omega)))
  clear Ka0
  have Ka0 := NKa0
  clear NKa0
  have NW := Lib.hid (W.out.below b84)
  clear W
  have W := NW
  clear NW
  have NKx0 := Lib.hid (Kx0.out.below b84 (by have y0 := Z3.out; have y1 := ZSa0.out; have y2 := Z6.out; have y3 := Z9.out; have y4 := Z12.out; have y5 := Z15.out; have y6 := Z18.out; have y7 := Z21.out; have y8 := Z24.out; have y9 := Z27.out; have y10 := Z30.out; have y11 := ZSx0.out; have y12 := Z33.out; have y13 := Z36.out; have y14 := Z39.out; have y15 := Z42.out; have y16 := Z43.out; have y17 := Z44.out; have y18 := Z47.out; have y19 := Z50.out; have y20 := Z53.out; have y21 := Z56.out; have y22 := Z58.out; have y23 := Z60.out; have y24 := Z62.out; have y25 := Z65.out; have y26 := Z67.out; have y27 := Z70.out; have y28 := Z73.out; have y29 := Z76.out; have y30 := Z79.out; have y31 := Z82.out; have y32 := Z85.out; first | omega | (simp at *; omega)))
  clear Kx0
  have Kx0 := NKx0
  clear NKx0
  have NG := Lib.hid (G.out.below b84)
  clear G
  have G := NG
  clear NG
  have NH := Lib.hid (H.out.below b84)
  clear H
  have H := NH
  clear NH
  have NB := Lib.hid (B.out.trans (b84.mono B.out.size))
  clear B
  have B := NB
  clear NB
  clear b84
  have gKa00 : w83.cell? ⟨w.heap.size, 0, none⟩ = some (.int .i64 n0) := Ka0.out.cell 0
  have gKa01 : w83.cell? ⟨w.heap.size, 1, none⟩ = some (.slice A0 pss0.length c0) := Ka0.out.cell 1
  have gKx00 : w83.cell? ⟨w25.heap.size, 0, none⟩ = some (.int .i64 n0) := Kx0.out.cell 0
  have gKx01 : w83.cell? ⟨w25.heap.size, 1, none⟩ = some (.slice AaX0 pss0.length caX0) := Kx0.out.cell 1
  go_wp2_with fail
  clear gKa00 gKa01 gKx00 gKx01
  refine (n_held_ints _ _ r.length G.out.ints (by have y := HR.out; omega)).mono ?_
  rintro e w86 ⟨rfl, b87⟩
  have Z88 := Lib.hid (b87.size)
  have NKa0 := Lib.hid (Ka0.out.below b87 (by have y0 := Z3.out; have y1 := ZSa0.out; have y2 := Z6.out; have y3 := Z9.out; have y4 := Z12.out; have y5 := Z15.out; have y6 := Z18.out; have y7 := Z21.out; have y8 := Z24.out; have y9 := Z27.out; have y10 := Z30.out; have y11 := ZSx0.out; have y12 := Z33.out; have y13 := Z36.out; have y14 := Z39.out; have y15 := Z42.out; have y16 := Z43.out; have y17 := Z44.out; have y18 := Z47.out; have y19 := Z50.out; have y20 := Z53.out; have y21 := Z56.out; have y22 := Z58.out; have y23 := Z60.out; have y24 := Z62.out; have y25 := Z65.out; have y26 := Z67.out; have y27 := Z70.out; have y28 := Z73.out; have y29 := Z76.out; have y30 := Z79.out; have y31 := Z82.out; have y32 := Z85.out; have y33 := Z88.out; first | omega | (simp at *; omega)))
  clear Ka0
  have Ka0 := NKa0
  clear NKa0
  have NW := Lib.hid (W.out.below b87)
  clear W
  have W := NW
  clear NW
  have NKx0 := Lib.hid (Kx0.out.below b87 (by have y0 := Z3.out; have y1 := ZSa0.out; have y2 := Z6.out; have y3 := Z9.out; have y4 := Z12.out; have y5 := Z15.out; have y6 := Z18.out; have y7 := Z21.out; have y8 := Z24.out; have y9 := Z27.out; have y10 := Z30.out; have y11 := ZSx0.out; have y12 := Z33.out; have y13 := Z36.out; have y14 := Z39.out; have y15 := Z42.out; have y16 := Z43.out; have y17 := Z44.out; have y18 := Z47.out; have y19 := Z50.out; have y20 := Z53.out; have y21 := Z56.out; have y22 := Z58.out; have y23 := Z60.out; have y24 := Z62.out; have y25 := Z65.out; have y26 := Z67.out; have y27 := Z70.out; have y28 := Z73.out; have y29 := Z76.out; have y30 := Z79.out; have y31 := Z82.out; have y32 := Z85.out; have y33 := Z88.out; first | omega | (simp at *; omega)))
  clear Kx0
  have Kx0 := NKx0
  clear NKx0
  have NG := Lib.hid (G.out.below b87)
  clear G
  have G := NG
  clear NG
  have NH := Lib.hid (H.out.below b87)
  clear H
  have H := NH
  clear NH
  have NB := Lib.hid (B.out.trans (b87.mono B.out.size))
  clear B
  have B := NB
  clear NB
  clear b87
  have gKa00 : w86.cell? ⟨w.heap.size, 0, none⟩ = some (.int .i64 n0) := Ka0.out.cell 0
  have gKa01 : w86.cell? ⟨w.heap.size, 1, none⟩ = some (.slice A0 pss0.length c0) := Ka0.out.cell 1
  have gKx00 : w86.cell? ⟨w25.heap.size, 0, none⟩ = some (.int .i64 n0) := Kx0.out.cell 0
  have gKx01 : w86.cell? ⟨w25.heap.size, 1, none⟩ = some (.slice AaX0 pss0.length caX0) := Kx0.out.cell 1
  go_wp2_with fail
  clear gKa00 gKa01 gKx00 gKx01
  go_ret
  exact ⟨rfl, B.out⟩
end Go.Proofs.Ytgnmnpjbmdifbaa
