/- Walks: ConjugateMap of the program and of the reference. | The law FnExactAdjointMap. | The law FnExactIsSymmetricMap, walked over the contracts of both. (printed by lawgen3.py) | The law FnExactIsSymmetricMap. | The law FnExactConjugateMap, walked over the contracts of both. (printed by lawgen3.py) | The law FnExactConjugateMap. -/
import Derived.Test.YtngdpoeondnchaaGreatP36
import Derived.Test.YtngdpoeondnchaaGreatP34
import Derived.Test.YtngdpoeondnchaaGreatP2
import Derived.WalkLawsBesides
import Derived.Deep.RegionHeld3
set_option maxRecDepth 100000
set_option linter.unusedVariables false
set_option linter.unusedSimpArgs false
namespace Go.Proofs.YtngdpoeondnchaaGreat
open Go.RowKit

def cjmR (a x : List Int) : List Int := if chr2 a x = 0 then cvZ (cvZ x a) (invL x 37) else []
theorem cjmR_len (a x : List Int) : (cjmR a x).length ≤ 1048576 := by
  unfold cjmR
  split
  · rw [cvZ_len]; omega
  · simp
set_option maxHeartbeats 8000000 in
theorem i_ConjugateMap (w : World) (va vb : Value) (a b : List Int) (h1 : Ints w va a) (h2 : Ints w vb b) :
    Calls Tryz.prog 27 #[va, vb] w fun e w' => ∃ x, e = .returned (.tuple #[x, .int .i64 (chr2 a b)]) ∧ OwnInts w' w.heap.size tI x (cjmR a b) ∧ Below w.heap.size w w' := by
  have HCH := Lib.hid (i_checkCharacters w va vb a b h1 h2)
  have HA := Lib.hid h1
  have HB := Lib.hid h2
  obtain ⟨Aa, ca, rfl, -, -, -⟩ := h1.open_
  obtain ⟨Ab, cb, rfl, -, -, -⟩ := h2.open_
  by_cases hc : chr2 a b = 0
  · obtain ⟨hm1, hm2, -, -⟩ := chr2_of hc
    obtain ⟨l1, n1⟩ := mapB_true hm1
    obtain ⟨l2, n2⟩ := mapB_true hm2
    rw [l1] at HA HCH ⊢
    rw [l2] at HB HCH ⊢
    have HR := Lib.hid (show cjmR a b = cvZ (cvZ b a) (invL b 37) from by rw [cjmR, if_pos hc])
    rw [hc] at HCH ⊢
    have HLA := Lib.hid l1
    have HNA := Lib.hid (show Nums a from n1)
    have HLB := Lib.hid l2
    have HNB := Lib.hid (show Nums b from n2)
    clear hc hm1 hm2 l1 n1 l2 n2 h1 h2
    go_enter Tryz.func27, Tryz.ntmps27
    go_upto_region 5 with (first
      | (go_at_call 62; refine HCH.out.mono ?_; rintro e w0 ⟨rfl, rfl⟩)
      | (go_at_call 56; go_loud (refine (i_newForms _).mono ?_; rintro e w1 ⟨f, rfl, hf, hb1⟩; obtain ⟨Af, cf, Ay, cy, rfl, hrf, hfc⟩ := hf.openC; have HRF := Lib.hid hrf; have HFC := Lib.hid hfc; have HB1W := Lib.hid hb1; clear hf hrf hfc hb1)))
    obtain ⟨W, hW⟩ : ∃ W, W = w1.alloc (.cells #[.slice Af 37 cf, .slice Ay 37 cy] tFo) := ⟨_, rfl⟩
    have hbw : Below w1.heap.size w1 W := by rw [hW]; exact below1 w1 _
    have HBW := Lib.hid (HB1W.out.trans (hbw.mono HB1W.out.size))
    have HKF := Lib.hid (show Blk W w1.heap.size tFo #[.slice Af 37 cf, .slice Ay 37 cy] from by rw [hW]; exact Blk.new _ _ _)
    have HRW := Lib.hid (HRF.out.below hbw)
    have HFW := Lib.hid (HFC.out.below hbw)
    have HAW := Lib.hid (HA.out.below HBW.out)
    have HBBW := Lib.hid (HB.out.below HBW.out)
    rw [← hW]
    clear hW hbw
    have k1 : W.cell? ⟨w1.heap.size, 0, none⟩ = some (.slice Af 37 cf) := HKF.out.cell 0
    have k2 : W.cell? ⟨w1.heap.size, 1, none⟩ = some (.slice Ay 37 cy) := HKF.out.cell 1
    have HC1 := Lib.hid (show ∀ X, Below W.heap.size W X → Calls Tryz.prog 64 #[.agg #[.slice Af 37 cf, .slice Ay 37 cy], .slice Ab 38 cb, .slice Aa 38 ca] X (fun e w' => ∃ x, e = .returned x ∧ OwnInts w' W.heap.size tI x (cvZ b a) ∧ Below W.heap.size W w') from fun X hX => (i_convolve X (.slice Ay 37 cy) (.slice Ab 38 cb) (.slice Aa 38 ca) Af cf _ b a (HFW.out.below hX) (HBBW.out.below hX) HLB.out HNB.out (HAW.out.below hX) HLA.out HNA.out).mono (by rintro e w5 ⟨r5, rfl, ho5, hb5⟩; exact ⟨r5, rfl, ho5.mono hX.size, hX.trans (hb5.mono hX.size)⟩))
    have HC2 := Lib.hid (show ∀ X, Below W.heap.size W X → Calls Tryz.prog 66 #[.agg #[.slice Af 37 cf, .slice Ay 37 cy], .slice Ab 38 cb] X (fun e w' => ∃ x, e = .returned x ∧ OwnInts w' X.heap.size tI x (invL b 37) ∧ Below X.heap.size X w') from fun X hX => i_inverseMap X (.slice Ay 37 cy) (.slice Ab 38 cb) Af cf _ b (HFW.out.below hX) (HBBW.out.below hX) HLB.out HNB.out)
    have HC3 := Lib.hid (show ∀ X r5 r6, Below W.heap.size W X → Ints X r5 (cvZ b a) → Ints X r6 (invL b 37) → Calls Tryz.prog 64 #[.agg #[.slice Af 37 cf, .slice Ay 37 cy], r5, r6] X (fun e w' => ∃ x, e = .returned x ∧ OwnInts w' X.heap.size tI x (cvZ (cvZ b a) (invL b 37)) ∧ Below X.heap.size X w') from fun X r5 r6 hX g5 g6 => i_convolve X (.slice Ay 37 cy) r5 r6 Af cf _ _ _ (HFW.out.below hX) g5 (cvZ_len _ _) (cvZ_nums HNA.out) g6 (invL_len _ _) (invL_nums _ _))
    go_region_law (first
      | (go_simp; go_at_call 64; (with_reducible refine ((HC1.out _ ?_).mono ?_)); (first | exact Below.refl _ _ | exact (Below.refl _ _).drew); go_loud (rintro e w5 ⟨r5, rfl, ho5, hb5⟩; have HO5 := Lib.hid ho5; have HB5 := Lib.hid hb5; have m1 : w5.cell? ⟨w1.heap.size, 0, none⟩ = some (.slice Af 37 cf) := (HKF.out.below hb5 HKF.out.lt).cell 0; have m2 : w5.cell? ⟨w1.heap.size, 1, none⟩ = some (.slice Ay 37 cy) := (HKF.out.below hb5 HKF.out.lt).cell 1; clear ho5 hb5))
      | (go_simp; go_at_call 66; (with_reducible refine ((HC2.out _ ?_).mono ?_)); (first | exact HB5.out | exact HB5.out.drew); go_loud (rintro e w6 ⟨r6, rfl, ho6, hb6'⟩; have hb6 : Below w5.heap.size w5 w6 := (by exact hb6'); have HO6 := Lib.hid (show OwnInts w6 w5.heap.size tI r6 (invL b 37) from by exact ho6); have HB6 := Lib.hid hb6; have m3 : w6.cell? ⟨w1.heap.size, 0, none⟩ = some (.slice Af 37 cf) := (HKF.out.below (HB5.out.trans (hb6.mono HB5.out.size)) HKF.out.lt).cell 0; have m4 : w6.cell? ⟨w1.heap.size, 1, none⟩ = some (.slice Ay 37 cy) := (HKF.out.below (HB5.out.trans (hb6.mono HB5.out.size)) HKF.out.lt).cell 1; clear ho6 hb6 hb6'))
      | (go_simp; go_at_call 64; (with_reducible refine ((HC3.out _ _ _ ?_ ?_ ?_).mono ?_)); (first | exact HB5.out.trans (HB6.out.mono HB5.out.size) | exact (HB5.out.trans (HB6.out.mono HB5.out.size)).drew); (exact HO5.out.ints.below HB6.out); (exact HO6.out.ints); go_loud (rintro e w7 ⟨r7, rfl, ho7, hb7⟩; have HO7 := Lib.hid (show OwnInts w7 w6.heap.size tI r7 (cvZ (cvZ b a) (invL b 37)) from by exact ho7); have HB7 := Lib.hid (show Below w6.heap.size w6 w7 from by exact hb7); clear hb7 ho7)))
    all_goals
      go_wp2_with fail
      go_ret2
      rw [HR.out]
      have hz := Nat.le_trans HBW.out.size (Nat.le_trans HB5.out.size HB6.out.size)
      exact ⟨_, rfl, HO7.out.mono hz, ((HBW.out.trans (HB5.out.mono HBW.out.size)).trans (HB6.out.mono (Nat.le_trans HBW.out.size HB5.out.size))).trans (HB7.out.mono hz)⟩
  · have HR := Lib.hid (show cjmR a b = [] from by rw [cjmR, if_neg hc])
    rw [HR.out]
    have hd : (chr2 a b != 0) = true := by simp [hc]
    generalize chr2 a b = cc at *
    clear hc HR h1 h2
    go_enter Tryz.func27, Tryz.ntmps27
    go_wp2_with (go_at_call 62; refine HCH.out.mono ?_; rintro e w0 ⟨rfl, rfl⟩)
    go_ret2
    exact ⟨_, rfl, OwnInts.nil _ _ _, Below.refl _ _⟩
set_option maxHeartbeats 8000000 in
theorem s_ConjugateMap (w : World) (va vb : Value) (a b : List Int) (h1 : Ints w va a) (h2 : Ints w vb b) :
    Calls Tryz.prog 26 #[va, vb] w fun e w' => ∃ x, e = .returned (.tuple #[x, .int .i64 (chr2 a b)]) ∧ OwnInts w' w.heap.size tI x (cjmR a b) ∧ Below w.heap.size w w' := by
  have HCH := Lib.hid (s_l18Both w va vb a b h1 h2)
  have HA := Lib.hid h1
  have HB := Lib.hid h2
  obtain ⟨Aa, ca, rfl, -, -, -⟩ := h1.open_
  obtain ⟨Ab, cb, rfl, -, -, -⟩ := h2.open_
  by_cases hc : chr2 a b = 0
  · obtain ⟨hm1, hm2, u1, u2⟩ := chr2_of hc
    obtain ⟨l1, n1⟩ := mapB_true hm1
    obtain ⟨l2, n2⟩ := mapB_true hm2
    rw [l1] at HA HCH ⊢
    rw [l2] at HB HCH ⊢
    have HR := Lib.hid (show cjmR a b = cvZ (cvZ b a) (refL b 37) from by rw [cjmR, if_pos hc, inv_eq u2])
    rw [hc] at HCH ⊢
    have HCV := Lib.hid (show ∀ X A c Bp, R7 X Bp A 38 → Ints X (.slice Aa 38 ca) a → Ints X (.slice Ab 38 cb) b → Calls Tryz.prog 61 #[.slice A 38 c, .slice Ab 38 cb, .slice Aa 38 ca] X (fun e w' => ∃ x, e = .returned x ∧ OwnInts w' X.heap.size tI x (cvZ b a) ∧ Below X.heap.size X w') from fun X A c Bp hR g1 g2 => by have := s_l07Conv X A _ _ c 38 Bp b a hR (by omega) (by omega) g2 l2 n2 u2 g1 l1 n1; rw [cvZ_take] at this; exact this)
    have HCI := Lib.hid (show ∀ X A c Bp, C7 X Bp (.slice A 38 c) → Ints X (.slice Ab 38 cb) b → Calls Tryz.prog 65 #[.slice A 38 c, .slice Ab 38 cb] X (fun e w' => ∃ x, e = .returned x ∧ OwnInts w' X.heap.size tI x (refL b 37) ∧ Below X.heap.size X w') from fun X A c Bp hR g => s_l07Inverse X _ _ Bp b hR g l2 n2 u2)
    have HCW := Lib.hid (show ∀ X A c Bp r5 r6, R7 X Bp A 38 → Ints X r5 (cvZ b a) → Ints X r6 (refL b 37) → Calls Tryz.prog 61 #[.slice A 38 c, r5, r6] X (fun e w' => ∃ x, e = .returned x ∧ OwnInts w' X.heap.size tI x (cvZ (cvZ b a) (refL b 37)) ∧ Below X.heap.size X w') from fun X A c Bp r5 r6 hR g1 g2 => by have := s_l07Conv X A r5 r6 c 38 Bp (cvZ b a) (refL b 37) hR (by omega) (by omega) g1 (cvZ_len _ _) (cvZ_nums n1) u1 g2 (refL_len _ _) (refL_nums _ _); rw [cvZ_take] at this; exact this)
    clear hc hm1 hm2 l1 n1 l2 n2 h1 h2 u1 u2
    go_enter Tryz.func26, Tryz.ntmps26
    go_wp2_with (first
      | (go_at_call 58; refine HCH.out.mono ?_; rintro e w0 ⟨rfl, rfl⟩)
      | (go_at_call 59; go_loud (refine (s_l07Cuts _).mono ?_; rintro e w1 ⟨x1, rfl, hc1, hb1⟩; have hc2 := hc1; obtain ⟨A1, c1, rfl, hr1⟩ := hc2.r7; have HX1 := Lib.hid hc1; have HR1 := Lib.hid hr1; have HB1 := Lib.hid hb1; clear hc1 hc2 hr1 hb1))
      | (go_at_call 61; (with_reducible refine (HCV.out _ _ _ _ HR1.out (HA.out.below HB1.out) (HB.out.below HB1.out)).mono ?_); go_loud (rintro e w5 ⟨r5, rfl, ho5, hb5⟩; have HO5 := Lib.hid ho5; have HB5 := Lib.hid hb5; have HB15 := Lib.hid (HB1.out.trans (hb5.mono HB1.out.size)); clear ho5 hb5))
      | (go_at_call 65; go_loud (refine (HCI.out _ _ _ _ (HX1.out.below HB5.out) (HB.out.below HB15.out)).mono ?_; rintro e w6 ⟨r6, rfl, ho6, hb6⟩; have HO6 := Lib.hid ho6; have HB6 := Lib.hid hb6; clear ho6 hb6))
      | (go_at_call 61; go_loud ((refine (HCW.out _ _ _ _ _ _ ((HR1.out.below HB5.out).below HB6.out) (HO5.out.ints.below HB6.out) HO6.out.ints).mono ?_); rintro e w7 ⟨r7, rfl, ho7, hb7⟩; have HO7 := Lib.hid ho7; have HB7 := Lib.hid hb7; clear ho7 hb7)))
    go_ret2
    rw [HR.out]
    have hz := Nat.le_trans HB15.out.size HB6.out.size
    exact ⟨_, rfl, HO7.out.mono hz, (HB15.out.trans (HB6.out.mono HB15.out.size)).trans (HB7.out.mono hz)⟩
  · have HR := Lib.hid (show cjmR a b = [] from by rw [cjmR, if_neg hc])
    rw [HR.out]
    have hd : (chr2 a b != 0) = true := by simp [hc]
    generalize chr2 a b = cc at *
    clear hc HR h1 h2
    go_enter Tryz.func26, Tryz.ntmps26
    go_wp2_with (go_at_call 58; refine HCH.out.mono ?_; rintro e w0 ⟨rfl, rfl⟩)
    go_ret2
    exact ⟨_, rfl, OwnInts.nil _ _ _, Below.refl _ _⟩
end Go.Proofs.YtngdpoeondnchaaGreat

set_option maxRecDepth 100000
set_option linter.unusedVariables false
set_option linter.unusedSimpArgs false
namespace Go.Proofs.YtngdpoeondnchaaGreat
open Go.RowKit

theorem adjR_len (a : List Int) : (adjR a).length ≤ 1048576 := by
  unfold adjR
  split
  · rw [adjZ_len]; omega
  · simp
theorem law_AdjointMap (w : World) (v : Value) (zs : List Int) (ha : Ints w v zs) :
    Calls Tryz.prog 7 #[v] w fun e w' => e = .returned (.bool true) ∧ Below w.heap.size w w' :=
  law_FnExactAdjointMap_gen w v zs ha (adjR zs) (chrC zs) (fun _ => adjR_len zs)
    (fun _ W v0 h0 => (s_AdjointMap W v0 zs h0).mono fun e w' h => by obtain ⟨x, he, ho, hb⟩ := h; exact ⟨x, he, OI.of ho, hb⟩)
    (fun _ W v0 h0 => (i_AdjointMap W v0 zs h0).mono fun e w' h => by obtain ⟨x, he, ho, hb⟩ := h; exact ⟨x, he, OI.of ho, hb⟩)
end Go.Proofs.YtngdpoeondnchaaGreat

set_option linter.unusedVariables false
set_option linter.unusedSimpArgs false
namespace Go.Proofs.YtngdpoeondnchaaGreat
open Go.RowKit

set_option maxRecDepth 100000 in
set_option maxHeartbeats 8000000 in
theorem law_FnExactIsSymmetricMap_gen (w : World) (v0 : Value) (zs0 : List Int) (ha0 : Ints w v0 zs0) (r : Bool) (c : Int) 
    (hS : zs0.length ≤ 1048576 → ∀ (W : World) (v0 : Value), Ints W v0 zs0 → Calls Tryz.prog 30 #[v0] W fun e w' => e = .returned (.tuple #[.bool r, .int .i64 c]) ∧ Below W.heap.size W w')
    (hI : zs0.length ≤ 1048576 → ∀ (W : World) (v0 : Value), Ints W v0 zs0 → Calls Tryz.prog 31 #[v0] W fun e w' => e = .returned (.tuple #[.bool r, .int .i64 c]) ∧ Below W.heap.size W w') :
    Calls Tryz.prog 6 #[v0] w fun e w' => e = .returned (.bool true) ∧ Below w.heap.size w w' := by
  have B := Lib.hid (Below.refl w.heap.size w)
  have HS := Lib.hid hS
  have HI := Lib.hid hI
  clear hS hI
  have HA0 := Lib.hid ha0
  obtain ⟨A0, c0, rfl, -, -, -⟩ := ha0.open_
  clear ha0
  go_enter Tryz.func6, Tryz.ntmps6
  by_cases hbig0 : (1048576 : Int) < (zs0.length : Int)
  · go_wp2_with fail
    go_ret
    exact ⟨rfl, Below.refl _ _⟩
  have hsm0 : zs0.length ≤ 1048576 := by omega
  go_wp2_with fail
  have HS := Lib.hid (HS.out hsm0)
  have HI := Lib.hid (HI.out hsm0)
  refine (n_to_ints _ _ zs0 (HA0.out.below B.out) (by omega)).mono ?_
  rintro e w1 ⟨xT0, rfl, hT0, b2⟩
  have Z3 := Lib.hid (b2.size)
  have NB := Lib.hid (B.out.trans (b2.mono B.out.size))
  clear B
  have B := NB
  clear NB
  clear b2
  have T0 := Lib.hid hT0
  clear hT0
  go_wp2_with fail
  refine (HS.out _ _ T0.out.ints).mono ?_
  rintro e w4 ⟨rfl, b5⟩
  have Z6 := Lib.hid (b5.size)
  have NT0 := Lib.hid (T0.out.below b5)
  clear T0
  have T0 := NT0
  clear NT0
  have NB := Lib.hid (B.out.trans (b5.mono B.out.size))
  clear B
  have B := NB
  clear NB
  clear b5
  clear T0
  go_wp2_with fail
  refine (n_to_ints _ _ zs0 (HA0.out.below B.out) (by omega)).mono ?_
  rintro e w7 ⟨xX0, rfl, hX0, b8⟩
  have Z9 := Lib.hid (b8.size)
  have NB := Lib.hid (B.out.trans (b8.mono B.out.size))
  clear B
  have B := NB
  clear NB
  clear b8
  have X0 := Lib.hid hX0
  clear hX0
  go_wp2_with fail
  refine (HI.out _ _ X0.out.ints).mono ?_
  rintro e w10 ⟨rfl, b11⟩
  have Z12 := Lib.hid (b11.size)
  have NX0 := Lib.hid (X0.out.below b11)
  clear X0
  have X0 := NX0
  clear NX0
  have NB := Lib.hid (B.out.trans (b11.mono B.out.size))
  clear B
  have B := NB
  clear NB
  clear b11
  go_wp2_with fail
  refine (n_to_ints _ _ zs0 (HA0.out.below B.out) (by omega)).mono ?_
  rintro e w13 ⟨xY0, rfl, hY0, b14⟩
  have Z15 := Lib.hid (b14.size)
  have NX0 := Lib.hid (X0.out.below b14)
  clear X0
  have X0 := NX0
  clear NX0
  have NB := Lib.hid (B.out.trans (b14.mono B.out.size))
  clear B
  have B := NB
  clear NB
  clear b14
  have Y0 := Lib.hid hY0
  clear hY0
  go_wp2_with fail
  refine (n_eq_ints _ _ _ zs0 X0.out.ints Y0.out.ints).mono ?_
  rintro e w16 ⟨rfl, b17⟩
  have Z18 := Lib.hid (b17.size)
  have NX0 := Lib.hid (X0.out.below b17)
  clear X0
  have X0 := NX0
  clear NX0
  have NY0 := Lib.hid (Y0.out.below b17)
  clear Y0
  have Y0 := NY0
  clear NY0
  have NB := Lib.hid (B.out.trans (b17.mono B.out.size))
  clear B
  have B := NB
  clear NB
  clear b17
  clear Y0
  go_wp2_with fail
  go_ret
  exact ⟨rfl, B.out⟩
end Go.Proofs.YtngdpoeondnchaaGreat

set_option maxRecDepth 100000
set_option linter.unusedVariables false
set_option linter.unusedSimpArgs false
namespace Go.Proofs.YtngdpoeondnchaaGreat
open Go.RowKit

theorem law_IsSymmetricMap (w : World) (v : Value) (zs : List Int) (ha : Ints w v zs) :
    Calls Tryz.prog 6 #[v] w fun e w' => e = .returned (.bool true) ∧ Below w.heap.size w w' :=
  law_FnExactIsSymmetricMap_gen w v zs ha (ismB zs) (chrC zs)
    (fun _ W v0 h0 => s_IsSymmetricMap W v0 zs h0)
    (fun _ W v0 h0 => i_IsSymmetricMap W v0 zs h0)
end Go.Proofs.YtngdpoeondnchaaGreat

set_option linter.unusedVariables false
set_option linter.unusedSimpArgs false
namespace Go.Proofs.YtngdpoeondnchaaGreat
open Go.RowKit

set_option maxRecDepth 100000 in
set_option maxHeartbeats 8000000 in
theorem law_FnExactConjugateMap_gen (w : World) (v0 : Value) (zs0 : List Int) (ha0 : Ints w v0 zs0) (v1 : Value) (zs1 : List Int) (ha1 : Ints w v1 zs1) (r : List Int) (c : Int) (hR : zs0.length ≤ 1048576 → zs1.length ≤ 1048576 → r.length ≤ 1048576)
    (hS : zs0.length ≤ 1048576 → zs1.length ≤ 1048576 → ∀ (W : World) (v0 v1 : Value), Ints W v0 zs0 → Ints W v1 zs1 → Calls Tryz.prog 26 #[v0, v1] W fun e w' => ∃ u, e = .returned (.tuple #[u, .int .i64 c]) ∧ OI w' W.heap.size w'.heap.size tI u r ∧ Below W.heap.size W w')
    (hI : zs0.length ≤ 1048576 → zs1.length ≤ 1048576 → ∀ (W : World) (v0 v1 : Value), Ints W v0 zs0 → Ints W v1 zs1 → Calls Tryz.prog 27 #[v0, v1] W fun e w' => ∃ u, e = .returned (.tuple #[u, .int .i64 c]) ∧ OI w' W.heap.size w'.heap.size tI u r ∧ Below W.heap.size W w') :
    Calls Tryz.prog 5 #[v0, v1] w fun e w' => e = .returned (.bool true) ∧ Below w.heap.size w w' := by
  have B := Lib.hid (Below.refl w.heap.size w)
  have HS := Lib.hid hS
  have HI := Lib.hid hI
  clear hS hI
  have HR := Lib.hid hR
  clear hR
  have HA0 := Lib.hid ha0
  obtain ⟨A0, c0, rfl, -, -, -⟩ := ha0.open_
  clear ha0
  have HA1 := Lib.hid ha1
  obtain ⟨A1, c1, rfl, -, -, -⟩ := ha1.open_
  clear ha1
  go_enter Tryz.func5, Tryz.ntmps5
  by_cases hbig0 : (1048576 : Int) < (zs0.length : Int)
  · go_wp2_with fail
    go_ret
    exact ⟨rfl, Below.refl _ _⟩
  have hsm0 : zs0.length ≤ 1048576 := by omega
  by_cases hbig1 : (1048576 : Int) < (zs1.length : Int)
  · go_wp2_with fail
    go_ret
    exact ⟨rfl, Below.refl _ _⟩
  have hsm1 : zs1.length ≤ 1048576 := by omega
  go_wp2_with fail
  have HS := Lib.hid (HS.out hsm0 hsm1)
  have HI := Lib.hid (HI.out hsm0 hsm1)
  have HR := Lib.hid (HR.out hsm0 hsm1)
  refine (n_to_ints _ _ zs0 (HA0.out.below B.out) (by omega)).mono ?_
  rintro e w1 ⟨xT0, rfl, hT0, b2⟩
  have Z3 := Lib.hid (b2.size)
  have NB := Lib.hid (B.out.trans (b2.mono B.out.size))
  clear B
  have B := NB
  clear NB
  clear b2
  have T0 := Lib.hid hT0
  clear hT0
  go_wp2_with fail
  refine (n_to_ints _ _ zs1 (HA1.out.below B.out) (by omega)).mono ?_
  rintro e w4 ⟨xT1, rfl, hT1, b5⟩
  have Z6 := Lib.hid (b5.size)
  have NT0 := Lib.hid (T0.out.below b5)
  clear T0
  have T0 := NT0
  clear NT0
  have NB := Lib.hid (B.out.trans (b5.mono B.out.size))
  clear B
  have B := NB
  clear NB
  clear b5
  have T1 := Lib.hid hT1
  clear hT1
  go_wp2_with fail
  refine (HS.out _ _ _ T0.out.ints T1.out.ints).mono ?_
  rintro e w7 ⟨xW, rfl, hW, b8⟩
  have Z9 := Lib.hid (b8.size)
  have NT0 := Lib.hid (T0.out.below b8)
  clear T0
  have T0 := NT0
  clear NT0
  have NT1 := Lib.hid (T1.out.below b8)
  clear T1
  have T1 := NT1
  clear NT1
  have NB := Lib.hid (B.out.trans (b8.mono B.out.size))
  clear B
  have B := NB
  clear NB
  clear b8
  have W := Lib.hid hW
  clear hW
  clear T0
  clear T1
  go_wp2_with fail
  refine (n_to_ints _ _ zs0 (HA0.out.below B.out) (by omega)).mono ?_
  rintro e w10 ⟨xX0, rfl, hX0, b11⟩
  have Z12 := Lib.hid (b11.size)
  have NW := Lib.hid (W.out.below b11)
  clear W
  have W := NW
  clear NW
  have NB := Lib.hid (B.out.trans (b11.mono B.out.size))
  clear B
  have B := NB
  clear NB
  clear b11
  have X0 := Lib.hid hX0
  clear hX0
  go_wp2_with fail
  refine (n_to_ints _ _ zs1 (HA1.out.below B.out) (by omega)).mono ?_
  rintro e w13 ⟨xX1, rfl, hX1, b14⟩
  have Z15 := Lib.hid (b14.size)
  have NW := Lib.hid (W.out.below b14)
  clear W
  have W := NW
  clear NW
  have NX0 := Lib.hid (X0.out.below b14)
  clear X0
  have X0 := NX0
  clear NX0
  have NB := Lib.hid (B.out.trans (b14.mono B.out.size))
  clear B
  have B := NB
  clear NB
  clear b14
  have X1 := Lib.hid hX1
  clear hX1
  go_wp2_with fail
  refine (HI.out _ _ _ X0.out.ints X1.out.ints).mono ?_
  rintro e w16 ⟨xG, rfl, hG, b17⟩
  have Z18 := Lib.hid (b17.size)
  have NW := Lib.hid (W.out.below b17)
  clear W
  have W := NW
  clear NW
  have NX0 := Lib.hid (X0.out.below b17)
  clear X0
  have X0 := NX0
  clear NX0
  have NX1 := Lib.hid (X1.out.below b17)
  clear X1
  have X1 := NX1
  clear NX1
  have NB := Lib.hid (B.out.trans (b17.mono B.out.size))
  clear B
  have B := NB
  clear NB
  clear b17
  have G := Lib.hid hG
  clear hG
  go_wp2_with fail
  refine (n_eq_ints _ _ _ r G.out.ints W.out.ints).mono ?_
  rintro e w19 ⟨rfl, b20⟩
  have Z21 := Lib.hid (b20.size)
  have NW := Lib.hid (W.out.below b20)
  clear W
  have W := NW
  clear NW
  have NX0 := Lib.hid (X0.out.below b20)
  clear X0
  have X0 := NX0
  clear NX0
  have NX1 := Lib.hid (X1.out.below b20)
  clear X1
  have X1 := NX1
  clear NX1
  have NG := Lib.hid (G.out.below b20)
  clear G
  have G := NG
  clear NG
  have NB := Lib.hid (B.out.trans (b20.mono B.out.size))
  clear B
  have B := NB
  clear NB
  clear b20
  go_wp2_with fail
  refine (n_to_ints _ _ zs0 (HA0.out.below B.out) (by omega)).mono ?_
  rintro e w22 ⟨xY0, rfl, hY0, b23⟩
  have Z24 := Lib.hid (b23.size)
  have NW := Lib.hid (W.out.below b23)
  clear W
  have W := NW
  clear NW
  have NX0 := Lib.hid (X0.out.below b23)
  clear X0
  have X0 := NX0
  clear NX0
  have NX1 := Lib.hid (X1.out.below b23)
  clear X1
  have X1 := NX1
  clear NX1
  have NG := Lib.hid (G.out.below b23)
  clear G
  have G := NG
  clear NG
  have NB := Lib.hid (B.out.trans (b23.mono B.out.size))
  clear B
  have B := NB
  clear NB
  clear b23
  have Y0 := Lib.hid hY0
  clear hY0
  go_wp2_with fail
  refine (n_eq_ints _ _ _ zs0 X0.out.ints Y0.out.ints).mono ?_
  rintro e w25 ⟨rfl, b26⟩
  have Z27 := Lib.hid (b26.size)
  have NW := Lib.hid (W.out.below b26)
  clear W
  have W := NW
  clear NW
  have NX0 := Lib.hid (X0.out.below b26)
  clear X0
  have X0 := NX0
  clear NX0
  have NX1 := Lib.hid (X1.out.below b26)
  clear X1
  have X1 := NX1
  clear NX1
  have NG := Lib.hid (G.out.below b26)
  clear G
  have G := NG
  clear NG
  have NY0 := Lib.hid (Y0.out.below b26)
  clear Y0
  have Y0 := NY0
  clear NY0
  have NB := Lib.hid (B.out.trans (b26.mono B.out.size))
  clear B
  have B := NB
  clear NB
  clear b26
  clear Y0
  go_wp2_with fail
  refine (n_to_ints _ _ zs1 (HA1.out.below B.out) (by omega)).mono ?_
  rintro e w28 ⟨xY1, rfl, hY1, b29⟩
  have Z30 := Lib.hid (b29.size)
  have NW := Lib.hid (W.out.below b29)
  clear W
  have W := NW
  clear NW
  have NX0 := Lib.hid (X0.out.below b29)
  clear X0
  have X0 := NX0
  clear NX0
  have NX1 := Lib.hid (X1.out.below b29)
  clear X1
  have X1 := NX1
  clear NX1
  have NG := Lib.hid (G.out.below b29)
  clear G
  have G := NG
  clear NG
  have NB := Lib.hid (B.out.trans (b29.mono B.out.size))
  clear B
  have B := NB
  clear NB
  clear b29
  have Y1 := Lib.hid hY1
  clear hY1
  go_wp2_with fail
  refine (n_eq_ints _ _ _ zs1 X1.out.ints Y1.out.ints).mono ?_
  rintro e w31 ⟨rfl, b32⟩
  have Z33 := Lib.hid (b32.size)
  have NW := Lib.hid (W.out.below b32)
  clear W
  have W := NW
  clear NW
  have NX0 := Lib.hid (X0.out.below b32)
  clear X0
  have X0 := NX0
  clear NX0
  have NX1 := Lib.hid (X1.out.below b32)
  clear X1
  have X1 := NX1
  clear NX1
  have NG := Lib.hid (G.out.below b32)
  clear G
  have G := NG
  clear NG
  have NY1 := Lib.hid (Y1.out.below b32)
  clear Y1
  have Y1 := NY1
  clear NY1
  have NB := Lib.hid (B.out.trans (b32.mono B.out.size))
  clear B
  have B := NB
  clear NB
  clear b32
  clear Y1
  go_wp2_with fail
  refine (n_mark_ints _ _ _ _ zs0 (1) X0.out (by omega) (by omega) (by omega)).mono ?_
  rintro e w34 ⟨rfl, -, chw34⟩
  have Z35 := Lib.hid (chw34.size)
  have NW := Lib.hid (W.out.kept chw34 (by have y0 := Z3.out; have y1 := Z6.out; have y2 := Z9.out; have y3 := Z12.out; have y4 := Z15.out; have y5 := Z18.out; have y6 := Z21.out; have y7 := Z24.out; have y8 := Z27.out; have y9 := Z30.out; have y10 := Z33.out; have y11 := Z35.out; omega))
  clear W
  have W := NW
  clear NW
  have NX1 := Lib.hid (X1.out.kept chw34 (by have y0 := Z3.out; have y1 := Z6.out; have y2 := Z9.out; have y3 := Z12.out; have y4 := Z15.out; have y5 := Z18.out; have y6 := Z21.out; have y7 := Z24.out; have y8 := Z27.out; have y9 := Z30.out; have y10 := Z33.out; have y11 := Z35.out; omega))
  clear X1
  have X1 := NX1
  clear NX1
  have NG := Lib.hid (G.out.kept chw34 (by have y0 := Z3.out; have y1 := Z6.out; have y2 := Z9.out; have y3 := Z12.out; have y4 := Z15.out; have y5 := Z18.out; have y6 := Z21.out; have y7 := Z24.out; have y8 := Z27.out; have y9 := Z30.out; have y10 := Z33.out; have y11 := Z35.out; omega))
  clear G
  have G := NG
  clear NG
  clear X0
  have NB := Lib.hid (chw34.below B.out (by have y0 := Z3.out; have y1 := Z6.out; have y2 := Z9.out; have y3 := Z12.out; have y4 := Z15.out; have y5 := Z18.out; have y6 := Z21.out; have y7 := Z24.out; have y8 := Z27.out; have y9 := Z30.out; have y10 := Z33.out; have y11 := Z35.out; omega) B.out.size)
  clear B
  have B := NB
  clear NB
  clear chw34
  go_wp2_with fail
  refine (n_mark_ints _ _ _ _ zs1 (1 + (zs0.length : Int)) X1.out (by omega) (by omega) (by omega)).mono ?_
  rintro e w36 ⟨rfl, -, chw36⟩
  have Z37 := Lib.hid (chw36.size)
  have NW := Lib.hid (W.out.kept chw36 (by have y0 := Z3.out; have y1 := Z6.out; have y2 := Z9.out; have y3 := Z12.out; have y4 := Z15.out; have y5 := Z18.out; have y6 := Z21.out; have y7 := Z24.out; have y8 := Z27.out; have y9 := Z30.out; have y10 := Z33.out; have y11 := Z35.out; have y12 := Z37.out; omega))
  clear W
  have W := NW
  clear NW
  have NG := Lib.hid (G.out.kept chw36 (by have y0 := Z3.out; have y1 := Z6.out; have y2 := Z9.out; have y3 := Z12.out; have y4 := Z15.out; have y5 := Z18.out; have y6 := Z21.out; have y7 := Z24.out; have y8 := Z27.out; have y9 := Z30.out; have y10 := Z33.out; have y11 := Z35.out; have y12 := Z37.out; omega))
  clear G
  have G := NG
  clear NG
  clear X1
  have NB := Lib.hid (chw36.below B.out (by have y0 := Z3.out; have y1 := Z6.out; have y2 := Z9.out; have y3 := Z12.out; have y4 := Z15.out; have y5 := Z18.out; have y6 := Z21.out; have y7 := Z24.out; have y8 := Z27.out; have y9 := Z30.out; have y10 := Z33.out; have y11 := Z35.out; have y12 := Z37.out; omega) B.out.size)
  clear B
  have B := NB
  clear NB
  clear chw36
  have hk0 : (0 : Int) ≤ 1 + (zs0.length : Int) + (zs1.length : Int) := by omega
  go_wp2_with fail
  clear hk0
  refine (n_eq_ints _ _ _ r G.out.ints W.out.ints).mono ?_
  rintro e w38 ⟨rfl, b39⟩
  have Z40 := Lib.hid (b39.size)
  have NW := Lib.hid (W.out.below b39)
  clear W
  have W := NW
  clear NW
  have NG := Lib.hid (G.out.below b39)
  clear G
  have G := NG
  clear NG
  have NB := Lib.hid (B.out.trans (b39.mono B.out.size))
  clear B
  have B := NB
  clear NB
  clear b39
  go_wp2_with fail
  have hr0 : (0 : Int) ≤ 1 + ((r.length : Nat) : Int) := by omega
  refine (n_mark_ints _ _ _ _ r 1 G.out (by have y := HR.out; omega) (by omega) (by omega)).mono ?_
  rintro e w41 ⟨rfl, hw41, chw41⟩
  have Z42 := Lib.hid (chw41.size)
  have NW := Lib.hid (W.out.kept chw41 (by have y0 := Z3.out; have y1 := Z6.out; have y2 := Z9.out; have y3 := Z12.out; have y4 := Z15.out; have y5 := Z18.out; have y6 := Z21.out; have y7 := Z24.out; have y8 := Z27.out; have y9 := Z30.out; have y10 := Z33.out; have y11 := Z35.out; have y12 := Z37.out; have y13 := Z40.out; have y14 := Z42.out; omega))
  clear W
  have W := NW
  clear NW
  have NG := Lib.hid (hw41)
  clear G
  have G := NG
  clear NG
  have NB := Lib.hid (chw41.below B.out (by have y0 := Z3.out; have y1 := Z6.out; have y2 := Z9.out; have y3 := Z12.out; have y4 := Z15.out; have y5 := Z18.out; have y6 := Z21.out; have y7 := Z24.out; have y8 := Z27.out; have y9 := Z30.out; have y10 := Z33.out; have y11 := Z35.out; have y12 := Z37.out; have y13 := Z40.out; have y14 := Z42.out; omega) B.out.size)
  clear B
  have B := NB
  clear NB
  clear hw41 chw41
  go_wp2_with fail
  refine (n_held_ints _ _ r.length G.out.ints (by have y := HR.out; omega)).mono ?_
  rintro e w43 ⟨rfl, b44⟩
  have Z45 := Lib.hid (b44.size)
  have NW := Lib.hid (W.out.below b44)
  clear W
  have W := NW
  clear NW
  have NG := Lib.hid (G.out.below b44)
  clear G
  have G := NG
  clear NG
  have NB := Lib.hid (B.out.trans (b44.mono B.out.size))
  clear B
  have B := NB
  clear NB
  clear b44
  go_wp2_with fail
  refine (n_to_ints _ _ zs0 (HA0.out.below B.out) (by omega)).mono ?_
  rintro e w46 ⟨xV0, rfl, hV0, b47⟩
  have Z48 := Lib.hid (b47.size)
  have NW := Lib.hid (W.out.below b47)
  clear W
  have W := NW
  clear NW
  have NG := Lib.hid (G.out.below b47)
  clear G
  have G := NG
  clear NG
  have NB := Lib.hid (B.out.trans (b47.mono B.out.size))
  clear B
  have B := NB
  clear NB
  clear b47
  have V0 := Lib.hid hV0
  clear hV0
  go_wp2_with fail
  refine (n_to_ints _ _ zs1 (HA1.out.below B.out) (by omega)).mono ?_
  rintro e w49 ⟨xV1, rfl, hV1, b50⟩
  have Z51 := Lib.hid (b50.size)
  have NW := Lib.hid (W.out.below b50)
  clear W
  have W := NW
  clear NW
  have NG := Lib.hid (G.out.below b50)
  clear G
  have G := NG
  clear NG
  have NV0 := Lib.hid (V0.out.below b50)
  clear V0
  have V0 := NV0
  clear NV0
  have NB := Lib.hid (B.out.trans (b50.mono B.out.size))
  clear B
  have B := NB
  clear NB
  clear b50
  have V1 := Lib.hid hV1
  clear hV1
  go_wp2_with fail
  refine (HI.out _ _ _ V0.out.ints V1.out.ints).mono ?_
  rintro e w52 ⟨xH, rfl, hH, b53⟩
  have Z54 := Lib.hid (b53.size)
  have NW := Lib.hid (W.out.below b53)
  clear W
  have W := NW
  clear NW
  have NG := Lib.hid (G.out.below b53)
  clear G
  have G := NG
  clear NG
  have NV0 := Lib.hid (V0.out.below b53)
  clear V0
  have V0 := NV0
  clear NV0
  have NV1 := Lib.hid (V1.out.below b53)
  clear V1
  have V1 := NV1
  clear NV1
  have NB := Lib.hid (B.out.trans (b53.mono B.out.size))
  clear B
  have B := NB
  clear NB
  clear b53
  have H := Lib.hid hH
  clear hH
  clear V0
  clear V1
  go_wp2_with fail
  refine (n_eq_ints _ _ _ r H.out.ints W.out.ints).mono ?_
  rintro e w55 ⟨rfl, b56⟩
  have Z57 := Lib.hid (b56.size)
  have NW := Lib.hid (W.out.below b56)
  clear W
  have W := NW
  clear NW
  have NG := Lib.hid (G.out.below b56)
  clear G
  have G := NG
  clear NG
  have NH := Lib.hid (H.out.below b56)
  clear H
  have H := NH
  clear NH
  have NB := Lib.hid (B.out.trans (b56.mono B.out.size))
  clear B
  have B := NB
  clear NB
  clear b56
  go_wp2_with fail
  refine (n_held_ints _ _ r.length G.out.ints (by have y := HR.out; omega)).mono ?_
  rintro e w58 ⟨rfl, b59⟩
  have Z60 := Lib.hid (b59.size)
  have NW := Lib.hid (W.out.below b59)
  clear W
  have W := NW
  clear NW
  have NG := Lib.hid (G.out.below b59)
  clear G
  have G := NG
  clear NG
  have NH := Lib.hid (H.out.below b59)
  clear H
  have H := NH
  clear NH
  have NB := Lib.hid (B.out.trans (b59.mono B.out.size))
  clear B
  have B := NB
  clear NB
  clear b59
  go_wp2_with fail
  go_ret
  exact ⟨rfl, B.out⟩
end Go.Proofs.YtngdpoeondnchaaGreat

set_option maxRecDepth 100000
set_option linter.unusedVariables false
set_option linter.unusedSimpArgs false
namespace Go.Proofs.YtngdpoeondnchaaGreat
open Go.RowKit

theorem law_ConjugateMap (w : World) (v0 : Value) (zs0 : List Int) (ha0 : Ints w v0 zs0) (v1 : Value) (zs1 : List Int) (ha1 : Ints w v1 zs1) :
    Calls Tryz.prog 5 #[v0, v1] w fun e w' => e = .returned (.bool true) ∧ Below w.heap.size w w' :=
  law_FnExactConjugateMap_gen w v0 zs0 ha0 v1 zs1 ha1 (cjmR zs0 zs1) (chr2 zs0 zs1) (fun _ _ => cjmR_len zs0 zs1)
    (fun _ _ W v0 v1 h0 h1 => (s_ConjugateMap W v0 v1 zs0 zs1 h0 h1).mono fun e w' h => by obtain ⟨x, he, ho, hb⟩ := h; exact ⟨x, he, OI.of ho, hb⟩)
    (fun _ _ W v0 v1 h0 h1 => (i_ConjugateMap W v0 v1 zs0 zs1 h0 h1).mono fun e w' h => by obtain ⟨x, he, ho, hb⟩ := h; exact ⟨x, he, OI.of ho, hb⟩)
end Go.Proofs.YtngdpoeondnchaaGreat

