/- Walks: CommuteTo of the program and of the reference. | The law FnExactCommuteTo. | Arguments that came in, opened to the words of the Mem text. | The law FnExactAdjointMap, walked over the contracts of both. (printed by lawgen3.py) | Plain: the inverse of a character as the program reckons it (a list that grows) and as the reference does (stores into a unit); they are equal. Scaled maps. No walk. -/
import Derived.Test.YtngdpoeondnchaaGreatP21
import Derived.Test.YtngdpoeondnchaaGreatP25
import Derived.Test.YtngdpoeondnchaaGreatP26
import Derived.Test.YtngdpoeondnchaaGreatP32
import Derived.Test.YtngdpoeondnchaaGreatP33
import Derived.Test.YtngdpoeondnchaaGreatP2
import Derived.Test.YtngdpoeondnchaaGreatRows
import Derived.Test.YtngdpoeondnchaaGreatP1
import Derived.WalkKit
import Derived.ProofKit
import Derived.OpenShut
import Derived.WalkLawsBesides
import Derived.Deep.RegionHeld3
import Derived.Test.YtngdpoeondnchaaGreatP24
set_option maxRecDepth 100000
set_option linter.unusedVariables false
set_option linter.unusedSimpArgs false
namespace Go.Proofs.YtngdpoeondnchaaGreat
open Go.RowKit

noncomputable def cmtR (a b : List Int) : Int := if chr2 a b = 0 then agZ (cvZ a b) (cvZ b a) else 0
theorem C7.r7 {w : World} {B : Nat} {v : Value} (h : C7 w B v) : ∃ A c, v = .slice A 38 c ∧ R7 w B A 38 := by
  obtain ⟨A, c, he, h1⟩ := h.at_
  exact ⟨A, c, he, fun i hi => h1 i (by omega)⟩
theorem cvZ_take (a b : List Int) : (cvZ a b).take 38 = cvZ a b := by rw [List.take_of_length_le]; rw [cvZ_len]; exact Nat.le_refl _
set_option maxHeartbeats 8000000 in
theorem i_CommuteTo (w : World) (va vb : Value) (a b : List Int) (h1 : Ints w va a) (h2 : Ints w vb b) :
    Calls Tryz.prog 24 #[va, vb] w fun e w' => e = .returned (.tuple #[.int .i64 (cmtR a b), .int .i64 (chr2 a b)]) ∧ Below w.heap.size w w' := by
  have HCH := Lib.hid (i_checkCharacters w va vb a b h1 h2)
  have HA := Lib.hid h1
  have HB := Lib.hid h2
  obtain ⟨Aa, ca, rfl, -, -, -⟩ := h1.open_
  obtain ⟨Ab, cb, rfl, -, -, -⟩ := h2.open_
  by_cases hc : chr2 a b = 0
  · obtain ⟨hm1, hm2, -, -⟩ := chr2_of hc
    obtain ⟨l1, n1⟩ := mapB_true hm1
    obtain ⟨l2, n2⟩ := mapB_true hm2
    rw [l1] at HA HCH ⊢
    rw [l2] at HB HCH ⊢
    have HR := Lib.hid (show cmtR a b = agZ (cvZ a b) (cvZ b a) from by rw [cmtR, if_pos hc])
    rw [hc] at HCH ⊢
    have HLA := Lib.hid l1
    have HNA := Lib.hid (show Nums a from n1)
    have HLB := Lib.hid l2
    have HNB := Lib.hid (show Nums b from n2)
    clear hc hm1 hm2 l1 n1 l2 n2 h1 h2
    go_enter Tryz.func24, Tryz.ntmps24
    go_upto_region 5 with (first
      | (go_at_call 62; refine HCH.out.mono ?_; rintro e w0 ⟨rfl, rfl⟩)
      | (go_at_call 56; go_loud (refine (i_newForms _).mono ?_; rintro e w1 ⟨f, rfl, hf, hb1⟩; obtain ⟨Af, cf, Ay, cy, rfl, hrf, hfc⟩ := hf.openC; have HRF := Lib.hid hrf; have HFC := Lib.hid hfc; have HB1W := Lib.hid hb1; clear hf hrf hfc hb1)))
    obtain ⟨W, hW⟩ : ∃ W, W = w1.alloc (.cells #[.slice Af 37 cf, .slice Ay 37 cy] tFo) := ⟨_, rfl⟩
    have hbw : Below w1.heap.size w1 W := by rw [hW]; exact below1 w1 _
    have HBW := Lib.hid (HB1W.out.trans (hbw.mono HB1W.out.size))
    have HKF := Lib.hid (show Blk W w1.heap.size tFo #[.slice Af 37 cf, .slice Ay 37 cy] from by rw [hW]; exact Blk.new _ _ _)
    have HRW := Lib.hid (HRF.out.below hbw)
    have HFW := Lib.hid (HFC.out.below hbw)
    have HAW := Lib.hid (HA.out.below HBW.out)
    have HBBW := Lib.hid (HB.out.below HBW.out)
    rw [← hW]
    clear hW hbw
    have k1 : W.cell? ⟨w1.heap.size, 0, none⟩ = some (.slice Af 37 cf) := HKF.out.cell 0
    have k2 : W.cell? ⟨w1.heap.size, 1, none⟩ = some (.slice Ay 37 cy) := HKF.out.cell 1
    have HC1 := Lib.hid (show ∀ X, Below W.heap.size W X → Calls Tryz.prog 64 #[.agg #[.slice Af 37 cf, .slice Ay 37 cy], .slice Aa 38 ca, .slice Ab 38 cb] X (fun e w' => ∃ x, e = .returned x ∧ OwnInts w' W.heap.size tI x (cvZ a b) ∧ Below W.heap.size W w') from fun X hX => (i_convolve X (.slice Ay 37 cy) (.slice Aa 38 ca) (.slice Ab 38 cb) Af cf _ a b (HFW.out.below hX) (HAW.out.below hX) HLA.out HNA.out (HBBW.out.below hX) HLB.out HNB.out).mono (by rintro e w5 ⟨r5, rfl, ho5, hb5⟩; exact ⟨r5, rfl, ho5.mono hX.size, hX.trans (hb5.mono hX.size)⟩))
    have HC2 := Lib.hid (show ∀ X, Below W.heap.size W X → Calls Tryz.prog 64 #[.agg #[.slice Af 37 cf, .slice Ay 37 cy], .slice Ab 38 cb, .slice Aa 38 ca] X (fun e w' => ∃ x, e = .returned x ∧ OwnInts w' X.heap.size tI x (cvZ b a) ∧ Below X.heap.size X w') from fun X hX => (i_convolve X (.slice Ay 37 cy) (.slice Ab 38 cb) (.slice Aa 38 ca) Af cf _ b a (HFW.out.below hX) (HBBW.out.below hX) HLB.out HNB.out (HAW.out.below hX) HLA.out HNA.out))
    have HAG := Lib.hid (show ∀ X r5 r6, Below W.heap.size W X → Ints X r5 (cvZ a b) → Ints X r6 (cvZ b a) → Calls Tryz.prog 63 #[.agg #[.slice Af 37 cf, .slice Ay 37 cy], r5, r6] X (fun e w' => e = .returned (.int .i64 (agZ (cvZ a b) (cvZ b a))) ∧ Below X.heap.size X w') from fun X r5 r6 hX g5 g6 => i_agreeTo X (.slice Af 37 cf) r5 r6 Ay 37 cy _ _ (HRW.out.below hX) g5 g6 (cvZ_len _ _) (cvZ_len _ _))
    go_region_law (first
      | (go_simp; go_at_call 64; (with_reducible refine ((HC1.out _ ?_).mono ?_)); (first | exact Below.refl _ _ | exact (Below.refl _ _).drew); go_loud (rintro e w5 ⟨r5, rfl, ho5, hb5⟩; have HO5 := Lib.hid ho5; have HB5 := Lib.hid hb5; have m1 : w5.cell? ⟨w1.heap.size, 0, none⟩ = some (.slice Af 37 cf) := (HKF.out.below hb5 HKF.out.lt).cell 0; have m2 : w5.cell? ⟨w1.heap.size, 1, none⟩ = some (.slice Ay 37 cy) := (HKF.out.below hb5 HKF.out.lt).cell 1; clear ho5 hb5))
      | (go_simp; go_at_call 64; (with_reducible refine ((HC2.out _ ?_).mono ?_)); (first | exact HB5.out | exact HB5.out.drew); go_loud (rintro e w6 ⟨r6, rfl, ho6, hb6'⟩; have hb6 : Below w5.heap.size w5 w6 := (by exact hb6'); have HO6 := Lib.hid (show OwnInts w6 w5.heap.size tI r6 (cvZ b a) from by exact ho6); have HB6 := Lib.hid hb6; have m3 : w6.cell? ⟨w1.heap.size, 0, none⟩ = some (.slice Af 37 cf) := (HKF.out.below (HB5.out.trans (hb6.mono HB5.out.size)) HKF.out.lt).cell 0; have m4 : w6.cell? ⟨w1.heap.size, 1, none⟩ = some (.slice Ay 37 cy) := (HKF.out.below (HB5.out.trans (hb6.mono HB5.out.size)) HKF.out.lt).cell 1; clear ho6 hb6 hb6'))
      | (go_simp; go_at_call 63; (with_reducible refine ((HAG.out _ _ _ ?_ ?_ ?_).mono ?_)); (first | exact HB5.out.trans (HB6.out.mono HB5.out.size) | exact (HB5.out.trans (HB6.out.mono HB5.out.size)).drew); (exact HO5.out.ints.below HB6.out); (exact HO6.out.ints); go_loud (rintro e w7 ⟨rfl, hb7⟩; have HB7 := Lib.hid (show Below w6.heap.size w6 w7 from by exact hb7); clear hb7)))
    all_goals
      go_wp2_with fail
      go_ret2
      rw [HR.out]
      exact ⟨rfl, ((HBW.out.trans (HB5.out.mono HBW.out.size)).trans (HB6.out.mono (Nat.le_trans HBW.out.size HB5.out.size))).trans (HB7.out.mono (Nat.le_trans HBW.out.size (Nat.le_trans HB5.out.size HB6.out.size)))⟩
  · have HR := Lib.hid (show cmtR a b = 0 from by rw [cmtR, if_neg hc])
    rw [HR.out]
    have hd : (chr2 a b != 0) = true := by simp [hc]
    generalize chr2 a b = cc at *
    clear hc HR h1 h2
    go_enter Tryz.func24, Tryz.ntmps24
    go_wp2_with (go_at_call 62; refine HCH.out.mono ?_; rintro e w0 ⟨rfl, rfl⟩)
    go_ret2
    exact ⟨rfl, Below.refl _ _⟩
set_option maxHeartbeats 8000000 in
theorem s_CommuteTo (w : World) (va vb : Value) (a b : List Int) (h1 : Ints w va a) (h2 : Ints w vb b) :
    Calls Tryz.prog 22 #[va, vb] w fun e w' => e = .returned (.tuple #[.int .i64 (cmtR a b), .int .i64 (chr2 a b)]) ∧ Below w.heap.size w w' := by
  have HCH := Lib.hid (s_l18Both w va vb a b h1 h2)
  have HA := Lib.hid h1
  have HB := Lib.hid h2
  obtain ⟨Aa, ca, rfl, -, -, -⟩ := h1.open_
  obtain ⟨Ab, cb, rfl, -, -, -⟩ := h2.open_
  by_cases hc : chr2 a b = 0
  · obtain ⟨hm1, hm2, u1, u2⟩ := chr2_of hc
    obtain ⟨l1, n1⟩ := mapB_true hm1
    obtain ⟨l2, n2⟩ := mapB_true hm2
    rw [l1] at HA HCH ⊢
    rw [l2] at HB HCH ⊢
    have HR := Lib.hid (show cmtR a b = agZ (cvZ a b) (cvZ b a) from by rw [cmtR, if_pos hc])
    rw [hc] at HCH ⊢
    have HCV := Lib.hid (show ∀ X A c Bp, R7 X Bp A 38 → Ints X (.slice Aa 38 ca) a → Ints X (.slice Ab 38 cb) b → Calls Tryz.prog 61 #[.slice A 38 c, .slice Aa 38 ca, .slice Ab 38 cb] X (fun e w' => ∃ x, e = .returned x ∧ OwnInts w' X.heap.size tI x (cvZ a b) ∧ Below X.heap.size X w') from fun X A c Bp hR g1 g2 => by have := s_l07Conv X A _ _ c 38 Bp a b hR (by omega) (by omega) g1 l1 n1 u1 g2 l2 n2; rw [cvZ_take] at this; exact this)
    have HCW := Lib.hid (show ∀ X A c Bp, R7 X Bp A 38 → Ints X (.slice Aa 38 ca) a → Ints X (.slice Ab 38 cb) b → Calls Tryz.prog 61 #[.slice A 38 c, .slice Ab 38 cb, .slice Aa 38 ca] X (fun e w' => ∃ x, e = .returned x ∧ OwnInts w' X.heap.size tI x (cvZ b a) ∧ Below X.heap.size X w') from fun X A c Bp hR g1 g2 => by have := s_l07Conv X A _ _ c 38 Bp b a hR (by omega) (by omega) g2 l2 n2 u2 g1 l1 n1; rw [cvZ_take] at this; exact this)
    clear hc hm1 hm2 l1 n1 l2 n2 h1 h2 u1 u2
    go_enter Tryz.func22, Tryz.ntmps22
    go_wp2_with (first
      | (go_at_call 58; refine HCH.out.mono ?_; rintro e w0 ⟨rfl, rfl⟩)
      | (go_at_call 59; go_loud (refine (s_l07Cuts _).mono ?_; rintro e w1 ⟨x1, rfl, hc1, hb1⟩; obtain ⟨A1, c1, rfl, hr1⟩ := hc1.r7; have HR1 := Lib.hid hr1; have HB1 := Lib.hid hb1; clear hc1 hr1 hb1))
      | (go_at_call 61; (with_reducible refine (HCV.out _ _ _ _ HR1.out (HA.out.below HB1.out) (HB.out.below HB1.out)).mono ?_); go_loud (rintro e w5 ⟨r5, rfl, ho5, hb5⟩; have HO5 := Lib.hid ho5; have HB5 := Lib.hid hb5; have HB15 := Lib.hid (HB1.out.trans (hb5.mono HB1.out.size)); clear ho5 hb5))
      | (go_at_call 61; (with_reducible refine (HCW.out _ _ _ _ (HR1.out.below HB5.out) (HA.out.below HB15.out) (HB.out.below HB15.out)).mono ?_); go_loud (rintro e w6 ⟨r6, rfl, ho6, hb6⟩; have HO6 := Lib.hid ho6; have HB6 := Lib.hid hb6; clear ho6 hb6))
      | (go_at_call 60; go_loud (refine (s_l07Agree _ _ _ _ _ (HO5.out.ints.below HB6.out) HO6.out.ints (cvZ_len _ _) (cvZ_len _ _)).mono ?_; rintro e w7 ⟨rfl, hb7⟩; have HB7 := Lib.hid hb7; clear hb7)))
    go_ret2
    rw [HR.out]
    exact ⟨rfl, (HB15.out.trans (HB6.out.mono HB15.out.size)).trans (HB7.out.mono (Nat.le_trans HB15.out.size HB6.out.size))⟩
  · have HR := Lib.hid (show cmtR a b = 0 from by rw [cmtR, if_neg hc])
    rw [HR.out]
    have hd : (chr2 a b != 0) = true := by simp [hc]
    generalize chr2 a b = cc at *
    clear hc HR h1 h2
    go_enter Tryz.func22, Tryz.ntmps22
    go_wp2_with (go_at_call 58; refine HCH.out.mono ?_; rintro e w0 ⟨rfl, rfl⟩)
    go_ret2
    exact ⟨rfl, Below.refl _ _⟩
end Go.Proofs.YtngdpoeondnchaaGreat

set_option maxRecDepth 100000
set_option linter.unusedVariables false
set_option linter.unusedSimpArgs false
namespace Go.Proofs.YtngdpoeondnchaaGreat
open Go.RowKit

theorem law_CommuteTo (w : World) (v0 : Value) (zs0 : List Int) (ha0 : Ints w v0 zs0) (v1 : Value) (zs1 : List Int) (ha1 : Ints w v1 zs1) :
    Calls Tryz.prog 4 #[v0, v1] w fun e w' => e = .returned (.bool true) ∧ Below w.heap.size w w' :=
  law_FnExactCommuteTo_gen w v0 zs0 ha0 v1 zs1 ha1 (cmtR zs0 zs1) (chr2 zs0 zs1)
    (fun _ _ W v0 v1 h0 h1 => s_CommuteTo W v0 v1 zs0 zs1 h0 h1)
    (fun _ _ W v0 v1 h0 h1 => i_CommuteTo W v0 v1 zs0 zs1 h0 h1)
end Go.Proofs.YtngdpoeondnchaaGreat

set_option maxRecDepth 100000
set_option linter.unusedVariables false
set_option linter.unusedSimpArgs false
namespace Go.Proofs.YtngdpoeondnchaaGreat
open Go.ChangeShapes Go.WideShapes Go.ChangeAt Go.RowKit

theorem in64_of_wf {z : Int} (h : (Lit.int .i64 z).wf = true) : In64 z := by
  simp [Lit.wf, IntKind.min, IntKind.max, IntKind.signed, IntKind.bits] at h
  unfold In64
  omega

theorem open_Ints {H : Type} {enc : TypeId × Value → H} {W : World} {base : Nat} {v : Value} {d : DataW H} {p : List MemPlace}
    (hv : Value.okWide Tryz.prog W .any base 27 v) (h : DataW.Trod enc Tryz.prog W 0 (fun _ => true) true 27 v d p) : ∃ zs, Ints W v zs := by
  obtain ⟨a, len, cap, rfl⟩ := okWide_slice Tryz.underlying27 hv
  obtain ⟨fuel, hf⟩ := h
  rcases open_ints Tryz.underlying27 Tryz.underlying2 (by kernel_rfl) hf with ⟨hcs, _⟩ | ⟨x, l, c, zs, hcs, _, hl, hm, hz, _, hcell, hwz⟩
  · simp [Value.cells] at hcs
    obtain ⟨rfl, rfl, rfl⟩ := hcs
    exact ⟨[], ⟨none, 0, rfl, by simp [ints], by simp [maxLen], fun k u hk => by simp [ints] at hk⟩, fun z hz => by simp at hz⟩
  · simp [Value.cells] at hcs
    obtain ⟨rfl, rfl, rfl⟩ := hcs
    have hz' : zs.length = cap := by simpa using hz
    have hlen : (ints (zs.take len)).length = len := by simp [ints]; omega
    refine ⟨zs.take len, ⟨some x, cap, by rw [hlen], by rw [hlen]; exact hl, hm, fun k u hk => ⟨x, rfl, ?_⟩⟩, fun z hz => in64_of_wf (hwz z (List.mem_of_mem_take hz))⟩
    have hk2 : k < (ints (zs.take len)).length := (List.getElem?_eq_some_iff.1 hk).1
    rw [hlen] at hk2
    rw [hcell k (by omega)]
    have e : (ints (zs.take len))[k]? = some (.int .i64 (zs.getD k 0)) := by
      simp [ints, List.getElem?_take, hk2, List.getD, show k < zs.length by omega]
    rw [e] at hk
    exact hk
end Go.Proofs.YtngdpoeondnchaaGreat

set_option linter.unusedVariables false
set_option linter.unusedSimpArgs false
namespace Go.Proofs.YtngdpoeondnchaaGreat
open Go.RowKit

set_option maxRecDepth 100000 in
set_option maxHeartbeats 8000000 in
theorem law_FnExactAdjointMap_gen (w : World) (v0 : Value) (zs0 : List Int) (ha0 : Ints w v0 zs0) (r : List Int) (c : Int) (hR : zs0.length ≤ 1048576 → r.length ≤ 1048576)
    (hS : zs0.length ≤ 1048576 → ∀ (W : World) (v0 : Value), Ints W v0 zs0 → Calls Tryz.prog 32 #[v0] W fun e w' => ∃ u, e = .returned (.tuple #[u, .int .i64 c]) ∧ OI w' W.heap.size w'.heap.size tI u r ∧ Below W.heap.size W w')
    (hI : zs0.length ≤ 1048576 → ∀ (W : World) (v0 : Value), Ints W v0 zs0 → Calls Tryz.prog 33 #[v0] W fun e w' => ∃ u, e = .returned (.tuple #[u, .int .i64 c]) ∧ OI w' W.heap.size w'.heap.size tI u r ∧ Below W.heap.size W w') :
    Calls Tryz.prog 7 #[v0] w fun e w' => e = .returned (.bool true) ∧ Below w.heap.size w w' := by
  have B := Lib.hid (Below.refl w.heap.size w)
  have HS := Lib.hid hS
  have HI := Lib.hid hI
  clear hS hI
  have HR := Lib.hid hR
  clear hR
  have HA0 := Lib.hid ha0
  obtain ⟨A0, c0, rfl, -, -, -⟩ := ha0.open_
  clear ha0
  go_enter Tryz.func7, Tryz.ntmps7
  by_cases hbig0 : (1048576 : Int) < (zs0.length : Int)
  · go_wp2_with fail
    go_ret
    exact ⟨rfl, Below.refl _ _⟩
  have hsm0 : zs0.length ≤ 1048576 := by omega
  go_wp2_with fail
  have HS := Lib.hid (HS.out hsm0)
  have HI := Lib.hid (HI.out hsm0)
  have HR := Lib.hid (HR.out hsm0)
  refine (n_to_ints _ _ zs0 (HA0.out.below B.out) (by omega)).mono ?_
  rintro e w1 ⟨xT0, rfl, hT0, b2⟩
  have Z3 := Lib.hid (b2.size)
  have NB := Lib.hid (B.out.trans (b2.mono B.out.size))
  clear B
  have B := NB
  clear NB
  clear b2
  have T0 := Lib.hid hT0
  clear hT0
  go_wp2_with fail
  refine (HS.out _ _ T0.out.ints).mono ?_
  rintro e w4 ⟨xW, rfl, hW, b5⟩
  have Z6 := Lib.hid (b5.size)
  have NT0 := Lib.hid (T0.out.below b5)
  clear T0
  have T0 := NT0
  clear NT0
  have NB := Lib.hid (B.out.trans (b5.mono B.out.size))
  clear B
  have B := NB
  clear NB
  clear b5
  have W := Lib.hid hW
  clear hW
  clear T0
  go_wp2_with fail
  refine (n_to_ints _ _ zs0 (HA0.out.below B.out) (by omega)).mono ?_
  rintro e w7 ⟨xX0, rfl, hX0, b8⟩
  have Z9 := Lib.hid (b8.size)
  have NW := Lib.hid (W.out.below b8)
  clear W
  have W := NW
  clear NW
  have NB := Lib.hid (B.out.trans (b8.mono B.out.size))
  clear B
  have B := NB
  clear NB
  clear b8
  have X0 := Lib.hid hX0
  clear hX0
  go_wp2_with fail
  refine (HI.out _ _ X0.out.ints).mono ?_
  rintro e w10 ⟨xG, rfl, hG, b11⟩
  have Z12 := Lib.hid (b11.size)
  have NW := Lib.hid (W.out.below b11)
  clear W
  have W := NW
  clear NW
  have NX0 := Lib.hid (X0.out.below b11)
  clear X0
  have X0 := NX0
  clear NX0
  have NB := Lib.hid (B.out.trans (b11.mono B.out.size))
  clear B
  have B := NB
  clear NB
  clear b11
  have G := Lib.hid hG
  clear hG
  go_wp2_with fail
  refine (n_eq_ints _ _ _ r G.out.ints W.out.ints).mono ?_
  rintro e w13 ⟨rfl, b14⟩
  have Z15 := Lib.hid (b14.size)
  have NW := Lib.hid (W.out.below b14)
  clear W
  have W := NW
  clear NW
  have NX0 := Lib.hid (X0.out.below b14)
  clear X0
  have X0 := NX0
  clear NX0
  have NG := Lib.hid (G.out.below b14)
  clear G
  have G := NG
  clear NG
  have NB := Lib.hid (B.out.trans (b14.mono B.out.size))
  clear B
  have B := NB
  clear NB
  clear b14
  go_wp2_with fail
  refine (n_to_ints _ _ zs0 (HA0.out.below B.out) (by omega)).mono ?_
  rintro e w16 ⟨xY0, rfl, hY0, b17⟩
  have Z18 := Lib.hid (b17.size)
  have NW := Lib.hid (W.out.below b17)
  clear W
  have W := NW
  clear NW
  have NX0 := Lib.hid (X0.out.below b17)
  clear X0
  have X0 := NX0
  clear NX0
  have NG := Lib.hid (G.out.below b17)
  clear G
  have G := NG
  clear NG
  have NB := Lib.hid (B.out.trans (b17.mono B.out.size))
  clear B
  have B := NB
  clear NB
  clear b17
  have Y0 := Lib.hid hY0
  clear hY0
  go_wp2_with fail
  refine (n_eq_ints _ _ _ zs0 X0.out.ints Y0.out.ints).mono ?_
  rintro e w19 ⟨rfl, b20⟩
  have Z21 := Lib.hid (b20.size)
  have NW := Lib.hid (W.out.below b20)
  clear W
  have W := NW
  clear NW
  have NX0 := Lib.hid (X0.out.below b20)
  clear X0
  have X0 := NX0
  clear NX0
  have NG := Lib.hid (G.out.below b20)
  clear G
  have G := NG
  clear NG
  have NY0 := Lib.hid (Y0.out.below b20)
  clear Y0
  have Y0 := NY0
  clear NY0
  have NB := Lib.hid (B.out.trans (b20.mono B.out.size))
  clear B
  have B := NB
  clear NB
  clear b20
  clear Y0
  go_wp2_with fail
  refine (n_mark_ints _ _ _ _ zs0 (1) X0.out (by omega) (by omega) (by omega)).mono ?_
  rintro e w22 ⟨rfl, -, chw22⟩
  have Z23 := Lib.hid (chw22.size)
  have NW := Lib.hid (W.out.kept chw22 (by have y0 := Z3.out; have y1 := Z6.out; have y2 := Z9.out; have y3 := Z12.out; have y4 := Z15.out; have y5 := Z18.out; have y6 := Z21.out; have y7 := Z23.out; omega))
  clear W
  have W := NW
  clear NW
  have NG := Lib.hid (G.out.kept chw22 (by have y0 := Z3.out; have y1 := Z6.out; have y2 := Z9.out; have y3 := Z12.out; have y4 := Z15.out; have y5 := Z18.out; have y6 := Z21.out; have y7 := Z23.out; omega))
  clear G
  have G := NG
  clear NG
  clear X0
  have NB := Lib.hid (chw22.below B.out (by have y0 := Z3.out; have y1 := Z6.out; have y2 := Z9.out; have y3 := Z12.out; have y4 := Z15.out; have y5 := Z18.out; have y6 := Z21.out; have y7 := Z23.out; omega) B.out.size)
  clear B
  have B := NB
  clear NB
  clear chw22
  have hk0 : (0 : Int) ≤ 1 + (zs0.length : Int) := by omega
  go_wp2_with fail
  clear hk0
  refine (n_eq_ints _ _ _ r G.out.ints W.out.ints).mono ?_
  rintro e w24 ⟨rfl, b25⟩
  have Z26 := Lib.hid (b25.size)
  have NW := Lib.hid (W.out.below b25)
  clear W
  have W := NW
  clear NW
  have NG := Lib.hid (G.out.below b25)
  clear G
  have G := NG
  clear NG
  have NB := Lib.hid (B.out.trans (b25.mono B.out.size))
  clear B
  have B := NB
  clear NB
  clear b25
  go_wp2_with fail
  have hr0 : (0 : Int) ≤ 1 + ((r.length : Nat) : Int) := by omega
  refine (n_mark_ints _ _ _ _ r 1 G.out (by have y := HR.out; omega) (by omega) (by omega)).mono ?_
  rintro e w27 ⟨rfl, hw27, chw27⟩
  have Z28 := Lib.hid (chw27.size)
  have NW := Lib.hid (W.out.kept chw27 (by have y0 := Z3.out; have y1 := Z6.out; have y2 := Z9.out; have y3 := Z12.out; have y4 := Z15.out; have y5 := Z18.out; have y6 := Z21.out; have y7 := Z23.out; have y8 := Z26.out; have y9 := Z28.out; omega))
  clear W
  have W := NW
  clear NW
  have NG := Lib.hid (hw27)
  clear G
  have G := NG
  clear NG
  have NB := Lib.hid (chw27.below B.out (by have y0 := Z3.out; have y1 := Z6.out; have y2 := Z9.out; have y3 := Z12.out; have y4 := Z15.out; have y5 := Z18.out; have y6 := Z21.out; have y7 := Z23.out; have y8 := Z26.out; have y9 := Z28.out; omega) B.out.size)
  clear B
  have B := NB
  clear NB
  clear hw27 chw27
  go_wp2_with fail
  refine (n_held_ints _ _ r.length G.out.ints (by have y := HR.out; omega)).mono ?_
  rintro e w29 ⟨rfl, b30⟩
  have Z31 := Lib.hid (b30.size)
  have NW := Lib.hid (W.out.below b30)
  clear W
  have W := NW
  clear NW
  have NG := Lib.hid (G.out.below b30)
  clear G
  have G := NG
  clear NG
  have NB := Lib.hid (B.out.trans (b30.mono B.out.size))
  clear B
  have B := NB
  clear NB
  clear b30
  go_wp2_with fail
  refine (n_to_ints _ _ zs0 (HA0.out.below B.out) (by omega)).mono ?_
  rintro e w32 ⟨xV0, rfl, hV0, b33⟩
  have Z34 := Lib.hid (b33.size)
  have NW := Lib.hid (W.out.below b33)
  clear W
  have W := NW
  clear NW
  have NG := Lib.hid (G.out.below b33)
  clear G
  have G := NG
  clear NG
  have NB := Lib.hid (B.out.trans (b33.mono B.out.size))
  clear B
  have B := NB
  clear NB
  clear b33
  have V0 := Lib.hid hV0
  clear hV0
  go_wp2_with fail
  refine (HI.out _ _ V0.out.ints).mono ?_
  rintro e w35 ⟨xH, rfl, hH, b36⟩
  have Z37 := Lib.hid (b36.size)
  have NW := Lib.hid (W.out.below b36)
  clear W
  have W := NW
  clear NW
  have NG := Lib.hid (G.out.below b36)
  clear G
  have G := NG
  clear NG
  have NV0 := Lib.hid (V0.out.below b36)
  clear V0
  have V0 := NV0
  clear NV0
  have NB := Lib.hid (B.out.trans (b36.mono B.out.size))
  clear B
  have B := NB
  clear NB
  clear b36
  have H := Lib.hid hH
  clear hH
  clear V0
  go_wp2_with fail
  refine (n_eq_ints _ _ _ r H.out.ints W.out.ints).mono ?_
  rintro e w38 ⟨rfl, b39⟩
  have Z40 := Lib.hid (b39.size)
  have NW := Lib.hid (W.out.below b39)
  clear W
  have W := NW
  clear NW
  have NG := Lib.hid (G.out.below b39)
  clear G
  have G := NG
  clear NG
  have NH := Lib.hid (H.out.below b39)
  clear H
  have H := NH
  clear NH
  have NB := Lib.hid (B.out.trans (b39.mono B.out.size))
  clear B
  have B := NB
  clear NB
  clear b39
  go_wp2_with fail
  refine (n_held_ints _ _ r.length G.out.ints (by have y := HR.out; omega)).mono ?_
  rintro e w41 ⟨rfl, b42⟩
  have Z43 := Lib.hid (b42.size)
  have NW := Lib.hid (W.out.below b42)
  clear W
  have W := NW
  clear NW
  have NG := Lib.hid (G.out.below b42)
  clear G
  have G := NG
  clear NG
  have NH := Lib.hid (H.out.below b42)
  clear H
  have H := NH
  clear NH
  have NB := Lib.hid (B.out.trans (b42.mono B.out.size))
  clear B
  have B := NB
  clear NB
  clear b42
  go_wp2_with fail
  go_ret
  exact ⟨rfl, B.out⟩
end Go.Proofs.YtngdpoeondnchaaGreat

set_option maxRecDepth 100000
set_option linter.unusedVariables false
set_option linter.unusedSimpArgs false
namespace Go.Proofs.YtngdpoeondnchaaGreat
open Go.RowKit

/-! ### what the kernel finds of the places in cuts -/
def okTp (p : Nat) (x : MCt) : Bool := (bif Nat.blt 0 x.1.2 then x.1.1.all (fun k => Nat.blt k p || Nat.beq p 0) else true) && (match x.1.1 with | [] => true | _ :: _ => Nat.blt x.1.2 p)
theorem tp3 : (List.range 38).all (fun p => (CP p).all (okTp p)) = true := by decide +kernel
theorem tp_at {p : Nat} (hp : p < 38) (h0 : 0 < p) {x : MCt} (hx : x ∈ CP p) : (0 < x.1.2 → ∀ k ∈ x.1.1, k < p) ∧ (x.1.1 ≠ [] → x.1.2 < p) := by
  have h1 := tp3
  rw [List.all_eq_true] at h1
  have h2 := h1 p (by simpa using hp)
  rw [List.all_eq_true] at h2
  have h3 := h2 x hx
  unfold okTp at h3
  rw [Bool.and_eq_true] at h3
  refine ⟨fun h k hk => ?_, fun h => ?_⟩
  · have e : Nat.blt 0 x.1.2 = true := Nat.ble_eq_true_of_le h
    have h4 := h3.1
    rw [e, cond_true, List.all_eq_true] at h4
    have h5 := h4 k hk
    rw [Bool.or_eq_true] at h5
    rcases h5 with h5 | h5
    · exact blt_lt h5
    · have := Nat.eq_of_beq_eq_true h5; omega
  · cases he : x.1.1 with
    | nil => exact absurd he h
    | cons a l =>
      have h4 := h3.2
      rw [he] at h4
      exact blt_lt h4

/-! ### the program's inverse -/
def tpI (b a : List Int) (x : MC) : Int := bif Nat.blt 0 x.1.2 then tcI b a x else 0
theorem tpI_bd (b a : List Int) (x : MC) : 0 ≤ tpI b a x ∧ tpI b a x ≤ 10006 := by
  unfold tpI
  cases Nat.blt 0 x.1.2 with
  | true => exact tcI_bd b a x
  | false => simp
def invL (a : List Int) : Nat → List Int
  | 0 => [1]
  | n + 1 => invL a n ++ [(-(sumF (tpI (invL a n) a) (CTab.getD n []))) % 10007]
theorem invL_len (a : List Int) (n : Nat) : (invL a n).length = n + 1 := by
  induction n with
  | zero => rfl
  | succ n ih => simp only [invL, List.length_append, List.length_singleton, ih]
theorem invL_nums (a : List Int) (n : Nat) : Nums (invL a n) := by
  induction n with
  | zero => intro z hz; simp only [invL, List.mem_singleton] at hz; omega
  | succ n ih =>
    intro z hz
    simp only [invL] at hz
    rcases List.mem_append.1 hz with h | h
    · exact ih z h
    · have := List.mem_singleton.1 h
      omega
theorem invL_get (a : List Int) {n m k : Nat} (hk : k ≤ n) (hm : n ≤ m) : (invL a m).getD k 0 = (invL a n).getD k 0 := by
  obtain ⟨d, rfl⟩ := Nat.exists_eq_add_of_le hm
  clear hm
  induction d with
  | zero => rfl
  | succ d ih =>
    rw [← ih]
    show (invL a (n + d + 1)).getD k 0 = _
    rw [invL, List.getD_eq_getElem?_getD, List.getElem?_append_left (by rw [invL_len]; omega), ← List.getD_eq_getElem?_getD]
theorem invL_new (a : List Int) {n m : Nat} (hm : n + 1 ≤ m) : (invL a m).getD (n + 1) 0 = (-(sumF (tpI (invL a n) a) (CTab.getD n []))) % 10007 := by
  rw [invL_get a (Nat.le_refl _) hm, invL, List.getD_eq_getElem?_getD, List.getElem?_append_right (by rw [invL_len]; omega), invL_len, Nat.sub_self]
  rfl
theorem cvT_zero (x y : Nat → Int) : cv x y 0 = y 0 := by
  show sumF (cvT x y) [(([], 0), 1)] = _
  simp [sumF, cvT, pz_nil]
theorem inv_left {a : List Int} (h0 : a.getD 0 0 = 1) : ∀ p, p < 38 → cv (gz (invL a 37)) (gz a) p % 10007 = un p % 10007 := by
  intro p hp
  cases p with
  | zero => rw [cvT_zero]; show a.getD 0 0 % 10007 = _; rw [h0]; rfl
  | succ n =>
    rw [cv_pos _ _ (by omega) hp]
    have e1 : gz a 0 = 1 := h0
    have e2 : gz (invL a 37) (n + 1) = (-(sumF (tpI (invL a n) a) (CTab.getD n []))) % 10007 := invL_new a (by omega)
    have e3 : sumF (posT (gz (invL a 37)) (gz a)) (CP (n + 1)) % 10007 = sumF (tpI (invL a n) a) (CTab.getD n []) % 10007 := by
      refine sumF_modc fun x hx => ?_
      unfold posT tpI
      cases hb : Nat.blt 0 x.1.2 with
      | false => rfl
      | true =>
        rw [cond_true, cond_true, tcI_is, Int.emod_emod_of_dvd _ (Int.dvd_refl _)]
        refine cvT_mod (fun k hk => ?_) rfl
        have := (tp_at hp (by omega) hx).1 (blt_lt hb) k hk
        show (invL a 37).getD k 0 % 10007 = (invL a n).getD k 0 % 10007
        rw [invL_get a (show k ≤ n by omega) (by omega)]
    have e4 : un (n + 1) = 0 := if_neg (by omega)
    rw [e1, e2, e4, Int.mul_one]
    omega

/-! ### the reference's inverse -/
def unM : List Int := filT EX 1
theorem unM_is : unM = 1 :: List.replicate 37 0 := rfl
def refL (a : List Int) : Nat → List Int
  | 0 => unM
  | n + 1 => (refL a n).set (n + 1) ((0 - (cvZ a (refL a n)).getD (n + 1) 0) % 10007)
theorem refL_len (a : List Int) (n : Nat) : (refL a n).length = 38 := by
  induction n with
  | zero => rfl
  | succ n ih => rw [refL, List.length_set, ih]
theorem refL_nums (a : List Int) (n : Nat) : Nums (refL a n) := by
  induction n with
  | zero =>
    intro z hz
    change z ∈ unM at hz
    rw [unM_is] at hz
    rcases List.mem_cons.1 hz with rfl | hz
    · omega
    · have := List.eq_of_mem_replicate hz
      omega
  | succ n ih =>
    intro z hz
    rw [refL] at hz
    rcases List.mem_or_eq_of_mem_set hz with h | h
    · exact ih z h
    · omega
theorem refL_same (a : List Int) {n k : Nat} (h : k ≠ n + 1) : (refL a (n + 1)).getD k 0 = (refL a n).getD k 0 := by
  rw [refL, List.getD_eq_getElem?_getD, List.getElem?_set_ne (by omega), ← List.getD_eq_getElem?_getD]
theorem refL_get (a : List Int) {n m k : Nat} (hk : k ≤ n) (hm : n ≤ m) : (refL a m).getD k 0 = (refL a n).getD k 0 := by
  obtain ⟨d, rfl⟩ := Nat.exists_eq_add_of_le hm
  clear hm
  induction d with
  | zero => rfl
  | succ d ih =>
    rw [← ih]
    exact refL_same a (show k ≠ n + d + 1 by omega)
theorem refL_zero (a : List Int) {n k : Nat} (hk : n < k) : (refL a n).getD k 0 = 0 := by
  induction n with
  | zero =>
    show unM.getD k 0 = 0
    rw [unM_is]
    obtain ⟨j, rfl⟩ : ∃ j, k = j + 1 := ⟨k - 1, by omega⟩
    rw [List.getD_cons_succ, List.getD_eq_getElem?_getD, List.getElem?_replicate]
    split <;> rfl
  | succ n ih => rw [refL_same a (by omega)]; exact ih (by omega)
theorem refL_head (a : List Int) (n : Nat) : (refL a n).getD 0 0 = 1 := refL_get a (Nat.le_refl 0) (Nat.zero_le n)
theorem refL_new (a : List Int) {n m : Nat} (h : n < 37) (hm : n + 1 ≤ m) : (refL a m).getD (n + 1) 0 = (0 - (cvZ a (refL a n)).getD (n + 1) 0) % 10007 := by
  rw [refL_get a (Nat.le_refl _) hm, refL, List.getD_eq_getElem?_getD, List.getElem?_set_self (by rw [refL_len]; omega)]
  rfl
theorem inv_right (a : List Int) : ∀ p, p < 38 → cv (gz a) (gz (refL a 37)) p % 10007 = un p % 10007 := by
  intro p hp
  cases p with
  | zero => rw [cvT_zero]; show (refL a 37).getD 0 0 % 10007 = _; rw [refL_head]; rfl
  | succ n =>
    rw [cv_rest _ _ hp]
    have e1 : (cvZ a (refL a n)).getD (n + 1) 0 = sumF (tcI a (refL a n)) (CTab.getD n []) % 10007 := by
      rw [List.getD_eq_getElem?_getD, cvZ_get a _ (by omega)]; rfl
    have e2 : gz (refL a 37) (n + 1) = (0 - (cvZ a (refL a n)).getD (n + 1) 0) % 10007 := refL_new a (by omega) (by omega)
    have e3 : sumF (tcI a (refL a n)) (CTab.getD n []) % 10007 = cv (gz a) (gz (refL a n)) (n + 1) % 10007 := by
      show _ = sumF (cvT (gz a) (gz (refL a n))) (CTab.getD n []) % 10007
      refine sumF_modc fun x hx => ?_
      rw [tcI_is, Int.emod_emod_of_dvd _ (Int.dvd_refl _)]
    have e4 : gz (refL a n) (n + 1) = 0 := refL_zero a (by omega)
    rw [cv_rest _ _ hp, e4] at e3
    have e5 : sumF (posE (gz a) (gz (refL a 37))) (CP (n + 1)) % 10007 = sumF (posE (gz a) (gz (refL a n))) (CP (n + 1)) % 10007 := by
      refine sumF_modc fun x hx => ?_
      unfold posE
      cases hcr : x.1.1 with
      | nil => rfl
      | cons u us =>
        refine cvT_mod (fun k _ => rfl) ?_
        have := (tp_at hp (by omega) hx).2 (by rw [hcr]; simp)
        show (refL a 37).getD x.1.2 0 % 10007 = (refL a n).getD x.1.2 0 % 10007
        rw [refL_get a (show x.1.2 ≤ n by omega) (by omega)]
    have e6 : un (n + 1) = 0 := if_neg (by omega)
    rw [e2, e1, e6]
    omega
theorem nums_getD {zs : List Int} (h : Nums zs) (k : Nat) : 0 ≤ zs.getD k 0 ∧ zs.getD k 0 ≤ 10006 := by
  rw [List.getD_eq_getElem?_getD]
  cases hk : zs[k]? with
  | none => simp
  | some z => exact h z (List.mem_of_getElem? hk)
/-- both inverses are one -/
theorem inv_eq {a : List Int} (h0 : a.getD 0 0 = 1) : invL a 37 = refL a 37 := by
  have h := inv_both (a := gz a) (x := gz (invL a 37)) (y := gz (refL a 37)) h0 (by show (invL a 37).getD 0 0 = 1; rw [invL_get a (Nat.le_refl 0) (by omega)]; rfl) (inv_left h0) (inv_right a)
  refine List.ext_getElem? fun k => ?_
  by_cases hk : k < 38
  · have h1 := h k hk
    have b1 := nums_getD (invL_nums a 37) k
    have b2 := nums_getD (refL_nums a 37) k
    have h2 : (invL a 37).getD k 0 = (refL a 37).getD k 0 := by
      have h3 : (invL a 37).getD k 0 % 10007 = (refL a 37).getD k 0 % 10007 := h1
      omega
    rw [List.getD_eq_getElem?_getD, List.getD_eq_getElem?_getD] at h2
    have hk1 : k < (invL a 37).length := by rw [invL_len]; exact hk
    have hk2 : k < (refL a 37).length := by rw [refL_len]; exact hk
    rw [List.getElem?_eq_getElem hk1, List.getElem?_eq_getElem hk2] at h2 ⊢
    simpa using h2
  · rw [List.getElem?_eq_none (by rw [invL_len]; omega), List.getElem?_eq_none (by rw [refL_len]; omega)]

/-! ### scaled maps -/
def scZ (a : List Int) (k : Int) : List Int := (List.range 38).map fun j => a.getD j 0 * pw k (szN j) % 10007
theorem scZ_len (a : List Int) (k : Int) : (scZ a k).length = 38 := by simp [scZ]
theorem scZ_nums (a : List Int) (k : Int) : Nums (scZ a k) := by
  intro z hz
  obtain ⟨j, -, rfl⟩ := List.mem_map.1 hz
  omega
theorem scZ_get (a : List Int) (k : Int) {i : Nat} (h : i < 38) : (scZ a k)[i]? = some (a.getD i 0 * pw k (szN i) % 10007) := by
  unfold scZ
  simp [h]
theorem scZ_head {a : List Int} (h : Nums a) (k : Int) : (scZ a k).getD 0 0 = a.getD 0 0 := by
  have := nums_getD h 0
  have hp : pw k (szN 0) = 1 := by rw [szN_zero]; simp [pw]
  rw [List.getD_eq_getElem?_getD, scZ_get a k (by omega), hp, Int.mul_one]
  show a.getD 0 0 % 10007 = _
  omega
end Go.Proofs.YtngdpoeondnchaaGreat

