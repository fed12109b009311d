/- Walks: repeated convolutions with scaled maps: composedSteps, l18Compose, refined, l07Power. | Walks: RefineMap of the program and of the reference. -/
import Derived.Test.YtngdpoeondnchaaGreatQ25
import Derived.Test.YtngdpoeondnchaaGreatQ36
set_option maxRecDepth 100000
set_option linter.unusedVariables false
set_option linter.unusedSimpArgs false
namespace Go.Proofs.YtngdpoeondnchaaGreat
open Go.RowKit

theorem nums_at {zs : List Int} (h : Nums zs) {k : Nat} {z : Int} (hz : zs[k]? = some z) : 0 ≤ z ∧ z ≤ 10006 := h z (List.mem_of_getElem? hz)
theorem getD_of {zs : List Int} {k : Nat} {z : Int} (hz : zs[k]? = some z) : zs.getD k 0 = z := by rw [List.getD_eq_getElem?_getD, hz]; rfl
set_option maxHeartbeats 8000000 in
theorem i_composedSteps (w : World) (vp va vs : Value) (Af : Option Addr) (cf Bp : Nat) (a st : List Int) (hR : Rows w (.slice Af 37 cf) (T6n.map up)) (hP : FrC w Bp vp) (h1 : Ints w va a) (l1 : a.length = 38) (n1 : Nums a) (h2 : Ints w vs st) (n2 : Nums st) (hl : st.length ≤ 1000) :
    Calls Tryz.prog 78 #[.agg #[.slice Af 37 cf, vp], va, vs] w fun e w' => ∃ x, e = .returned x ∧ OwnInts w' w.heap.size tI x (cmS a st st.length) ∧ Below w.heap.size w w' := by
  obtain ⟨Ay, cy, rfl, -⟩ := hP.at_
  obtain ⟨Aa, ca, rfl, -, -, -⟩ := h1.open_
  obtain ⟨As, cs, rfl, g1, g2, g3⟩ := h2.open_
  rw [l1] at h1 ⊢
  obtain ⟨W, hW⟩ : ∃ W, W = w.alloc (.cells #[.slice Af 37 cf, .slice Ay 37 cy] tFo) := ⟨_, rfl⟩
  have hbw : Below w.heap.size w W := by rw [hW]; exact below1 w _
  have HBW := Lib.hid hbw
  have HKF := Lib.hid (show Blk W w.heap.size tFo #[.slice Af 37 cf, .slice Ay 37 cy] from by rw [hW]; exact Blk.new _ _ _)
  have HRW := Lib.hid (hR.below hbw)
  have HFW := Lib.hid (hP.below hbw)
  have HAW := Lib.hid (h1.below hbw)
  have H3 := Lib.hid g3
  have HL1 := Lib.hid l1
  have HN1 := Lib.hid n1
  have HN2 := Lib.hid n2
  clear hR hP h1 h2 l1 n1 n2 g3 hbw
  go_enter Tryz.func78, Tryz.ntmps78
  go_upto_region 1 with fail
  rw [← hW]
  clear hW
  have k1 : W.cell? ⟨w.heap.size, 0, none⟩ = some (.slice Af 37 cf) := HKF.out.cell 0
  have k2 : W.cell? ⟨w.heap.size, 1, none⟩ = some (.slice Ay 37 cy) := HKF.out.cell 1
  go_wp2_with (go_at_call 125; go_loud (refine (i_UnitMap _).mono ?_; rintro e w1 ⟨x1, rfl, ho1, hb1⟩; have HO1 := Lib.hid ho1; have HB1 := Lib.hid hb1; clear ho1 hb1))
  clear k1 k2
  go_loopw [7, 13] (fun o x wr => ∃ n : Nat, n ≤ st.length ∧ x = .int .i64 n ∧ OwnInts wr W.heap.size tI o (cmS a st n) ∧ Below W.heap.size W wr) (fun _ x _ => st.length - (intOf x).toNat)
  case atStart => exact ⟨0, Nat.zero_le _, rfl, HO1.out, HB1.out⟩
  case round =>
    obtain ⟨n, hn, rfl, ho, hb⟩ := hrel
    rename World => wq
    clear HO1 HB1
    have HO := Lib.hid ho
    have HB := Lib.hid hb
    obtain ⟨Ao, co, heo, -, -, -⟩ := ho.ints.open_
    rw [cmS_len] at heo
    subst heo
    clear ho hb
    by_cases hlt : n < st.length
    · obtain ⟨ad, z, rfl, hz, hz2, hc0⟩ := H3.out n hlt
      have hnn : (n : Int) < (st.length : Int) := by omega
      have hc1 : wq.cell? (ad.add n) = some (.int .i64 z) := keepCell (HBW.out.trans (HB.out.mono HBW.out.size)) hc0
      obtain ⟨z0, z1⟩ := nums_at HN2.out hz
      have HS := Lib.hid (show cmS a st (n + 1) = cvZ (cmS a st n) (scZ a z) from by rw [cmS, getD_of hz])
      have HC1 := Lib.hid (show ∀ X, Below wq.heap.size wq X → Calls Tryz.prog 82 #[.agg #[.slice Af 37 cf, .slice Ay 37 cy], .slice Aa 38 ca, .int .i64 z] X (fun e w' => ∃ x, e = .returned x ∧ OwnInts w' wq.heap.size tI x (scZ a z) ∧ Below wq.heap.size wq w') from fun X hX => by
        have h := i_scaleMap X (.slice Af 37 cf) (.slice Aa 38 ca) Ay 37 cy a z ((HRW.out.below HB.out).below hX) ((HAW.out.below HB.out).below hX) HL1.out HN1.out (by omega) (by omega)
        exact h.mono (by rintro e w5 ⟨r5, rfl, ho5, hb5⟩; exact ⟨r5, rfl, ho5.mono hX.size, hX.trans (hb5.mono hX.size)⟩))
      have HC2 := Lib.hid (show ∀ X r, Below wq.heap.size wq X → Ints X r (scZ a z) → Calls Tryz.prog 64 #[.agg #[.slice Af 37 cf, .slice Ay 37 cy], .slice Ao 38 co, r] X (fun e w' => ∃ x, e = .returned x ∧ OwnInts w' X.heap.size tI x (cvZ (cmS a st n) (scZ a z)) ∧ Below X.heap.size X w') from fun X r hX hr => i_convolve X (.slice Ay 37 cy) (.slice Ao 38 co) r Af cf _ (cmS a st n) (scZ a z) ((HFW.out.below HB.out).below hX) (HO.out.ints.below hX) (cmS_len _ _ _) (cmS_nums _ _ _) hr (scZ_len _ _) (scZ_nums _ _))
      have HKQ := Lib.hid (HKF.out.below HB.out HKF.out.lt)
      have k1 : wq.cell? ⟨w.heap.size, 0, none⟩ = some (.slice Af 37 cf) := HKQ.out.cell 0
      have k2 : wq.cell? ⟨w.heap.size, 1, none⟩ = some (.slice Ay 37 cy) := HKQ.out.cell 1
      clear hz hz2 hc0
      go_upto_region 5 with fail
      go_region_law (first
        | (go_simp; go_at_call 82; (with_reducible refine ((HC1.out _ ?_).mono ?_)); (first | exact Below.refl _ _ | exact (Below.refl _ _).drew); go_loud (rintro e w5 ⟨r5, rfl, ho5, hb5⟩; have HO5 := Lib.hid ho5; have HB5 := Lib.hid hb5; have m1 : w5.cell? ⟨w.heap.size, 0, none⟩ = some (.slice Af 37 cf) := (HKQ.out.below hb5 HKQ.out.lt).cell 0; have m2 : w5.cell? ⟨w.heap.size, 1, none⟩ = some (.slice Ay 37 cy) := (HKQ.out.below hb5 HKQ.out.lt).cell 1; clear ho5 hb5))
        | (go_simp; go_at_call 64; (with_reducible refine ((HC2.out _ _ ?_ ?_).mono ?_)); (first | exact HB5.out | exact HB5.out.drew); (exact HO5.out.ints); go_loud (rintro e w6 ⟨r6, rfl, ho6, hb6'⟩; have HB6 := Lib.hid (show Below w5.heap.size w5 w6 from by exact hb6'); have HO6 := Lib.hid (show OwnInts w6 w5.heap.size tI r6 (cvZ (cmS a st n) (scZ a z)) from by exact ho6); clear ho6 hb6')))
      all_goals
        go_wp2_with fail
        go_roundw
        case rel =>
          refine ⟨n + 1, by omega, by go_num, ?_, (HB.out.trans (HB5.out.mono HB.out.size)).trans (HB6.out.mono (Nat.le_trans HB.out.size HB5.out.size))⟩
          rw [HS.out]
          exact HO6.out.mono (Nat.le_trans HB.out.size HB5.out.size)
        case measure => simp [intOf]; omega
    · have hnl : n = st.length := by omega
      subst hnl
      go_wp2_with fail
      go_ret
      exact ⟨_, rfl, HO.out.mono HBW.out.size, HBW.out.trans (HB.out.mono HBW.out.size)⟩
set_option maxHeartbeats 8000000 in
theorem s_l18Compose (w : World) (v va vs : Value) (Bp : Nat) (a st : List Int) (hC : C7 w Bp v) (h1 : Ints w va a) (l1 : a.length = 38) (n1 : Nums a) (ha0 : a.getD 0 0 = 1) (h2 : Ints w vs st) (n2 : Nums st) (hl : st.length ≤ 1000) :
    Calls Tryz.prog 75 #[v, va, vs] w fun e w' => ∃ x, e = .returned x ∧ OwnInts w' w.heap.size tI x (cmS a st st.length) ∧ Below w.heap.size w w' := by
  obtain ⟨A, c, rfl, hr1⟩ := hC.r7
  obtain ⟨Aa, ca, rfl, -, -, -⟩ := h1.open_
  obtain ⟨As, cs, rfl, g1, g2, g3⟩ := h2.open_
  rw [l1] at h1 ⊢
  have HR1 := Lib.hid hr1
  have HAW := Lib.hid h1
  have H3 := Lib.hid g3
  have HL1 := Lib.hid l1
  have HN1 := Lib.hid n1
  have HA0 := Lib.hid ha0
  have HN2 := Lib.hid n2
  clear hC hr1 h1 h2 l1 n1 n2 g3 ha0
  go_enter Tryz.func75, Tryz.ntmps75
  go_wp2_with (go_at_call 121; go_loud (refine (s_l07Unit _).mono ?_; rintro e w1 ⟨x1, rfl, ho1, hb1⟩; have HO1 := Lib.hid ho1; have HB1 := Lib.hid hb1; clear ho1 hb1))
  go_loopw [7, 8] (fun o x wr => ∃ n : Nat, n ≤ st.length ∧ x = .int .i64 n ∧ OwnInts wr w.heap.size tI o (cmS a st n) ∧ Below w.heap.size w wr) (fun _ x _ => st.length - (intOf x).toNat)
  case atStart => exact ⟨0, Nat.zero_le _, rfl, HO1.out, HB1.out⟩
  case round =>
    obtain ⟨n, hn, rfl, ho, hb⟩ := hrel
    rename World => wq
    clear HO1 HB1
    have HO := Lib.hid ho
    have HB := Lib.hid hb
    obtain ⟨Ao, co, heo, -, -, -⟩ := ho.ints.open_
    rw [cmS_len] at heo
    subst heo
    clear ho hb
    by_cases hlt : n < st.length
    · obtain ⟨ad, z, rfl, hz, hz2, hc0⟩ := H3.out n hlt
      have hnn : (n : Int) < (st.length : Int) := by omega
      have hc1 : wq.cell? (ad.add n) = some (.int .i64 z) := keepCell HB.out hc0
      obtain ⟨z0, z1⟩ := nums_at HN2.out hz
      have HS := Lib.hid (show cmS a st (n + 1) = cvZ (cmS a st n) (scZ a z) from by rw [cmS, getD_of hz])
      have HC1 := Lib.hid (s_l07Scale wq (.slice Aa 38 ca) a z (HAW.out.below HB.out) HL1.out HN1.out (by omega) (by omega))
      have HC2 := Lib.hid (show ∀ X r, Below wq.heap.size wq X → Ints X r (scZ a z) → Calls Tryz.prog 61 #[.slice A 38 c, .slice Ao 38 co, r] X (fun e w' => ∃ x, e = .returned x ∧ OwnInts w' X.heap.size tI x (cvZ (cmS a st n) (scZ a z)) ∧ Below X.heap.size X w') from fun X r hX hr => by
        have := s_l07Conv X A (.slice Ao 38 co) r c 38 Bp (cmS a st n) (scZ a z) ((HR1.out.below HB.out).below hX) (by omega) (by omega) (HO.out.ints.below hX) (cmS_len _ _ _) (cmS_nums _ _ _) (cmS_head HN1.out HA0.out _ _) hr (scZ_len _ _) (scZ_nums _ _)
        rw [cvZ_take] at this
        exact this)
      clear hz hz2 hc0
      go_wp2_with (first
        | (go_at_call 80; go_loud (refine HC1.out.mono ?_; rintro e w5 ⟨r5, rfl, ho5, hb5⟩; have HO5 := Lib.hid ho5; have HB5 := Lib.hid hb5; clear ho5 hb5))
        | (go_at_call 61; go_loud (refine (HC2.out _ _ HB5.out HO5.out.ints).mono ?_; rintro e w6 ⟨r6, rfl, ho6, hb6⟩; have HO6 := Lib.hid ho6; have HB6 := Lib.hid hb6; clear ho6 hb6)))
      go_roundw
      case rel =>
        refine ⟨n + 1, by omega, by go_num, ?_, (HB.out.trans (HB5.out.mono HB.out.size)).trans (HB6.out.mono (Nat.le_trans HB.out.size HB5.out.size))⟩
        rw [HS.out]
        exact HO6.out.mono (Nat.le_trans HB.out.size HB5.out.size)
      case measure => simp [intOf]; omega
    · have hnl : n = st.length := by omega
      subst hnl
      go_wp2_with fail
      go_ret
      exact ⟨_, rfl, HO.out, HB.out⟩
/-! ### refined, l07Power -/
set_option maxHeartbeats 8000000 in
theorem i_refined (w : World) (vp va : Value) (Af : Option Addr) (cf Bp : Nat) (a : List Int) (k : Nat) (hR : Rows w (.slice Af 37 cf) (T6n.map up)) (hP : FrC w Bp vp) (h1 : Ints w va a) (l1 : a.length = 38) (n1 : Nums a) (hk : k ≤ 100) :
    Calls Tryz.prog 86 #[.agg #[.slice Af 37 cf, vp], va, .int .i64 (k : Nat)] w fun e w' => ∃ x, e = .returned x ∧ OwnInts w' w.heap.size tI x (itC (scZ a (pw (k : Int) 10005)) k) ∧ Below w.heap.size w w' := by
  obtain ⟨Ay, cy, rfl, -⟩ := hP.at_
  obtain ⟨Aa, ca, rfl, -, -, -⟩ := h1.open_
  rw [l1] at h1 ⊢
  obtain ⟨z, hz⟩ : ∃ z, z = pw (k : Int) 10005 := ⟨_, rfl⟩
  have hzb : 0 ≤ z ∧ z ≤ 10006 := by rw [hz]; exact pw_bd _ _
  rw [← hz]
  obtain ⟨p, hp⟩ : ∃ p, p = scZ a z := ⟨_, rfl⟩
  obtain ⟨z0, z1⟩ := hzb
  obtain ⟨W, hW⟩ : ∃ W, W = w.alloc (.cells #[.slice Af 37 cf, .slice Ay 37 cy] tFo) := ⟨_, rfl⟩
  have hbw : Below w.heap.size w W := by rw [hW]; exact below1 w _
  have HBW := Lib.hid hbw
  have HKF := Lib.hid (show Blk W w.heap.size tFo #[.slice Af 37 cf, .slice Ay 37 cy] from by rw [hW]; exact Blk.new _ _ _)
  have HRW := Lib.hid (hR.below hbw)
  have HFW := Lib.hid (hP.below hbw)
  have HAW := Lib.hid (h1.below hbw)
  have HL1 := Lib.hid l1
  have HN1 := Lib.hid n1
  have HPL := Lib.hid (show p.length = 38 from by rw [hp]; exact scZ_len _ _)
  have HPN := Lib.hid (show Nums p from by rw [hp]; exact scZ_nums _ _)
  have HIV := Lib.hid (fun X => show Calls Tryz.prog 81 #[.int .i64 (k : Nat)] X fun e w' => e = .returned (.int .i64 z) ∧ X = w' from by have h := i_inv (k : Int) X (by omega) (by omega); rwa [← hz] at h)
  have HC1 := Lib.hid (show ∀ X, Below W.heap.size W X → Calls Tryz.prog 82 #[.agg #[.slice Af 37 cf, .slice Ay 37 cy], .slice Aa 38 ca, .int .i64 z] X (fun e w' => ∃ x, e = .returned x ∧ Ints w' x p ∧ Below W.heap.size W w') from fun X hX => by
    rw [hp]
    exact (i_scaleMap X (.slice Af 37 cf) (.slice Aa 38 ca) Ay 37 cy a z (HRW.out.below hX) (HAW.out.below hX) HL1.out HN1.out (by omega) (by omega)).mono (by rintro e w5 ⟨r5, rfl, ho5, hb5⟩; exact ⟨r5, rfl, ho5.ints, hX.trans (hb5.mono hX.size)⟩))
  rw [← hp]
  clear hR hP h1 l1 n1 hbw hz hp
  go_enter Tryz.func86, Tryz.ntmps86
  go_upto_region 1 with fail
  rw [← hW]
  clear hW
  have k1 : W.cell? ⟨w.heap.size, 0, none⟩ = some (.slice Af 37 cf) := HKF.out.cell 0
  have k2 : W.cell? ⟨w.heap.size, 1, none⟩ = some (.slice Ay 37 cy) := HKF.out.cell 1
  go_cut [7, 8] (fun x y wx => Ints wx x p ∧ OwnInts wx W.heap.size tI y unM ∧ Below W.heap.size W wx)
  case first =>
    go_region_law (first
      | (go_simp; go_at_call 81; (with_reducible refine ((HIV.out _).mono ?_)); rintro e w4 ⟨rfl, rfl⟩)
      | (go_simp; go_at_call 82; (with_reducible refine ((HC1.out _ ?_).mono ?_)); (first | exact Below.refl _ _ | exact (Below.refl _ _).drew); go_loud (rintro e w5 ⟨r5, rfl, ho5, hb5⟩; have HO5 := Lib.hid ho5; have HB5 := Lib.hid hb5; clear ho5 hb5))
      | (go_simp; go_at_call 125; (refine ((i_UnitMap _).mono ?_)); go_loud (rintro e w6 ⟨r6, rfl, ho6, hb6⟩; have HO6 := Lib.hid (show OwnInts w6 w5.heap.size tI r6 unM from by exact ho6); have HB6 := Lib.hid (show Below w5.heap.size w5 w6 from by exact hb6); clear ho6 hb6)))
    all_goals
      go_wp2_with fail
      go_meet
      exact ⟨HO5.out.below HB6.out, HO6.out.mono HB5.out.size, HB5.out.trans (HB6.out.mono HB5.out.size)⟩
  case rest =>
    obtain ⟨hx, hy, hbc⟩ := hcut
    obtain ⟨Ap, cp, hep, -, -, -⟩ := hx.open_
    subst hep
    rw [HPL.out] at hx ⊢
    have HX := Lib.hid hx
    have HY := Lib.hid hy
    have HBC := Lib.hid hbc
    clear hx hy hbc k1 k2
    go_wp2_with fail
    go_loopw [8, 16] (fun o x wr => ∃ n : Nat, n ≤ k ∧ x = .int .i64 n ∧ OwnInts wr W.heap.size tI o (itC p n) ∧ Below W.heap.size W wr ∧ Ints wr (.slice Ap 38 cp) p) (fun _ x _ => k - (intOf x).toNat)
    case atStart => exact ⟨0, Nat.zero_le _, rfl, HY.out, HBC.out, HX.out⟩
    case round =>
      obtain ⟨n, hn, rfl, ho, hb, hpp⟩ := hrel
      rename World => wq
      clear HX HY
      have HO := Lib.hid ho
      have HB := Lib.hid hb
      have HX := Lib.hid hpp
      obtain ⟨Ao, co, heo, -, -, -⟩ := ho.ints.open_
      rw [itC_len] at heo
      subst heo
      clear ho hb hpp
      by_cases hlt : n < k
      · have hnn : (n : Int) < (k : Int) := by omega
        have HS := Lib.hid (show itC p (n + 1) = cvZ (itC p n) p from rfl)
        have HC2 := Lib.hid (i_convolve wq (.slice Ay 37 cy) (.slice Ao 38 co) (.slice Ap 38 cp) Af cf _ (itC p n) p (HFW.out.below HB.out) HO.out.ints (itC_len _ _) (itC_nums HPN.out _) HX.out HPL.out HPN.out)
        have HKQ := Lib.hid (HKF.out.below HB.out HKF.out.lt)
        have k1 : wq.cell? ⟨w.heap.size, 0, none⟩ = some (.slice Af 37 cf) := HKQ.out.cell 0
        have k2 : wq.cell? ⟨w.heap.size, 1, none⟩ = some (.slice Ay 37 cy) := HKQ.out.cell 1
        go_wp2_with (go_at_call 64; go_loud (refine HC2.out.mono ?_; rintro e w6 ⟨r6, rfl, ho6, hb6⟩; have HO6 := Lib.hid ho6; have HB6 := Lib.hid hb6; clear ho6 hb6))
        go_roundw
        case rel =>
          refine ⟨n + 1, by omega, by go_num, ?_, HB.out.trans (HB6.out.mono HB.out.size), HX.out.below HB6.out⟩
          rw [HS.out]
          exact HO6.out.mono HB.out.size
        case measure => simp [intOf]; omega
      · have hnl : n = k := by omega
        subst hnl
        have hnn : ¬ ((n : Int) < (n : Int)) := by omega
        go_wp2_with fail
        go_ret
        exact ⟨_, rfl, HO.out.mono HBW.out.size, HBW.out.trans (HB.out.mono HBW.out.size)⟩
set_option maxHeartbeats 8000000 in
theorem s_l07Power (w : World) (v va : Value) (Bp : Nat) (p : List Int) (k : Nat) (hC : C7 w Bp v) (h1 : Ints w va p) (l1 : p.length = 38) (n1 : Nums p) (ha0 : p.getD 0 0 = 1) (hk : k ≤ 100) :
    Calls Tryz.prog 126 #[v, va, .int .i64 (k : Nat)] w fun e w' => ∃ x, e = .returned x ∧ OwnInts w' w.heap.size tI x (itC p k) ∧ Below w.heap.size w w' := by
  obtain ⟨A, c, rfl, hr1⟩ := hC.r7
  obtain ⟨Aa, ca, rfl, -, -, -⟩ := h1.open_
  rw [l1] at h1 ⊢
  have HR1 := Lib.hid hr1
  have HAW := Lib.hid h1
  have HL1 := Lib.hid l1
  have HN1 := Lib.hid n1
  have HA0 := Lib.hid ha0
  have hkn : ¬ ((k : Int) < 0) := by omega
  have hkd : decide ((k : Int) < 0) = false := decide_eq_false hkn
  clear hC hr1 h1 l1 n1 ha0
  go_enter Tryz.func126, Tryz.ntmps126
  go_wp2_with (go_at_call 121; go_loud (refine (s_l07Unit _).mono ?_; rintro e w1 ⟨x1, rfl, ho1, hb1⟩; have HO1 := Lib.hid ho1; have HB1 := Lib.hid hb1; clear ho1 hb1))
  go_loopw [7, 2] (fun o x wr => ∃ n m : Nat, Hid (n + m = k) ∧ x = .int .i64 m ∧ OwnInts wr w.heap.size tI o (itC p n) ∧ Below w.heap.size w wr ∧ m ≤ 100) (fun _ x _ => (intOf x).toNat)
  case atStart => exact ⟨0, k, by show 0 + k = k; omega, rfl, HO1.out, HB1.out, hk⟩
  case round =>
    obtain ⟨n, m, HNM, rfl, ho, hb, hm⟩ := hrel
    rename World => wq
    clear HO1 HB1
    have HO := Lib.hid ho
    have HB := Lib.hid hb
    obtain ⟨Ao, co, heo, -, -, -⟩ := ho.ints.open_
    rw [itC_len] at heo
    subst heo
    clear ho hb
    by_cases hlt : 0 < m
    · have hnn : (0 : Int) < (m : Int) := by omega
      have hmd : decide (0 < m) = true := decide_eq_true hlt
      have HS := Lib.hid (show itC p (n + 1) = cvZ (itC p n) p from rfl)
      have HC2 := Lib.hid (show Calls Tryz.prog 61 #[.slice A 38 c, .slice Ao 38 co, .slice Aa 38 ca] wq (fun e w' => ∃ x, e = .returned x ∧ OwnInts w' wq.heap.size tI x (cvZ (itC p n) p) ∧ Below wq.heap.size wq w') from by
        have := s_l07Conv wq A (.slice Ao 38 co) (.slice Aa 38 ca) c 38 Bp (itC p n) p (HR1.out.below HB.out) (by omega) (by omega) HO.out.ints (itC_len _ _) (itC_nums HN1.out _) (itC_head HA0.out _) (HAW.out.below HB.out) HL1.out HN1.out
        rw [cvZ_take] at this
        exact this)
      go_wp2_with (go_at_call 61; go_loud (refine HC2.out.mono ?_; rintro e w6 ⟨r6, rfl, ho6, hb6⟩; have HO6 := Lib.hid ho6; have HB6 := Lib.hid hb6; clear ho6 hb6))
      go_roundw
      case rel =>
        refine ⟨n + 1, m - 1, by have := HNM.out; show n + 1 + (m - 1) = k; omega, ?_, ?_, HB.out.trans (HB6.out.mono HB.out.size), by omega⟩
        · rw [show ((m - 1 : Nat) : Int) = (m : Int) - 1 by omega]
        · rw [HS.out]
          exact HO6.out.mono HB.out.size
      case measure => simp [intOf]; omega
    · have hm0 : m = 0 := by omega
      subst hm0
      have hnk : n = k := by have := HNM.out; omega
      subst hnk
      go_wp2_with fail
      go_ret
      exact ⟨_, rfl, HO.out, HB.out⟩
set_option maxHeartbeats 4000000 in
theorem s_l17Refine (w : World) (va : Value) (a : List Int) (k : Nat) (h1 : Ints w va a) (l1 : a.length = 38) (n1 : Nums a) (ha0 : a.getD 0 0 = 1) (hk : k ≤ 100) :
    Calls Tryz.prog 84 #[va, .int .i64 (k : Nat)] w fun e w' => ∃ x, e = .returned x ∧ OwnInts w' w.heap.size tI x (itC (scZ a (pw (k : Int) 10005)) k) ∧ Below w.heap.size w w' := by
  obtain ⟨Aa, ca, rfl, -, -, -⟩ := h1.open_
  obtain ⟨z, hz⟩ : ∃ z, z = pw (k : Int) 10005 := ⟨_, rfl⟩
  have hzb : 0 ≤ z ∧ z ≤ 10006 := by rw [hz]; exact pw_bd _ _
  rw [← hz]
  obtain ⟨z0, z1⟩ := hzb
  have HIV := Lib.hid (fun X => show Calls Tryz.prog 98 #[.int .i64 (k : Nat)] X fun e w' => e = .returned (.int .i64 z) ∧ X = w' from by have h := s_l01Inv (k : Int) X (by omega) (by omega); rwa [← hz] at h)
  have HC1 := Lib.hid (fun X (hX : Below w.heap.size w X) => s_l07Scale X (.slice Aa a.length ca) a z (h1.below hX) l1 n1 (by omega) (by omega))
  have HP := Lib.hid (fun X v r (hC : C7 X w.heap.size v) (hr : Ints X r (scZ a z)) => s_l07Power X v r w.heap.size (scZ a z) k hC hr (scZ_len _ _) (scZ_nums _ _) (by rw [scZ_head n1]; exact ha0) hk)
  clear h1 l1 n1 ha0 hz
  go_enter Tryz.func84, Tryz.ntmps84
  go_wp2_with (first
    | (go_at_call 59; go_loud (refine (s_l07Cuts _).mono ?_; rintro e w1 ⟨x1, rfl, hc1, hb1⟩; have HX1 := Lib.hid hc1; have HB1 := Lib.hid hb1; clear hc1 hb1))
    | (go_at_call 98; refine (HIV.out _).mono ?_; rintro e w4 ⟨rfl, rfl⟩)
    | (go_at_call 80; go_loud (refine (HC1.out _ HB1.out).mono ?_; rintro e w5 ⟨r5, rfl, ho5, hb5⟩; have HO5 := Lib.hid ho5.ints; have HB5 := Lib.hid hb5; clear ho5 hb5))
    | (go_at_call 126; go_loud (refine (HP.out _ _ _ (HX1.out.below HB5.out) HO5.out).mono ?_; rintro e w6 ⟨r6, rfl, ho6, hb6⟩; have HO6 := Lib.hid ho6; have HB6 := Lib.hid hb6; clear ho6 hb6)))
  go_ret
  exact ⟨_, rfl, HO6.out.mono (Nat.le_trans HB1.out.size HB5.out.size), (HB1.out.trans (HB5.out.mono HB1.out.size)).trans (HB6.out.mono (Nat.le_trans HB1.out.size HB5.out.size))⟩
end Go.Proofs.YtngdpoeondnchaaGreat

set_option maxRecDepth 100000
set_option linter.unusedVariables false
set_option linter.unusedSimpArgs false
namespace Go.Proofs.YtngdpoeondnchaaGreat
open Go.RowKit

def rfnC (a : List Int) (k l : Int) : Int := if mapB a = true then (if inR k l 100 = true then (if a.getD 0 0 = 1 then 0 else 5) else 2) else 1
theorem rfnC_zero {a : List Int} {k l : Int} (h : rfnC a k l = 0) (hl : 1 ≤ l) : a.length = 38 ∧ Nums a ∧ a.getD 0 0 = 1 ∧ l ≤ k ∧ ∃ n : Nat, k = n ∧ n ≤ 100 ∧ 1 ≤ n := by
  unfold rfnC at h
  split at h
  · next h1 =>
    split at h
    · next h2 =>
      split at h
      · next h3 =>
        obtain ⟨l1, n1⟩ := mapB_true h1
        have h4 := inR_iff.1 h2
        exact ⟨l1, n1, h3, h4.1, k.toNat, by omega, by omega, by omega⟩
      · cases h
    · cases h
  · cases h
set_option maxHeartbeats 4000000 in
theorem i_checkRefine (w : World) (va : Value) (a : List Int) (k l : Int) (h1 : Ints w va a) :
    Calls Tryz.prog 85 #[va, .int .i64 k, .int .i64 l] w fun e w' => e = .returned (.int .i64 (rfnC a k l)) ∧ w = w' := by
  have HCH := Lib.hid (i_IsMap w va a h1)
  have HIR := Lib.hid (fun W => i_inRange k l 100 W)
  obtain ⟨Aa, ca, rfl, -, -, -⟩ := h1.open_
  cases hm : mapB a with
  | false =>
    rw [hm] at HCH
    have HC := Lib.hid (show rfnC a k l = 1 from by unfold rfnC; rw [hm]; rfl)
    rw [HC.out]
    clear hm h1 HC
    go_enter Tryz.func85, Tryz.ntmps85
    go_wp2_with (go_at_call 76; refine HCH.out.mono ?_; rintro e w0 ⟨rfl, rfl⟩)
    go_ret
    exact ⟨rfl, rfl⟩
  | true =>
    rw [hm] at HCH
    obtain ⟨l1, n1⟩ := mapB_true hm
    cases hr : inR k l 100 with
    | false =>
      rw [hr] at HIR
      have HC := Lib.hid (show rfnC a k l = 2 from by unfold rfnC; rw [hm, hr]; rfl)
      rw [HC.out]
      clear hm hr h1 HC l1 n1
      go_enter Tryz.func85, Tryz.ntmps85
      go_wp2_with (first
        | (go_at_call 76; refine HCH.out.mono ?_; rintro e w0 ⟨rfl, rfl⟩)
        | (go_at_call 104; refine (HIR.out _).mono ?_; rintro e w0 ⟨rfl, rfl⟩))
      go_ret
      exact ⟨rfl, rfl⟩
    | true =>
      rw [hr] at HIR
      rw [l1] at h1 HCH ⊢
      obtain ⟨ad, rfl, hc0, -, -⟩ := map_cell h1 n1 (k := 0) (by omega)
      have hc0 : w.cell? ad = some (.int .i64 (a.getD 0 0)) := by simpa [Addr.add] using hc0
      have HC := Lib.hid (show rfnC a k l = if a.getD 0 0 = 1 then 0 else 5 from by unfold rfnC; rw [if_pos hm, if_pos hr])
      rw [HC.out]
      generalize a.getD 0 0 = y0 at *
      clear hm hr h1 l1 n1
      by_cases hz0 : y0 = 1
      · have hd0 : (y0 != 1) = false := by simp [hz0]
        rw [if_pos hz0]
        clear hz0 HC
        go_enter Tryz.func85, Tryz.ntmps85
        go_wp2_with (first
          | (go_at_call 76; refine HCH.out.mono ?_; rintro e w0 ⟨rfl, rfl⟩)
          | (go_at_call 104; refine (HIR.out _).mono ?_; rintro e w0 ⟨rfl, rfl⟩))
        go_ret
        exact ⟨rfl, rfl⟩
      · have hd0 : (y0 != 1) = true := by simp [hz0]
        rw [if_neg hz0]
        clear hz0 HC
        go_enter Tryz.func85, Tryz.ntmps85
        go_wp2_with (first
          | (go_at_call 76; refine HCH.out.mono ?_; rintro e w0 ⟨rfl, rfl⟩)
          | (go_at_call 104; refine (HIR.out _).mono ?_; rintro e w0 ⟨rfl, rfl⟩))
        go_ret
        exact ⟨rfl, rfl⟩
end Go.Proofs.YtngdpoeondnchaaGreat

