/- Walks: RaiseOrder of the program and of the reference. | The law FnExactRaiseOrder. -/
import Derived.Test.YtngdpoeondnchaaGreatQ37
import Derived.Test.YtngdpoeondnchaaGreatQ40
import Derived.Test.YtngdpoeondnchaaGreatQ34
import Derived.Test.YtngdpoeondnchaaGreatQ39
set_option maxRecDepth 100000
set_option linter.unusedVariables false
set_option linter.unusedSimpArgs false
namespace Go.Proofs.YtngdpoeondnchaaGreat
open Go.RowKit

noncomputable def rsoC (a : List Int) : Int := if chrC a = 0 then (if jumpOk (agZ a EX) = true ∧ adjZ a = a then 0 else 5) else chrC a
noncomputable def rsoR (a : List Int) : List Int := if rsoC a = 0 then cmS a (jumpL (agZ a EX) 1) 3 else []
theorem rsoR_len (a : List Int) : (rsoR a).length ≤ 1048576 := by
  unfold rsoR
  split
  · rw [cmS_len]; omega
  · simp
theorem jumpL_len (p : Int) : (jumpL p 1).length = 3 := rfl
theorem jumpL_nums (p : Int) : Nums (jumpL p 1) := by
  intro z hz
  have hg := jumpG_bd p 1
  unfold jumpL at hz
  simp only [List.replicate_one, List.cons_append, List.nil_append, List.mem_cons, List.not_mem_nil, or_false] at hz
  rcases hz with rfl | rfl | rfl
  · exact hg
  · omega
  · exact hg
theorem jumpOk_iff (p : Int) : jumpOk p = true ↔ (p = 2 ∨ p = 4) := by unfold jumpOk; simp
set_option maxHeartbeats 16000000 in
theorem i_RaiseOrder (w : World) (v : Value) (a : List Int) (h1 : Ints w v a) :
    Calls Tryz.prog 52 #[v] w fun e w' => ∃ x, e = .returned (.tuple #[x, .int .i64 (rsoC a)]) ∧ OwnInts w' w.heap.size tI x (rsoR a) ∧ Below w.heap.size w w' := by
  have HCH := Lib.hid (i_checkCharacter w v a h1)
  have HA := Lib.hid h1
  obtain ⟨A, c, rfl, -, -, -⟩ := h1.open_
  clear h1
  by_cases hc : chrC a = 0
  · obtain ⟨hm, u1⟩ := chr_of hc
    obtain ⟨l1, n1⟩ := mapB_true hm
    have n1 : Nums a := n1
    rw [hc] at HCH
    rw [l1] at HA HCH ⊢
    obtain ⟨g, hg⟩ : ∃ g, g = agZ a EX := ⟨_, rfl⟩
    have HC := Lib.hid (show rsoC a = if jumpOk g = true ∧ adjZ a = a then 0 else 5 from by rw [rsoC, if_pos hc, hg])
    have HR := Lib.hid (show rsoR a = if rsoC a = 0 then cmS a (jumpL g 1) 3 else [] from by rw [rsoR, hg])
    have HAG := Lib.hid (fun W v B m d x (hR : Rows W v (T6n.map up)) (q1 : Ints W (.slice A 38 c) a) (q2 : Ints W x EX) => show Calls Tryz.prog 63 #[.agg #[v, .slice B m d], .slice A 38 c, x] W fun e w' => e = .returned (.int .i64 g) ∧ Below W.heap.size W w' from by rw [hg]; exact i_agreeTo W v _ x B m d a EX hR q1 q2 l1 EX_len)
    have HJ := Lib.hid (fun W => i_jumpSteps W g 1 (.inl rfl))
    have HAD := Lib.hid (fun W Af cf Bp vp (hR : Rows W (.slice Af 37 cf) (T6n.map up)) (hP : FrC W Bp vp) (q : Ints W (.slice A 38 c) a) => i_adjointMap W vp _ Af cf Bp a hR hP q l1 n1)
    have HCS := Lib.hid (fun W Af cf Bp vp vs (hR : Rows W (.slice Af 37 cf) (T6n.map up)) (hP : FrC W Bp vp) (q : Ints W (.slice A 38 c) a) (q2 : Ints W vs (jumpL g 1)) => i_composedSteps W vp _ vs Af cf Bp a (jumpL g 1) hR hP q l1 n1 q2 (jumpL_nums g) (by rw [jumpL_len]; omega))
    clear hc hm u1 l1 n1 hg
    go_enter Tryz.func52, Tryz.ntmps52
    go_upto_region 5 with (first
      | (go_at_call 70; refine HCH.out.mono ?_; rintro e w0 ⟨rfl, rfl⟩)
      | (go_at_call 56; go_loud (refine (i_newForms _).mono ?_; rintro e w1 ⟨f, rfl, hf, hb1⟩; obtain ⟨Af, cf, Ay, cy, rfl, hrf, hfc⟩ := hf.openC; have HRF := Lib.hid hrf; have HFC := Lib.hid hfc; have HB1W := Lib.hid hb1; clear hf hrf hfc hb1)))
    obtain ⟨W, hW⟩ : ∃ W, W = w1.alloc (.cells #[.slice Af 37 cf, .slice Ay 37 cy] tFo) := ⟨_, rfl⟩
    have hbw : Below w1.heap.size w1 W := by rw [hW]; exact below1 w1 _
    have HBW := Lib.hid (HB1W.out.trans (hbw.mono HB1W.out.size))
    have HKF := Lib.hid (show Blk W w1.heap.size tFo #[.slice Af 37 cf, .slice Ay 37 cy] from by rw [hW]; exact Blk.new _ _ _)
    have HRW := Lib.hid (HRF.out.below hbw)
    have HFW := Lib.hid (HFC.out.below hbw)
    have HAW := Lib.hid (HA.out.below HBW.out)
    rw [← hW]
    clear hW hbw
    have k1 : W.cell? ⟨w1.heap.size, 0, none⟩ = some (.slice Af 37 cf) := HKF.out.cell 0
    have k2 : W.cell? ⟨w1.heap.size, 1, none⟩ = some (.slice Ay 37 cy) := HKF.out.cell 1
    have HX1 := Lib.hid (show ∀ X, Below W.heap.size W X → Calls Tryz.prog 99 #[.agg #[.slice Af 37 cf, .slice Ay 37 cy]] X (fun e w' => ∃ x, e = .returned x ∧ Ints w' x EX ∧ Below W.heap.size W w') from fun X hX => (i_exactMap X _ Ay 37 cy (HRW.out.below hX)).mono (by rintro e w5 ⟨r5, rfl, ho5, hb5⟩; exact ⟨r5, rfl, ho5.ints, hX.trans (hb5.mono hX.size)⟩))
    go_cut [6, 7] (fun x y wx => y = .int .i64 (jumpC g) ∧ Ints wx x (jumpF g 1) ∧ Below W.heap.size W wx)
    case first =>
      go_region_law (first
        | (go_simp; go_at_call 99; (with_reducible refine ((HX1.out _ ?_).mono ?_)); (first | exact Below.refl _ _ | exact (Below.refl _ _).drew); go_loud (rintro e w5 ⟨r5, rfl, ho5, hb5⟩; have HO5 := Lib.hid ho5; have HB5 := Lib.hid hb5; have m1 : w5.cell? ⟨w1.heap.size, 0, none⟩ = some (.slice Af 37 cf) := (HKF.out.below hb5 HKF.out.lt).cell 0; have m2 : w5.cell? ⟨w1.heap.size, 1, none⟩ = some (.slice Ay 37 cy) := (HKF.out.below hb5 HKF.out.lt).cell 1; clear ho5 hb5))
        | (go_simp; go_at_call 63; (refine ((HAG.out _ _ Ay 37 cy _ (HRW.out.below ?_) (HAW.out.below ?_) HO5.out).mono ?_)); (first | exact HB5.out | exact HB5.out.drew); (first | exact HB5.out | exact HB5.out.drew); go_loud (rintro e w6 ⟨rfl, hb6'⟩; have HB6 := Lib.hid (show Below w5.heap.size w5 w6 from by exact hb6'); clear hb6'))
        | (go_simp; go_at_call 109; (refine ((HJ.out _).mono ?_)); go_loud (rintro e w7 ⟨r7, rfl, ho7, hb7'⟩; have HO7 := Lib.hid ho7.ints; have HB7 := Lib.hid (show Below w6.heap.size w6 w7 from by exact hb7'); clear ho7 hb7')))
      all_goals
        go_wp2_with fail
        go_meet
        exact ⟨rfl, HO7.out, (HB5.out.trans (HB6.out.mono HB5.out.size)).trans (HB7.out.mono (Nat.le_trans HB5.out.size HB6.out.size))⟩
    case rest =>
      obtain ⟨rfl, hjs, hbc⟩ := hcut
      have HJS := Lib.hid hjs
      have HBC := Lib.hid hbc
      have HKC := Lib.hid (HKF.out.below hbc HKF.out.lt)
      have HAC := Lib.hid (HAW.out.below hbc)
      have HRC := Lib.hid (HRW.out.below hbc)
      have HFC2 := Lib.hid (HFW.out.below hbc)
      have q1 : wc.cell? ⟨w1.heap.size, 0, none⟩ = some (.slice Af 37 cf) := HKC.out.cell 0
      have q2 : wc.cell? ⟨w1.heap.size, 1, none⟩ = some (.slice Ay 37 cy) := HKC.out.cell 1
      clear hbc hjs k1 k2
      cases hj : jumpOk g with
      | false =>
        have hjc : jumpC g = 2 := by unfold jumpC; rw [hj]; rfl
        rw [hjc]
        have HR5 := Lib.hid (show rsoC a = 5 from by rw [HC.out, if_neg (by rw [hj]; simp)])
        have HRR := Lib.hid (show rsoR a = [] from by rw [HR.out, HR5.out]; rfl)
        clear hj hjc
        go_wp2_with fail
        go_ret2
        rw [HR5.out, HRR.out]
        exact ⟨_, rfl, OwnInts.nil _ _ _, HBW.out.trans (HBC.out.mono HBW.out.size)⟩
      | true =>
        have hjc : jumpC g = 0 := by unfold jumpC; rw [hj]; rfl
        have hjf : jumpF g 1 = jumpL g 1 := by unfold jumpF; rw [hj]; rfl
        rw [hjc]
        rw [hjf] at HJS
        by_cases hadj : adjZ a = a
        · have HR5 := Lib.hid (show rsoC a = 0 from by rw [HC.out, if_pos ⟨hj, hadj⟩])
          have HRR := Lib.hid (show rsoR a = cmS a (jumpL g 1) (jumpL g 1).length from by rw [HR.out, if_pos HR5.out]; rfl)
          have HEQ := Lib.hid (show decide (adjZ a = a) = true from decide_eq_true hadj)
          clear hj hjc hjf hadj
          go_wp2_with (first
            | (go_at_call 72; go_loud (refine (HAD.out _ _ _ _ _ HRC.out HFC2.out HAC.out).mono ?_; rintro e w3 ⟨x3, rfl, ho3, hb3⟩; have HO3 := Lib.hid ho3; have HB3 := Lib.hid (HBC.out.trans (hb3.mono HBC.out.size)); have q3 : w3.cell? ⟨w1.heap.size, 0, none⟩ = some (.slice Af 37 cf) := (HKC.out.below hb3 HKC.out.lt).cell 0; have q4 : w3.cell? ⟨w1.heap.size, 1, none⟩ = some (.slice Ay 37 cy) := (HKC.out.below hb3 HKC.out.lt).cell 1; have HJ3 := Lib.hid (HJS.out.below hb3); clear ho3 hb3))
            | (go_at_call 71; go_loud (refine (lib_Equal _ _ _ _ _ HO3.out.ints (HAW.out.below HB3.out)).mono ?_; rw [HEQ.out]; rintro e w4 ⟨rfl, n4, hw4⟩; have HB34 := Lib.hid (show Below w3.heap.size w3 w4 from by rw [hw4]; exact below_drewN (Below.refl _ _) n4); have q5 : w4.cell? ⟨w1.heap.size, 0, none⟩ = some (.slice Af 37 cf) := (by rw [hw4]; exact q3); have q6 : w4.cell? ⟨w1.heap.size, 1, none⟩ = some (.slice Ay 37 cy) := (by rw [hw4]; exact q4); have HB4 := Lib.hid (show Below W.heap.size W w4 from by rw [hw4]; exact below_drewN HB3.out n4); have HJ4 := Lib.hid (HJ3.out.below HB34.out); clear hw4))
            | (go_at_call 78; go_loud (refine (HCS.out _ _ _ _ _ _ (HRW.out.below HB4.out) (HFW.out.below HB4.out) (HAW.out.below HB4.out) HJ4.out).mono ?_; rintro e w5 ⟨x5, rfl, ho5, hb5⟩; have HO5 := Lib.hid (ho5.mono (Nat.le_trans HBW.out.size HB4.out.size)); have HB5 := Lib.hid (HB4.out.trans (hb5.mono HB4.out.size)); clear ho5 hb5)))
          go_ret2
          rw [HR5.out, HRR.out]
          exact ⟨_, rfl, HO5.out, HBW.out.trans (HB5.out.mono HBW.out.size)⟩
        · have HR5 := Lib.hid (show rsoC a = 5 from by rw [HC.out, if_neg (fun h => hadj h.2)])
          have HRR := Lib.hid (show rsoR a = [] from by rw [HR.out, HR5.out]; rfl)
          have HEQ := Lib.hid (show decide (adjZ a = a) = false from decide_eq_false hadj)
          clear hj hjc hjf hadj
          go_wp2_with (first
            | (go_at_call 72; go_loud (refine (HAD.out _ _ _ _ _ HRC.out HFC2.out HAC.out).mono ?_; rintro e w3 ⟨x3, rfl, ho3, hb3⟩; have HO3 := Lib.hid ho3; have HB3 := Lib.hid (HBC.out.trans (hb3.mono HBC.out.size)); clear ho3 hb3))
            | (go_at_call 71; go_loud (refine (lib_Equal _ _ _ _ _ HO3.out.ints (HAW.out.below HB3.out)).mono ?_; rw [HEQ.out]; rintro e w4 ⟨rfl, n4, hw4⟩; have HB4 := Lib.hid (show Below W.heap.size W w4 from by rw [hw4]; exact below_drewN HB3.out n4); clear hw4)))
          go_ret2
          rw [HR5.out, HRR.out]
          exact ⟨_, rfl, OwnInts.nil _ _ _, HBW.out.trans (HB4.out.mono HBW.out.size)⟩
  · have HC := Lib.hid (show rsoC a = chrC a from if_neg hc)
    have HR := Lib.hid (show rsoR a = [] from by rw [rsoR, HC.out, if_neg hc])
    rw [HR.out, HC.out]
    have hd : (chrC a != 0) = true := by simp [hc]
    generalize chrC a = cc at *
    clear hc HR HC
    go_enter Tryz.func52, Tryz.ntmps52
    go_wp2_with (go_at_call 70; refine HCH.out.mono ?_; rintro e w0 ⟨rfl, rfl⟩)
    go_ret2
    exact ⟨_, rfl, OwnInts.nil _ _ _, Below.refl _ _⟩
set_option maxHeartbeats 16000000 in
theorem s_RaiseOrder (w : World) (v : Value) (a : List Int) (h1 : Ints w v a) :
    Calls Tryz.prog 51 #[v] w fun e w' => ∃ x, e = .returned (.tuple #[x, .int .i64 (rsoC a)]) ∧ OwnInts w' w.heap.size tI x (rsoR a) ∧ Below w.heap.size w w' := by
  have HCH := Lib.hid (s_l07Code1 w v a h1)
  have HA := Lib.hid h1
  obtain ⟨A, c, rfl, -, -, -⟩ := h1.open_
  clear h1
  by_cases hc : chrC a = 0
  · obtain ⟨hm, u1⟩ := chr_of hc
    obtain ⟨l1, n1⟩ := mapB_true hm
    have n1 : Nums a := n1
    rw [hc] at HCH
    rw [l1] at HA HCH ⊢
    obtain ⟨g, hg⟩ : ∃ g, g = agZ a EX := ⟨_, rfl⟩
    have HC := Lib.hid (show rsoC a = if jumpOk g = true ∧ adjZ a = a then 0 else 5 from by rw [rsoC, if_pos hc, hg])
    have HR := Lib.hid (show rsoR a = if rsoC a = 0 then cmS a (jumpL g 1) 3 else [] from by rw [rsoR, hg])
    have HAG := Lib.hid (fun W x (q1 : Ints W (.slice A 38 c) a) (q2 : Ints W x EX) => show Calls Tryz.prog 60 #[.slice A 38 c, x] W fun e w' => e = .returned (.int .i64 g) ∧ Below W.heap.size W w' from by rw [hg]; exact s_l07Agree W _ x a EX q1 q2 l1 EX_len)
    have HJ := Lib.hid (fun W (h : g = 2 ∨ g = 4) => s_l18Jump W g 1 h (.inl rfl))
    have HAD := Lib.hid (fun W Bp v (hC : C7 W Bp v) (q : Ints W (.slice A 38 c) a) => s_l18Adjoint W v _ Bp a hC q l1 n1 u1)
    have HCS := Lib.hid (fun W Bp v vs (hC : C7 W Bp v) (q : Ints W (.slice A 38 c) a) (q2 : Ints W vs (jumpL g 1)) => s_l18Compose W v _ vs Bp a (jumpL g 1) hC q l1 n1 u1 q2 (jumpL_nums g) (by rw [jumpL_len]; omega))
    clear hc hm u1 l1 n1 hg
    go_enter Tryz.func51, Tryz.ntmps51
    go_upto_region 6 with (first
      | (go_at_call 67; refine HCH.out.mono ?_; rintro e w0 ⟨rfl, rfl⟩)
      | (go_at_call 59; go_loud (refine (s_l07Cuts _).mono ?_; rintro e w1 ⟨x1, rfl, hc1, hb1⟩; have HX1 := Lib.hid hc1; have HB1 := Lib.hid hb1; clear hc1 hb1))
      | (go_at_call 94; go_loud (refine (s_l07Exact _).mono ?_; rintro e w2 ⟨x2, rfl, ho2, hb2⟩; have HO2 := Lib.hid ho2.ints; have HX2 := Lib.hid (HX1.out.below hb2); have HB2 := Lib.hid (HB1.out.trans (hb2.mono HB1.out.size)); clear ho2 hb2))
      | (go_at_call 60; go_loud (refine (HAG.out _ _ (HA.out.below HB2.out) HO2.out).mono ?_; rintro e w3 ⟨rfl, hb3⟩; have HX3 := Lib.hid (HX2.out.below hb3); have HB3 := Lib.hid (HB2.out.trans (hb3.mono HB2.out.size)); clear hb3)))
    by_cases hadj : adjZ a = a
    · have HEQ := Lib.hid (show decide (adjZ a = a) = true from decide_eq_true hadj)
      by_cases hj : g = 2 ∨ g = 4
      · have HR5 := Lib.hid (show rsoC a = 0 from by rw [HC.out, if_pos ⟨(jumpOk_iff g).2 hj, hadj⟩])
        have HRR := Lib.hid (show rsoR a = cmS a (jumpL g 1) (jumpL g 1).length from by rw [HR.out, if_pos HR5.out]; rfl)
        have HJ2 := Lib.hid hj
        have hcase : (g != 2) = false ∨ (g != 2) = true ∧ (g != 4) = false := by
          rcases hj with rfl | rfl
          · exact .inl rfl
          · exact .inr ⟨rfl, rfl⟩
        clear hj hadj
        rcases hcase with hd | ⟨hd, hd4⟩
        · go_wp2_with (first
            | (go_at_call 69; go_loud (refine (HAD.out _ _ _ HX3.out (HA.out.below HB3.out)).mono ?_; rintro e w4 ⟨x4, rfl, ho4, hb4⟩; have HO4 := Lib.hid ho4; have HX4 := Lib.hid (HX3.out.below hb4); have HB4 := Lib.hid (HB3.out.trans (hb4.mono HB3.out.size)); clear ho4 hb4))
            | (go_at_call 68; go_loud (refine (s_l01Same _ _ _ _ _ HO4.out.ints (HA.out.below HB4.out)).mono ?_; rw [HEQ.out]; rintro e w5 ⟨rfl, n5, hw5⟩; have HB5 := Lib.hid (show Below w.heap.size w w5 from by rw [hw5]; exact below_drewN HB4.out n5); have HX5 := Lib.hid (HX4.out.below (show Below w4.heap.size w4 w5 from by rw [hw5]; exact below_drewN (Below.refl _ _) n5)); clear hw5))
            | (go_at_call 108; go_loud (refine (HJ.out _ HJ2.out).mono ?_; rintro e w6 ⟨x6, rfl, ho6, hb6⟩; have HO6 := Lib.hid ho6.ints; have HX6 := Lib.hid (HX5.out.below hb6); have HB6 := Lib.hid (HB5.out.trans (hb6.mono HB5.out.size)); clear ho6 hb6))
            | (go_at_call 75; go_loud (refine (HCS.out _ _ _ _ HX6.out (HA.out.below HB6.out) HO6.out).mono ?_; rintro e w7 ⟨x7, rfl, ho7, hb7⟩; have HO7 := Lib.hid (ho7.mono HB6.out.size); have HB7 := Lib.hid (HB6.out.trans (hb7.mono HB6.out.size)); clear ho7 hb7)))
          go_ret2
          rw [HR5.out, HRR.out]
          exact ⟨_, rfl, HO7.out, HB7.out⟩
        · go_wp2_with (first
            | (go_at_call 69; go_loud (refine (HAD.out _ _ _ HX3.out (HA.out.below HB3.out)).mono ?_; rintro e w4 ⟨x4, rfl, ho4, hb4⟩; have HO4 := Lib.hid ho4; have HX4 := Lib.hid (HX3.out.below hb4); have HB4 := Lib.hid (HB3.out.trans (hb4.mono HB3.out.size)); clear ho4 hb4))
            | (go_at_call 68; go_loud (refine (s_l01Same _ _ _ _ _ HO4.out.ints (HA.out.below HB4.out)).mono ?_; rw [HEQ.out]; rintro e w5 ⟨rfl, n5, hw5⟩; have HB5 := Lib.hid (show Below w.heap.size w w5 from by rw [hw5]; exact below_drewN HB4.out n5); have HX5 := Lib.hid (HX4.out.below (show Below w4.heap.size w4 w5 from by rw [hw5]; exact below_drewN (Below.refl _ _) n5)); clear hw5))
            | (go_at_call 108; go_loud (refine (HJ.out _ HJ2.out).mono ?_; rintro e w6 ⟨x6, rfl, ho6, hb6⟩; have HO6 := Lib.hid ho6.ints; have HX6 := Lib.hid (HX5.out.below hb6); have HB6 := Lib.hid (HB5.out.trans (hb6.mono HB5.out.size)); clear ho6 hb6))
            | (go_at_call 75; go_loud (refine (HCS.out _ _ _ _ HX6.out (HA.out.below HB6.out) HO6.out).mono ?_; rintro e w7 ⟨x7, rfl, ho7, hb7⟩; have HO7 := Lib.hid (ho7.mono HB6.out.size); have HB7 := Lib.hid (HB6.out.trans (hb7.mono HB6.out.size)); clear ho7 hb7)))
          go_ret2
          rw [HR5.out, HRR.out]
          exact ⟨_, rfl, HO7.out, HB7.out⟩
      · have HR5 := Lib.hid (show rsoC a = 5 from by rw [HC.out, if_neg (fun h => hj ((jumpOk_iff g).1 h.1))])
        have HRR := Lib.hid (show rsoR a = [] from by rw [HR.out, HR5.out]; rfl)
        have hd : (g != 2) = true := by simp; omega
        have hd4 : (g != 4) = true := by simp; omega
        clear hj hadj
        go_wp2_with (first
          | (go_at_call 69; go_loud (refine (HAD.out _ _ _ HX3.out (HA.out.below HB3.out)).mono ?_; rintro e w4 ⟨x4, rfl, ho4, hb4⟩; have HO4 := Lib.hid ho4; have HB4 := Lib.hid (HB3.out.trans (hb4.mono HB3.out.size)); clear ho4 hb4))
          | (go_at_call 68; go_loud (refine (s_l01Same _ _ _ _ _ HO4.out.ints (HA.out.below HB4.out)).mono ?_; rw [HEQ.out]; rintro e w5 ⟨rfl, n5, hw5⟩; have HB5 := Lib.hid (show Below w.heap.size w w5 from by rw [hw5]; exact below_drewN HB4.out n5); clear hw5)))
        go_ret2
        rw [HR5.out, HRR.out]
        exact ⟨_, rfl, OwnInts.nil _ _ _, HB5.out⟩
    · have HEQ := Lib.hid (show decide (adjZ a = a) = false from decide_eq_false hadj)
      have HR5 := Lib.hid (show rsoC a = 5 from by rw [HC.out, if_neg (fun h => hadj h.2)])
      have HRR := Lib.hid (show rsoR a = [] from by rw [HR.out, HR5.out]; rfl)
      clear hadj
      go_wp2_with (first
        | (go_at_call 69; go_loud (refine (HAD.out _ _ _ HX3.out (HA.out.below HB3.out)).mono ?_; rintro e w4 ⟨x4, rfl, ho4, hb4⟩; have HO4 := Lib.hid ho4; have HB4 := Lib.hid (HB3.out.trans (hb4.mono HB3.out.size)); clear ho4 hb4))
        | (go_at_call 68; go_loud (refine (s_l01Same _ _ _ _ _ HO4.out.ints (HA.out.below HB4.out)).mono ?_; rw [HEQ.out]; rintro e w5 ⟨rfl, n5, hw5⟩; have HB5 := Lib.hid (show Below w.heap.size w w5 from by rw [hw5]; exact below_drewN HB4.out n5); clear hw5)))
      go_ret2
      rw [HR5.out, HRR.out]
      exact ⟨_, rfl, OwnInts.nil _ _ _, HB5.out⟩
  · have HC := Lib.hid (show rsoC a = chrC a from if_neg hc)
    have HR := Lib.hid (show rsoR a = [] from by rw [rsoR, HC.out, if_neg hc])
    rw [HR.out, HC.out]
    have hd : (chrC a != 0) = true := by simp [hc]
    generalize chrC a = cc at *
    clear hc HR HC
    go_enter Tryz.func51, Tryz.ntmps51
    go_wp2_with (go_at_call 67; refine HCH.out.mono ?_; rintro e w0 ⟨rfl, rfl⟩)
    go_ret2
    exact ⟨_, rfl, OwnInts.nil _ _ _, Below.refl _ _⟩
end Go.Proofs.YtngdpoeondnchaaGreat

set_option maxRecDepth 100000
set_option linter.unusedVariables false
set_option linter.unusedSimpArgs false
namespace Go.Proofs.YtngdpoeondnchaaGreat
open Go.RowKit

theorem law_RaiseOrder (w : World) (v : Value) (zs : List Int) (ha : Ints w v zs) :
    Calls Tryz.prog 14 #[v] w fun e w' => e = .returned (.bool true) ∧ Below w.heap.size w w' :=
  law_FnExactRaiseOrder_gen w v zs ha (rsoR zs) (rsoC zs) (fun _ => rsoR_len zs)
    (fun _ W v0 h0 => (s_RaiseOrder W v0 zs h0).mono fun e w' h => by obtain ⟨x, he, ho, hb⟩ := h; exact ⟨x, he, OI.of ho, hb⟩)
    (fun _ W v0 h0 => (i_RaiseOrder W v0 zs h0).mono fun e w' h => by obtain ⟨x, he, ho, hb⟩ := h; exact ⟨x, he, OI.of ho, hb⟩)
end Go.Proofs.YtngdpoeondnchaaGreat

