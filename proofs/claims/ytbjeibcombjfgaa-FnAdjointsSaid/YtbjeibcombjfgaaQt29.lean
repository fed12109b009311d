/- The law FnAdjoints, walked. Printed by ladjgen.py. -/
import Derived.Test.YtbjeibcombjfgaaQt27
import Derived.Test.YtbjeibcombjfgaaQt28
import Derived.Test.YtbjeibcombjfgaaQt24
set_option maxRecDepth 100000
set_option linter.unusedVariables false
set_option linter.unusedSimpArgs false
namespace Go.Proofs.Ytbjeibcombjfgaa
open Go.RowKit

set_option maxHeartbeats 64000000 in
theorem law_Adjoints (w : World) (v : Value) (n : Nat) (h : Bts w v n) :
    Calls Try.prog 4 #[v] w fun e w' => e = .returned (.bool true) ∧ Below w.heap.size w w' := by
  obtain ⟨A, c, rfl, hb⟩ := h
  have HBG := Lib.hid (l_big w A n c)
  by_cases h4 : 4096 < n
  · have hd : decide (4096 < n) = true := by simp [h4]
    rw [hd] at HBG
    clear hd h4 hb
    go_enter Try.func4, Try.ntmps4
    go_wp2_with (go_at_call 12; refine HBG.out.mono ?_; rintro e w0 ⟨rfl, rfl⟩)
    go_ret
    exact ⟨rfl, Below.refl _ _⟩
  · have hd : decide (4096 < n) = false := by simp [h4]
    rw [hd] at HBG
    have HDR := Lib.hid (s_DrawComposeTableaus w A n c hb (by omega))
    clear hd h4 hb
    go_enter Try.func4, Try.ntmps4
    go_upto_region 4 with (first
      | (go_at_call 12; refine HBG.out.mono ?_; rintro e w0 ⟨rfl, rfl⟩)
      | (go_at_call 18; go_loud (refine HDR.out.mono ?_; rintro e w1 ⟨x, y, rfl, ⟨X, Bs, hx⟩, ⟨Y, Cs, hy⟩, hb1⟩; obtain ⟨Aa, ca, Ab, cb, rfl⟩ := hx.open_; obtain ⟨Ya, da, Yb, db, rfl⟩ := hy.open_; have HX1 := Lib.hid hx; have HY1 := Lib.hid hy; have HB1 := Lib.hid hb1; clear hx hy hb1)))
    clear HBG HDR
    obtain ⟨qx, hqx⟩ : ∃ q, q = w1.heap.size := ⟨_, rfl⟩
    obtain ⟨qy, hqy⟩ : ∃ q, q = w1.heap.size + 1 := ⟨_, rfl⟩
    obtain ⟨W0, hW0⟩ : ∃ W0, W0 = (w1.alloc (.cells #[.slice Aa X.length ca, .slice Ab Bs.length cb] tTb)).alloc (.cells #[.slice Ya Y.length da, .slice Yb Cs.length db] tTb) := ⟨_, rfl⟩
    have HX80 := Lib.hid (show TabArg W0 (.agg #[.slice Aa X.length ca, .slice Ab Bs.length cb]) X Bs from by rw [hW0]; exact HX1.out.below (below2 _ _ _))
    have HX81 := Lib.hid (show TabArg W0 (.agg #[.slice Ya Y.length da, .slice Yb Cs.length db]) Y Cs from by rw [hW0]; exact HY1.out.below (below2 _ _ _))
    have HBW := Lib.hid (show Below w.heap.size w W0 from by rw [hW0]; exact HB1.out.trans ((below2 w1 _ _).mono HB1.out.size))
    have HK80 := Lib.hid (show Blk W0 qx tTb #[.slice Aa X.length ca, .slice Ab Bs.length cb] from by rw [hW0, hqx]; exact (Blk.new _ _ _).alloc _)
    have HK81 := Lib.hid (show Blk W0 qy tTb #[.slice Ya Y.length da, .slice Yb Cs.length db] from by rw [hW0, hqy]; exact Blk.new1 _ _ _ _)
    rw [← hW0, ← hqy, ← hqx]
    clear hW0 hqx hqy HX1 HY1 HB1
    have HC := Lib.hid (i_AdjointTableau W0 _ X Bs HX80.out)
    have c80a : W0.cell? ⟨qx, 0, none⟩ = some (.slice Aa X.length ca) := HK80.out.cell 0
    have c80b : W0.cell? ⟨qx, 1, none⟩ = some (.slice Ab Bs.length cb) := HK80.out.cell 1
    go_upto_region 5 with (go_at_call 19; go_loud (refine HC.out.mono ?_; rintro e w1 ⟨PA, PB, v, e1, rfl, hrep, ho, hb⟩; have HP := Lib.hid hrep; obtain ⟨A1, a1, B1, b1, rfl⟩ := ho.open_; have HN := Lib.hid ho.arg; have HBn := Lib.hid hb; clear hrep ho hb))
    clear HC
    clear c80a c80b
    obtain ⟨q1, hq1⟩ : ∃ q1, q1 = w1.heap.size := ⟨_, rfl⟩
    obtain ⟨W1, hW1⟩ : ∃ W1, W1 = w1.alloc (.cells #[.slice A1 PA.length a1, .slice B1 PB.length b1] tTb) := ⟨_, rfl⟩
    have HBs := Lib.hid (show Below W0.heap.size W0 W1 from by rw [hW1]; exact HBn.out.trans ((below1 w1 _).mono HBn.out.size))
    have HX80 := Lib.hid (HX80.out.below HBs.out)
    have HK80 := Lib.hid (HK80.out.below HBs.out HK80.out.lt)
    have HX81 := Lib.hid (HX81.out.below HBs.out)
    have HK81 := Lib.hid (HK81.out.below HBs.out HK81.out.lt)
    have HBW := Lib.hid (HBW.out.trans (HBs.out.mono HBW.out.size))
    have HX1 := Lib.hid (show TabArg W1 (.agg #[.slice A1 PA.length a1, .slice B1 PB.length b1]) PA PB from by rw [hW1]; exact HN.out.below (below1 _ _))
    have HK1 := Lib.hid (show Blk W1 q1 tTb #[.slice A1 PA.length a1, .slice B1 PB.length b1] from by rw [hW1, hq1]; exact Blk.new _ _ _)
    rw [← hW1, ← hq1]
    clear hW1 hq1 HN HBn HBs
    have HC := Lib.hid (s_AdjointTableau W1 _ X Bs HX80.out)
    have c80a : W1.cell? ⟨qx, 0, none⟩ = some (.slice Aa X.length ca) := HK80.out.cell 0
    have c80b : W1.cell? ⟨qx, 1, none⟩ = some (.slice Ab Bs.length cb) := HK80.out.cell 1
    go_upto_region 6 with (go_at_call 20; go_loud (refine HC.out.mono ?_; rintro e w2 ⟨SA, SB, v, e2, rfl, hrep, ho, hb⟩; obtain ⟨rfl, rfl, rfl⟩ := HP.out.unique hrep; obtain ⟨A2, a2, B2, b2, rfl⟩ := ho.open_; have HN := Lib.hid ho.arg; have HBn := Lib.hid hb; clear hrep ho hb))
    clear HC
    clear c80a c80b
    obtain ⟨q2, hq2⟩ : ∃ q2, q2 = w2.heap.size := ⟨_, rfl⟩
    obtain ⟨W2, hW2⟩ : ∃ W2, W2 = w2.alloc (.cells #[.slice A2 PA.length a2, .slice B2 PB.length b2] tTb) := ⟨_, rfl⟩
    have HBs := Lib.hid (show Below W1.heap.size W1 W2 from by rw [hW2]; exact HBn.out.trans ((below1 w2 _).mono HBn.out.size))
    have HX80 := Lib.hid (HX80.out.below HBs.out)
    have HK80 := Lib.hid (HK80.out.below HBs.out HK80.out.lt)
    have HX81 := Lib.hid (HX81.out.below HBs.out)
    have HK81 := Lib.hid (HK81.out.below HBs.out HK81.out.lt)
    have HX1 := Lib.hid (HX1.out.below HBs.out)
    have HK1 := Lib.hid (HK1.out.below HBs.out HK1.out.lt)
    have HBW := Lib.hid (HBW.out.trans (HBs.out.mono HBW.out.size))
    have HX2 := Lib.hid (show TabArg W2 (.agg #[.slice A2 PA.length a2, .slice B2 PB.length b2]) PA PB from by rw [hW2]; exact HN.out.below (below1 _ _))
    have HK2 := Lib.hid (show Blk W2 q2 tTb #[.slice A2 PA.length a2, .slice B2 PB.length b2] from by rw [hW2, hq2]; exact Blk.new _ _ _)
    rw [← hW2, ← hq2]
    clear hW2 hq2 HN HBn HBs
    have HC := Lib.hid (l_likeTableau5 W2 _ _ PA PA PB PB HX1.out HX2.out)
    rw [show (decide (PA = PA) && decide (PB = PB)) = true from by simp] at HC
    have hcc : (e1 != e1) = false := by simp
    have c1a : W2.cell? ⟨q1, 0, none⟩ = some (.slice A1 PA.length a1) := HK1.out.cell 0
    have c1b : W2.cell? ⟨q1, 1, none⟩ = some (.slice B1 PB.length b1) := HK1.out.cell 1
    have c2a : W2.cell? ⟨q2, 0, none⟩ = some (.slice A2 PA.length a2) := HK2.out.cell 0
    have c2b : W2.cell? ⟨q2, 1, none⟩ = some (.slice B2 PB.length b2) := HK2.out.cell 1
    go_upto_region 8 with (go_at_call 16; go_loud (refine HC.out.mono ?_; rintro e w3 ⟨rfl, hb⟩; have HBs := Lib.hid hb; clear hb))
    clear HC hcc
    clear c1a c1b c2a c2b
    have HX80 := Lib.hid (HX80.out.below HBs.out)
    have HK80 := Lib.hid (HK80.out.below HBs.out HK80.out.lt)
    have HX81 := Lib.hid (HX81.out.below HBs.out)
    have HK81 := Lib.hid (HK81.out.below HBs.out HK81.out.lt)
    have HX1 := Lib.hid (HX1.out.below HBs.out)
    have HK1 := Lib.hid (HK1.out.below HBs.out HK1.out.lt)
    have HBW := Lib.hid (HBW.out.trans (HBs.out.mono HBW.out.size))
    clear HBs
    cases htx : tabB X Bs with
    | false =>
      obtain ⟨-, -, rfl⟩ := isAdj_no htx HP.out
      go_wp2_with fail
      go_ret
      exact ⟨rfl, HBW.out⟩
    | true =>
      obtain ⟨hpa, hpb, rfl⟩ := isAdj_ok htx HP.out
      have HTX := Lib.hid htx
      have HPE := Lib.hid (And.intro hpa hpb)
      have HOK := Lib.hid (adj_ok htx)
      clear hpa hpb htx
      have HTP := Lib.hid (show tabB PA PB = true from by rw [HPE.out.1, HPE.out.2]; exact HOK.out.1)
      have HC := Lib.hid (i_AdjointTableau w3 _ PA PB HX1.out)
      have c1a : w3.cell? ⟨q1, 0, none⟩ = some (.slice A1 PA.length a1) := HK1.out.cell 0
      have c1b : w3.cell? ⟨q1, 1, none⟩ = some (.slice B1 PB.length b1) := HK1.out.cell 1
      go_upto_region 11 with (go_at_call 19; go_loud (refine HC.out.mono ?_; rintro e w4 ⟨QA, QB, v, e4, rfl, hrep, ho, hb⟩; obtain ⟨h1, h2, rfl⟩ := isAdj_ok HTP.out hrep; have hqa : X = QA := (by rw [h1, HPE.out.1, HPE.out.2]; exact HOK.out.2.1.symm); have hqb : Bs = QB := (by rw [h2, HPE.out.2]; exact HOK.out.2.2.1.symm); clear h1 h2; subst hqa; subst hqb; obtain ⟨A4, a4, B4, b4, rfl⟩ := ho.open_; have HN := Lib.hid ho.arg; have HBn := Lib.hid hb; clear hrep ho hb))
      clear HC
      clear c1a c1b
      obtain ⟨q4, hq4⟩ : ∃ q4, q4 = w4.heap.size := ⟨_, rfl⟩
      obtain ⟨W4, hW4⟩ : ∃ W4, W4 = w4.alloc (.cells #[.slice A4 X.length a4, .slice B4 Bs.length b4] tTb) := ⟨_, rfl⟩
      have HBs := Lib.hid (show Below w3.heap.size w3 W4 from by rw [hW4]; exact HBn.out.trans ((below1 w4 _).mono HBn.out.size))
      have HX80 := Lib.hid (HX80.out.below HBs.out)
      have HK80 := Lib.hid (HK80.out.below HBs.out HK80.out.lt)
      have HX81 := Lib.hid (HX81.out.below HBs.out)
      have HK81 := Lib.hid (HK81.out.below HBs.out HK81.out.lt)
      have HX1 := Lib.hid (HX1.out.below HBs.out)
      have HK1 := Lib.hid (HK1.out.below HBs.out HK1.out.lt)
      have HBW := Lib.hid (HBW.out.trans (HBs.out.mono HBW.out.size))
      have HX4 := Lib.hid (show TabArg W4 (.agg #[.slice A4 X.length a4, .slice B4 Bs.length b4]) X Bs from by rw [hW4]; exact HN.out.below (below1 _ _))
      have HK4 := Lib.hid (show Blk W4 q4 tTb #[.slice A4 X.length a4, .slice B4 Bs.length b4] from by rw [hW4, hq4]; exact Blk.new _ _ _)
      rw [← hW4, ← hq4]
      clear hW4 hq4 HN HBn HBs
      have HC := Lib.hid (i_InverseTableau W4 _ X Bs HX80.out)
      have c80a : W4.cell? ⟨qx, 0, none⟩ = some (.slice Aa X.length ca) := HK80.out.cell 0
      have c80b : W4.cell? ⟨qx, 1, none⟩ = some (.slice Ab Bs.length cb) := HK80.out.cell 1
      go_upto_region 12 with (go_at_call 21; go_loud (refine HC.out.mono ?_; rintro e w5 ⟨IA, IB, v, e5, rfl, hrep, ho, hb⟩; obtain ⟨h1, h2, rfl⟩ := isInv_ok HTX.out hrep; have HIE := Lib.hid (And.intro h1 h2); clear h1 h2; obtain ⟨A5, a5, B5, b5, rfl⟩ := ho.open_; have HN := Lib.hid ho.arg; have HBn := Lib.hid hb; clear hrep ho hb))
      clear HC
      clear c80a c80b
      obtain ⟨q5, hq5⟩ : ∃ q5, q5 = w5.heap.size := ⟨_, rfl⟩
      obtain ⟨W5, hW5⟩ : ∃ W5, W5 = w5.alloc (.cells #[.slice A5 IA.length a5, .slice B5 IB.length b5] tTb) := ⟨_, rfl⟩
      have HBs := Lib.hid (show Below W4.heap.size W4 W5 from by rw [hW5]; exact HBn.out.trans ((below1 w5 _).mono HBn.out.size))
      have HX80 := Lib.hid (HX80.out.below HBs.out)
      have HK80 := Lib.hid (HK80.out.below HBs.out HK80.out.lt)
      have HX81 := Lib.hid (HX81.out.below HBs.out)
      have HK81 := Lib.hid (HK81.out.below HBs.out HK81.out.lt)
      have HX1 := Lib.hid (HX1.out.below HBs.out)
      have HK1 := Lib.hid (HK1.out.below HBs.out HK1.out.lt)
      have HX4 := Lib.hid (HX4.out.below HBs.out)
      have HK4 := Lib.hid (HK4.out.below HBs.out HK4.out.lt)
      have HBW := Lib.hid (HBW.out.trans (HBs.out.mono HBW.out.size))
      have HX5 := Lib.hid (show TabArg W5 (.agg #[.slice A5 IA.length a5, .slice B5 IB.length b5]) IA IB from by rw [hW5]; exact HN.out.below (below1 _ _))
      have HK5 := Lib.hid (show Blk W5 q5 tTb #[.slice A5 IA.length a5, .slice B5 IB.length b5] from by rw [hW5, hq5]; exact Blk.new _ _ _)
      rw [← hW5, ← hq5]
      clear hW5 hq5 HN HBn HBs
      have HTI := Lib.hid (show tabB IA IB = true from by rw [HIE.out.1, HIE.out.2]; exact HOK.out.2.2.2.1)
      have HC := Lib.hid (i_InverseTableau W5 _ IA IB HX5.out)
      have c5a : W5.cell? ⟨q5, 0, none⟩ = some (.slice A5 IA.length a5) := HK5.out.cell 0
      have c5b : W5.cell? ⟨q5, 1, none⟩ = some (.slice B5 IB.length b5) := HK5.out.cell 1
      go_upto_region 13 with (go_at_call 21; go_loud (refine HC.out.mono ?_; rintro e w6 ⟨JA, JB, v, e6, rfl, hrep, ho, hb⟩; obtain ⟨h1, h2, rfl⟩ := isInv_ok HTI.out hrep; have hqa : X = JA := (by rw [h1, HIE.out.1, HIE.out.2]; exact HOK.out.2.2.2.2.1.symm); have hqb : Bs = JB := (by rw [h2, HIE.out.2]; exact HOK.out.2.2.2.2.2.1.symm); clear h1 h2; subst hqa; subst hqb; obtain ⟨A6, a6, B6, b6, rfl⟩ := ho.open_; have HN := Lib.hid ho.arg; have HBn := Lib.hid hb; clear hrep ho hb))
      clear HC
      clear c5a c5b
      obtain ⟨q6, hq6⟩ : ∃ q6, q6 = w6.heap.size := ⟨_, rfl⟩
      obtain ⟨W6, hW6⟩ : ∃ W6, W6 = w6.alloc (.cells #[.slice A6 X.length a6, .slice B6 Bs.length b6] tTb) := ⟨_, rfl⟩
      have HBs := Lib.hid (show Below W5.heap.size W5 W6 from by rw [hW6]; exact HBn.out.trans ((below1 w6 _).mono HBn.out.size))
      have HX80 := Lib.hid (HX80.out.below HBs.out)
      have HK80 := Lib.hid (HK80.out.below HBs.out HK80.out.lt)
      have HX81 := Lib.hid (HX81.out.below HBs.out)
      have HK81 := Lib.hid (HK81.out.below HBs.out HK81.out.lt)
      have HX1 := Lib.hid (HX1.out.below HBs.out)
      have HK1 := Lib.hid (HK1.out.below HBs.out HK1.out.lt)
      have HX4 := Lib.hid (HX4.out.below HBs.out)
      have HK4 := Lib.hid (HK4.out.below HBs.out HK4.out.lt)
      have HX5 := Lib.hid (HX5.out.below HBs.out)
      have HK5 := Lib.hid (HK5.out.below HBs.out HK5.out.lt)
      have HBW := Lib.hid (HBW.out.trans (HBs.out.mono HBW.out.size))
      have HX6 := Lib.hid (show TabArg W6 (.agg #[.slice A6 X.length a6, .slice B6 Bs.length b6]) X Bs from by rw [hW6]; exact HN.out.below (below1 _ _))
      have HK6 := Lib.hid (show Blk W6 q6 tTb #[.slice A6 X.length a6, .slice B6 Bs.length b6] from by rw [hW6, hq6]; exact Blk.new _ _ _)
      rw [← hW6, ← hq6]
      clear hW6 hq6 HN HBn HBs
      obtain ⟨o1, ho1⟩ : ∃ o1, o1 = ordR X Bs := ⟨_, rfl⟩
      have HO1 := Lib.hid (show tabC X Bs = 0 from by simp [tabC, HTX.out])
      have HO2 := Lib.hid (show tabC PA PB = 0 from by simp [tabC, HTP.out])
      have HO3 := Lib.hid (show ordR PA PB = o1 from by rw [ho1, HPE.out.1, HPE.out.2]; exact HOK.out.2.2.2.2.2.2.1)
      have HO4 := Lib.hid ho1
      clear ho1
      have HC := Lib.hid (i_OrderOf W6 _ X Bs HX80.out)
      rw [HO1.out, ← HO4.out] at HC
      have c80a : W6.cell? ⟨qx, 0, none⟩ = some (.slice Aa X.length ca) := HK80.out.cell 0
      have c80b : W6.cell? ⟨qx, 1, none⟩ = some (.slice Ab Bs.length cb) := HK80.out.cell 1
      go_upto_region 14 with (go_at_call 17; go_loud (refine HC.out.mono ?_; rintro e w7 ⟨rfl, hb⟩; have HBs := Lib.hid hb; clear hb))
      clear HC
      clear c80a c80b
      have HX80 := Lib.hid (HX80.out.below HBs.out)
      have HK80 := Lib.hid (HK80.out.below HBs.out HK80.out.lt)
      have HX81 := Lib.hid (HX81.out.below HBs.out)
      have HK81 := Lib.hid (HK81.out.below HBs.out HK81.out.lt)
      have HX1 := Lib.hid (HX1.out.below HBs.out)
      have HK1 := Lib.hid (HK1.out.below HBs.out HK1.out.lt)
      have HX4 := Lib.hid (HX4.out.below HBs.out)
      have HK4 := Lib.hid (HK4.out.below HBs.out HK4.out.lt)
      have HX6 := Lib.hid (HX6.out.below HBs.out)
      have HK6 := Lib.hid (HK6.out.below HBs.out HK6.out.lt)
      have HBW := Lib.hid (HBW.out.trans (HBs.out.mono HBW.out.size))
      clear HBs
      have HC := Lib.hid (i_OrderOf w7 _ PA PB HX1.out)
      rw [HO2.out, HO3.out] at HC
      have c1a : w7.cell? ⟨q1, 0, none⟩ = some (.slice A1 PA.length a1) := HK1.out.cell 0
      have c1b : w7.cell? ⟨q1, 1, none⟩ = some (.slice B1 PB.length b1) := HK1.out.cell 1
      go_upto_region 15 with (go_at_call 17; go_loud (refine HC.out.mono ?_; rintro e w8 ⟨rfl, hb⟩; have HBs := Lib.hid hb; clear hb))
      clear HC
      clear c1a c1b
      have HX80 := Lib.hid (HX80.out.below HBs.out)
      have HK80 := Lib.hid (HK80.out.below HBs.out HK80.out.lt)
      have HX81 := Lib.hid (HX81.out.below HBs.out)
      have HK81 := Lib.hid (HK81.out.below HBs.out HK81.out.lt)
      have HX1 := Lib.hid (HX1.out.below HBs.out)
      have HK1 := Lib.hid (HK1.out.below HBs.out HK1.out.lt)
      have HX4 := Lib.hid (HX4.out.below HBs.out)
      have HK4 := Lib.hid (HK4.out.below HBs.out HK4.out.lt)
      have HX6 := Lib.hid (HX6.out.below HBs.out)
      have HK6 := Lib.hid (HK6.out.below HBs.out HK6.out.lt)
      have HBW := Lib.hid (HBW.out.trans (HBs.out.mono HBW.out.size))
      clear HBs
      have HC := Lib.hid (fun Y0 (hY : Below w8.heap.size w8 Y0) => l_likeTableau5 Y0 _ _ X X Bs Bs (HX4.out.below hY) (HX80.out.below hY))
      have HD := Lib.hid (fun Y0 (hY : Below w8.heap.size w8 Y0) => l_likeTableau5 Y0 _ _ X X Bs Bs (HX6.out.below hY) (HX80.out.below hY))
      simp only [show (decide (X = X) && decide (Bs = Bs)) = true from by simp] at HC HD
      have c80a : w8.cell? ⟨qx, 0, none⟩ = some (.slice Aa X.length ca) := HK80.out.cell 0
      have c80b : w8.cell? ⟨qx, 1, none⟩ = some (.slice Ab Bs.length cb) := HK80.out.cell 1
      have c4a : w8.cell? ⟨q4, 0, none⟩ = some (.slice A4 X.length a4) := HK4.out.cell 0
      have c4b : w8.cell? ⟨q4, 1, none⟩ = some (.slice B4 Bs.length b4) := HK4.out.cell 1
      have c6a : w8.cell? ⟨q6, 0, none⟩ = some (.slice A6 X.length a6) := HK6.out.cell 0
      have c6b : w8.cell? ⟨q6, 1, none⟩ = some (.slice B6 Bs.length b6) := HK6.out.cell 1
      have hoo : (o1 != o1) = false := by simp
      go_upto_region 17 with (first
        | (go_at_call 16; (with_reducible refine (HC.out _ (Below.refl _ _)).mono ?_); go_loud (rintro e v1 ⟨rfl, hb⟩; have HV1 := Lib.hid hb; have m1 : v1.cell? ⟨qx, 0, none⟩ = some (.slice Aa X.length ca) := (HK80.out.below hb HK80.out.lt).cell 0; have m2 : v1.cell? ⟨qx, 1, none⟩ = some (.slice Ab Bs.length cb) := (HK80.out.below hb HK80.out.lt).cell 1; have m3 : v1.cell? ⟨q6, 0, none⟩ = some (.slice A6 X.length a6) := (HK6.out.below hb HK6.out.lt).cell 0; have m4 : v1.cell? ⟨q6, 1, none⟩ = some (.slice B6 Bs.length b6) := (HK6.out.below hb HK6.out.lt).cell 1; clear hb))
        | (go_at_call 16; (with_reducible refine (HD.out _ HV1.out).mono ?_); go_loud (rintro e v2 ⟨rfl, hb⟩; have HBs := Lib.hid (HV1.out.trans (hb.mono HV1.out.size)); clear hb m1 m2 m3 m4)))
      clear HC HD hoo
      clear c80a c80b c4a c4b c6a c6b
      have HX80 := Lib.hid (HX80.out.below HBs.out)
      have HK80 := Lib.hid (HK80.out.below HBs.out HK80.out.lt)
      have HX81 := Lib.hid (HX81.out.below HBs.out)
      have HK81 := Lib.hid (HK81.out.below HBs.out HK81.out.lt)
      have HX1 := Lib.hid (HX1.out.below HBs.out)
      have HK1 := Lib.hid (HK1.out.below HBs.out HK1.out.lt)
      have HBW := Lib.hid (HBW.out.trans (HBs.out.mono HBW.out.size))
      clear HBs HV1
      have HC := Lib.hid (i_AdjointTableau v2 _ Y Cs HX81.out)
      have c81a : v2.cell? ⟨qy, 0, none⟩ = some (.slice Ya Y.length da) := HK81.out.cell 0
      have c81b : v2.cell? ⟨qy, 1, none⟩ = some (.slice Yb Cs.length db) := HK81.out.cell 1
      go_upto_region 18 with (go_at_call 19; go_loud (refine HC.out.mono ?_; rintro e w9 ⟨DA, DB, v, e9, rfl, hrep, ho, hb⟩; have HPY := Lib.hid hrep; obtain ⟨A9, a9, B9, b9, rfl⟩ := ho.open_; have HN := Lib.hid ho.arg; have HBn := Lib.hid hb; clear hrep ho hb))
      clear HC
      clear c81a c81b
      obtain ⟨q9, hq9⟩ : ∃ q9, q9 = w9.heap.size := ⟨_, rfl⟩
      obtain ⟨W9, hW9⟩ : ∃ W9, W9 = w9.alloc (.cells #[.slice A9 DA.length a9, .slice B9 DB.length b9] tTb) := ⟨_, rfl⟩
      have HBs := Lib.hid (show Below v2.heap.size v2 W9 from by rw [hW9]; exact HBn.out.trans ((below1 w9 _).mono HBn.out.size))
      have HX80 := Lib.hid (HX80.out.below HBs.out)
      have HK80 := Lib.hid (HK80.out.below HBs.out HK80.out.lt)
      have HX81 := Lib.hid (HX81.out.below HBs.out)
      have HK81 := Lib.hid (HK81.out.below HBs.out HK81.out.lt)
      have HX1 := Lib.hid (HX1.out.below HBs.out)
      have HK1 := Lib.hid (HK1.out.below HBs.out HK1.out.lt)
      have HBW := Lib.hid (HBW.out.trans (HBs.out.mono HBW.out.size))
      have HX9 := Lib.hid (show TabArg W9 (.agg #[.slice A9 DA.length a9, .slice B9 DB.length b9]) DA DB from by rw [hW9]; exact HN.out.below (below1 _ _))
      have HK9 := Lib.hid (show Blk W9 q9 tTb #[.slice A9 DA.length a9, .slice B9 DB.length b9] from by rw [hW9, hq9]; exact Blk.new _ _ _)
      rw [← hW9, ← hq9]
      clear hW9 hq9 HN HBn HBs
      have HC := Lib.hid (i_ComposeTableaus W9 _ _ X Bs Y Cs HX80.out HX81.out)
      have c80a : W9.cell? ⟨qx, 0, none⟩ = some (.slice Aa X.length ca) := HK80.out.cell 0
      have c80b : W9.cell? ⟨qx, 1, none⟩ = some (.slice Ab Bs.length cb) := HK80.out.cell 1
      have c81a : W9.cell? ⟨qy, 0, none⟩ = some (.slice Ya Y.length da) := HK81.out.cell 0
      have c81b : W9.cell? ⟨qy, 1, none⟩ = some (.slice Yb Cs.length db) := HK81.out.cell 1
      go_upto_region 19 with (go_at_call 22; go_loud (refine HC.out.mono ?_; rintro e w10 ⟨MA, MB, v, e10, rfl, hrep, ho, hb⟩; have HCM := Lib.hid hrep; obtain ⟨A10, a10, B10, b10, rfl⟩ := ho.open_; have HN := Lib.hid ho.arg; have HBn := Lib.hid hb; clear hrep ho hb))
      clear HC
      clear c80a c80b c81a c81b
      obtain ⟨q10, hq10⟩ : ∃ q10, q10 = w10.heap.size := ⟨_, rfl⟩
      obtain ⟨W10, hW10⟩ : ∃ W10, W10 = w10.alloc (.cells #[.slice A10 MA.length a10, .slice B10 MB.length b10] tTb) := ⟨_, rfl⟩
      have HBs := Lib.hid (show Below W9.heap.size W9 W10 from by rw [hW10]; exact HBn.out.trans ((below1 w10 _).mono HBn.out.size))
      have HX80 := Lib.hid (HX80.out.below HBs.out)
      have HK80 := Lib.hid (HK80.out.below HBs.out HK80.out.lt)
      have HX81 := Lib.hid (HX81.out.below HBs.out)
      have HK81 := Lib.hid (HK81.out.below HBs.out HK81.out.lt)
      have HX1 := Lib.hid (HX1.out.below HBs.out)
      have HK1 := Lib.hid (HK1.out.below HBs.out HK1.out.lt)
      have HX9 := Lib.hid (HX9.out.below HBs.out)
      have HK9 := Lib.hid (HK9.out.below HBs.out HK9.out.lt)
      have HBW := Lib.hid (HBW.out.trans (HBs.out.mono HBW.out.size))
      have HX10 := Lib.hid (show TabArg W10 (.agg #[.slice A10 MA.length a10, .slice B10 MB.length b10]) MA MB from by rw [hW10]; exact HN.out.below (below1 _ _))
      have HK10 := Lib.hid (show Blk W10 q10 tTb #[.slice A10 MA.length a10, .slice B10 MB.length b10] from by rw [hW10, hq10]; exact Blk.new _ _ _)
      rw [← hW10, ← hq10]
      clear hW10 hq10 HN HBn HBs
      cases hty : tabB Y Cs with
      | false =>
        obtain ⟨-, -, rfl⟩ := isAdj_no hty HPY.out
        obtain ⟨-, -, rfl⟩ := isCmp_no hty HCM.out
        go_wp2_with fail
        go_ret
        exact ⟨rfl, HBW.out⟩
      | true =>
        obtain ⟨hda, hdb, rfl⟩ := isAdj_ok hty HPY.out
        by_cases hl : Bs.length + Cs.length ≤ 8
        · obtain ⟨hma, hmb, rfl⟩ := isCmp_ok HTX.out hty hl HCM.out
          have HAC := Lib.hid (adj_cmp HTX.out hty hl)
          have HDE := Lib.hid (And.intro hda hdb)
          have HME := Lib.hid (And.intro hma hmb)
          have HTM := Lib.hid (show tabB MA MB = true from by rw [HME.out.1, HME.out.2]; exact HAC.out.1)
          have HTD := Lib.hid (show tabB DA DB = true from by rw [HDE.out.1, HDE.out.2]; exact (adj_ok hty).1)
          have HLN := Lib.hid (show DB.length + PB.length ≤ 8 from by rw [HDE.out.2, HPE.out.2, (adj_ok hty).2.2.2.2.2.2.2, (adj_ok HTX.out).2.2.2.2.2.2.2]; omega)
          clear hda hdb hma hmb hty hl
          have HC := Lib.hid (i_AdjointTableau W10 _ MA MB HX10.out)
          have c10a : W10.cell? ⟨q10, 0, none⟩ = some (.slice A10 MA.length a10) := HK10.out.cell 0
          have c10b : W10.cell? ⟨q10, 1, none⟩ = some (.slice B10 MB.length b10) := HK10.out.cell 1
          go_upto_region 22 with (go_at_call 19; go_loud (refine HC.out.mono ?_; rintro e w11 ⟨UA, UB, v, e11, rfl, hrep, ho, hb⟩; obtain ⟨h1, h2, rfl⟩ := isAdj_ok HTM.out hrep; have HUE := Lib.hid (And.intro h1 h2); clear h1 h2; obtain ⟨A11, a11, B11, b11, rfl⟩ := ho.open_; have HN := Lib.hid ho.arg; have HBn := Lib.hid hb; clear hrep ho hb))
          clear HC
          clear c10a c10b
          obtain ⟨q11, hq11⟩ : ∃ q11, q11 = w11.heap.size := ⟨_, rfl⟩
          obtain ⟨W11, hW11⟩ : ∃ W11, W11 = w11.alloc (.cells #[.slice A11 UA.length a11, .slice B11 UB.length b11] tTb) := ⟨_, rfl⟩
          have HBs := Lib.hid (show Below W10.heap.size W10 W11 from by rw [hW11]; exact HBn.out.trans ((below1 w11 _).mono HBn.out.size))
          have HX80 := Lib.hid (HX80.out.below HBs.out)
          have HK80 := Lib.hid (HK80.out.below HBs.out HK80.out.lt)
          have HX81 := Lib.hid (HX81.out.below HBs.out)
          have HK81 := Lib.hid (HK81.out.below HBs.out HK81.out.lt)
          have HX1 := Lib.hid (HX1.out.below HBs.out)
          have HK1 := Lib.hid (HK1.out.below HBs.out HK1.out.lt)
          have HX9 := Lib.hid (HX9.out.below HBs.out)
          have HK9 := Lib.hid (HK9.out.below HBs.out HK9.out.lt)
          have HX10 := Lib.hid (HX10.out.below HBs.out)
          have HK10 := Lib.hid (HK10.out.below HBs.out HK10.out.lt)
          have HBW := Lib.hid (HBW.out.trans (HBs.out.mono HBW.out.size))
          have HX11 := Lib.hid (show TabArg W11 (.agg #[.slice A11 UA.length a11, .slice B11 UB.length b11]) UA UB from by rw [hW11]; exact HN.out.below (below1 _ _))
          have HK11 := Lib.hid (show Blk W11 q11 tTb #[.slice A11 UA.length a11, .slice B11 UB.length b11] from by rw [hW11, hq11]; exact Blk.new _ _ _)
          rw [← hW11, ← hq11]
          clear hW11 hq11 HN HBn HBs
          have HC := Lib.hid (i_ComposeTableaus W11 _ _ DA DB PA PB HX9.out HX1.out)
          have c9a : W11.cell? ⟨q9, 0, none⟩ = some (.slice A9 DA.length a9) := HK9.out.cell 0
          have c9b : W11.cell? ⟨q9, 1, none⟩ = some (.slice B9 DB.length b9) := HK9.out.cell 1
          have c1a : W11.cell? ⟨q1, 0, none⟩ = some (.slice A1 PA.length a1) := HK1.out.cell 0
          have c1b : W11.cell? ⟨q1, 1, none⟩ = some (.slice B1 PB.length b1) := HK1.out.cell 1
          go_upto_region 23 with (go_at_call 22; go_loud (refine HC.out.mono ?_; rintro e w12 ⟨VA, VB, v, e12, rfl, hrep, ho, hb⟩; obtain ⟨h1, h2, rfl⟩ := isCmp_ok HTD.out HTP.out HLN.out hrep; have hva : VA = UA := (by rw [h1, HUE.out.1, HME.out.1, HME.out.2, HDE.out.1, HDE.out.2, HPE.out.1, HPE.out.2]; exact HAC.out.2.1.symm); have hvb : VB = UB := (by rw [h2, HUE.out.2, HME.out.2, HDE.out.2, HPE.out.2]; exact HAC.out.2.2.symm); clear h1 h2; subst hva; subst hvb; obtain ⟨A12, a12, B12, b12, rfl⟩ := ho.open_; have HN := Lib.hid ho.arg; have HBn := Lib.hid hb; clear hrep ho hb))
          clear HC
          clear c9a c9b c1a c1b
          obtain ⟨q12, hq12⟩ : ∃ q12, q12 = w12.heap.size := ⟨_, rfl⟩
          obtain ⟨W12, hW12⟩ : ∃ W12, W12 = w12.alloc (.cells #[.slice A12 VA.length a12, .slice B12 VB.length b12] tTb) := ⟨_, rfl⟩
          have HBs := Lib.hid (show Below W11.heap.size W11 W12 from by rw [hW12]; exact HBn.out.trans ((below1 w12 _).mono HBn.out.size))
          have HX80 := Lib.hid (HX80.out.below HBs.out)
          have HK80 := Lib.hid (HK80.out.below HBs.out HK80.out.lt)
          have HX81 := Lib.hid (HX81.out.below HBs.out)
          have HK81 := Lib.hid (HK81.out.below HBs.out HK81.out.lt)
          have HX1 := Lib.hid (HX1.out.below HBs.out)
          have HK1 := Lib.hid (HK1.out.below HBs.out HK1.out.lt)
          have HX9 := Lib.hid (HX9.out.below HBs.out)
          have HK9 := Lib.hid (HK9.out.below HBs.out HK9.out.lt)
          have HX10 := Lib.hid (HX10.out.below HBs.out)
          have HK10 := Lib.hid (HK10.out.below HBs.out HK10.out.lt)
          have HX11 := Lib.hid (HX11.out.below HBs.out)
          have HK11 := Lib.hid (HK11.out.below HBs.out HK11.out.lt)
          have HBW := Lib.hid (HBW.out.trans (HBs.out.mono HBW.out.size))
          have HX12 := Lib.hid (show TabArg W12 (.agg #[.slice A12 VA.length a12, .slice B12 VB.length b12]) VA VB from by rw [hW12]; exact HN.out.below (below1 _ _))
          have HK12 := Lib.hid (show Blk W12 q12 tTb #[.slice A12 VA.length a12, .slice B12 VB.length b12] from by rw [hW12, hq12]; exact Blk.new _ _ _)
          rw [← hW12, ← hq12]
          clear hW12 hq12 HN HBn HBs
          have HC := Lib.hid (l_likeTableau5 W12 _ _ VA VA VB VB HX11.out HX12.out)
          rw [show (decide (VA = VA) && decide (VB = VB)) = true from by simp] at HC
          have c11a : W12.cell? ⟨q11, 0, none⟩ = some (.slice A11 VA.length a11) := HK11.out.cell 0
          have c11b : W12.cell? ⟨q11, 1, none⟩ = some (.slice B11 VB.length b11) := HK11.out.cell 1
          have c12a : W12.cell? ⟨q12, 0, none⟩ = some (.slice A12 VA.length a12) := HK12.out.cell 0
          have c12b : W12.cell? ⟨q12, 1, none⟩ = some (.slice B12 VB.length b12) := HK12.out.cell 1
          go_wp2_with (go_at_call 16; go_loud (refine HC.out.mono ?_; rintro e v9 ⟨rfl, hb⟩; have HBs := Lib.hid hb; clear hb))
          go_ret
          exact ⟨rfl, HBW.out.trans (HBs.out.mono HBW.out.size)⟩
        · obtain ⟨-, -, rfl⟩ := isCmp_far HTX.out hty hl HCM.out
          go_wp2_with fail
          go_ret
          exact ⟨rfl, HBW.out⟩
end Go.Proofs.Ytbjeibcombjfgaa

