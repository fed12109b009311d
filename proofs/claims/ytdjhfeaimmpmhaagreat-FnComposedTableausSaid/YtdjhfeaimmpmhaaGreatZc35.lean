/- The law FnComposedTableaus, walked. Printed by lctgen.py. | Arguments that came in, opened to the words of the Mem text. | Byte slices that came in, opened. -/
import Derived.Test.YtdjhfeaimmpmhaaGreatZc28
import Derived.Test.YtdjhfeaimmpmhaaGreatZc32
import Derived.Test.YtdjhfeaimmpmhaaGreatZc34
import Derived.Test.YtdjhfeaimmpmhaaGreatZc29
import Derived.Test.YtdjhfeaimmpmhaaGreatRows
import Derived.Test.YtdjhfeaimmpmhaaGreatZc3
import Derived.WalkKit
import Derived.ProofKit
import Derived.OpenShut
import Derived.Test.YtdjhfeaimmpmhaaGreatZc27
set_option maxRecDepth 100000
set_option linter.unusedVariables false
set_option linter.unusedSimpArgs false
namespace Go.Proofs.YtdjhfeaimmpmhaaGreat
open Go.RowKit

theorem IsCmp.unique {A1 A2 RA RA' : List (List Int)} {B1 B2 RB RB' : List Int} {c c' : Int} (h : IsCmp A1 B1 A2 B2 RA RB c) (h' : IsCmp A1 B1 A2 B2 RA' RB' c') : RA = RA' ∧ RB = RB' ∧ c = c' := by
  obtain ⟨e, r1, r2⟩ := h
  obtain ⟨e', r1', r2'⟩ := h'
  have hc : c = c' := e.trans e'.symm
  subst hc
  by_cases h0 : c = 0
  · exact ⟨(r1 h0).1.trans (r1' h0).1.symm, (r1 h0).2.trans (r1' h0).2.symm, rfl⟩
  · exact ⟨(r2 h0).1.trans (r2' h0).1.symm, (r2 h0).2.trans (r2' h0).2.symm, rfl⟩
theorem isSc_ok {A RA : List (List Int)} {Bs RB : List Int} {k c : Int} (h : tabB A Bs = true) (k0 : 0 ≤ k) (k1 : k ≤ 10006) (hr : IsSc A Bs k RA RB c) : RA = sclT k A ∧ RB = scl k Bs ∧ c = 0 := by
  obtain ⟨rfl, rfl, rfl⟩ := hr
  have hn : isNum k = true := by unfold isNum; rw [inR_iff]; omega
  have hs : scaleOk A Bs k = true := by simp [scaleOk, h, hn]
  exact ⟨by unfold scaleA; rw [if_pos hs]; rfl, by unfold scaleB; rw [if_pos hs], by simp [scaleC, h, hn]⟩
theorem isCmp_bad {A1 A2 RA : List (List Int)} {B1 B2 RB : List Int} {c : Int} (h1 : ¬ (tabB A1 B1 = true ∧ tabB A2 B2 = true ∧ B1.length + B2.length ≤ 8)) (hr : IsCmp A1 B1 A2 B2 RA RB c) : (c != 0) = true := by
  obtain ⟨hc, -, -⟩ := hr
  have : c ≠ 0 := by
    rw [hc]
    unfold cmpC
    intro h
    refine h1 ?_
    by_cases a : tabB A1 B1 = true
    · rw [if_pos a] at h
      by_cases b : tabB A2 B2 = true
      · rw [if_pos b] at h
        by_cases d : B1.length + B2.length ≤ 8
        · exact ⟨a, b, d⟩
        · rw [if_neg d] at h; omega
      · rw [if_neg b] at h; omega
    · rw [if_neg a] at h; omega
  simp [this]
/-- what the law says of three characters -/
theorem cct_ok {A1 A2 : List (List Int)} {B1 B2 : List Int} (h1 : tabB A1 B1 = true) (h2 : tabB A2 B2 = true) (hl : B1.length + B2.length ≤ 8) :
    tabB (compA A1 B1 A2 B2) (B1 ++ B2) = true ∧ chT (compA A1 B1 A2 B2) (B1 ++ B2) = cvZ (chT A1 B1) (chT A2 B2) := by
  have hS1 := SqT.of (isTab_of h1)
  have hS2 := SqT.of (isTab_of h2)
  exact ⟨(adj_cmp h1 h2 hl).1, chT_cmp hS1 hS2⟩
theorem cct_one {A : List (List Int)} {B : List Int} (h : tabB A B = true) (k : Int) :
    tabB (invT A B) (scl 10006 B) = true ∧ chT (invT A B) (scl 10006 B) = iv (chT A B) ∧ tabB (sclT k A) (scl k B) = true ∧ chT (sclT k A) (scl k B) = scZ (chT A B) k ∧ tabB (adA A B) (adB B) = true ∧ chT (adA A B) (adB B) = scZ (iv (chT A B)) 10006 := by
  have hI := isTab_of h
  have hS := SqT.of hI
  exact ⟨(adj_ok h).2.2.2.1, chT_inv hS, tabB_sq (hS.scl k) hI.lo hI.hi, chT_scl hS k, (adj_ok h).1, chT_ad2 hS⟩

set_option maxHeartbeats 64000000 in
theorem law_ComposedTableaus (w : World) (v : Value) (n : Nat) (h : Bts w v n) :
    Calls Tryz.prog 8 #[v] w fun e w' => e = .returned (.bool true) ∧ Below w.heap.size w w' := by
  obtain ⟨A, c, rfl, hb⟩ := h
  have HBG := Lib.hid (l_big w A n c)
  by_cases h4 : 4096 < n
  · have hd : decide (4096 < n) = true := by simp [h4]
    rw [hd] at HBG
    clear hd h4 hb
    go_enter Tryz.func8, Tryz.ntmps8
    go_wp2_with (go_at_call 9; refine HBG.out.mono ?_; rintro e w0 ⟨rfl, rfl⟩)
    go_ret
    exact ⟨rfl, Below.refl _ _⟩
  · have hd : decide (4096 < n) = false := by simp [h4]
    rw [hd] at HBG
    have HDR := Lib.hid (s_DrawComposeTableaus w A n c hb (by omega))
    have HBY := Lib.hid hb
    have hn4 : n ≤ 1000000 := by omega
    clear hd h4 hb
    go_enter Tryz.func8, Tryz.ntmps8
    go_upto_region 4 with (first
      | (go_at_call 9; refine HBG.out.mono ?_; rintro e w0 ⟨rfl, rfl⟩)
      | (go_at_call 38; go_loud (refine HDR.out.mono ?_; rintro e w1 ⟨x, y, rfl, ⟨X, Bs, hx⟩, ⟨Y, Cs, hy⟩, hb1⟩; obtain ⟨Aa, ca, Ab, cb, rfl⟩ := hx.open_; obtain ⟨Ya, da, Yb, db, rfl⟩ := hy.open_; have HX1 := Lib.hid hx; have HY1 := Lib.hid hy; have HB1 := Lib.hid hb1; clear hx hy hb1)))
    clear HBG HDR
    obtain ⟨qx, hqx⟩ : ∃ q, q = w1.heap.size := ⟨_, rfl⟩
    obtain ⟨qy, hqy⟩ : ∃ q, q = w1.heap.size + 1 := ⟨_, rfl⟩
    obtain ⟨W0, hW0⟩ : ∃ W0, W0 = (w1.alloc (.cells #[.slice Aa X.length ca, .slice Ab Bs.length cb] tTb)).alloc (.cells #[.slice Ya Y.length da, .slice Yb Cs.length db] tTb) := ⟨_, rfl⟩
    have HX80 := Lib.hid (show TabArg W0 (.agg #[.slice Aa X.length ca, .slice Ab Bs.length cb]) X Bs from by rw [hW0]; exact HX1.out.below (below2 _ _ _))
    have HX81 := Lib.hid (show TabArg W0 (.agg #[.slice Ya Y.length da, .slice Yb Cs.length db]) Y Cs from by rw [hW0]; exact HY1.out.below (below2 _ _ _))
    have HBW := Lib.hid (show Below w.heap.size w W0 from by rw [hW0]; exact HB1.out.trans ((below2 w1 _ _).mono HB1.out.size))
    have HK80 := Lib.hid (show Blk W0 qx tTb #[.slice Aa X.length ca, .slice Ab Bs.length cb] from by rw [hW0, hqx]; exact (Blk.new _ _ _).alloc _)
    have HK81 := Lib.hid (show Blk W0 qy tTb #[.slice Ya Y.length da, .slice Yb Cs.length db] from by rw [hW0, hqy]; exact Blk.new1 _ _ _ _)
    rw [← hW0, ← hqy, ← hqx]
    clear hW0 hqx hqy HX1 HY1 HB1
    have HC := Lib.hid (i_ComposeTableaus W0 _ _ X Bs Y Cs HX80.out HX81.out)
    have c80a : W0.cell? ⟨qx, 0, none⟩ = some (.slice Aa X.length ca) := HK80.out.cell 0
    have c80b : W0.cell? ⟨qx, 1, none⟩ = some (.slice Ab Bs.length cb) := HK80.out.cell 1
    have c81a : W0.cell? ⟨qy, 0, none⟩ = some (.slice Ya Y.length da) := HK81.out.cell 0
    have c81b : W0.cell? ⟨qy, 1, none⟩ = some (.slice Yb Cs.length db) := HK81.out.cell 1
    go_upto_region 5 with (go_at_call 39; go_loud (refine HC.out.mono ?_; rintro e w1 ⟨ZA, ZB, v, e1, rfl, hrep, ho, hb⟩; have HP := Lib.hid hrep; obtain ⟨A1, a1, B1, b1, rfl⟩ := ho.open_; have HN := Lib.hid ho.arg; have HBn := Lib.hid hb; clear hrep ho hb))
    clear HC
    clear c80a c80b c81a c81b
    obtain ⟨q1, hq1⟩ : ∃ q1, q1 = w1.heap.size := ⟨_, rfl⟩
    obtain ⟨W1, hW1⟩ : ∃ W1, W1 = w1.alloc (.cells #[.slice A1 ZA.length a1, .slice B1 ZB.length b1] tTb) := ⟨_, rfl⟩
    have HBs := Lib.hid (show Below W0.heap.size W0 W1 from by rw [hW1]; exact HBn.out.trans ((below1 w1 _).mono HBn.out.size))
    have HX80 := Lib.hid (HX80.out.below HBs.out)
    have HK80 := Lib.hid (HK80.out.below HBs.out HK80.out.lt)
    have HX81 := Lib.hid (HX81.out.below HBs.out)
    have HK81 := Lib.hid (HK81.out.below HBs.out HK81.out.lt)
    have HBW := Lib.hid (HBW.out.trans (HBs.out.mono HBW.out.size))
    have HX1 := Lib.hid (show TabArg W1 (.agg #[.slice A1 ZA.length a1, .slice B1 ZB.length b1]) ZA ZB from by rw [hW1]; exact HN.out.below (below1 _ _))
    have HK1 := Lib.hid (show Blk W1 q1 tTb #[.slice A1 ZA.length a1, .slice B1 ZB.length b1] from by rw [hW1, hq1]; exact Blk.new _ _ _)
    rw [← hW1, ← hq1]
    clear hW1 hq1 HN HBn HBs
    have HC := Lib.hid (s_ComposeTableaus W1 _ _ X Bs Y Cs HX80.out HX81.out)
    have c80a : W1.cell? ⟨qx, 0, none⟩ = some (.slice Aa X.length ca) := HK80.out.cell 0
    have c80b : W1.cell? ⟨qx, 1, none⟩ = some (.slice Ab Bs.length cb) := HK80.out.cell 1
    have c81a : W1.cell? ⟨qy, 0, none⟩ = some (.slice Ya Y.length da) := HK81.out.cell 0
    have c81b : W1.cell? ⟨qy, 1, none⟩ = some (.slice Yb Cs.length db) := HK81.out.cell 1
    go_upto_region 6 with (go_at_call 40; go_loud (refine HC.out.mono ?_; rintro e w2 ⟨SA, SB, v, e2, rfl, hrep, ho, hb⟩; obtain ⟨rfl, rfl, rfl⟩ := HP.out.unique hrep; obtain ⟨A2, a2, B2, b2, rfl⟩ := ho.open_; have HN := Lib.hid ho.arg; have HBn := Lib.hid hb; clear hrep ho hb))
    clear HC
    clear c80a c80b c81a c81b
    obtain ⟨q2, hq2⟩ : ∃ q2, q2 = w2.heap.size := ⟨_, rfl⟩
    obtain ⟨W2, hW2⟩ : ∃ W2, W2 = w2.alloc (.cells #[.slice A2 ZA.length a2, .slice B2 ZB.length b2] tTb) := ⟨_, rfl⟩
    have HBs := Lib.hid (show Below W1.heap.size W1 W2 from by rw [hW2]; exact HBn.out.trans ((below1 w2 _).mono HBn.out.size))
    have HX80 := Lib.hid (HX80.out.below HBs.out)
    have HK80 := Lib.hid (HK80.out.below HBs.out HK80.out.lt)
    have HX81 := Lib.hid (HX81.out.below HBs.out)
    have HK81 := Lib.hid (HK81.out.below HBs.out HK81.out.lt)
    have HX1 := Lib.hid (HX1.out.below HBs.out)
    have HK1 := Lib.hid (HK1.out.below HBs.out HK1.out.lt)
    have HBW := Lib.hid (HBW.out.trans (HBs.out.mono HBW.out.size))
    have HX2 := Lib.hid (show TabArg W2 (.agg #[.slice A2 ZA.length a2, .slice B2 ZB.length b2]) ZA ZB from by rw [hW2]; exact HN.out.below (below1 _ _))
    have HK2 := Lib.hid (show Blk W2 q2 tTb #[.slice A2 ZA.length a2, .slice B2 ZB.length b2] from by rw [hW2, hq2]; exact Blk.new _ _ _)
    rw [← hW2, ← hq2]
    clear hW2 hq2 HN HBn HBs
    have HC := Lib.hid (l_likeTableau5 W2 _ _ ZA ZA ZB ZB HX1.out HX2.out)
    rw [show (decide (ZA = ZA) && decide (ZB = ZB)) = true from by simp] at HC
    have hcc : (e1 != e1) = false := by simp
    have c1a : W2.cell? ⟨q1, 0, none⟩ = some (.slice A1 ZA.length a1) := HK1.out.cell 0
    have c1b : W2.cell? ⟨q1, 1, none⟩ = some (.slice B1 ZB.length b1) := HK1.out.cell 1
    have c2a : W2.cell? ⟨q2, 0, none⟩ = some (.slice A2 ZA.length a2) := HK2.out.cell 0
    have c2b : W2.cell? ⟨q2, 1, none⟩ = some (.slice B2 ZB.length b2) := HK2.out.cell 1
    go_upto_region 8 with (go_at_call 41; go_loud (refine HC.out.mono ?_; rintro e w3 ⟨rfl, hb⟩; have HBs := Lib.hid hb; clear hb))
    clear HC
    clear c1a c1b c2a c2b
    clear hcc
    have HX80 := Lib.hid (HX80.out.below HBs.out)
    have HK80 := Lib.hid (HK80.out.below HBs.out HK80.out.lt)
    have HX81 := Lib.hid (HX81.out.below HBs.out)
    have HK81 := Lib.hid (HK81.out.below HBs.out HK81.out.lt)
    have HX1 := Lib.hid (HX1.out.below HBs.out)
    have HK1 := Lib.hid (HK1.out.below HBs.out HK1.out.lt)
    have HBW := Lib.hid (HBW.out.trans (HBs.out.mono HBW.out.size))
    clear HBs
    by_cases hgood : tabB X Bs = true ∧ tabB Y Cs = true ∧ Bs.length + Cs.length ≤ 8
    case neg =>
      have hcn := isCmp_bad hgood HP.out
      clear hgood
      go_wp2_with fail
      go_ret
      exact ⟨rfl, HBW.out⟩
    obtain ⟨htx, hty, hl⟩ := hgood
    obtain ⟨hza, hzb, rfl⟩ := isCmp_ok htx hty hl HP.out
    have hzl : ZB.length = Bs.length + Cs.length := by rw [hzb, List.length_append]
    by_cases h6 : 6 < ZB.length
    case pos =>
      have h6i : (6 : Int) < (ZB.length : Int) := by omega
      have c1a : w3.cell? ⟨q1, 0, none⟩ = some (.slice A1 ZA.length a1) := HK1.out.cell 0
      have c1b : w3.cell? ⟨q1, 1, none⟩ = some (.slice B1 ZB.length b1) := HK1.out.cell 1
      clear htx hty hl hza hzb hzl
      go_wp2_with fail
      go_ret
      exact ⟨rfl, HBW.out⟩
    have h6i : ¬ (6 : Int) < (ZB.length : Int) := by omega
    have HTX := Lib.hid htx
    have HTY := Lib.hid hty
    have HCC := Lib.hid (cct_ok htx hty hl)
    have HZE := Lib.hid (And.intro hza hzb)
    have HTZ := Lib.hid (show tabB ZA ZB = true from by rw [HZE.out.1, HZE.out.2]; exact HCC.out.1)
    clear htx hty hl hza hzb hzl HP
    have c1a : w3.cell? ⟨q1, 0, none⟩ = some (.slice A1 ZA.length a1) := HK1.out.cell 0
    have c1b : w3.cell? ⟨q1, 1, none⟩ = some (.slice B1 ZB.length b1) := HK1.out.cell 1
    go_upto_region 10 with fail
    clear c1a c1b
    clear h6 h6i
    have HC := Lib.hid (i_CharacterOf0 w3 _ X Bs HX80.out HTX.out)
    have c80a : w3.cell? ⟨qx, 0, none⟩ = some (.slice Aa X.length ca) := HK80.out.cell 0
    have c80b : w3.cell? ⟨qx, 1, none⟩ = some (.slice Ab Bs.length cb) := HK80.out.cell 1
    go_upto_region 11 with (go_at_call 42; go_loud (refine HC.out.mono ?_; rintro e w4 ⟨x, rfl, ho, hb⟩; have hz := ho.ints; obtain ⟨A4, a4, hAe, -, -, -⟩ := hz.open_; rw [chT_len] at hAe; subst hAe; have HN := Lib.hid hz; have HBs := Lib.hid hb; clear hz ho hb))
    clear HC
    clear c80a c80b
    have HX80 := Lib.hid (HX80.out.below HBs.out)
    have HK80 := Lib.hid (HK80.out.below HBs.out HK80.out.lt)
    have HX81 := Lib.hid (HX81.out.below HBs.out)
    have HK81 := Lib.hid (HK81.out.below HBs.out HK81.out.lt)
    have HX1 := Lib.hid (HX1.out.below HBs.out)
    have HK1 := Lib.hid (HK1.out.below HBs.out HK1.out.lt)
    have HBW := Lib.hid (HBW.out.trans (HBs.out.mono HBW.out.size))
    have HI4 := HN
    clear HN HBs
    have HC := Lib.hid (i_CharacterOf0 w4 _ Y Cs HX81.out HTY.out)
    have c81a : w4.cell? ⟨qy, 0, none⟩ = some (.slice Ya Y.length da) := HK81.out.cell 0
    have c81b : w4.cell? ⟨qy, 1, none⟩ = some (.slice Yb Cs.length db) := HK81.out.cell 1
    go_upto_region 12 with (go_at_call 42; go_loud (refine HC.out.mono ?_; rintro e w5 ⟨x, rfl, ho, hb⟩; have hz := ho.ints; obtain ⟨A5, a5, hAe, -, -, -⟩ := hz.open_; rw [chT_len] at hAe; subst hAe; have HN := Lib.hid hz; have HBs := Lib.hid hb; clear hz ho hb))
    clear HC
    clear c81a c81b
    have HX80 := Lib.hid (HX80.out.below HBs.out)
    have HK80 := Lib.hid (HK80.out.below HBs.out HK80.out.lt)
    have HX81 := Lib.hid (HX81.out.below HBs.out)
    have HK81 := Lib.hid (HK81.out.below HBs.out HK81.out.lt)
    have HX1 := Lib.hid (HX1.out.below HBs.out)
    have HK1 := Lib.hid (HK1.out.below HBs.out HK1.out.lt)
    have HI4 := Lib.hid (HI4.out.below HBs.out)
    have HBW := Lib.hid (HBW.out.trans (HBs.out.mono HBW.out.size))
    have HI5 := HN
    clear HN HBs
    have HC := Lib.hid (i_CharacterOf0 w5 _ ZA ZB HX1.out HTZ.out)
    have c1a : w5.cell? ⟨q1, 0, none⟩ = some (.slice A1 ZA.length a1) := HK1.out.cell 0
    have c1b : w5.cell? ⟨q1, 1, none⟩ = some (.slice B1 ZB.length b1) := HK1.out.cell 1
    go_upto_region 13 with (go_at_call 42; go_loud (refine HC.out.mono ?_; rintro e w6 ⟨x, rfl, ho, hb⟩; have hz := ho.ints; obtain ⟨A6, a6, hAe, -, -, -⟩ := hz.open_; rw [chT_len] at hAe; subst hAe; have HN := Lib.hid hz; have HBs := Lib.hid hb; clear hz ho hb))
    clear HC
    clear c1a c1b
    have HX80 := Lib.hid (HX80.out.below HBs.out)
    have HK80 := Lib.hid (HK80.out.below HBs.out HK80.out.lt)
    have HX81 := Lib.hid (HX81.out.below HBs.out)
    have HK81 := Lib.hid (HK81.out.below HBs.out HK81.out.lt)
    have HX1 := Lib.hid (HX1.out.below HBs.out)
    have HK1 := Lib.hid (HK1.out.below HBs.out HK1.out.lt)
    have HI4 := Lib.hid (HI4.out.below HBs.out)
    have HI5 := Lib.hid (HI5.out.below HBs.out)
    have HBW := Lib.hid (HBW.out.trans (HBs.out.mono HBW.out.size))
    have HI6 := HN
    clear HN HBs
    have HCX := Lib.hid (chr_chF Bs.length (fT X) (fB Bs))
    have HCY := Lib.hid (chr_chF Cs.length (fT Y) (fB Cs))
    have HC := Lib.hid (i_Convolve0 w6 _ _ _ _ HI4.out HI5.out (chT_len _ _) (chT_nums _ _) HCX.out.one (chT_len _ _) (chT_nums _ _))
    go_upto_region 14 with (go_at_call 43; go_loud (refine HC.out.mono ?_; rintro e w7 ⟨x, rfl, ho, hb⟩; have hz := ho.ints; obtain ⟨A7, a7, hAe, -, -, -⟩ := hz.open_; rw [cvZ_len] at hAe; subst hAe; have HN := Lib.hid hz; have HBs := Lib.hid hb; clear hz ho hb))
    clear HC
    have HX80 := Lib.hid (HX80.out.below HBs.out)
    have HK80 := Lib.hid (HK80.out.below HBs.out HK80.out.lt)
    have HX81 := Lib.hid (HX81.out.below HBs.out)
    have HK81 := Lib.hid (HK81.out.below HBs.out HK81.out.lt)
    have HX1 := Lib.hid (HX1.out.below HBs.out)
    have HK1 := Lib.hid (HK1.out.below HBs.out HK1.out.lt)
    have HI4 := Lib.hid (HI4.out.below HBs.out)
    have HI5 := Lib.hid (HI5.out.below HBs.out)
    have HI6 := Lib.hid (HI6.out.below HBs.out)
    have HBW := Lib.hid (HBW.out.trans (HBs.out.mono HBW.out.size))
    have HI7 := HN
    clear HN HBs
    have HC := Lib.hid (l_likeInts w7 _ _ _ _ HI6.out HI7.out)
    rw [show decide (chT ZA ZB = cvZ (chT X Bs) (chT Y Cs)) = true from decide_eq_true (by rw [HZE.out.1, HZE.out.2]; exact HCC.out.2)] at HC
    go_upto_region 16 with (go_at_call 15; go_loud (refine HC.out.mono ?_; rintro e w8 ⟨rfl, n8, rfl⟩; have HBs := Lib.hid (below_drewN (Below.refl w7.heap.size w7) n8)))
    clear HC
    obtain ⟨w8, hw8⟩ : ∃ x, x = w7.drewN n8 := ⟨_, rfl⟩
    rw [← hw8] at HBs ⊢
    clear hw8
    have HX80 := Lib.hid (HX80.out.below HBs.out)
    have HK80 := Lib.hid (HK80.out.below HBs.out HK80.out.lt)
    have HI4 := Lib.hid (HI4.out.below HBs.out)
    have HBW := Lib.hid (HBW.out.trans (HBs.out.mono HBW.out.size))
    clear HBs
    clear HCC HZE HTZ HTY HCY
    have HRO := Lib.hid (l_roll w8 A n c 606 ((HBY.out.belowS (Nat.le_refl _) HBW.out).monoS HBW.out.size) hn4 (by omega) (by omega))
    go_upto_region 17 with (first
      | (go_at_call 23; go_loud (refine HRO.out.mono ?_; rintro e w9 ⟨p, rfl, hs1, hb1⟩; have HS5 := Lib.hid hs1; have HB5 := Lib.hid hb1; have hpl := hs1.lt; have hpg := hs1.ge; clear hs1 hb1))
      | (go_at_call 44; go_loud (refine (l_number5 w9 _ p HS5.out).mono ?_; rintro e w10 ⟨kk, rfl, hkb, hg6, hs6⟩; have HBs := Lib.hid (HB5.out.grown hg6 HB5.out.size (fun k e => by injection e with e; omega)); have HKB := Lib.hid hkb; clear hkb hg6 hs6)))
    clear HRO HS5 HB5 hpl hpg
    have HX80 := Lib.hid (HX80.out.below HBs.out)
    have HK80 := Lib.hid (HK80.out.below HBs.out HK80.out.lt)
    have HI4 := Lib.hid (HI4.out.below HBs.out)
    have HBW := Lib.hid (HBW.out.trans (HBs.out.mono HBW.out.size))
    clear HBs
    have HONE := Lib.hid (cct_one HTX.out kk)
    have HKI := Lib.hid (show In64 kk from by have := HKB.out; unfold In64; omega)
    have HC := Lib.hid (i_InverseTableau w10 _ X Bs HX80.out)
    have c80a : w10.cell? ⟨qx, 0, none⟩ = some (.slice Aa X.length ca) := HK80.out.cell 0
    have c80b : w10.cell? ⟨qx, 1, none⟩ = some (.slice Ab Bs.length cb) := HK80.out.cell 1
    go_upto_region 18 with (go_at_call 45; go_loud (refine HC.out.mono ?_; rintro e w11 ⟨IA, IB, v, e11, rfl, hrep, ho, hb⟩; obtain ⟨h1, h2, rfl⟩ := isInv_ok HTX.out hrep; subst h1; subst h2; obtain ⟨A11, a11, B11, b11, rfl⟩ := ho.open_; have HN := Lib.hid ho.arg; have HBn := Lib.hid hb; clear hrep ho hb))
    clear HC
    clear c80a c80b
    obtain ⟨q11, hq11⟩ : ∃ q11, q11 = w11.heap.size := ⟨_, rfl⟩
    obtain ⟨W11, hW11⟩ : ∃ W11, W11 = w11.alloc (.cells #[.slice A11 (invT X Bs).length a11, .slice B11 (scl 10006 Bs).length b11] tTb) := ⟨_, rfl⟩
    have HBs := Lib.hid (show Below w10.heap.size w10 W11 from by rw [hW11]; exact HBn.out.trans ((below1 w11 _).mono HBn.out.size))
    have HX80 := Lib.hid (HX80.out.below HBs.out)
    have HK80 := Lib.hid (HK80.out.below HBs.out HK80.out.lt)
    have HI4 := Lib.hid (HI4.out.below HBs.out)
    have HBW := Lib.hid (HBW.out.trans (HBs.out.mono HBW.out.size))
    have HX11 := Lib.hid (show TabArg W11 (.agg #[.slice A11 (invT X Bs).length a11, .slice B11 (scl 10006 Bs).length b11]) (invT X Bs) (scl 10006 Bs) from by rw [hW11]; exact HN.out.below (below1 _ _))
    have HK11 := Lib.hid (show Blk W11 q11 tTb #[.slice A11 (invT X Bs).length a11, .slice B11 (scl 10006 Bs).length b11] from by rw [hW11, hq11]; exact Blk.new _ _ _)
    rw [← hW11, ← hq11]
    clear hW11 hq11 HN HBn HBs
    have HC := Lib.hid (i_CharacterOf0 W11 _ (invT X Bs) (scl 10006 Bs) HX11.out HONE.out.1)
    have c11a : W11.cell? ⟨q11, 0, none⟩ = some (.slice A11 (invT X Bs).length a11) := HK11.out.cell 0
    have c11b : W11.cell? ⟨q11, 1, none⟩ = some (.slice B11 (scl 10006 Bs).length b11) := HK11.out.cell 1
    go_upto_region 19 with (go_at_call 42; go_loud (refine HC.out.mono ?_; rintro e w12 ⟨x, rfl, ho, hb⟩; have hz := ho.ints; obtain ⟨A12, a12, hAe, -, -, -⟩ := hz.open_; rw [chT_len] at hAe; subst hAe; have HN := Lib.hid hz; have HBs := Lib.hid hb; clear hz ho hb))
    clear HC
    clear c11a c11b
    have HX80 := Lib.hid (HX80.out.below HBs.out)
    have HK80 := Lib.hid (HK80.out.below HBs.out HK80.out.lt)
    have HX11 := Lib.hid (HX11.out.below HBs.out)
    have HK11 := Lib.hid (HK11.out.below HBs.out HK11.out.lt)
    have HI4 := Lib.hid (HI4.out.below HBs.out)
    have HBW := Lib.hid (HBW.out.trans (HBs.out.mono HBW.out.size))
    have HI12 := HN
    clear HN HBs
    have HC := Lib.hid (i_InverseMap0 w12 _ _ HI4.out (chT_len _ _) (chT_nums _ _) HCX.out.one)
    go_upto_region 20 with (go_at_call 46; go_loud (refine HC.out.mono ?_; rintro e w13 ⟨x, rfl, ho, hb⟩; have hz := ho.ints; obtain ⟨A13, a13, hAe, -, -, -⟩ := hz.open_; rw [(chr_iv _).len] at hAe; subst hAe; have HN := Lib.hid hz; have HBs := Lib.hid hb; clear hz ho hb))
    clear HC
    have HX80 := Lib.hid (HX80.out.below HBs.out)
    have HK80 := Lib.hid (HK80.out.below HBs.out HK80.out.lt)
    have HI4 := Lib.hid (HI4.out.below HBs.out)
    have HI12 := Lib.hid (HI12.out.below HBs.out)
    have HBW := Lib.hid (HBW.out.trans (HBs.out.mono HBW.out.size))
    have HI13 := HN
    clear HN HBs
    have HC := Lib.hid (i_ScaleTableau w13 _ X Bs HX80.out kk HKI.out)
    have c80a : w13.cell? ⟨qx, 0, none⟩ = some (.slice Aa X.length ca) := HK80.out.cell 0
    have c80b : w13.cell? ⟨qx, 1, none⟩ = some (.slice Ab Bs.length cb) := HK80.out.cell 1
    go_upto_region 21 with (go_at_call 47; go_loud (refine HC.out.mono ?_; rintro e w14 ⟨IA, IB, v, e14, rfl, hrep, ho, hb⟩; obtain ⟨h1, h2, rfl⟩ := isSc_ok HTX.out HKB.out.1 HKB.out.2 hrep; subst h1; subst h2; obtain ⟨A14, a14, B14, b14, rfl⟩ := ho.open_; have HN := Lib.hid ho.arg; have HBn := Lib.hid hb; clear hrep ho hb))
    clear HC
    clear c80a c80b
    obtain ⟨q14, hq14⟩ : ∃ q14, q14 = w14.heap.size := ⟨_, rfl⟩
    obtain ⟨W14, hW14⟩ : ∃ W14, W14 = w14.alloc (.cells #[.slice A14 (sclT kk X).length a14, .slice B14 (scl kk Bs).length b14] tTb) := ⟨_, rfl⟩
    have HBs := Lib.hid (show Below w13.heap.size w13 W14 from by rw [hW14]; exact HBn.out.trans ((below1 w14 _).mono HBn.out.size))
    have HX80 := Lib.hid (HX80.out.below HBs.out)
    have HK80 := Lib.hid (HK80.out.below HBs.out HK80.out.lt)
    have HI4 := Lib.hid (HI4.out.below HBs.out)
    have HI12 := Lib.hid (HI12.out.below HBs.out)
    have HI13 := Lib.hid (HI13.out.below HBs.out)
    have HBW := Lib.hid (HBW.out.trans (HBs.out.mono HBW.out.size))
    have HX14 := Lib.hid (show TabArg W14 (.agg #[.slice A14 (sclT kk X).length a14, .slice B14 (scl kk Bs).length b14]) (sclT kk X) (scl kk Bs) from by rw [hW14]; exact HN.out.below (below1 _ _))
    have HK14 := Lib.hid (show Blk W14 q14 tTb #[.slice A14 (sclT kk X).length a14, .slice B14 (scl kk Bs).length b14] from by rw [hW14, hq14]; exact Blk.new _ _ _)
    rw [← hW14, ← hq14]
    clear hW14 hq14 HN HBn HBs
    have HC := Lib.hid (i_CharacterOf0 W14 _ (sclT kk X) (scl kk Bs) HX14.out HONE.out.2.2.1)
    have c14a : W14.cell? ⟨q14, 0, none⟩ = some (.slice A14 (sclT kk X).length a14) := HK14.out.cell 0
    have c14b : W14.cell? ⟨q14, 1, none⟩ = some (.slice B14 (scl kk Bs).length b14) := HK14.out.cell 1
    go_upto_region 22 with (go_at_call 42; go_loud (refine HC.out.mono ?_; rintro e w15 ⟨x, rfl, ho, hb⟩; have hz := ho.ints; obtain ⟨A15, a15, hAe, -, -, -⟩ := hz.open_; rw [chT_len] at hAe; subst hAe; have HN := Lib.hid hz; have HBs := Lib.hid hb; clear hz ho hb))
    clear HC
    clear c14a c14b
    have HX80 := Lib.hid (HX80.out.below HBs.out)
    have HK80 := Lib.hid (HK80.out.below HBs.out HK80.out.lt)
    have HX14 := Lib.hid (HX14.out.below HBs.out)
    have HK14 := Lib.hid (HK14.out.below HBs.out HK14.out.lt)
    have HI4 := Lib.hid (HI4.out.below HBs.out)
    have HI12 := Lib.hid (HI12.out.below HBs.out)
    have HI13 := Lib.hid (HI13.out.below HBs.out)
    have HBW := Lib.hid (HBW.out.trans (HBs.out.mono HBW.out.size))
    have HI15 := HN
    clear HN HBs
    have HC := Lib.hid (i_ScaleMap0 w15 _ _ kk HI4.out (chT_len _ _) (chT_nums _ _) HKB.out.1 HKB.out.2)
    go_upto_region 23 with (go_at_call 27; go_loud (refine HC.out.mono ?_; rintro e w16 ⟨x, rfl, ho, hb⟩; have hz := ho.ints; obtain ⟨A16, a16, hAe, -, -, -⟩ := hz.open_; rw [scZ_len] at hAe; subst hAe; have HN := Lib.hid hz; have HBs := Lib.hid hb; clear hz ho hb))
    clear HC
    have HX80 := Lib.hid (HX80.out.below HBs.out)
    have HK80 := Lib.hid (HK80.out.below HBs.out HK80.out.lt)
    have HI4 := Lib.hid (HI4.out.below HBs.out)
    have HI12 := Lib.hid (HI12.out.below HBs.out)
    have HI13 := Lib.hid (HI13.out.below HBs.out)
    have HI15 := Lib.hid (HI15.out.below HBs.out)
    have HBW := Lib.hid (HBW.out.trans (HBs.out.mono HBW.out.size))
    have HI16 := HN
    clear HN HBs
    have HC := Lib.hid (i_AdjointTableau w16 _ X Bs HX80.out)
    have c80a : w16.cell? ⟨qx, 0, none⟩ = some (.slice Aa X.length ca) := HK80.out.cell 0
    have c80b : w16.cell? ⟨qx, 1, none⟩ = some (.slice Ab Bs.length cb) := HK80.out.cell 1
    go_upto_region 24 with (go_at_call 48; go_loud (refine HC.out.mono ?_; rintro e w17 ⟨IA, IB, v, e17, rfl, hrep, ho, hb⟩; obtain ⟨h1, h2, rfl⟩ := isAdj_ok HTX.out hrep; subst h1; subst h2; obtain ⟨A17, a17, B17, b17, rfl⟩ := ho.open_; have HN := Lib.hid ho.arg; have HBn := Lib.hid hb; clear hrep ho hb))
    clear HC
    clear c80a c80b
    obtain ⟨q17, hq17⟩ : ∃ q17, q17 = w17.heap.size := ⟨_, rfl⟩
    obtain ⟨W17, hW17⟩ : ∃ W17, W17 = w17.alloc (.cells #[.slice A17 (adA X Bs).length a17, .slice B17 (adB Bs).length b17] tTb) := ⟨_, rfl⟩
    have HBs := Lib.hid (show Below w16.heap.size w16 W17 from by rw [hW17]; exact HBn.out.trans ((below1 w17 _).mono HBn.out.size))
    have HX80 := Lib.hid (HX80.out.below HBs.out)
    have HK80 := Lib.hid (HK80.out.below HBs.out HK80.out.lt)
    have HI4 := Lib.hid (HI4.out.below HBs.out)
    have HI12 := Lib.hid (HI12.out.below HBs.out)
    have HI13 := Lib.hid (HI13.out.below HBs.out)
    have HI15 := Lib.hid (HI15.out.below HBs.out)
    have HI16 := Lib.hid (HI16.out.below HBs.out)
    have HBW := Lib.hid (HBW.out.trans (HBs.out.mono HBW.out.size))
    have HX17 := Lib.hid (show TabArg W17 (.agg #[.slice A17 (adA X Bs).length a17, .slice B17 (adB Bs).length b17]) (adA X Bs) (adB Bs) from by rw [hW17]; exact HN.out.below (below1 _ _))
    have HK17 := Lib.hid (show Blk W17 q17 tTb #[.slice A17 (adA X Bs).length a17, .slice B17 (adB Bs).length b17] from by rw [hW17, hq17]; exact Blk.new _ _ _)
    rw [← hW17, ← hq17]
    clear hW17 hq17 HN HBn HBs
    have HC := Lib.hid (i_CharacterOf0 W17 _ (adA X Bs) (adB Bs) HX17.out HONE.out.2.2.2.2.1)
    have c17a : W17.cell? ⟨q17, 0, none⟩ = some (.slice A17 (adA X Bs).length a17) := HK17.out.cell 0
    have c17b : W17.cell? ⟨q17, 1, none⟩ = some (.slice B17 (adB Bs).length b17) := HK17.out.cell 1
    go_upto_region 25 with (go_at_call 42; go_loud (refine HC.out.mono ?_; rintro e w18 ⟨x, rfl, ho, hb⟩; have hz := ho.ints; obtain ⟨A18, a18, hAe, -, -, -⟩ := hz.open_; rw [chT_len] at hAe; subst hAe; have HN := Lib.hid hz; have HBs := Lib.hid hb; clear hz ho hb))
    clear HC
    clear c17a c17b
    have HX80 := Lib.hid (HX80.out.below HBs.out)
    have HK80 := Lib.hid (HK80.out.below HBs.out HK80.out.lt)
    have HX17 := Lib.hid (HX17.out.below HBs.out)
    have HK17 := Lib.hid (HK17.out.below HBs.out HK17.out.lt)
    have HI4 := Lib.hid (HI4.out.below HBs.out)
    have HI12 := Lib.hid (HI12.out.below HBs.out)
    have HI13 := Lib.hid (HI13.out.below HBs.out)
    have HI15 := Lib.hid (HI15.out.below HBs.out)
    have HI16 := Lib.hid (HI16.out.below HBs.out)
    have HBW := Lib.hid (HBW.out.trans (HBs.out.mono HBW.out.size))
    have HI18 := HN
    clear HN HBs
    have HC := Lib.hid (i_ScaleMap0 w18 _ _ 10006 HI13.out (chr_iv _).len (chr_iv _).num (by omega) (by omega))
    go_upto_region 26 with (go_at_call 27; go_loud (refine HC.out.mono ?_; rintro e w19 ⟨x, rfl, ho, hb⟩; have hz := ho.ints; obtain ⟨A19, a19, hAe, -, -, -⟩ := hz.open_; rw [scZ_len] at hAe; subst hAe; have HN := Lib.hid hz; have HBs := Lib.hid hb; clear hz ho hb))
    clear HC
    have HI4 := Lib.hid (HI4.out.below HBs.out)
    have HI12 := Lib.hid (HI12.out.below HBs.out)
    have HI13 := Lib.hid (HI13.out.below HBs.out)
    have HI15 := Lib.hid (HI15.out.below HBs.out)
    have HI16 := Lib.hid (HI16.out.below HBs.out)
    have HI18 := Lib.hid (HI18.out.below HBs.out)
    have HBW := Lib.hid (HBW.out.trans (HBs.out.mono HBW.out.size))
    have HI19 := HN
    clear HN HBs
    go_upto_region 28 with fail
    obtain ⟨W9, hW9⟩ : ∃ W9 : World, W9 = w19 := ⟨_, rfl⟩
    have HL1 := Lib.hid (fun (X : World) (hX : Below W9.heap.size W9 X) => l_likeInts X _ _ _ _ ((show Ints W9 (.slice A12 38 a12) _ from by rw [hW9]; exact HI12.out).below hX) ((show Ints W9 (.slice A13 38 a13) _ from by rw [hW9]; exact HI13.out).below hX))
    simp only [show decide (chT (invT X Bs) (scl 10006 Bs) = iv (chT X Bs)) = true from decide_eq_true (HONE.out.2.1)] at HL1
    have HL2 := Lib.hid (fun (X : World) (hX : Below W9.heap.size W9 X) => l_likeInts X _ _ _ _ ((show Ints W9 (.slice A15 38 a15) _ from by rw [hW9]; exact HI15.out).below hX) ((show Ints W9 (.slice A16 38 a16) _ from by rw [hW9]; exact HI16.out).below hX))
    simp only [show decide (chT (sclT kk X) (scl kk Bs) = scZ (chT X Bs) kk) = true from decide_eq_true (HONE.out.2.2.2.1)] at HL2
    have HL3 := Lib.hid (fun (X : World) (hX : Below W9.heap.size W9 X) => l_likeInts X _ _ _ _ ((show Ints W9 (.slice A18 38 a18) _ from by rw [hW9]; exact HI18.out).below hX) ((show Ints W9 (.slice A19 38 a19) _ from by rw [hW9]; exact HI19.out).below hX))
    simp only [show decide (chT (adA X Bs) (adB Bs) = scZ (iv (chT X Bs)) 10006) = true from decide_eq_true (HONE.out.2.2.2.2.2)] at HL3
    rw [← hW9] at HBW ⊢
    clear hW9
    go_wp2_with fail
    with_reducible refine (HL1.out _ (Below.refl _ _)).mono ?_
    rintro e w' ⟨rfl, n1, rfl⟩
    have HB1 := Lib.hid (below_drewN (Below.refl W9.heap.size W9) n1)
    go_wp2_with fail
    with_reducible refine (HL2.out _ HB1.out).mono ?_
    rintro e w' ⟨rfl, n2, rfl⟩
    have HB2 := Lib.hid (below_drewN HB1.out n2)
    go_wp2_with fail
    with_reducible refine (HL3.out _ (below_drewN (Below.refl W9.heap.size W9) (n1 + n2))).mono ?_
    rintro e w' ⟨rfl, n3, rfl⟩
    go_wp2_with fail
    go_ret
    exact ⟨rfl, by first | exact below_drewN HBW.out _ | exact below_drewN (below_drewN HBW.out _) _ | exact below_drewN (below_drewN (below_drewN HBW.out _) _) _⟩
end Go.Proofs.YtdjhfeaimmpmhaaGreat

set_option maxRecDepth 100000
set_option linter.unusedVariables false
set_option linter.unusedSimpArgs false
namespace Go.Proofs.YtdjhfeaimmpmhaaGreat
open Go.ChangeShapes Go.WideShapes Go.ChangeAt Go.RowKit

end Go.Proofs.YtdjhfeaimmpmhaaGreat

set_option maxRecDepth 100000
set_option linter.unusedVariables false
set_option linter.unusedSimpArgs false
namespace Go.Proofs.YtdjhfeaimmpmhaaGreat
open Go.ChangeShapes Go.WideShapes Go.ChangeAt Go.RowKit

theorem u8_of_wf {z : Int} (h : (Lit.int .u8 z).wf = true) : 0 ≤ z ∧ z ≤ 255 := by
  simp [Lit.wf, IntKind.min, IntKind.max, IntKind.signed, IntKind.bits] at h
  omega
theorem open_bytes {H : Type} {enc : TypeId × Value → H} {W : World} {base : Nat} {v : Value} {d : DataW H} {p : List MemPlace}
    (hv : Value.okWide Tryz.prog W .any base 22 v) (h : DataW.Trod enc Tryz.prog W 0 (fun _ => true) true 22 v d p) : ∃ n, Bts W v n := by
  obtain ⟨a, len, cap, rfl⟩ := okWide_slice Tryz.underlying22 hv
  obtain ⟨fuel, hf⟩ := h
  rcases open_ints Tryz.underlying22 Tryz.underlying5 (by kernel_rfl) hf with ⟨hcs, _⟩ | ⟨x, l, c, zs, hcs, _, hl, hm, hz, _, hcell, hwz⟩
  · simp [Value.cells] at hcs
    obtain ⟨rfl, rfl, rfl⟩ := hcs
    exact ⟨0, none, 0, rfl, fun k hk => by omega⟩
  · simp [Value.cells] at hcs
    obtain ⟨rfl, rfl, rfl⟩ := hcs
    have hz' : zs.length = cap := by simpa using hz
    refine ⟨len, some x, cap, rfl, fun k hk => ?_⟩
    have hk2 : k < zs.length := by omega
    have hc := hcell k (by omega)
    have hw := u8_of_wf (hwz _ (List.getElem_mem hk2))
    have e : zs.getD k 0 = zs[k] := by simp [List.getD, hk2]
    rw [e] at hc
    have hb := World.block_lt_of_cell? W _ hc
    rw [block_add] at hb
    exact ⟨x, zs[k], rfl, hb, hb, hw.1, hw.2, hc⟩
end Go.Proofs.YtdjhfeaimmpmhaaGreat

