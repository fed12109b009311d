/- The law FnCollocations, walked. Printed by lcogen.py. | Arguments that came in, opened to the words of the Mem text. | Byte slices that came in, opened. -/
import Derived.Test.YtofabikjjkapmaaGreatCo21
import Derived.Test.YtofabikjjkapmaaGreatCo23
import Derived.Test.YtofabikjjkapmaaGreatCo24
import Derived.Test.YtofabikjjkapmaaGreatCo20
import Derived.Test.YtofabikjjkapmaaGreatCo19
import Derived.BigQuiet
import Derived.Test.YtofabikjjkapmaaGreatRows
import Derived.Test.YtofabikjjkapmaaGreatCo2
import Derived.WalkKit
import Derived.ProofKit
import Derived.OpenShut
set_option maxRecDepth 100000
set_option linter.unusedVariables false
set_option linter.unusedSimpArgs false
namespace Go.Proofs.YtofabikjjkapmaaGreat
open Go.RowKit

theorem run_min6 {P : Program} (p m : Nat) (hm : m = min p 6) (W : World) (ts : Array TypeId) (t : TypeId) : (Builtin.min_ ts t #[.int .i64 (p : Int), .int .i64 6]).run P W = .ok (.int .i64 (m : Int)) W := by
  have h : (if (6 : Int) < (p : Int) then (6 : Int) else (p : Int)) = (m : Int) := by split <;> omega
  rw [← h]
  simp [Builtin.min_, Builtin.min2]
theorem col_no {zs : List Int} {RA : List (List Int)} {RB : List Int} {c : Int} (hc : nodesC zs ≠ 0) (h : IsCol zs RA RB c) : RA = [] ∧ RB = [] ∧ (c != 0) = true := by
  obtain ⟨rfl, rfl, rfl⟩ := h
  exact ⟨if_neg hc, if_neg hc, by simp [hc]⟩
theorem col_ok {zs : List Int} {RA : List (List Int)} {RB : List Int} {c : Int} (hc : nodesC zs = 0) (h : IsCol zs RA RB c) : RA = colA zs zs.length ∧ RB = colB zs zs.length ∧ c = 0 := by
  obtain ⟨rfl, rfl, rfl⟩ := h
  exact ⟨if_pos hc, if_pos hc, hc⟩

set_option maxHeartbeats 64000000 in
theorem law_Collocations (w : World) (v : Value) (n : Nat) (h : Bts w v n) :
    Calls Tryz.prog 4 #[v] w fun e w' => e = .returned (.bool true) ∧ Below w.heap.size w w' := by
  obtain ⟨A, c, rfl, hb⟩ := h
  have HBG := Lib.hid (l_big w A n c)
  by_cases h4 : 4096 < n
  · have hd : decide (4096 < n) = true := by simp [h4]
    rw [hd] at HBG
    clear hd h4 hb
    go_enter Tryz.func4, Tryz.ntmps4
    go_wp2_with (go_at_call 6; refine HBG.out.mono ?_; rintro e w0 ⟨rfl, rfl⟩)
    go_ret
    exact ⟨rfl, Below.refl _ _⟩
  · have hd : decide (4096 < n) = false := by simp [h4]
    rw [hd] at HBG
    have HDR := Lib.hid (s_DrawCollocationTableau w A n c hb (by omega))
    clear hd h4 hb
    go_enter Tryz.func4, Tryz.ntmps4
    go_upto_region 4 with (first
      | (go_at_call 6; refine HBG.out.mono ?_; rintro e w0 ⟨rfl, rfl⟩)
      | (go_at_call 20; go_loud (refine HDR.out.mono ?_; rintro e W0 ⟨x, rfl, zs, hz, hb1⟩; obtain ⟨Az, cz, rfl, hl1, hl2, -⟩ := hz.open_; have HI90 := Lib.hid hz; have HBW := Lib.hid hb1; clear hz hb1)))
    clear HBG HDR
    by_cases hnc : nodesC zs = 0
    case neg =>
      have HNC := Lib.hid hnc
      clear hnc
      have HC := Lib.hid (i_CollocationTableau W0 _ zs HI90.out)
      go_upto_region 5 with (go_at_call 21; go_loud (refine HC.out.mono ?_; rintro e w1 ⟨IA, IB, v, e1, rfl, hrep, ho, hb⟩; obtain ⟨h1, h2, h3⟩ := col_no HNC.out hrep; subst h1; subst h2; have HP := Lib.hid hrep; have HCN := Lib.hid h3; clear h3; obtain ⟨A1, a1, B1, b1, rfl⟩ := ho.open_; have HN := Lib.hid ho.arg; have HBn := Lib.hid hb; clear hrep ho hb))
      clear HC
      obtain ⟨q1, hq1⟩ : ∃ q1, q1 = w1.heap.size := ⟨_, rfl⟩
      obtain ⟨W1, hW1⟩ : ∃ W1, W1 = w1.alloc (.cells #[.slice A1 0 a1, .slice B1 0 b1] tTb) := ⟨_, rfl⟩
      have HBs := Lib.hid (show Below W0.heap.size W0 W1 from by rw [hW1]; exact HBn.out.trans ((below1 w1 _).mono HBn.out.size))
      have HI90 := Lib.hid (HI90.out.below HBs.out)
      have HBW := Lib.hid (HBW.out.trans (HBs.out.mono HBW.out.size))
      have HX1 := Lib.hid (show TabArg W1 (.agg #[.slice A1 0 a1, .slice B1 0 b1]) ([] : List (List Int)) ([] : List Int) from by rw [hW1]; exact HN.out.below (below1 _ _))
      have HK1 := Lib.hid (show Blk W1 q1 tTb #[.slice A1 0 a1, .slice B1 0 b1] from by rw [hW1, hq1]; exact Blk.new _ _ _)
      rw [← hW1, ← hq1]
      clear hW1 hq1 HN HBn HBs
      have HC := Lib.hid (s_CollocationTableau W1 _ zs HI90.out)
      go_upto_region 6 with (go_at_call 22; go_loud (refine HC.out.mono ?_; rintro e w2 ⟨IA, IB, v, e2, rfl, hrep, ho, hb⟩; obtain ⟨h1, h2, h3⟩ := HP.out.unique hrep; subst h1; subst h2; subst h3; obtain ⟨A2, a2, B2, b2, rfl⟩ := ho.open_; have HN := Lib.hid ho.arg; have HBn := Lib.hid hb; clear hrep ho hb))
      clear HC
      obtain ⟨q2, hq2⟩ : ∃ q2, q2 = w2.heap.size := ⟨_, rfl⟩
      obtain ⟨W2, hW2⟩ : ∃ W2, W2 = w2.alloc (.cells #[.slice A2 0 a2, .slice B2 0 b2] tTb) := ⟨_, rfl⟩
      have HBs := Lib.hid (show Below W1.heap.size W1 W2 from by rw [hW2]; exact HBn.out.trans ((below1 w2 _).mono HBn.out.size))
      have HX1 := Lib.hid (HX1.out.below HBs.out)
      have HK1 := Lib.hid (HK1.out.below HBs.out HK1.out.lt)
      have HI90 := Lib.hid (HI90.out.below HBs.out)
      have HBW := Lib.hid (HBW.out.trans (HBs.out.mono HBW.out.size))
      have HX2 := Lib.hid (show TabArg W2 (.agg #[.slice A2 0 a2, .slice B2 0 b2]) ([] : List (List Int)) ([] : List Int) from by rw [hW2]; exact HN.out.below (below1 _ _))
      have HK2 := Lib.hid (show Blk W2 q2 tTb #[.slice A2 0 a2, .slice B2 0 b2] from by rw [hW2, hq2]; exact Blk.new _ _ _)
      rw [← hW2, ← hq2]
      clear hW2 hq2 HN HBn HBs
      have hcc : (e1 != e1) = false := by simp
      have hcn := HCN.out
      have c1a : W2.cell? ⟨q1, 0, none⟩ = some (.slice A1 0 a1) := HK1.out.cell 0
      have c1b : W2.cell? ⟨q1, 1, none⟩ = some (.slice B1 0 b1) := HK1.out.cell 1
      go_wp2_with fail
      go_ret
      exact ⟨rfl, HBW.out⟩
    have HCK := Lib.hid (cok_of hnc)
    have HNC := Lib.hid hnc
    clear hnc
    have HC := Lib.hid (i_CollocationTableau W0 _ zs HI90.out)
    go_upto_region 5 with (go_at_call 21; go_loud (refine HC.out.mono ?_; rintro e w1 ⟨IA, IB, v, e1, rfl, hrep, ho, hb⟩; obtain ⟨h1, h2, h3⟩ := col_ok HNC.out hrep; subst h1; subst h2; subst h3; obtain ⟨A1, a1, B1, b1, rfl⟩ := ho.open_; have HN := Lib.hid ho.arg; have HBn := Lib.hid hb; clear hrep ho hb))
    clear HC
    obtain ⟨q1, hq1⟩ : ∃ q1, q1 = w1.heap.size := ⟨_, rfl⟩
    obtain ⟨W1, hW1⟩ : ∃ W1, W1 = w1.alloc (.cells #[.slice A1 (colA zs zs.length).length a1, .slice B1 (colB zs zs.length).length b1] tTb) := ⟨_, rfl⟩
    have HBs := Lib.hid (show Below W0.heap.size W0 W1 from by rw [hW1]; exact HBn.out.trans ((below1 w1 _).mono HBn.out.size))
    have HI90 := Lib.hid (HI90.out.below HBs.out)
    have HBW := Lib.hid (HBW.out.trans (HBs.out.mono HBW.out.size))
    have HX1 := Lib.hid (show TabArg W1 (.agg #[.slice A1 (colA zs zs.length).length a1, .slice B1 (colB zs zs.length).length b1]) (colA zs zs.length) (colB zs zs.length) from by rw [hW1]; exact HN.out.below (below1 _ _))
    have HK1 := Lib.hid (show Blk W1 q1 tTb #[.slice A1 (colA zs zs.length).length a1, .slice B1 (colB zs zs.length).length b1] from by rw [hW1, hq1]; exact Blk.new _ _ _)
    rw [← hW1, ← hq1]
    clear hW1 hq1 HN HBn HBs
    have HC := Lib.hid (s_CollocationTableau W1 _ zs HI90.out)
    go_upto_region 6 with (go_at_call 22; go_loud (refine HC.out.mono ?_; rintro e w2 ⟨IA, IB, v, e2, rfl, hrep, ho, hb⟩; obtain ⟨h1, h2, h3⟩ := col_ok HNC.out hrep; subst h1; subst h2; subst h3; obtain ⟨A2, a2, B2, b2, rfl⟩ := ho.open_; have HN := Lib.hid ho.arg; have HBn := Lib.hid hb; clear hrep ho hb))
    clear HC
    obtain ⟨q2, hq2⟩ : ∃ q2, q2 = w2.heap.size := ⟨_, rfl⟩
    obtain ⟨W2, hW2⟩ : ∃ W2, W2 = w2.alloc (.cells #[.slice A2 (colA zs zs.length).length a2, .slice B2 (colB zs zs.length).length b2] tTb) := ⟨_, rfl⟩
    have HBs := Lib.hid (show Below W1.heap.size W1 W2 from by rw [hW2]; exact HBn.out.trans ((below1 w2 _).mono HBn.out.size))
    have HX1 := Lib.hid (HX1.out.below HBs.out)
    have HK1 := Lib.hid (HK1.out.below HBs.out HK1.out.lt)
    have HI90 := Lib.hid (HI90.out.below HBs.out)
    have HBW := Lib.hid (HBW.out.trans (HBs.out.mono HBW.out.size))
    have HX2 := Lib.hid (show TabArg W2 (.agg #[.slice A2 (colA zs zs.length).length a2, .slice B2 (colB zs zs.length).length b2]) (colA zs zs.length) (colB zs zs.length) from by rw [hW2]; exact HN.out.below (below1 _ _))
    have HK2 := Lib.hid (show Blk W2 q2 tTb #[.slice A2 (colA zs zs.length).length a2, .slice B2 (colB zs zs.length).length b2] from by rw [hW2, hq2]; exact Blk.new _ _ _)
    rw [← hW2, ← hq2]
    clear hW2 hq2 HN HBn HBs
    go_upto_region 11 with fail
    have HC := Lib.hid (i_NodesOf0 W2 _ (colA zs zs.length) (colB zs zs.length) HX1.out HCK.out.tab)
    rw [HCK.out.nodes] at HC
    have c1a : W2.cell? ⟨q1, 0, none⟩ = some (.slice A1 (colA zs zs.length).length a1) := HK1.out.cell 0
    have c1b : W2.cell? ⟨q1, 1, none⟩ = some (.slice B1 (colB zs zs.length).length b1) := HK1.out.cell 1
    go_upto_region 12 with (go_at_call 23; go_loud (refine HC.out.mono ?_; rintro e w3 ⟨x, rfl, ho, hb⟩; have hz := ho.ints; obtain ⟨A3, a3, hAe, -, -, -⟩ := hz.open_; subst hAe; have HN := Lib.hid hz; have HBs := Lib.hid hb; clear hz ho hb))
    clear HC
    clear c1a c1b
    have HX1 := Lib.hid (HX1.out.below HBs.out)
    have HK1 := Lib.hid (HK1.out.below HBs.out HK1.out.lt)
    have HI90 := Lib.hid (HI90.out.below HBs.out)
    have HBW := Lib.hid (HBW.out.trans (HBs.out.mono HBW.out.size))
    have HI3 := HN
    clear HN HBs
    obtain ⟨p0, hp0⟩ : ∃ p : Nat, p = oM (colA zs zs.length) (colB zs zs.length) 0 := ⟨_, rfl⟩
    obtain ⟨q0, hq0⟩ : ∃ q : Nat, q = oM (colA zs zs.length) (colB zs zs.length) 1 := ⟨_, rfl⟩
    obtain ⟨od, hod⟩ : ∃ o : Int, o = agZ (chT (colA zs zs.length) (colB zs zs.length)) EX := ⟨_, rfl⟩
    have HPQ := Lib.hid (show oMR (colA zs zs.length) (colB zs zs.length) 0 = (p0 : Int) ∧ oMR (colA zs zs.length) (colB zs zs.length) 1 = (q0 : Int) ∧ ordR (colA zs zs.length) (colB zs zs.length) = od from ⟨by unfold oMR; rw [if_pos HCK.out.tab, hp0], by unfold oMR; rw [if_pos HCK.out.tab, hq0], by unfold ordR; rw [if_pos HCK.out.tab, hod]⟩)
    have HEQ := Lib.hid (And.intro hp0 (And.intro hq0 hod))
    clear hp0 hq0 hod
    have HC := Lib.hid (i_QuadratureOrder w3 _ (colA zs zs.length) (colB zs zs.length) HX1.out)
    rw [HPQ.out.1, show tabC (colA zs zs.length) (colB zs zs.length) = 0 from by simp [tabC, HCK.out.tab]] at HC
    have c1a : w3.cell? ⟨q1, 0, none⟩ = some (.slice A1 (colA zs zs.length).length a1) := HK1.out.cell 0
    have c1b : w3.cell? ⟨q1, 1, none⟩ = some (.slice B1 (colB zs zs.length).length b1) := HK1.out.cell 1
    go_upto_region 13 with (go_at_call 24; go_loud (refine HC.out.mono ?_; rintro e w4 ⟨rfl, hb⟩; have HBs := Lib.hid (hb); clear hb))
    clear HC
    clear c1a c1b
    have HX1 := Lib.hid (HX1.out.below HBs.out)
    have HK1 := Lib.hid (HK1.out.below HBs.out HK1.out.lt)
    have HI90 := Lib.hid (HI90.out.below HBs.out)
    have HI3 := Lib.hid (HI3.out.below HBs.out)
    have HBW := Lib.hid (HBW.out.trans (HBs.out.mono HBW.out.size))
    clear HBs
    have HC := Lib.hid (i_StageOrderOf w4 _ (colA zs zs.length) (colB zs zs.length) HX1.out)
    rw [HPQ.out.2.1, show tabC (colA zs zs.length) (colB zs zs.length) = 0 from by simp [tabC, HCK.out.tab]] at HC
    have c1a : w4.cell? ⟨q1, 0, none⟩ = some (.slice A1 (colA zs zs.length).length a1) := HK1.out.cell 0
    have c1b : w4.cell? ⟨q1, 1, none⟩ = some (.slice B1 (colB zs zs.length).length b1) := HK1.out.cell 1
    go_upto_region 14 with (go_at_call 25; go_loud (refine HC.out.mono ?_; rintro e w5 ⟨rfl, hb⟩; have HBs := Lib.hid (hb); clear hb))
    clear HC
    clear c1a c1b
    have HX1 := Lib.hid (HX1.out.below HBs.out)
    have HK1 := Lib.hid (HK1.out.below HBs.out HK1.out.lt)
    have HI90 := Lib.hid (HI90.out.below HBs.out)
    have HI3 := Lib.hid (HI3.out.below HBs.out)
    have HBW := Lib.hid (HBW.out.trans (HBs.out.mono HBW.out.size))
    clear HBs
    have HC := Lib.hid (i_OrthogonalTo0 w5 _ zs HI90.out HNC.out)
    go_upto_region 15 with (go_at_call 26; go_loud (refine HC.out.mono ?_; rintro e w6 ⟨m, rfl, hm, hb⟩; have HM := Lib.hid hm; clear hm; have HBs := Lib.hid (hb); clear hb))
    clear HC
    have HX1 := Lib.hid (HX1.out.below HBs.out)
    have HK1 := Lib.hid (HK1.out.below HBs.out HK1.out.lt)
    have HI90 := Lib.hid (HI90.out.below HBs.out)
    have HI3 := Lib.hid (HI3.out.below HBs.out)
    have HBW := Lib.hid (HBW.out.trans (HBs.out.mono HBW.out.size))
    clear HBs
    have HC := Lib.hid (i_OrderOf w6 _ (colA zs zs.length) (colB zs zs.length) HX1.out)
    rw [HPQ.out.2.2, show tabC (colA zs zs.length) (colB zs zs.length) = 0 from by simp [tabC, HCK.out.tab]] at HC
    have c1a : w6.cell? ⟨q1, 0, none⟩ = some (.slice A1 (colA zs zs.length).length a1) := HK1.out.cell 0
    have c1b : w6.cell? ⟨q1, 1, none⟩ = some (.slice B1 (colB zs zs.length).length b1) := HK1.out.cell 1
    go_upto_region 16 with (go_at_call 27; go_loud (refine HC.out.mono ?_; rintro e w7 ⟨rfl, hb⟩; have HBs := Lib.hid (hb); clear hb))
    clear HC
    clear c1a c1b
    have HX1 := Lib.hid (HX1.out.below HBs.out)
    have HK1 := Lib.hid (HK1.out.below HBs.out HK1.out.lt)
    have HI90 := Lib.hid (HI90.out.below HBs.out)
    have HI3 := Lib.hid (HI3.out.below HBs.out)
    have HBW := Lib.hid (HBW.out.trans (HBs.out.mono HBW.out.size))
    clear HBs
    have HC := Lib.hid (i_IsCollocation w7 _ (colA zs zs.length) (colB zs zs.length) HX1.out)
    rw [HCK.out.isCol, show isColC (colA zs zs.length) (colB zs zs.length) = 0 from by simp [isColC, HCK.out.tab]] at HC
    have c1a : w7.cell? ⟨q1, 0, none⟩ = some (.slice A1 (colA zs zs.length).length a1) := HK1.out.cell 0
    have c1b : w7.cell? ⟨q1, 1, none⟩ = some (.slice B1 (colB zs zs.length).length b1) := HK1.out.cell 1
    go_upto_region 17 with (go_at_call 28; go_loud (refine HC.out.mono ?_; rintro e w8 ⟨rfl, hb⟩; have HBs := Lib.hid (hb); clear hb))
    clear HC
    clear c1a c1b
    have HX1 := Lib.hid (HX1.out.below HBs.out)
    have HK1 := Lib.hid (HK1.out.below HBs.out HK1.out.lt)
    have HI90 := Lib.hid (HI90.out.below HBs.out)
    have HI3 := Lib.hid (HI3.out.below HBs.out)
    have HBW := Lib.hid (HBW.out.trans (HBs.out.mono HBW.out.size))
    clear HBs
    have HC := Lib.hid (i_NodePolynomial0 w8 _ zs HI90.out HNC.out)
    go_upto_region 18 with (go_at_call 29; go_loud (refine HC.out.mono ?_; rintro e w9 ⟨x, rfl, ho, hb⟩; have hz := ho.ints; obtain ⟨A9, a9, hAe, -, -, -⟩ := hz.open_; rw [ndP_len] at hAe; subst hAe; have HN := Lib.hid hz; have HBs := Lib.hid hb; clear hz ho hb))
    clear HC
    have HX1 := Lib.hid (HX1.out.below HBs.out)
    have HK1 := Lib.hid (HK1.out.below HBs.out HK1.out.lt)
    have HI90 := Lib.hid (HI90.out.below HBs.out)
    have HI3 := Lib.hid (HI3.out.below HBs.out)
    have HBW := Lib.hid (HBW.out.trans (HBs.out.mono HBW.out.size))
    have HI9 := HN
    clear HN HBs
    go_upto_region 20 with fail
    have hor := HCK.out.orders HM.out
    rw [← HEQ.out.1, ← HEQ.out.2.1, ← HEQ.out.2.2] at hor
    obtain ⟨ho1, ho2, ho3⟩ := hor
    have hm8 := HM.out.1
    have hl8 := HCK.out.l8
    have hlp := HCK.out.l1
    subst ho1
    clear HEQ HPQ
    have ⟨ap, hap, hpc⟩ : ∃ ap, A9 = some ap ∧ ∀ k z, (ndP zs zs.length)[k]? = some z → w9.cell? (ap.add k) = some (.int .i64 z) := by
      obtain ⟨ap, n', c', e, -⟩ := HI9.out.1.at_ (ints_get (show (ndP zs zs.length)[0]? = some ((ndP zs zs.length)[0]'(by rw [ndP_len]; omega)) from List.getElem?_eq_getElem _))
      simp only [Value.slice.injEq] at e
      refine ⟨ap, e.1, fun k z hz => ?_⟩
      obtain ⟨ap', n', c', e', hc⟩ := HI9.out.1.at_ (ints_get hz)
      simp only [Value.slice.injEq] at e'
      have := e.1.symm.trans e'.1
      simp only [Option.some.injEq] at this
      rw [this]; exact hc
    subst hap
    have HPC := Lib.hid hpc
    clear hpc
    have htop : (ndP zs zs.length)[zs.length]? = some 1 := by
      have h := ndP_top zs zs.length
      have hl := ndP_len zs zs.length
      rw [List.getD_eq_getElem?_getD, List.getElem?_eq_getElem (by omega)] at h
      rw [List.getElem?_eq_getElem (by omega)]
      exact congrArg some h
    have hct := HPC.out _ _ htop
    clear htop
    obtain ⟨mi, hmi⟩ : ∃ mi, mi = min (zs.length + m) 6 := ⟨_, rfl⟩
    have HMI := fun X ts t => run_min6 (P := Tryz.prog) (zs.length + m) mi hmi X ts t
    have HMI2 := fun X ts t => by have h := HMI X ts t; rw [show ((zs.length + m : Nat) : Int) = (zs.length : Int) + (m : Int) from by omega] at h; exact h
    rw [← hmi] at ho3
    subst ho3
    have hd1 : decide ((q0 : Int) < (zs.length : Int)) = false := decide_eq_false (by omega)
    have hd2 : decide (q0 < zs.length) = false := decide_eq_false (by omega)
    have HLK := Lib.hid (fun (Y : World) (hY : Below w9.heap.size w9 Y) => l_likeInts Y _ _ zs zs (HI3.out.below hY) (HI90.out.below hY))
    rw [show decide (zs = zs) = true from decide_eq_true rfl] at HLK
    clear hmi ho2
    go_upto_region 22 with (go_at_call 30; go_loud (refine (HLK.out _ (Below.refl _ _)).mono ?_; rintro e w' ⟨rfl, n10, rfl⟩))
    clear HMI HMI2 hd1 hd2 hct HLK
    obtain ⟨w10, hw10⟩ : ∃ x, x = w9.drewN n10 := ⟨_, rfl⟩
    have HBs := Lib.hid (show Below w9.heap.size w9 w10 from by rw [hw10]; exact below_drewN (Below.refl _ _) _)
    have HPC := Lib.hid (show ∀ k z, (ndP zs zs.length)[k]? = some z → w10.cell? (ap.add k) = some (.int .i64 z) from by rw [hw10]; exact HPC.out)
    rw [← hw10]
    clear hw10
    have HX1 := Lib.hid (HX1.out.below HBs.out)
    have HK1 := Lib.hid (HK1.out.below HBs.out HK1.out.lt)
    have HI90 := Lib.hid (HI90.out.below HBs.out)
    have HBW := Lib.hid (HBW.out.trans (HBs.out.mono HBW.out.size))
    clear HBs
    obtain ⟨an, _, hne, -, -, hncs⟩ := HI90.out.open_
    simp only [Value.slice.injEq, true_and] at hne
    obtain ⟨rfl, rfl⟩ := hne
    have HNS := Lib.hid hncs
    clear hncs
    have OL := Lib.hid (own_lit w10 tI [] (by simp [maxLen]))
    go_upto_region 24 with fail
    go_loopw [23, 24] (fun o i wr => ∃ j : Nat, j ≤ zs.length ∧ i = .int .i64 j ∧ OwnInts wr w10.heap.size tI o ((mirZ zs).take j) ∧ Below w10.heap.size w10 wr) (fun _ i _ => zs.length - (intOf i).toNat)
    case atStart => exact ⟨0, Nat.zero_le _, rfl, ⟨by simpa [ints] using OL.out, by simp⟩, below1 _ _⟩
    case round =>
      obtain ⟨j, hj, rfl, ho, hb⟩ := hrel
      rename World => wq
      clear OL
      have HO := Lib.hid ho
      have HB := Lib.hid hb
      clear ho hb
      by_cases hlt : j < zs.length
      · obtain ⟨ad, z, hae, hz, -, hcz0⟩ := HNS.out j hlt
        subst hae
        have hzn := HCK.out.dn.num z (List.mem_of_getElem? hz)
        have hcz : wq.cell? (ad.add j) = some (.int .i64 z) := by
          rw [HB.out.cell (by rw [block_add]; have := World.block_lt_of_cell? _ _ hcz0; rwa [block_add] at this)]; exact hcz0
        have HMT := Lib.hid (mirZ_take hz)
        have HH0 := Lib.hid (show horn z (ndP zs zs.length) = 0 from by have h := HCK.out.horn hlt; rwa [show zs.getD j 0 = z from by simp [List.getD, hz]] at h)
        have HPQ := Lib.hid (show ∀ k y, (ndP zs zs.length)[k]? = some y → wq.cell? (ap.add k) = some (.int .i64 y) from fun k y hk => by
          have h0 := HPC.out k y hk
          rw [HB.out.cell (by rw [block_add]; have := World.block_lt_of_cell? _ _ h0; rwa [block_add] at this)]; exact h0)
        have HPL := Lib.hid (And.intro (ndP_len zs zs.length) (ndP_nums zs zs.length))
        have hji : (j : Int) < (zs.length : Int) := by omega
        clear hz hcz0
        generalize ndP zs zs.length = P at HH0 HPQ HPL
        go_upto_region 28 with fail
        obtain ⟨wo, hwo⟩ : ∃ wo : World, wo = wq := ⟨_, rfl⟩
        rw [← hwo] at HPQ hcz HO HB ⊢
        clear hwo
        go_loopw [25, 26] (fun va k wr => ∃ (t nd : Nat), t ≤ zs.length + 1 ∧ k = .int .i64 ((t : Int) - 1) ∧ va = .int .i64 (horn z (P.drop t)) ∧ wr = wo.drewN nd) (fun _ k _ => (intOf k + 1).toNat)
        case atStart => exact ⟨zs.length + 1, 0, Nat.le_refl _, by congr 1; omega, by rw [List.drop_of_length_le (by rw [HPL.out.1]; exact Nat.le_refl _)]; rfl, rfl⟩
        case round =>
          obtain ⟨t, nd, ht, hk, rfl, rfl⟩ := hrel
          cases t with
          | zero =>
            rw [show (((0 : Nat) : Int) - 1) = -1 from rfl] at hk
            subst hk
            rw [List.drop_zero, HH0.out]
            have OX := Lib.hid (show OwnInts (wo.drewN nd) w10.heap.size tI _ ((mirZ zs).take j) from HO.out)
            have HBX := Lib.hid (below_drewN HB.out nd)
            have hczx : (wo.drewN nd).cell? (ad.add j) = some (.int .i64 z) := hcz
            have HM9 := Lib.hid (fun Y => l_mod9w Y (1 - z) (by omega) (by omega))
            have hw1 : wrap64 (1 - z) = 1 - z := w64_in' _ (by omega)
            have hlj : ((mirZ zs).take j).length ≤ 10 := by rw [List.length_take, mirZ_len]; have := HCK.out.l8; omega
            have HLJ := Lib.hid hlj
            obtain ⟨wz, hwz⟩ : ∃ wz, wz = wo.drewN nd := ⟨_, rfl⟩
            rw [← hwz] at OX HBX hczx ⊢
            clear hwz hcz hlj
            go_wp2_with (first
              | (go_at_call 31; refine (HM9.out _).mono ?_; rintro e w4 ⟨rfl, rfl⟩)
              | (at_builtin; go_loud (refine wpList_app1 T_int OX.out.1 (by rw [ints_len]; have := HLJ.out; omega) HBX.out.size (by rfl) rfl (by rfl) (by rfl) (by rfl) ?_; intro v3 w3 hown3 hgr3; have HN3 := Lib.hid hown3; have HB3 := Lib.hid (hgr3.below HBX.out HBX.out.size OX.out.1.ge); clear hown3 hgr3)))
            go_roundw
            case rel =>
              refine ⟨j + 1, by omega, by go_num, ?_, HB3.out⟩
              rw [HMT.out]
              refine ⟨by simpa [ints] using HN3.out, fun y hy => ?_⟩
              rcases List.mem_append.1 hy with hy | hy
              · exact OX.out.2 y hy
              · simp at hy; subst hy; unfold In64; omega
            case measure => simp [intOf]; omega
          | succ t =>
            rw [show (((t + 1 : Nat) : Int) - 1) = (t : Int) from by omega] at hk
            subst hk
            obtain ⟨a, ha⟩ : ∃ a, P[t]? = some a := ⟨_, List.getElem?_eq_getElem (by rw [HPL.out.1]; omega)⟩
            have han := HPL.out.2 a (List.mem_of_getElem? ha)
            have HHS := Lib.hid (horn_step z P ha)
            have hhb := horn_bd z (P.drop (t + 1))
            have hca : wo.cell? (ap.add t) = some (.int .i64 a) := HPQ.out t a ha
            generalize horn z (P.drop (t + 1)) = hv at HHS hhb ⊢
            clear ha
            have htl : (t : Int) < (zs.length : Int) + 1 := by omega
            have htn : t < zs.length + 1 := by omega
            obtain ⟨u1, u2⟩ := mul_bd 10006 10006 hhb.1 hhb.2 hzn.1 hzn.2
            have HM9 := Lib.hid (fun Y => l_mod9w Y (hv * z + a) (by omega) (by omega))
            have w1' : IntKind.i64.wrap (hv * z) = hv * z := IntWalk.i64_in _ (by omega)
            have w2' : IntKind.i64.wrap (hv * z + a) = hv * z + a := IntWalk.i64_in _ (by omega)
            clear u1 u2 hhb han
            go_wp2_with fail
            go_quiet ((go_at_call 31; first | exact quiet_same (HM9.out _) | exact quiet_same0 (HM9.out _)))
            clear w1' w2' hca
            go_wp2_with fail
            go_roundw
            case rel => refine ⟨t, nd + nq, Nat.le_of_lt htn, rfl, congrArg (Value.int .i64) HHS.out.symm, rfl⟩
            case measure => simp [intOf]
      · have hjl : j = zs.length := by omega
        subst hjl
        rw [List.take_of_length_le (by rw [mirZ_len]; exact Nat.le_refl _)] at HO
        have HI91 := Lib.hid HO.out.ints
        obtain ⟨Am, cm, hme, -, -, -⟩ := HI91.out.open_
        rw [mirZ_len] at hme
        subst hme
        clear HO HNS HPC
        have HBs := Lib.hid HB.out
        have HCM := Lib.hid HCK.out.mir
        have HNM := Lib.hid (nodes_of HCM.out.dn HCM.out.l1 HCM.out.l8)
        clear HB
        have HX1 := Lib.hid (HX1.out.below HBs.out)
        have HK1 := Lib.hid (HK1.out.below HBs.out HK1.out.lt)
        have HBW := Lib.hid (HBW.out.trans (HBs.out.mono HBW.out.size))
        clear HBs
        have HC := Lib.hid (i_CollocationTableau wq _ (mirZ zs) HI91.out)
        go_upto_region 35 with (go_at_call 21; go_loud (refine HC.out.mono ?_; rintro e w11 ⟨IA, IB, v, e11, rfl, hrep, ho, hb⟩; obtain ⟨h1, h2, h3⟩ := col_ok HNM.out hrep; subst h1; subst h2; subst h3; obtain ⟨A11, a11, B11, b11, rfl⟩ := ho.open_; have HN := Lib.hid ho.arg; have HBn := Lib.hid hb; clear hrep ho hb))
        clear HC
        obtain ⟨q11, hq11⟩ : ∃ q11, q11 = w11.heap.size := ⟨_, rfl⟩
        obtain ⟨W11, hW11⟩ : ∃ W11, W11 = w11.alloc (.cells #[.slice A11 (colA (mirZ zs) (mirZ zs).length).length a11, .slice B11 (colB (mirZ zs) (mirZ zs).length).length b11] tTb) := ⟨_, rfl⟩
        have HBs := Lib.hid (show Below wq.heap.size wq W11 from by rw [hW11]; exact HBn.out.trans ((below1 w11 _).mono HBn.out.size))
        have HX1 := Lib.hid (HX1.out.below HBs.out)
        have HK1 := Lib.hid (HK1.out.below HBs.out HK1.out.lt)
        have HI91 := Lib.hid (HI91.out.below HBs.out)
        have HBW := Lib.hid (HBW.out.trans (HBs.out.mono HBW.out.size))
        have HX11 := Lib.hid (show TabArg W11 (.agg #[.slice A11 (colA (mirZ zs) (mirZ zs).length).length a11, .slice B11 (colB (mirZ zs) (mirZ zs).length).length b11]) (colA (mirZ zs) (mirZ zs).length) (colB (mirZ zs) (mirZ zs).length) from by rw [hW11]; exact HN.out.below (below1 _ _))
        have HK11 := Lib.hid (show Blk W11 q11 tTb #[.slice A11 (colA (mirZ zs) (mirZ zs).length).length a11, .slice B11 (colB (mirZ zs) (mirZ zs).length).length b11] from by rw [hW11, hq11]; exact Blk.new _ _ _)
        rw [← hW11, ← hq11]
        clear hW11 hq11 HN HBn HBs
        have HC := Lib.hid (i_AdjointTableau W11 _ (colA zs zs.length) (colB zs zs.length) HX1.out)
        have c1a : W11.cell? ⟨q1, 0, none⟩ = some (.slice A1 (colA zs zs.length).length a1) := HK1.out.cell 0
        have c1b : W11.cell? ⟨q1, 1, none⟩ = some (.slice B1 (colB zs zs.length).length b1) := HK1.out.cell 1
        go_upto_region 36 with (go_at_call 32; go_loud (refine HC.out.mono ?_; rintro e w12 ⟨IA, IB, v, e12, rfl, hrep, ho, hb⟩; obtain ⟨h1, h2, rfl⟩ := isAdj_ok HCK.out.tab hrep; subst h1; subst h2; obtain ⟨A12, a12, B12, b12, rfl⟩ := ho.open_; have HN := Lib.hid ho.arg; have HBn := Lib.hid hb; clear hrep ho hb))
        clear HC
        clear c1a c1b
        obtain ⟨q12, hq12⟩ : ∃ q12, q12 = w12.heap.size := ⟨_, rfl⟩
        obtain ⟨W12, hW12⟩ : ∃ W12, W12 = w12.alloc (.cells #[.slice A12 (adA (colA zs zs.length) (colB zs zs.length)).length a12, .slice B12 (adB (colB zs zs.length)).length b12] tTb) := ⟨_, rfl⟩
        have HBs := Lib.hid (show Below W11.heap.size W11 W12 from by rw [hW12]; exact HBn.out.trans ((below1 w12 _).mono HBn.out.size))
        have HX1 := Lib.hid (HX1.out.below HBs.out)
        have HK1 := Lib.hid (HK1.out.below HBs.out HK1.out.lt)
        have HX11 := Lib.hid (HX11.out.below HBs.out)
        have HK11 := Lib.hid (HK11.out.below HBs.out HK11.out.lt)
        have HBW := Lib.hid (HBW.out.trans (HBs.out.mono HBW.out.size))
        have HX12 := Lib.hid (show TabArg W12 (.agg #[.slice A12 (adA (colA zs zs.length) (colB zs zs.length)).length a12, .slice B12 (adB (colB zs zs.length)).length b12]) (adA (colA zs zs.length) (colB zs zs.length)) (adB (colB zs zs.length)) from by rw [hW12]; exact HN.out.below (below1 _ _))
        have HK12 := Lib.hid (show Blk W12 q12 tTb #[.slice A12 (adA (colA zs zs.length) (colB zs zs.length)).length a12, .slice B12 (adB (colB zs zs.length)).length b12] from by rw [hW12, hq12]; exact Blk.new _ _ _)
        rw [← hW12, ← hq12]
        clear hW12 hq12 HN HBn HBs
        have HAD := Lib.hid (adj_ok HCK.out.tab).1
        have HC := Lib.hid (i_CharacterOf0 W12 _ (colA (mirZ zs) (mirZ zs).length) (colB (mirZ zs) (mirZ zs).length) HX11.out HCM.out.tab)
        have c11a : W12.cell? ⟨q11, 0, none⟩ = some (.slice A11 (colA (mirZ zs) (mirZ zs).length).length a11) := HK11.out.cell 0
        have c11b : W12.cell? ⟨q11, 1, none⟩ = some (.slice B11 (colB (mirZ zs) (mirZ zs).length).length b11) := HK11.out.cell 1
        go_upto_region 37 with (go_at_call 33; go_loud (refine HC.out.mono ?_; rintro e w13 ⟨x, rfl, ho, hb⟩; have hz := ho.ints; obtain ⟨A13, a13, hAe, -, -, -⟩ := hz.open_; rw [chT_len] at hAe; subst hAe; have HN := Lib.hid hz; have HBs := Lib.hid hb; clear hz ho hb))
        clear HC
        clear c11a c11b
        have HX11 := Lib.hid (HX11.out.below HBs.out)
        have HK11 := Lib.hid (HK11.out.below HBs.out HK11.out.lt)
        have HX12 := Lib.hid (HX12.out.below HBs.out)
        have HK12 := Lib.hid (HK12.out.below HBs.out HK12.out.lt)
        have HBW := Lib.hid (HBW.out.trans (HBs.out.mono HBW.out.size))
        have HI13 := HN
        clear HN HBs
        have HC := Lib.hid (i_CharacterOf0 w13 _ (adA (colA zs zs.length) (colB zs zs.length)) (adB (colB zs zs.length)) HX12.out HAD.out)
        have c12a : w13.cell? ⟨q12, 0, none⟩ = some (.slice A12 (adA (colA zs zs.length) (colB zs zs.length)).length a12) := HK12.out.cell 0
        have c12b : w13.cell? ⟨q12, 1, none⟩ = some (.slice B12 (adB (colB zs zs.length)).length b12) := HK12.out.cell 1
        go_upto_region 38 with (go_at_call 33; go_loud (refine HC.out.mono ?_; rintro e w14 ⟨x, rfl, ho, hb⟩; have hz := ho.ints; obtain ⟨A14, a14, hAe, -, -, -⟩ := hz.open_; rw [chT_len] at hAe; subst hAe; have HN := Lib.hid hz; have HBs := Lib.hid hb; clear hz ho hb))
        clear HC
        clear c12a c12b
        have HX12 := Lib.hid (HX12.out.below HBs.out)
        have HK12 := Lib.hid (HK12.out.below HBs.out HK12.out.lt)
        have HI13 := Lib.hid (HI13.out.below HBs.out)
        have HBW := Lib.hid (HBW.out.trans (HBs.out.mono HBW.out.size))
        have HI14 := HN
        clear HN HBs
        have HWH := Lib.hid (l_whole9 w14 _ _ HI13.out)
        rw [show decide ((chT (colA (mirZ zs) (mirZ zs).length) (colB (mirZ zs) (mirZ zs).length)).length = 38) = true from decide_eq_true (chT_len _ _)] at HWH
        have HLK := Lib.hid (l_likeInts w14 _ _ _ _ HI13.out HI14.out)
        rw [show decide (chT (colA (mirZ zs) (mirZ zs).length) (colB (mirZ zs) (mirZ zs).length) = chT (adA (colA zs zs.length) (colB zs zs.length)) (adB (colB zs zs.length))) = true from decide_eq_true (mir_ch HCK.out.dn HCK.out.l8)] at HLK
        go_wp2_with (first
          | (go_at_call 34; refine HWH.out.mono ?_; rintro e w' ⟨rfl, rfl⟩)
          | (go_at_call 30; go_loud (refine HLK.out.mono ?_; rintro e w' ⟨rfl, n1, rfl⟩)))
        go_ret
        exact ⟨rfl, below_drewN HBW.out _⟩
end Go.Proofs.YtofabikjjkapmaaGreat

set_option maxRecDepth 100000
set_option linter.unusedVariables false
set_option linter.unusedSimpArgs false
namespace Go.Proofs.YtofabikjjkapmaaGreat
open Go.ChangeShapes Go.WideShapes Go.ChangeAt Go.RowKit

end Go.Proofs.YtofabikjjkapmaaGreat

set_option maxRecDepth 100000
set_option linter.unusedVariables false
set_option linter.unusedSimpArgs false
namespace Go.Proofs.YtofabikjjkapmaaGreat
open Go.ChangeShapes Go.WideShapes Go.ChangeAt Go.RowKit

theorem u8_of_wf {z : Int} (h : (Lit.int .u8 z).wf = true) : 0 ≤ z ∧ z ≤ 255 := by
  simp [Lit.wf, IntKind.min, IntKind.max, IntKind.signed, IntKind.bits] at h
  omega
theorem open_bytes {H : Type} {enc : TypeId × Value → H} {W : World} {base : Nat} {v : Value} {d : DataW H} {p : List MemPlace}
    (hv : Value.okWide Tryz.prog W .any base 22 v) (h : DataW.Trod enc Tryz.prog W 0 (fun _ => true) true 22 v d p) : ∃ n, Bts W v n := by
  obtain ⟨a, len, cap, rfl⟩ := okWide_slice Tryz.underlying22 hv
  obtain ⟨fuel, hf⟩ := h
  rcases open_ints Tryz.underlying22 Tryz.underlying5 (by kernel_rfl) hf with ⟨hcs, _⟩ | ⟨x, l, c, zs, hcs, _, hl, hm, hz, _, hcell, hwz⟩
  · simp [Value.cells] at hcs
    obtain ⟨rfl, rfl, rfl⟩ := hcs
    exact ⟨0, none, 0, rfl, fun k hk => by omega⟩
  · simp [Value.cells] at hcs
    obtain ⟨rfl, rfl, rfl⟩ := hcs
    have hz' : zs.length = cap := by simpa using hz
    refine ⟨len, some x, cap, rfl, fun k hk => ?_⟩
    have hk2 : k < zs.length := by omega
    have hc := hcell k (by omega)
    have hw := u8_of_wf (hwz _ (List.getElem_mem hk2))
    have e : zs.getD k 0 = zs[k] := by simp [List.getD, hk2]
    rw [e] at hc
    have hb := World.block_lt_of_cell? W _ hc
    rw [block_add] at hb
    exact ⟨x, zs[k], rfl, hb, hb, hw.1, hw.2, hc⟩
end Go.Proofs.YtofabikjjkapmaaGreat

