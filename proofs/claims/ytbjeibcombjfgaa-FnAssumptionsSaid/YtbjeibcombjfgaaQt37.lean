/- The law FnAssumptions, walked. Printed by lasgen.py. -/
import Derived.Test.YtbjeibcombjfgaaQt35
import Derived.Test.YtbjeibcombjfgaaQt36
import Derived.Test.YtbjeibcombjfgaaQt16
import Derived.Test.YtbjeibcombjfgaaQt19
set_option maxRecDepth 100000
set_option linter.unusedVariables false
set_option linter.unusedSimpArgs false
namespace Go.Proofs.Ytbjeibcombjfgaa
open Go.RowKit

theorem wrap_both {x : Int} (h : -9000000000000000000 ≤ x ∧ x ≤ 9000000000000000000) : wrap64 x = x ∧ IntKind.i64.wrap x = x := ⟨w64_in' _ (by omega), IntWalk.i64_in _ (by omega)⟩
theorem imp_le (p q r : Nat) : impO p q r ≤ p ∧ impO p q r ≤ 2 * q + 2 ∧ impO p q r ≤ q + r + 1 := by unfold impO; omega
def topA (p q r k : Nat) : Nat := if k = 0 then p else if k = 1 then q else r
theorem topN_at (p q r : Nat) {k : Nat} (hk : k < 3) : ([(p : Int), (q : Int), (r : Int)]).getD k 0 = ((topA p q r k : Nat) : Int) := by
  rcases (show k = 0 ∨ k = 1 ∨ k = 2 by omega) with rfl | rfl | rfl <;> rfl
theorem topN_oM (A : List (List Int)) (B : List Int) {k : Nat} (hk : k < 3) : oM A B (k : Int) = topA (oM A B 0) (oM A B 1) (oM A B 2) k := by
  rcases (show k = 0 ∨ k = 1 ∨ k = 2 by omega) with rfl | rfl | rfl <;> rfl
set_option maxHeartbeats 64000000 in
theorem law_Assumptions (w : World) (v : Value) (n : Nat) (h : Bts w v n) :
    Calls Try.prog 5 #[v] w fun e w' => e = .returned (.bool true) ∧ Below w.heap.size w w' := by
  obtain ⟨A, c, rfl, hb⟩ := h
  have HBG := Lib.hid (l_big w A n c)
  by_cases h4 : 4096 < n
  · have hd : decide (4096 < n) = true := by simp [h4]
    rw [hd] at HBG
    clear hd h4 hb
    go_enter Try.func5, Try.ntmps5
    go_wp2_with (go_at_call 12; refine HBG.out.mono ?_; rintro e w0 ⟨rfl, rfl⟩)
    go_ret
    exact ⟨rfl, Below.refl _ _⟩
  · have hd : decide (4096 < n) = false := by simp [h4]
    rw [hd] at HBG
    have HDR := Lib.hid (s_DrawImpliedOrder w A n c hb (by omega))
    clear hd h4 hb
    go_enter Try.func5, Try.ntmps5
    go_upto_region 4 with (first
      | (go_at_call 12; refine HBG.out.mono ?_; rintro e w0 ⟨rfl, rfl⟩)
      | (go_at_call 23; go_loud (refine HDR.out.mono ?_; rintro e w1 ⟨x, rfl, ⟨X, Bs, hx⟩, hb1⟩; obtain ⟨Aa, ca, Ab, cb, rfl⟩ := hx.open_; have HX1 := Lib.hid hx; have HB1 := Lib.hid hb1; clear hx hb1)))
    clear HBG HDR
    obtain ⟨qx, hqx⟩ : ∃ q, q = w1.heap.size := ⟨_, rfl⟩
    obtain ⟨W0, hW0⟩ : ∃ W0, W0 = w1.alloc (.cells #[.slice Aa X.length ca, .slice Ab Bs.length cb] tTb) := ⟨_, rfl⟩
    have HX80 := Lib.hid (show TabArg W0 (.agg #[.slice Aa X.length ca, .slice Ab Bs.length cb]) X Bs from by rw [hW0]; exact HX1.out.below (below1 _ _))
    have HBW := Lib.hid (show Below w.heap.size w W0 from by rw [hW0]; exact HB1.out.trans ((below1 w1 _).mono HB1.out.size))
    have HK80 := Lib.hid (show Blk W0 qx tTb #[.slice Aa X.length ca, .slice Ab Bs.length cb] from by rw [hW0, hqx]; exact Blk.new _ _ _)
    rw [← hW0, ← hqx]
    clear hW0 hqx HX1 HB1
    cases htx : tabB X Bs with
    | false =>
      have HT := Lib.hid (show (tabC X Bs = 1 ∧ impR X Bs = 0) ∧ ∀ k, oMR X Bs k = 0 from ⟨⟨by simp [tabC, htx], by simp [impR, htx]⟩, fun k => by simp [oMR, htx]⟩)
      clear htx
      have HC := Lib.hid (i_ImpliedOrder W0 _ X Bs HX80.out)
      simp only [HT.out.1.1, HT.out.1.2, HT.out.2] at HC
      have c80a : W0.cell? ⟨qx, 0, none⟩ = some (.slice Aa X.length ca) := HK80.out.cell 0
      have c80b : W0.cell? ⟨qx, 1, none⟩ = some (.slice Ab Bs.length cb) := HK80.out.cell 1
      go_upto_region 5 with (go_at_call 24; go_loud (refine HC.out.mono ?_; rintro e w1 ⟨rfl, hb⟩; have HBs := Lib.hid (hb); clear hb))
      clear HC
      clear c80a c80b
      have HX80 := Lib.hid (HX80.out.below HBs.out)
      have HK80 := Lib.hid (HK80.out.below HBs.out HK80.out.lt)
      have HBW := Lib.hid (HBW.out.trans (HBs.out.mono HBW.out.size))
      clear HBs
      have HC := Lib.hid (s_ImpliedOrder w1 _ X Bs HX80.out)
      simp only [HT.out.1.1, HT.out.1.2, HT.out.2] at HC
      have c80a : w1.cell? ⟨qx, 0, none⟩ = some (.slice Aa X.length ca) := HK80.out.cell 0
      have c80b : w1.cell? ⟨qx, 1, none⟩ = some (.slice Ab Bs.length cb) := HK80.out.cell 1
      go_upto_region 6 with (go_at_call 25; go_loud (refine HC.out.mono ?_; rintro e w2 ⟨rfl, hb⟩; have HBs := Lib.hid (hb); clear hb))
      clear HC
      clear c80a c80b
      have HX80 := Lib.hid (HX80.out.below HBs.out)
      have HK80 := Lib.hid (HK80.out.below HBs.out HK80.out.lt)
      have HBW := Lib.hid (HBW.out.trans (HBs.out.mono HBW.out.size))
      clear HBs
      have HC := Lib.hid (i_QuadratureOrder w2 _ X Bs HX80.out)
      simp only [HT.out.1.1, HT.out.1.2, HT.out.2] at HC
      have c80a : w2.cell? ⟨qx, 0, none⟩ = some (.slice Aa X.length ca) := HK80.out.cell 0
      have c80b : w2.cell? ⟨qx, 1, none⟩ = some (.slice Ab Bs.length cb) := HK80.out.cell 1
      go_upto_region 9 with (go_at_call 26; go_loud (refine HC.out.mono ?_; rintro e w3 ⟨rfl, hb⟩; have HBs := Lib.hid (hb); clear hb))
      clear HC
      clear c80a c80b
      have HX80 := Lib.hid (HX80.out.below HBs.out)
      have HK80 := Lib.hid (HK80.out.below HBs.out HK80.out.lt)
      have HBW := Lib.hid (HBW.out.trans (HBs.out.mono HBW.out.size))
      clear HBs
      have HC := Lib.hid (i_StageOrderOf w3 _ X Bs HX80.out)
      simp only [HT.out.1.1, HT.out.1.2, HT.out.2] at HC
      have c80a : w3.cell? ⟨qx, 0, none⟩ = some (.slice Aa X.length ca) := HK80.out.cell 0
      have c80b : w3.cell? ⟨qx, 1, none⟩ = some (.slice Ab Bs.length cb) := HK80.out.cell 1
      go_upto_region 10 with (go_at_call 27; go_loud (refine HC.out.mono ?_; rintro e w4 ⟨rfl, hb⟩; have HBs := Lib.hid (hb); clear hb))
      clear HC
      clear c80a c80b
      have HX80 := Lib.hid (HX80.out.below HBs.out)
      have HK80 := Lib.hid (HK80.out.below HBs.out HK80.out.lt)
      have HBW := Lib.hid (HBW.out.trans (HBs.out.mono HBW.out.size))
      clear HBs
      have HC := Lib.hid (i_ColumnOrder w4 _ X Bs HX80.out)
      simp only [HT.out.1.1, HT.out.1.2, HT.out.2] at HC
      have c80a : w4.cell? ⟨qx, 0, none⟩ = some (.slice Aa X.length ca) := HK80.out.cell 0
      have c80b : w4.cell? ⟨qx, 1, none⟩ = some (.slice Ab Bs.length cb) := HK80.out.cell 1
      go_upto_region 11 with (go_at_call 28; go_loud (refine HC.out.mono ?_; rintro e w5 ⟨rfl, hb⟩; have HBs := Lib.hid (hb); clear hb))
      clear HC
      clear c80a c80b
      have HX80 := Lib.hid (HX80.out.below HBs.out)
      have HK80 := Lib.hid (HK80.out.below HBs.out HK80.out.lt)
      have HBW := Lib.hid (HBW.out.trans (HBs.out.mono HBW.out.size))
      clear HBs
      go_wp2_with fail
      go_ret
      exact ⟨rfl, HBW.out⟩
    | true =>
      have hI := isTab_of htx
      have HI := Lib.hid hI
      have hAS := assum_T (SqT.of hI)
      have HAS := Lib.hid hAS
      have HTX := Lib.hid htx
      have HT := Lib.hid (show ((tabC X Bs = 0 ∧ impR X Bs = ((impO (oM X Bs 0) (oM X Bs 1) (oM X Bs 2) : Nat) : Int)) ∧ ordR X Bs = agZ (chT X Bs) EX) ∧ ∀ k, oMR X Bs k = ((oM X Bs k : Nat) : Int) from ⟨⟨⟨by simp [tabC, htx], by simp [impR, impM, htx]⟩, by simp [ordR, htx]⟩, fun k => by simp [oMR, htx]⟩)
      have hb0 := oM_le X Bs 0
      have hb1 := oM_le X Bs 1
      have hb2 := oM_le X Bs 2
      have HMA := Lib.hid (fun (k : Nat) (hk : k < 3) (n : Int) (n0 : 0 ≤ n) (n1 : n ≤ 16) X0 va ha => i_MeetsAssumption HTX.out ((k : Nat) : Int) n (by omega) (by omega) n0 n1 X0 va ha)
      have HTO := Lib.hid (fun (k : Nat) (hk : k < 3) => topN_oM X Bs hk)
      have hag := agZ_bd (chT X Bs) EX
      have hAS1 := HAS.out.1
      have hAS2 := HAS.out.2
      unfold impM at hAS1
      clear htx hI hAS
      obtain ⟨p, hp⟩ : ∃ p, p = oM X Bs 0 := ⟨_, rfl⟩
      obtain ⟨q, hq⟩ : ∃ q, q = oM X Bs 1 := ⟨_, rfl⟩
      obtain ⟨r, hr⟩ : ∃ r, r = oM X Bs 2 := ⟨_, rfl⟩
      obtain ⟨o, ho⟩ : ∃ o, o = agZ (chT X Bs) EX := ⟨_, rfl⟩
      rw [← hp, ← hq, ← hr, ← ho] at hAS1
      rw [← hp, ← ho] at hAS2
      rw [← hp] at hb0
      rw [← hq] at hb1
      rw [← hr] at hb2
      rw [← ho] at hag
      have HE := Lib.hid (And.intro (And.intro hp hq) (And.intro hr ho))
      have HTO := Lib.hid (show ∀ k : Nat, k < 3 → oM X Bs (k : Int) = topA p q r k from fun k hk => by rw [HTO.out k hk, hp, hq, hr])
      obtain ⟨i1, i2, i3⟩ := imp_le p q r
      obtain ⟨im, him⟩ : ∃ im, im = impO p q r := ⟨_, rfl⟩
      rw [← him] at hAS1 i1 i2 i3
      have HIM := Lib.hid him
      clear hp hq hr ho him
      have HC := Lib.hid (i_ImpliedOrder W0 _ X Bs HX80.out)
      simp only [HT.out.1.1.1, HT.out.1.1.2, HT.out.2, ← HE.out.1.1, ← HE.out.1.2, ← HE.out.2.1, ← HIM.out] at HC
      have c80a : W0.cell? ⟨qx, 0, none⟩ = some (.slice Aa X.length ca) := HK80.out.cell 0
      have c80b : W0.cell? ⟨qx, 1, none⟩ = some (.slice Ab Bs.length cb) := HK80.out.cell 1
      go_upto_region 5 with (go_at_call 24; go_loud (refine HC.out.mono ?_; rintro e w6 ⟨rfl, hb⟩; have HBs := Lib.hid (hb); clear hb))
      clear HC
      clear c80a c80b
      have HX80 := Lib.hid (HX80.out.below HBs.out)
      have HK80 := Lib.hid (HK80.out.below HBs.out HK80.out.lt)
      have HBW := Lib.hid (HBW.out.trans (HBs.out.mono HBW.out.size))
      clear HBs
      have HC := Lib.hid (s_ImpliedOrder w6 _ X Bs HX80.out)
      simp only [HT.out.1.1.1, HT.out.1.1.2, HT.out.2, ← HE.out.1.1, ← HE.out.1.2, ← HE.out.2.1, ← HIM.out] at HC
      have c80a : w6.cell? ⟨qx, 0, none⟩ = some (.slice Aa X.length ca) := HK80.out.cell 0
      have c80b : w6.cell? ⟨qx, 1, none⟩ = some (.slice Ab Bs.length cb) := HK80.out.cell 1
      go_upto_region 6 with (go_at_call 25; go_loud (refine HC.out.mono ?_; rintro e w7 ⟨rfl, hb⟩; have HBs := Lib.hid (hb); clear hb))
      clear HC
      clear c80a c80b
      have HX80 := Lib.hid (HX80.out.below HBs.out)
      have HK80 := Lib.hid (HK80.out.below HBs.out HK80.out.lt)
      have HBW := Lib.hid (HBW.out.trans (HBs.out.mono HBW.out.size))
      clear HBs
      have HC := Lib.hid (i_QuadratureOrder w7 _ X Bs HX80.out)
      simp only [HT.out.1.1.1, HT.out.1.1.2, HT.out.2, ← HE.out.1.1, ← HE.out.1.2, ← HE.out.2.1, ← HIM.out] at HC
      have c80a : w7.cell? ⟨qx, 0, none⟩ = some (.slice Aa X.length ca) := HK80.out.cell 0
      have c80b : w7.cell? ⟨qx, 1, none⟩ = some (.slice Ab Bs.length cb) := HK80.out.cell 1
      go_upto_region 9 with (go_at_call 26; go_loud (refine HC.out.mono ?_; rintro e w8 ⟨rfl, hb⟩; have HBs := Lib.hid (hb); clear hb))
      clear HC
      clear c80a c80b
      have HX80 := Lib.hid (HX80.out.below HBs.out)
      have HK80 := Lib.hid (HK80.out.below HBs.out HK80.out.lt)
      have HBW := Lib.hid (HBW.out.trans (HBs.out.mono HBW.out.size))
      clear HBs
      have HC := Lib.hid (i_StageOrderOf w8 _ X Bs HX80.out)
      simp only [HT.out.1.1.1, HT.out.1.1.2, HT.out.2, ← HE.out.1.1, ← HE.out.1.2, ← HE.out.2.1, ← HIM.out] at HC
      have c80a : w8.cell? ⟨qx, 0, none⟩ = some (.slice Aa X.length ca) := HK80.out.cell 0
      have c80b : w8.cell? ⟨qx, 1, none⟩ = some (.slice Ab Bs.length cb) := HK80.out.cell 1
      go_upto_region 10 with (go_at_call 27; go_loud (refine HC.out.mono ?_; rintro e w9 ⟨rfl, hb⟩; have HBs := Lib.hid (hb); clear hb))
      clear HC
      clear c80a c80b
      have HX80 := Lib.hid (HX80.out.below HBs.out)
      have HK80 := Lib.hid (HK80.out.below HBs.out HK80.out.lt)
      have HBW := Lib.hid (HBW.out.trans (HBs.out.mono HBW.out.size))
      clear HBs
      have HC := Lib.hid (i_ColumnOrder w9 _ X Bs HX80.out)
      simp only [HT.out.1.1.1, HT.out.1.1.2, HT.out.2, ← HE.out.1.1, ← HE.out.1.2, ← HE.out.2.1, ← HIM.out] at HC
      have c80a : w9.cell? ⟨qx, 0, none⟩ = some (.slice Aa X.length ca) := HK80.out.cell 0
      have c80b : w9.cell? ⟨qx, 1, none⟩ = some (.slice Ab Bs.length cb) := HK80.out.cell 1
      go_upto_region 11 with (go_at_call 28; go_loud (refine HC.out.mono ?_; rintro e w10 ⟨rfl, hb⟩; have HBs := Lib.hid (hb); clear hb))
      clear HC
      clear c80a c80b
      have HX80 := Lib.hid (HX80.out.below HBs.out)
      have HK80 := Lib.hid (HK80.out.below HBs.out HK80.out.lt)
      have HBW := Lib.hid (HBW.out.trans (HBs.out.mono HBW.out.size))
      clear HBs
      have HC := Lib.hid (i_OrderOf w10 _ X Bs HX80.out)
      rw [HT.out.1.1.1, HT.out.1.2, ← HE.out.2.2] at HC
      have c80a : w10.cell? ⟨qx, 0, none⟩ = some (.slice Aa X.length ca) := HK80.out.cell 0
      have c80b : w10.cell? ⟨qx, 1, none⟩ = some (.slice Ab Bs.length cb) := HK80.out.cell 1
      go_upto_region 14 with (go_at_call 17; go_loud (refine HC.out.mono ?_; rintro e w11 ⟨rfl, hb⟩; have HBs := Lib.hid (hb); clear hb))
      clear HC
      clear c80a c80b
      have HX80 := Lib.hid (HX80.out.below HBs.out)
      have HK80 := Lib.hid (HK80.out.below HBs.out HK80.out.lt)
      have HBW := Lib.hid (HBW.out.trans (HBs.out.mono HBW.out.size))
      clear HBs
      have e1 : ¬ (o < (im : Int)) := by omega
      have e2 : ¬ ((p : Int) < o) := by omega
      have e3 : ¬ ((p : Int) < (im : Int)) := by omega
      have e4 : ¬ (2 * (q : Int) + 2 < (im : Int)) := by omega
      have e5 : ¬ ((q : Int) + (r : Int) + 1 < (im : Int)) := by omega
      have t1 : -9000000000000000000 ≤ 2 * (q : Int) ∧ 2 * (q : Int) ≤ 9000000000000000000 := by omega
      have t2 : -9000000000000000000 ≤ 2 * (q : Int) + 2 ∧ 2 * (q : Int) + 2 ≤ 9000000000000000000 := by omega
      have t3 : -9000000000000000000 ≤ (q : Int) + (r : Int) ∧ (q : Int) + (r : Int) ≤ 9000000000000000000 := by omega
      have t4 : -9000000000000000000 ≤ (q : Int) + (r : Int) + 1 ∧ (q : Int) + (r : Int) + 1 ≤ 9000000000000000000 := by omega
      obtain ⟨hw1, hw2⟩ := wrap_both t1
      obtain ⟨hw3, hw4⟩ := wrap_both t2
      obtain ⟨hw5, hw6⟩ := wrap_both t3
      obtain ⟨hw7, hw8⟩ := wrap_both t4
      clear t1 t2 t3 t4
      go_upto_region 17 with fail
      clear e1 e2 e3 e4 e5 hw1 hw2 hw3 hw4 hw5 hw6 hw7 hw8 hAS1 hAS2 i1 i2 i3 hag
      obtain ⟨W9, hW9⟩ : ∃ W9, W9 = w11.alloc (.cells #[.int .i64 (p : Int), .int .i64 (q : Int), .int .i64 (r : Int)] tI) := ⟨_, rfl⟩
      have HBs := Lib.hid (show Below w11.heap.size w11 W9 from by rw [hW9]; exact below1 _ _)
      have HTP := Lib.hid (show OwnInts W9 w11.heap.size tI (.slice (some ⟨w11.heap.size, 0, none⟩) 3 3) [(p : Int), (q : Int), (r : Int)] from by
        rw [hW9]
        refine ⟨own_lit w11 tI [.int .i64 (p : Int), .int .i64 (q : Int), .int .i64 (r : Int)] (by simp [maxLen]), fun z hz => ?_⟩
        simp only [List.mem_cons, List.not_mem_nil, or_false] at hz
        unfold In64
        rcases hz with rfl | rfl | rfl <;> omega)
      obtain ⟨qt, hqt⟩ : ∃ qt, qt = w11.heap.size := ⟨_, rfl⟩
      have HQT := Lib.hid hqt
      rw [← hW9, ← hqt]
      rw [← hqt] at HTP
      clear hW9 hqt
      have HX80 := Lib.hid (HX80.out.below HBs.out)
      have HK80 := Lib.hid (HK80.out.below HBs.out HK80.out.lt)
      have HBW := Lib.hid (HBW.out.trans (HBs.out.mono HBW.out.size))
      clear HBs
      have HTC := Lib.hid (show ∀ k, k < 3 → W9.cell? ⟨qt, k, none⟩ = some (.int .i64 ((topA p q r k : Nat) : Int)) from fun k hk => by
        obtain ⟨ad, he, hc⟩ := ints_at HTP.out.ints (i := k) hk
        injection he with he
        rw [← he, addr_addT, topN_at p q r hk] at hc
        exact hc)
      clear HTP
      have HTB := Lib.hid (show ∀ k, topA p q r k ≤ 16 from fun k => by unfold topA; split; exact hb0; split; exact hb1; exact hb2)
      clear hb0 hb1 hb2
      go_wp2_with fail
      go_loopw [17] (fun x wr => ∃ k : Nat, k ≤ 3 ∧ x = .int .i64 k ∧ Below W9.heap.size W9 wr) (fun x _ => 3 - (intOf x).toNat)
      case atStart => exact ⟨0, Nat.zero_le _, rfl, Below.refl _ _⟩
      case round =>
        obtain ⟨k, hk, rfl, hb⟩ := hrel
        rename World => wq
        have HB := Lib.hid hb
        clear hb
        by_cases hlt : k < 3
        · have hki : (k : Int) < 3 := by omega
          have hc := keepCell HB.out (HTC.out k hlt)
          have htb := HTB.out k
          have HOM := Lib.hid (HTO.out k hlt)
          obtain ⟨t, ht⟩ : ∃ t, t = topA p q r k := ⟨_, rfl⟩
          rw [← ht] at hc htb HOM
          have HAX := Lib.hid (HX80.out.below HB.out)
          have HKX := Lib.hid (HK80.out.below HB.out HK80.out.lt)
          have q0 : wq.cell? ⟨qx, 0, none⟩ = some (.slice Aa X.length ca) := HKX.out.cell 0
          have q1 : wq.cell? ⟨qx, 1, none⟩ = some (.slice Ab Bs.length cb) := HKX.out.cell 1
          have HM1 := Lib.hid (fun Y (hY : Below wq.heap.size wq Y) => HMA.out k hlt (t : Int) (by omega) (by omega) Y _ (HAX.out.below hY))
          simp only [HOM.out, show decide ((t : Int) ≤ ((t : Nat) : Int)) = true from by simp] at HM1
          clear ht
          go_wp2_with fail
          go_region_law (go_simp; go_at_call 29; (with_reducible refine ((HM1.out _ ?_).mono ?_)); (first | exact Below.refl _ _ | exact (Below.refl _ _).drew); go_loud (rintro e w5 ⟨rfl, hb5⟩; have hb5 := below_of_drew hb5; have HB5 := Lib.hid hb5; have hc5 := keepCell hb5 hc; clear hb5))
          all_goals
            by_cases ht16 : t < 16
            · have hti : (t : Int) < 16 := by omega
              have HK5 := Lib.hid (HKX.out.below HB5.out HKX.out.lt)
              have r0 : w5.cell? ⟨qx, 0, none⟩ = some (.slice Aa X.length ca) := HK5.out.cell 0
              have r1 : w5.cell? ⟨qx, 1, none⟩ = some (.slice Ab Bs.length cb) := HK5.out.cell 1
              obtain ⟨hw1, hw2⟩ := wrap_both (x := (t : Int) + 1) (by omega)
              have HM2 := Lib.hid (fun Y (hY : Below wq.heap.size wq Y) => HMA.out k hlt ((t : Int) + 1) (by omega) (by omega) Y _ (HAX.out.below hY))
              simp only [HOM.out, show decide ((t : Int) + 1 ≤ ((t : Nat) : Int)) = false from decide_eq_false (by omega)] at HM2
              go_wp2_with fail
              go_region_law (go_simp; go_at_call 29; (with_reducible refine ((HM2.out _ ?_).mono ?_)); (first | exact HB5.out | exact HB5.out.drew); go_loud (rintro e w6 ⟨rfl, hb6⟩; have HB6 := Lib.hid (HB5.out.trans ((by first | exact hb6 | exact below_of_drew hb6 : Below w5.heap.size w5 w6).mono HB5.out.size)); clear hb6))
              all_goals
                go_wp2_with fail
                go_roundw
                case rel => exact ⟨k + 1, by omega, by go_num, HB.out.trans (HB6.out.mono HB.out.size)⟩
                case measure => simp [intOf]; omega
            · have hti : ¬ (t : Int) < 16 := by omega
              go_wp2_with fail
              go_roundw
              case rel => exact ⟨k + 1, by omega, by go_num, HB.out.trans (HB5.out.mono HB.out.size)⟩
              case measure => simp [intOf]; omega
        · have hke : k = 3 := by omega
          subst hke
          go_wp2_with fail
          go_ret
          exact ⟨rfl, HBW.out.trans (HB.out.mono HBW.out.size)⟩
end Go.Proofs.Ytbjeibcombjfgaa

