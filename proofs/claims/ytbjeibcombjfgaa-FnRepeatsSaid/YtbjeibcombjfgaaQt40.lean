/- The law FnRepeats, walked. -/
import Derived.Test.YtbjeibcombjfgaaQt23
import Derived.Test.YtbjeibcombjfgaaQt19
import Derived.Test.YtbjeibcombjfgaaQt38
import Derived.Test.YtbjeibcombjfgaaQt39
import Derived.Test.YtbjeibcombjfgaaQt24
set_option maxRecDepth 100000
set_option linter.unusedVariables false
set_option linter.unusedSimpArgs false
namespace Go.Proofs.Ytbjeibcombjfgaa
open Go.RowKit

set_option maxHeartbeats 32000000 in
theorem law_Repeats (w : World) (v : Value) (n : Nat) (h : Bts w v n) :
    Calls Try.prog 3 #[v] w fun e w' => e = .returned (.bool true) ∧ Below w.heap.size w w' := by
  obtain ⟨A, c, rfl, hb⟩ := h
  have HBG := Lib.hid (l_big w A n c)
  by_cases h4 : 4096 < n
  · have hd : decide (4096 < n) = true := by simp [h4]
    rw [hd] at HBG
    clear hd h4 hb
    go_enter Try.func3, Try.ntmps3
    go_wp2_with (go_at_call 12; refine HBG.out.mono ?_; rintro e w0 ⟨rfl, rfl⟩)
    go_ret
    exact ⟨rfl, Below.refl _ _⟩
  · have hd : decide (4096 < n) = false := by simp [h4]
    rw [hd] at HBG
    have HDR := Lib.hid (s_DrawRepeatTableau w A n c hb (by omega))
    clear hd h4 hb
    go_enter Try.func3, Try.ntmps3
    go_upto_region 4 with (first
      | (go_at_call 12; refine HBG.out.mono ?_; rintro e w0 ⟨rfl, rfl⟩)
      | (go_at_call 13; go_loud (refine HDR.out.mono ?_; rintro e w1 ⟨x, k, rfl, hk, ⟨X, Bs, hx⟩, hb1⟩; obtain ⟨Aa, ca, Ab, cb, rfl⟩ := hx.open_; have HX1 := Lib.hid hx; have HB1 := Lib.hid hb1; clear hx hb1)))
    clear HBG HDR
    obtain ⟨q, hq⟩ : ∃ q, q = w1.heap.size := ⟨_, rfl⟩
    obtain ⟨W1, hW1⟩ : ∃ W1, W1 = w1.alloc (.cells #[.slice Aa X.length ca, .slice Ab Bs.length cb] tTb) := ⟨_, rfl⟩
    have HX := Lib.hid (show TabArg W1 (.agg #[.slice Aa X.length ca, .slice Ab Bs.length cb]) X Bs from by rw [hW1]; exact HX1.out.below (below1 _ _))
    have HB := Lib.hid (show Below w.heap.size w W1 from by rw [hW1]; exact HB1.out.trans ((below1 w1 _).mono HB1.out.size))
    have HKq := Lib.hid (show Blk W1 q tTb #[.slice Aa X.length ca, .slice Ab Bs.length cb] from by rw [hW1, hq]; exact Blk.new _ _ _)
    rw [← hW1, ← hq]
    clear hW1 hq HX1 HB1
    have hk64 : In64 k := by unfold In64; omega
    have HRI := Lib.hid (i_RepeatTableau W1 _ X Bs HX.out k hk64)
    have qa : W1.cell? ⟨q, 0, none⟩ = some (.slice Aa X.length ca) := HKq.out.cell 0
    have qb : W1.cell? ⟨q, 1, none⟩ = some (.slice Ab Bs.length cb) := HKq.out.cell 1
    go_upto_region 5 with (go_at_call 14; go_loud (refine HRI.out.mono ?_; rintro e w2 ⟨RA, RB, v2, cd, rfl, hrep, ho, hb2⟩; obtain ⟨A2, c2, B2, d2, rfl⟩ := ho.open_; have HR2 := Lib.hid ho.arg; have HREP := Lib.hid hrep; have HB2 := Lib.hid hb2; clear hrep ho hb2))
    clear HRI qa qb
    obtain ⟨q2, hq2⟩ : ∃ q2, q2 = w2.heap.size := ⟨_, rfl⟩
    obtain ⟨W2, hW2⟩ : ∃ W2, W2 = w2.alloc (.cells #[.slice A2 RA.length c2, .slice B2 RB.length d2] tTb) := ⟨_, rfl⟩
    have HB12 := Lib.hid (show Below W1.heap.size W1 W2 from by rw [hW2]; exact HB2.out.trans ((below1 w2 _).mono HB2.out.size))
    have HR := Lib.hid (show TabArg W2 (.agg #[.slice A2 RA.length c2, .slice B2 RB.length d2]) RA RB from by rw [hW2]; exact HR2.out.below (below1 _ _))
    have HKr := Lib.hid (show Blk W2 q2 tTb #[.slice A2 RA.length c2, .slice B2 RB.length d2] from by rw [hW2, hq2]; exact Blk.new _ _ _)
    rw [← hW2, ← hq2]
    clear hW2 hq2 HR2 HB2
    have HX2 := Lib.hid (HX.out.below HB12.out)
    have HKq2 := Lib.hid (HKq.out.below HB12.out HKq.out.lt)
    have HRS := Lib.hid (s_RepeatTableau W2 _ X Bs HX2.out k hk64)
    have qa : W2.cell? ⟨q, 0, none⟩ = some (.slice Aa X.length ca) := HKq2.out.cell 0
    have qb : W2.cell? ⟨q, 1, none⟩ = some (.slice Ab Bs.length cb) := HKq2.out.cell 1
    go_upto_region 6 with (go_at_call 15; go_loud (refine HRS.out.mono ?_; rintro e w3 ⟨RA3, RB3, v3, cd3, rfl, hrep, ho, hb3⟩; obtain ⟨rfl, rfl, rfl⟩ := hrep.unique HREP.out; obtain ⟨A3, c3, B3, d3, rfl⟩ := ho.open_; have HS3 := Lib.hid ho.arg; have HB3 := Lib.hid hb3; clear hrep ho hb3))
    clear HRS qa qb
    obtain ⟨q3, hq3⟩ : ∃ q3, q3 = w3.heap.size := ⟨_, rfl⟩
    obtain ⟨W3, hW3⟩ : ∃ W3, W3 = w3.alloc (.cells #[.slice A3 RA3.length c3, .slice B3 RB3.length d3] tTb) := ⟨_, rfl⟩
    have HB23 := Lib.hid (show Below W2.heap.size W2 W3 from by rw [hW3]; exact HB3.out.trans ((below1 w3 _).mono HB3.out.size))
    have HSS := Lib.hid (show TabArg W3 (.agg #[.slice A3 RA3.length c3, .slice B3 RB3.length d3]) RA3 RB3 from by rw [hW3]; exact HS3.out.below (below1 _ _))
    have HKs := Lib.hid (show Blk W3 q3 tTb #[.slice A3 RA3.length c3, .slice B3 RB3.length d3] from by rw [hW3, hq3]; exact Blk.new _ _ _)
    rw [← hW3, ← hq3]
    clear hW3 hq3 HS3 HB3
    have HX3 := Lib.hid (HX2.out.below HB23.out)
    have HR3 := Lib.hid (HR.out.below HB23.out)
    have HKq3 := Lib.hid (HKq2.out.below HB23.out HKq2.out.lt)
    have HKr3 := Lib.hid (HKr.out.below HB23.out HKr.out.lt)
    have HBW := Lib.hid (HB.out.trans ((HB12.out.trans (HB23.out.mono HB12.out.size)).mono HB.out.size))
    have HLK := Lib.hid (l_likeTableau5 W3 _ _ RA3 RA3 RB3 RB3 HR3.out HSS.out)
    rw [show (decide (RA3 = RA3) && decide (RB3 = RB3)) = true from by simp] at HLK
    clear HX HB HKq HX2 HR HKr HKq2 HB12 HB23 HSS
    have ra : W3.cell? ⟨q2, 0, none⟩ = some (.slice A2 RA3.length c2) := HKr3.out.cell 0
    have rb : W3.cell? ⟨q2, 1, none⟩ = some (.slice B2 RB3.length d2) := HKr3.out.cell 1
    have sa : W3.cell? ⟨q3, 0, none⟩ = some (.slice A3 RA3.length c3) := HKs.out.cell 0
    have sb : W3.cell? ⟨q3, 1, none⟩ = some (.slice B3 RB3.length d3) := HKs.out.cell 1
    have hcc : (cd3 != cd3) = false := by simp
    go_upto_region 8 with (go_at_call 16; go_loud (refine HLK.out.mono ?_; rintro e w4 ⟨rfl, hb4⟩; have HB4 := Lib.hid hb4; clear hb4))
    clear HLK ra rb sa sb hcc HKs
    by_cases hc : cd3 = 0
    · subst hc
      obtain ⟨e1, e2, e3⟩ := HREP.out
      obtain ⟨t1, t2, t3, t4, t5, t6, t7, t8, t9⟩ := rep_law e3.symm
      rw [← e1, ← e2] at t2 t3
      rw [← e2] at t6
      have HREP1 := Lib.hid (show ∀ RA RB c, IsRep X Bs 1 RA RB c → X = RA ∧ Bs = RB ∧ 0 = c from by
        rintro RA RB c ⟨f1, f2, f3⟩
        rw [t5] at f1 f2
        exact ⟨f1.symm, f2.symm, by rw [f3, t4]⟩)
      have HX4 := Lib.hid (HX3.out.below HB4.out)
      have HR4 := Lib.hid (HR3.out.below HB4.out)
      have HK4 := Lib.hid (HKq3.out.below HB4.out HKq3.out.lt)
      have HL4 := Lib.hid (HKr3.out.below HB4.out HKr3.out.lt)
      have HBW4 := Lib.hid (HBW.out.trans (HB4.out.mono HBW.out.size))
      have HO1 := Lib.hid (i_OrderOf w4 _ X Bs HX4.out)
      have HO2 := Lib.hid (fun Y (hY : Below w4.heap.size w4 Y) => i_OrderOf Y _ RA3 RB3 (HR4.out.below hY))
      rw [t1] at HO1
      simp only [t2] at HO2
      generalize ordR X Bs = o1 at *
      generalize ordR RA3 RB3 = o2 at *
      have h7 : RB3.length ≤ 1000 := HREP.out.short.2
      have hmul : wrap64 (k * (Bs.length : Int)) = (RB3.length : Int) := by
        rw [← t6]
        exact w64_dr _ (by omega)
      have hmul2 : IntKind.i64.wrap (k * (Bs.length : Int)) = (RB3.length : Int) := by
        rw [← t6]
        exact wrap_i64 _ (by omega)
      clear e1 e2 e3 t1 t2 t4 t5 t6 t7 t8 t9 HX3 HR3 HKq3 HKr3 HBW HB4 HREP
      have qa : w4.cell? ⟨q, 0, none⟩ = some (.slice Aa X.length ca) := HK4.out.cell 0
      have qb : w4.cell? ⟨q, 1, none⟩ = some (.slice Ab Bs.length cb) := HK4.out.cell 1
      go_upto_region 12 with (first
        | (go_at_call 17; (with_reducible refine HO1.out.mono ?_); go_loud (rintro e w5 ⟨rfl, hb5⟩; have HB5 := Lib.hid hb5; have ra : w5.cell? ⟨q2, 0, none⟩ = some (.slice A2 RA3.length c2) := (HL4.out.below hb5 HL4.out.lt).cell 0; have rb : w5.cell? ⟨q2, 1, none⟩ = some (.slice B2 RB3.length d2) := (HL4.out.below hb5 HL4.out.lt).cell 1; clear hb5))
        | (go_at_call 17; (with_reducible refine (HO2.out _ HB5.out).mono ?_); go_loud (rintro e w6 ⟨rfl, hb6⟩; have HB6 := Lib.hid (HB5.out.trans (hb6.mono HB5.out.size)); clear hb6)))
      clear HO1 HO2 ra rb qa qb HB5
      have HX6 := Lib.hid (HX4.out.below HB6.out)
      have HK6 := Lib.hid (HK4.out.below HB6.out HK4.out.lt)
      have HL6 := Lib.hid (HL4.out.below HB6.out HL4.out.lt)
      have HBW6 := Lib.hid (HBW4.out.trans (HB6.out.mono HBW4.out.size))
      have HR1 := Lib.hid (i_RepeatTableau w6 _ X Bs HX6.out 1 (by unfold In64; omega))
      clear HX4 HR4 HK4 HL4 HBW4 HB6
      have qa : w6.cell? ⟨q, 0, none⟩ = some (.slice Aa X.length ca) := HK6.out.cell 0
      have qb : w6.cell? ⟨q, 1, none⟩ = some (.slice Ab Bs.length cb) := HK6.out.cell 1
      go_upto_region 13 with (go_at_call 14; go_loud (refine HR1.out.mono ?_; rintro e w7 ⟨RA7, RB7, v7, cd7, rfl, hrep, ho, hb7⟩; obtain ⟨rfl, rfl, rfl⟩ := HREP1.out _ _ _ hrep; obtain ⟨A7, c7, B7, d7, rfl⟩ := ho.open_; have HY7 := Lib.hid ho.arg; have HB7 := Lib.hid hb7; clear hrep ho hb7))
      clear HR1 HREP1 qa qb
      obtain ⟨q7, hq7⟩ : ∃ q7, q7 = w7.heap.size := ⟨_, rfl⟩
      obtain ⟨W7, hW7⟩ : ∃ W7, W7 = w7.alloc (.cells #[.slice A7 X.length c7, .slice B7 Bs.length d7] tTb) := ⟨_, rfl⟩
      have HB67 := Lib.hid (show Below w6.heap.size w6 W7 from by rw [hW7]; exact HB7.out.trans ((below1 w7 _).mono HB7.out.size))
      have HY := Lib.hid (show TabArg W7 (.agg #[.slice A7 X.length c7, .slice B7 Bs.length d7]) X Bs from by rw [hW7]; exact HY7.out.below (below1 _ _))
      have HKy := Lib.hid (show Blk W7 q7 tTb #[.slice A7 X.length c7, .slice B7 Bs.length d7] from by rw [hW7, hq7]; exact Blk.new _ _ _)
      rw [← hW7, ← hq7]
      clear hW7 hq7 HY7 HB7
      have HX7 := Lib.hid (HX6.out.below HB67.out)
      have HK7 := Lib.hid (HK6.out.below HB67.out HK6.out.lt)
      have HL7 := Lib.hid (HL6.out.below HB67.out HL6.out.lt)
      have HBW7 := Lib.hid (HBW6.out.trans (HB67.out.mono HBW6.out.size))
      have HLK := Lib.hid (l_likeTableau5 W7 _ _ X X Bs Bs HY.out HX7.out)
      rw [show (decide (X = X) && decide (Bs = Bs)) = true from by simp] at HLK
      clear HX6 HK6 HL6 HBW6 HB67 HX7 HY
      have qa : W7.cell? ⟨q, 0, none⟩ = some (.slice Aa X.length ca) := HK7.out.cell 0
      have qb : W7.cell? ⟨q, 1, none⟩ = some (.slice Ab Bs.length cb) := HK7.out.cell 1
      have ya : W7.cell? ⟨q7, 0, none⟩ = some (.slice A7 X.length c7) := HKy.out.cell 0
      have yb : W7.cell? ⟨q7, 1, none⟩ = some (.slice B7 Bs.length d7) := HKy.out.cell 1
      go_wp2_with (go_at_call 16; go_loud (refine HLK.out.mono ?_; rintro e w8 ⟨rfl, hb8⟩; have HB8 := Lib.hid hb8; have m1 : w8.cell? ⟨q, 1, none⟩ = some (.slice Ab Bs.length cb) := (HK7.out.below hb8 HK7.out.lt).cell 1; have m2 : w8.cell? ⟨q2, 1, none⟩ = some (.slice B2 RB3.length d2) := (HL7.out.below hb8 HL7.out.lt).cell 1; clear hb8))
      go_ret
      exact ⟨rfl, HBW7.out.trans (HB8.out.mono HBW7.out.size)⟩
    · have hcn : (cd3 != 0) = true := by simp [hc]
      clear hc
      go_wp2_with fail
      go_ret
      exact ⟨rfl, HBW.out.trans (HB4.out.mono HBW.out.size)⟩
end Go.Proofs.Ytbjeibcombjfgaa

