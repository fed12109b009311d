/- Walks of helpers of the laws: likeInts, whole9, big. | Walks of helpers of the laws: likeRows5, likeTableau5. | The law FnRepeats, walked. | Arguments that came in, opened to the words of the Mem text. | Byte slices that came in, opened. -/
import Derived.Test.YtcbgopmonbgmgaaRp3
import Derived.Test.YtcbgopmonbgmgaaRp15
import Derived.Test.YtcbgopmonbgmgaaRp6
import Derived.Test.YtcbgopmonbgmgaaRp18
import Derived.Test.YtcbgopmonbgmgaaRp20
import Derived.Test.YtcbgopmonbgmgaaRp21
import Derived.Test.YtcbgopmonbgmgaaRows
import Derived.Test.YtcbgopmonbgmgaaRp2
import Derived.WalkKit
import Derived.ProofKit
import Derived.OpenShut
set_option maxRecDepth 100000
set_option linter.unusedVariables false
set_option linter.unusedSimpArgs false
namespace Go.Proofs.Ytcbgopmonbgmgaa
open Go.RowKit

set_option maxHeartbeats 400000 in
theorem l_likeInts (w : World) (a b : Value) (xs ys : List Int) (ha : Ints w a xs) (hb : Ints w b ys) :
    Calls Try.prog 33 #[a, b] w fun e w' => e = .returned (.bool (decide (xs = ys))) ∧ ∃ n, w' = w.drewN n := by
  obtain ⟨A, c, rfl, h1, h2, h3⟩ := ha.open_
  obtain ⟨B, d, rfl, g1, g2, g3⟩ := hb.open_
  clear ha hb
  have H3 := Lib.hid h3
  have G3 := Lib.hid g3
  clear h3 g3
  by_cases hl : xs.length = ys.length
  · have hl' : (((xs.length : Nat) : Int) != ((ys.length : Nat) : Int)) = false := by simp [hl]
    have HL := Lib.hid hl
    clear hl
    have g4 : ys.length ≤ xs.length := by rw [HL.out]; omega
    have g5 : xs.length ≤ ys.length := by rw [HL.out]; omega
    go_enter Try.func33, Try.ntmps33
    go_wp2
    go_loopw [5] (fun i wr => ∃ k n : Nat, k ≤ xs.length ∧ i = .int .i64 k ∧ xs.take k = ys.take k ∧ wr = w.drewN n) (fun i _ => xs.length - (intOf i).toNat)
    case atStart => exact ⟨0, 0, Nat.zero_le _, rfl, rfl, rfl⟩
    case round =>
      obtain ⟨k, n, hk, rfl, ht, rfl⟩ := hrel
      have HT := Lib.hid ht
      clear ht
      by_cases hlt : k < xs.length
      · obtain ⟨ad, z, rfl, hz, hz2, hc⟩ := H3.out k hlt
        obtain ⟨ad', y, rfl, hy, hy2, hc'⟩ := G3.out k (by omega)
        have HZ := Lib.hid hz
        have HY := Lib.hid hy
        clear hz hy hz2 hy2
        go_wp2
        go_quiet (fail)
        go_wp2
        · have hne : (z != y) = true := by assumption
          go_ret
          refine ⟨ret_bool ?_, _, World.drewN_drewN _ _ _⟩
          symm
          simp only [decide_eq_false_iff_not]
          rintro rfl
          have := HZ.out.symm.trans HY.out
          simp at this hne
          exact hne this
        · have hne : (z != y) = false := by assumption
          go_roundw
          case rel => exact ⟨k + 1, _, by omega, by go_num, take_eq_succ HT.out HZ.out HY.out (by simpa using hne), rfl⟩
          case measure => simp [intOf]; omega
      · have : k = xs.length := by omega
        subst this
        go_wp2
        go_ret
        refine ⟨ret_bool ?_, _, rfl⟩
        have e := HT.out
        rw [List.take_length, List.take_of_length_le (by omega)] at e
        simp [e]
  · have hl' : (((xs.length : Nat) : Int) != ((ys.length : Nat) : Int)) = true := by simp; omega
    have HL := Lib.hid hl
    clear hl
    go_enter Try.func33, Try.ntmps33
    go_wp2
    go_ret
    refine ⟨ret_bool ?_, 0, rfl⟩
    have := HL.out
    symm
    simp only [decide_eq_false_iff_not]
    rintro rfl
    exact this rfl

set_option maxHeartbeats 400000 in
theorem l_big (w : World) (A : Option Addr) (n c : Nat) :
    Calls Try.prog 9 #[.slice A n c] w fun e w' => e = .returned (.bool (decide (4096 < n))) ∧ w = w' := by
  by_cases h : 4096 < n
  · have hd : (4096 : Int) < (n : Int) := by omega
    have HD := Lib.hid (show decide (4096 < n) = true by simp [h])
    clear h
    go_enter Try.func9, Try.ntmps9
    go_wp2_with fail
    go_ret
    exact ⟨ret_bool HD.out.symm, rfl⟩
  · have hd : ¬ ((4096 : Int) < (n : Int)) := by omega
    have HD := Lib.hid (show decide (4096 < n) = false by simp [h])
    clear h
    go_enter Try.func9, Try.ntmps9
    go_wp2_with fail
    go_ret
    exact ⟨ret_bool HD.out.symm, rfl⟩
end Go.Proofs.Ytcbgopmonbgmgaa

set_option maxRecDepth 100000
set_option linter.unusedVariables false
set_option linter.unusedSimpArgs false
namespace Go.Proofs.Ytcbgopmonbgmgaa
open Go.RowKit

set_option maxHeartbeats 4000000 in
theorem l_likeRows5 (w : World) (a b : Value) (xs ys : List (List Int)) (ha : Rows w a xs) (hb : Rows w b ys) :
    Calls Try.prog 38 #[a, b] w fun e w' => e = .returned (.bool (decide (xs = ys))) ∧ ∃ n, w' = w.drewN n := by
  obtain ⟨A, c, rfl, h1, h2, h3⟩ := ha.open_
  obtain ⟨B, d, rfl, g1, g2, g3⟩ := hb.open_
  clear ha hb
  have H3 := Lib.hid h3
  have G3 := Lib.hid g3
  clear h3 g3
  by_cases hl : xs.length = ys.length
  · have hl' : (((xs.length : Nat) : Int) != ((ys.length : Nat) : Int)) = false := by simp [hl]
    have HL := Lib.hid hl
    clear hl
    have g4 : ys.length ≤ xs.length := by rw [HL.out]; omega
    have g5 : xs.length ≤ ys.length := by rw [HL.out]; omega
    go_enter Try.func38, Try.ntmps38
    go_wp2
    go_loopw [5] (fun i wr => ∃ k n : Nat, k ≤ xs.length ∧ i = .int .i64 k ∧ xs.take k = ys.take k ∧ wr = w.drewN n) (fun i _ => xs.length - (intOf i).toNat)
    case atStart => exact ⟨0, 0, Nat.zero_le _, rfl, rfl, rfl⟩
    case round =>
      obtain ⟨k, n, hk, rfl, ht, rfl⟩ := hrel
      have HT := Lib.hid ht
      clear ht
      by_cases hlt : k < xs.length
      · obtain ⟨ad, u, z, rfl, hz, hz2, hc⟩ := H3.out k hlt
        obtain ⟨ad', u', y, rfl, hy, hy2, hc'⟩ := G3.out k (by omega)
        have HZ := Lib.hid hz
        have HY := Lib.hid hy
        have HZ2 := Lib.hid hz2
        have HY2 := Lib.hid hy2
        clear hz hy hz2 hy2
        have HLI := Lib.hid (fun m => l_likeInts (w.drewN m) u u' z y (HZ2.out.drewN m) (HY2.out.drewN m))
        by_cases hzy : z = y
        · have HZY := Lib.hid hzy
          simp only [show decide (z = y) = true from decide_eq_true hzy] at HLI
          clear hzy
          go_wp2
          go_quiet (first
            | (go_at_call 33; exact quiet_more (HLI.out _)))
          go_wp2
          go_roundw
          case rel => exact ⟨k + 1, _, by omega, by go_num, rtake_succ HT.out HZ.out HY.out HZY.out, rfl⟩
          case measure => simp [intOf]; omega
        · have HZY := Lib.hid hzy
          simp only [show decide (z = y) = false from decide_eq_false hzy] at HLI
          clear hzy
          go_wp2
          go_quiet (first
            | (go_at_call 33; exact quiet_more (HLI.out _)))
          go_wp2
          go_ret
          refine ⟨ret_bool ?_, _, by first | rfl | exact World.drewN_drewN _ _ _ | simp⟩
          symm
          simp only [decide_eq_false_iff_not]
          rintro rfl
          have := HZ.out.symm.trans HY.out
          injection this with this
          exact HZY.out this
      · have : k = xs.length := by omega
        subst this
        go_wp2
        go_ret
        refine ⟨ret_bool ?_, _, rfl⟩
        have e := HT.out
        rw [List.take_length, List.take_of_length_le (by omega)] at e
        simp [e]
  · have hl' : (((xs.length : Nat) : Int) != ((ys.length : Nat) : Int)) = true := by simp; omega
    have HL := Lib.hid hl
    clear hl
    go_enter Try.func38, Try.ntmps38
    go_wp2
    go_ret
    refine ⟨ret_bool ?_, 0, rfl⟩
    have := HL.out
    symm
    simp only [decide_eq_false_iff_not]
    rintro rfl
    exact this rfl
set_option maxHeartbeats 4000000 in
theorem l_likeTableau5 (w : World) (v v' : Value) (A A' : List (List Int)) (Bs Bs' : List Int) (ha : TabArg w v A Bs) (hb : TabArg w v' A' Bs') :
    Calls Try.prog 13 #[v, v'] w fun e w' => e = .returned (.bool (decide (A = A') && decide (Bs = Bs'))) ∧ Below w.heap.size w w' := by
  obtain ⟨va, vb, rfl, ha1, ha2⟩ := ha
  obtain ⟨va', vb', rfl, hb1, hb2⟩ := hb
  obtain ⟨A1, c1, rfl, -, -, -⟩ := ha1.open_
  obtain ⟨A2, c2, rfl, -, -, -⟩ := ha2.open_
  obtain ⟨A3, c3, rfl, -, -, -⟩ := hb1.open_
  obtain ⟨A4, c4, rfl, -, -, -⟩ := hb2.open_
  obtain ⟨W, hW⟩ : ∃ W, W = (w.alloc (.cells #[.slice A1 A.length c1, .slice A2 Bs.length c2] 27)).alloc (.cells #[.slice A3 A'.length c3, .slice A4 Bs'.length c4] 27) := ⟨_, rfl⟩
  have hbw : Below w.heap.size w W := by rw [hW]; exact below2 w _ _
  have HBW := Lib.hid hbw
  have HK1 := Lib.hid (show Blk W w.heap.size 27 #[.slice A1 A.length c1, .slice A2 Bs.length c2] from by rw [hW]; exact (Blk.new _ _ _).alloc _)
  have HK2 := Lib.hid (show Blk W (w.heap.size + 1) 27 #[.slice A3 A'.length c3, .slice A4 Bs'.length c4] from by rw [hW]; exact Blk.new1 _ _ _ _)
  have HR1 := Lib.hid (ha1.below hbw)
  have HR2 := Lib.hid (hb1.below hbw)
  have HI1 := Lib.hid (ha2.below hbw)
  have HI2 := Lib.hid (hb2.below hbw)
  have HLR := Lib.hid (fun m => l_likeRows5 (W.drewN m) _ _ A A' (HR1.out.drewN m) (HR2.out.drewN m))
  have HLI := Lib.hid (fun m => l_likeInts (W.drewN m) _ _ Bs Bs' (HI1.out.drewN m) (HI2.out.drewN m))
  clear ha1 ha2 hb1 hb2 hbw
  generalize decide (A = A') = d1 at *
  generalize decide (Bs = Bs') = d2 at *
  have q0 : ∀ m, (W.drewN m).cell? ⟨w.heap.size, 0, none⟩ = some (.slice A1 A.length c1) := fun m => HK1.out.cell 0
  have q1 : ∀ m, (W.drewN m).cell? ⟨w.heap.size, 1, none⟩ = some (.slice A2 Bs.length c2) := fun m => HK1.out.cell 1
  have q2 : ∀ m, (W.drewN m).cell? ⟨w.heap.size + 1, 0, none⟩ = some (.slice A3 A'.length c3) := fun m => HK2.out.cell 0
  have q3 : ∀ m, (W.drewN m).cell? ⟨w.heap.size + 1, 1, none⟩ = some (.slice A4 Bs'.length c4) := fun m => HK2.out.cell 1
  have p0 : W.cell? ⟨w.heap.size, 0, none⟩ = some (.slice A1 A.length c1) := HK1.out.cell 0
  have p1 : W.cell? ⟨w.heap.size, 1, none⟩ = some (.slice A2 Bs.length c2) := HK1.out.cell 1
  have p2 : W.cell? ⟨w.heap.size + 1, 0, none⟩ = some (.slice A3 A'.length c3) := HK2.out.cell 0
  have p3 : W.cell? ⟨w.heap.size + 1, 1, none⟩ = some (.slice A4 Bs'.length c4) := HK2.out.cell 1
  go_enter Try.func13, Try.ntmps13
  go_upto_region 1 with fail
  rw [← hW]
  clear hW
  cases d1 with
  | false =>
    go_wp2_with (go_at_call 38; refine (HLR.out 0).mono ?_; rintro e w3 ⟨rfl, n3, rfl⟩)
    go_ret
    exact ⟨rfl, below_drewN (below_drewN HBW.out 0) n3⟩
  | true =>
    go_wp2_with (first
      | (go_at_call 38; refine (HLR.out 0).mono ?_; rintro e w3 ⟨rfl, n3, rfl⟩; rw [World.drewN_drewN])
      | (go_at_call 33; refine (HLI.out _).mono ?_; rintro e w4 ⟨rfl, n4, rfl⟩))
    go_ret
    exact ⟨rfl, below_drewN HBW.out _⟩
end Go.Proofs.Ytcbgopmonbgmgaa

set_option maxRecDepth 100000
set_option linter.unusedVariables false
set_option linter.unusedSimpArgs false
namespace Go.Proofs.Ytcbgopmonbgmgaa
open Go.RowKit

set_option maxHeartbeats 32000000 in
theorem law_Repeats (w : World) (v : Value) (n : Nat) (h : Bts w v n) :
    Calls Try.prog 3 #[v] w fun e w' => e = .returned (.bool true) ∧ Below w.heap.size w w' := by
  obtain ⟨A, c, rfl, hb⟩ := h
  have HBG := Lib.hid (l_big w A n c)
  by_cases h4 : 4096 < n
  · have hd : decide (4096 < n) = true := by simp [h4]
    rw [hd] at HBG
    clear hd h4 hb
    go_enter Try.func3, Try.ntmps3
    go_wp2_with (go_at_call 9; refine HBG.out.mono ?_; rintro e w0 ⟨rfl, rfl⟩)
    go_ret
    exact ⟨rfl, Below.refl _ _⟩
  · have hd : decide (4096 < n) = false := by simp [h4]
    rw [hd] at HBG
    have HDR := Lib.hid (s_DrawRepeatTableau w A n c hb (by omega))
    clear hd h4 hb
    go_enter Try.func3, Try.ntmps3
    go_upto_region 4 with (first
      | (go_at_call 9; refine HBG.out.mono ?_; rintro e w0 ⟨rfl, rfl⟩)
      | (go_at_call 10; go_loud (refine HDR.out.mono ?_; rintro e w1 ⟨x, k, rfl, hk, ⟨X, Bs, hx⟩, hb1⟩; obtain ⟨Aa, ca, Ab, cb, rfl⟩ := hx.open_; have HX1 := Lib.hid hx; have HB1 := Lib.hid hb1; clear hx hb1)))
    clear HBG HDR
    obtain ⟨q, hq⟩ : ∃ q, q = w1.heap.size := ⟨_, rfl⟩
    obtain ⟨W1, hW1⟩ : ∃ W1, W1 = w1.alloc (.cells #[.slice Aa X.length ca, .slice Ab Bs.length cb] tTb) := ⟨_, rfl⟩
    have HX := Lib.hid (show TabArg W1 (.agg #[.slice Aa X.length ca, .slice Ab Bs.length cb]) X Bs from by rw [hW1]; exact HX1.out.below (below1 _ _))
    have HB := Lib.hid (show Below w.heap.size w W1 from by rw [hW1]; exact HB1.out.trans ((below1 w1 _).mono HB1.out.size))
    have HKq := Lib.hid (show Blk W1 q tTb #[.slice Aa X.length ca, .slice Ab Bs.length cb] from by rw [hW1, hq]; exact Blk.new _ _ _)
    rw [← hW1, ← hq]
    clear hW1 hq HX1 HB1
    have hk64 : In64 k := by unfold In64; omega
    have HRI := Lib.hid (i_RepeatTableau W1 _ X Bs HX.out k hk64)
    have qa : W1.cell? ⟨q, 0, none⟩ = some (.slice Aa X.length ca) := HKq.out.cell 0
    have qb : W1.cell? ⟨q, 1, none⟩ = some (.slice Ab Bs.length cb) := HKq.out.cell 1
    go_upto_region 5 with (go_at_call 11; go_loud (refine HRI.out.mono ?_; rintro e w2 ⟨RA, RB, v2, cd, rfl, hrep, ho, hb2⟩; obtain ⟨A2, c2, B2, d2, rfl⟩ := ho.open_; have HR2 := Lib.hid ho.arg; have HREP := Lib.hid hrep; have HB2 := Lib.hid hb2; clear hrep ho hb2))
    clear HRI qa qb
    obtain ⟨q2, hq2⟩ : ∃ q2, q2 = w2.heap.size := ⟨_, rfl⟩
    obtain ⟨W2, hW2⟩ : ∃ W2, W2 = w2.alloc (.cells #[.slice A2 RA.length c2, .slice B2 RB.length d2] tTb) := ⟨_, rfl⟩
    have HB12 := Lib.hid (show Below W1.heap.size W1 W2 from by rw [hW2]; exact HB2.out.trans ((below1 w2 _).mono HB2.out.size))
    have HR := Lib.hid (show TabArg W2 (.agg #[.slice A2 RA.length c2, .slice B2 RB.length d2]) RA RB from by rw [hW2]; exact HR2.out.below (below1 _ _))
    have HKr := Lib.hid (show Blk W2 q2 tTb #[.slice A2 RA.length c2, .slice B2 RB.length d2] from by rw [hW2, hq2]; exact Blk.new _ _ _)
    rw [← hW2, ← hq2]
    clear hW2 hq2 HR2 HB2
    have HX2 := Lib.hid (HX.out.below HB12.out)
    have HKq2 := Lib.hid (HKq.out.below HB12.out HKq.out.lt)
    have HRS := Lib.hid (s_RepeatTableau W2 _ X Bs HX2.out k hk64)
    have qa : W2.cell? ⟨q, 0, none⟩ = some (.slice Aa X.length ca) := HKq2.out.cell 0
    have qb : W2.cell? ⟨q, 1, none⟩ = some (.slice Ab Bs.length cb) := HKq2.out.cell 1
    go_upto_region 6 with (go_at_call 12; go_loud (refine HRS.out.mono ?_; rintro e w3 ⟨RA3, RB3, v3, cd3, rfl, hrep, ho, hb3⟩; obtain ⟨rfl, rfl, rfl⟩ := hrep.unique HREP.out; obtain ⟨A3, c3, B3, d3, rfl⟩ := ho.open_; have HS3 := Lib.hid ho.arg; have HB3 := Lib.hid hb3; clear hrep ho hb3))
    clear HRS qa qb
    obtain ⟨q3, hq3⟩ : ∃ q3, q3 = w3.heap.size := ⟨_, rfl⟩
    obtain ⟨W3, hW3⟩ : ∃ W3, W3 = w3.alloc (.cells #[.slice A3 RA3.length c3, .slice B3 RB3.length d3] tTb) := ⟨_, rfl⟩
    have HB23 := Lib.hid (show Below W2.heap.size W2 W3 from by rw [hW3]; exact HB3.out.trans ((below1 w3 _).mono HB3.out.size))
    have HSS := Lib.hid (show TabArg W3 (.agg #[.slice A3 RA3.length c3, .slice B3 RB3.length d3]) RA3 RB3 from by rw [hW3]; exact HS3.out.below (below1 _ _))
    have HKs := Lib.hid (show Blk W3 q3 tTb #[.slice A3 RA3.length c3, .slice B3 RB3.length d3] from by rw [hW3, hq3]; exact Blk.new _ _ _)
    rw [← hW3, ← hq3]
    clear hW3 hq3 HS3 HB3
    have HX3 := Lib.hid (HX2.out.below HB23.out)
    have HR3 := Lib.hid (HR.out.below HB23.out)
    have HKq3 := Lib.hid (HKq2.out.below HB23.out HKq2.out.lt)
    have HKr3 := Lib.hid (HKr.out.below HB23.out HKr.out.lt)
    have HBW := Lib.hid (HB.out.trans ((HB12.out.trans (HB23.out.mono HB12.out.size)).mono HB.out.size))
    have HLK := Lib.hid (l_likeTableau5 W3 _ _ RA3 RA3 RB3 RB3 HR3.out HSS.out)
    rw [show (decide (RA3 = RA3) && decide (RB3 = RB3)) = true from by simp] at HLK
    clear HX HB HKq HX2 HR HKr HKq2 HB12 HB23 HSS
    have ra : W3.cell? ⟨q2, 0, none⟩ = some (.slice A2 RA3.length c2) := HKr3.out.cell 0
    have rb : W3.cell? ⟨q2, 1, none⟩ = some (.slice B2 RB3.length d2) := HKr3.out.cell 1
    have sa : W3.cell? ⟨q3, 0, none⟩ = some (.slice A3 RA3.length c3) := HKs.out.cell 0
    have sb : W3.cell? ⟨q3, 1, none⟩ = some (.slice B3 RB3.length d3) := HKs.out.cell 1
    have hcc : (cd3 != cd3) = false := by simp
    go_upto_region 8 with (go_at_call 13; go_loud (refine HLK.out.mono ?_; rintro e w4 ⟨rfl, hb4⟩; have HB4 := Lib.hid hb4; clear hb4))
    clear HLK ra rb sa sb hcc HKs
    by_cases hc : cd3 = 0
    · subst hc
      obtain ⟨e1, e2, e3⟩ := HREP.out
      obtain ⟨t1, t2, t3, t4, t5, t6, t7, t8, t9⟩ := rep_law e3.symm
      rw [← e1, ← e2] at t2 t3
      rw [← e2] at t6
      have HREP1 := Lib.hid (show ∀ RA RB c, IsRep X Bs 1 RA RB c → X = RA ∧ Bs = RB ∧ 0 = c from by
        rintro RA RB c ⟨f1, f2, f3⟩
        rw [t5] at f1 f2
        exact ⟨f1.symm, f2.symm, by rw [f3, t4]⟩)
      have HX4 := Lib.hid (HX3.out.below HB4.out)
      have HR4 := Lib.hid (HR3.out.below HB4.out)
      have HK4 := Lib.hid (HKq3.out.below HB4.out HKq3.out.lt)
      have HL4 := Lib.hid (HKr3.out.below HB4.out HKr3.out.lt)
      have HBW4 := Lib.hid (HBW.out.trans (HB4.out.mono HBW.out.size))
      have HO1 := Lib.hid (i_OrderOf w4 _ X Bs HX4.out)
      have HO2 := Lib.hid (fun Y (hY : Below w4.heap.size w4 Y) => i_OrderOf Y _ RA3 RB3 (HR4.out.below hY))
      rw [t1] at HO1
      simp only [t2] at HO2
      generalize ordR X Bs = o1 at *
      generalize ordR RA3 RB3 = o2 at *
      have h7 : RB3.length ≤ 1000 := HREP.out.short.2
      have hmul : wrap64 (k * (Bs.length : Int)) = (RB3.length : Int) := by
        rw [← t6]
        exact w64_dr _ (by omega)
      have hmul2 : IntKind.i64.wrap (k * (Bs.length : Int)) = (RB3.length : Int) := by
        rw [← t6]
        exact wrap_i64 _ (by omega)
      clear e1 e2 e3 t1 t2 t4 t5 t6 t7 t8 t9 HX3 HR3 HKq3 HKr3 HBW HB4 HREP
      have qa : w4.cell? ⟨q, 0, none⟩ = some (.slice Aa X.length ca) := HK4.out.cell 0
      have qb : w4.cell? ⟨q, 1, none⟩ = some (.slice Ab Bs.length cb) := HK4.out.cell 1
      go_upto_region 12 with (first
        | (go_at_call 14; (with_reducible refine HO1.out.mono ?_); go_loud (rintro e w5 ⟨rfl, hb5⟩; have HB5 := Lib.hid hb5; have ra : w5.cell? ⟨q2, 0, none⟩ = some (.slice A2 RA3.length c2) := (HL4.out.below hb5 HL4.out.lt).cell 0; have rb : w5.cell? ⟨q2, 1, none⟩ = some (.slice B2 RB3.length d2) := (HL4.out.below hb5 HL4.out.lt).cell 1; clear hb5))
        | (go_at_call 14; (with_reducible refine (HO2.out _ HB5.out).mono ?_); go_loud (rintro e w6 ⟨rfl, hb6⟩; have HB6 := Lib.hid (HB5.out.trans (hb6.mono HB5.out.size)); clear hb6)))
      clear HO1 HO2 ra rb qa qb HB5
      have HX6 := Lib.hid (HX4.out.below HB6.out)
      have HK6 := Lib.hid (HK4.out.below HB6.out HK4.out.lt)
      have HL6 := Lib.hid (HL4.out.below HB6.out HL4.out.lt)
      have HBW6 := Lib.hid (HBW4.out.trans (HB6.out.mono HBW4.out.size))
      have HR1 := Lib.hid (i_RepeatTableau w6 _ X Bs HX6.out 1 (by unfold In64; omega))
      clear HX4 HR4 HK4 HL4 HBW4 HB6
      have qa : w6.cell? ⟨q, 0, none⟩ = some (.slice Aa X.length ca) := HK6.out.cell 0
      have qb : w6.cell? ⟨q, 1, none⟩ = some (.slice Ab Bs.length cb) := HK6.out.cell 1
      go_upto_region 13 with (go_at_call 11; go_loud (refine HR1.out.mono ?_; rintro e w7 ⟨RA7, RB7, v7, cd7, rfl, hrep, ho, hb7⟩; obtain ⟨rfl, rfl, rfl⟩ := HREP1.out _ _ _ hrep; obtain ⟨A7, c7, B7, d7, rfl⟩ := ho.open_; have HY7 := Lib.hid ho.arg; have HB7 := Lib.hid hb7; clear hrep ho hb7))
      clear HR1 HREP1 qa qb
      obtain ⟨q7, hq7⟩ : ∃ q7, q7 = w7.heap.size := ⟨_, rfl⟩
      obtain ⟨W7, hW7⟩ : ∃ W7, W7 = w7.alloc (.cells #[.slice A7 X.length c7, .slice B7 Bs.length d7] tTb) := ⟨_, rfl⟩
      have HB67 := Lib.hid (show Below w6.heap.size w6 W7 from by rw [hW7]; exact HB7.out.trans ((below1 w7 _).mono HB7.out.size))
      have HY := Lib.hid (show TabArg W7 (.agg #[.slice A7 X.length c7, .slice B7 Bs.length d7]) X Bs from by rw [hW7]; exact HY7.out.below (below1 _ _))
      have HKy := Lib.hid (show Blk W7 q7 tTb #[.slice A7 X.length c7, .slice B7 Bs.length d7] from by rw [hW7, hq7]; exact Blk.new _ _ _)
      rw [← hW7, ← hq7]
      clear hW7 hq7 HY7 HB7
      have HX7 := Lib.hid (HX6.out.below HB67.out)
      have HK7 := Lib.hid (HK6.out.below HB67.out HK6.out.lt)
      have HL7 := Lib.hid (HL6.out.below HB67.out HL6.out.lt)
      have HBW7 := Lib.hid (HBW6.out.trans (HB67.out.mono HBW6.out.size))
      have HLK := Lib.hid (l_likeTableau5 W7 _ _ X X Bs Bs HY.out HX7.out)
      rw [show (decide (X = X) && decide (Bs = Bs)) = true from by simp] at HLK
      clear HX6 HK6 HL6 HBW6 HB67 HX7 HY
      have qa : W7.cell? ⟨q, 0, none⟩ = some (.slice Aa X.length ca) := HK7.out.cell 0
      have qb : W7.cell? ⟨q, 1, none⟩ = some (.slice Ab Bs.length cb) := HK7.out.cell 1
      have ya : W7.cell? ⟨q7, 0, none⟩ = some (.slice A7 X.length c7) := HKy.out.cell 0
      have yb : W7.cell? ⟨q7, 1, none⟩ = some (.slice B7 Bs.length d7) := HKy.out.cell 1
      go_wp2_with (go_at_call 13; go_loud (refine HLK.out.mono ?_; rintro e w8 ⟨rfl, hb8⟩; have HB8 := Lib.hid hb8; have m1 : w8.cell? ⟨q, 1, none⟩ = some (.slice Ab Bs.length cb) := (HK7.out.below hb8 HK7.out.lt).cell 1; have m2 : w8.cell? ⟨q2, 1, none⟩ = some (.slice B2 RB3.length d2) := (HL7.out.below hb8 HL7.out.lt).cell 1; clear hb8))
      go_ret
      exact ⟨rfl, HBW7.out.trans (HB8.out.mono HBW7.out.size)⟩
    · have hcn : (cd3 != 0) = true := by simp [hc]
      clear hc
      go_wp2_with fail
      go_ret
      exact ⟨rfl, HBW.out.trans (HB4.out.mono HBW.out.size)⟩
end Go.Proofs.Ytcbgopmonbgmgaa

set_option maxRecDepth 100000
set_option linter.unusedVariables false
set_option linter.unusedSimpArgs false
namespace Go.Proofs.Ytcbgopmonbgmgaa
open Go.ChangeShapes Go.WideShapes Go.ChangeAt Go.RowKit

end Go.Proofs.Ytcbgopmonbgmgaa

set_option maxRecDepth 100000
set_option linter.unusedVariables false
set_option linter.unusedSimpArgs false
namespace Go.Proofs.Ytcbgopmonbgmgaa
open Go.ChangeShapes Go.WideShapes Go.ChangeAt Go.RowKit

theorem u8_of_wf {z : Int} (h : (Lit.int .u8 z).wf = true) : 0 ≤ z ∧ z ≤ 255 := by
  simp [Lit.wf, IntKind.min, IntKind.max, IntKind.signed, IntKind.bits] at h
  omega
theorem open_bytes {H : Type} {enc : TypeId × Value → H} {W : World} {base : Nat} {v : Value} {d : DataW H} {p : List MemPlace}
    (hv : Value.okWide Try.prog W .any base 22 v) (h : DataW.Trod enc Try.prog W 0 (fun _ => true) true 22 v d p) : ∃ n, Bts W v n := by
  obtain ⟨a, len, cap, rfl⟩ := okWide_slice Try.underlying22 hv
  obtain ⟨fuel, hf⟩ := h
  rcases open_ints Try.underlying22 Try.underlying5 (by kernel_rfl) hf with ⟨hcs, _⟩ | ⟨x, l, c, zs, hcs, _, hl, hm, hz, _, hcell, hwz⟩
  · simp [Value.cells] at hcs
    obtain ⟨rfl, rfl, rfl⟩ := hcs
    exact ⟨0, none, 0, rfl, fun k hk => by omega⟩
  · simp [Value.cells] at hcs
    obtain ⟨rfl, rfl, rfl⟩ := hcs
    have hz' : zs.length = cap := by simpa using hz
    refine ⟨len, some x, cap, rfl, fun k hk => ?_⟩
    have hk2 : k < zs.length := by omega
    have hc := hcell k (by omega)
    have hw := u8_of_wf (hwz _ (List.getElem_mem hk2))
    have e : zs.getD k 0 = zs[k] := by simp [List.getD, hk2]
    rw [e] at hc
    have hb := World.block_lt_of_cell? W _ hc
    rw [block_add] at hb
    exact ⟨x, zs[k], rfl, hb, hb, hw.1, hw.2, hc⟩
end Go.Proofs.Ytcbgopmonbgmgaa

