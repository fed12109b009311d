/- Walk: DrawComposeTableaus. | Walks of helpers of the laws: likeInts, whole9, big. | Walks of helpers of the laws: likeRows5, likeTableau5. | A list that grows by append while older blocks, and newer ones that were laid behind its first block, are read. No walk. | Walks: the character of a tableau, InverseMap and ComposeTableaus of the reference. | Walk: valueOf of the program. | Walk: valueOf of the program at lists of any length. -/
import Derived.Test.YtdjhfeaimmpmhaaGreatZc31
import Derived.Test.YtdjhfeaimmpmhaaGreatZc3
import Derived.Test.YtdjhfeaimmpmhaaGreatZc27
import Derived.Test.YtdjhfeaimmpmhaaGreatZc10
import Derived.Test.YtdjhfeaimmpmhaaGreatZc26
import Derived.Test.YtdjhfeaimmpmhaaGreatZc28
import Derived.Test.YtdjhfeaimmpmhaaGreatZc16
import Derived.Test.YtdjhfeaimmpmhaaGreatZc18
import Derived.Test.YtdjhfeaimmpmhaaGreatZc7
set_option maxRecDepth 100000
set_option linter.unusedVariables false
set_option linter.unusedSimpArgs false
namespace Go.Proofs.YtdjhfeaimmpmhaaGreat
open Go.RowKit

/-- two results in cells, stored one behind the other -/
theorem twoRes {W : World} {a b c d u0 u1 v0 v1 : Value} {p : Nat} (h1 : Blk W p tTb #[u0, u1]) (h2 : Blk W (p + 1) tTb #[v0, v1]) :
    Blk ((((W.setCell ⟨p, 0, none⟩ a).setCell ⟨p, 1, none⟩ b).setCell ⟨p + 1, 0, none⟩ c).setCell ⟨p + 1, 1, none⟩ d) p tTb #[a, b] ∧
    Blk ((((W.setCell ⟨p, 0, none⟩ a).setCell ⟨p, 1, none⟩ b).setCell ⟨p + 1, 0, none⟩ c).setCell ⟨p + 1, 1, none⟩ d) (p + 1) tTb #[c, d] ∧
    Blk ((((W.setCell ⟨p + 1, 0, none⟩ c).setCell ⟨p + 1, 1, none⟩ d).setCell ⟨p, 0, none⟩ a).setCell ⟨p, 1, none⟩ b) p tTb #[a, b] ∧
    Blk ((((W.setCell ⟨p + 1, 0, none⟩ c).setCell ⟨p + 1, 1, none⟩ d).setCell ⟨p, 0, none⟩ a).setCell ⟨p, 1, none⟩ b) (p + 1) tTb #[c, d] := by
  have e1 := (h1.set_ 0 a).set_ 1 b
  have e2 := (h2.far (p := ⟨p, 0, none⟩) (by simp) a).far (p := ⟨p, 1, none⟩) (by simp) b
  have e3 := (h2.set_ 0 c).set_ 1 d
  have e4 := (h1.far (p := ⟨p + 1, 0, none⟩) (by simp) c).far (p := ⟨p + 1, 1, none⟩) (by simp) d
  have f1 := (e1.far (p := ⟨p + 1, 0, none⟩) (by simp) c).far (p := ⟨p + 1, 1, none⟩) (by simp) d
  have f2 := (e2.set_ 0 c).set_ 1 d
  have f3 := (e3.far (p := ⟨p, 0, none⟩) (by simp) a).far (p := ⟨p, 1, none⟩) (by simp) b
  have f4 := (e4.set_ 0 a).set_ 1 b
  exact ⟨by simpa using f1, by simpa using f2, by simpa using f4, by simpa using f3⟩
theorem chgTwo {W : World} {p N : Nat} (hN : p + 1 < N) (a b c d : Value) :
    Chg 0 N W ((((W.setCell ⟨p, 0, none⟩ a).setCell ⟨p, 1, none⟩ b).setCell ⟨p + 1, 0, none⟩ c).setCell ⟨p + 1, 1, none⟩ d) ∧
    Chg 0 N W ((((W.setCell ⟨p + 1, 0, none⟩ c).setCell ⟨p + 1, 1, none⟩ d).setCell ⟨p, 0, none⟩ a).setCell ⟨p, 1, none⟩ b) := by
  have hp : ∀ k, (⟨p, k, none⟩ : Addr).block < N := fun k => by show p < N; omega
  have hq : ∀ k, (⟨p + 1, k, none⟩ : Addr).block < N := fun k => hN
  exact ⟨((((Chg.refl 0 N W).setCell (Nat.zero_le _) (hp 0) a).setCell (Nat.zero_le _) (hp 1) b).setCell (Nat.zero_le _) (hq 0) c).setCell (Nat.zero_le _) (hq 1) d,
    ((((Chg.refl 0 N W).setCell (Nat.zero_le _) (hq 0) c).setCell (Nat.zero_le _) (hq 1) d).setCell (Nat.zero_le _) (hp 0) a).setCell (Nat.zero_le _) (hp 1) b⟩
set_option maxHeartbeats 8000000 in
theorem s_DrawComposeTableaus (w : World) (A : Option Addr) (N c : Nat) (hb : ByB w w.heap.size A N) (hN : N ≤ 4096) :
    Calls Tryz.prog 38 #[.slice A N c] w fun e w' => ∃ v u, e = .returned (.tuple #[v, u]) ∧ (∃ X Bs, TabArg w' v X Bs) ∧ (∃ Y Cs, TabArg w' u Y Cs) ∧ Below w.heap.size w w' := by
  obtain ⟨W, hW⟩ : ∃ W, W = (w.alloc (.cells #[.slice none 0 0, .slice none 0 0] tTb)).alloc (.cells #[.slice none 0 0, .slice none 0 0] tTb) := ⟨_, rfl⟩
  have HSW := Lib.hid (show W.heap.size = w.heap.size + 1 + 1 from by rw [hW]; simp)
  have HBW := Lib.hid (show Below w.heap.size w W from by rw [hW]; exact below2 w _ _)
  have HK0 := Lib.hid (show Blk W w.heap.size tTb #[.slice none 0 0, .slice none 0 0] from by rw [hW]; exact (Blk.new _ _ _).alloc _)
  have HK1 := Lib.hid (show Blk W (w.heap.size + 1) tTb #[.slice none 0 0, .slice none 0 0] from by rw [hW]; exact Blk.new1 _ _ _ _)
  have HFR := Lib.hid (s_l01From W A N c ((hb.belowS (Nat.le_refl _) HBW.out).monoS HBW.out.size) hN)
  clear hb
  go_enter Tryz.func38, Tryz.ntmps38
  go_upto_region 1 with fail
  rw [← hW]
  clear hW
  go_upto_region 2 with (go_at_call 49; go_loud (refine HFR.out.mono ?_; rintro e w1 ⟨p, rfl, hs1, hb1⟩; have HS1 := Lib.hid hs1; have HB1 := Lib.hid (HBW.out.trans (hb1.mono HBW.out.size)); have HL0 := Lib.hid (HK0.out.below hb1 HK0.out.lt); have HL1 := Lib.hid (HK1.out.below hb1 HK1.out.lt); have hpg := hs1.ge; have hpl := hs1.lt; clear hs1 hb1))
  have HPW := Lib.hid (show w.heap.size + 1 < p from by have := HSW.out; omega)
  clear HFR HK0 HK1 hpg
  go_upto_region 3 with (go_at_call 99; go_loud (refine (s_l09Spoil w1 W.heap.size p 5 HS1.out (by omega) (by omega)).mono ?_; rintro e w2 ⟨v, rfl, ⟨X, Bs, hst⟩, hg, hs⟩; obtain ⟨Aa, ca, Ab, cb, rfl⟩ := hst.arg.open_; have HST := Lib.hid hst; have HG2 := Lib.hid hg; have HS2 := Lib.hid hs; clear hst hg hs))
  obtain ⟨q, hq⟩ : ∃ q, q = w2.heap.size := ⟨_, rfl⟩
  obtain ⟨W2, hW2⟩ : ∃ W2, W2 = w2.alloc (.cells #[.slice Aa X.length ca, .slice Ab Bs.length cb] tTb) := ⟨_, rfl⟩
  have hbe : Below w2.heap.size w2 W2 := by rw [hW2]; exact below1 _ _
  have HT1 := Lib.hid (HST.out.step (Chg.of_below hbe _ _))
  have HG := Lib.hid (gtrans HG2.out (gof hbe))
  have HS3 := Lib.hid (HS2.out.below hbe)
  have HKq := Lib.hid (show Blk W2 q tTb #[.slice Aa X.length ca, .slice Ab Bs.length cb] from by rw [hW2, hq]; exact Blk.new _ _ _)
  have HQ := Lib.hid (show p < q from by have := HG2.out.size; omega)
  rw [← hW2, ← hq]
  clear hW2 hq hbe HST HG2 HS2
  go_upto_region 4 with (go_at_call 99; go_loud (refine (s_l09Spoil W2 W.heap.size p 4 HS3.out (by omega) (by omega)).mono ?_; rintro e w3 ⟨v, rfl, ⟨Y, Cs, hst⟩, hg, hs⟩; obtain ⟨Ca, da, Cb, db, rfl⟩ := hst.arg.open_; have HST := Lib.hid hst; have HG3 := Lib.hid (gtrans HG.out hg); have HT2 := Lib.hid (HT1.out.step (chgOf hg hpl)); have HKr := Lib.hid (HKq.out.srcD hg (by have := HQ.out; omega)); clear hst hg hs))
  obtain ⟨q2, hq2⟩ : ∃ q2, q2 = w3.heap.size := ⟨_, rfl⟩
  obtain ⟨W3, hW3⟩ : ∃ W3, W3 = w3.alloc (.cells #[.slice Ca Y.length da, .slice Cb Cs.length db] tTb) := ⟨_, rfl⟩
  have hbe : Below w3.heap.size w3 W3 := by rw [hW3]; exact below1 _ _
  have HT3 := Lib.hid (HT2.out.step (Chg.of_below hbe _ _))
  have HU3 := Lib.hid (HST.out.step (Chg.of_below hbe _ _))
  have HG4 := Lib.hid (gtrans HG3.out (gof hbe))
  have HKq3 := Lib.hid (HKr.out.below hbe HKr.out.lt)
  have HKu := Lib.hid (show Blk W3 q2 tTb #[.slice Ca Y.length da, .slice Cb Cs.length db] from by rw [hW3, hq2]; exact Blk.new _ _ _)
  have HQ1 := Lib.hid (show w.heap.size + 1 < q from by have := HQ.out; have := HPW.out; omega)
  have HQ2 := Lib.hid (show w.heap.size + 1 < q2 from by have := HG3.out.size; have := HPW.out; omega)
  rw [← hW3, ← hq2]
  have HR0 := Lib.hid (HL0.out.srcD HG4.out (by have := HPW.out; omega))
  have HR1 := Lib.hid (HL1.out.srcD HG4.out (by have := HPW.out; omega))
  have hws : w1.heap.size ≤ W2.heap.size := HG.out.size
  have HWS := Lib.hid (show w.heap.size + 1 < W2.heap.size from by have := HPW.out; omega)
  have HW1 := Lib.hid (show w.heap.size + 1 < w1.heap.size from by have := HPW.out; omega)
  have HB := Lib.hid (HB1.out.grown HG4.out (by have := HPW.out; omega) (fun b e => by injection e with e; have := HPW.out; omega))
  clear hW3 hq2 hbe hws HT1 HT2 HST HG HG3 HKq HKr HL0 HL1 HS3 HS1 HQ HSW hpl
  have a0 : W3.cell? ⟨q, 0, none⟩ = some (.slice Aa X.length ca) := HKq3.out.cell 0
  have a1 : W3.cell? ⟨q, 1, none⟩ = some (.slice Ab Bs.length cb) := HKq3.out.cell 1
  have b0 : W3.cell? ⟨q2, 0, none⟩ = some (.slice Ca Y.length da) := HKu.out.cell 0
  have b1 : W3.cell? ⟨q2, 1, none⟩ = some (.slice Cb Cs.length db) := HKu.out.cell 1
  have r0 : W3.cell? ⟨w.heap.size, 0, none⟩ = some (.slice none 0 0) := HR0.out.cell 0
  have r1 : W3.cell? ⟨w.heap.size, 1, none⟩ = some (.slice none 0 0) := HR0.out.cell 1
  have r2 := HR0.out.frozen 0
  have r3 := HR0.out.frozen 1
  have s0 : W3.cell? ⟨w.heap.size + 1, 0, none⟩ = some (.slice none 0 0) := HR1.out.cell 0
  have s1 : W3.cell? ⟨w.heap.size + 1, 1, none⟩ = some (.slice none 0 0) := HR1.out.cell 1
  have s2 := HR1.out.frozen 0
  have s3 := HR1.out.frozen 1
  have z1 : ∀ k a, (W3.setCell ⟨w.heap.size, k, none⟩ a).cell? ⟨q2, 0, none⟩ = some (.slice Ca Y.length da) := fun k a => (HKu.out.far (p := ⟨w.heap.size, k, none⟩) (by have := HQ2.out; simp; omega) a).cell 0
  have z2 : ∀ k a, (W3.setCell ⟨w.heap.size, k, none⟩ a).cell? ⟨q2, 1, none⟩ = some (.slice Cb Cs.length db) := fun k a => (HKu.out.far (p := ⟨w.heap.size, k, none⟩) (by have := HQ2.out; simp; omega) a).cell 1
  have z3 : ∀ k a, (W3.setCell ⟨w.heap.size + 1, k, none⟩ a).cell? ⟨q, 0, none⟩ = some (.slice Aa X.length ca) := fun k a => (HKq3.out.far (p := ⟨w.heap.size + 1, k, none⟩) (by have := HQ1.out; simp; omega) a).cell 0
  have z4 : ∀ k a, (W3.setCell ⟨w.heap.size + 1, k, none⟩ a).cell? ⟨q, 1, none⟩ = some (.slice Ab Bs.length cb) := fun k a => (HKq3.out.far (p := ⟨w.heap.size + 1, k, none⟩) (by have := HQ1.out; simp; omega) a).cell 1
  have z5 : ∀ a b, ((W3.setCell ⟨w.heap.size, 0, none⟩ a).setCell ⟨w.heap.size, 1, none⟩ b).cell? ⟨q2, 0, none⟩ = some (.slice Ca Y.length da) := fun a b => ((HKu.out.far (p := ⟨w.heap.size, 0, none⟩) (by have := HQ2.out; simp; omega) a).far (p := ⟨w.heap.size, 1, none⟩) (by have := HQ2.out; simp; omega) b).cell 0
  have z6 : ∀ a b, ((W3.setCell ⟨w.heap.size, 0, none⟩ a).setCell ⟨w.heap.size, 1, none⟩ b).cell? ⟨q2, 1, none⟩ = some (.slice Cb Cs.length db) := fun a b => ((HKu.out.far (p := ⟨w.heap.size, 0, none⟩) (by have := HQ2.out; simp; omega) a).far (p := ⟨w.heap.size, 1, none⟩) (by have := HQ2.out; simp; omega) b).cell 1
  have z7 : ∀ a b, ((W3.setCell ⟨w.heap.size + 1, 0, none⟩ a).setCell ⟨w.heap.size + 1, 1, none⟩ b).cell? ⟨q, 0, none⟩ = some (.slice Aa X.length ca) := fun a b => ((HKq3.out.far (p := ⟨w.heap.size + 1, 0, none⟩) (by have := HQ1.out; simp; omega) a).far (p := ⟨w.heap.size + 1, 1, none⟩) (by have := HQ1.out; simp; omega) b).cell 0
  have z8 : ∀ a b, ((W3.setCell ⟨w.heap.size + 1, 0, none⟩ a).setCell ⟨w.heap.size + 1, 1, none⟩ b).cell? ⟨q, 1, none⟩ = some (.slice Ab Bs.length cb) := fun a b => ((HKq3.out.far (p := ⟨w.heap.size + 1, 0, none⟩) (by have := HQ1.out; simp; omega) a).far (p := ⟨w.heap.size + 1, 1, none⟩) (by have := HQ1.out; simp; omega) b).cell 1
  obtain ⟨k1, k2, k3, k4⟩ := twoRes (a := .slice Aa X.length ca) (b := .slice Ab Bs.length cb) (c := .slice Ca Y.length da) (d := .slice Cb Cs.length db) HR0.out HR1.out
  obtain ⟨t1, t2⟩ := chgTwo (W := W3) HW1.out (.slice Aa X.length ca) (.slice Ab Bs.length cb) (.slice Ca Y.length da) (.slice Cb Cs.length db)
  obtain ⟨t3, t4⟩ := chgTwo (W := W3) HWS.out (.slice Aa X.length ca) (.slice Ab Bs.length cb) (.slice Ca Y.length da) (.slice Cb Cs.length db)
  have HE1 := Lib.hid (HT3.out.step t1).arg
  have HE2 := Lib.hid (HT3.out.step t2).arg
  have HE3 := Lib.hid (HU3.out.step t3).arg
  have HE4 := Lib.hid (HU3.out.step t4).arg
  have HZ1 := Lib.hid k1
  have HZ2 := Lib.hid k2
  have HZ3 := Lib.hid k3
  have HZ4 := Lib.hid k4
  have HL5 := Lib.hid ((((HB.out.setCell (p := ⟨w.heap.size, 0, none⟩) (Nat.le_refl _) (.slice Aa X.length ca)).setCell (p := ⟨w.heap.size, 1, none⟩) (Nat.le_refl _) (.slice Ab Bs.length cb)).setCell (p := ⟨w.heap.size + 1, 0, none⟩) (Nat.le_succ _) (.slice Ca Y.length da)).setCell (p := ⟨w.heap.size + 1, 1, none⟩) (Nat.le_succ _) (.slice Cb Cs.length db))
  have HL6 := Lib.hid ((((HB.out.setCell (p := ⟨w.heap.size + 1, 0, none⟩) (Nat.le_succ _) (.slice Ca Y.length da)).setCell (p := ⟨w.heap.size + 1, 1, none⟩) (Nat.le_succ _) (.slice Cb Cs.length db)).setCell (p := ⟨w.heap.size, 0, none⟩) (Nat.le_refl _) (.slice Aa X.length ca)).setCell (p := ⟨w.heap.size, 1, none⟩) (Nat.le_refl _) (.slice Ab Bs.length cb))
  clear k1 k2 k3 k4 t1 t2 t3 t4
  go_region
  all_goals
    go_wp2_with fail
    obtain ⟨V, hV⟩ : ∃ V, V = (((W3.setCell ⟨w.heap.size, 0, none⟩ (.slice Aa X.length ca)).setCell ⟨w.heap.size, 1, none⟩ (.slice Ab Bs.length cb)).setCell ⟨w.heap.size + 1, 0, none⟩ (.slice Ca Y.length da)).setCell ⟨w.heap.size + 1, 1, none⟩ (.slice Cb Cs.length db) := ⟨_, rfl⟩
    rw [← hV] at HZ1 HZ2 HE1 HE3 HL5
    rw [← hV]
    clear hV
    have g0 : V.cell? ⟨w.heap.size, 0, none⟩ = some (.slice Aa X.length ca) := HZ1.out.cell 0
    have g1 : V.cell? ⟨w.heap.size, 1, none⟩ = some (.slice Ab Bs.length cb) := HZ1.out.cell 1
    have g2 : V.cell? ⟨w.heap.size + 1, 0, none⟩ = some (.slice Ca Y.length da) := HZ2.out.cell 0
    have g3 : V.cell? ⟨w.heap.size + 1, 1, none⟩ = some (.slice Cb Cs.length db) := HZ2.out.cell 1
    refine bodyPost_ret (v := .tuple #[.agg #[.slice Aa X.length ca, .slice Ab Bs.length cb], .agg #[.slice Ca Y.length da, .slice Cb Cs.length db]]) ?_ rfl ⟨_, _, rfl, ⟨X, Bs, HE1.out.drewN 1⟩, ⟨Y, Cs, HE3.out.drewN 1⟩, below_drewN HL5.out 1⟩
    simp [results, Tryz.results38, go_sem, g0, g1, g2, g3]
end Go.Proofs.YtdjhfeaimmpmhaaGreat

set_option maxRecDepth 100000
set_option linter.unusedVariables false
set_option linter.unusedSimpArgs false
namespace Go.Proofs.YtdjhfeaimmpmhaaGreat
open Go.RowKit

set_option maxHeartbeats 400000 in
theorem l_likeInts (w : World) (a b : Value) (xs ys : List Int) (ha : Ints w a xs) (hb : Ints w b ys) :
    Calls Tryz.prog 15 #[a, b] w fun e w' => e = .returned (.bool (decide (xs = ys))) ∧ ∃ n, w' = w.drewN n := by
  obtain ⟨A, c, rfl, h1, h2, h3⟩ := ha.open_
  obtain ⟨B, d, rfl, g1, g2, g3⟩ := hb.open_
  clear ha hb
  have H3 := Lib.hid h3
  have G3 := Lib.hid g3
  clear h3 g3
  by_cases hl : xs.length = ys.length
  · have hl' : (((xs.length : Nat) : Int) != ((ys.length : Nat) : Int)) = false := by simp [hl]
    have HL := Lib.hid hl
    clear hl
    have g4 : ys.length ≤ xs.length := by rw [HL.out]; omega
    have g5 : xs.length ≤ ys.length := by rw [HL.out]; omega
    go_enter Tryz.func15, Tryz.ntmps15
    go_wp2
    go_loopw [5] (fun i wr => ∃ k n : Nat, k ≤ xs.length ∧ i = .int .i64 k ∧ xs.take k = ys.take k ∧ wr = w.drewN n) (fun i _ => xs.length - (intOf i).toNat)
    case atStart => exact ⟨0, 0, Nat.zero_le _, rfl, rfl, rfl⟩
    case round =>
      obtain ⟨k, n, hk, rfl, ht, rfl⟩ := hrel
      have HT := Lib.hid ht
      clear ht
      by_cases hlt : k < xs.length
      · obtain ⟨ad, z, rfl, hz, hz2, hc⟩ := H3.out k hlt
        obtain ⟨ad', y, rfl, hy, hy2, hc'⟩ := G3.out k (by omega)
        have HZ := Lib.hid hz
        have HY := Lib.hid hy
        clear hz hy hz2 hy2
        go_wp2
        go_quiet (fail)
        go_wp2
        · have hne : (z != y) = true := by assumption
          go_ret
          refine ⟨ret_bool ?_, _, World.drewN_drewN _ _ _⟩
          symm
          simp only [decide_eq_false_iff_not]
          rintro rfl
          have := HZ.out.symm.trans HY.out
          simp at this hne
          exact hne this
        · have hne : (z != y) = false := by assumption
          go_roundw
          case rel => exact ⟨k + 1, _, by omega, by go_num, take_eq_succ HT.out HZ.out HY.out (by simpa using hne), rfl⟩
          case measure => simp [intOf]; omega
      · have : k = xs.length := by omega
        subst this
        go_wp2
        go_ret
        refine ⟨ret_bool ?_, _, rfl⟩
        have e := HT.out
        rw [List.take_length, List.take_of_length_le (by omega)] at e
        simp [e]
  · have hl' : (((xs.length : Nat) : Int) != ((ys.length : Nat) : Int)) = true := by simp; omega
    have HL := Lib.hid hl
    clear hl
    go_enter Tryz.func15, Tryz.ntmps15
    go_wp2
    go_ret
    refine ⟨ret_bool ?_, 0, rfl⟩
    have := HL.out
    symm
    simp only [decide_eq_false_iff_not]
    rintro rfl
    exact this rfl

set_option maxHeartbeats 400000 in
theorem l_big (w : World) (A : Option Addr) (n c : Nat) :
    Calls Tryz.prog 9 #[.slice A n c] w fun e w' => e = .returned (.bool (decide (4096 < n))) ∧ w = w' := by
  by_cases h : 4096 < n
  · have hd : (4096 : Int) < (n : Int) := by omega
    have HD := Lib.hid (show decide (4096 < n) = true by simp [h])
    clear h
    go_enter Tryz.func9, Tryz.ntmps9
    go_wp2_with fail
    go_ret
    exact ⟨ret_bool HD.out.symm, rfl⟩
  · have hd : ¬ ((4096 : Int) < (n : Int)) := by omega
    have HD := Lib.hid (show decide (4096 < n) = false by simp [h])
    clear h
    go_enter Tryz.func9, Tryz.ntmps9
    go_wp2_with fail
    go_ret
    exact ⟨ret_bool HD.out.symm, rfl⟩
end Go.Proofs.YtdjhfeaimmpmhaaGreat

set_option maxRecDepth 100000
set_option linter.unusedVariables false
set_option linter.unusedSimpArgs false
namespace Go.Proofs.YtdjhfeaimmpmhaaGreat
open Go.RowKit

set_option maxHeartbeats 4000000 in
theorem l_likeRows5 (w : World) (a b : Value) (xs ys : List (List Int)) (ha : Rows w a xs) (hb : Rows w b ys) :
    Calls Tryz.prog 105 #[a, b] w fun e w' => e = .returned (.bool (decide (xs = ys))) ∧ ∃ n, w' = w.drewN n := by
  obtain ⟨A, c, rfl, h1, h2, h3⟩ := ha.open_
  obtain ⟨B, d, rfl, g1, g2, g3⟩ := hb.open_
  clear ha hb
  have H3 := Lib.hid h3
  have G3 := Lib.hid g3
  clear h3 g3
  by_cases hl : xs.length = ys.length
  · have hl' : (((xs.length : Nat) : Int) != ((ys.length : Nat) : Int)) = false := by simp [hl]
    have HL := Lib.hid hl
    clear hl
    have g4 : ys.length ≤ xs.length := by rw [HL.out]; omega
    have g5 : xs.length ≤ ys.length := by rw [HL.out]; omega
    go_enter Tryz.func105, Tryz.ntmps105
    go_wp2
    go_loopw [5] (fun i wr => ∃ k n : Nat, k ≤ xs.length ∧ i = .int .i64 k ∧ xs.take k = ys.take k ∧ wr = w.drewN n) (fun i _ => xs.length - (intOf i).toNat)
    case atStart => exact ⟨0, 0, Nat.zero_le _, rfl, rfl, rfl⟩
    case round =>
      obtain ⟨k, n, hk, rfl, ht, rfl⟩ := hrel
      have HT := Lib.hid ht
      clear ht
      by_cases hlt : k < xs.length
      · obtain ⟨ad, u, z, rfl, hz, hz2, hc⟩ := H3.out k hlt
        obtain ⟨ad', u', y, rfl, hy, hy2, hc'⟩ := G3.out k (by omega)
        have HZ := Lib.hid hz
        have HY := Lib.hid hy
        have HZ2 := Lib.hid hz2
        have HY2 := Lib.hid hy2
        clear hz hy hz2 hy2
        have HLI := Lib.hid (fun m => l_likeInts (w.drewN m) u u' z y (HZ2.out.drewN m) (HY2.out.drewN m))
        by_cases hzy : z = y
        · have HZY := Lib.hid hzy
          simp only [show decide (z = y) = true from decide_eq_true hzy] at HLI
          clear hzy
          go_wp2
          go_quiet (first
            | (go_at_call 15; exact quiet_more (HLI.out _)))
          go_wp2
          go_roundw
          case rel => exact ⟨k + 1, _, by omega, by go_num, rtake_succ HT.out HZ.out HY.out HZY.out, rfl⟩
          case measure => simp [intOf]; omega
        · have HZY := Lib.hid hzy
          simp only [show decide (z = y) = false from decide_eq_false hzy] at HLI
          clear hzy
          go_wp2
          go_quiet (first
            | (go_at_call 15; exact quiet_more (HLI.out _)))
          go_wp2
          go_ret
          refine ⟨ret_bool ?_, _, by first | rfl | exact World.drewN_drewN _ _ _ | simp⟩
          symm
          simp only [decide_eq_false_iff_not]
          rintro rfl
          have := HZ.out.symm.trans HY.out
          injection this with this
          exact HZY.out this
      · have : k = xs.length := by omega
        subst this
        go_wp2
        go_ret
        refine ⟨ret_bool ?_, _, rfl⟩
        have e := HT.out
        rw [List.take_length, List.take_of_length_le (by omega)] at e
        simp [e]
  · have hl' : (((xs.length : Nat) : Int) != ((ys.length : Nat) : Int)) = true := by simp; omega
    have HL := Lib.hid hl
    clear hl
    go_enter Tryz.func105, Tryz.ntmps105
    go_wp2
    go_ret
    refine ⟨ret_bool ?_, 0, rfl⟩
    have := HL.out
    symm
    simp only [decide_eq_false_iff_not]
    rintro rfl
    exact this rfl
set_option maxHeartbeats 4000000 in
theorem l_likeTableau5 (w : World) (v v' : Value) (A A' : List (List Int)) (Bs Bs' : List Int) (ha : TabArg w v A Bs) (hb : TabArg w v' A' Bs') :
    Calls Tryz.prog 41 #[v, v'] w fun e w' => e = .returned (.bool (decide (A = A') && decide (Bs = Bs'))) ∧ Below w.heap.size w w' := by
  obtain ⟨va, vb, rfl, ha1, ha2⟩ := ha
  obtain ⟨va', vb', rfl, hb1, hb2⟩ := hb
  obtain ⟨A1, c1, rfl, -, -, -⟩ := ha1.open_
  obtain ⟨A2, c2, rfl, -, -, -⟩ := ha2.open_
  obtain ⟨A3, c3, rfl, -, -, -⟩ := hb1.open_
  obtain ⟨A4, c4, rfl, -, -, -⟩ := hb2.open_
  obtain ⟨W, hW⟩ : ∃ W, W = (w.alloc (.cells #[.slice A1 A.length c1, .slice A2 Bs.length c2] 45)).alloc (.cells #[.slice A3 A'.length c3, .slice A4 Bs'.length c4] 45) := ⟨_, rfl⟩
  have hbw : Below w.heap.size w W := by rw [hW]; exact below2 w _ _
  have HBW := Lib.hid hbw
  have HK1 := Lib.hid (show Blk W w.heap.size 45 #[.slice A1 A.length c1, .slice A2 Bs.length c2] from by rw [hW]; exact (Blk.new _ _ _).alloc _)
  have HK2 := Lib.hid (show Blk W (w.heap.size + 1) 45 #[.slice A3 A'.length c3, .slice A4 Bs'.length c4] from by rw [hW]; exact Blk.new1 _ _ _ _)
  have HR1 := Lib.hid (ha1.below hbw)
  have HR2 := Lib.hid (hb1.below hbw)
  have HI1 := Lib.hid (ha2.below hbw)
  have HI2 := Lib.hid (hb2.below hbw)
  have HLR := Lib.hid (fun m => l_likeRows5 (W.drewN m) _ _ A A' (HR1.out.drewN m) (HR2.out.drewN m))
  have HLI := Lib.hid (fun m => l_likeInts (W.drewN m) _ _ Bs Bs' (HI1.out.drewN m) (HI2.out.drewN m))
  clear ha1 ha2 hb1 hb2 hbw
  generalize decide (A = A') = d1 at *
  generalize decide (Bs = Bs') = d2 at *
  have q0 : ∀ m, (W.drewN m).cell? ⟨w.heap.size, 0, none⟩ = some (.slice A1 A.length c1) := fun m => HK1.out.cell 0
  have q1 : ∀ m, (W.drewN m).cell? ⟨w.heap.size, 1, none⟩ = some (.slice A2 Bs.length c2) := fun m => HK1.out.cell 1
  have q2 : ∀ m, (W.drewN m).cell? ⟨w.heap.size + 1, 0, none⟩ = some (.slice A3 A'.length c3) := fun m => HK2.out.cell 0
  have q3 : ∀ m, (W.drewN m).cell? ⟨w.heap.size + 1, 1, none⟩ = some (.slice A4 Bs'.length c4) := fun m => HK2.out.cell 1
  have p0 : W.cell? ⟨w.heap.size, 0, none⟩ = some (.slice A1 A.length c1) := HK1.out.cell 0
  have p1 : W.cell? ⟨w.heap.size, 1, none⟩ = some (.slice A2 Bs.length c2) := HK1.out.cell 1
  have p2 : W.cell? ⟨w.heap.size + 1, 0, none⟩ = some (.slice A3 A'.length c3) := HK2.out.cell 0
  have p3 : W.cell? ⟨w.heap.size + 1, 1, none⟩ = some (.slice A4 Bs'.length c4) := HK2.out.cell 1
  go_enter Tryz.func41, Tryz.ntmps41
  go_upto_region 1 with fail
  rw [← hW]
  clear hW
  cases d1 with
  | false =>
    go_wp2_with (go_at_call 105; refine (HLR.out 0).mono ?_; rintro e w3 ⟨rfl, n3, rfl⟩)
    go_ret
    exact ⟨rfl, below_drewN (below_drewN HBW.out 0) n3⟩
  | true =>
    go_wp2_with (first
      | (go_at_call 105; refine (HLR.out 0).mono ?_; rintro e w3 ⟨rfl, n3, rfl⟩; rw [World.drewN_drewN])
      | (go_at_call 15; refine (HLI.out _).mono ?_; rintro e w4 ⟨rfl, n4, rfl⟩))
    go_ret
    exact ⟨rfl, below_drewN HBW.out _⟩
end Go.Proofs.YtdjhfeaimmpmhaaGreat

set_option linter.unusedVariables false
set_option linter.unusedSimpArgs false
namespace Go.Proofs.YtdjhfeaimmpmhaaGreat
open Go.RowKit

/-- wr came from w3 by appends to a list that first lay in block g -/
structure Apd (w3 wr : World) (g : Nat) (o : Value) : Prop where
  gr : w3.grownBy wr (some g)
  ob : ∀ b, o.ownBlock = some b → b = g ∨ w3.heap.size ≤ b
section
variable {w3 wr w5 w6 : World} {g : Nat} {o v1 : Value}
theorem Apd.refl (h : o.ownBlock = some g) : Apd w3 w3 g o := ⟨World.grownBy.refl _ _, fun b hb => .inl (by rw [h] at hb; injection hb with hb; exact hb.symm)⟩
theorem Apd.step (h : Apd w3 wr g o) (hb : Below wr.heap.size wr w5) : Apd w3 w5 g o :=
  ⟨⟨hb.os.trans h.gr.os, hb.tape.trans h.gr.tape, hb.output.trans h.gr.output, Nat.le_trans h.gr.size hb.size, fun k hk hne => (hb.block k (Nat.lt_of_lt_of_le hk h.gr.size)).trans (h.gr.block k hk hne)⟩, h.ob⟩
theorem Apd.app (h : Apd w3 wr g o) (hg : Grow wr w6 o v1) : Apd w3 w6 g v1 := by
  refine ⟨⟨hg.1.os.trans h.gr.os, hg.1.tape.trans h.gr.tape, hg.1.output.trans h.gr.output, Nat.le_trans h.gr.size hg.1.size, fun k hk hne => (hg.1.block k (Nat.lt_of_lt_of_le hk h.gr.size) (fun e => ?_)).trans (h.gr.block k hk hne)⟩, fun b hb => ?_⟩
  · rcases h.ob k e.symm with e2 | e2
    · exact hne (by rw [e2])
    · omega
  · rcases hg.2 with e | ⟨b', e, hle⟩
    · rw [e] at hb; exact h.ob b hb
    · rw [e] at hb
      injection hb with hb
      subst hb
      exact .inr (Nat.le_trans h.gr.size hle)
theorem Apd.cell (h : Apd w3 wr g o) {ad : Addr} {v : Value} (hc : w3.cell? ad = some v) (hne : ad.block ≠ g) : wr.cell? ad = some v := by
  exact h.gr.cell hc (fun e => hne (by injection e))
theorem Apd.ownBlk (h : Apd w3 wr g o) {B : Nat} {e : TypeId} {u : Value} {vs : List Value} (hO : Own w3 B e u vs) (hlt : g < B) : Own wr B e u vs := hO.kept h.gr (by
  cases hb : u.ownBlock with
  | none => exact .inl rfl
  | some b => exact .inr fun e => by injection e with e; have := hO.ge b hb; omega)
theorem Apd.ints (h : Apd w3 wr g o) {B : Nat} {e : TypeId} {u : Value} {zs : List Int} (hO : OwnInts w3 B e u zs) (hlt : g < B) : OwnInts wr B e u zs := ⟨h.ownBlk hO.1 hlt, hO.2⟩
end
end Go.Proofs.YtdjhfeaimmpmhaaGreat

set_option maxRecDepth 100000
set_option linter.unusedVariables false
set_option linter.unusedSimpArgs false
namespace Go.Proofs.YtdjhfeaimmpmhaaGreat
open Go.RowKit

theorem chT_nums (A : List (List Int)) (B : List Int) : Nums (chT A B) := chF_nums _ _ _
theorem chT_take1 (A : List (List Int)) (B : List Int) : (chT A B).take 1 = [1] := by
  have h := chT_len A B
  have h0 : (chT A B).getD 0 0 = 1 := (chr_chF B.length (fT A) (fB B)).one
  cases hc : chT A B with
  | nil => rw [hc] at h; simp at h
  | cons x l => rw [hc] at h0; simp at h0; simp [h0]
theorem chT_takeS (A : List (List Int)) (B : List Int) {i : Nat} (hi : i < 37) : (chT A B).take (i + 1 + 1) = (chT A B).take (i + 1) ++ [(chT A B).getD (i + 1) 0] := by
  have h := chT_len A B
  rw [List.take_add_one, List.getD_eq_getElem?_getD, List.getElem?_eq_getElem (by omega)]
  rfl
set_option maxHeartbeats 8000000 in
theorem im_character {A : List (List Int)} {Bs : List Int} (hT : SqT A Bs Bs.length) (h1 : 1 ≤ Bs.length) (h8 : Bs.length ≤ 8) (w : World) (va : Value) (ha : TabArg w va A Bs) :
    Calls Tryz.prog 106 #[va] w fun e w' => ∃ x, e = .returned x ∧ OwnInts w' w.heap.size tI x (chT A Bs) ∧ Below w.heap.size w w' := by
  obtain ⟨va1, vb1, rfl, ha1, ha2⟩ := ha
  obtain ⟨A1, c1, rfl, -, -, -⟩ := ha1.open_
  obtain ⟨A2, c2, rfl, -, -, -⟩ := ha2.open_
  obtain ⟨W, hW⟩ : ∃ W, W = w.alloc (.cells #[.slice A1 A.length c1, .slice A2 Bs.length c2] 45) := ⟨_, rfl⟩
  have hbw : Below w.heap.size w W := by rw [hW]; exact below1 w _
  have HBW := Lib.hid hbw
  have HKF := Lib.hid (show Blk W w.heap.size 45 #[.slice A1 A.length c1, .slice A2 Bs.length c2] from by rw [hW]; exact Blk.new _ _ _)
  have HTA := Lib.hid (show TabArg W (.agg #[.slice A1 A.length c1, .slice A2 Bs.length c2]) A Bs from ⟨_, _, rfl, ha1.below hbw, ha2.below hbw⟩)
  have HLK := Lib.hid (fun n (hn : n < 37) => im_weight hT h1 h8 n hn)
  have OL := Lib.hid (show Own (W.alloc (.cells #[.int .i64 1] tI)) W.heap.size tI (.slice (some ⟨W.heap.size, 0, none⟩) 1 1) (ints ((chT A Bs).take 1)) from by rw [chT_take1]; exact own_lit W tI [.int .i64 1] (by simp [maxLen]))
  have HBO := Lib.hid (below1 W (.cells #[.int .i64 1] tI))
  clear ha1 ha2 hbw
  go_enter Tryz.func106, Tryz.ntmps106
  go_upto_region 1 with fail
  rw [← hW]
  clear hW
  go_wp2_with (go_at_call 56; go_loud (refine (i_treesTo _ 6 (by omega)).mono ?_; rintro e w3 ⟨x3, rfl, hl3, hb3⟩; rw [show allG treesN 6 = T6n from rfl] at hl3; obtain ⟨A3, c3, he3, -, -, -⟩ := hl3.rows.open_; rw [List.length_map, T6n_len] at he3; subst he3; have HX3 := Lib.hid hl3; have HB3 := Lib.hid (HBO.out.trans (hb3.mono HBO.out.size)); have HO3 := Lib.hid (OL.out.below hb3); have HGS := Lib.hid (show W.heap.size < (W.alloc (.cells #[.int .i64 1] tI)).heap.size from by simp); clear hl3 hb3))
  go_loopw [3, 9] (fun o x wr => ∃ i : Nat, i ≤ 37 ∧ x = .int .i64 i ∧ Own wr W.heap.size tI o (ints ((chT A Bs).take (i + 1))) ∧ Apd w3 wr W.heap.size o ∧ Below W.heap.size W wr) (fun _ x _ => 37 - (intOf x).toNat)
  case atStart => exact ⟨0, Nat.zero_le _, rfl, HO3.out, Apd.refl rfl, HB3.out⟩
  case round =>
    obtain ⟨i, hi, rfl, ho, hb, hb2⟩ := hrel
    rename World => wq
    have HB := Lib.hid hb
    have HBQ := Lib.hid hb2
    have hel : ((chT A Bs).take (i + 1)).length = i + 1 := by rw [List.length_take, chT_len]; omega
    have hol := ho.cells.open_
    rw [ints_len, hel] at hol
    obtain ⟨Ao, co, rfl, -, -⟩ := hol
    have HEL := Lib.hid hel
    have HO := Lib.hid ho
    clear hb hb2 ho hel OL HO3
    by_cases hlt : i < 37
    · obtain ⟨ad, At, ct, t, rfl, ht, hti, hcr⟩ := (show Rows wq (.slice A3 37 c3) (T6n.map up) from (HX3.out.keptLt HB.out.gr HGS.out).rows).treeB hlt
      have htr := tr_at ht
      subst htr
      have HKQ := Lib.hid (HKF.out.below HBQ.out HKF.out.lt)
      have q0 : wq.cell? ⟨w.heap.size, 0, none⟩ = some (.slice A1 A.length c1) := HKQ.out.cell 0
      have q1 : wq.cell? ⟨w.heap.size, 1, none⟩ = some (.slice A2 Bs.length c2) := HKQ.out.cell 1
      have HLC := Lib.hid (HLK.out i hlt wq _ _ (HTA.out.below HBQ.out) hti)
      have HTS := Lib.hid (show ints ((chT A Bs).take (i + 1 + 1)) = ints ((chT A Bs).take (i + 1)) ++ [.int .i64 ((chT A Bs).getD (i + 1) 0)] from by rw [chT_takeS A Bs hlt, ints, ints, List.map_append]; rfl)
      have hii : (i : Int) < 37 := by omega
      generalize (chT A Bs).getD (i + 1) 0 = cc at HLC HTS
      clear hti ht
      go_wp2_with (first
        | (go_at_call 159; go_loud (refine HLC.out.mono ?_; rintro e w5 ⟨rfl, hb5⟩; have HB5 := Lib.hid hb5; have HO5 := Lib.hid (HO.out.below hb5); clear hb5))
        | (at_builtin; go_loud (refine wpList_app1 T_int HO5.out (by rw [ints_len, HEL.out]; omega) (Nat.le_trans HBQ.out.size HB5.out.size) (by rfl) rfl (by rfl) (by rfl) (by rfl) ?_; intro v1 w6 hown1 hgr1; have HNN := Lib.hid hown1; have HGR := Lib.hid hgr1; clear hown1 hgr1)))
      go_roundw
      case rel => exact ⟨i + 1, by omega, by go_num, by rw [HTS.out]; exact HNN.out, (HB.out.step HB5.out).app HGR.out, HGR.out.below (HBQ.out.trans (HB5.out.mono HBQ.out.size)) (Nat.le_trans HBQ.out.size HB5.out.size) HO.out.ge⟩
      case measure => simp [intOf]; omega
    · have hil : i = 37 := by omega
      subst hil
      have htl : (chT A Bs).take (37 + 1) = chT A Bs := List.take_of_length_le (by rw [chT_len]; omega)
      rw [htl] at HO
      go_wp2_with fail
      go_ret
      exact ⟨_, rfl, ⟨HO.out.mono HBW.out.size, fun z hz => in64_num (chT_nums A Bs z hz)⟩, HBW.out.trans (HBQ.out.mono HBW.out.size)⟩
set_option maxHeartbeats 2000000 in
theorem i_CharacterOf0 (w : World) (v : Value) (A : List (List Int)) (Bs : List Int) (ha : TabArg w v A Bs) (hb : tabB A Bs = true) :
    Calls Tryz.prog 42 #[v] w fun e w' => ∃ x, e = .returned (.tuple #[x, .int .i64 0]) ∧ OwnInts w' w.heap.size tI x (chT A Bs) ∧ Below w.heap.size w w' := by
  obtain ⟨va1, vb1, rfl, ha1, ha2⟩ := ha
  obtain ⟨A1, c1, rfl, -, -, -⟩ := ha1.open_
  obtain ⟨A2, c2, rfl, -, -, -⟩ := ha2.open_
  obtain ⟨W, hW⟩ : ∃ W, W = w.alloc (.cells #[.slice A1 A.length c1, .slice A2 Bs.length c2] 45) := ⟨_, rfl⟩
  have hbw : Below w.heap.size w W := by rw [hW]; exact below1 w _
  have HBW := Lib.hid hbw
  have HKF := Lib.hid (show Blk W w.heap.size 45 #[.slice A1 A.length c1, .slice A2 Bs.length c2] from by rw [hW]; exact Blk.new _ _ _)
  have HTA := Lib.hid (show TabArg W (.agg #[.slice A1 A.length c1, .slice A2 Bs.length c2]) A Bs from ⟨_, _, rfl, ha1.below hbw, ha2.below hbw⟩)
  have HIT := Lib.hid (i_IsTableau W _ A Bs HTA.out)
  rw [hb] at HIT
  have hI := isTab_of hb
  have HO := Lib.hid (fun X (hX : TabArg X (.agg #[.slice A1 A.length c1, .slice A2 Bs.length c2]) A Bs) => im_character (SqT.of hI) hI.lo hI.hi X _ hX)
  clear ha1 ha2 hbw hb hI
  have q0 : W.cell? ⟨w.heap.size, 0, none⟩ = some (.slice A1 A.length c1) := HKF.out.cell 0
  have q1 : W.cell? ⟨w.heap.size, 1, none⟩ = some (.slice A2 Bs.length c2) := HKF.out.cell 1
  go_enter Tryz.func42, Tryz.ntmps42
  go_upto_region 1 with fail
  rw [← hW]
  clear hW
  go_wp2_with (first
    | (go_at_call 100; go_loud (refine HIT.out.mono ?_; rintro e w2 ⟨rfl, hb2⟩; have HB2 := Lib.hid hb2; have m1 : w2.cell? ⟨w.heap.size, 0, none⟩ = some (.slice A1 A.length c1) := (HKF.out.below hb2 HKF.out.lt).cell 0; have m2 : w2.cell? ⟨w.heap.size, 1, none⟩ = some (.slice A2 Bs.length c2) := (HKF.out.below hb2 HKF.out.lt).cell 1; clear hb2))
    | (go_at_call 106; go_loud (refine (HO.out _ (HTA.out.below HB2.out)).mono ?_; rintro e w3 ⟨x3, rfl, ho3, hb3⟩; have HO3 := Lib.hid (ho3.mono (Nat.le_trans HBW.out.size HB2.out.size)); have HB3 := Lib.hid (HB2.out.trans (hb3.mono HB2.out.size)); clear ho3 hb3)))
  go_ret2
  exact ⟨_, rfl, HO3.out, HBW.out.trans (HB3.out.mono HBW.out.size)⟩
end Go.Proofs.YtdjhfeaimmpmhaaGreat

set_option maxRecDepth 100000
set_option linter.unusedVariables false
set_option linter.unusedSimpArgs false
namespace Go.Proofs.YtdjhfeaimmpmhaaGreat
open Go.RowKit

set_option maxHeartbeats 2000000 in
theorem i_valueOf (w : World) (va vp : Value) (a : List Int) (ps : List Nat) (h1 : Ints w va a) (l1 : a.length = 38) (hN : Nums a) (h2 : Ints w vp (up ps)) (hp : ∀ p ∈ ps, p < 38) :
    Calls Tryz.prog 142 #[va, vp] w fun e w' => e = .returned (.int .i64 (valZ a ps)) ∧ w = w' := by
  obtain ⟨A, c, rfl, -, -, -⟩ := h1.open_
  rw [l1] at h1 ⊢
  have HA := Lib.hid h1
  have HN := Lib.hid hN
  have HP := Lib.hid hp
  obtain ⟨A2, c2, rfl, hc2, hc3, g2⟩ := h2.open_
  rw [up_len] at g2 hc2 ⊢
  have G2 := Lib.hid g2
  clear h1 h2 l1 hN hp g2
  go_enter Tryz.func142, Tryz.ntmps142
  go_wp2_with fail
  go_loop [5, 10] (fun x y => ∃ k : Nat, k ≤ ps.length ∧ x = .int .i64 (valZ a (ps.take k)) ∧ y = .int .i64 k) (fun _ y => ps.length - (intOf y).toNat)
  case atStart => exact ⟨0, Nat.zero_le _, rfl, rfl⟩
  case round =>
    obtain ⟨k, hk, rfl, rfl⟩ := hrel
    have hv := valZ_bd a (ps.take k)
    by_cases hlt : k < ps.length
    · obtain ⟨p, hpk⟩ : ∃ p, ps[k]? = some p := ⟨_, List.getElem?_eq_getElem hlt⟩
      have hp38 := HP.out p (List.mem_of_getElem? hpk)
      obtain ⟨a2, z, rfl, hz, -, hcz⟩ := G2.out k hlt
      have hze : z = (p : Int) := by
        unfold up at hz
        rw [List.getElem?_map, hpk] at hz
        injection hz with hz
        exact hz.symm
      subst hze
      obtain ⟨ad, rfl, hcx, hx0, hx1⟩ := map_cell HA.out HN.out hp38
      have HV := Lib.hid (show valZ a (ps.take (k + 1)) = valZ a (ps.take k) * a.getD p 0 % 10007 from by rw [List.take_add_one, hpk]; exact valZ_snoc a _ p)
      generalize a.getD p 0 = y at *
      generalize valZ a (ps.take k) = s at *
      obtain ⟨p1, p2⟩ := mul_bd 10006 10006 hv.1 hv.2 hx0 hx1
      have hkk : (k : Int) < (ps.length : Int) := by omega
      have hpp : (p : Int) < 38 := by omega
      clear hz hpk
      go_wp2_with (go_at_call 60; refine (i_num _ _ (by omega) (by omega)).mono ?_; rintro e w' ⟨rfl, rfl⟩)
      go_roundw
      case rel => exact ⟨k + 1, by omega, by rw [HV.out], by go_num⟩
      case measure => simp [intOf]; omega
    · have hkl : ps.take k = ps := List.take_of_length_le (by omega)
      rw [hkl]
      clear hkl
      go_wp2_with fail
      go_ret
      exact ⟨rfl, rfl⟩
end Go.Proofs.YtdjhfeaimmpmhaaGreat

set_option maxRecDepth 100000
set_option linter.unusedVariables false
set_option linter.unusedSimpArgs false
namespace Go.Proofs.YtdjhfeaimmpmhaaGreat
open Go.RowKit

theorem map_cellG {w : World} {A : Option Addr} {n c : Nat} {a : List Int} (h : Ints w (.slice A n c) a) (hm : ∀ z ∈ a, 0 ≤ z ∧ z ≤ 10006) {k : Nat} (hk : k < a.length) :
    ∃ ad, A = some ad ∧ w.cell? (ad.add k) = some (.int .i64 (a.getD k 0)) ∧ 0 ≤ a.getD k 0 ∧ a.getD k 0 ≤ 10006 := by
  obtain ⟨A', c', he, -, -, h3⟩ := h.open_
  simp only [Value.slice.injEq] at he
  obtain ⟨rfl, hl, rfl⟩ := he
  obtain ⟨ad, z, rfl, hz, -, hc⟩ := h3 k (by omega)
  rw [ints_getD hz]
  exact ⟨ad, rfl, hc, hm z (List.mem_of_getElem? hz)⟩
set_option maxHeartbeats 2000000 in
theorem i_valueOfG (w : World) (va vp : Value) (a : List Int) (ps : List Nat) (h1 : Ints w va a) (l1 : a.length ≤ 38) (hN : Nums a) (h2 : Ints w vp (up ps)) (hp : ∀ p ∈ ps, p < a.length) :
    Calls Tryz.prog 142 #[va, vp] w fun e w' => e = .returned (.int .i64 (valZ a ps)) ∧ w = w' := by
  obtain ⟨A, c, rfl, -, -, -⟩ := h1.open_
  have HA := Lib.hid h1
  have HN := Lib.hid hN
  have HP := Lib.hid hp
  have HL := Lib.hid l1
  obtain ⟨A2, c2, rfl, hc2, hc3, g2⟩ := h2.open_
  rw [up_len] at g2 hc2 ⊢
  have G2 := Lib.hid g2
  clear h1 h2 l1 hN hp g2
  go_enter Tryz.func142, Tryz.ntmps142
  go_wp2_with fail
  go_loop [5, 10] (fun x y => ∃ k : Nat, k ≤ ps.length ∧ x = .int .i64 (valZ a (ps.take k)) ∧ y = .int .i64 k) (fun _ y => ps.length - (intOf y).toNat)
  case atStart => exact ⟨0, Nat.zero_le _, rfl, rfl⟩
  case round =>
    obtain ⟨k, hk, rfl, rfl⟩ := hrel
    have hv := valZ_bd a (ps.take k)
    by_cases hlt : k < ps.length
    · obtain ⟨p, hpk⟩ : ∃ p, ps[k]? = some p := ⟨_, List.getElem?_eq_getElem hlt⟩
      have hp38 := HP.out p (List.mem_of_getElem? hpk)
      obtain ⟨a2, z, rfl, hz, -, hcz⟩ := G2.out k hlt
      have hze : z = (p : Int) := by
        unfold up at hz
        rw [List.getElem?_map, hpk] at hz
        injection hz with hz
        exact hz.symm
      subst hze
      obtain ⟨ad, rfl, hcx, hx0, hx1⟩ := map_cellG HA.out HN.out hp38
      have hpL : (p : Int) < (a.length : Int) := by omega
      have HV := Lib.hid (show valZ a (ps.take (k + 1)) = valZ a (ps.take k) * a.getD p 0 % 10007 from by rw [List.take_add_one, hpk]; exact valZ_snoc a _ p)
      generalize a.getD p 0 = y at *
      generalize valZ a (ps.take k) = s at *
      obtain ⟨p1, p2⟩ := mul_bd 10006 10006 hv.1 hv.2 hx0 hx1
      have hkk : (k : Int) < (ps.length : Int) := by omega
      have hpp : (p : Int) < 38 := by have := HL.out; omega
      clear hz hpk
      go_wp2_with (go_at_call 60; refine (i_num _ _ (by omega) (by omega)).mono ?_; rintro e w' ⟨rfl, rfl⟩)
      go_roundw
      case rel => exact ⟨k + 1, by omega, by rw [HV.out], by go_num⟩
      case measure => simp [intOf]; omega
    · have hkl : ps.take k = ps := List.take_of_length_le (by omega)
      rw [hkl]
      clear hkl
      go_wp2_with fail
      go_ret
      exact ⟨rfl, rfl⟩
end Go.Proofs.YtdjhfeaimmpmhaaGreat

