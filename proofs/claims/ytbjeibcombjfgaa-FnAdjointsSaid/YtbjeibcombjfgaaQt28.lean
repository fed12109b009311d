/- Walk: DrawComposeTableaus. -/
import Derived.Test.YtbjeibcombjfgaaQt19
set_option maxRecDepth 100000
set_option linter.unusedVariables false
set_option linter.unusedSimpArgs false
namespace Go.Proofs.Ytbjeibcombjfgaa
open Go.RowKit

/-- two results in cells, stored one behind the other -/
theorem twoRes {W : World} {a b c d u0 u1 v0 v1 : Value} {p : Nat} (h1 : Blk W p tTb #[u0, u1]) (h2 : Blk W (p + 1) tTb #[v0, v1]) :
    Blk ((((W.setCell ⟨p, 0, none⟩ a).setCell ⟨p, 1, none⟩ b).setCell ⟨p + 1, 0, none⟩ c).setCell ⟨p + 1, 1, none⟩ d) p tTb #[a, b] ∧
    Blk ((((W.setCell ⟨p, 0, none⟩ a).setCell ⟨p, 1, none⟩ b).setCell ⟨p + 1, 0, none⟩ c).setCell ⟨p + 1, 1, none⟩ d) (p + 1) tTb #[c, d] ∧
    Blk ((((W.setCell ⟨p + 1, 0, none⟩ c).setCell ⟨p + 1, 1, none⟩ d).setCell ⟨p, 0, none⟩ a).setCell ⟨p, 1, none⟩ b) p tTb #[a, b] ∧
    Blk ((((W.setCell ⟨p + 1, 0, none⟩ c).setCell ⟨p + 1, 1, none⟩ d).setCell ⟨p, 0, none⟩ a).setCell ⟨p, 1, none⟩ b) (p + 1) tTb #[c, d] := by
  have e1 := (h1.set_ 0 a).set_ 1 b
  have e2 := (h2.far (p := ⟨p, 0, none⟩) (by simp) a).far (p := ⟨p, 1, none⟩) (by simp) b
  have e3 := (h2.set_ 0 c).set_ 1 d
  have e4 := (h1.far (p := ⟨p + 1, 0, none⟩) (by simp) c).far (p := ⟨p + 1, 1, none⟩) (by simp) d
  have f1 := (e1.far (p := ⟨p + 1, 0, none⟩) (by simp) c).far (p := ⟨p + 1, 1, none⟩) (by simp) d
  have f2 := (e2.set_ 0 c).set_ 1 d
  have f3 := (e3.far (p := ⟨p, 0, none⟩) (by simp) a).far (p := ⟨p, 1, none⟩) (by simp) b
  have f4 := (e4.set_ 0 a).set_ 1 b
  exact ⟨by simpa using f1, by simpa using f2, by simpa using f4, by simpa using f3⟩
theorem chgTwo {W : World} {p N : Nat} (hN : p + 1 < N) (a b c d : Value) :
    Chg 0 N W ((((W.setCell ⟨p, 0, none⟩ a).setCell ⟨p, 1, none⟩ b).setCell ⟨p + 1, 0, none⟩ c).setCell ⟨p + 1, 1, none⟩ d) ∧
    Chg 0 N W ((((W.setCell ⟨p + 1, 0, none⟩ c).setCell ⟨p + 1, 1, none⟩ d).setCell ⟨p, 0, none⟩ a).setCell ⟨p, 1, none⟩ b) := by
  have hp : ∀ k, (⟨p, k, none⟩ : Addr).block < N := fun k => by show p < N; omega
  have hq : ∀ k, (⟨p + 1, k, none⟩ : Addr).block < N := fun k => hN
  exact ⟨((((Chg.refl 0 N W).setCell (Nat.zero_le _) (hp 0) a).setCell (Nat.zero_le _) (hp 1) b).setCell (Nat.zero_le _) (hq 0) c).setCell (Nat.zero_le _) (hq 1) d,
    ((((Chg.refl 0 N W).setCell (Nat.zero_le _) (hq 0) c).setCell (Nat.zero_le _) (hq 1) d).setCell (Nat.zero_le _) (hp 0) a).setCell (Nat.zero_le _) (hp 1) b⟩
set_option maxHeartbeats 8000000 in
theorem s_DrawComposeTableaus (w : World) (A : Option Addr) (N c : Nat) (hb : ByB w w.heap.size A N) (hN : N ≤ 4096) :
    Calls Try.prog 18 #[.slice A N c] w fun e w' => ∃ v u, e = .returned (.tuple #[v, u]) ∧ (∃ X Bs, TabArg w' v X Bs) ∧ (∃ Y Cs, TabArg w' u Y Cs) ∧ Below w.heap.size w w' := by
  obtain ⟨W, hW⟩ : ∃ W, W = (w.alloc (.cells #[.slice none 0 0, .slice none 0 0] tTb)).alloc (.cells #[.slice none 0 0, .slice none 0 0] tTb) := ⟨_, rfl⟩
  have HSW := Lib.hid (show W.heap.size = w.heap.size + 1 + 1 from by rw [hW]; simp)
  have HBW := Lib.hid (show Below w.heap.size w W from by rw [hW]; exact below2 w _ _)
  have HK0 := Lib.hid (show Blk W w.heap.size tTb #[.slice none 0 0, .slice none 0 0] from by rw [hW]; exact (Blk.new _ _ _).alloc _)
  have HK1 := Lib.hid (show Blk W (w.heap.size + 1) tTb #[.slice none 0 0, .slice none 0 0] from by rw [hW]; exact Blk.new1 _ _ _ _)
  have HFR := Lib.hid (s_l01From W A N c ((hb.belowS (Nat.le_refl _) HBW.out).monoS HBW.out.size) hN)
  clear hb
  go_enter Try.func18, Try.ntmps18
  go_upto_region 1 with fail
  rw [← hW]
  clear hW
  go_upto_region 2 with (go_at_call 58; go_loud (refine HFR.out.mono ?_; rintro e w1 ⟨p, rfl, hs1, hb1⟩; have HS1 := Lib.hid hs1; have HB1 := Lib.hid (HBW.out.trans (hb1.mono HBW.out.size)); have HL0 := Lib.hid (HK0.out.below hb1 HK0.out.lt); have HL1 := Lib.hid (HK1.out.below hb1 HK1.out.lt); have hpg := hs1.ge; have hpl := hs1.lt; clear hs1 hb1))
  have HPW := Lib.hid (show w.heap.size + 1 < p from by have := HSW.out; omega)
  clear HFR HK0 HK1 hpg
  go_upto_region 3 with (go_at_call 59; go_loud (refine (s_l09Spoil w1 W.heap.size p 5 HS1.out (by omega) (by omega)).mono ?_; rintro e w2 ⟨v, rfl, ⟨X, Bs, hst⟩, hg, hs⟩; obtain ⟨Aa, ca, Ab, cb, rfl⟩ := hst.arg.open_; have HST := Lib.hid hst; have HG2 := Lib.hid hg; have HS2 := Lib.hid hs; clear hst hg hs))
  obtain ⟨q, hq⟩ : ∃ q, q = w2.heap.size := ⟨_, rfl⟩
  obtain ⟨W2, hW2⟩ : ∃ W2, W2 = w2.alloc (.cells #[.slice Aa X.length ca, .slice Ab Bs.length cb] tTb) := ⟨_, rfl⟩
  have hbe : Below w2.heap.size w2 W2 := by rw [hW2]; exact below1 _ _
  have HT1 := Lib.hid (HST.out.step (Chg.of_below hbe _ _))
  have HG := Lib.hid (gtrans HG2.out (gof hbe))
  have HS3 := Lib.hid (HS2.out.below hbe)
  have HKq := Lib.hid (show Blk W2 q tTb #[.slice Aa X.length ca, .slice Ab Bs.length cb] from by rw [hW2, hq]; exact Blk.new _ _ _)
  have HQ := Lib.hid (show p < q from by have := HG2.out.size; omega)
  rw [← hW2, ← hq]
  clear hW2 hq hbe HST HG2 HS2
  go_upto_region 4 with (go_at_call 59; go_loud (refine (s_l09Spoil W2 W.heap.size p 4 HS3.out (by omega) (by omega)).mono ?_; rintro e w3 ⟨v, rfl, ⟨Y, Cs, hst⟩, hg, hs⟩; obtain ⟨Ca, da, Cb, db, rfl⟩ := hst.arg.open_; have HST := Lib.hid hst; have HG3 := Lib.hid (gtrans HG.out hg); have HT2 := Lib.hid (HT1.out.step (chgOf hg hpl)); have HKr := Lib.hid (HKq.out.srcD hg (by have := HQ.out; omega)); clear hst hg hs))
  obtain ⟨q2, hq2⟩ : ∃ q2, q2 = w3.heap.size := ⟨_, rfl⟩
  obtain ⟨W3, hW3⟩ : ∃ W3, W3 = w3.alloc (.cells #[.slice Ca Y.length da, .slice Cb Cs.length db] tTb) := ⟨_, rfl⟩
  have hbe : Below w3.heap.size w3 W3 := by rw [hW3]; exact below1 _ _
  have HT3 := Lib.hid (HT2.out.step (Chg.of_below hbe _ _))
  have HU3 := Lib.hid (HST.out.step (Chg.of_below hbe _ _))
  have HG4 := Lib.hid (gtrans HG3.out (gof hbe))
  have HKq3 := Lib.hid (HKr.out.below hbe HKr.out.lt)
  have HKu := Lib.hid (show Blk W3 q2 tTb #[.slice Ca Y.length da, .slice Cb Cs.length db] from by rw [hW3, hq2]; exact Blk.new _ _ _)
  have HQ1 := Lib.hid (show w.heap.size + 1 < q from by have := HQ.out; have := HPW.out; omega)
  have HQ2 := Lib.hid (show w.heap.size + 1 < q2 from by have := HG3.out.size; have := HPW.out; omega)
  rw [← hW3, ← hq2]
  have HR0 := Lib.hid (HL0.out.srcD HG4.out (by have := HPW.out; omega))
  have HR1 := Lib.hid (HL1.out.srcD HG4.out (by have := HPW.out; omega))
  have hws : w1.heap.size ≤ W2.heap.size := HG.out.size
  have HWS := Lib.hid (show w.heap.size + 1 < W2.heap.size from by have := HPW.out; omega)
  have HW1 := Lib.hid (show w.heap.size + 1 < w1.heap.size from by have := HPW.out; omega)
  have HB := Lib.hid (HB1.out.grown HG4.out (by have := HPW.out; omega) (fun b e => by injection e with e; have := HPW.out; omega))
  clear hW3 hq2 hbe hws HT1 HT2 HST HG HG3 HKq HKr HL0 HL1 HS3 HS1 HQ HSW hpl
  have a0 : W3.cell? ⟨q, 0, none⟩ = some (.slice Aa X.length ca) := HKq3.out.cell 0
  have a1 : W3.cell? ⟨q, 1, none⟩ = some (.slice Ab Bs.length cb) := HKq3.out.cell 1
  have b0 : W3.cell? ⟨q2, 0, none⟩ = some (.slice Ca Y.length da) := HKu.out.cell 0
  have b1 : W3.cell? ⟨q2, 1, none⟩ = some (.slice Cb Cs.length db) := HKu.out.cell 1
  have r0 : W3.cell? ⟨w.heap.size, 0, none⟩ = some (.slice none 0 0) := HR0.out.cell 0
  have r1 : W3.cell? ⟨w.heap.size, 1, none⟩ = some (.slice none 0 0) := HR0.out.cell 1
  have r2 := HR0.out.frozen 0
  have r3 := HR0.out.frozen 1
  have s0 : W3.cell? ⟨w.heap.size + 1, 0, none⟩ = some (.slice none 0 0) := HR1.out.cell 0
  have s1 : W3.cell? ⟨w.heap.size + 1, 1, none⟩ = some (.slice none 0 0) := HR1.out.cell 1
  have s2 := HR1.out.frozen 0
  have s3 := HR1.out.frozen 1
  have z1 : ∀ k a, (W3.setCell ⟨w.heap.size, k, none⟩ a).cell? ⟨q2, 0, none⟩ = some (.slice Ca Y.length da) := fun k a => (HKu.out.far (p := ⟨w.heap.size, k, none⟩) (by have := HQ2.out; simp; omega) a).cell 0
  have z2 : ∀ k a, (W3.setCell ⟨w.heap.size, k, none⟩ a).cell? ⟨q2, 1, none⟩ = some (.slice Cb Cs.length db) := fun k a => (HKu.out.far (p := ⟨w.heap.size, k, none⟩) (by have := HQ2.out; simp; omega) a).cell 1
  have z3 : ∀ k a, (W3.setCell ⟨w.heap.size + 1, k, none⟩ a).cell? ⟨q, 0, none⟩ = some (.slice Aa X.length ca) := fun k a => (HKq3.out.far (p := ⟨w.heap.size + 1, k, none⟩) (by have := HQ1.out; simp; omega) a).cell 0
  have z4 : ∀ k a, (W3.setCell ⟨w.heap.size + 1, k, none⟩ a).cell? ⟨q, 1, none⟩ = some (.slice Ab Bs.length cb) := fun k a => (HKq3.out.far (p := ⟨w.heap.size + 1, k, none⟩) (by have := HQ1.out; simp; omega) a).cell 1
  have z5 : ∀ a b, ((W3.setCell ⟨w.heap.size, 0, none⟩ a).setCell ⟨w.heap.size, 1, none⟩ b).cell? ⟨q2, 0, none⟩ = some (.slice Ca Y.length da) := fun a b => ((HKu.out.far (p := ⟨w.heap.size, 0, none⟩) (by have := HQ2.out; simp; omega) a).far (p := ⟨w.heap.size, 1, none⟩) (by have := HQ2.out; simp; omega) b).cell 0
  have z6 : ∀ a b, ((W3.setCell ⟨w.heap.size, 0, none⟩ a).setCell ⟨w.heap.size, 1, none⟩ b).cell? ⟨q2, 1, none⟩ = some (.slice Cb Cs.length db) := fun a b => ((HKu.out.far (p := ⟨w.heap.size, 0, none⟩) (by have := HQ2.out; simp; omega) a).far (p := ⟨w.heap.size, 1, none⟩) (by have := HQ2.out; simp; omega) b).cell 1
  have z7 : ∀ a b, ((W3.setCell ⟨w.heap.size + 1, 0, none⟩ a).setCell ⟨w.heap.size + 1, 1, none⟩ b).cell? ⟨q, 0, none⟩ = some (.slice Aa X.length ca) := fun a b => ((HKq3.out.far (p := ⟨w.heap.size + 1, 0, none⟩) (by have := HQ1.out; simp; omega) a).far (p := ⟨w.heap.size + 1, 1, none⟩) (by have := HQ1.out; simp; omega) b).cell 0
  have z8 : ∀ a b, ((W3.setCell ⟨w.heap.size + 1, 0, none⟩ a).setCell ⟨w.heap.size + 1, 1, none⟩ b).cell? ⟨q, 1, none⟩ = some (.slice Ab Bs.length cb) := fun a b => ((HKq3.out.far (p := ⟨w.heap.size + 1, 0, none⟩) (by have := HQ1.out; simp; omega) a).far (p := ⟨w.heap.size + 1, 1, none⟩) (by have := HQ1.out; simp; omega) b).cell 1
  obtain ⟨k1, k2, k3, k4⟩ := twoRes (a := .slice Aa X.length ca) (b := .slice Ab Bs.length cb) (c := .slice Ca Y.length da) (d := .slice Cb Cs.length db) HR0.out HR1.out
  obtain ⟨t1, t2⟩ := chgTwo (W := W3) HW1.out (.slice Aa X.length ca) (.slice Ab Bs.length cb) (.slice Ca Y.length da) (.slice Cb Cs.length db)
  obtain ⟨t3, t4⟩ := chgTwo (W := W3) HWS.out (.slice Aa X.length ca) (.slice Ab Bs.length cb) (.slice Ca Y.length da) (.slice Cb Cs.length db)
  have HE1 := Lib.hid (HT3.out.step t1).arg
  have HE2 := Lib.hid (HT3.out.step t2).arg
  have HE3 := Lib.hid (HU3.out.step t3).arg
  have HE4 := Lib.hid (HU3.out.step t4).arg
  have HZ1 := Lib.hid k1
  have HZ2 := Lib.hid k2
  have HZ3 := Lib.hid k3
  have HZ4 := Lib.hid k4
  have HL5 := Lib.hid ((((HB.out.setCell (p := ⟨w.heap.size, 0, none⟩) (Nat.le_refl _) (.slice Aa X.length ca)).setCell (p := ⟨w.heap.size, 1, none⟩) (Nat.le_refl _) (.slice Ab Bs.length cb)).setCell (p := ⟨w.heap.size + 1, 0, none⟩) (Nat.le_succ _) (.slice Ca Y.length da)).setCell (p := ⟨w.heap.size + 1, 1, none⟩) (Nat.le_succ _) (.slice Cb Cs.length db))
  have HL6 := Lib.hid ((((HB.out.setCell (p := ⟨w.heap.size + 1, 0, none⟩) (Nat.le_succ _) (.slice Ca Y.length da)).setCell (p := ⟨w.heap.size + 1, 1, none⟩) (Nat.le_succ _) (.slice Cb Cs.length db)).setCell (p := ⟨w.heap.size, 0, none⟩) (Nat.le_refl _) (.slice Aa X.length ca)).setCell (p := ⟨w.heap.size, 1, none⟩) (Nat.le_refl _) (.slice Ab Bs.length cb))
  clear k1 k2 k3 k4 t1 t2 t3 t4
  go_region
  all_goals
    go_wp2_with fail
    obtain ⟨V, hV⟩ : ∃ V, V = (((W3.setCell ⟨w.heap.size, 0, none⟩ (.slice Aa X.length ca)).setCell ⟨w.heap.size, 1, none⟩ (.slice Ab Bs.length cb)).setCell ⟨w.heap.size + 1, 0, none⟩ (.slice Ca Y.length da)).setCell ⟨w.heap.size + 1, 1, none⟩ (.slice Cb Cs.length db) := ⟨_, rfl⟩
    rw [← hV] at HZ1 HZ2 HE1 HE3 HL5
    rw [← hV]
    clear hV
    have g0 : V.cell? ⟨w.heap.size, 0, none⟩ = some (.slice Aa X.length ca) := HZ1.out.cell 0
    have g1 : V.cell? ⟨w.heap.size, 1, none⟩ = some (.slice Ab Bs.length cb) := HZ1.out.cell 1
    have g2 : V.cell? ⟨w.heap.size + 1, 0, none⟩ = some (.slice Ca Y.length da) := HZ2.out.cell 0
    have g3 : V.cell? ⟨w.heap.size + 1, 1, none⟩ = some (.slice Cb Cs.length db) := HZ2.out.cell 1
    refine bodyPost_ret (v := .tuple #[.agg #[.slice Aa X.length ca, .slice Ab Bs.length cb], .agg #[.slice Ca Y.length da, .slice Cb Cs.length db]]) ?_ rfl ⟨_, _, rfl, ⟨X, Bs, HE1.out.drewN 1⟩, ⟨Y, Cs, HE3.out.drewN 1⟩, below_drewN HL5.out 1⟩
    simp [results, Try.results18, go_sem, g0, g1, g2, g3]
end Go.Proofs.Ytbjeibcombjfgaa

