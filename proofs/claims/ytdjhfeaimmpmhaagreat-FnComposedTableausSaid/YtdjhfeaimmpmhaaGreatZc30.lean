/- Walks: tableaus that are drawn (l09Draw of the reference). | Walk: l09Draw of the reference. -/
import Derived.Test.YtdjhfeaimmpmhaaGreatZc29
import Derived.Test.YtdjhfeaimmpmhaaGreatZc21
set_option maxRecDepth 100000
set_option linter.unusedVariables false
set_option linter.unusedSimpArgs false
namespace Go.Proofs.YtdjhfeaimmpmhaaGreat
open Go.RowKit

theorem chgD {w w' : World} {g : Nat} (h : w.grownBy w' (some g)) : Chg g (g + 1) w w' := ⟨h.os, h.tape, h.output, h.size, fun k hk hd => h.block k hk (by intro e; injection e with e; omega)⟩
section
variable {w w' : World} {N p g n cap k : Nat} {va vb v1 r : Value} {vs : List Value} {rows : List (List Int)} {zs Bs : List Int} {z : Int}
theorem Two.srcD (h : Two w N va vb vs rows Bs) (hg : w.grownBy w' (some p)) (hp : p < N) : Two w' N va vb vs rows Bs := h.kept (chgD hg) hp
theorem Blk.srcD {t : TypeId} {cs : Array Value} {q : Nat} (h : Blk w q t cs) (hg : w.grownBy w' (some p)) (hne : q ≠ p) : Blk w' q t cs := (hg.block q h.lt (by intro e; injection e with e; exact hne e)).trans h
/-- a number of the weights is stored -/
theorem Two.setB (h : Two w N va (.slice (some ⟨g, 0, none⟩) n cap) vs rows Bs) (hk : k < Bs.length) (hz : In64 z) :
    (∃ u0, w.cell? ⟨g, k, none⟩ = some u0) ∧ w.frozen? ⟨g, k, none⟩ = false ∧ Two (w.setCell ⟨g, k, none⟩ (.int .i64 z)) N va (.slice (some ⟨g, 0, none⟩) n cap) vs rows (Bs.set k z) ∧ w.grownBy (w.setCell ⟨g, k, none⟩ (.int .i64 z)) (some g) := by
  obtain ⟨u0, hu0, hcg, hfg, hg2, hg1, hown', hgr⟩ := h.ws.1.storeAt (k := k) (by rw [ints_len]; exact hk) (.int .i64 z)
  have hnb := Own.ne_of_type h.own h.ws.1 (by decide)
  have hown2 : Own (w.setCell ⟨g, k, none⟩ (.int .i64 z)) N tI (.slice (some ⟨g, 0, none⟩) n cap) (ints (Bs.set k z)) := by
    rw [show ints (Bs.set k z) = (ints Bs).set k (.int .i64 z) by simp [ints, List.map_set]]; exact hown'
  refine ⟨⟨u0, hcg⟩, hfg, ⟨h.own.kept hgr hnb, (h.rows.other hgr h.ap).mono (Nat.le_refl _) hgr.size, ⟨hown2, fun y hy => ?_⟩, h.ap⟩, hgr⟩
  rcases List.mem_or_eq_of_mem_set hy with h1 | rfl
  · exact h.ws.2 y h1
  · exact hz
end
/-- a list of numbers of one's own, opened -/
theorem own_openD {w : World} {C n : Nat} {v : Value} {us : List Int} (h : OwnInts w C tI v us) (hl : Nl n us) (hn : 1 ≤ n) : ∃ g cap, v = .slice (some ⟨g, 0, none⟩) n cap := by
  rcases h.1.cases with ⟨-, he⟩ | ⟨g, cap, cur, he, -⟩
  · have h1 := congrArg List.length he; rw [ints_len, hl.1] at h1; simp at h1; omega
  · rw [ints_len, hl.1] at he; exact ⟨g, cap, he⟩
theorem nl_set {n : Nat} {us : List Int} (h : Nl n us) {z : Int} (hz : 0 ≤ z ∧ z ≤ 10006) (k : Nat) : Nl n (us.set k z) := ⟨by rw [List.length_set]; exact h.1, fun y hy => by
  rcases List.mem_or_eq_of_mem_set hy with h1 | rfl
  · exact h.2 y h1
  · exact hz⟩
/-- the state of a tableau that is drawn: the source has turned, all else is new -/
structure DrS (w0 w : World) (B p q : Nat) (va vb : Value) (vs : List Value) (m n : Nat) : Prop where
  ex : ∃ rows Bs, Two w (w0.heap.size + 1) va vb vs rows Bs ∧ Sqm m n rows ∧ Nl n Bs
  blk : Blk w q tTb #[va, vb]
  res : Blk w w0.heap.size tTb #[.slice none 0 0, .slice none 0 0]
  ge : w0.heap.size + 1 ≤ q
  gr : w0.grownBy w (some p)
  src : Src w B tSc p
section
variable {w0 w w5 w6 : World} {B p q m n : Nat} {va vb v1 r : Value} {vs : List Value} {zs : List Int}
theorem DrS.draw (h : DrS w0 w B p q va vb vs m n) (hp : p < w0.heap.size) (hg : w.grownBy w5 (some p)) (hs : Src w5 B tSc p) : DrS w0 w5 B p q va vb vs m n := by
  obtain ⟨rows, Bs, h1, h2, h3⟩ := h.ex
  exact ⟨⟨rows, Bs, h1.srcD hg (by omega), h2, h3⟩, h.blk.srcD hg (by have := h.ge; omega), h.res.srcD hg (by omega), h.ge, gtrans h.gr hg, hs⟩
theorem DrS.lenA (h : DrS w0 w B p q va vb vs m n) : vs.length = m := by
  obtain ⟨rows, Bs, h1, h2, h3⟩ := h.ex
  exact h1.rows.1.trans h2.1
theorem DrS.ownA (h : DrS w0 w B p q va vb vs m n) : Own w (w0.heap.size + 1) tL va vs := by
  obtain ⟨rows, Bs, h1, h2, h3⟩ := h.ex
  exact h1.own
/-- one row more: it was made since w -/
theorem DrS.next (h : DrS w0 w B p q va vb vs m n) (hp : p < w0.heap.size) (hg : w.grownBy w5 (some p)) (hs : Src w5 B tSc p) (ho : OwnInts w5 w.heap.size tI r zs) (hz : Nl n zs)
    (hown : Own w6 (w0.heap.size + 1) tL v1 (vs ++ [r])) (hgr : Grow w5 w6 va v1) : DrS w0 (w6.setCell ⟨q, 0, none⟩ v1) B p q v1 vb (vs ++ [r]) (m + 1) n := by
  have h5 := h.draw hp hg hs
  obtain ⟨rows, Bs, h1, h2, h3⟩ := h.ex
  have h1' := h1.srcD (p := p) hg (by omega)
  have hnp : va.ownBlock ≠ some q := h5.ownA.ne_blk h5.blk (by decide)
  have hnr : va.ownBlock ≠ some w0.heap.size := fun e => by have := h5.ownA.ge _ e; omega
  have hk := h5.blk.grow hgr hnp
  have hrs := h5.res.grow hgr hnr
  have hN : w0.heap.size + 1 ≤ w.heap.size := by have := h.ge; have := h.blk.lt; omega
  have hap := h1.rows.apart (M := 0) (u' := r) (fun b hb => .inl (ho.1.ge b hb))
  have hrb : Apart r vb := by
    unfold Apart
    cases hr : r.ownBlock with
    | none => exact .inl rfl
    | some b =>
      refine .inr fun e => ?_
      have a1 := ho.1.ge b hr
      have a2 := h1.ws.1.lt b e.symm
      omega
  have h6 := (h1'.addA ⟨ho.mono hN, ho.1.lt⟩ hap hrb hown hgr).storeAt hk (by decide) (by decide) 0 v1
  have hgo : ∀ b, va.ownBlock = some b → w0.heap.size ≤ b := fun b hb => by have := h5.ownA.ge b hb; omega
  have g6 : w0.grownBy w6 (some p) := gthen h5.gr hgr.1 hgo
  have g7 : w0.grownBy (w6.setCell ⟨q, 0, none⟩ v1) (some p) := gthen g6 (gset w6 q 0 v1) (by rintro b ⟨⟩; have := h.ge; omega)
  have s6 : Src w6 B tSc p := h5.src.kept hgr.1 (fun e => by have := h5.ownA.ge _ e; omega) (fun b hb => by have := hgo b hb; have := h5.src.ge; omega)
  have s7 := s6.kept (gset w6 q 0 v1) (by intro e; injection e with e; have := h.ge; omega) (by rintro b ⟨⟩; have := h.ge; have := h5.src.ge; omega)
  refine ⟨⟨_, _, h6, h2.snoc hz, h3⟩, ?_, hrs.far (p := ⟨q, 0, none⟩) (by have := h.ge; simp; omega) v1, h.ge, g7, s7⟩
  have := hk.set_ 0 v1
  simpa using this
/-- a weight is stored -/
theorem DrS.setB {g cap k : Nat} {z : Int} (h : DrS w0 w B p q va (.slice (some ⟨g, 0, none⟩) n cap) vs m n) (hp : p < w0.heap.size) (hk : k < n) (hz : 0 ≤ z ∧ z ≤ 10006) :
    (∃ u0, w.cell? ⟨g, k, none⟩ = some u0) ∧ w.frozen? ⟨g, k, none⟩ = false ∧ DrS w0 (w.setCell ⟨g, k, none⟩ (.int .i64 z)) B p q va (.slice (some ⟨g, 0, none⟩) n cap) vs m n := by
  obtain ⟨rows, Bs, h1, h2, h3⟩ := h.ex
  obtain ⟨a1, a2, a3, a4⟩ := h1.setB (k := k) (by rw [h3.1]; exact hk) (z := z) (by unfold In64; omega)
  have hge : w0.heap.size + 1 ≤ g := h1.ws.1.ge g rfl
  have hgq : g ≠ q := fun e => (h1.ws.1.ne_blk h.blk (by decide)) (by rw [e]; rfl)
  refine ⟨a1, a2, ⟨rows, _, a3, h2, nl_set h3 hz k⟩, h.blk.far (p := ⟨g, k, none⟩) (by simpa using fun e => hgq e.symm) _, h.res.far (p := ⟨g, k, none⟩) (by simp; omega) _, h.ge, gthen h.gr a4 (by rintro b ⟨⟩; omega), h.src.kept a4 (by intro e; injection e with e; omega) (by rintro b ⟨⟩; have := h.src.ge; omega)⟩
/-- the weights can be read -/
theorem DrS.ws (h : DrS w0 w B p q va vb vs m n) : ∃ Bs, Ints w vb Bs ∧ Nl n Bs := by
  obtain ⟨rows, Bs, h1, h2, h3⟩ := h.ex
  exact ⟨Bs, h1.ws.ints, h3⟩
/-- the end: the result is stored -/
theorem DrS.fin (h : DrS w0 w B p q va vb vs n n) (hp : p < w0.heap.size) :
    DT ((w.setCell ⟨w0.heap.size, 0, none⟩ va).setCell ⟨w0.heap.size, 1, none⟩ vb) w0.heap.size (.agg #[va, vb]) n ∧ w0.grownBy ((w.setCell ⟨w0.heap.size, 0, none⟩ va).setCell ⟨w0.heap.size, 1, none⟩ vb) (some p) ∧ Src ((w.setCell ⟨w0.heap.size, 0, none⟩ va).setCell ⟨w0.heap.size, 1, none⟩ vb) B tSc p := by
  obtain ⟨rows, Bs, h1, h2, h3⟩ := h.ex
  have h4 := h1.storeAt h.res (by decide) (by decide) 0 va
  have r4 := h.res.set_ 0 va
  have h5 := h4.storeAt r4 (by decide) (by decide) 1 vb
  have g1 := gthen h.gr (gset w w0.heap.size 0 va) (by rintro b ⟨⟩; omega)
  have g2 := gthen g1 (gset _ w0.heap.size 1 vb) (by rintro b ⟨⟩; omega)
  have s1 := h.src.kept (gset w w0.heap.size 0 va) (by intro e; injection e with e; omega) (by rintro b ⟨⟩; have := h.src.ge; omega)
  have s2 := s1.kept (gset _ w0.heap.size 1 vb) (by intro e; injection e with e; omega) (by rintro b ⟨⟩; have := h.src.ge; omega)
  exact ⟨⟨rows, Bs, h5.tab.mono (Nat.le_succ _) (Nat.le_refl _), h2, h3⟩, g2, s2⟩
end
end Go.Proofs.YtdjhfeaimmpmhaaGreat

set_option maxRecDepth 100000
set_option linter.unusedVariables false
set_option linter.unusedSimpArgs false
namespace Go.Proofs.YtdjhfeaimmpmhaaGreat
open Go.RowKit

theorem addr_addT (g n : Nat) : (⟨g, 0, none⟩ : Addr).add n = ⟨g, n, none⟩ := by by_cases h0 : n = 0 <;> simp [Addr.add, h0]
theorem DT.below {w w' : World} {B n : Nat} {v : Value} (h : DT w B v n) (hb : Below w.heap.size w w') : DT w' B v n := by
  obtain ⟨A, Bs, h1, h2, h3⟩ := h
  exact ⟨A, Bs, (h1.below hb).mono (Nat.le_refl _) hb.size, h2, h3⟩
theorem DT.arg {w : World} {B n : Nat} {v : Value} (h : DT w B v n) : ∃ A Bs, TabArg w v A Bs := by
  obtain ⟨A, Bs, h1, h2, h3⟩ := h
  exact ⟨A, Bs, h1.arg⟩
theorem DT.open_ {w : World} {B n : Nat} {v : Value} (h : DT w B v n) : ∃ Aa ca Ab cb, v = .agg #[.slice Aa n ca, .slice Ab n cb] := by
  obtain ⟨A, Bs, h1, h2, h3⟩ := h
  obtain ⟨Aa, ca, Ab, cb, rfl⟩ := h1.open_
  rw [h2.1, h3.1]
  exact ⟨_, _, _, _, rfl⟩
/-- a tableau stored into an older block -/
theorem DT.store {w : World} {C g n : Nat} {x y : Value} (h : DT w C (.agg #[x, y]) n) (hg : g < C) : DT ((w.setCell ⟨g, 0, none⟩ x).setCell ⟨g, 1, none⟩ y) g (.agg #[x, y]) n := by
  obtain ⟨A, Bs, h1, h2, h3⟩ := h
  have c0 := Chg.refl g (g + 1) w
  have c1 := c0.setCell (p := ⟨g, 0, none⟩) (Nat.le_refl _) (by simp) x
  have c2 := c1.setCell (p := ⟨g, 1, none⟩) (Nat.le_refl _) (by simp) y
  exact ⟨A, Bs, (h1.kept c2 (.inr (by omega))).mono (by omega) c2.size, h2, h3⟩
set_option maxHeartbeats 2000000 in
theorem s_TableauNames (w : World) : Calls Tryz.prog 194 #[] w fun e w' => e = .returned (.slice (some ⟨w.heap.size, 0, none⟩) 12 12) ∧ (∀ k, k < 12 → ∃ str, w'.cell? ⟨w.heap.size, k, none⟩ = some (.string str)) ∧ Below w.heap.size w w' := by
  go_enter Tryz.func194, Tryz.ntmps194
  go_wp2_with fail
  go_ret
  refine ⟨rfl, fun k hk => ?_, below1 w _⟩
  have hc := heap_alloc_new w
  obtain rfl | rfl | rfl | rfl | rfl | rfl | rfl | rfl | rfl | rfl | rfl | rfl : k = 0 ∨ k = 1 ∨ k = 2 ∨ k = 3 ∨ k = 4 ∨ k = 5 ∨ k = 6 ∨ k = 7 ∨ k = 8 ∨ k = 9 ∨ k = 10 ∨ k = 11 := by omega
  all_goals exact ⟨_, (Blk.new w _ _).cell _⟩
theorem cellD {w w' : World} {p : Nat} {ad : Addr} {u : Value} (hg : w.grownBy w' (some p)) (hne : ad.block ≠ p) (h : w.cell? ad = some u) : w'.cell? ad = some u := by
  have hb : w'.heap[ad.block]? = w.heap[ad.block]? := hg.block ad.block (World.block_lt_of_cell? w _ h) (fun e => hne (by injection e))
  rw [← h]
  unfold World.cell?
  rw [hb]
theorem DrS.init {w w4 : World} {B p n C : Nat} {vb : Value} {zs : List Int} (hk : Blk w4 w.heap.size tTb #[.slice none 0 0, .slice none 0 0]) (hg : w.grownBy w4 (some p)) (hs : Src w4 B tSc p) (ho : OwnInts w4 C tI vb zs) (hC : w.heap.size + 1 ≤ C) (hz : Nl n zs) :
    DrS w (w4.alloc (.cells #[.slice none 0 0, vb] tTb)) B p w4.heap.size (.slice none 0 0) vb [] 0 n := by
  have hb := below1 w4 (.cells #[.slice none 0 0, vb] tTb)
  have hlt := hk.lt
  exact ⟨⟨[], zs, ⟨Own.nil _ _ _, RowsOwn.nil _ _ _ _, (ho.mono hC).below hb, fun k u hu => by simp at hu⟩, Sqm.nil _, hz⟩, Blk.new _ _ _, hk.below hb hlt, by omega, gtrans hg (gof hb), hs.below hb⟩
/-- a row that is drawn and zeroed in part -/
def RwS (wi wx : World) (B p : Nat) (r : Value) (n : Nat) : Prop := (∃ zs, OwnInts wx wi.heap.size tI r zs ∧ Nl n zs) ∧ wi.grownBy wx (some p) ∧ Src wx B tSc p
theorem RwS.store {wi wx : World} {B p g n cap k : Nat} (h : RwS wi wx B p (.slice (some ⟨g, 0, none⟩) n cap) n) (hp : p < wi.heap.size) (hk : k < n) :
    (∃ u0, wx.cell? ⟨g, k, none⟩ = some u0) ∧ wx.frozen? ⟨g, k, none⟩ = false ∧ RwS wi (wx.setCell ⟨g, k, none⟩ (.int .i64 0)) B p (.slice (some ⟨g, 0, none⟩) n cap) n := by
  obtain ⟨⟨zs, ho, hz⟩, hg, hs⟩ := h
  obtain ⟨u0, hu0, hcg, hfg, hg2, hg1, hown', hgr⟩ := ho.1.storeAt (k := k) (by rw [ints_len, hz.1]; exact hk) (.int .i64 0)
  refine ⟨⟨u0, hcg⟩, hfg, ⟨zs.set k 0, ⟨?_, (nl_set hz (by omega) k).in64⟩, nl_set hz (by omega) k⟩, gthen hg hgr (by rintro b ⟨⟩; omega), hs.kept hgr (by intro e; injection e with e; omega) (by rintro b ⟨⟩; have := hs.ge; omega)⟩
  rw [show ints (zs.set k 0) = (ints zs).set k (.int .i64 0) by simp [ints, List.map_set]]
  exact hown'
set_option maxHeartbeats 32000000 in
theorem s_l09Draw (w : World) (B p most : Nat) (h : Src w B tSc p) (hm1 : 1 ≤ most) (hm8 : most ≤ 8) :
    Calls Tryz.prog 153 #[at0 p, .int .i64 (most : Nat)] w fun e w' => ∃ v n, e = .returned v ∧ DT w' w.heap.size v n ∧ 1 ≤ n ∧ n ≤ 8 ∧ w.grownBy w' (some p) ∧ Src w' B tSc p := by
  have hpl := h.lt
  have HBp := Lib.hid h.ge
  obtain ⟨W, hW⟩ : ∃ W, W = w.alloc (.cells #[.slice none 0 0, .slice none 0 0] tTb) := ⟨_, rfl⟩
  have HSW := Lib.hid (show W.heap.size = w.heap.size + 1 from by rw [hW]; simp)
  have HKR := Lib.hid (show Blk W w.heap.size tTb #[.slice none 0 0, .slice none 0 0] from by rw [hW]; exact Blk.new _ _ _)
  have HG0 := Lib.hid (show w.grownBy W (some p) from gof (by rw [hW]; exact below1 w _))
  have HS0 := Lib.hid (show Src W B tSc p from h.below (by rw [hW]; exact below1 w _))
  clear h
  go_enter Tryz.func153, Tryz.ntmps153
  go_upto_region 1 with fail
  rw [← hW]
  clear hW
  go_cut [20] (fun v wx => (∃ b, v = .bool b) ∧ W.grownBy wx (some p) ∧ Src wx B tSc p)
  case first =>
    by_cases h4 : 4 ≤ most
    · have h4i : (4 : Int) ≤ (most : Int) := by omega
      have h4d : decide (4 ≤ most) = true := decide_eq_true h4
      go_wp2_with (go_at_call 50; go_loud (refine (s_l01Next _ B p 2 HS0.out (by omega) (by omega)).mono ?_; rintro e w1 ⟨x, rfl, x0, x1, hg, hs⟩; have HG1 := Lib.hid hg; have HS1 := Lib.hid hs; clear hg hs x0 x1))
      go_meet
      exact ⟨⟨_, rfl⟩, HG1.out, HS1.out⟩
    · have h4i : ¬ (4 : Int) ≤ (most : Int) := by omega
      have h4d : decide (4 ≤ most) = false := decide_eq_false h4
      go_wp2_with fail
      go_meet
      exact ⟨⟨_, rfl⟩, World.grownBy.refl _ _, HS0.out⟩
  case rest =>
    obtain ⟨⟨bb, rfl⟩, hg, hs⟩ := hcut
    rename World => w1
    have HG1 := Lib.hid (gtrans HG0.out hg)
    have HS1 := Lib.hid hs
    have HK1 := Lib.hid (HKR.out.srcD hg (by omega))
    have HSZ1 := Lib.hid (show W.heap.size ≤ w1.heap.size from hg.size)
    clear hg hs HKR HG0 HS0
    cases bb with
    | true =>
      have hw1 : w.heap.size < w1.heap.size := by have := HSZ1.out; have := HSW.out; omega
      go_wp2_with (first
        | (go_at_call 194; go_loud (refine (s_TableauNames _).mono ?_; rintro e w2 ⟨rfl, hn, hb2⟩; have HN := Lib.hid hn; have HG2 := Lib.hid (gtrans HG1.out (gof hb2)); have HS2 := Lib.hid (HS1.out.below hb2); have HK2 := Lib.hid (HK1.out.below hb2 HK1.out.lt); have hsz2 := hb2.size; clear hn hb2))
        | (go_at_call 50; go_loud (refine (s_l01Next _ B p 12 HS2.out (by omega) (by omega)).mono ?_; rintro e w3 ⟨x, rfl, x0, x1, hg, hs⟩; obtain ⟨k, rfl⟩ : ∃ k : Nat, x = k := ⟨x.toNat, by omega⟩; have hk12 : (k : Int) < 12 := x1; obtain ⟨str, hstr⟩ := HN.out k (by omega); have hc3 : w3.cell? ⟨w1.heap.size, k, none⟩ = some (.string str) := (by rw [cellD hg (by simp; omega) hstr]); have HG3 := Lib.hid (gtrans HG2.out hg); have HS3 := Lib.hid hs; have HK3 := Lib.hid (HK2.out.srcD hg (by omega)); have hsz3 : w.heap.size < w3.heap.size := (by have := hg.size; omega); clear hstr hg hs x0 x1))
        | (go_at_call 195; go_loud (refine (s_l09Named _ str).mono ?_; rintro e w4 ⟨v4, n4, rfl, hd4, hn1, hn4, hb4⟩; obtain ⟨Aa, ca, Ab, cb, rfl⟩ := hd4.open_; have HD4 := Lib.hid hd4; have HG4 := Lib.hid (gtrans HG3.out (gof hb4)); have HS4 := Lib.hid (HS3.out.below hb4); have HK4 := Lib.hid (HK3.out.below hb4 HK3.out.lt); have f0 : w4.cell? ⟨w.heap.size, 0, none⟩ = some (.slice none 0 0) := HK4.out.cell 0; have f1 : w4.cell? ⟨w.heap.size, 1, none⟩ = some (.slice none 0 0) := HK4.out.cell 1; have f2 := HK4.out.frozen 0; have f3 := HK4.out.frozen 1; clear hd4 hb4)))
      have g1 := gthen HG4.out (gset w4 w.heap.size 0 (.slice Aa n4 ca)) (by rintro b ⟨⟩; omega)
      have g2 := gthen g1 (gset _ w.heap.size 1 (.slice Ab n4 cb)) (by rintro b ⟨⟩; omega)
      have s1 := HS4.out.kept (gset w4 w.heap.size 0 (.slice Aa n4 ca)) (by intro e; injection e with e; omega) (by rintro b ⟨⟩; have := HBp.out; omega)
      have s2 := s1.kept (gset _ w.heap.size 1 (.slice Ab n4 cb)) (by intro e; injection e with e; omega) (by rintro b ⟨⟩; have := HBp.out; omega)
      refine bodyPost_ret (v := .agg #[.slice Aa n4 ca, .slice Ab n4 cb]) (by simp [results, Tryz.results153, go_sem, f0, f1]) rfl ⟨_, n4, rfl, HD4.out.store hsz3, hn1, by omega, g2, s2⟩
    | false =>
      go_upto_region 5 with (first
        | (go_at_call 50; (with_reducible refine (s_l01Next w1 B p (most : Nat) HS1.out (by omega) (by omega)).mono ?_); go_loud (rintro e w2 ⟨x, rfl, x0, x1, hg, hs⟩; obtain ⟨n0, rfl⟩ : ∃ n0 : Nat, x = n0 := ⟨x.toNat, by omega⟩; have hn8 : n0 + 1 ≤ 8 := (by omega); have hwn : wrap64 (1 + (n0 : Int)) = 1 + (n0 : Int) := (by rw [w64_dr _ (by omega)]); have HG2 := Lib.hid (gtrans HG1.out hg); have HS2 := Lib.hid hs; have HK2 := Lib.hid (HK1.out.srcD hg (by omega)); have HSZ2 := Lib.hid (Nat.le_trans HSZ1.out hg.size); clear hg hs x0 x1))
        | (go_at_call 50; (with_reducible refine (s_l01Next w2 B p 3 HS2.out (by omega) (by omega)).mono ?_); go_loud (rintro e w3 ⟨kd, rfl, x0, x1, hg, hs⟩; have HG3 := Lib.hid (gtrans HG2.out hg); have HS3 := Lib.hid hs; have HK3 := Lib.hid (HK2.out.srcD hg (by omega)); have HSZ3 := Lib.hid (Nat.le_trans HSZ2.out hg.size); clear hg hs x0 x1)))
      go_upto_region 6 with (go_at_call 51; go_loud (refine (s_l01List w3 B p (1 + n0) HS3.out (by omega)).mono ?_; rintro e w4 ⟨x4, rfl, zs, ho, lz, nz, hg, hs⟩; obtain ⟨gb, cb, rfl⟩ := own_openD ho ⟨lz, nz⟩ (by omega); have HO4 := Lib.hid ho; have HZ4 := Lib.hid (show Nl (1 + n0) zs from ⟨lz, nz⟩); have HG4 := Lib.hid (gtrans HG3.out hg); have HS4 := Lib.hid hs; have HK4 := Lib.hid (HK3.out.srcD hg (by omega)); have HSZ4 := Lib.hid (Nat.le_trans HSZ3.out hg.size); clear ho lz nz hg hs))
      have HD0 := Lib.hid (DrS.init HK4.out HG4.out HS4.out HO4.out (by have h1 := HSZ3.out; have h2 := HSW.out; omega) HZ4.out)
      clear HO4 HZ4 HG4 HS4 HK4 HSZ4 HG3 HS3 HK3 HSZ3 HG2 HS2 HK2 HSZ2 HG1 HS1 HK1 HSZ1
      go_wp2_with fail
      generalize w4.heap.size = q at *
      generalize w4.alloc (.cells #[.slice none 0 0, .slice (some ⟨gb, 0, none⟩) (1 + n0) cb] tTb) = W5 at *
      go_loopw [9] (fun x wr => ∃ (i : Nat), i ≤ 1 + n0 ∧ x = .int .i64 i ∧ ∃ va vs, Hid (DrS w wr B p q va (.slice (some ⟨gb, 0, none⟩) (1 + n0) cb) vs i (1 + n0))) (fun x _ => 1 + n0 - (intOf x).toNat)
      case atStart => exact ⟨0, Nat.zero_le _, rfl, _, _, HD0⟩
      case round =>
        obtain ⟨i, hi, rfl, va, vs, HD⟩ := hrel
        rename World => wi
        clear HD0
        by_cases hlt : i < 1 + n0
        · have hii : (i : Int) < 1 + (n0 : Int) := by omega
          have hpi : p < wi.heap.size := by have h1 := HD.out.gr.size; omega
          have HPI := Lib.hid hpi
          clear hpi
          go_wp2_with (go_at_call 51; go_loud (refine (s_l01List wi B p (1 + n0) HD.out.src (by omega)).mono ?_; rintro e w6 ⟨x6, rfl, zs6, ho, lz, nz, hg, hs⟩; obtain ⟨gr, cr, rfl⟩ := own_openD ho ⟨lz, nz⟩ (by omega); have HR6 := Lib.hid (show RwS wi w6 B p (.slice (some ⟨gr, 0, none⟩) (1 + n0) cr) (1 + n0) from ⟨⟨_, ho, lz, nz⟩, hg, hs⟩); clear ho lz nz hg hs))
          go_loopw [11] (fun x wr => ∃ (k : Nat), k ≤ 1 + n0 ∧ x = .int .i64 k ∧ Hid (RwS wi wr B p (.slice (some ⟨gr, 0, none⟩) (1 + n0) cr) (1 + n0))) (fun x _ => 1 + n0 - (intOf x).toNat)
          case atStart => exact ⟨0, Nat.zero_le _, rfl, HR6⟩
          case round =>
            obtain ⟨k, hk, rfl, HR⟩ := hrel
            rename World => wj
            clear HR6
            by_cases hlk : k < 1 + n0
            · have hkk : (k : Int) < 1 + (n0 : Int) := by omega
              obtain ⟨⟨u0, hcg⟩, hfg, hst⟩ := HR.out.store HPI.out hlk
              have HST := Lib.hid hst
              clear hst
              by_cases hk0 : kd = 0
              · have hkd : decide (kd = 0) = true := decide_eq_true hk0
                by_cases hc1 : i ≤ k
                · have hcc : (i : Int) ≤ (k : Int) := by omega
                  go_wp2_with fail
                  go_roundw
                  case rel => exact ⟨k + 1, by omega, by go_num, HST⟩
                  case measure => simp [intOf]; omega
                · have hcc : ¬ (i : Int) ≤ (k : Int) := by omega
                  have hk1 : ¬ kd = 1 := by omega
                  go_wp2_with fail
                  go_roundw
                  case rel => exact ⟨k + 1, by omega, by go_num, HR⟩
                  case measure => simp [intOf]; omega
              · by_cases hk1 : kd = 1
                · by_cases hc1 : i < k
                  · have hcc : (i : Int) < (k : Int) := by omega
                    go_wp2_with fail
                    go_roundw
                    case rel => exact ⟨k + 1, by omega, by go_num, HST⟩
                    case measure => simp [intOf]; omega
                  · have hcc : ¬ (i : Int) < (k : Int) := by omega
                    go_wp2_with fail
                    go_roundw
                    case rel => exact ⟨k + 1, by omega, by go_num, HR⟩
                    case measure => simp [intOf]; omega
                · go_wp2_with fail
                  go_roundw
                  case rel => exact ⟨k + 1, by omega, by go_num, HR⟩
                  case measure => simp [intOf]; omega
            · have hkk : ¬ (k : Int) < 1 + (n0 : Int) := by omega
              have HD5 := Lib.hid (HD.out.draw hpl HR.out.2.1 HR.out.2.2)
              have hva := HD5.out.ownA.cells.open_
              have HVL := Lib.hid HD5.out.lenA
              obtain ⟨Ava, cva, heva, -, -⟩ := hva
              rw [HVL.out] at heva
              subst heva
              have q0 : wj.cell? ⟨q, 0, none⟩ = some (.slice Ava i cva) := HD5.out.blk.cell 0
              have HZR := Lib.hid HR.out.1
              go_wp2_with (at_builtin; go_loud (refine wpList_app1 T_row HD5.out.ownA (by rw [HVL.out]; omega) (by have h1 := HD5.out.gr.size; have h2 := HD5.out.ge; have h3 := HD5.out.blk.lt; omega) (by rfl) rfl (by rfl) (by rfl) (by rfl) ?_; intro v7 w7 hown7 hgr7; have hop7 := hown7.cells.open_; (obtain ⟨A7, c7, he7, -, -⟩ := hop7); (rw [List.length_append, HVL.out] at he7); subst he7; have HN7 := Lib.hid hown7; have HR7 := Lib.hid hgr7; have hk7 := HD5.out.blk.grow hgr7 (HD5.out.ownA.ne_blk HD5.out.blk (by decide)); have q1 : w7.cell? ⟨q, 0, none⟩ = some (.slice Ava i cva) := hk7.cell 0; have q2 : w7.frozen? ⟨q, 0, none⟩ = false := hk7.frozen 0; clear hown7 hgr7 hk7))
              go_roundw
              case rel =>
                obtain ⟨zz, ho, hz⟩ := HZR.out
                exact ⟨i + 1, by omega, by go_num, _, _, HD.out.next hpl HR.out.2.1 HR.out.2.2 ho hz HN7.out HR7.out⟩
              case measure => simp [intOf]; omega
        · have hii : ¬ (i : Int) < 1 + (n0 : Int) := by omega
          have hin : i = 1 + n0 := by omega
          subst hin
          go_upto_if 80 with (go_at_call 50; go_loud (refine (s_l01Next wi B p 2 HD.out.src (by omega) (by omega)).mono ?_; rintro e w8 ⟨x8, rfl, -, -, hg, hs⟩; have HD8 := Lib.hid (HD.out.draw hpl hg hs); clear hg hs))
          generalize (x8 == 0) = cc at *
          go_cut [12, 13] (fun a b wx => Hid (DrS w wx B p q va (.slice (some ⟨gb, 0, none⟩) (1 + n0) cb) vs (1 + n0) (1 + n0)))
          case first =>
            cases cc with
            | true =>
              obtain ⟨bs, hbs, hbn⟩ := HD8.out.ws
              have HBN := Lib.hid hbn
              have HDq := HD8.out.blk
              have q0 : w8.cell? ⟨q, 1, none⟩ = some (.slice (some ⟨gb, 0, none⟩) (1 + n0) cb) := HDq.cell 1
              have HCB := Lib.hid (show ∀ k, k < 1 + n0 → ∃ z, w8.cell? ⟨gb, k, none⟩ = some (.int .i64 z) ∧ (0 ≤ z ∧ z ≤ 10006) from fun k hk => by
                obtain ⟨A, c, he, l1, l2, h3⟩ := hbs.open_
                obtain ⟨ad, z, hA, hz, hz2, hc⟩ := h3 k (by rw [hbn.1]; exact hk)
                rw [hA] at he
                injection he with e1 e2 e3
                injection e1 with e1
                subst e1
                rw [addr_addT] at hc
                exact ⟨z, hc, hbn.2 z (List.mem_of_getElem? hz)⟩)
              clear hbs hbn HDq
              go_wp2_with fail
              go_loopw [12, 13] (fun a b wr => ∃ (z : Int) (k : Nat), 1 ≤ k ∧ k ≤ 1 + n0 ∧ b = .int .i64 k ∧ a = .int .i64 z ∧ 0 ≤ z ∧ z ≤ 10006 ∧ wr = w8) (fun _ b _ => 1 + n0 - (intOf b).toNat)
              case atStart => exact ⟨0, 1, by omega, by omega, rfl, rfl, by omega, by omega, rfl⟩
              case round =>
                obtain ⟨z, k, hk1, hk, rfl, rfl, z0, z1, rfl⟩ := hrel
                by_cases hlk : k < 1 + n0
                · have hkk : (k : Int) < 1 + (n0 : Int) := by omega
                  obtain ⟨y, hc, y0, y1⟩ := HCB.out k hlk
                  go_wp2_with (go_at_call 132; refine (s_l01Add _ _ _ (by omega) (by omega) (by omega) (by omega)).mono ?_; rintro e w' ⟨rfl, rfl⟩)
                  go_roundw
                  case rel =>
                    exact ⟨_, k + 1, by omega, by omega, by go_num, rfl, by omega, by omega, trivial⟩
                  case measure => simp [intOf]; omega
                · have hkk : ¬ (k : Int) < 1 + (n0 : Int) := by omega
                  obtain ⟨⟨u0, hcg⟩, hfg, hst⟩ := HD8.out.setB (k := 0) (z := (1 - z) % 10007) hpl (by omega) (by omega)
                  have hbd : ∀ X : World, Below X.heap.size X X.drew := fun X => (Below.refl _ _).drew
                  have hst1 := hst.draw hpl (gof (hbd _)) (hst.src.below (hbd _))
                  have HST := Lib.hid hst
                  have HST1 := Lib.hid hst1
                  have h0n : 0 < 1 + n0 := by omega
                  have h0i : (0 : Int) < 1 + (n0 : Int) := by omega
                  clear hst hst1 hbd
                  go_wp2_with fail
                  go_region_law (go_simp; go_at_call 93; (with_reducible refine (s_l01Sub _ _ _ ?_ ?_ ?_ ?_).mono ?_); omega; omega; omega; omega; go_loud (rintro e w' ⟨rfl, rfl⟩))
                  all_goals
                    go_wp2_with fail
                    go_meet
                    first | exact HST | exact HST1
            | false =>
              go_wp2_with fail
              go_meet
              exact HD8
          case rest =>
            have HD9 := Lib.hid hcut.out
            rename World => wz
            have HDz := HD9.out
            have q0 : wz.cell? ⟨q, 0, none⟩ = some va := HDz.blk.cell 0
            have q1 : wz.cell? ⟨q, 1, none⟩ = some (.slice (some ⟨gb, 0, none⟩) (1 + n0) cb) := HDz.blk.cell 1
            have p0 : wz.cell? ⟨w.heap.size, 0, none⟩ = some (.slice none 0 0) := HDz.res.cell 0
            have p1 : wz.cell? ⟨w.heap.size, 1, none⟩ = some (.slice none 0 0) := HDz.res.cell 1
            have f0 : wz.frozen? ⟨w.heap.size, 0, none⟩ = false := HDz.res.frozen 0
            have f1 : wz.frozen? ⟨w.heap.size, 1, none⟩ = false := HDz.res.frozen 1
            obtain ⟨Av, cv, hve, -, -⟩ := HDz.ownA.cells.open_
            rw [HDz.lenA] at hve
            subst hve
            have HBLK := Lib.hid (show Blk ((wz.setCell ⟨w.heap.size, 0, none⟩ (.slice Av (1 + n0) cv)).setCell ⟨w.heap.size, 1, none⟩ (.slice (some ⟨gb, 0, none⟩) (1 + n0) cb)) w.heap.size tTb #[.slice Av (1 + n0) cv, .slice (some ⟨gb, 0, none⟩) (1 + n0) cb] from by have h := (HDz.res.set_ 0 (.slice Av (1 + n0) cv)).set_ 1 (.slice (some ⟨gb, 0, none⟩) (1 + n0) cb); simpa using h)
            clear HDz
            obtain ⟨hfin, hgf, hsf⟩ := HD9.out.fin hpl
            have HF := Lib.hid hfin
            have HGF := Lib.hid hgf
            have HSF := Lib.hid hsf
            clear hfin hgf hsf
            go_wp2_with fail
            have g0 : ((wz.setCell ⟨w.heap.size, 0, none⟩ (.slice Av (1 + n0) cv)).setCell ⟨w.heap.size, 1, none⟩ (.slice (some ⟨gb, 0, none⟩) (1 + n0) cb)).cell? ⟨w.heap.size, 0, none⟩ = some (.slice Av (1 + n0) cv) := HBLK.out.cell 0
            have g1 : ((wz.setCell ⟨w.heap.size, 0, none⟩ (.slice Av (1 + n0) cv)).setCell ⟨w.heap.size, 1, none⟩ (.slice (some ⟨gb, 0, none⟩) (1 + n0) cb)).cell? ⟨w.heap.size, 1, none⟩ = some (.slice (some ⟨gb, 0, none⟩) (1 + n0) cb) := HBLK.out.cell 1
            refine bodyPost_ret (v := .agg #[.slice Av (1 + n0) cv, .slice (some ⟨gb, 0, none⟩) (1 + n0) cb]) (by simp [results, Tryz.results153, go_sem, g0, g1]) rfl ⟨_, _, rfl, HF.out, by omega, by omega, HGF.out, HSF.out⟩
end Go.Proofs.YtdjhfeaimmpmhaaGreat

