/- Columns that grow beside a tableau, in plain words of memory. No program in sight. | Walks: times of the program. | Walks: is it a tableau (the program's and the reference's test). |  | Walks: IsSymmetric of the program and of the reference. | A tableau is a tableau of numbers; the empty tableau. No program in sight. -/
import Derived.Test.YtbjeibcombjfgaaQt12
import Derived.Test.YtbjeibcombjfgaaQt4
import Derived.Test.YtbjeibcombjfgaaRows
import Derived.Test.YtbjeibcombjfgaaQt3
import Derived.Test.YtbjeibcombjfgaaQt1
import Derived.Test.YtbjeibcombjfgaaQt5
import Derived.WalkLawsBesides
import Derived.BigGuardPart
import Derived.Deep.QuietTactic
import Derived.BigQuiet
set_option maxRecDepth 100000
set_option linter.unusedVariables false
set_option linter.unusedSimpArgs false
namespace Go.Proofs.Ytbjeibcombjfgaa
open Go.RowKit

section
variable {w w' : World} {B N p : Nat} {e t : TypeId} {v va vb : Value} {vs : List Value} {cs : Array Value} {rows : List (List Int)} {Bs : List Int}
theorem Own.ne_blk (h : Own w B e v vs) (hk : Blk w p t cs) (hne : e ≠ t) : v.ownBlock ≠ some p := by
  intro hb
  rcases h.cases with ⟨rfl, _⟩ | ⟨g, cap, cur, rfl, _, _, hg, _⟩
  · simp [Value.ownBlock] at hb
  · simp [Value.ownBlock] at hb
    subst hb
    have h2 : w.heap[g]? = some (.cells cs t (0, 0)) := hk
    rw [hg] at h2
    simp at h2
    exact hne h2.2
theorem Two.storeAt (h : Two w N va vb vs rows Bs) (hk : Blk w p t cs) (h1 : tL ≠ t) (h2 : tI ≠ t) (i : Nat) (u : Value) : Two (w.setCell ⟨p, i, none⟩ u) N va vb vs rows Bs := by
  have hh : ∀ b, b ≠ p → (w.setCell ⟨p, i, none⟩ u).heap[b]? = w.heap[b]? := fun b hb => Below.heap_setCell w ⟨p, i, none⟩ u b hb
  have hs : (w.setCell ⟨p, i, none⟩ u).heap.size = w.heap.size := by simp [World.setCell]
  refine ⟨h.own.of_block fun b hb => hh b (fun e => h.own.ne_blk hk h1 (e ▸ hb)), ?_, ⟨h.ws.1.of_block fun b hb => hh b (fun e => h.ws.1.ne_blk hk h2 (e ▸ hb)), h.ws.2⟩, h.ap⟩
  rw [hs]
  exact ⟨h.rows.1, fun k u' zs hu hz => ⟨⟨(h.rows.2.1 k u' zs hu hz).1.1.of_block fun b hb => hh b (fun e => (h.rows.2.1 k u' zs hu hz).1.1.ne_blk hk h2 (e ▸ hb)), (h.rows.2.1 k u' zs hu hz).1.2⟩, (h.rows.2.1 k u' zs hu hz).2⟩, h.rows.2.2⟩

/-- all that Two tells stands where only block p, of another type, has turned -/
theorem Two.other (h : Two w N va vb vs rows Bs) (hk : Blk w p t cs) (h1 : tL ≠ t) (h2 : tI ≠ t) (hg : w.grownBy w' (some p)) : Two w' N va vb vs rows Bs :=
  ⟨h.own.kept hg (.inr (h.own.ne_blk hk h1)), (h.rows.other hg fun k u hu => by
    have hx : rows[k]? = some (rows[k]'(by rw [← h.rows.1]; exact (List.getElem?_eq_some_iff.1 hu).1)) := List.getElem?_eq_getElem _
    exact .inr ((h.rows.2.1 k u _ hu hx).1.1.ne_blk hk h2)).mono (Nat.le_refl _) hg.size, ⟨h.ws.1.kept hg (.inr (h.ws.1.ne_blk hk h2)), h.ws.2⟩, h.ap⟩
end

/-- the first loop: columns vc beside the tableau in block p, whose weights grow -/
structure ColS (w0 w : World) (p : Nat) (vc vb : Value) (vs : List Value) (rows : List (List Int)) (Bs : List Int) : Prop where
  two : Two w (w0.heap.size + 1) vc vb vs rows Bs
  blk : Blk w p 27 #[.slice none 0 0, vb]
  below : Below w0.heap.size w0 w
section
variable {w0 w w' w1 : World} {p : Nat} {vc vb v1 r : Value} {vs : List Value} {rows : List (List Int)} {zs Bs : List Int} {z : Int}
theorem ColS.npA (h : ColS w0 w p vc vb vs rows Bs) : vc.ownBlock ≠ some p := h.two.own.ne_blk h.blk (by decide)
theorem ColS.npB (h : ColS w0 w p vc vb vs rows Bs) : vb.ownBlock ≠ some p := h.two.ws.1.ne_blk h.blk (by decide)
theorem ColS.step (h : ColS w0 w p vc vb vs rows Bs) (hb : Below w.heap.size w w') : ColS w0 w' p vc vb vs rows Bs :=
  ⟨h.two.step hb, h.blk.below hb h.blk.lt, h.below.trans (hb.mono h.below.size)⟩
theorem ColS.addA (h : ColS w0 w p vc vb vs rows Bs) (hp : w0.heap.size < w.heap.size) (hb : Below w.heap.size w w') (ho : OwnInts w' w.heap.size tI r zs)
    (hown : Own w1 (w0.heap.size + 1) tL v1 (vs ++ [r])) (hgr : Grow w' w1 vc v1) : ColS w0 w1 p v1 vb (vs ++ [r]) (rows ++ [zs]) Bs :=
  ⟨h.two.addA' hb hp ho hown hgr, (h.step hb).blk.grow hgr h.npA, hgr.below (h.step hb).below (h.step hb).below.size (fun b hb' => by have := h.two.own.ge b hb'; omega)⟩
theorem ColS.addB (h : ColS w0 w p vc vb vs rows Bs) (hp : w0.heap.size ≤ p) (hz : In64 z) (hown : Own w1 (w0.heap.size + 1) tI v1 (ints Bs ++ [.int .i64 z])) (hgr : Grow w w1 vb v1) :
    ColS w0 (w1.setCell ⟨p, 1, none⟩ v1) p vc v1 vs rows (Bs ++ [z]) := by
  have hk := h.blk.grow hgr h.npB
  refine ⟨(h.two.addB hz hown hgr).storeAt hk (by decide) (by decide) 1 v1, ?_, (hgr.below h.below h.below.size (fun b hb' => by have := h.two.ws.1.ge b hb'; omega)).setCell (p := ⟨p, 1, none⟩) hp v1⟩
  have := hk.set_ 1 v1
  simpa using this
end

/-- the second loop: rows va grow in block p, made since w4; of what stood there, only block p has turned -/
structure ColT (w4 w : World) (p : Nat) (va vb : Value) (vs : List Value) (rows : List (List Int)) : Prop where
  g : w4.grownBy w (some p)
  blk : Blk w p 27 #[va, vb]
  own : Own w w4.heap.size tL va vs
  rows : RowsOwn w w4.heap.size w.heap.size tI vs rows
section
variable {w0 w4 w w5 w6 : World} {p : Nat} {va vb v1 r : Value} {vs : List Value} {rows : List (List Int)} {zs : List Int}
theorem ColT.npA (h : ColT w4 w p va vb vs rows) : va.ownBlock ≠ some p := h.own.ne_blk h.blk (by decide)
theorem ColT.step (h : ColT w4 w p va vb vs rows) (hb : Below w.heap.size w w5) : ColT w4 w5 p va vb vs rows :=
  ⟨⟨hb.os.trans h.g.os, hb.tape.trans h.g.tape, hb.output.trans h.g.output, Nat.le_trans h.g.size hb.size, fun k hk hne => (hb.block k (Nat.lt_of_lt_of_le hk h.g.size)).trans (h.g.block k hk hne)⟩,
    h.blk.below hb h.blk.lt, h.own.below hb, (h.rows.below hb).mono (Nat.le_refl _) hb.size⟩
theorem ColT.next (h : ColT w4 w p va vb vs rows) (hb : Below w.heap.size w w5) (ho : OwnInts w5 w.heap.size tI r zs)
    (hown : Own w6 w4.heap.size tL v1 (vs ++ [r])) (hgr : Grow w5 w6 va v1) : ColT w4 (w6.setCell ⟨p, 0, none⟩ v1) p v1 vb (vs ++ [r]) (rows ++ [zs]) := by
  have h5 := h.step hb
  have hk := h5.blk.grow hgr h5.npA
  have hR := h5.rows.snoc (u := r) (zs := zs) ⟨ho.mono h.g.size, ho.1.lt⟩ (h.rows.apart (M := 0) fun b hb' => .inl (ho.1.ge b hb'))
  have hR6 := hR.other hgr.1 (fun j u hu => by
    have hx : (rows ++ [zs])[j]? = some ((rows ++ [zs])[j]'(by rw [← hR.1]; exact (List.getElem?_eq_some_iff.1 hu).1)) := List.getElem?_eq_getElem _
    exact Own.ne_of_type (hR.2.1 j u _ hu hx).1.1 h5.own (by decide))
  have hh : ∀ b, b ≠ p → (w6.setCell ⟨p, 0, none⟩ v1).heap[b]? = w6.heap[b]? := fun b hb => Below.heap_setCell w6 ⟨p, 0, none⟩ v1 b hb
  have hs : (w6.setCell ⟨p, 0, none⟩ v1).heap.size = w6.heap.size := by simp [World.setCell]
  refine ⟨⟨hgr.1.os.trans h5.g.os, hgr.1.tape.trans h5.g.tape, hgr.1.output.trans h5.g.output, by rw [hs]; exact Nat.le_trans h5.g.size hgr.1.size, fun k hk' hne => ?_⟩, ?_, ?_, ?_⟩
  · rw [hh k (fun e => hne (by rw [e])), hgr.1.block k (Nat.lt_of_lt_of_le hk' h5.g.size) (fun e => by have := h5.own.ge k e.symm; omega)]
    exact h5.g.block k hk' hne
  · have := hk.set_ 0 v1
    simpa using this
  · exact hown.of_block fun b hb' => hh b (fun e => hown.ne_blk hk (by decide) (e ▸ hb'))
  · rw [hs]
    have hR7 := hR6.mono (Nat.le_refl _) hgr.1.size
    exact ⟨hR7.1, fun k u' zs' hu hz => ⟨⟨(hR7.2.1 k u' zs' hu hz).1.1.of_block fun b hb' => hh b (fun e => (hR7.2.1 k u' zs' hu hz).1.1.ne_blk hk (by decide) (e ▸ hb')), (hR7.2.1 k u' zs' hu hz).1.2⟩, (hR7.2.1 k u' zs' hu hz).2⟩, hR7.2.2⟩
theorem ColT.tab {vc : Value} {vs' : List Value} {rows' : List (List Int)} {Bs : List Int} (h : ColT w4 w p va vb vs rows) (hs : ColS w0 w4 p vc vb vs' rows' Bs) (hp : w0.heap.size + 1 ≤ w4.heap.size) : OT w (w0.heap.size + 1) w.heap.size (.agg #[va, vb]) rows Bs :=
  OT.of_M' (M := w4.heap.size) hp h.g.size ⟨(hs.two.other hs.blk (by decide) (by decide) h.g).ws, hs.two.ws.1.lt⟩ ⟨vs, h.own, h.own.lt, h.rows⟩
end

/-- a tableau that is filled in block p, wherever it lies among the blocks that were made since w0 -/
structure FillT (w0 w : World) (p : Nat) (va vb : Value) (vs : List Value) (rows : List (List Int)) (Bs : List Int) : Prop where
  two : Two w (w0.heap.size + 1) va vb vs rows Bs
  blk : Blk w p 27 #[va, vb]
  ge : w0.heap.size + 1 ≤ p
  below : Below w0.heap.size w0 w
section
variable {w0 w w5 w6 : World} {p : Nat} {va vb v1 r : Value} {vs : List Value} {rows : List (List Int)} {zs Bs : List Int}
theorem FillT.npA (h : FillT w0 w p va vb vs rows Bs) : va.ownBlock ≠ some p := h.two.own.ne_blk h.blk (by decide)
theorem FillT.npB (h : FillT w0 w p va vb vs rows Bs) : vb.ownBlock ≠ some p := h.two.ws.1.ne_blk h.blk (by decide)
theorem FillT.step (h : FillT w0 w p va vb vs rows Bs) (hb : Below w.heap.size w w5) : FillT w0 w5 p va vb vs rows Bs :=
  ⟨h.two.step hb, h.blk.below hb h.blk.lt, h.ge, h.below.trans (hb.mono h.below.size)⟩
theorem FillT.next (h : FillT w0 w p va vb vs rows Bs) (hb : Below w.heap.size w w5) (ho : OwnInts w5 w.heap.size tI r zs)
    (hown : Own w6 (w0.heap.size + 1) tL v1 (vs ++ [r])) (hgr : Grow w5 w6 va v1) : FillT w0 (w6.setCell ⟨p, 0, none⟩ v1) p v1 vb (vs ++ [r]) (rows ++ [zs]) Bs := by
  have h5 := h.step hb
  have hk := h5.blk.grow hgr h5.npA
  have hN : w0.heap.size + 1 ≤ w.heap.size := by have := h.ge; have := h.blk.lt; omega
  refine ⟨(h.two.addA' hb hN ho hown hgr).storeAt hk (by decide) (by decide) 0 v1, ?_, h.ge, (hgr.below h5.below h5.below.size (fun b hb' => by have := h5.two.own.ge b hb'; omega)).setCell (p := ⟨p, 0, none⟩) (by have := h.ge; show _ ≤ p; omega) v1⟩
  have := hk.set_ 0 v1
  simpa using this
theorem FillT.tab (h : FillT w0 w p va vb vs rows Bs) : OT w (w0.heap.size + 1) w.heap.size (.agg #[va, vb]) rows Bs := h.two.tab
end

theorem FillT.init {w0 w : World} {p : Nat} {vb : Value} {Bs : List Int} (h : Two w (w0.heap.size + 1) (.slice none 0 0) vb [] [] Bs) (hk : Blk w p 27 #[.slice none 0 0, .slice none 0 0]) (hb : Below w0.heap.size w0 w) (hp : w0.heap.size + 1 ≤ p) :
    FillT w0 ((w.setCell ⟨p, 0, none⟩ (.slice none 0 0)).setCell ⟨p, 1, none⟩ vb) p (.slice none 0 0) vb [] [] Bs := by
  have h0 := h.storeAt hk (by decide) (by decide) 0 (.slice none 0 0)
  have k0 := hk.set_ 0 (.slice none 0 0)
  have h1 := h0.storeAt k0 (by decide) (by decide) 1 vb
  have k1 := k0.set_ 1 vb
  exact ⟨h1, by simpa using k1, hp, (hb.setCell (p := ⟨p, 0, none⟩) (by show _ ≤ p; omega) _).setCell (p := ⟨p, 1, none⟩) (by show _ ≤ p; omega) _⟩

/-- the three blocks of a walk of two tableaus: both arguments and the result -/
structure Env (w0 w : World) (c0 c1 c2 : Array Value) : Prop where
  k0 : Blk w w0.heap.size 27 c0
  k1 : Blk w (w0.heap.size + 1) 27 c1
  k2 : Blk w (w0.heap.size + 1 + 1) 27 c2
  below : Below w0.heap.size w0 w
section
variable {w0 w w' : World} {c0 c1 c2 : Array Value} {v v' : Value} {vs : List Value} {B p : Nat} {e : TypeId}
theorem Env.step (h : Env w0 w c0 c1 c2) (hb : Below w.heap.size w w') : Env w0 w' c0 c1 c2 :=
  ⟨h.k0.below hb h.k0.lt, h.k1.below hb h.k1.lt, h.k2.below hb h.k2.lt, h.below.trans (hb.mono h.below.size)⟩
theorem Env.grow (h : Env w0 w c0 c1 c2) (ho : Own w B e v vs) (he : e ≠ 27) (hB : w0.heap.size ≤ B) (hgr : Grow w w' v v') : Env w0 w' c0 c1 c2 :=
  ⟨h.k0.grow hgr (ho.ne_blk h.k0 he), h.k1.grow hgr (ho.ne_blk h.k1 he), h.k2.grow hgr (ho.ne_blk h.k2 he), hgr.below h.below h.below.size (fun b hb => Nat.le_trans hB (ho.ge b hb))⟩
theorem Env.store (h : Env w0 w c0 c1 c2) (hp : w0.heap.size + 1 + 1 < p) (i : Nat) (u : Value) : Env w0 (w.setCell ⟨p, i, none⟩ u) c0 c1 c2 :=
  ⟨h.k0.far (p := ⟨p, i, none⟩) (by show _ ≠ p; omega) u, h.k1.far (p := ⟨p, i, none⟩) (by show _ ≠ p; omega) u, h.k2.far (p := ⟨p, i, none⟩) (by show _ ≠ p; omega) u, h.below.setCell (p := ⟨p, i, none⟩) (by show _ ≤ p; omega) u⟩
end
end Go.Proofs.Ytbjeibcombjfgaa

set_option linter.unusedVariables false
set_option linter.unusedSimpArgs false
namespace Go.Proofs.Ytbjeibcombjfgaa
open Go.RowKit

/-- a tableau of numbers, of any form -/
structure NumTab (A : List (List Int)) (Bs : List Int) : Prop where
  la : A.length ≤ 1000
  lb : Bs.length ≤ 1000
  rows : ∀ zs ∈ A, Nums zs ∧ zs.length ≤ 1000
  ws : Nums Bs

set_option maxRecDepth 100000 in
set_option maxHeartbeats 2000000 in
theorem im_times (w : World) (v : Value) (A : List (List Int)) (Bs : List Int) (k : Int) (ha : TabArg w v A Bs) (hT : NumTab A Bs) (h0 : -4000000000000000000 ≤ k) (h1 : k ≤ 4000000000000000000) :
    Calls Try.prog 64 #[v, .int .i64 k] w fun e w' => ∃ r, e = .returned r ∧ OT w' w.heap.size w'.heap.size r (A.map (scl (k % 10007))) (scl (k % 10007) Bs) ∧ Below w.heap.size w w' := by
  obtain ⟨va, vb, rfl, hA, hB⟩ := ha
  have HB := Lib.hid hB
  have HA := Lib.hid hA
  obtain ⟨A1, c1, rfl, l1, l2, h3⟩ := hA.open_
  obtain ⟨A2, c2, rfl, -, -, -⟩ := hB.open_
  have H3 := Lib.hid h3
  have hal := hT.la
  have hbl := hT.lb
  have HT := Lib.hid hT
  clear hA hB h3 hT
  go_enter Try.func64, Try.ntmps64
  go_wp2_with fail
  refine (i_scaled _ _ Bs k (HB.out.below (below2 w _ _)) HT.out.ws (by omega) h0 h1).mono ?_
  rintro e w3 ⟨v3, rfl, ho, hb3⟩
  simp only [size_alloc'] at ho hb3
  obtain ⟨A3, c3, hv, -, -, -⟩ := ho.ints.open_
  rw [scl_len] at hv
  subst hv
  have hs3 := hb3.size
  simp only [size_alloc'] at hs3
  have k0 : Blk w3 w.heap.size 27 #[.slice A1 A.length c1, .slice A2 Bs.length c2] := ((Blk.new w _ _).alloc _).below hb3 (by omega)
  have k1 : Blk w3 (w.heap.size + 1) 27 #[.slice none 0 0, .slice none 0 0] := (Blk.new1 w _ _ _).below hb3 (by omega)
  have g0 : (w3.alloc (.cells #[.slice none 0 0, .slice A3 Bs.length c3] 27)).cell? ⟨w.heap.size, 0, none⟩ = some (.slice A1 A.length c1) := (k0.alloc _).cell 0
  have HF := Lib.hid (show Fill w (w3.alloc (.cells #[.slice none 0 0, .slice A3 Bs.length c3] 27)) w3.heap.size (.slice none 0 0) (.slice A3 Bs.length c3) [] (w.heap.size + 1 + 1) [] (scl (k % 10007) Bs) from
    ⟨Blk.new _ _ _, Own.nil _ _ _, RowsOwn.nil _ _ _ _, (OI.of ho).below (below1 _ _), by omega, ((below2 w _ _).trans (hb3.mono (by omega))).alloc (by omega) _⟩)
  have K1 := Lib.hid (k1.alloc (.cells #[.slice none 0 0, .slice A3 Bs.length c3] 27))
  have HP := Lib.hid hs3
  clear k0 k1 ho hb3 hs3
  go_wp2_with fail
  clear g0
  generalize hw4 : (w3.alloc (.cells #[.slice none 0 0, .slice A3 Bs.length c3] 27)) = w4 at HF K1
  have HBelow4 := Lib.hid HF.out.below
  clear hw4
  generalize hp : w3.heap.size = p at HF HP ⊢
  clear hp
  go_loopw [16] (fun i wr => ∃ (j : Nat) (va : Value) (vs : List Value), j ≤ A.length ∧ i = .int .i64 j ∧ Fill w wr p va (.slice A3 Bs.length c3) vs (w.heap.size + 1 + 1) ((A.take j).map (scl (k % 10007))) (scl (k % 10007) Bs) ∧ Blk wr (w.heap.size + 1) 27 #[.slice none 0 0, .slice none 0 0]) (fun i _ => A.length - (intOf i).toNat)
  case atStart => exact ⟨0, _, [], Nat.zero_le _, rfl, HF.out, K1.out⟩
  case round =>
    obtain ⟨j, va, vs, hj, rfl, hfill, hk1⟩ := hrel
    clear HF K1
    have HF := Lib.hid hfill
    have K1 := Lib.hid hk1
    have hvl : vs.length ≤ 1000 := by have := hfill.rows.1; simp at this; omega
    have HV := Lib.hid hvl
    clear hfill hk1 hvl
    by_cases hlt : j < A.length
    · obtain ⟨ad, u, zs, rfl, hz, hu, hc0⟩ := H3.out j hlt
      have hc : wr.cell? (ad.add j) = some u := by
        rw [HF.out.below.cell (by rw [block_add]; have := World.block_lt_of_cell? w _ hc0; rwa [block_add] at this)]; exact hc0
      have HU := Lib.hid (hu.below HF.out.below)
      have HZN := Lib.hid (HT.out.rows zs (List.mem_of_getElem? hz))
      have HZ := Lib.hid hz
      clear hz hu hc0
      go_wp2_with fail
      have q0 := (HF.out.blk.both (u := va) rfl).1
      have q1 := (HF.out.blk.both (u := va) rfl).2
      go_region_law (first | (refine step_app1 T_row (B := p + 1) (v := va) (vs := vs) (HF.out.own.below (below_of_drew hb5)) (by have := HV.out; omega) (by have h1 := HF.out.lt; have h2 := hb5.size; simp at h2; omega) (by rfl) rfl (by rfl) (by rfl) (by rfl) ?_; intro v6 w6 hown6 hgr6; obtain ⟨A6, c6, hv6, -, -⟩ := hown6.cells.open_; subst hv6; have q6 := (((HF.out.after (below_of_drew hb5)).grow hgr6 HF.out.np).both (u := va) rfl).1; have q7 := (((HF.out.after (below_of_drew hb5)).grow hgr6 HF.out.np).both (u := va) rfl).2) | (go_simp; go_at_call 118; refine (i_scaled _ _ zs k (by exact HU.out) HZN.out.1 (by have := HZN.out.2; omega) h0 h1).mono ?_; rintro e w5 ⟨r5, rfl, ho5, hb5⟩; obtain ⟨A5, c5, hv5, -, -, -⟩ := ho5.ints.open_; rw [scl_len] at hv5; subst hv5; have q5 := ((HF.out.after (below_of_drew hb5)).both (u := va) rfl).1; have q5a : ∀ o, (w5.alloc o).cell? ⟨p, 0, none⟩ = some va := fun o => ((HF.out.after (below_of_drew hb5)).alloc o).cell 0))
      all_goals
        have HN := Lib.hid (HF.out.next (zs := scl (k % 10007) zs) (r := Value.slice A5 zs.length c5) (by have := HP.out; omega) (below_of_drew hb5) ho5 hown6 hgr6)
        have KN := Lib.hid ((((K1.out.below (below_of_drew hb5) K1.out.lt).grow hgr6 (fun e => by have h1 := HF.out.own.ge _ e; have h2 := HP.out; omega))).far (p := ⟨p, 0, none⟩) (by have h2 := HP.out; simp; omega) (Value.slice A6 (vs ++ [Value.slice A5 zs.length c5]).length c6))
        have HZT := Lib.hid (show (A.take (j + 1)).map (scl (k % 10007)) = (A.take j).map (scl (k % 10007)) ++ [scl (k % 10007) zs] by rw [List.take_add_one, HZ.out]; simp)
        simp only [List.length_append, List.length_singleton] at HN KN
        clear hown6 hgr6 ho5 hb5 q0 q1 q5 q5a q6 q7 hc
        go_wp2_with fail
        go_roundw
        case rel =>
          refine ⟨j + 1, .slice A6 (vs.length + 1) c6, vs ++ [.slice A5 zs.length c5], by omega, by go_num, ?_, KN.out⟩
          rw [HZT.out]
          exact HN.out
        case measure => simp [intOf]; omega
    · have : j = A.length := by omega
      subst this
      rw [List.take_length] at HF
      obtain ⟨A7, c7, hv7, -, -⟩ := HF.out.own.cells.open_
      have hvl : vs.length = A.length := by have := HF.out.rows.1; simp at this; omega
      rw [hvl] at hv7
      subst hv7
      have e0 : wr.cell? ⟨p, 0, none⟩ = some (.slice A7 A.length c7) := HF.out.blk.cell 0
      have e1 : wr.cell? ⟨p, 1, none⟩ = some (.slice A3 Bs.length c3) := HF.out.blk.cell 1
      have f0 : wr.cell? ⟨w.heap.size + 1, 0, none⟩ = some (.slice none 0 0) := K1.out.cell 0
      have f1 : wr.cell? ⟨w.heap.size + 1, 1, none⟩ = some (.slice none 0 0) := K1.out.cell 1
      have f2 := K1.out.frozen 0
      have f3 := K1.out.frozen 1
      have HTAB := Lib.hid (HF.out.tab (by have := HP.out; omega))
      clear hvl
      go_wp2_with fail
      have c0 := Chg.refl (w.heap.size + 1) (w.heap.size + 1 + 1) wr
      have c1' := c0.setCell (p := ⟨w.heap.size + 1, 0, none⟩) (Nat.le_refl _) (by simp) (.slice A7 A.length c7)
      have c2' := c1'.setCell (p := ⟨w.heap.size + 1, 1, none⟩) (Nat.le_refl _) (by simp) (.slice A3 Bs.length c3)
      have hsb := HF.out.below.size
      refine bodyPost_ret (v := .agg #[.slice A7 A.length c7, .slice A3 Bs.length c3]) (by simp [results, Try.results64, go_sem, f0, f1]) rfl ⟨_, rfl, (HTAB.out.kept c2' (.inr (Nat.le_refl _))).mono (by omega) c2'.size, c2'.below HF.out.below (by omega) hsb⟩
end Go.Proofs.Ytbjeibcombjfgaa

set_option linter.unusedVariables false
set_option linter.unusedSimpArgs false
namespace Go.Proofs.Ytbjeibcombjfgaa
open Go.RowKit

def rowB (n : Nat) (row : List Int) : Bool := decide (row.length = n) && nums row
def tabB (A : List (List Int)) (Bs : List Int) : Bool := inR Bs.length 1 8 && decide (A.length = Bs.length) && nums Bs && A.all (rowB Bs.length)

set_option maxHeartbeats 400000 in
theorem lib_IndexFuncR (w : World) (v : Value) (xss : List (List Int)) (g : Nat) (c0 : Value) (p : List Int → Bool) (ha : Rows w v xss)
    (hcf : ∀ (args : Array Value) (w : World), Sem.run Try.prog (callFunc g args) w = .ok (.enter g args) w)
    (hp : ∀ (u : Value) (zs : List Int), Ints w u zs → Calls Try.prog g #[u, c0] w fun e w' => e = .returned (.bool (p zs)) ∧ w = w') :
    Calls Try.prog 184 #[v, .func (.func g) #[] #[c0]] w fun e w' => e = .returned (.int .i64 (idxF p xss)) ∧ w = w' := by
  obtain ⟨A, c, rfl, h1, h2, h3⟩ := ha.open_
  clear ha
  have H3 := Lib.hid h3
  have HP := Lib.hid hp
  clear h3 hp
  go_enter Try.func184, Try.ntmps184
  go_wp2_with fail
  go_loop [8] (fun i => ∃ k : Nat, k ≤ xss.length ∧ i = .int .i64 k ∧ Hid (∀ i y, i < k → xss[i]? = some y → p y = false)) (fun i => xss.length - (intOf i).toNat)
  case atStart => exact ⟨0, Nat.zero_le _, rfl, fun i y h => by omega⟩
  case round =>
    obtain ⟨k, hk, rfl, hI⟩ := hrel
    by_cases hlt : k < xss.length
    · obtain ⟨ad, u, zs, rfl, hz, hu, hc⟩ := H3.out k hlt
      have HZ := Lib.hid hz
      have HU := Lib.hid hu
      clear hz hu
      go_wp2_with fail
      refine (HP.out u zs HU.out).mono ?_
      rintro e w' ⟨rfl, rfl⟩
      go_wp2_with fail
      · have hpz : p zs = true := by assumption
        go_ret
        exact ⟨ret_int (idxF_hit hI.out HZ.out hpz).symm, rfl⟩
      · have hpz : p zs = false := by assumption
        go_round
        case rel =>
          refine ⟨k + 1, by omega, by go_num, fun i y hi hy => ?_⟩
          by_cases e : i = k
          · subst e
            rw [HZ.out] at hy
            cases hy
            exact hpz
          · exact hI.out i y (by omega) hy
        case measure => simp [intOf]; omega
    · have : k = xss.length := by omega
      subst this
      go_wp2_with fail
      go_ret
      exact ⟨ret_int (idxF_miss hI.out).symm, rfl⟩

set_option maxHeartbeats 400000 in
theorem lib_ContainsFuncR (w : World) (v : Value) (xss : List (List Int)) (g : Nat) (c0 : Value) (p : List Int → Bool) (ha : Rows w v xss)
    (hcf : ∀ (args : Array Value) (w : World), Sem.run Try.prog (callFunc g args) w = .ok (.enter g args) w)
    (hp : ∀ (u : Value) (zs : List Int), Ints w u zs → Calls Try.prog g #[u, c0] w fun e w' => e = .returned (.bool (p zs)) ∧ w = w') :
    Calls Try.prog 116 #[v, .func (.func g) #[] #[c0]] w fun e w' => e = .returned (.bool (xss.any p)) ∧ w = w' := by
  have HA := Lib.hid ha
  have HP := Lib.hid hp
  clear ha hp
  go_enter Try.func116, Try.ntmps116
  go_wp2_with (go_at_call 184; refine (lib_IndexFuncR _ _ _ _ _ _ HA.out hcf HP.out).mono ?_; rintro e w' ⟨rfl, rfl⟩)
  go_ret
  exact ⟨ret_bool (idxF_nonneg p xss), rfl⟩

set_option maxHeartbeats 400000 in
theorem i_IsTableau1 (w : World) (v : Value) (zs : List Int) (a : Addr) (n : Nat) (ha : Ints w v zs) (hc : w.cell? a = some (.int .i64 (n : Int))) :
    Calls Try.prog 117 #[v, .pointer (some a)] w fun e w' => e = .returned (.bool (!rowB n zs)) ∧ w = w' := by
  have HA := Lib.hid ha
  obtain ⟨A, c, rfl, h1, h2, h3⟩ := ha.open_
  clear ha h3
  by_cases hl : zs.length = n
  · have HF := Lib.hid (show (!rowB n zs) = !nums zs by simp [rowB, hl])
    have hd : (((zs.length : Nat) : Int) != (n : Int)) = false := by simp [hl]
    clear hl
    go_enter Try.func117, Try.ntmps117
    go_wp2_with (go_at_call 103; refine (i_areNumbers _ _ _ HA.out).mono ?_; rintro e w' ⟨rfl, rfl⟩)
    go_ret
    exact ⟨ret_bool HF.out.symm, rfl⟩
  · have HF := Lib.hid (show (!rowB n zs) = true by simp [rowB, hl])
    have hd : (((zs.length : Nat) : Int) != (n : Int)) = true := by simp; omega
    clear hl
    go_enter Try.func117, Try.ntmps117
    go_wp2_with (go_at_call 103; refine (i_areNumbers _ _ _ HA.out).mono ?_; rintro e w' ⟨rfl, rfl⟩)
    go_ret
    exact ⟨ret_bool HF.out.symm, rfl⟩

theorem any_not_all {α : Type} (p : α → Bool) (l : List α) : (l.any fun x => !p x) = !l.all p := by
  induction l with
  | nil => rfl
  | cons x l ih => simp only [List.any_cons, List.all_cons, ih]; cases p x <;> simp

set_option maxHeartbeats 1000000 in
theorem i_IsTableau (w : World) (v : Value) (A : List (List Int)) (Bs : List Int) (ha : TabArg w v A Bs) :
    Calls Try.prog 61 #[v] w fun e w' => e = .returned (.bool (tabB A Bs)) ∧ Below w.heap.size w w' := by
  obtain ⟨va, vb, rfl, ha1, ha2⟩ := ha
  have BB := Lib.hid (below2 w (.cells #[va, vb] 27) (.cells #[.int .i64 (Bs.length : Int)] 3))
  have H1 := Lib.hid (ha1.below BB.out)
  have H2 := Lib.hid (ha2.below BB.out)
  obtain ⟨A1, c1, rfl, g1, g2, _⟩ := ha1.open_
  obtain ⟨A2, c2, rfl, k1, k2, _⟩ := ha2.open_
  clear ha1 ha2
  cases hr : inR Bs.length 1 8 with
  | false =>
    have HF := Lib.hid (show tabB A Bs = false by simp [tabB, hr])
    go_enter Try.func61, Try.ntmps61
    go_wp2_with (first | (go_at_call 115; refine (lib_lengthI _ _ _ H2.out).mono ?_; rintro e w' ⟨rfl, rfl⟩) | (go_at_call 62; refine (i_inRange _ _ _ _).mono ?_; rintro e w' ⟨rfl, rfl⟩))
    go_ret
    exact ⟨ret_bool HF.out.symm, BB.out⟩
  | true =>
    by_cases hl : A.length = Bs.length
    · have hd : (((A.length : Nat) : Int) != (Bs.length : Int)) = false := by simp [hl]
      cases hn : nums Bs with
      | false =>
        have HF := Lib.hid (show tabB A Bs = false by simp [tabB, hn])
        clear hl
        go_enter Try.func61, Try.ntmps61
        go_wp2_with (first | (go_at_call 115; refine (lib_lengthI _ _ _ H2.out).mono ?_; rintro e w' ⟨rfl, rfl⟩) | (go_at_call 62; refine (i_inRange _ _ _ _).mono ?_; rintro e w' ⟨rfl, rfl⟩) | (go_at_call 103; refine (i_areNumbers _ _ _ H2.out).mono ?_; rintro e w' ⟨rfl, rfl⟩))
        go_ret
        exact ⟨ret_bool HF.out.symm, BB.out⟩
      | true =>
        have HF := Lib.hid (show tabB A Bs = A.all (rowB Bs.length) by simp [tabB, hr, hl, hn])
        clear hl
        go_enter Try.func61, Try.ntmps61
        go_wp2_with (first | (go_at_call 115; refine (lib_lengthI _ _ _ H2.out).mono ?_; rintro e w' ⟨rfl, rfl⟩) | (go_at_call 62; refine (i_inRange _ _ _ _).mono ?_; rintro e w' ⟨rfl, rfl⟩) | (go_at_call 103; refine (i_areNumbers _ _ _ H2.out).mono ?_; rintro e w' ⟨rfl, rfl⟩))
        refine (lib_ContainsFuncR _ _ _ _ _ (fun row => !rowB Bs.length row) H1.out (fun _ _ => by kernel_rfl) (fun u zs hu => i_IsTableau1 _ _ _ _ _ hu (by simp))).mono ?_
        rintro e w' ⟨rfl, rfl⟩
        go_wp2_with fail
        go_ret
        exact ⟨ret_bool (by rw [HF.out, any_not_all, Bool.not_not]), BB.out⟩
    · have hd : (((A.length : Nat) : Int) != (Bs.length : Int)) = true := by simp; omega
      have HF := Lib.hid (show tabB A Bs = false by simp [tabB, hl])
      clear hl
      go_enter Try.func61, Try.ntmps61
      go_wp2_with (first | (go_at_call 115; refine (lib_lengthI _ _ _ H2.out).mono ?_; rintro e w' ⟨rfl, rfl⟩) | (go_at_call 62; refine (i_inRange _ _ _ _).mono ?_; rintro e w' ⟨rfl, rfl⟩))
      go_ret
      exact ⟨ret_bool HF.out.symm, BB.out⟩

theorem all_rows {n : Nat} {A : List (List Int)} (h : ∀ i y, i < A.length → A[i]? = some y → rowB n y = true) : A.all (rowB n) = true := by
  rw [List.all_eq_true]
  intro x hx
  obtain ⟨i, hi, rfl⟩ := List.getElem_of_mem hx
  exact h i _ hi (List.getElem?_eq_getElem hi)
theorem not_all_rows {n k : Nat} {A : List (List Int)} {zs : List Int} (h : A[k]? = some zs) (hz : rowB n zs = false) : A.all (rowB n) = false := by
  rw [List.all_eq_false]
  exact ⟨zs, List.mem_of_getElem? h, by simp [hz]⟩

set_option maxHeartbeats 1000000 in
theorem s_l09Is (w : World) (v : Value) (A : List (List Int)) (Bs : List Int) (ha : TabArg w v A Bs) :
    Calls Try.prog 67 #[v] w fun e w' => e = .returned (.bool (tabB A Bs)) ∧ Below w.heap.size w w' := by
  obtain ⟨va, vb, rfl, ha1, ha2⟩ := ha
  have BB := Lib.hid (below1 w (.cells #[va, vb] 27))
  have H1 := Lib.hid (ha1.below BB.out)
  have H2 := Lib.hid (ha2.below BB.out)
  obtain ⟨A1, c1, hva, g1, g2, g3⟩ := H1.out.open_
  obtain ⟨A2, c2, hvb, k1, k2, _⟩ := ha2.open_
  subst hva
  subst hvb
  have G3 := Lib.hid g3
  clear ha1 ha2 g3
  by_cases q1 : (Bs.length : Int) < (1 : Int)
  · have HF := Lib.hid (show tabB A Bs = false by simp [tabB, inR]; omega)
    go_enter Try.func67, Try.ntmps67
    go_wp2_with (go_at_call 101; refine (s_l01Numbers _ _ _ H2.out).mono ?_; rintro e w' ⟨rfl, rfl⟩)
    go_ret
    exact ⟨ret_bool HF.out.symm, BB.out⟩
  · by_cases q2 : (8 : Int) < (Bs.length : Int)
    · have HF := Lib.hid (show tabB A Bs = false by simp [tabB, inR]; omega)
      go_enter Try.func67, Try.ntmps67
      go_wp2_with (go_at_call 101; refine (s_l01Numbers _ _ _ H2.out).mono ?_; rintro e w' ⟨rfl, rfl⟩)
      go_ret
      exact ⟨ret_bool HF.out.symm, BB.out⟩
    · have hr : inR Bs.length 1 8 = true := by rw [inR_iff]; omega
      by_cases hl : A.length = Bs.length
      · have hd : (((A.length : Nat) : Int) != (Bs.length : Int)) = false := by simp [hl]
        have hle : A.length ≤ Bs.length := by omega
        have hle' : Bs.length ≤ A.length := by omega
        cases hn : nums Bs with
        | false =>
          have HF := Lib.hid (show tabB A Bs = false by simp [tabB, hn])
          clear hl hr
          go_enter Try.func67, Try.ntmps67
          go_wp2_with (go_at_call 101; refine (s_l01Numbers _ _ _ H2.out).mono ?_; rintro e w' ⟨rfl, rfl⟩)
          go_ret
          exact ⟨ret_bool HF.out.symm, BB.out⟩
        | true =>
          have HF := Lib.hid (show tabB A Bs = A.all (rowB Bs.length) by simp [tabB, hr, hl, hn])
          clear hl hr
          go_enter Try.func67, Try.ntmps67
          go_wp2_with (go_at_call 101; refine (s_l01Numbers _ _ _ H2.out).mono ?_; rintro e w' ⟨rfl, rfl⟩)
          go_loop [4] (fun i => ∃ k : Nat, k ≤ Bs.length ∧ i = .int .i64 k ∧ Hid (∀ i y, i < k → A[i]? = some y → rowB Bs.length y = true)) (fun i => Bs.length - (intOf i).toNat)
          case atStart => exact ⟨0, Nat.zero_le _, rfl, fun i y h => by omega⟩
          case round =>
            obtain ⟨k, hk, rfl, hI⟩ := hrel
            by_cases hlt : k < Bs.length
            · obtain ⟨ad, u, zs, rfl, hz, hu, hc⟩ := G3.out k (by omega)
              have HU := Lib.hid hu
              obtain ⟨A3, c3, rfl, _, _, _⟩ := hu.open_
              have HZ := Lib.hid hz
              have hka : (k : Int) < (A.length : Int) := by omega
              clear hz hu
              by_cases hl2 : zs.length = Bs.length
              · have hd2 : (((zs.length : Nat) : Int) != (Bs.length : Int)) = false := by simp [hl2]
                have HL2 := Lib.hid hl2
                clear hl2
                cases hn2 : nums zs with
                | false =>
                  go_wp2_with (go_at_call 101; refine (s_l01Numbers _ _ _ HU.out).mono ?_; rintro e w' ⟨rfl, rfl⟩)
                  go_ret
                  exact ⟨ret_bool (by rw [HF.out, not_all_rows HZ.out (by simp [rowB, hn2])]), BB.out⟩
                | true =>
                  go_wp2_with (go_at_call 101; refine (s_l01Numbers _ _ _ HU.out).mono ?_; rintro e w' ⟨rfl, rfl⟩)
                  go_round
                  case rel =>
                    refine ⟨k + 1, by omega, by go_num, fun i y hi hy => ?_⟩
                    by_cases e : i = k
                    · subst e
                      rw [HZ.out] at hy
                      cases hy
                      simp [rowB, hn2, HL2.out]
                    · exact hI.out i y (by omega) hy
                  case measure => simp [intOf]; omega
              · have hd2 : (((zs.length : Nat) : Int) != (Bs.length : Int)) = true := by simp; omega
                have HL2 := Lib.hid hl2
                clear hl2
                go_wp2_with (go_at_call 101; refine (s_l01Numbers _ _ _ HU.out).mono ?_; rintro e w' ⟨rfl, rfl⟩)
                go_ret
                exact ⟨ret_bool (by rw [HF.out, not_all_rows HZ.out (by simp [rowB]; intro h; exact absurd h HL2.out)]), BB.out⟩
            · have : k = Bs.length := by omega
              subst this
              go_wp2_with fail
              go_ret
              exact ⟨ret_bool (by rw [HF.out]; exact (all_rows fun i y hi hy => hI.out i y (by omega) hy).symm), BB.out⟩
      · have hd : (((A.length : Nat) : Int) != (Bs.length : Int)) = true := by simp; omega
        have HF := Lib.hid (show tabB A Bs = false by simp [tabB, hl])
        clear hl
        go_enter Try.func67, Try.ntmps67
        go_wp2_with (go_at_call 101; refine (s_l01Numbers _ _ _ H2.out).mono ?_; rintro e w' ⟨rfl, rfl⟩)
        go_ret
        exact ⟨ret_bool HF.out.symm, BB.out⟩
end Go.Proofs.Ytbjeibcombjfgaa

/- The laws' marking and holding, at lists of lists and at tableaus. -/
set_option linter.unusedVariables false
set_option linter.unusedSimpArgs false
namespace Go.Proofs.Ytbjeibcombjfgaa
open Go.RowKit

def tot (xss : List (List Int)) : Nat := xss.flatten.length
theorem tot_cons (zs : List Int) (r : List (List Int)) : tot (zs :: r) = zs.length + tot r := by simp [tot]
theorem RowsOwn.set {w w' : World} {B C : Nat} {e : TypeId} {vs : List Value} {xss : List (List Int)} {j : Nat} {u : Value} {zs : List Int} (h : RowsOwn w B C e vs xss) (hu : vs[j]? = some u) (hg : w.grownBy w' u.ownBlock) (hn : OwnInts w' B e u zs) : RowsOwn w' B C e vs (xss.set j zs) := by
  obtain ⟨h1, h2, h3⟩ := h
  refine ⟨by simp [h1], fun k u' zs' hu' hz' => ?_, h3⟩
  have hj := (List.getElem?_eq_some_iff.1 hu).1
  by_cases hk : k = j
  · subst hk
    rw [hu] at hu'
    obtain rfl : u = u' := by simpa using hu'
    have hz : xss[k]? = some (xss[k]'(by omega)) := List.getElem?_eq_getElem _
    rw [List.getElem?_set_self (by omega)] at hz'
    obtain rfl : zs = zs' := by simpa using hz'
    exact ⟨hn, (h2 k u _ hu hz).2⟩
  · rw [List.getElem?_set_ne (by omega)] at hz'
    have ho := h2 k u' zs' hu' hz'
    have hap : Apart u' u := by
      by_cases hlt : k < j
      · exact h3 k j u' u hlt hu' hu
      · exact (h3 j k u u' (by omega) hu hu').symm
    exact ⟨ho.1.kept hg hap, ho.2⟩

/-- no block has turned but those of the values vs -/
def Far (vs : List Value) (w w' : World) : Prop := ∀ b, b < w.heap.size → (∀ (i : Nat) (u : Value), vs[i]? = some u → u.ownBlock ≠ some b) → w'.heap[b]? = w.heap[b]?
theorem Far.refl (vs : List Value) (w : World) : Far vs w w := fun _ _ _ => rfl
theorem Far.grown {vs : List Value} {w w1 w2 : World} {j : Nat} {u : Value} (h : Far vs w w1) (hs : w.heap.size ≤ w1.heap.size) (hu : vs[j]? = some u) (hg : w1.grownBy w2 u.ownBlock) : Far vs w w2 :=
  fun b hb hn => (hg.block b (Nat.lt_of_lt_of_le hb hs) (fun e => hn j u hu e.symm)).trans (h b hb hn)
theorem Far.kept {vs : List Value} {w w' : World} {B C : Nat} {e : TypeId} {v : Value} {zs : List Int} (h : Far vs w w') (ho : OI w B C e v zs) (ha : ∀ (i : Nat) (u : Value), vs[i]? = some u → Apart u v) : OI w' B C e v zs :=
  ⟨⟨ho.1.1.of_block fun b hb => h b (ho.1.1.lt b hb) (fun i u hu e => (ha i u hu).elim (fun h1 => by rw [h1] at e; cases e) (fun h1 => h1 (e.trans hb.symm))), ho.1.2⟩, ho.2⟩

end Go.Proofs.Ytbjeibcombjfgaa

set_option linter.unusedVariables false
set_option linter.unusedSimpArgs false
namespace Go.Proofs.Ytbjeibcombjfgaa
open Go.RowKit

/-- what the test for a tableau says -/
structure IsTab (A : List (List Int)) (Bs : List Int) : Prop where
  lo : 1 ≤ Bs.length
  hi : Bs.length ≤ 8
  len : A.length = Bs.length
  row : ∀ zs ∈ A, zs.length = Bs.length ∧ nums zs = true
  num : nums Bs = true
theorem isTab_of {A : List (List Int)} {Bs : List Int} (h : tabB A Bs = true) : IsTab A Bs := by
  simp only [tabB, Bool.and_eq_true, decide_eq_true_eq, List.all_eq_true, inR_iff] at h
  obtain ⟨⟨⟨h1, h2⟩, h3⟩, h4⟩ := h
  refine ⟨by omega, by omega, h2, fun zs hz => ?_, h3⟩
  have := h4 zs hz
  simpa [rowB] using this

def tabC (A : List (List Int)) (Bs : List Int) : Int := if tabB A Bs then 0 else 1

set_option maxHeartbeats 400000 in
theorem im_stages (w : World) (v : Value) (A : List (List Int)) (Bs : List Int) (ha : TabArg w v A Bs) :
    Calls Try.prog 63 #[v] w fun e w' => e = .returned (.int .i64 Bs.length) ∧ Below w.heap.size w w' := by
  obtain ⟨va, vb, rfl, ha1, ha2⟩ := ha
  have BB := Lib.hid (below1 w (.cells #[va, vb] 27))
  obtain ⟨A2, c2, rfl, k1, k2, _⟩ := ha2.open_
  clear ha1 ha2
  go_enter Try.func63, Try.ntmps63
  go_wp2
  go_ret
  exact ⟨rfl, BB.out⟩

end Go.Proofs.Ytbjeibcombjfgaa

set_option linter.unusedVariables false
set_option linter.unusedSimpArgs false
namespace Go.Proofs.Ytbjeibcombjfgaa
open Go.RowKit

theorem tot_le {n : Nat} : ∀ {xss : List (List Int)}, (∀ zs ∈ xss, zs.length ≤ n) → tot xss ≤ xss.length * n
  | [], _ => by simp [tot]
  | zs :: r, h => by
    rw [tot_cons, List.length_cons, Nat.succ_mul]
    have h1 := h zs List.mem_cons_self
    have h2 := tot_le (xss := r) fun ys hy => h ys (List.mem_cons_of_mem _ hy)
    omega
theorem IsTab.numTab {A : List (List Int)} {Bs : List Int} (h : IsTab A Bs) : NumTab A Bs :=
  ⟨by have := h.len; have := h.hi; omega, by have := h.hi; omega, fun zs hz => ⟨nums_iff.1 (h.row zs hz).2, by have := (h.row zs hz).1; have := h.hi; omega⟩, nums_iff.1 h.num⟩
theorem OT.nil (w : World) (B C : Nat) : OT w B C (.agg #[.slice none 0 0, .slice none 0 0]) [] [] :=
  ⟨_, _, [], rfl, Own.nil _ _ _, fun b hb => by simp [Value.ownBlock] at hb, RowsOwn.nil _ _ _ _, OI.nil _ _ _ _, fun k u hu => by simp at hu⟩

end Go.Proofs.Ytbjeibcombjfgaa

