/- Columns that grow beside a tableau, in plain words of memory. No program in sight. -/
import Derived.Test.YtgbfifcbbfhpmaaTwo
set_option maxRecDepth 100000
set_option linter.unusedVariables false
set_option linter.unusedSimpArgs false
namespace Go.Proofs.Ytgbfifcbbfhpmaa
open Go.RowKit

section
variable {w w' : World} {B N p : Nat} {e t : TypeId} {v va vb : Value} {vs : List Value} {cs : Array Value} {rows : List (List Int)} {Bs : List Int}
theorem Own.ne_blk (h : Own w B e v vs) (hk : Blk w p t cs) (hne : e ≠ t) : v.ownBlock ≠ some p := by
  intro hb
  rcases h.cases with ⟨rfl, _⟩ | ⟨g, cap, cur, rfl, _, _, hg, _⟩
  · simp [Value.ownBlock] at hb
  · simp [Value.ownBlock] at hb
    subst hb
    have h2 : w.heap[g]? = some (.cells cs t (0, 0)) := hk
    rw [hg] at h2
    simp at h2
    exact hne h2.2
theorem Two.storeAt (h : Two w N va vb vs rows Bs) (hk : Blk w p t cs) (h1 : tL ≠ t) (h2 : tI ≠ t) (i : Nat) (u : Value) : Two (w.setCell ⟨p, i, none⟩ u) N va vb vs rows Bs := by
  have hh : ∀ b, b ≠ p → (w.setCell ⟨p, i, none⟩ u).heap[b]? = w.heap[b]? := fun b hb => Below.heap_setCell w ⟨p, i, none⟩ u b hb
  have hs : (w.setCell ⟨p, i, none⟩ u).heap.size = w.heap.size := by simp [World.setCell]
  refine ⟨h.own.of_block fun b hb => hh b (fun e => h.own.ne_blk hk h1 (e ▸ hb)), ?_, ⟨h.ws.1.of_block fun b hb => hh b (fun e => h.ws.1.ne_blk hk h2 (e ▸ hb)), h.ws.2⟩, h.ap⟩
  rw [hs]
  exact ⟨h.rows.1, fun k u' zs hu hz => ⟨⟨(h.rows.2.1 k u' zs hu hz).1.1.of_block fun b hb => hh b (fun e => (h.rows.2.1 k u' zs hu hz).1.1.ne_blk hk h2 (e ▸ hb)), (h.rows.2.1 k u' zs hu hz).1.2⟩, (h.rows.2.1 k u' zs hu hz).2⟩, h.rows.2.2⟩

/-- all that Two tells stands where only block p, of another type, has turned -/
theorem Two.other (h : Two w N va vb vs rows Bs) (hk : Blk w p t cs) (h1 : tL ≠ t) (h2 : tI ≠ t) (hg : w.grownBy w' (some p)) : Two w' N va vb vs rows Bs :=
  ⟨h.own.kept hg (.inr (h.own.ne_blk hk h1)), (h.rows.other hg fun k u hu => by
    have hx : rows[k]? = some (rows[k]'(by rw [← h.rows.1]; exact (List.getElem?_eq_some_iff.1 hu).1)) := List.getElem?_eq_getElem _
    exact .inr ((h.rows.2.1 k u _ hu hx).1.1.ne_blk hk h2)).mono (Nat.le_refl _) hg.size, ⟨h.ws.1.kept hg (.inr (h.ws.1.ne_blk hk h2)), h.ws.2⟩, h.ap⟩
theorem Two.rowsAt (h : Two w N va vb vs rows Bs) : Rows w va rows := OR.rows (C := w.heap.size) ⟨vs, h.own, h.own.lt, h.rows⟩
end

/-- the first loop: columns vc beside the tableau in block p, whose weights grow -/
structure ColS (w0 w : World) (p : Nat) (vc vb : Value) (vs : List Value) (rows : List (List Int)) (Bs : List Int) : Prop where
  two : Two w (w0.heap.size + 1) vc vb vs rows Bs
  blk : Blk w p 27 #[.slice none 0 0, vb]
  below : Below w0.heap.size w0 w
section
variable {w0 w w' w1 : World} {p : Nat} {vc vb v1 r : Value} {vs : List Value} {rows : List (List Int)} {zs Bs : List Int} {z : Int}
theorem ColS.npA (h : ColS w0 w p vc vb vs rows Bs) : vc.ownBlock ≠ some p := h.two.own.ne_blk h.blk (by decide)
theorem ColS.npB (h : ColS w0 w p vc vb vs rows Bs) : vb.ownBlock ≠ some p := h.two.ws.1.ne_blk h.blk (by decide)
theorem ColS.step (h : ColS w0 w p vc vb vs rows Bs) (hb : Below w.heap.size w w') : ColS w0 w' p vc vb vs rows Bs :=
  ⟨h.two.step hb, h.blk.below hb h.blk.lt, h.below.trans (hb.mono h.below.size)⟩
theorem ColS.addA (h : ColS w0 w p vc vb vs rows Bs) (hp : w0.heap.size < w.heap.size) (hb : Below w.heap.size w w') (ho : OwnInts w' w.heap.size tI r zs)
    (hown : Own w1 (w0.heap.size + 1) tL v1 (vs ++ [r])) (hgr : Grow w' w1 vc v1) : ColS w0 w1 p v1 vb (vs ++ [r]) (rows ++ [zs]) Bs :=
  ⟨h.two.addA' hb hp ho hown hgr, (h.step hb).blk.grow hgr h.npA, hgr.below (h.step hb).below (h.step hb).below.size (fun b hb' => by have := h.two.own.ge b hb'; omega)⟩
theorem ColS.addB (h : ColS w0 w p vc vb vs rows Bs) (hp : w0.heap.size ≤ p) (hz : In64 z) (hown : Own w1 (w0.heap.size + 1) tI v1 (ints Bs ++ [.int .i64 z])) (hgr : Grow w w1 vb v1) :
    ColS w0 (w1.setCell ⟨p, 1, none⟩ v1) p vc v1 vs rows (Bs ++ [z]) := by
  have hk := h.blk.grow hgr h.npB
  refine ⟨(h.two.addB hz hown hgr).storeAt hk (by decide) (by decide) 1 v1, ?_, (hgr.below h.below h.below.size (fun b hb' => by have := h.two.ws.1.ge b hb'; omega)).setCell (p := ⟨p, 1, none⟩) hp v1⟩
  have := hk.set_ 1 v1
  simpa using this
end

/-- the second loop: rows va grow in block p, made since w4; of what stood there, only block p has turned -/
structure ColT (w4 w : World) (p : Nat) (va vb : Value) (vs : List Value) (rows : List (List Int)) : Prop where
  g : w4.grownBy w (some p)
  blk : Blk w p 27 #[va, vb]
  own : Own w w4.heap.size tL va vs
  rows : RowsOwn w w4.heap.size w.heap.size tI vs rows
section
variable {w0 w4 w w5 w6 : World} {p : Nat} {va vb v1 r : Value} {vs : List Value} {rows : List (List Int)} {zs : List Int}
theorem ColT.npA (h : ColT w4 w p va vb vs rows) : va.ownBlock ≠ some p := h.own.ne_blk h.blk (by decide)
theorem ColT.step (h : ColT w4 w p va vb vs rows) (hb : Below w.heap.size w w5) : ColT w4 w5 p va vb vs rows :=
  ⟨⟨hb.os.trans h.g.os, hb.tape.trans h.g.tape, hb.output.trans h.g.output, Nat.le_trans h.g.size hb.size, fun k hk hne => (hb.block k (Nat.lt_of_lt_of_le hk h.g.size)).trans (h.g.block k hk hne)⟩,
    h.blk.below hb h.blk.lt, h.own.below hb, (h.rows.below hb).mono (Nat.le_refl _) hb.size⟩
theorem ColT.next (h : ColT w4 w p va vb vs rows) (hb : Below w.heap.size w w5) (ho : OwnInts w5 w.heap.size tI r zs)
    (hown : Own w6 w4.heap.size tL v1 (vs ++ [r])) (hgr : Grow w5 w6 va v1) : ColT w4 (w6.setCell ⟨p, 0, none⟩ v1) p v1 vb (vs ++ [r]) (rows ++ [zs]) := by
  have h5 := h.step hb
  have hk := h5.blk.grow hgr h5.npA
  have hR := h5.rows.snoc (u := r) (zs := zs) ⟨ho.mono h.g.size, ho.1.lt⟩ (h.rows.apart (M := 0) fun b hb' => .inl (ho.1.ge b hb'))
  have hR6 := hR.other hgr.1 (fun j u hu => by
    have hx : (rows ++ [zs])[j]? = some ((rows ++ [zs])[j]'(by rw [← hR.1]; exact (List.getElem?_eq_some_iff.1 hu).1)) := List.getElem?_eq_getElem _
    exact Own.ne_of_type (hR.2.1 j u _ hu hx).1.1 h5.own (by decide))
  have hh : ∀ b, b ≠ p → (w6.setCell ⟨p, 0, none⟩ v1).heap[b]? = w6.heap[b]? := fun b hb => Below.heap_setCell w6 ⟨p, 0, none⟩ v1 b hb
  have hs : (w6.setCell ⟨p, 0, none⟩ v1).heap.size = w6.heap.size := by simp [World.setCell]
  refine ⟨⟨hgr.1.os.trans h5.g.os, hgr.1.tape.trans h5.g.tape, hgr.1.output.trans h5.g.output, by rw [hs]; exact Nat.le_trans h5.g.size hgr.1.size, fun k hk' hne => ?_⟩, ?_, ?_, ?_⟩
  · rw [hh k (fun e => hne (by rw [e])), hgr.1.block k (Nat.lt_of_lt_of_le hk' h5.g.size) (fun e => by have := h5.own.ge k e.symm; omega)]
    exact h5.g.block k hk' hne
  · have := hk.set_ 0 v1
    simpa using this
  · exact hown.of_block fun b hb' => hh b (fun e => hown.ne_blk hk (by decide) (e ▸ hb'))
  · rw [hs]
    have hR7 := hR6.mono (Nat.le_refl _) hgr.1.size
    exact ⟨hR7.1, fun k u' zs' hu hz => ⟨⟨(hR7.2.1 k u' zs' hu hz).1.1.of_block fun b hb' => hh b (fun e => (hR7.2.1 k u' zs' hu hz).1.1.ne_blk hk (by decide) (e ▸ hb')), (hR7.2.1 k u' zs' hu hz).1.2⟩, (hR7.2.1 k u' zs' hu hz).2⟩, hR7.2.2⟩
theorem ColT.tab {vc : Value} {vs' : List Value} {rows' : List (List Int)} {Bs : List Int} (h : ColT w4 w p va vb vs rows) (hs : ColS w0 w4 p vc vb vs' rows' Bs) (hp : w0.heap.size + 1 ≤ w4.heap.size) : OT w (w0.heap.size + 1) w.heap.size (.agg #[va, vb]) rows Bs :=
  OT.of_M' (M := w4.heap.size) hp h.g.size ⟨(hs.two.other hs.blk (by decide) (by decide) h.g).ws, hs.two.ws.1.lt⟩ ⟨vs, h.own, h.own.lt, h.rows⟩
end

/-- a tableau that is filled in block p, wherever it lies among the blocks that were made since w0 -/
structure FillT (w0 w : World) (p : Nat) (va vb : Value) (vs : List Value) (rows : List (List Int)) (Bs : List Int) : Prop where
  two : Two w (w0.heap.size + 1) va vb vs rows Bs
  blk : Blk w p 27 #[va, vb]
  ge : w0.heap.size + 1 ≤ p
  below : Below w0.heap.size w0 w
section
variable {w0 w w5 w6 : World} {p : Nat} {va vb v1 r : Value} {vs : List Value} {rows : List (List Int)} {zs Bs : List Int}
theorem FillT.npA (h : FillT w0 w p va vb vs rows Bs) : va.ownBlock ≠ some p := h.two.own.ne_blk h.blk (by decide)
theorem FillT.npB (h : FillT w0 w p va vb vs rows Bs) : vb.ownBlock ≠ some p := h.two.ws.1.ne_blk h.blk (by decide)
theorem FillT.step (h : FillT w0 w p va vb vs rows Bs) (hb : Below w.heap.size w w5) : FillT w0 w5 p va vb vs rows Bs :=
  ⟨h.two.step hb, h.blk.below hb h.blk.lt, h.ge, h.below.trans (hb.mono h.below.size)⟩
theorem FillT.next (h : FillT w0 w p va vb vs rows Bs) (hb : Below w.heap.size w w5) (ho : OwnInts w5 w.heap.size tI r zs)
    (hown : Own w6 (w0.heap.size + 1) tL v1 (vs ++ [r])) (hgr : Grow w5 w6 va v1) : FillT w0 (w6.setCell ⟨p, 0, none⟩ v1) p v1 vb (vs ++ [r]) (rows ++ [zs]) Bs := by
  have h5 := h.step hb
  have hk := h5.blk.grow hgr h5.npA
  have hN : w0.heap.size + 1 ≤ w.heap.size := by have := h.ge; have := h.blk.lt; omega
  refine ⟨(h.two.addA' hb hN ho hown hgr).storeAt hk (by decide) (by decide) 0 v1, ?_, h.ge, (hgr.below h5.below h5.below.size (fun b hb' => by have := h5.two.own.ge b hb'; omega)).setCell (p := ⟨p, 0, none⟩) (by have := h.ge; show _ ≤ p; omega) v1⟩
  have := hk.set_ 0 v1
  simpa using this
theorem FillT.tab (h : FillT w0 w p va vb vs rows Bs) : OT w (w0.heap.size + 1) w.heap.size (.agg #[va, vb]) rows Bs := h.two.tab
end

theorem FillT.init {w0 w : World} {p : Nat} {vb : Value} {Bs : List Int} (h : Two w (w0.heap.size + 1) (.slice none 0 0) vb [] [] Bs) (hk : Blk w p 27 #[.slice none 0 0, .slice none 0 0]) (hb : Below w0.heap.size w0 w) (hp : w0.heap.size + 1 ≤ p) :
    FillT w0 ((w.setCell ⟨p, 0, none⟩ (.slice none 0 0)).setCell ⟨p, 1, none⟩ vb) p (.slice none 0 0) vb [] [] Bs := by
  have h0 := h.storeAt hk (by decide) (by decide) 0 (.slice none 0 0)
  have k0 := hk.set_ 0 (.slice none 0 0)
  have h1 := h0.storeAt k0 (by decide) (by decide) 1 vb
  have k1 := k0.set_ 1 vb
  exact ⟨h1, by simpa using k1, hp, (hb.setCell (p := ⟨p, 0, none⟩) (by show _ ≤ p; omega) _).setCell (p := ⟨p, 1, none⟩) (by show _ ≤ p; omega) _⟩

/-- the three blocks of a walk of two tableaus: both arguments and the result -/
structure Env (w0 w : World) (c0 c1 c2 : Array Value) : Prop where
  k0 : Blk w w0.heap.size 27 c0
  k1 : Blk w (w0.heap.size + 1) 27 c1
  k2 : Blk w (w0.heap.size + 1 + 1) 27 c2
  below : Below w0.heap.size w0 w
section
variable {w0 w w' : World} {c0 c1 c2 : Array Value} {v v' : Value} {vs : List Value} {B p : Nat} {e : TypeId}
theorem Env.step (h : Env w0 w c0 c1 c2) (hb : Below w.heap.size w w') : Env w0 w' c0 c1 c2 :=
  ⟨h.k0.below hb h.k0.lt, h.k1.below hb h.k1.lt, h.k2.below hb h.k2.lt, h.below.trans (hb.mono h.below.size)⟩
theorem Env.grow (h : Env w0 w c0 c1 c2) (ho : Own w B e v vs) (he : e ≠ 27) (hB : w0.heap.size ≤ B) (hgr : Grow w w' v v') : Env w0 w' c0 c1 c2 :=
  ⟨h.k0.grow hgr (ho.ne_blk h.k0 he), h.k1.grow hgr (ho.ne_blk h.k1 he), h.k2.grow hgr (ho.ne_blk h.k2 he), hgr.below h.below h.below.size (fun b hb => Nat.le_trans hB (ho.ge b hb))⟩
theorem Env.store (h : Env w0 w c0 c1 c2) (hp : w0.heap.size + 1 + 1 < p) (i : Nat) (u : Value) : Env w0 (w.setCell ⟨p, i, none⟩ u) c0 c1 c2 :=
  ⟨h.k0.far (p := ⟨p, i, none⟩) (by show _ ≠ p; omega) u, h.k1.far (p := ⟨p, i, none⟩) (by show _ ≠ p; omega) u, h.k2.far (p := ⟨p, i, none⟩) (by show _ ≠ p; omega) u, h.below.setCell (p := ⟨p, i, none⟩) (by show _ ≤ p; omega) u⟩
end
end Go.Proofs.Ytgbfifcbbfhpmaa
