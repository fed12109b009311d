/- Columns that grow beside a tableau, in plain words of memory. No program in sight. | Walks: tableaus that are drawn (l09Draw of the reference). | Walks: trees that are drawn (l09Tree, DrawPartitionsOf of the reference). | Walks of helpers of the laws: likeRows5, likeTableau5. -/
import Derived.Test.YtbjeibcombjfgaaQf38
import Derived.Test.YtbjeibcombjfgaaQf25
import Derived.Test.YtbjeibcombjfgaaQf34
set_option maxRecDepth 100000
set_option linter.unusedVariables false
set_option linter.unusedSimpArgs false
namespace Go.Proofs.Ytbjeibcombjfgaa
open Go.RowKit

section
variable {w w' : World} {B N p : Nat} {e t : TypeId} {v va vb : Value} {vs : List Value} {cs : Array Value} {rows : List (List Int)} {Bs : List Int}
theorem Own.ne_blk (h : Own w B e v vs) (hk : Blk w p t cs) (hne : e ≠ t) : v.ownBlock ≠ some p := by
  intro hb
  rcases h.cases with ⟨rfl, _⟩ | ⟨g, cap, cur, rfl, _, _, hg, _⟩
  · simp [Value.ownBlock] at hb
  · simp [Value.ownBlock] at hb
    subst hb
    have h2 : w.heap[g]? = some (.cells cs t (0, 0)) := hk
    rw [hg] at h2
    simp at h2
    exact hne h2.2
theorem Two.storeAt (h : Two w N va vb vs rows Bs) (hk : Blk w p t cs) (h1 : tL ≠ t) (h2 : tI ≠ t) (i : Nat) (u : Value) : Two (w.setCell ⟨p, i, none⟩ u) N va vb vs rows Bs := by
  have hh : ∀ b, b ≠ p → (w.setCell ⟨p, i, none⟩ u).heap[b]? = w.heap[b]? := fun b hb => Below.heap_setCell w ⟨p, i, none⟩ u b hb
  have hs : (w.setCell ⟨p, i, none⟩ u).heap.size = w.heap.size := by simp [World.setCell]
  refine ⟨h.own.of_block fun b hb => hh b (fun e => h.own.ne_blk hk h1 (e ▸ hb)), ?_, ⟨h.ws.1.of_block fun b hb => hh b (fun e => h.ws.1.ne_blk hk h2 (e ▸ hb)), h.ws.2⟩, h.ap⟩
  rw [hs]
  exact ⟨h.rows.1, fun k u' zs hu hz => ⟨⟨(h.rows.2.1 k u' zs hu hz).1.1.of_block fun b hb => hh b (fun e => (h.rows.2.1 k u' zs hu hz).1.1.ne_blk hk h2 (e ▸ hb)), (h.rows.2.1 k u' zs hu hz).1.2⟩, (h.rows.2.1 k u' zs hu hz).2⟩, h.rows.2.2⟩

/-- all that Two tells stands where only block p, of another type, has turned -/
theorem Two.other (h : Two w N va vb vs rows Bs) (hk : Blk w p t cs) (h1 : tL ≠ t) (h2 : tI ≠ t) (hg : w.grownBy w' (some p)) : Two w' N va vb vs rows Bs :=
  ⟨h.own.kept hg (.inr (h.own.ne_blk hk h1)), (h.rows.other hg fun k u hu => by
    have hx : rows[k]? = some (rows[k]'(by rw [← h.rows.1]; exact (List.getElem?_eq_some_iff.1 hu).1)) := List.getElem?_eq_getElem _
    exact .inr ((h.rows.2.1 k u _ hu hx).1.1.ne_blk hk h2)).mono (Nat.le_refl _) hg.size, ⟨h.ws.1.kept hg (.inr (h.ws.1.ne_blk hk h2)), h.ws.2⟩, h.ap⟩
theorem Two.rowsAt (h : Two w N va vb vs rows Bs) : Rows w va rows := OR.rows (C := w.heap.size) ⟨vs, h.own, h.own.lt, h.rows⟩
end

/-- the first loop: columns vc beside the tableau in block p, whose weights grow -/
structure ColS (w0 w : World) (p : Nat) (vc vb : Value) (vs : List Value) (rows : List (List Int)) (Bs : List Int) : Prop where
  two : Two w (w0.heap.size + 1) vc vb vs rows Bs
  blk : Blk w p 27 #[.slice none 0 0, vb]
  below : Below w0.heap.size w0 w
section
variable {w0 w w' w1 : World} {p : Nat} {vc vb v1 r : Value} {vs : List Value} {rows : List (List Int)} {zs Bs : List Int} {z : Int}
theorem ColS.npA (h : ColS w0 w p vc vb vs rows Bs) : vc.ownBlock ≠ some p := h.two.own.ne_blk h.blk (by decide)
theorem ColS.step (h : ColS w0 w p vc vb vs rows Bs) (hb : Below w.heap.size w w') : ColS w0 w' p vc vb vs rows Bs :=
  ⟨h.two.step hb, h.blk.below hb h.blk.lt, h.below.trans (hb.mono h.below.size)⟩
theorem ColS.addA (h : ColS w0 w p vc vb vs rows Bs) (hp : w0.heap.size < w.heap.size) (hb : Below w.heap.size w w') (ho : OwnInts w' w.heap.size tI r zs)
    (hown : Own w1 (w0.heap.size + 1) tL v1 (vs ++ [r])) (hgr : Grow w' w1 vc v1) : ColS w0 w1 p v1 vb (vs ++ [r]) (rows ++ [zs]) Bs :=
  ⟨h.two.addA' hb hp ho hown hgr, (h.step hb).blk.grow hgr h.npA, hgr.below (h.step hb).below (h.step hb).below.size (fun b hb' => by have := h.two.own.ge b hb'; omega)⟩
end

/-- the second loop: rows va grow in block p, made since w4; of what stood there, only block p has turned -/
structure ColT (w4 w : World) (p : Nat) (va vb : Value) (vs : List Value) (rows : List (List Int)) : Prop where
  g : w4.grownBy w (some p)
  blk : Blk w p 27 #[va, vb]
  own : Own w w4.heap.size tL va vs
  rows : RowsOwn w w4.heap.size w.heap.size tI vs rows
section
variable {w0 w4 w w5 w6 : World} {p : Nat} {va vb v1 r : Value} {vs : List Value} {rows : List (List Int)} {zs : List Int}
theorem ColT.npA (h : ColT w4 w p va vb vs rows) : va.ownBlock ≠ some p := h.own.ne_blk h.blk (by decide)
theorem ColT.step (h : ColT w4 w p va vb vs rows) (hb : Below w.heap.size w w5) : ColT w4 w5 p va vb vs rows :=
  ⟨⟨hb.os.trans h.g.os, hb.tape.trans h.g.tape, hb.output.trans h.g.output, Nat.le_trans h.g.size hb.size, fun k hk hne => (hb.block k (Nat.lt_of_lt_of_le hk h.g.size)).trans (h.g.block k hk hne)⟩,
    h.blk.below hb h.blk.lt, h.own.below hb, (h.rows.below hb).mono (Nat.le_refl _) hb.size⟩
theorem ColT.next (h : ColT w4 w p va vb vs rows) (hb : Below w.heap.size w w5) (ho : OwnInts w5 w.heap.size tI r zs)
    (hown : Own w6 w4.heap.size tL v1 (vs ++ [r])) (hgr : Grow w5 w6 va v1) : ColT w4 (w6.setCell ⟨p, 0, none⟩ v1) p v1 vb (vs ++ [r]) (rows ++ [zs]) := by
  have h5 := h.step hb
  have hk := h5.blk.grow hgr h5.npA
  have hR := h5.rows.snoc (u := r) (zs := zs) ⟨ho.mono h.g.size, ho.1.lt⟩ (h.rows.apart (M := 0) fun b hb' => .inl (ho.1.ge b hb'))
  have hR6 := hR.other hgr.1 (fun j u hu => by
    have hx : (rows ++ [zs])[j]? = some ((rows ++ [zs])[j]'(by rw [← hR.1]; exact (List.getElem?_eq_some_iff.1 hu).1)) := List.getElem?_eq_getElem _
    exact Own.ne_of_type (hR.2.1 j u _ hu hx).1.1 h5.own (by decide))
  have hh : ∀ b, b ≠ p → (w6.setCell ⟨p, 0, none⟩ v1).heap[b]? = w6.heap[b]? := fun b hb => Below.heap_setCell w6 ⟨p, 0, none⟩ v1 b hb
  have hs : (w6.setCell ⟨p, 0, none⟩ v1).heap.size = w6.heap.size := by simp [World.setCell]
  refine ⟨⟨hgr.1.os.trans h5.g.os, hgr.1.tape.trans h5.g.tape, hgr.1.output.trans h5.g.output, by rw [hs]; exact Nat.le_trans h5.g.size hgr.1.size, fun k hk' hne => ?_⟩, ?_, ?_, ?_⟩
  · rw [hh k (fun e => hne (by rw [e])), hgr.1.block k (Nat.lt_of_lt_of_le hk' h5.g.size) (fun e => by have := h5.own.ge k e.symm; omega)]
    exact h5.g.block k hk' hne
  · have := hk.set_ 0 v1
    simpa using this
  · exact hown.of_block fun b hb' => hh b (fun e => hown.ne_blk hk (by decide) (e ▸ hb'))
  · rw [hs]
    have hR7 := hR6.mono (Nat.le_refl _) hgr.1.size
    exact ⟨hR7.1, fun k u' zs' hu hz => ⟨⟨(hR7.2.1 k u' zs' hu hz).1.1.of_block fun b hb' => hh b (fun e => (hR7.2.1 k u' zs' hu hz).1.1.ne_blk hk (by decide) (e ▸ hb')), (hR7.2.1 k u' zs' hu hz).1.2⟩, (hR7.2.1 k u' zs' hu hz).2⟩, hR7.2.2⟩
end

/-- a tableau that is filled in block p, wherever it lies among the blocks that were made since w0 -/
structure FillT (w0 w : World) (p : Nat) (va vb : Value) (vs : List Value) (rows : List (List Int)) (Bs : List Int) : Prop where
  two : Two w (w0.heap.size + 1) va vb vs rows Bs
  blk : Blk w p 27 #[va, vb]
  ge : w0.heap.size + 1 ≤ p
  below : Below w0.heap.size w0 w
section
variable {w0 w w5 w6 : World} {p : Nat} {va vb v1 r : Value} {vs : List Value} {rows : List (List Int)} {zs Bs : List Int}
theorem FillT.npA (h : FillT w0 w p va vb vs rows Bs) : va.ownBlock ≠ some p := h.two.own.ne_blk h.blk (by decide)
theorem FillT.step (h : FillT w0 w p va vb vs rows Bs) (hb : Below w.heap.size w w5) : FillT w0 w5 p va vb vs rows Bs :=
  ⟨h.two.step hb, h.blk.below hb h.blk.lt, h.ge, h.below.trans (hb.mono h.below.size)⟩
theorem FillT.next (h : FillT w0 w p va vb vs rows Bs) (hb : Below w.heap.size w w5) (ho : OwnInts w5 w.heap.size tI r zs)
    (hown : Own w6 (w0.heap.size + 1) tL v1 (vs ++ [r])) (hgr : Grow w5 w6 va v1) : FillT w0 (w6.setCell ⟨p, 0, none⟩ v1) p v1 vb (vs ++ [r]) (rows ++ [zs]) Bs := by
  have h5 := h.step hb
  have hk := h5.blk.grow hgr h5.npA
  have hN : w0.heap.size + 1 ≤ w.heap.size := by have := h.ge; have := h.blk.lt; omega
  refine ⟨(h.two.addA' hb hN ho hown hgr).storeAt hk (by decide) (by decide) 0 v1, ?_, h.ge, (hgr.below h5.below h5.below.size (fun b hb' => by have := h5.two.own.ge b hb'; omega)).setCell (p := ⟨p, 0, none⟩) (by have := h.ge; show _ ≤ p; omega) v1⟩
  have := hk.set_ 0 v1
  simpa using this
end

/-- the three blocks of a walk of two tableaus: both arguments and the result -/
structure Env (w0 w : World) (c0 c1 c2 : Array Value) : Prop where
  k0 : Blk w w0.heap.size 27 c0
  k1 : Blk w (w0.heap.size + 1) 27 c1
  k2 : Blk w (w0.heap.size + 1 + 1) 27 c2
  below : Below w0.heap.size w0 w
section
variable {w0 w w' : World} {c0 c1 c2 : Array Value} {v v' : Value} {vs : List Value} {B p : Nat} {e : TypeId}
theorem Env.step (h : Env w0 w c0 c1 c2) (hb : Below w.heap.size w w') : Env w0 w' c0 c1 c2 :=
  ⟨h.k0.below hb h.k0.lt, h.k1.below hb h.k1.lt, h.k2.below hb h.k2.lt, h.below.trans (hb.mono h.below.size)⟩
theorem Env.grow (h : Env w0 w c0 c1 c2) (ho : Own w B e v vs) (he : e ≠ 27) (hB : w0.heap.size ≤ B) (hgr : Grow w w' v v') : Env w0 w' c0 c1 c2 :=
  ⟨h.k0.grow hgr (ho.ne_blk h.k0 he), h.k1.grow hgr (ho.ne_blk h.k1 he), h.k2.grow hgr (ho.ne_blk h.k2 he), hgr.below h.below h.below.size (fun b hb => Nat.le_trans hB (ho.ge b hb))⟩
theorem Env.store (h : Env w0 w c0 c1 c2) (hp : w0.heap.size + 1 + 1 < p) (i : Nat) (u : Value) : Env w0 (w.setCell ⟨p, i, none⟩ u) c0 c1 c2 :=
  ⟨h.k0.far (p := ⟨p, i, none⟩) (by show _ ≠ p; omega) u, h.k1.far (p := ⟨p, i, none⟩) (by show _ ≠ p; omega) u, h.k2.far (p := ⟨p, i, none⟩) (by show _ ≠ p; omega) u, h.below.setCell (p := ⟨p, i, none⟩) (by show _ ≤ p; omega) u⟩
end
end Go.Proofs.Ytbjeibcombjfgaa

set_option maxRecDepth 100000
set_option linter.unusedVariables false
set_option linter.unusedSimpArgs false
namespace Go.Proofs.Ytbjeibcombjfgaa
open Go.RowKit

theorem chgD {w w' : World} {g : Nat} (h : w.grownBy w' (some g)) : Chg g (g + 1) w w' := ⟨h.os, h.tape, h.output, h.size, fun k hk hd => h.block k hk (by intro e; injection e with e; omega)⟩
section
variable {w w' : World} {N p g n cap k : Nat} {va vb v1 r : Value} {vs : List Value} {rows : List (List Int)} {zs Bs : List Int} {z : Int}
theorem Two.srcD (h : Two w N va vb vs rows Bs) (hg : w.grownBy w' (some p)) (hp : p < N) : Two w' N va vb vs rows Bs := h.kept (chgD hg) hp
theorem Blk.srcD {t : TypeId} {cs : Array Value} {q : Nat} (h : Blk w q t cs) (hg : w.grownBy w' (some p)) (hne : q ≠ p) : Blk w' q t cs := (hg.block q h.lt (by intro e; injection e with e; exact hne e)).trans h
end
/-- the state of a tableau that is drawn: the source has turned, all else is new -/
structure DrS (w0 w : World) (B p q : Nat) (va vb : Value) (vs : List Value) (m n : Nat) : Prop where
  ex : ∃ rows Bs, Two w (w0.heap.size + 1) va vb vs rows Bs ∧ Sqm m n rows ∧ Nl n Bs
  blk : Blk w q tTb #[va, vb]
  res : Blk w w0.heap.size tTb #[.slice none 0 0, .slice none 0 0]
  ge : w0.heap.size + 1 ≤ q
  gr : w0.grownBy w (some p)
  src : Src w B tSc p
section
variable {w0 w w5 w6 : World} {B p q m n : Nat} {va vb v1 r : Value} {vs : List Value} {zs : List Int}
theorem DrS.draw (h : DrS w0 w B p q va vb vs m n) (hp : p < w0.heap.size) (hg : w.grownBy w5 (some p)) (hs : Src w5 B tSc p) : DrS w0 w5 B p q va vb vs m n := by
  obtain ⟨rows, Bs, h1, h2, h3⟩ := h.ex
  exact ⟨⟨rows, Bs, h1.srcD hg (by omega), h2, h3⟩, h.blk.srcD hg (by have := h.ge; omega), h.res.srcD hg (by omega), h.ge, gtrans h.gr hg, hs⟩
theorem DrS.ownA (h : DrS w0 w B p q va vb vs m n) : Own w (w0.heap.size + 1) tL va vs := by
  obtain ⟨rows, Bs, h1, h2, h3⟩ := h.ex
  exact h1.own
/-- one row more: it was made since w -/
theorem DrS.next (h : DrS w0 w B p q va vb vs m n) (hp : p < w0.heap.size) (hg : w.grownBy w5 (some p)) (hs : Src w5 B tSc p) (ho : OwnInts w5 w.heap.size tI r zs) (hz : Nl n zs)
    (hown : Own w6 (w0.heap.size + 1) tL v1 (vs ++ [r])) (hgr : Grow w5 w6 va v1) : DrS w0 (w6.setCell ⟨q, 0, none⟩ v1) B p q v1 vb (vs ++ [r]) (m + 1) n := by
  have h5 := h.draw hp hg hs
  obtain ⟨rows, Bs, h1, h2, h3⟩ := h.ex
  have h1' := h1.srcD (p := p) hg (by omega)
  have hnp : va.ownBlock ≠ some q := h5.ownA.ne_blk h5.blk (by decide)
  have hnr : va.ownBlock ≠ some w0.heap.size := fun e => by have := h5.ownA.ge _ e; omega
  have hk := h5.blk.grow hgr hnp
  have hrs := h5.res.grow hgr hnr
  have hN : w0.heap.size + 1 ≤ w.heap.size := by have := h.ge; have := h.blk.lt; omega
  have hap := h1.rows.apart (M := 0) (u' := r) (fun b hb => .inl (ho.1.ge b hb))
  have hrb : Apart r vb := by
    unfold Apart
    cases hr : r.ownBlock with
    | none => exact .inl rfl
    | some b =>
      refine .inr fun e => ?_
      have a1 := ho.1.ge b hr
      have a2 := h1.ws.1.lt b e.symm
      omega
  have h6 := (h1'.addA ⟨ho.mono hN, ho.1.lt⟩ hap hrb hown hgr).storeAt hk (by decide) (by decide) 0 v1
  have hgo : ∀ b, va.ownBlock = some b → w0.heap.size ≤ b := fun b hb => by have := h5.ownA.ge b hb; omega
  have g6 : w0.grownBy w6 (some p) := gthen h5.gr hgr.1 hgo
  have g7 : w0.grownBy (w6.setCell ⟨q, 0, none⟩ v1) (some p) := gthen g6 (gset w6 q 0 v1) (by rintro b ⟨⟩; have := h.ge; omega)
  have s6 : Src w6 B tSc p := h5.src.kept hgr.1 (fun e => by have := h5.ownA.ge _ e; omega) (fun b hb => by have := hgo b hb; have := h5.src.ge; omega)
  have s7 := s6.kept (gset w6 q 0 v1) (by intro e; injection e with e; have := h.ge; omega) (by rintro b ⟨⟩; have := h.ge; have := h5.src.ge; omega)
  refine ⟨⟨_, _, h6, h2.snoc hz, h3⟩, ?_, hrs.far (p := ⟨q, 0, none⟩) (by have := h.ge; simp; omega) v1, h.ge, g7, s7⟩
  have := hk.set_ 0 v1
  simpa using this
/-- the weights can be read -/
theorem DrS.ws (h : DrS w0 w B p q va vb vs m n) : ∃ Bs, Ints w vb Bs ∧ Nl n Bs := by
  obtain ⟨rows, Bs, h1, h2, h3⟩ := h.ex
  exact ⟨Bs, h1.ws.ints, h3⟩
end
end Go.Proofs.Ytbjeibcombjfgaa

set_option maxRecDepth 100000
set_option linter.unusedVariables false
set_option linter.unusedSimpArgs false
namespace Go.Proofs.Ytbjeibcombjfgaa
open Go.RowKit

/-- a tree that is drawn: a list of one's own, not empty, whose numbers are small -/
def TrD (w w' : World) (B p : Nat) (x : Value) (zs : List Int) : Prop := OwnInts w' w.heap.size tI x zs ∧ 1 ≤ zs.length ∧ (∀ z ∈ zs, 0 ≤ z ∧ z ≤ (zs.length : Int)) ∧ w.grownBy w' (some p) ∧ Src w' B tSc p
theorem ownSrcI {w w' : World} {C p : Nat} {v : Value} {zs : List Int} (h : OwnInts w C tI v zs) (hp : p < C) (hg : w.grownBy w' (some p)) : OwnInts w' C tI v zs := ⟨h.1.src hp hg, h.2⟩
theorem tree_last {w : World} {C : Nat} {v : Value} {zs : List Int} (h : OwnInts w C tI v zs) (h1 : 1 ≤ zs.length) (hz : ∀ z ∈ zs, 0 ≤ z ∧ z ≤ (zs.length : Int)) : ∃ g cap z, v = .slice (some ⟨g, 0, none⟩) zs.length cap ∧ w.cell? ⟨g, zs.length - 1, none⟩ = some (.int .i64 z) ∧ 0 ≤ z ∧ z ≤ (zs.length : Int) ∧ C ≤ g := by
  rcases h.1.cases with ⟨-, he⟩ | ⟨g, cap, cur, he, hg, -⟩
  · have := congrArg List.length he; rw [ints_len, List.length_nil] at this; omega
  · rw [ints_len] at he
    subst he
    obtain ⟨A, c, he, l1, l2, h3⟩ := h.ints.open_
    obtain ⟨ad, z, hA, hzz, -, hc⟩ := h3 (zs.length - 1) (by omega)
    injection he with e1 e2 e3
    rw [hA] at e1
    injection e1 with e1
    subst e1
    have hb := hz z (List.mem_of_getElem? hzz)
    have ha : (⟨g, 0, none⟩ : Addr).add (zs.length - 1) = ⟨g, zs.length - 1, none⟩ := by by_cases h0 : zs.length - 1 = 0 <;> simp [Addr.add, h0]
    rw [ha] at hc
    exact ⟨g, cap, z, rfl, hc, hb.1, hb.2, hg⟩
section
variable {w w5 w6 : World} {B p : Nat} {v v6 : Value} {zs : List Int} {z : Int}
theorem treeQ_app (ho : OwnInts w5 w.heap.size tI v zs) (hz : In64 z) (hg : w.grownBy w5 (some p)) (hs : Src w5 B tSc p) (hpl : p < w.heap.size) (hown : Own w6 w.heap.size tI v6 (ints zs ++ [.int .i64 z])) (hgr : Grow w5 w6 v v6) :
    OwnInts w6 w.heap.size tI v6 (zs ++ [z]) ∧ w.grownBy w6 (some p) ∧ Src w6 B tSc p := by
  refine ⟨⟨by rw [show ints (zs ++ [z]) = ints zs ++ [.int .i64 z] from by simp [ints]]; exact hown, fun y hy => ?_⟩, gthen hg hgr.1 ho.1.ge, hs.kept hgr.1 (fun e => by have := ho.1.ge _ e; omega) (fun b hb => Nat.le_trans (Nat.le_trans hs.ge (Nat.le_of_lt hpl)) (ho.1.ge b hb))⟩
  rcases List.mem_append.1 hy with h | h
  · exact ho.2 y h
  · rw [List.mem_singleton] at h; rw [h]; exact hz
theorem tree_app (ho : OwnInts w5 w.heap.size tI v zs) (h1 : 1 ≤ zs.length) (hzs : ∀ z ∈ zs, 0 ≤ z ∧ z ≤ (zs.length : Int)) (hz : 0 ≤ z ∧ z ≤ (zs.length : Int) + 1) (hl : zs.length ≤ 1000) (hg : w.grownBy w5 (some p)) (hs : Src w5 B tSc p) (hpl : p < w.heap.size) (hown : Own w6 w.heap.size tI v6 (ints zs ++ [.int .i64 z])) (hgr : Grow w5 w6 v v6) :
    TrD w w6 B p v6 (zs ++ [z]) := by
  obtain ⟨a, b, c⟩ := treeQ_app ho (z := z) (by unfold In64; omega) hg hs hpl hown hgr
  refine ⟨a, by rw [List.length_append]; omega, fun y hy => ?_, b, c⟩
  rw [List.length_append, List.length_singleton]
  rcases List.mem_append.1 hy with h | h
  · have := hzs y h; omega
  · rw [List.mem_singleton] at h; rw [h]; omega
end
set_option maxHeartbeats 8000000 in
theorem s_l09Tree (w : World) (B p most : Nat) (h : Src w B tSc p) (hm1 : 1 ≤ most) (hm8 : most ≤ 100) :
    Calls Try.prog 109 #[at0 p, .int .i64 (most : Nat)] w fun e w' => ∃ x, e = .returned x ∧ ∃ zs, OwnInts w' w.heap.size tI x zs ∧ w.grownBy w' (some p) ∧ Src w' B tSc p := by
  have hpl := h.lt
  have hpg := h.ge
  have OL := Lib.hid (show Own (w.alloc (.cells #[.int .i64 0] tI)) w.heap.size tI (.slice (some ⟨w.heap.size, 0, none⟩) 1 1) (ints [0]) from own_lit w tI [.int .i64 0] (by simp [maxLen]))
  have HS0 := Lib.hid (h.below (below1 w (.cells #[.int .i64 0] tI)))
  have HG0 := Lib.hid (show w.grownBy (w.alloc (.cells #[.int .i64 0] tI)) (some p) from gof (below1 w _))
  have HN := Lib.hid (s_l01Next _ B p (most : Nat) HS0.out (by omega) (by omega))
  clear h
  go_enter Try.func109, Try.ntmps109
  go_wp2_with (go_at_call 114; go_loud (refine HN.out.mono ?_; rintro e w1 ⟨x, rfl, x0, x1, hg, hs⟩; obtain ⟨n0, rfl⟩ : ∃ n0 : Nat, x = n0 := ⟨x.toNat, by omega⟩; have hn0 : n0 ≤ 100 := (by omega); have HT1 := Lib.hid (show TrD w w1 B p (.slice (some ⟨w.heap.size, 0, none⟩) 1 1) [0] from ⟨⟨OL.out.src hpl hg, fun z hz => by simp at hz; rw [hz]; unfold In64; omega⟩, Nat.le_refl _, fun z hz => by simp at hz; rw [hz]; simp, gtrans HG0.out hg, hs⟩); clear hg hs x0 x1))
  clear OL HS0 HG0 HN
  go_loopw [5, 6] (fun v x wr => ∃ (n : Nat) (zs : List Int), n ≤ 100 ∧ x = .int .i64 n ∧ zs.length + n ≤ 201 ∧ Hid (TrD w wr B p v zs)) (fun _ x _ => (intOf x).toNat)
  case atStart => exact ⟨n0, [0], hn0, rfl, by simp; omega, HT1⟩
  case round =>
    obtain ⟨n, zs, hn, rfl, hzn, HT⟩ := hrel
    rename World => wq
    clear HT1
    obtain ⟨g, cap, z, rfl, hc, z0, z1, hge⟩ := tree_last HT.out.1 HT.out.2.1 HT.out.2.2.1
    have hl1 := HT.out.2.1
    by_cases hlt : 0 < n
    · have hll : (0 : Int) < (n : Int) := by omega
      have t0 : -9223372036854775808 ≤ (zs.length : Int) - 1 ∧ (zs.length : Int) - 1 ≤ 9223372036854775807 := by omega
      have t1 : (zs.length : Int) - 1 = ((zs.length - 1 : Nat) : Int) := by omega
      have t2 : -9223372036854775808 ≤ z + 1 ∧ z + 1 ≤ 9223372036854775807 := by omega
      have hi1 : ((zs.length - 1 : Nat) : Int) < (zs.length : Int) := by omega
      have hi2 : zs.length - 1 < zs.length := by omega
      have HNX := Lib.hid (s_l01Next wq B p (z + 1) HT.out.2.2.2.2 (by omega) (by omega))
      have HZB := Lib.hid (And.intro z0 z1)
      have hw1 := (w64_dr _ t0).trans t1
      have hw2 := (wrap_i64 _ t0).trans t1
      have hw3 := w64_dr _ t2
      have hw4 := wrap_i64 _ t2
      clear t0 t1 t2 z0 z1
      go_wp2_with (first
        | (go_at_call 114; go_loud (refine HNX.out.mono ?_; rintro e w5 ⟨y, rfl, y0, y1, hg, hs⟩; have HYB := Lib.hid (And.intro y0 y1); have hy1 := w64_dr (1 + y) (by have := HZB.out; omega); have hy2 := wrap_i64 (1 + y) (by have := HZB.out; omega); have HO5 := Lib.hid (ownSrcI HT.out.1 hpl hg); have HG5 := Lib.hid (gtrans HT.out.2.2.2.1 hg); have HS5 := Lib.hid hs; clear hg hs y0 y1))
        | (at_builtin; go_loud (refine wpList_app1 T_int HO5.out.1 (by rw [ints_len]; omega) HG5.out.size (by rfl) rfl (by rfl) (by rfl) (by rfl) ?_; intro v6 w6 hown6 hgr6; have HN6 := Lib.hid hown6; have HR6 := Lib.hid hgr6; clear hown6 hgr6)))
      have HT6 := Lib.hid (tree_app HO5.out hl1 HT.out.2.2.1 (show 0 ≤ 1 + y ∧ 1 + y ≤ (zs.length : Int) + 1 from by have h1 := HYB.out; have h2 := HZB.out; omega) (by omega) HG5.out HS5.out hpl HN6.out HR6.out)
      go_roundw
      case rel => exact ⟨n - 1, zs ++ [1 + y], by omega, by rw [show ((n - 1 : Nat) : Int) = (n : Int) - 1 by omega], by rw [List.length_append, List.length_singleton]; omega, HT6⟩
      case measure => simp [intOf]; omega
    · have hn0' : n = 0 := by omega
      subst hn0'
      have HO0 := Lib.hid HT.out
      go_upto_if 30 with (go_at_call 114; go_loud (refine (s_l01Next wq B p 30 HT.out.2.2.2.2 (by omega) (by omega)).mono ?_; rintro e w5 ⟨y, rfl, y0, y1, hg, hs⟩; have HO5 := Lib.hid (ownSrcI HO0.out.1 hpl hg); have HG5 := Lib.hid (gtrans HO0.out.2.2.2.1 hg); have HS5 := Lib.hid hs; have hc5 := hg.cell hc (by intro e; injection e with e; have e2 : g = p := e; omega); have hpl5 : p < w5.heap.size := Nat.lt_of_lt_of_le (Nat.lt_of_lt_of_le hpl HO0.out.2.2.2.1.size) hg.size; clear hg hs y0 y1))
      generalize (y == 0) = cc at *
      cases cc with
      | true =>
        have t0 : -9223372036854775808 ≤ (zs.length : Int) - 1 ∧ (zs.length : Int) - 1 ≤ 9223372036854775807 := by omega
        have t1 : (zs.length : Int) - 1 = ((zs.length - 1 : Nat) : Int) := by omega
        have t2 : -9223372036854775808 ≤ z + 2 ∧ z + 2 ≤ 9223372036854775807 := by omega
        have hi1 : ((zs.length - 1 : Nat) : Int) < (zs.length : Int) := by omega
        have hi2 : zs.length - 1 < zs.length := by omega
        have hin : ∀ y ∈ [0, z + 2, -1], In64 y := by intro y hy; simp at hy; unfold In64; omega
        have HPK := Lib.hid (s_l01Pick (w5.alloc (.cells (ints [0, z + 2, -1]).toArray tI)) B p _ [0, z + 2, -1] (HS5.out.below (below1 w5 (.cells (ints [0, z + 2, -1]).toArray tI))) (lit_keep w5 p [0, z + 2, -1] hin (by simp) hpl5) (by simp) (by simp))
        have hw1 := (w64_dr _ t0).trans t1
        have hw2 := (wrap_i64 _ t0).trans t1
        have hw3 := w64_dr _ t2
        have hw4 := wrap_i64 _ t2
        have HZB := Lib.hid (And.intro z0 z1)
        clear t0 t1 t2 z0 z1
        go_wp2_with (first
          | (go_at_call 60; go_loud (refine HPK.out.mono ?_; rintro e w6 ⟨k, rfl, hk, hg, hs⟩; have HK := Lib.hid hk; have hg6 := gtrans (gof (below1 w5 (.cells (ints [0, z + 2, -1]).toArray tI))) hg; have HO6 := Lib.hid (ownSrcI HO5.out hpl hg6); have HG6 := Lib.hid (gtrans HG5.out hg6); have HS6 := Lib.hid hs; clear hk hg hs hg6))
          | (at_builtin; go_loud (refine wpList_app1 T_int HO6.out.1 (by rw [ints_len]; omega) HG6.out.size (by rfl) rfl (by rfl) (by rfl) (by rfl) ?_; intro v6 w7 hown6 hgr6; have HN7 := Lib.hid hown6; have HR7 := Lib.hid hgr6; clear hown6 hgr6)))
        go_ret
        have hkb : In64 k := hin k HK.out
        exact ⟨_, rfl, zs ++ [k], treeQ_app HO6.out hkb HG6.out HS6.out hpl HN7.out HR7.out⟩
      | false =>
        go_wp2_with fail
        go_ret
        exact ⟨_, rfl, zs, HO5.out, HG5.out, HS5.out⟩
set_option maxHeartbeats 2000000 in
theorem s_DrawPartitionsOf (w : World) (A : Option Addr) (N c : Nat) (hb : ByB w w.heap.size A N) (hN : N ≤ 4096) :
    Calls Try.prog 52 #[.slice A N c] w fun e w' => ∃ x zs, e = .returned x ∧ Ints w' x zs ∧ Below w.heap.size w w' := by
  have HFR := Lib.hid (s_l01From w A N c hb hN)
  clear hb
  go_enter Try.func52, Try.ntmps52
  go_wp2_with (first
    | (go_at_call 58; go_loud (refine HFR.out.mono ?_; rintro e w1 ⟨p, rfl, hs1, hb1⟩; have HS1 := Lib.hid hs1; have HB1 := Lib.hid hb1; have hpg := hs1.ge; clear hs1 hb1))
    | (go_at_call 109; go_loud (refine (s_l09Tree w1 w.heap.size p 7 HS1.out (by omega) (by omega)).mono ?_; rintro e w2 ⟨x, rfl, zs, ho, hg, hs⟩; have HO := Lib.hid ho; have HG := Lib.hid hg; clear ho hg hs)))
  go_ret
  exact ⟨_, zs, rfl, HO.out.ints, HB1.out.grown HG.out HB1.out.size (fun b e => by injection e with e; omega)⟩
end Go.Proofs.Ytbjeibcombjfgaa

set_option maxRecDepth 100000
set_option linter.unusedVariables false
set_option linter.unusedSimpArgs false
namespace Go.Proofs.Ytbjeibcombjfgaa
open Go.RowKit

set_option maxHeartbeats 4000000 in
theorem l_likeRows5 (w : World) (a b : Value) (xs ys : List (List Int)) (ha : Rows w a xs) (hb : Rows w b ys) :
    Calls Try.prog 55 #[a, b] w fun e w' => e = .returned (.bool (decide (xs = ys))) ∧ ∃ n, w' = w.drewN n := by
  obtain ⟨A, c, rfl, h1, h2, h3⟩ := ha.open_
  obtain ⟨B, d, rfl, g1, g2, g3⟩ := hb.open_
  clear ha hb
  have H3 := Lib.hid h3
  have G3 := Lib.hid g3
  clear h3 g3
  by_cases hl : xs.length = ys.length
  · have hl' : (((xs.length : Nat) : Int) != ((ys.length : Nat) : Int)) = false := by simp [hl]
    have HL := Lib.hid hl
    clear hl
    have g4 : ys.length ≤ xs.length := by rw [HL.out]; omega
    have g5 : xs.length ≤ ys.length := by rw [HL.out]; omega
    go_enter Try.func55, Try.ntmps55
    go_wp2
    go_loopw [5] (fun i wr => ∃ k n : Nat, k ≤ xs.length ∧ i = .int .i64 k ∧ xs.take k = ys.take k ∧ wr = w.drewN n) (fun i _ => xs.length - (intOf i).toNat)
    case atStart => exact ⟨0, 0, Nat.zero_le _, rfl, rfl, rfl⟩
    case round =>
      obtain ⟨k, n, hk, rfl, ht, rfl⟩ := hrel
      have HT := Lib.hid ht
      clear ht
      by_cases hlt : k < xs.length
      · obtain ⟨ad, u, z, rfl, hz, hz2, hc⟩ := H3.out k hlt
        obtain ⟨ad', u', y, rfl, hy, hy2, hc'⟩ := G3.out k (by omega)
        have HZ := Lib.hid hz
        have HY := Lib.hid hy
        have HZ2 := Lib.hid hz2
        have HY2 := Lib.hid hy2
        clear hz hy hz2 hy2
        have HLI := Lib.hid (fun m => l_likeInts (w.drewN m) u u' z y (HZ2.out.drewN m) (HY2.out.drewN m))
        by_cases hzy : z = y
        · have HZY := Lib.hid hzy
          simp only [show decide (z = y) = true from decide_eq_true hzy] at HLI
          clear hzy
          go_wp2
          go_quiet (first
            | (go_at_call 36; exact quiet_more (HLI.out _)))
          go_wp2
          go_roundw
          case rel => exact ⟨k + 1, _, by omega, by go_num, rtake_succ HT.out HZ.out HY.out HZY.out, rfl⟩
          case measure => simp [intOf]; omega
        · have HZY := Lib.hid hzy
          simp only [show decide (z = y) = false from decide_eq_false hzy] at HLI
          clear hzy
          go_wp2
          go_quiet (first
            | (go_at_call 36; exact quiet_more (HLI.out _)))
          go_wp2
          go_ret
          refine ⟨ret_bool ?_, _, by first | rfl | exact World.drewN_drewN _ _ _ | simp⟩
          symm
          simp only [decide_eq_false_iff_not]
          rintro rfl
          have := HZ.out.symm.trans HY.out
          injection this with this
          exact HZY.out this
      · have : k = xs.length := by omega
        subst this
        go_wp2
        go_ret
        refine ⟨ret_bool ?_, _, rfl⟩
        have e := HT.out
        rw [List.take_length, List.take_of_length_le (by omega)] at e
        simp [e]
  · have hl' : (((xs.length : Nat) : Int) != ((ys.length : Nat) : Int)) = true := by simp; omega
    have HL := Lib.hid hl
    clear hl
    go_enter Try.func55, Try.ntmps55
    go_wp2
    go_ret
    refine ⟨ret_bool ?_, 0, rfl⟩
    have := HL.out
    symm
    simp only [decide_eq_false_iff_not]
    rintro rfl
    exact this rfl
end Go.Proofs.Ytbjeibcombjfgaa

