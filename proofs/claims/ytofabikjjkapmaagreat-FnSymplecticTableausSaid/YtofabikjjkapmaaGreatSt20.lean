/- One round of 'z.A = append(z.A, row)', in plain words of memory. No program in sight. | One round of 'z.A = append(z.A, row); z.B = append(z.B, x)', in plain words of memory. No program in sight. | Rows and numbers that grow side by side, in plain words of memory. No program in sight. | Columns that grow beside a tableau, in plain words of memory. No program in sight. | Walks: times of the program. | Walks: l01Own, l01Own2, l09Own of the reference. | Walks: allStages, l10Backwards. | Walk: l10Permute of the reference. | Walk: reordered of the program. | Walk: l10Compose of the reference. | Walks: is it a tableau (the program's and the reference's test). |  -/
import Derived.Test.YtofabikjjkapmaaGreatSt3
import Derived.Test.YtofabikjjkapmaaGreatSt4
import Derived.Test.YtofabikjjkapmaaGreatSt19
import Derived.Deep.RegionHeld3
import Derived.Test.YtofabikjjkapmaaGreatSt10
import Derived.Test.YtofabikjjkapmaaGreatRows
import Derived.Test.YtofabikjjkapmaaGreatSt2
import Derived.Test.YtofabikjjkapmaaGreatSt1
import Derived.Test.YtofabikjjkapmaaGreatSt5
import Derived.WalkLawsBesides
import Derived.BigGuardPart
set_option linter.unusedVariables false
set_option linter.unusedSimpArgs false
namespace Go.Proofs.YtofabikjjkapmaaGreat
open Go.RowKit

theorem Blk.grow {w w' : World} {g : Nat} {t : TypeId} {cs : Array Value} {v v' : Value} (h : Blk w g t cs) (hg : Grow w w' v v') (hne : v.ownBlock ≠ some g) : Blk w' g t cs :=
  (hg.1.block g h.lt (fun e => hne e.symm)).trans h
theorem Blk.both {w : World} {g : Nat} {t : TypeId} {cs : Array Value} {u : Value} (h : Blk w g t cs) (h0 : cs[0]? = some u) : w.cell? ⟨g, 0, none⟩ = some u ∧ w.frozen? ⟨g, 0, none⟩ = false := ⟨(h.cell 0).trans h0, h.frozen 0⟩

/-- the state of a tableau that is filled: block p holds it, the rows lie behind p, the weights before p -/
structure Fill (w0 w : World) (p : Nat) (va vb : Value) (vs : List Value) (N : Nat) (rows : List (List Int)) (Bs : List Int) : Prop where
  blk : Blk w p 37 #[va, vb]
  own : Own w (p + 1) tL va vs
  rows : RowsOwn w (p + 1) w.heap.size tI vs rows
  ws : OI w N p tI vb Bs
  le : w0.heap.size ≤ N
  below : Below w0.heap.size w0 w

section
variable {w0 wr w2 w3 : World} {p N : Nat} {va vb v1 r : Value} {vs : List Value} {rows : List (List Int)} {zs Bs : List Int}
theorem Fill.lt (h : Fill w0 wr p va vb vs N rows Bs) : p < wr.heap.size := h.blk.lt
theorem Fill.np (h : Fill w0 wr p va vb vs N rows Bs) : va.ownBlock ≠ some p := fun e => by have := h.own.ge p e; omega
theorem Fill.after (h : Fill w0 wr p va vb vs N rows Bs) (hb2 : Below wr.heap.size wr w2) : Blk w2 p 37 #[va, vb] := h.blk.below hb2 h.lt
theorem Fill.next (h : Fill w0 wr p va vb vs N rows Bs) (hp : w0.heap.size ≤ p) (hb2 : Below wr.heap.size wr w2) (ho2 : OwnInts w2 wr.heap.size tI r zs)
    (hown1 : Own w3 (p + 1) tL v1 (vs ++ [r])) (hgr : Grow w2 w3 va v1) :
    Fill w0 (w3.setCell ⟨p, 0, none⟩ v1) p v1 vb (vs ++ [r]) N (rows ++ [zs]) Bs := by
  have hsz : p + 1 ≤ wr.heap.size := h.lt
  have hs2 := hb2.size
  have hs3 := hgr.1.size
  have hO2 := h.own.below hb2
  have hK3 := (h.after hb2).grow hgr h.np
  have hR2 := ((h.rows.below hb2).mono (Nat.le_refl _) hs2).snoc (u := r) (zs := zs) ⟨ho2.mono hsz, ho2.1.lt⟩ (h.rows.apart (M := 0) (fun b hb => .inl (ho2.1.ge b hb)))
  have hR3 := hR2.other hgr.1 (fun j u hu => by
    have hj := (List.getElem?_eq_some_iff.1 hu).1
    have hx : (rows ++ [zs])[j]? = some ((rows ++ [zs])[j]'(by rw [← hR2.1]; exact hj)) := List.getElem?_eq_getElem _
    exact Own.ne_of_type (hR2.2.1 j u _ hu hx).1.1 hO2 (by decide))
  have hc := (Chg.refl p (p + 1) w3).setCell (p := ⟨p, 0, none⟩) (Nat.le_refl _) (by simp) v1
  have hw := h.ws.below hb2
  have hw3 : OI w3 N p tI vb Bs := ⟨hw.1.kept hgr.1 (by
    cases hv : vb.ownBlock with
    | none => exact .inl hv
    | some b => exact .inr fun e => by have h1 := hw.2 b hv; have h2 := hO2.ge b (e.symm.trans hv); omega), hw.2⟩
  have hse : (w3.setCell ⟨p, 0, none⟩ v1).heap.size = w3.heap.size := by simp [World.setCell]
  have hBw : Below w0.heap.size w0 w2 := h.below.trans (hb2.mono (by have := h.below.size; omega))
  refine ⟨?_, ?_, ?_, ?_, h.le, ?_⟩
  · have := hK3.set_ 0 v1
    simpa using this
  · exact hown1.of_block fun b hb => hc.block b (hown1.lt b hb) (.inr (hown1.ge b hb))
  · rw [hse]
    exact (hR3.mono (Nat.le_refl _) hs3).kept hc (.inr (Nat.le_refl _))
  · exact hw3.kept hc (.inl (Nat.le_refl _))
  · exact (hgr.below hBw (by have := h.below.size; omega) (fun b hb => by have := hO2.ge b hb; omega)).setCell (p := ⟨p, 0, none⟩) hp v1
/-- what is filled is an owned tableau -/
theorem Fill.tab (h : Fill w0 wr p va vb vs N rows Bs) (hN : N ≤ p) : OT wr N wr.heap.size (.agg #[va, vb]) rows Bs := by
  have hsz := h.lt
  exact OT.of_M' (M := p) hN (Nat.le_of_lt hsz) h.ws ⟨vs, h.own.mono (Nat.le_succ _), h.own.lt, h.rows.mono (Nat.le_succ _) (Nat.le_refl _)⟩
end
end Go.Proofs.YtofabikjjkapmaaGreat

set_option linter.unusedVariables false
set_option linter.unusedSimpArgs false
namespace Go.Proofs.YtofabikjjkapmaaGreat
open Go.RowKit

/-- the state of a tableau that is filled, rows and weights in turn: block p holds it, all else lies behind p -/
structure Fill2 (w0 w : World) (p : Nat) (va vb : Value) (vs : List Value) (rows : List (List Int)) (Bs : List Int) : Prop where
  blk : Blk w p 37 #[va, vb]
  own : Own w (p + 1) tL va vs
  rows : RowsOwn w (p + 1) w.heap.size tI vs rows
  ws : OwnInts w (p + 1) tI vb Bs
  ap : ∀ (k : Nat) (u : Value), vs[k]? = some u → Apart u vb
  below : Below w0.heap.size w0 w

section
variable {w0 w w' w1 : World} {p : Nat} {va vb v1 r : Value} {vs : List Value} {rows : List (List Int)} {zs Bs : List Int} {z : Int}
theorem Fill2.lt (h : Fill2 w0 w p va vb vs rows Bs) : p < w.heap.size := h.blk.lt
theorem Fill2.npA (h : Fill2 w0 w p va vb vs rows Bs) : va.ownBlock ≠ some p := fun e => by have := h.own.ge p e; omega
theorem Fill2.npB (h : Fill2 w0 w p va vb vs rows Bs) : vb.ownBlock ≠ some p := fun e => by have := h.ws.1.ge p e; omega
theorem Fill2.step (h : Fill2 w0 w p va vb vs rows Bs) (hb : Below w.heap.size w w') : Fill2 w0 w' p va vb vs rows Bs :=
  ⟨h.blk.below hb h.lt, h.own.below hb, (h.rows.below hb).mono (Nat.le_refl _) hb.size, h.ws.below hb, h.ap, h.below.trans (hb.mono h.below.size)⟩
theorem Fill2.tab (h : Fill2 w0 w p va vb vs rows Bs) : OT w (p + 1) w.heap.size (.agg #[va, vb]) rows Bs :=
  ⟨va, vb, vs, rfl, h.own, h.own.lt, h.rows, ⟨h.ws, h.ws.1.lt⟩, h.ap⟩
end
end Go.Proofs.YtofabikjjkapmaaGreat

set_option linter.unusedVariables false
set_option linter.unusedSimpArgs false
namespace Go.Proofs.YtofabikjjkapmaaGreat
open Go.RowKit

/-- rows va and numbers vb of one's own, all made since N -/
structure Two (w : World) (N : Nat) (va vb : Value) (vs : List Value) (rows : List (List Int)) (Bs : List Int) : Prop where
  own : Own w N tL va vs
  rows : RowsOwn w N w.heap.size tI vs rows
  ws : OwnInts w N tI vb Bs
  ap : ∀ (k : Nat) (u : Value), vs[k]? = some u → Apart u vb

section
variable {w w' w1 : World} {N p q : Nat} {va vb v1 r : Value} {vs : List Value} {rows : List (List Int)} {zs Bs : List Int} {z : Int}
theorem Two.nil (w : World) (N : Nat) : Two w N (.slice none 0 0) (.slice none 0 0) [] [] [] :=
  ⟨Own.nil _ _ _, RowsOwn.nil _ _ _ _, OwnInts.nil _ _ _, fun k u hu => by simp at hu⟩
theorem Two.step (h : Two w N va vb vs rows Bs) (hb : Below w.heap.size w w') : Two w' N va vb vs rows Bs :=
  ⟨h.own.below hb, (h.rows.below hb).mono (Nat.le_refl _) hb.size, h.ws.below hb, h.ap⟩
theorem Two.kept (h : Two w N va vb vs rows Bs) (hc : Chg p q w w') (hq : q ≤ N) : Two w' N va vb vs rows Bs :=
  ⟨h.own.of_block fun b hb => hc.block b (h.own.lt b hb) (.inr (Nat.le_trans hq (h.own.ge b hb))), (h.rows.mono (Nat.le_refl _) hc.size).kept hc (.inr hq), ⟨h.ws.1.of_block fun b hb => hc.block b (h.ws.1.lt b hb) (.inr (Nat.le_trans hq (h.ws.1.ge b hb))), h.ws.2⟩, h.ap⟩
theorem Two.tab (h : Two w N va vb vs rows Bs) : OT w N w.heap.size (.agg #[va, vb]) rows Bs :=
  ⟨va, vb, vs, rfl, h.own, h.own.lt, h.rows, ⟨h.ws, h.ws.1.lt⟩, h.ap⟩
/-- the rows grow by a list r of one's own -/
theorem Two.addA (h : Two w N va vb vs rows Bs) (hr : OI w N w.heap.size tI r zs) (hap : ∀ (k : Nat) (u : Value), vs[k]? = some u → Apart u r) (hrb : Apart r vb)
    (hown : Own w1 N tL v1 (vs ++ [r])) (hgr : Grow w w1 va v1) : Two w1 N v1 vb (vs ++ [r]) (rows ++ [zs]) Bs := by
  have hs := hgr.1.size
  have hR := h.rows.snoc hr hap
  have hR3 := hR.other hgr.1 (fun j u hu => by
    have hj := (List.getElem?_eq_some_iff.1 hu).1
    have hx : (rows ++ [zs])[j]? = some ((rows ++ [zs])[j]'(by rw [← hR.1]; exact hj)) := List.getElem?_eq_getElem _
    exact Own.ne_of_type (hR.2.1 j u _ hu hx).1.1 h.own (by decide))
  have hw := h.ws.kept hgr.1 (Own.ne_of_type h.ws.1 h.own (by decide))
  refine ⟨hown, hR3.mono (Nat.le_refl _) hs, hw, ?_⟩
  intro k u hu
  by_cases hk : k < vs.length
  · rw [List.getElem?_append_left hk] at hu
    exact h.ap k u hu
  · have hj := (List.getElem?_eq_some_iff.1 hu).1
    simp at hj
    have : k = vs.length := by omega
    subst this
    simp at hu
    subst hu
    exact hrb
/-- the rows grow by a list that was made after all else -/
theorem Two.addA' (h : Two w N va vb vs rows Bs) (hb : Below w.heap.size w w') (hN : N ≤ w.heap.size) (ho : OwnInts w' w.heap.size tI r zs)
    (hown : Own w1 N tL v1 (vs ++ [r])) (hgr : Grow w' w1 va v1) : Two w1 N v1 vb (vs ++ [r]) (rows ++ [zs]) Bs := by
  refine (h.step hb).addA ⟨ho.mono hN, ho.1.lt⟩ (h.rows.apart (M := 0) (fun b hb => .inl (ho.1.ge b hb))) ?_ hown hgr
  unfold Apart
  cases hr : r.ownBlock with
  | none => exact .inl rfl
  | some b =>
    refine .inr fun e => ?_
    have h1 := ho.1.ge b hr
    have h2 := h.ws.1.lt b e.symm
    omega
/-- the numbers grow -/
theorem Two.addB (h : Two w N va vb vs rows Bs) (hz : In64 z) (hown : Own w1 N tI v1 (ints Bs ++ [.int .i64 z])) (hgr : Grow w w1 vb v1) : Two w1 N va v1 vs rows (Bs ++ [z]) := by
  have hs := hgr.1.size
  have hO := h.own.kept hgr.1 (Own.ne_of_type h.own h.ws.1 (by decide))
  have hR := h.rows.other hgr.1 h.ap
  refine ⟨hO, hR.mono (Nat.le_refl _) hs, ⟨by simpa [ints] using hown, fun y hy => ?_⟩, ?_⟩
  · rcases List.mem_append.1 hy with hy | hy
    · exact h.ws.2 y hy
    · simp at hy; subst hy; exact hz
  · intro k u hu
    have hx : rows[k]? = some (rows[k]'(by rw [← h.rows.1]; exact (List.getElem?_eq_some_iff.1 hu).1)) := List.getElem?_eq_getElem _
    have ho := h.rows.2.1 k u _ hu hx
    rcases hgr.2 with e | ⟨g, e, hge⟩
    · have := h.ap k u hu
      unfold Apart at this ⊢
      rw [e]
      exact this
    · unfold Apart
      cases hb : u.ownBlock with
      | none => exact .inl rfl
      | some b =>
        refine .inr fun e2 => ?_
        rw [e] at e2
        have := ho.2 b hb
        simp at e2
        omega
theorem Two.npA (h : Two w N va vb vs rows Bs) (hp : p < N) : va.ownBlock ≠ some p := fun e => by have := h.own.ge p e; omega
theorem Two.npB (h : Two w N va vb vs rows Bs) (hp : p < N) : vb.ownBlock ≠ some p := fun e => by have := h.ws.1.ge p e; omega
end
section
variable {w0 w w' w1 : World} {p : Nat} {va vb v1 r : Value} {vs : List Value} {rows : List (List Int)} {zs Bs : List Int}
end
section
variable {w0 w w9 : World} {p : Nat} {va vb v6 v9 : Value} {vs : List Value} {rows : List (List Int)} {Bs : List Int}
theorem Fill2.two (h : Fill2 w0 w p va vb vs rows Bs) : Two w (p + 1) va vb vs rows Bs := ⟨h.own, h.rows, h.ws, h.ap⟩
end
end Go.Proofs.YtofabikjjkapmaaGreat

set_option maxRecDepth 100000
set_option linter.unusedVariables false
set_option linter.unusedSimpArgs false
namespace Go.Proofs.YtofabikjjkapmaaGreat
open Go.RowKit

section
variable {w w' : World} {B N p : Nat} {e t : TypeId} {v va vb : Value} {vs : List Value} {cs : Array Value} {rows : List (List Int)} {Bs : List Int}
theorem Own.ne_blk (h : Own w B e v vs) (hk : Blk w p t cs) (hne : e ≠ t) : v.ownBlock ≠ some p := by
  intro hb
  rcases h.cases with ⟨rfl, _⟩ | ⟨g, cap, cur, rfl, _, _, hg, _⟩
  · simp [Value.ownBlock] at hb
  · simp [Value.ownBlock] at hb
    subst hb
    have h2 : w.heap[g]? = some (.cells cs t (0, 0)) := hk
    rw [hg] at h2
    simp at h2
    exact hne h2.2
theorem Two.storeAt (h : Two w N va vb vs rows Bs) (hk : Blk w p t cs) (h1 : tL ≠ t) (h2 : tI ≠ t) (i : Nat) (u : Value) : Two (w.setCell ⟨p, i, none⟩ u) N va vb vs rows Bs := by
  have hh : ∀ b, b ≠ p → (w.setCell ⟨p, i, none⟩ u).heap[b]? = w.heap[b]? := fun b hb => Below.heap_setCell w ⟨p, i, none⟩ u b hb
  have hs : (w.setCell ⟨p, i, none⟩ u).heap.size = w.heap.size := by simp [World.setCell]
  refine ⟨h.own.of_block fun b hb => hh b (fun e => h.own.ne_blk hk h1 (e ▸ hb)), ?_, ⟨h.ws.1.of_block fun b hb => hh b (fun e => h.ws.1.ne_blk hk h2 (e ▸ hb)), h.ws.2⟩, h.ap⟩
  rw [hs]
  exact ⟨h.rows.1, fun k u' zs hu hz => ⟨⟨(h.rows.2.1 k u' zs hu hz).1.1.of_block fun b hb => hh b (fun e => (h.rows.2.1 k u' zs hu hz).1.1.ne_blk hk h2 (e ▸ hb)), (h.rows.2.1 k u' zs hu hz).1.2⟩, (h.rows.2.1 k u' zs hu hz).2⟩, h.rows.2.2⟩

/-- all that Two tells stands where only block p, of another type, has turned -/
theorem Two.other (h : Two w N va vb vs rows Bs) (hk : Blk w p t cs) (h1 : tL ≠ t) (h2 : tI ≠ t) (hg : w.grownBy w' (some p)) : Two w' N va vb vs rows Bs :=
  ⟨h.own.kept hg (.inr (h.own.ne_blk hk h1)), (h.rows.other hg fun k u hu => by
    have hx : rows[k]? = some (rows[k]'(by rw [← h.rows.1]; exact (List.getElem?_eq_some_iff.1 hu).1)) := List.getElem?_eq_getElem _
    exact .inr ((h.rows.2.1 k u _ hu hx).1.1.ne_blk hk h2)).mono (Nat.le_refl _) hg.size, ⟨h.ws.1.kept hg (.inr (h.ws.1.ne_blk hk h2)), h.ws.2⟩, h.ap⟩
theorem Two.rowsAt (h : Two w N va vb vs rows Bs) : Rows w va rows := OR.rows (C := w.heap.size) ⟨vs, h.own, h.own.lt, h.rows⟩
end

/-- the first loop: columns vc beside the tableau in block p, whose weights grow -/
structure ColS (w0 w : World) (p : Nat) (vc vb : Value) (vs : List Value) (rows : List (List Int)) (Bs : List Int) : Prop where
  two : Two w (w0.heap.size + 1) vc vb vs rows Bs
  blk : Blk w p 37 #[.slice none 0 0, vb]
  below : Below w0.heap.size w0 w
section
variable {w0 w w' w1 : World} {p : Nat} {vc vb v1 r : Value} {vs : List Value} {rows : List (List Int)} {zs Bs : List Int} {z : Int}
theorem ColS.npA (h : ColS w0 w p vc vb vs rows Bs) : vc.ownBlock ≠ some p := h.two.own.ne_blk h.blk (by decide)
theorem ColS.npB (h : ColS w0 w p vc vb vs rows Bs) : vb.ownBlock ≠ some p := h.two.ws.1.ne_blk h.blk (by decide)
theorem ColS.step (h : ColS w0 w p vc vb vs rows Bs) (hb : Below w.heap.size w w') : ColS w0 w' p vc vb vs rows Bs :=
  ⟨h.two.step hb, h.blk.below hb h.blk.lt, h.below.trans (hb.mono h.below.size)⟩
theorem ColS.addA (h : ColS w0 w p vc vb vs rows Bs) (hp : w0.heap.size < w.heap.size) (hb : Below w.heap.size w w') (ho : OwnInts w' w.heap.size tI r zs)
    (hown : Own w1 (w0.heap.size + 1) tL v1 (vs ++ [r])) (hgr : Grow w' w1 vc v1) : ColS w0 w1 p v1 vb (vs ++ [r]) (rows ++ [zs]) Bs :=
  ⟨h.two.addA' hb hp ho hown hgr, (h.step hb).blk.grow hgr h.npA, hgr.below (h.step hb).below (h.step hb).below.size (fun b hb' => by have := h.two.own.ge b hb'; omega)⟩
theorem ColS.addB (h : ColS w0 w p vc vb vs rows Bs) (hp : w0.heap.size ≤ p) (hz : In64 z) (hown : Own w1 (w0.heap.size + 1) tI v1 (ints Bs ++ [.int .i64 z])) (hgr : Grow w w1 vb v1) :
    ColS w0 (w1.setCell ⟨p, 1, none⟩ v1) p vc v1 vs rows (Bs ++ [z]) := by
  have hk := h.blk.grow hgr h.npB
  refine ⟨(h.two.addB hz hown hgr).storeAt hk (by decide) (by decide) 1 v1, ?_, (hgr.below h.below h.below.size (fun b hb' => by have := h.two.ws.1.ge b hb'; omega)).setCell (p := ⟨p, 1, none⟩) hp v1⟩
  have := hk.set_ 1 v1
  simpa using this
end

/-- the second loop: rows va grow in block p, made since w4; of what stood there, only block p has turned -/
structure ColT (w4 w : World) (p : Nat) (va vb : Value) (vs : List Value) (rows : List (List Int)) : Prop where
  g : w4.grownBy w (some p)
  blk : Blk w p 37 #[va, vb]
  own : Own w w4.heap.size tL va vs
  rows : RowsOwn w w4.heap.size w.heap.size tI vs rows
section
variable {w0 w4 w w5 w6 : World} {p : Nat} {va vb v1 r : Value} {vs : List Value} {rows : List (List Int)} {zs : List Int}
theorem ColT.npA (h : ColT w4 w p va vb vs rows) : va.ownBlock ≠ some p := h.own.ne_blk h.blk (by decide)
theorem ColT.step (h : ColT w4 w p va vb vs rows) (hb : Below w.heap.size w w5) : ColT w4 w5 p va vb vs rows :=
  ⟨⟨hb.os.trans h.g.os, hb.tape.trans h.g.tape, hb.output.trans h.g.output, Nat.le_trans h.g.size hb.size, fun k hk hne => (hb.block k (Nat.lt_of_lt_of_le hk h.g.size)).trans (h.g.block k hk hne)⟩,
    h.blk.below hb h.blk.lt, h.own.below hb, (h.rows.below hb).mono (Nat.le_refl _) hb.size⟩
theorem ColT.next (h : ColT w4 w p va vb vs rows) (hb : Below w.heap.size w w5) (ho : OwnInts w5 w.heap.size tI r zs)
    (hown : Own w6 w4.heap.size tL v1 (vs ++ [r])) (hgr : Grow w5 w6 va v1) : ColT w4 (w6.setCell ⟨p, 0, none⟩ v1) p v1 vb (vs ++ [r]) (rows ++ [zs]) := by
  have h5 := h.step hb
  have hk := h5.blk.grow hgr h5.npA
  have hR := h5.rows.snoc (u := r) (zs := zs) ⟨ho.mono h.g.size, ho.1.lt⟩ (h.rows.apart (M := 0) fun b hb' => .inl (ho.1.ge b hb'))
  have hR6 := hR.other hgr.1 (fun j u hu => by
    have hx : (rows ++ [zs])[j]? = some ((rows ++ [zs])[j]'(by rw [← hR.1]; exact (List.getElem?_eq_some_iff.1 hu).1)) := List.getElem?_eq_getElem _
    exact Own.ne_of_type (hR.2.1 j u _ hu hx).1.1 h5.own (by decide))
  have hh : ∀ b, b ≠ p → (w6.setCell ⟨p, 0, none⟩ v1).heap[b]? = w6.heap[b]? := fun b hb => Below.heap_setCell w6 ⟨p, 0, none⟩ v1 b hb
  have hs : (w6.setCell ⟨p, 0, none⟩ v1).heap.size = w6.heap.size := by simp [World.setCell]
  refine ⟨⟨hgr.1.os.trans h5.g.os, hgr.1.tape.trans h5.g.tape, hgr.1.output.trans h5.g.output, by rw [hs]; exact Nat.le_trans h5.g.size hgr.1.size, fun k hk' hne => ?_⟩, ?_, ?_, ?_⟩
  · rw [hh k (fun e => hne (by rw [e])), hgr.1.block k (Nat.lt_of_lt_of_le hk' h5.g.size) (fun e => by have := h5.own.ge k e.symm; omega)]
    exact h5.g.block k hk' hne
  · have := hk.set_ 0 v1
    simpa using this
  · exact hown.of_block fun b hb' => hh b (fun e => hown.ne_blk hk (by decide) (e ▸ hb'))
  · rw [hs]
    have hR7 := hR6.mono (Nat.le_refl _) hgr.1.size
    exact ⟨hR7.1, fun k u' zs' hu hz => ⟨⟨(hR7.2.1 k u' zs' hu hz).1.1.of_block fun b hb' => hh b (fun e => (hR7.2.1 k u' zs' hu hz).1.1.ne_blk hk (by decide) (e ▸ hb')), (hR7.2.1 k u' zs' hu hz).1.2⟩, (hR7.2.1 k u' zs' hu hz).2⟩, hR7.2.2⟩
theorem ColT.tab {vc : Value} {vs' : List Value} {rows' : List (List Int)} {Bs : List Int} (h : ColT w4 w p va vb vs rows) (hs : ColS w0 w4 p vc vb vs' rows' Bs) (hp : w0.heap.size + 1 ≤ w4.heap.size) : OT w (w0.heap.size + 1) w.heap.size (.agg #[va, vb]) rows Bs :=
  OT.of_M' (M := w4.heap.size) hp h.g.size ⟨(hs.two.other hs.blk (by decide) (by decide) h.g).ws, hs.two.ws.1.lt⟩ ⟨vs, h.own, h.own.lt, h.rows⟩
end

/-- a tableau that is filled in block p, wherever it lies among the blocks that were made since w0 -/
structure FillT (w0 w : World) (p : Nat) (va vb : Value) (vs : List Value) (rows : List (List Int)) (Bs : List Int) : Prop where
  two : Two w (w0.heap.size + 1) va vb vs rows Bs
  blk : Blk w p 37 #[va, vb]
  ge : w0.heap.size + 1 ≤ p
  below : Below w0.heap.size w0 w
section
variable {w0 w w5 w6 : World} {p : Nat} {va vb v1 r : Value} {vs : List Value} {rows : List (List Int)} {zs Bs : List Int}
theorem FillT.npA (h : FillT w0 w p va vb vs rows Bs) : va.ownBlock ≠ some p := h.two.own.ne_blk h.blk (by decide)
theorem FillT.npB (h : FillT w0 w p va vb vs rows Bs) : vb.ownBlock ≠ some p := h.two.ws.1.ne_blk h.blk (by decide)
theorem FillT.step (h : FillT w0 w p va vb vs rows Bs) (hb : Below w.heap.size w w5) : FillT w0 w5 p va vb vs rows Bs :=
  ⟨h.two.step hb, h.blk.below hb h.blk.lt, h.ge, h.below.trans (hb.mono h.below.size)⟩
theorem FillT.next (h : FillT w0 w p va vb vs rows Bs) (hb : Below w.heap.size w w5) (ho : OwnInts w5 w.heap.size tI r zs)
    (hown : Own w6 (w0.heap.size + 1) tL v1 (vs ++ [r])) (hgr : Grow w5 w6 va v1) : FillT w0 (w6.setCell ⟨p, 0, none⟩ v1) p v1 vb (vs ++ [r]) (rows ++ [zs]) Bs := by
  have h5 := h.step hb
  have hk := h5.blk.grow hgr h5.npA
  have hN : w0.heap.size + 1 ≤ w.heap.size := by have := h.ge; have := h.blk.lt; omega
  refine ⟨(h.two.addA' hb hN ho hown hgr).storeAt hk (by decide) (by decide) 0 v1, ?_, h.ge, (hgr.below h5.below h5.below.size (fun b hb' => by have := h5.two.own.ge b hb'; omega)).setCell (p := ⟨p, 0, none⟩) (by have := h.ge; show _ ≤ p; omega) v1⟩
  have := hk.set_ 0 v1
  simpa using this
theorem FillT.tab (h : FillT w0 w p va vb vs rows Bs) : OT w (w0.heap.size + 1) w.heap.size (.agg #[va, vb]) rows Bs := h.two.tab
end

theorem FillT.init {w0 w : World} {p : Nat} {vb : Value} {Bs : List Int} (h : Two w (w0.heap.size + 1) (.slice none 0 0) vb [] [] Bs) (hk : Blk w p 37 #[.slice none 0 0, .slice none 0 0]) (hb : Below w0.heap.size w0 w) (hp : w0.heap.size + 1 ≤ p) :
    FillT w0 ((w.setCell ⟨p, 0, none⟩ (.slice none 0 0)).setCell ⟨p, 1, none⟩ vb) p (.slice none 0 0) vb [] [] Bs := by
  have h0 := h.storeAt hk (by decide) (by decide) 0 (.slice none 0 0)
  have k0 := hk.set_ 0 (.slice none 0 0)
  have h1 := h0.storeAt k0 (by decide) (by decide) 1 vb
  have k1 := k0.set_ 1 vb
  exact ⟨h1, by simpa using k1, hp, (hb.setCell (p := ⟨p, 0, none⟩) (by show _ ≤ p; omega) _).setCell (p := ⟨p, 1, none⟩) (by show _ ≤ p; omega) _⟩

/-- the three blocks of a walk of two tableaus: both arguments and the result -/
structure Env (w0 w : World) (c0 c1 c2 : Array Value) : Prop where
  k0 : Blk w w0.heap.size 37 c0
  k1 : Blk w (w0.heap.size + 1) 37 c1
  k2 : Blk w (w0.heap.size + 1 + 1) 37 c2
  below : Below w0.heap.size w0 w
section
variable {w0 w w' : World} {c0 c1 c2 : Array Value} {v v' : Value} {vs : List Value} {B p : Nat} {e : TypeId}
theorem Env.step (h : Env w0 w c0 c1 c2) (hb : Below w.heap.size w w') : Env w0 w' c0 c1 c2 :=
  ⟨h.k0.below hb h.k0.lt, h.k1.below hb h.k1.lt, h.k2.below hb h.k2.lt, h.below.trans (hb.mono h.below.size)⟩
theorem Env.grow (h : Env w0 w c0 c1 c2) (ho : Own w B e v vs) (he : e ≠ 37) (hB : w0.heap.size ≤ B) (hgr : Grow w w' v v') : Env w0 w' c0 c1 c2 :=
  ⟨h.k0.grow hgr (ho.ne_blk h.k0 he), h.k1.grow hgr (ho.ne_blk h.k1 he), h.k2.grow hgr (ho.ne_blk h.k2 he), hgr.below h.below h.below.size (fun b hb => Nat.le_trans hB (ho.ge b hb))⟩
theorem Env.store (h : Env w0 w c0 c1 c2) (hp : w0.heap.size + 1 + 1 < p) (i : Nat) (u : Value) : Env w0 (w.setCell ⟨p, i, none⟩ u) c0 c1 c2 :=
  ⟨h.k0.far (p := ⟨p, i, none⟩) (by show _ ≠ p; omega) u, h.k1.far (p := ⟨p, i, none⟩) (by show _ ≠ p; omega) u, h.k2.far (p := ⟨p, i, none⟩) (by show _ ≠ p; omega) u, h.below.setCell (p := ⟨p, i, none⟩) (by show _ ≤ p; omega) u⟩
end
end Go.Proofs.YtofabikjjkapmaaGreat

set_option linter.unusedVariables false
set_option linter.unusedSimpArgs false
namespace Go.Proofs.YtofabikjjkapmaaGreat
open Go.RowKit

/-- a tableau of numbers, of any form -/
structure NumTab (A : List (List Int)) (Bs : List Int) : Prop where
  la : A.length ≤ 1000
  lb : Bs.length ≤ 1000
  rows : ∀ zs ∈ A, Nums zs ∧ zs.length ≤ 1000
  ws : Nums Bs

end Go.Proofs.YtofabikjjkapmaaGreat

set_option maxRecDepth 100000
set_option linter.unusedVariables false
set_option linter.unusedSimpArgs false
namespace Go.Proofs.YtofabikjjkapmaaGreat
open Go.RowKit

end Go.Proofs.YtofabikjjkapmaaGreat

set_option linter.unusedVariables false
set_option linter.unusedSimpArgs false
namespace Go.Proofs.YtofabikjjkapmaaGreat
open Go.RowKit

end Go.Proofs.YtofabikjjkapmaaGreat

set_option linter.unusedVariables false
set_option linter.unusedSimpArgs false
namespace Go.Proofs.YtofabikjjkapmaaGreat
open Go.RowKit

def pRow (A : List (List Int)) (idx : List Nat) (a : Nat) : List Int := idx.map fun b => (A.getD a []).getD b 0
def pRows (A : List (List Int)) (idx jdx : List Nat) : List (List Int) := jdx.map (pRow A idx)
def pWs (Bs : List Int) (jdx : List Nat) : List Int := jdx.map fun a => Bs.getD a 0
end Go.Proofs.YtofabikjjkapmaaGreat

set_option linter.unusedVariables false
set_option linter.unusedSimpArgs false
namespace Go.Proofs.YtofabikjjkapmaaGreat
open Go.RowKit

/-- append of one element, met in a region that draws, where the element lies anywhere -/
theorem step_app1g {P : Program} {ops : Array Oper} {o : Oper} {a : Act} {K : Act → World → Prop} {Q : Exit → Act → World → Prop} {E : Prop} {s x : Operand} {t : TypeId}
    {e : TypeId} {z : Value} {bytes : Nat} {B : Nat} {v : Value} {vs : List Value} {W : World} {u : Value} {ad : Addr}
    (T : ElemT P t e z bytes) (hown : Own W B e v vs) (hlen : vs.length < 1099511627776) (hB : B ≤ W.heap.size) (hu : u.oneCell' = true)
    (hgd : o.guard = none) (ho : o.op = .call { callee := .builtin .append, args := #[s, x], argTypes := #[t, t] }) (hs : a.eval s = v)
    (hx : a.eval x = .slice (some ad) 1 1) (hc : W.cell? ad = some u)
    (h : ∀ v' w', Own w' B e v' (vs ++ [u]) → Grow W w' v v' → K (a.put o.dst v') w') :
    if Region.wanted o (yielded ops a.tmps) = true then Oper.wp P o a W K Q else E := by
  have hw : Region.wanted o (yielded ops a.tmps) = true := by simp [Region.wanted, hgd]
  rw [if_pos hw]
  obtain ⟨i, hi, hz, h1, h2⟩ := info_parts T.info
  have hby := T.small
  obtain ⟨v', w', hrun, r1, r2, _, r3⟩ := run_append_own_at (P := P) W B t o.type e i z 1 bytes T.under hi hz h1 h2 (by rw [T.one]; rfl) (by omega) v vs.length vs hown ad 1 1 [u] rfl
    (fun j u' hj => by
      cases j with
      | zero =>
        simp at hj; subst hj
        exact hc
      | succ j => simp at hj) (by simpa using hu) (by simp only [maxLen]; omega) (by have := Nat.mul_le_mul_left (vs.length + 1) hby; omega) hB
  unfold Oper.wp execOp
  simp only [ho, resolve, invoke, builtin, Sem.run_bind, Sem.run_pure, Result.andThen_ok, List.map_toArray, List.map_cons, List.map_nil, hs, hx, hrun]
  refine h v' w' ?_ ⟨r2, ?_⟩
  · unfold Own; simpa using r1
  · rcases r3 with r3 | r3
    · exact .inl r3
    · exact .inr ⟨_, r3, Nat.le_refl _⟩

end Go.Proofs.YtofabikjjkapmaaGreat

set_option maxRecDepth 100000
set_option linter.unusedVariables false
set_option linter.unusedSimpArgs false
namespace Go.Proofs.YtofabikjjkapmaaGreat
open Go.RowKit

def padR (n : Nat) (r : List Int) : List Int := r ++ List.replicate n 0
def compA (A1 : List (List Int)) (B1 : List Int) (A2 : List (List Int)) (B2 : List Int) : List (List Int) := A1.map (padR B2.length) ++ A2.map (B1 ++ ·)

end Go.Proofs.YtofabikjjkapmaaGreat

set_option linter.unusedVariables false
set_option linter.unusedSimpArgs false
namespace Go.Proofs.YtofabikjjkapmaaGreat
open Go.RowKit

def rowB (n : Nat) (row : List Int) : Bool := decide (row.length = n) && nums row
def tabB (A : List (List Int)) (Bs : List Int) : Bool := inR Bs.length 1 8 && decide (A.length = Bs.length) && nums Bs && A.all (rowB Bs.length)

set_option maxHeartbeats 400000 in
theorem lib_IndexFuncR (w : World) (v : Value) (xss : List (List Int)) (g : Nat) (c0 : Value) (p : List Int → Bool) (ha : Rows w v xss)
    (hcf : ∀ (args : Array Value) (w : World), Sem.run Tryz.prog (callFunc g args) w = .ok (.enter g args) w)
    (hp : ∀ (u : Value) (zs : List Int), Ints w u zs → Calls Tryz.prog g #[u, c0] w fun e w' => e = .returned (.bool (p zs)) ∧ w = w') :
    Calls Tryz.prog 192 #[v, .func (.func g) #[] #[c0]] w fun e w' => e = .returned (.int .i64 (idxF p xss)) ∧ w = w' := by
  obtain ⟨A, c, rfl, h1, h2, h3⟩ := ha.open_
  clear ha
  have H3 := Lib.hid h3
  have HP := Lib.hid hp
  clear h3 hp
  go_enter Tryz.func192, Tryz.ntmps192
  go_wp2_with fail
  go_loop [8] (fun i => ∃ k : Nat, k ≤ xss.length ∧ i = .int .i64 k ∧ Hid (∀ i y, i < k → xss[i]? = some y → p y = false)) (fun i => xss.length - (intOf i).toNat)
  case atStart => exact ⟨0, Nat.zero_le _, rfl, fun i y h => by omega⟩
  case round =>
    obtain ⟨k, hk, rfl, hI⟩ := hrel
    by_cases hlt : k < xss.length
    · obtain ⟨ad, u, zs, rfl, hz, hu, hc⟩ := H3.out k hlt
      have HZ := Lib.hid hz
      have HU := Lib.hid hu
      clear hz hu
      go_wp2_with fail
      refine (HP.out u zs HU.out).mono ?_
      rintro e w' ⟨rfl, rfl⟩
      go_wp2_with fail
      · have hpz : p zs = true := by assumption
        go_ret
        exact ⟨ret_int (idxF_hit hI.out HZ.out hpz).symm, rfl⟩
      · have hpz : p zs = false := by assumption
        go_round
        case rel =>
          refine ⟨k + 1, by omega, by go_num, fun i y hi hy => ?_⟩
          by_cases e : i = k
          · subst e
            rw [HZ.out] at hy
            cases hy
            exact hpz
          · exact hI.out i y (by omega) hy
        case measure => simp [intOf]; omega
    · have : k = xss.length := by omega
      subst this
      go_wp2_with fail
      go_ret
      exact ⟨ret_int (idxF_miss hI.out).symm, rfl⟩

set_option maxHeartbeats 400000 in
theorem lib_ContainsFuncR (w : World) (v : Value) (xss : List (List Int)) (g : Nat) (c0 : Value) (p : List Int → Bool) (ha : Rows w v xss)
    (hcf : ∀ (args : Array Value) (w : World), Sem.run Tryz.prog (callFunc g args) w = .ok (.enter g args) w)
    (hp : ∀ (u : Value) (zs : List Int), Ints w u zs → Calls Tryz.prog g #[u, c0] w fun e w' => e = .returned (.bool (p zs)) ∧ w = w') :
    Calls Tryz.prog 137 #[v, .func (.func g) #[] #[c0]] w fun e w' => e = .returned (.bool (xss.any p)) ∧ w = w' := by
  have HA := Lib.hid ha
  have HP := Lib.hid hp
  clear ha hp
  go_enter Tryz.func137, Tryz.ntmps137
  go_wp2_with (go_at_call 192; refine (lib_IndexFuncR _ _ _ _ _ _ HA.out hcf HP.out).mono ?_; rintro e w' ⟨rfl, rfl⟩)
  go_ret
  exact ⟨ret_bool (idxF_nonneg p xss), rfl⟩

set_option maxHeartbeats 400000 in
theorem i_IsTableau1 (w : World) (v : Value) (zs : List Int) (a : Addr) (n : Nat) (ha : Ints w v zs) (hc : w.cell? a = some (.int .i64 (n : Int))) :
    Calls Tryz.prog 138 #[v, .pointer (some a)] w fun e w' => e = .returned (.bool (!rowB n zs)) ∧ w = w' := by
  have HA := Lib.hid ha
  obtain ⟨A, c, rfl, h1, h2, h3⟩ := ha.open_
  clear ha h3
  by_cases hl : zs.length = n
  · have HF := Lib.hid (show (!rowB n zs) = !nums zs by simp [rowB, hl])
    have hd : (((zs.length : Nat) : Int) != (n : Int)) = false := by simp [hl]
    clear hl
    go_enter Tryz.func138, Tryz.ntmps138
    go_wp2_with (go_at_call 90; refine (i_areNumbers _ _ _ HA.out).mono ?_; rintro e w' ⟨rfl, rfl⟩)
    go_ret
    exact ⟨ret_bool HF.out.symm, rfl⟩
  · have HF := Lib.hid (show (!rowB n zs) = true by simp [rowB, hl])
    have hd : (((zs.length : Nat) : Int) != (n : Int)) = true := by simp; omega
    clear hl
    go_enter Tryz.func138, Tryz.ntmps138
    go_wp2_with (go_at_call 90; refine (i_areNumbers _ _ _ HA.out).mono ?_; rintro e w' ⟨rfl, rfl⟩)
    go_ret
    exact ⟨ret_bool HF.out.symm, rfl⟩

theorem any_not_all {α : Type} (p : α → Bool) (l : List α) : (l.any fun x => !p x) = !l.all p := by
  induction l with
  | nil => rfl
  | cons x l ih => simp only [List.any_cons, List.all_cons, ih]; cases p x <;> simp

set_option maxHeartbeats 1000000 in
theorem i_IsTableau (w : World) (v : Value) (A : List (List Int)) (Bs : List Int) (ha : TabArg w v A Bs) :
    Calls Tryz.prog 73 #[v] w fun e w' => e = .returned (.bool (tabB A Bs)) ∧ Below w.heap.size w w' := by
  obtain ⟨va, vb, rfl, ha1, ha2⟩ := ha
  have BB := Lib.hid (below2 w (.cells #[va, vb] 37) (.cells #[.int .i64 (Bs.length : Int)] 3))
  have H1 := Lib.hid (ha1.below BB.out)
  have H2 := Lib.hid (ha2.below BB.out)
  obtain ⟨A1, c1, rfl, g1, g2, _⟩ := ha1.open_
  obtain ⟨A2, c2, rfl, k1, k2, _⟩ := ha2.open_
  clear ha1 ha2
  cases hr : inR Bs.length 1 8 with
  | false =>
    have HF := Lib.hid (show tabB A Bs = false by simp [tabB, hr])
    go_enter Tryz.func73, Tryz.ntmps73
    go_wp2_with (first | (go_at_call 59; refine (lib_lengthI _ _ _ H2.out).mono ?_; rintro e w' ⟨rfl, rfl⟩) | (go_at_call 128; refine (i_inRange _ _ _ _).mono ?_; rintro e w' ⟨rfl, rfl⟩))
    go_ret
    exact ⟨ret_bool HF.out.symm, BB.out⟩
  | true =>
    by_cases hl : A.length = Bs.length
    · have hd : (((A.length : Nat) : Int) != (Bs.length : Int)) = false := by simp [hl]
      cases hn : nums Bs with
      | false =>
        have HF := Lib.hid (show tabB A Bs = false by simp [tabB, hn])
        clear hl
        go_enter Tryz.func73, Tryz.ntmps73
        go_wp2_with (first | (go_at_call 59; refine (lib_lengthI _ _ _ H2.out).mono ?_; rintro e w' ⟨rfl, rfl⟩) | (go_at_call 128; refine (i_inRange _ _ _ _).mono ?_; rintro e w' ⟨rfl, rfl⟩) | (go_at_call 90; refine (i_areNumbers _ _ _ H2.out).mono ?_; rintro e w' ⟨rfl, rfl⟩))
        go_ret
        exact ⟨ret_bool HF.out.symm, BB.out⟩
      | true =>
        have HF := Lib.hid (show tabB A Bs = A.all (rowB Bs.length) by simp [tabB, hr, hl, hn])
        clear hl
        go_enter Tryz.func73, Tryz.ntmps73
        go_wp2_with (first | (go_at_call 59; refine (lib_lengthI _ _ _ H2.out).mono ?_; rintro e w' ⟨rfl, rfl⟩) | (go_at_call 128; refine (i_inRange _ _ _ _).mono ?_; rintro e w' ⟨rfl, rfl⟩) | (go_at_call 90; refine (i_areNumbers _ _ _ H2.out).mono ?_; rintro e w' ⟨rfl, rfl⟩))
        refine (lib_ContainsFuncR _ _ _ _ _ (fun row => !rowB Bs.length row) H1.out (fun _ _ => by kernel_rfl) (fun u zs hu => i_IsTableau1 _ _ _ _ _ hu (by simp))).mono ?_
        rintro e w' ⟨rfl, rfl⟩
        go_wp2_with fail
        go_ret
        exact ⟨ret_bool (by rw [HF.out, any_not_all, Bool.not_not]), BB.out⟩
    · have hd : (((A.length : Nat) : Int) != (Bs.length : Int)) = true := by simp; omega
      have HF := Lib.hid (show tabB A Bs = false by simp [tabB, hl])
      clear hl
      go_enter Tryz.func73, Tryz.ntmps73
      go_wp2_with (first | (go_at_call 59; refine (lib_lengthI _ _ _ H2.out).mono ?_; rintro e w' ⟨rfl, rfl⟩) | (go_at_call 128; refine (i_inRange _ _ _ _).mono ?_; rintro e w' ⟨rfl, rfl⟩))
      go_ret
      exact ⟨ret_bool HF.out.symm, BB.out⟩

theorem all_rows {n : Nat} {A : List (List Int)} (h : ∀ i y, i < A.length → A[i]? = some y → rowB n y = true) : A.all (rowB n) = true := by
  rw [List.all_eq_true]
  intro x hx
  obtain ⟨i, hi, rfl⟩ := List.getElem_of_mem hx
  exact h i _ hi (List.getElem?_eq_getElem hi)
theorem not_all_rows {n k : Nat} {A : List (List Int)} {zs : List Int} (h : A[k]? = some zs) (hz : rowB n zs = false) : A.all (rowB n) = false := by
  rw [List.all_eq_false]
  exact ⟨zs, List.mem_of_getElem? h, by simp [hz]⟩

set_option maxHeartbeats 1000000 in
theorem s_l09Is (w : World) (v : Value) (A : List (List Int)) (Bs : List Int) (ha : TabArg w v A Bs) :
    Calls Tryz.prog 84 #[v] w fun e w' => e = .returned (.bool (tabB A Bs)) ∧ Below w.heap.size w w' := by
  obtain ⟨va, vb, rfl, ha1, ha2⟩ := ha
  have BB := Lib.hid (below1 w (.cells #[va, vb] 37))
  have H1 := Lib.hid (ha1.below BB.out)
  have H2 := Lib.hid (ha2.below BB.out)
  obtain ⟨A1, c1, hva, g1, g2, g3⟩ := H1.out.open_
  obtain ⟨A2, c2, hvb, k1, k2, _⟩ := ha2.open_
  subst hva
  subst hvb
  have G3 := Lib.hid g3
  clear ha1 ha2 g3
  by_cases q1 : (Bs.length : Int) < (1 : Int)
  · have HF := Lib.hid (show tabB A Bs = false by simp [tabB, inR]; omega)
    go_enter Tryz.func84, Tryz.ntmps84
    go_wp2_with (go_at_call 133; refine (s_l01Numbers _ _ _ H2.out).mono ?_; rintro e w' ⟨rfl, rfl⟩)
    go_ret
    exact ⟨ret_bool HF.out.symm, BB.out⟩
  · by_cases q2 : (8 : Int) < (Bs.length : Int)
    · have HF := Lib.hid (show tabB A Bs = false by simp [tabB, inR]; omega)
      go_enter Tryz.func84, Tryz.ntmps84
      go_wp2_with (go_at_call 133; refine (s_l01Numbers _ _ _ H2.out).mono ?_; rintro e w' ⟨rfl, rfl⟩)
      go_ret
      exact ⟨ret_bool HF.out.symm, BB.out⟩
    · have hr : inR Bs.length 1 8 = true := by rw [inR_iff]; omega
      by_cases hl : A.length = Bs.length
      · have hd : (((A.length : Nat) : Int) != (Bs.length : Int)) = false := by simp [hl]
        have hle : A.length ≤ Bs.length := by omega
        have hle' : Bs.length ≤ A.length := by omega
        cases hn : nums Bs with
        | false =>
          have HF := Lib.hid (show tabB A Bs = false by simp [tabB, hn])
          clear hl hr
          go_enter Tryz.func84, Tryz.ntmps84
          go_wp2_with (go_at_call 133; refine (s_l01Numbers _ _ _ H2.out).mono ?_; rintro e w' ⟨rfl, rfl⟩)
          go_ret
          exact ⟨ret_bool HF.out.symm, BB.out⟩
        | true =>
          have HF := Lib.hid (show tabB A Bs = A.all (rowB Bs.length) by simp [tabB, hr, hl, hn])
          clear hl hr
          go_enter Tryz.func84, Tryz.ntmps84
          go_wp2_with (go_at_call 133; refine (s_l01Numbers _ _ _ H2.out).mono ?_; rintro e w' ⟨rfl, rfl⟩)
          go_loop [4] (fun i => ∃ k : Nat, k ≤ Bs.length ∧ i = .int .i64 k ∧ Hid (∀ i y, i < k → A[i]? = some y → rowB Bs.length y = true)) (fun i => Bs.length - (intOf i).toNat)
          case atStart => exact ⟨0, Nat.zero_le _, rfl, fun i y h => by omega⟩
          case round =>
            obtain ⟨k, hk, rfl, hI⟩ := hrel
            by_cases hlt : k < Bs.length
            · obtain ⟨ad, u, zs, rfl, hz, hu, hc⟩ := G3.out k (by omega)
              have HU := Lib.hid hu
              obtain ⟨A3, c3, rfl, _, _, _⟩ := hu.open_
              have HZ := Lib.hid hz
              have hka : (k : Int) < (A.length : Int) := by omega
              clear hz hu
              by_cases hl2 : zs.length = Bs.length
              · have hd2 : (((zs.length : Nat) : Int) != (Bs.length : Int)) = false := by simp [hl2]
                have HL2 := Lib.hid hl2
                clear hl2
                cases hn2 : nums zs with
                | false =>
                  go_wp2_with (go_at_call 133; refine (s_l01Numbers _ _ _ HU.out).mono ?_; rintro e w' ⟨rfl, rfl⟩)
                  go_ret
                  exact ⟨ret_bool (by rw [HF.out, not_all_rows HZ.out (by simp [rowB, hn2])]), BB.out⟩
                | true =>
                  go_wp2_with (go_at_call 133; refine (s_l01Numbers _ _ _ HU.out).mono ?_; rintro e w' ⟨rfl, rfl⟩)
                  go_round
                  case rel =>
                    refine ⟨k + 1, by omega, by go_num, fun i y hi hy => ?_⟩
                    by_cases e : i = k
                    · subst e
                      rw [HZ.out] at hy
                      cases hy
                      simp [rowB, hn2, HL2.out]
                    · exact hI.out i y (by omega) hy
                  case measure => simp [intOf]; omega
              · have hd2 : (((zs.length : Nat) : Int) != (Bs.length : Int)) = true := by simp; omega
                have HL2 := Lib.hid hl2
                clear hl2
                go_wp2_with (go_at_call 133; refine (s_l01Numbers _ _ _ HU.out).mono ?_; rintro e w' ⟨rfl, rfl⟩)
                go_ret
                exact ⟨ret_bool (by rw [HF.out, not_all_rows HZ.out (by simp [rowB]; intro h; exact absurd h HL2.out)]), BB.out⟩
            · have : k = Bs.length := by omega
              subst this
              go_wp2_with fail
              go_ret
              exact ⟨ret_bool (by rw [HF.out]; exact (all_rows fun i y hi hy => hI.out i y (by omega) hy).symm), BB.out⟩
      · have hd : (((A.length : Nat) : Int) != (Bs.length : Int)) = true := by simp; omega
        have HF := Lib.hid (show tabB A Bs = false by simp [tabB, hl])
        clear hl
        go_enter Tryz.func84, Tryz.ntmps84
        go_wp2_with (go_at_call 133; refine (s_l01Numbers _ _ _ H2.out).mono ?_; rintro e w' ⟨rfl, rfl⟩)
        go_ret
        exact ⟨ret_bool HF.out.symm, BB.out⟩
end Go.Proofs.YtofabikjjkapmaaGreat

/- The laws' marking and holding, at lists of lists and at tableaus. -/
set_option linter.unusedVariables false
set_option linter.unusedSimpArgs false
namespace Go.Proofs.YtofabikjjkapmaaGreat
open Go.RowKit

def tot (xss : List (List Int)) : Nat := xss.flatten.length
theorem tot_cons (zs : List Int) (r : List (List Int)) : tot (zs :: r) = zs.length + tot r := by simp [tot]
theorem RowsOwn.set {w w' : World} {B C : Nat} {e : TypeId} {vs : List Value} {xss : List (List Int)} {j : Nat} {u : Value} {zs : List Int} (h : RowsOwn w B C e vs xss) (hu : vs[j]? = some u) (hg : w.grownBy w' u.ownBlock) (hn : OwnInts w' B e u zs) : RowsOwn w' B C e vs (xss.set j zs) := by
  obtain ⟨h1, h2, h3⟩ := h
  refine ⟨by simp [h1], fun k u' zs' hu' hz' => ?_, h3⟩
  have hj := (List.getElem?_eq_some_iff.1 hu).1
  by_cases hk : k = j
  · subst hk
    rw [hu] at hu'
    obtain rfl : u = u' := by simpa using hu'
    have hz : xss[k]? = some (xss[k]'(by omega)) := List.getElem?_eq_getElem _
    rw [List.getElem?_set_self (by omega)] at hz'
    obtain rfl : zs = zs' := by simpa using hz'
    exact ⟨hn, (h2 k u _ hu hz).2⟩
  · rw [List.getElem?_set_ne (by omega)] at hz'
    have ho := h2 k u' zs' hu' hz'
    have hap : Apart u' u := by
      by_cases hlt : k < j
      · exact h3 k j u' u hlt hu' hu
      · exact (h3 j k u u' (by omega) hu hu').symm
    exact ⟨ho.1.kept hg hap, ho.2⟩

/-- no block has turned but those of the values vs -/
def Far (vs : List Value) (w w' : World) : Prop := ∀ b, b < w.heap.size → (∀ (i : Nat) (u : Value), vs[i]? = some u → u.ownBlock ≠ some b) → w'.heap[b]? = w.heap[b]?
theorem Far.refl (vs : List Value) (w : World) : Far vs w w := fun _ _ _ => rfl
theorem Far.grown {vs : List Value} {w w1 w2 : World} {j : Nat} {u : Value} (h : Far vs w w1) (hs : w.heap.size ≤ w1.heap.size) (hu : vs[j]? = some u) (hg : w1.grownBy w2 u.ownBlock) : Far vs w w2 :=
  fun b hb hn => (hg.block b (Nat.lt_of_lt_of_le hb hs) (fun e => hn j u hu e.symm)).trans (h b hb hn)
theorem Far.kept {vs : List Value} {w w' : World} {B C : Nat} {e : TypeId} {v : Value} {zs : List Int} (h : Far vs w w') (ho : OI w B C e v zs) (ha : ∀ (i : Nat) (u : Value), vs[i]? = some u → Apart u v) : OI w' B C e v zs :=
  ⟨⟨ho.1.1.of_block fun b hb => h b (ho.1.1.lt b hb) (fun i u hu e => (ha i u hu).elim (fun h1 => by rw [h1] at e; cases e) (fun h1 => h1 (e.trans hb.symm))), ho.1.2⟩, ho.2⟩

end Go.Proofs.YtofabikjjkapmaaGreat

