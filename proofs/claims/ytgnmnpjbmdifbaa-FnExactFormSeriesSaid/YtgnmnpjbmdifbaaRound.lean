/- One round of 'z.A = append(z.A, row)', in plain words of memory. No program in sight. -/
import Derived.Test.YtgnmnpjbmdifbaaLR
set_option linter.unusedVariables false
set_option linter.unusedSimpArgs false
namespace Go.Proofs.Ytgnmnpjbmdifbaa
open Go.RowKit

theorem Blk.grow {w w' : World} {g : Nat} {t : TypeId} {cs : Array Value} {v v' : Value} (h : Blk w g t cs) (hg : Grow w w' v v') (hne : v.ownBlock ≠ some g) : Blk w' g t cs :=
  (hg.1.block g h.lt (fun e => hne e.symm)).trans h
theorem Blk.both {w : World} {g : Nat} {t : TypeId} {cs : Array Value} {u : Value} (h : Blk w g t cs) (h0 : cs[0]? = some u) : w.cell? ⟨g, 0, none⟩ = some u ∧ w.frozen? ⟨g, 0, none⟩ = false := ⟨(h.cell 0).trans h0, h.frozen 0⟩

/-- the state of a tableau that is filled: block p holds it, the rows lie behind p, the weights before p -/
structure Fill (w0 w : World) (p : Nat) (va vb : Value) (vs : List Value) (N : Nat) (rows : List (List Int)) (Bs : List Int) : Prop where
  blk : Blk w p 29 #[va, vb]
  own : Own w (p + 1) tL va vs
  rows : RowsOwn w (p + 1) w.heap.size tI vs rows
  ws : OI w N p tI vb Bs
  le : w0.heap.size ≤ N
  below : Below w0.heap.size w0 w

section
variable {w0 wr w2 w3 : World} {p N : Nat} {va vb v1 r : Value} {vs : List Value} {rows : List (List Int)} {zs Bs : List Int}
theorem Fill.lt (h : Fill w0 wr p va vb vs N rows Bs) : p < wr.heap.size := h.blk.lt
theorem Fill.np (h : Fill w0 wr p va vb vs N rows Bs) : va.ownBlock ≠ some p := fun e => by have := h.own.ge p e; omega
theorem Fill.after (h : Fill w0 wr p va vb vs N rows Bs) (hb2 : Below wr.heap.size wr w2) : Blk w2 p 29 #[va, vb] := h.blk.below hb2 h.lt
theorem Fill.next (h : Fill w0 wr p va vb vs N rows Bs) (hp : w0.heap.size ≤ p) (hb2 : Below wr.heap.size wr w2) (ho2 : OwnInts w2 wr.heap.size tI r zs)
    (hown1 : Own w3 (p + 1) tL v1 (vs ++ [r])) (hgr : Grow w2 w3 va v1) :
    Fill w0 (w3.setCell ⟨p, 0, none⟩ v1) p v1 vb (vs ++ [r]) N (rows ++ [zs]) Bs := by
  have hsz : p + 1 ≤ wr.heap.size := h.lt
  have hs2 := hb2.size
  have hs3 := hgr.1.size
  have hO2 := h.own.below hb2
  have hK3 := (h.after hb2).grow hgr h.np
  have hR2 := ((h.rows.below hb2).mono (Nat.le_refl _) hs2).snoc (u := r) (zs := zs) ⟨ho2.mono hsz, ho2.1.lt⟩ (h.rows.apart (M := 0) (fun b hb => .inl (ho2.1.ge b hb)))
  have hR3 := hR2.other hgr.1 (fun j u hu => by
    have hj := (List.getElem?_eq_some_iff.1 hu).1
    have hx : (rows ++ [zs])[j]? = some ((rows ++ [zs])[j]'(by rw [← hR2.1]; exact hj)) := List.getElem?_eq_getElem _
    exact Own.ne_of_type (hR2.2.1 j u _ hu hx).1.1 hO2 (by decide))
  have hc := (Chg.refl p (p + 1) w3).setCell (p := ⟨p, 0, none⟩) (Nat.le_refl _) (by simp) v1
  have hw := h.ws.below hb2
  have hw3 : OI w3 N p tI vb Bs := ⟨hw.1.kept hgr.1 (by
    cases hv : vb.ownBlock with
    | none => exact .inl hv
    | some b => exact .inr fun e => by have h1 := hw.2 b hv; have h2 := hO2.ge b (e.symm.trans hv); omega), hw.2⟩
  have hse : (w3.setCell ⟨p, 0, none⟩ v1).heap.size = w3.heap.size := by simp [World.setCell]
  have hBw : Below w0.heap.size w0 w2 := h.below.trans (hb2.mono (by have := h.below.size; omega))
  refine ⟨?_, ?_, ?_, ?_, h.le, ?_⟩
  · have := hK3.set_ 0 v1
    simpa using this
  · exact hown1.of_block fun b hb => hc.block b (hown1.lt b hb) (.inr (hown1.ge b hb))
  · rw [hse]
    exact (hR3.mono (Nat.le_refl _) hs3).kept hc (.inr (Nat.le_refl _))
  · exact hw3.kept hc (.inl (Nat.le_refl _))
  · exact (hgr.below hBw (by have := h.below.size; omega) (fun b hb => by have := hO2.ge b hb; omega)).setCell (p := ⟨p, 0, none⟩) hp v1
/-- what is filled is an owned tableau -/
theorem Fill.tab (h : Fill w0 wr p va vb vs N rows Bs) (hN : N ≤ p) : OT wr N wr.heap.size (.agg #[va, vb]) rows Bs := by
  have hsz := h.lt
  exact OT.of_M' (M := p) hN (Nat.le_of_lt hsz) h.ws ⟨vs, h.own.mono (Nat.le_succ _), h.own.lt, h.rows.mono (Nat.le_succ _) (Nat.le_refl _)⟩
end
end Go.Proofs.Ytgnmnpjbmdifbaa
