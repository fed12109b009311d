/- One round of 'z.A = append(z.A, row); z.B = append(z.B, x)', in plain words of memory. No program in sight. -/
import Derived.Test.YtgnmnpjbmdifbaaRound
set_option linter.unusedVariables false
set_option linter.unusedSimpArgs false
namespace Go.Proofs.Ytgnmnpjbmdifbaa
open Go.RowKit

/-- the state of a tableau that is filled, rows and weights in turn: block p holds it, all else lies behind p -/
structure Fill2 (w0 w : World) (p : Nat) (va vb : Value) (vs : List Value) (rows : List (List Int)) (Bs : List Int) : Prop where
  blk : Blk w p 29 #[va, vb]
  own : Own w (p + 1) tL va vs
  rows : RowsOwn w (p + 1) w.heap.size tI vs rows
  ws : OwnInts w (p + 1) tI vb Bs
  ap : ∀ (k : Nat) (u : Value), vs[k]? = some u → Apart u vb
  below : Below w0.heap.size w0 w

section
variable {w0 w w' w1 : World} {p : Nat} {va vb v1 r : Value} {vs : List Value} {rows : List (List Int)} {zs Bs : List Int} {z : Int}
theorem Fill2.lt (h : Fill2 w0 w p va vb vs rows Bs) : p < w.heap.size := h.blk.lt
theorem Fill2.npA (h : Fill2 w0 w p va vb vs rows Bs) : va.ownBlock ≠ some p := fun e => by have := h.own.ge p e; omega
theorem Fill2.npB (h : Fill2 w0 w p va vb vs rows Bs) : vb.ownBlock ≠ some p := fun e => by have := h.ws.1.ge p e; omega
theorem Fill2.step (h : Fill2 w0 w p va vb vs rows Bs) (hb : Below w.heap.size w w') : Fill2 w0 w' p va vb vs rows Bs :=
  ⟨h.blk.below hb h.lt, h.own.below hb, (h.rows.below hb).mono (Nat.le_refl _) hb.size, h.ws.below hb, h.ap, h.below.trans (hb.mono h.below.size)⟩
theorem Fill2.tab (h : Fill2 w0 w p va vb vs rows Bs) : OT w (p + 1) w.heap.size (.agg #[va, vb]) rows Bs :=
  ⟨va, vb, vs, rfl, h.own, h.own.lt, h.rows, ⟨h.ws, h.ws.1.lt⟩, h.ap⟩
/-- the rows grow: r was made since w0', behind the weights -/
theorem Fill2.nextA (h : Fill2 w0 w p va vb vs rows Bs) (hp : w0.heap.size ≤ p) (hr : OI w (p + 1) w.heap.size tI r zs) (hap : ∀ (k : Nat) (u : Value), vs[k]? = some u → Apart u r) (hrb : Apart r vb)
    (hown : Own w1 (p + 1) tL v1 (vs ++ [r])) (hgr : Grow w w1 va v1) :
    Fill2 w0 (w1.setCell ⟨p, 0, none⟩ v1) p v1 vb (vs ++ [r]) (rows ++ [zs]) Bs := by
  have hs := hgr.1.size
  have hlt := h.lt
  have hK := h.blk.grow hgr h.npA
  have hR := h.rows.snoc hr hap
  have hR3 := hR.other hgr.1 (fun j u hu => by
    have hj := (List.getElem?_eq_some_iff.1 hu).1
    have hx : (rows ++ [zs])[j]? = some ((rows ++ [zs])[j]'(by rw [← hR.1]; exact hj)) := List.getElem?_eq_getElem _
    exact Own.ne_of_type (hR.2.1 j u _ hu hx).1.1 h.own (by decide))
  have hw := h.ws.kept hgr.1 (Own.ne_of_type h.ws.1 h.own (by decide))
  have hc := (Chg.refl p (p + 1) w1).setCell (p := ⟨p, 0, none⟩) (Nat.le_refl _) (by simp) v1
  have hse : (w1.setCell ⟨p, 0, none⟩ v1).heap.size = w1.heap.size := by simp [World.setCell]
  refine ⟨?_, ?_, ?_, ?_, ?_, ?_⟩
  · have := hK.set_ 0 v1
    simpa using this
  · exact hown.of_block fun b hb => hc.block b (hown.lt b hb) (.inr (hown.ge b hb))
  · rw [hse]
    exact (hR3.mono (Nat.le_refl _) hs).kept hc (.inr (Nat.le_refl _))
  · exact ⟨hw.1.of_block fun b hb => hc.block b (hw.1.lt b hb) (.inr (hw.1.ge b hb)), hw.2⟩
  · intro k u hu
    by_cases hk : k < vs.length
    · rw [List.getElem?_append_left hk] at hu
      exact h.ap k u hu
    · have hj := (List.getElem?_eq_some_iff.1 hu).1
      simp at hj
      have : k = vs.length := by omega
      subst this
      simp at hu
      subst hu
      exact hrb
  · exact (hgr.below h.below h.below.size (fun b hb => by have := h.own.ge b hb; omega)).setCell (p := ⟨p, 0, none⟩) hp v1
/-- the weights grow -/
theorem Fill2.nextB (h : Fill2 w0 w p va vb vs rows Bs) (hp : w0.heap.size ≤ p) (hz : In64 z)
    (hown : Own w1 (p + 1) tI v1 (ints Bs ++ [.int .i64 z])) (hgr : Grow w w1 vb v1) :
    Fill2 w0 (w1.setCell ⟨p, 1, none⟩ v1) p va v1 vs rows (Bs ++ [z]) := by
  have hs := hgr.1.size
  have hlt := h.lt
  have hK := h.blk.grow hgr h.npB
  have hO := h.own.kept hgr.1 (Own.ne_of_type h.own h.ws.1 (by decide))
  have hR := h.rows.other hgr.1 h.ap
  have hc := (Chg.refl p (p + 1) w1).setCell (p := ⟨p, 1, none⟩) (Nat.le_refl _) (by simp) v1
  have hse : (w1.setCell ⟨p, 1, none⟩ v1).heap.size = w1.heap.size := by simp [World.setCell]
  refine ⟨?_, ?_, ?_, ?_, ?_, ?_⟩
  · have := hK.set_ 1 v1
    simpa using this
  · exact hO.of_block fun b hb => hc.block b (hO.lt b hb) (.inr (hO.ge b hb))
  · rw [hse]
    exact (hR.mono (Nat.le_refl _) hs).kept hc (.inr (Nat.le_refl _))
  · refine ⟨?_, fun y hy => ?_⟩
    · have h2 := hown.of_block (w' := w1.setCell ⟨p, 1, none⟩ v1) fun b hb => hc.block b (hown.lt b hb) (.inr (hown.ge b hb))
      simpa [ints] using h2
    · rcases List.mem_append.1 hy with hy | hy
      · exact h.ws.2 y hy
      · simp at hy; subst hy; exact hz
  · intro k u hu
    have hx : rows[k]? = some (rows[k]'(by rw [← h.rows.1]; exact (List.getElem?_eq_some_iff.1 hu).1)) := List.getElem?_eq_getElem _
    have ho := h.rows.2.1 k u _ hu hx
    rcases hgr.2 with e | ⟨g, e, hge⟩
    · have := h.ap k u hu
      unfold Apart at this ⊢
      rw [e]
      exact this
    · unfold Apart
      cases hb : u.ownBlock with
      | none => exact .inl rfl
      | some b =>
        refine .inr fun e2 => ?_
        rw [e] at e2
        have := ho.2 b hb
        simp at e2
        omega
  · exact (hgr.below h.below h.below.size (fun b hb => by have := h.ws.1.ge b hb; omega)).setCell (p := ⟨p, 1, none⟩) hp v1
end
end Go.Proofs.Ytgnmnpjbmdifbaa
