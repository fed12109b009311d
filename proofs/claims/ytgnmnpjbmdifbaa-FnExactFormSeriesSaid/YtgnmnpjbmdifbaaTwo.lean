/- Rows and numbers that grow side by side, in plain words of memory. No program in sight. -/
import Derived.Test.YtgnmnpjbmdifbaaRound2
set_option linter.unusedVariables false
set_option linter.unusedSimpArgs false
namespace Go.Proofs.Ytgnmnpjbmdifbaa
open Go.RowKit

/-- rows va and numbers vb of one's own, all made since N -/
structure Two (w : World) (N : Nat) (va vb : Value) (vs : List Value) (rows : List (List Int)) (Bs : List Int) : Prop where
  own : Own w N tL va vs
  rows : RowsOwn w N w.heap.size tI vs rows
  ws : OwnInts w N tI vb Bs
  ap : ∀ (k : Nat) (u : Value), vs[k]? = some u → Apart u vb

section
variable {w w' w1 : World} {N p q : Nat} {va vb v1 r : Value} {vs : List Value} {rows : List (List Int)} {zs Bs : List Int} {z : Int}
theorem Two.nil (w : World) (N : Nat) : Two w N (.slice none 0 0) (.slice none 0 0) [] [] [] :=
  ⟨Own.nil _ _ _, RowsOwn.nil _ _ _ _, OwnInts.nil _ _ _, fun k u hu => by simp at hu⟩
theorem Two.step (h : Two w N va vb vs rows Bs) (hb : Below w.heap.size w w') : Two w' N va vb vs rows Bs :=
  ⟨h.own.below hb, (h.rows.below hb).mono (Nat.le_refl _) hb.size, h.ws.below hb, h.ap⟩
theorem Two.kept (h : Two w N va vb vs rows Bs) (hc : Chg p q w w') (hq : q ≤ N) : Two w' N va vb vs rows Bs :=
  ⟨h.own.of_block fun b hb => hc.block b (h.own.lt b hb) (.inr (Nat.le_trans hq (h.own.ge b hb))), (h.rows.mono (Nat.le_refl _) hc.size).kept hc (.inr hq), ⟨h.ws.1.of_block fun b hb => hc.block b (h.ws.1.lt b hb) (.inr (Nat.le_trans hq (h.ws.1.ge b hb))), h.ws.2⟩, h.ap⟩
theorem Two.tab (h : Two w N va vb vs rows Bs) : OT w N w.heap.size (.agg #[va, vb]) rows Bs :=
  ⟨va, vb, vs, rfl, h.own, h.own.lt, h.rows, ⟨h.ws, h.ws.1.lt⟩, h.ap⟩
/-- the rows grow by a list r of one's own -/
theorem Two.addA (h : Two w N va vb vs rows Bs) (hr : OI w N w.heap.size tI r zs) (hap : ∀ (k : Nat) (u : Value), vs[k]? = some u → Apart u r) (hrb : Apart r vb)
    (hown : Own w1 N tL v1 (vs ++ [r])) (hgr : Grow w w1 va v1) : Two w1 N v1 vb (vs ++ [r]) (rows ++ [zs]) Bs := by
  have hs := hgr.1.size
  have hR := h.rows.snoc hr hap
  have hR3 := hR.other hgr.1 (fun j u hu => by
    have hj := (List.getElem?_eq_some_iff.1 hu).1
    have hx : (rows ++ [zs])[j]? = some ((rows ++ [zs])[j]'(by rw [← hR.1]; exact hj)) := List.getElem?_eq_getElem _
    exact Own.ne_of_type (hR.2.1 j u _ hu hx).1.1 h.own (by decide))
  have hw := h.ws.kept hgr.1 (Own.ne_of_type h.ws.1 h.own (by decide))
  refine ⟨hown, hR3.mono (Nat.le_refl _) hs, hw, ?_⟩
  intro k u hu
  by_cases hk : k < vs.length
  · rw [List.getElem?_append_left hk] at hu
    exact h.ap k u hu
  · have hj := (List.getElem?_eq_some_iff.1 hu).1
    simp at hj
    have : k = vs.length := by omega
    subst this
    simp at hu
    subst hu
    exact hrb
/-- the rows grow by a list that was made after all else -/
theorem Two.addA' (h : Two w N va vb vs rows Bs) (hb : Below w.heap.size w w') (hN : N ≤ w.heap.size) (ho : OwnInts w' w.heap.size tI r zs)
    (hown : Own w1 N tL v1 (vs ++ [r])) (hgr : Grow w' w1 va v1) : Two w1 N v1 vb (vs ++ [r]) (rows ++ [zs]) Bs := by
  refine (h.step hb).addA ⟨ho.mono hN, ho.1.lt⟩ (h.rows.apart (M := 0) (fun b hb => .inl (ho.1.ge b hb))) ?_ hown hgr
  unfold Apart
  cases hr : r.ownBlock with
  | none => exact .inl rfl
  | some b =>
    refine .inr fun e => ?_
    have h1 := ho.1.ge b hr
    have h2 := h.ws.1.lt b e.symm
    omega
/-- the numbers grow -/
theorem Two.addB (h : Two w N va vb vs rows Bs) (hz : In64 z) (hown : Own w1 N tI v1 (ints Bs ++ [.int .i64 z])) (hgr : Grow w w1 vb v1) : Two w1 N va v1 vs rows (Bs ++ [z]) := by
  have hs := hgr.1.size
  have hO := h.own.kept hgr.1 (Own.ne_of_type h.own h.ws.1 (by decide))
  have hR := h.rows.other hgr.1 h.ap
  refine ⟨hO, hR.mono (Nat.le_refl _) hs, ⟨by simpa [ints] using hown, fun y hy => ?_⟩, ?_⟩
  · rcases List.mem_append.1 hy with hy | hy
    · exact h.ws.2 y hy
    · simp at hy; subst hy; exact hz
  · intro k u hu
    have hx : rows[k]? = some (rows[k]'(by rw [← h.rows.1]; exact (List.getElem?_eq_some_iff.1 hu).1)) := List.getElem?_eq_getElem _
    have ho := h.rows.2.1 k u _ hu hx
    rcases hgr.2 with e | ⟨g, e, hge⟩
    · have := h.ap k u hu
      unfold Apart at this ⊢
      rw [e]
      exact this
    · unfold Apart
      cases hb : u.ownBlock with
      | none => exact .inl rfl
      | some b =>
        refine .inr fun e2 => ?_
        rw [e] at e2
        have := ho.2 b hb
        simp at e2
        omega
theorem Two.npA (h : Two w N va vb vs rows Bs) (hp : p < N) : va.ownBlock ≠ some p := fun e => by have := h.own.ge p e; omega
theorem Two.npB (h : Two w N va vb vs rows Bs) (hp : p < N) : vb.ownBlock ≠ some p := fun e => by have := h.ws.1.ge p e; omega
end
section
variable {w0 w w' w1 : World} {p : Nat} {va vb v1 r : Value} {vs : List Value} {rows : List (List Int)} {zs Bs : List Int}
/-- the rows grow by a list that was made after all else -/
theorem Fill2.nextA' (h : Fill2 w0 w p va vb vs rows Bs) (hp : w0.heap.size ≤ p) (hb : Below w.heap.size w w') (ho : OwnInts w' w.heap.size tI r zs)
    (hown : Own w1 (p + 1) tL v1 (vs ++ [r])) (hgr : Grow w' w1 va v1) :
    Fill2 w0 (w1.setCell ⟨p, 0, none⟩ v1) p v1 vb (vs ++ [r]) (rows ++ [zs]) Bs := by
  refine (h.step hb).nextA hp ⟨ho.mono h.lt, ho.1.lt⟩ (h.rows.apart (M := 0) (fun b hb => .inl (ho.1.ge b hb))) ?_ hown hgr
  unfold Apart
  cases hr : r.ownBlock with
  | none => exact .inl rfl
  | some b =>
    refine .inr fun e => ?_
    have h1 := ho.1.ge b hr
    have h2 := h.ws.1.lt b e.symm
    omega
end
section
variable {w0 w w9 : World} {p : Nat} {va vb v6 v9 : Value} {vs : List Value} {rows : List (List Int)} {Bs : List Int}
theorem Fill2.two (h : Fill2 w0 w p va vb vs rows Bs) : Two w (p + 1) va vb vs rows Bs := ⟨h.own, h.rows, h.ws, h.ap⟩
/-- both are stored into the block p -/
theorem Two.close (h : Two w9 (p + 1) v6 v9 vs rows Bs) (hk : Blk w9 p 29 #[va, vb]) (hb : Below w0.heap.size w0 w9) (hp : w0.heap.size ≤ p) :
    Fill2 w0 ((w9.setCell ⟨p, 0, none⟩ v6).setCell ⟨p, 1, none⟩ v9) p v6 v9 vs rows Bs := by
  have hc := ((Chg.refl p (p + 1) w9).setCell (p := ⟨p, 0, none⟩) (Nat.le_refl _) (by simp) v6).setCell (p := ⟨p, 1, none⟩) (Nat.le_refl _) (by simp) v9
  have ht := h.kept hc (Nat.le_refl _)
  exact ⟨by have := (hk.set_ 0 v6).set_ 1 v9; simpa using this, ht.own, ht.rows, ht.ws, ht.ap, (hb.setCell (p := ⟨p, 0, none⟩) hp v6).setCell (p := ⟨p, 1, none⟩) hp v9⟩
end
end Go.Proofs.Ytgnmnpjbmdifbaa
