/- Words of memory for sums of trees: lists of one's own of structs of a tree and a count. -/
import Derived.Test.YtbjeibcombjfgaaQf14
import Derived.Test.YtbjeibcombjfgaaQf13
set_option maxRecDepth 100000
set_option linter.unusedVariables false
set_option linter.unusedSimpArgs false
namespace Go.Proofs.Ytbjeibcombjfgaa
open Go.RowKit

abbrev tC : TypeId := 90
theorem T_cnt : ElemK Try.prog 91 90 (.agg #[.slice none 0 0, .int .i64 0]) 2 32 := ⟨Try.underlying91, by kernel_rfl, rfl, by omega, by omega⟩

theorem keepCell {w w' : World} {ad : Addr} {v : Value} (hb : Below w.heap.size w w') (h : w.cell? ad = some v) : w'.cell? ad = some v := by rw [hb.cell (World.block_lt_of_cell? w _ h)]; exact h
/-- the cells of a sum: trees in blocks from B on, and counts -/
def CtE (w : World) (B : Nat) (css : List (List Value)) (xs : List CT) : Prop := css.length = xs.length ∧ ∀ (k : Nat) (c : List Value) (x : CT), css[k]? = some c → xs[k]? = some x → ∃ u, c = [u, .int .i64 (x.2 : Nat)] ∧ OwnInts w B tI u (up x.1)
section
variable {w w' : World} {B : Nat} {css : List (List Value)} {xs : List CT}
theorem CtE.nil (w : World) (B : Nat) : CtE w B [] [] := ⟨rfl, fun k c x h => by simp at h⟩
theorem CtE.below (h : CtE w B css xs) (hb : Below w.heap.size w w') : CtE w' B css xs := ⟨h.1, fun k c x hc hx => by obtain ⟨u, e, ho⟩ := h.2 k c x hc hx; exact ⟨u, e, ho.below hb⟩⟩
theorem CtE.mono {B' : Nat} (h : CtE w B css xs) (hB : B' ≤ B) : CtE w B' css xs := ⟨h.1, fun k c x hc hx => by obtain ⟨u, e, ho⟩ := h.2 k c x hc hx; exact ⟨u, e, ho.mono hB⟩⟩
theorem CtE.kept {v : Value} {e : TypeId} (h : CtE w B css xs) (hg : w.grownBy w' v.ownBlock) (hb : BT w e v) (hne : tI ≠ e) : CtE w' B css xs := ⟨h.1, fun k c x hc hx => by obtain ⟨u, e, ho⟩ := h.2 k c x hc hx; exact ⟨u, e, ho.kept hg (ho.1.bt.ne hb hne)⟩⟩
theorem CtE.snoc {u : Value} {t : List Nat} {n : Nat} (h : CtE w B css xs) (hu : OwnInts w B tI u (up t)) : CtE w B (css ++ [[u, .int .i64 (n : Nat)]]) (xs ++ [(t, n)]) := by
  refine ⟨by simp [h.1], fun k c x hk hx => ?_⟩
  by_cases hlt : k < css.length
  · rw [List.getElem?_append_left hlt] at hk
    rw [List.getElem?_append_left (by rw [← h.1]; exact hlt)] at hx
    exact h.2 k c x hk hx
  · have hkl := (List.getElem?_eq_some_iff.1 hk).1
    simp at hkl
    have : k = css.length := by omega
    subst this
    rw [List.getElem?_append_right (Nat.le_refl _)] at hk
    rw [List.getElem?_append_right (by rw [h.1]; exact Nat.le_refl _), h.1] at hx
    simp at hk hx
    subst hk; subst hx
    exact ⟨u, rfl, hu⟩
end
def CtR (w : World) (B : Nat) (v : Value) (xs : List CT) : Prop := ∃ css, OwnK w B tC 2 v css ∧ CtE w B css xs
section
variable {w w' : World} {B : Nat} {v : Value} {xs : List CT}
theorem CtR.below (h : CtR w B v xs) (hb : Below w.heap.size w w') : CtR w' B v xs := by obtain ⟨css, h1, h2⟩ := h; exact ⟨css, h1.below hb, h2.below hb⟩
theorem CtR.mono {B' : Nat} (h : CtR w B v xs) (hB : B' ≤ B) : CtR w B' v xs := by obtain ⟨css, h1, h2⟩ := h; exact ⟨css, h1.mono hB, h2.mono hB⟩
theorem CtR.open_ (h : CtR w B v xs) : ∃ A c, v = .slice A xs.length c ∧ xs.length ≤ c ∧ c ≤ 9223372036854775807 := by
  obtain ⟨css, h1, h2⟩ := h
  have := h1.open_
  rwa [h2.1] at this
/-- the element at a place -/
theorem CtR.at_ {k : Nat} {t : List Nat} {n : Nat} (h : CtR w B v xs) (hx : xs[k]? = some (t, n)) : ∃ g cap A c, v = .slice (some ⟨g, 0, none⟩) xs.length cap ∧ w.cell? ⟨g, k * 2, none⟩ = some (.slice A t.length c) ∧ w.cell? ⟨g, k * 2 + 1, none⟩ = some (.int .i64 (n : Nat)) ∧ OwnInts w B tI (.slice A t.length c) (up t) := by
  obtain ⟨css, h1, h2⟩ := h
  have hk : k < css.length := by rw [h2.1]; exact (List.getElem?_eq_some_iff.1 hx).1
  have hc : css[k]? = some (css[k]'hk) := List.getElem?_eq_getElem _
  obtain ⟨u, e, ho⟩ := h2.2 k _ _ hc hx
  rw [e] at hc
  obtain ⟨g, cap, hv, hc0⟩ := h1.cell (j := 0) hc rfl
  obtain ⟨A, c, hu, -, -, -⟩ := ho.ints.open_
  rw [up_len] at hu
  subst hv
  have hc1 := h1.cellAt (j := 1) hc rfl
  subst hu
  exact ⟨g, cap, A, c, by rw [h2.1], hc0, hc1, ho⟩
/-- one element more -/
theorem CtR.snoc {css : List (List Value)} {u v' : Value} {t : List Nat} {n : Nat} (h1 : OwnK w B tC 2 v css) (h2 : CtE w B css xs) (hu : OwnInts w B tI u (up t)) (ho : OwnK w' B tC 2 v' (css ++ [[u, .int .i64 (n : Nat)]])) (hg : Grow w w' v v') : CtR w' B v' (xs ++ [(t, n)]) :=
  ⟨_, ho, (h2.snoc hu).kept hg.1 h1.bt (by decide)⟩
end
end Go.Proofs.Ytbjeibcombjfgaa

