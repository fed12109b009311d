/- Words of memory: the reference's cuts by places. No walk. -/
import Derived.Test.YtdjhfeaimmpmhaaGreatZm17
import Derived.Test.YtdjhfeaimmpmhaaGreatZm18
import Derived.Test.YtdjhfeaimmpmhaaGreatZm19
set_option maxRecDepth 100000
set_option linter.unusedVariables false
set_option linter.unusedSimpArgs false
namespace Go.Proofs.YtdjhfeaimmpmhaaGreat
open Go.RowKit

abbrev t7 : TypeId := 126
abbrev t7l : TypeId := 124
theorem T_7 : ElemK Tryz.prog 124 126 (.agg #[.int .i64 0, .slice none 0 0, .int .i64 0]) 3 40 := ⟨Tryz.underlying124, by kernel_rfl, rfl, by omega, by omega⟩
theorem T_7l : ElemT Tryz.prog 81 124 (.slice none 0 0) 24 := ⟨Tryz.underlying81, by kernel_rfl, rfl, by omega⟩
def M7D (w : World) (B : Nat) (c : List Value) (x : MC) : Prop := ∃ s, c = [.int .i64 (x.2 : Nat), s, .int .i64 (x.1.2 : Nat)] ∧ OwnInts w B tI s (up x.1.1)
def M7s (w : World) (B : Nat) (css : List (List Value)) (xs : List MC) : Prop := css.length = xs.length ∧ ∀ (i : Nat) (c : List Value) (x : MC), css[i]? = some c → xs[i]? = some x → M7D w B c x
theorem M7D.below {w w' : World} {B : Nat} {c : List Value} {x : MC} (h : M7D w B c x) (hb : Below w.heap.size w w') : M7D w' B c x := by
  obtain ⟨s, rfl, h⟩ := h
  exact ⟨s, rfl, h.below hb⟩
theorem M7D.mono {w : World} {B B' : Nat} {c : List Value} {x : MC} (h : M7D w B c x) (hB : B' ≤ B) : M7D w B' c x := by
  obtain ⟨s, rfl, h⟩ := h
  exact ⟨s, rfl, h.mono hB⟩
theorem M7D.kept {w w' : World} {B : Nat} {c : List Value} {x : MC} {e : TypeId} {v : Value} (h : M7D w B c x) (hg : w.grownBy w' v.ownBlock) (hb : BT w e v) (hne : tI ≠ e) : M7D w' B c x := by
  obtain ⟨s, rfl, h⟩ := h
  exact ⟨s, rfl, h.kept hg (h.1.bt.ne hb hne)⟩
section
variable {w w' : World} {B : Nat} {css : List (List Value)} {xs : List MC}
theorem M7s.nil (w : World) (B : Nat) : M7s w B [] [] := ⟨rfl, fun i c x h => by simp at h⟩
theorem M7s.below (h : M7s w B css xs) (hb : Below w.heap.size w w') : M7s w' B css xs := ⟨h.1, fun i c x hc hx => (h.2 i c x hc hx).below hb⟩
theorem M7s.mono {B' : Nat} (h : M7s w B css xs) (hB : B' ≤ B) : M7s w B' css xs := ⟨h.1, fun i c x hc hx => (h.2 i c x hc hx).mono hB⟩
theorem M7s.kept {v : Value} {e : TypeId} (h : M7s w B css xs) (hg : w.grownBy w' v.ownBlock) (hb : BT w e v) (hne : tI ≠ e) : M7s w' B css xs := ⟨h.1, fun i c x hc hx => (h.2 i c x hc hx).kept hg hb hne⟩
theorem M7s.snoc {c : List Value} {x : MC} (h : M7s w B css xs) (hx : M7D w B c x) : M7s w B (css ++ [c]) (xs ++ [x]) := by
  refine ⟨by simp [h.1], fun i c' x' hc hx' => ?_⟩
  by_cases hlt : i < css.length
  · rw [List.getElem?_append_left hlt] at hc
    rw [List.getElem?_append_left (by rw [← h.1]; exact hlt)] at hx'
    exact h.2 i c' x' hc hx'
  · have hkl := (List.getElem?_eq_some_iff.1 hc).1
    simp at hkl
    have hi : i = css.length := by omega
    rw [hi] at hc
    rw [hi, h.1] at hx'
    simp at hc hx'
    subst hc hx'
    exact hx
end
/-- a list of cuts by places, one's own -/
def M7L (w : World) (B : Nat) (v : Value) (xs : List MC) : Prop := ∃ css, OwnK w B t7 3 v css ∧ M7s w B css xs
theorem M7L.below {w w' : World} {B : Nat} {v : Value} {xs : List MC} (h : M7L w B v xs) (hb : Below w.heap.size w w') : M7L w' B v xs := by
  obtain ⟨css, h1, h2⟩ := h
  exact ⟨css, h1.below hb, h2.below hb⟩
theorem M7L.kept {w w' : World} {B : Nat} {v : Value} {xs : List MC} {e : TypeId} {u : Value} (h : M7L w B v xs) (hg : w.grownBy w' u.ownBlock) (hb : BT w e u) (h1 : tI ≠ e) (h2 : t7 ≠ e) : M7L w' B v xs := by
  obtain ⟨css, h3, h4⟩ := h
  exact ⟨css, h3.kept hg (h3.bt.ne hb h2), h4.kept hg hb h1⟩
/-- a list of such lists: read only -/
def M7T (w : World) (B : Nat) (us : List Value) (xss : List (List MC)) : Prop := us.length = xss.length ∧ ∀ (i : Nat) (u : Value) (x : List MC), us[i]? = some u → xss[i]? = some x → M7L w B u x
section
variable {w w' : World} {B : Nat} {us : List Value} {xss : List (List MC)}
theorem M7T.nil (w : World) (B : Nat) : M7T w B [] [] := ⟨rfl, fun i c x h => by simp at h⟩
theorem M7T.below (h : M7T w B us xss) (hb : Below w.heap.size w w') : M7T w' B us xss := ⟨h.1, fun i c x hc hx => (h.2 i c x hc hx).below hb⟩
theorem M7T.kept {v : Value} {e : TypeId} (h : M7T w B us xss) (hg : w.grownBy w' v.ownBlock) (hb : BT w e v) (h1 : tI ≠ e) (h2 : t7 ≠ e) : M7T w' B us xss := ⟨h.1, fun i c x hc hx => (h.2 i c x hc hx).kept hg hb h1 h2⟩
theorem M7T.snoc {u : Value} {x : List MC} (h : M7T w B us xss) (hx : M7L w B u x) : M7T w B (us ++ [u]) (xss ++ [x]) := by
  refine ⟨by simp [h.1], fun i c' x' hc hx' => ?_⟩
  by_cases hlt : i < us.length
  · rw [List.getElem?_append_left hlt] at hc
    rw [List.getElem?_append_left (by rw [← h.1]; exact hlt)] at hx'
    exact h.2 i c' x' hc hx'
  · have hkl := (List.getElem?_eq_some_iff.1 hc).1
    simp at hkl
    have hi : i = us.length := by omega
    rw [hi] at hc
    rw [hi, h.1] at hx'
    simp at hc hx'
    subst hc hx'
    exact hx
end
theorem M7s.at_ {w : World} {B : Nat} {css : List (List Value)} {xs : List MC} {i : Nat} {x : MC} (h : M7s w B css xs) (hx : xs[i]? = some x) : ∃ c, css[i]? = some c ∧ M7D w B c x := by
  have hi := (List.getElem?_eq_some_iff.1 hx).1
  have hc : css[i]? = some (css[i]'(by rw [h.1]; exact hi)) := List.getElem?_eq_getElem _
  exact ⟨_, hc, h.2 i _ x hc hx⟩
/-- the parts of a partition or a cut in memory -/
theorem part7_at {w : World} {B : Nat} {e : TypeId} {A2 : Option Addr} {c2 : Nat} {css : List (List Value)} {xs : List MC} {j : Nat} {x : MC} (h : OwnK w B e 3 (.slice A2 css.length c2) css) (hm : M7s w B css xs) (hx : xs[j]? = some x) :
    ∃ go As cs, A2 = some ⟨go, 0, none⟩ ∧ OwnInts w B tI (.slice As x.1.1.length cs) (up x.1.1) ∧ w.cell? ⟨go, j * 3, none⟩ = some (.int .i64 (x.2 : Nat)) ∧ w.cell? ⟨go, j * 3 + 1, none⟩ = some (.slice As x.1.1.length cs) ∧ w.cell? ⟨go, j * 3 + 2, none⟩ = some (.int .i64 (x.1.2 : Nat)) := by
  obtain ⟨c, hc, s, rfl, hs⟩ := hm.at_ hx
  obtain ⟨As, cs, rfl, -, -, -⟩ := hs.ints.open_
  rw [up_len] at hs hc
  obtain ⟨go, cg, heo, hg0⟩ := h.cell (j := 0) hc rfl
  simp only [Value.slice.injEq] at heo
  obtain ⟨rfl, -, rfl⟩ := heo
  refine ⟨go, As, cs, rfl, hs, hg0, ?_, ?_⟩
  · obtain ⟨g', c', he', h'⟩ := h.cell (j := 1) hc rfl; simp only [Value.slice.injEq, Option.some.injEq, Addr.mk.injEq, and_true, true_and] at he'; rw [he'.1]; exact h'
  · obtain ⟨g', c', he', h'⟩ := h.cell (j := 2) hc rfl; simp only [Value.slice.injEq, Option.some.injEq, Addr.mk.injEq, and_true, true_and] at he'; rw [he'.1]; exact h'
/-- what l07Cuts returns -/
def C7 (w : World) (B : Nat) (v : Value) : Prop := ∃ us, Own w B t7l v us ∧ M7T w B us ([] :: CTab)
theorem CTab_len : CTab.length = 37 := rfl
theorem C7.below {w w' : World} {B : Nat} {v : Value} (h : C7 w B v) (hb : Below w.heap.size w w') : C7 w' B v := by
  obtain ⟨us, h1, h2⟩ := h
  exact ⟨us, h1.below hb, h2.below hb⟩
/-- the list at place p -/
theorem C7.at_ {w : World} {B : Nat} {v : Value} (h : C7 w B v) : ∃ A c, v = .slice A 38 c ∧ ∀ i, i < 37 → ∃ ad css A2 c2, A = some ad ∧ OwnK w B t7 3 (.slice A2 css.length c2) css ∧ M7s w B css (CTab.getD i []) ∧ w.cell? (ad.add (i + 1)) = some (.slice A2 css.length c2) := by
  obtain ⟨us, h1, h2⟩ := h
  have hl : us.length = 38 := h2.1
  obtain ⟨A, c, rfl, -, -⟩ := h1.cells.open_
  rw [hl]
  refine ⟨A, c, rfl, fun i hi => ?_⟩
  obtain ⟨u, hu⟩ : ∃ u, us[i + 1]? = some u := ⟨_, List.getElem?_eq_getElem (by rw [hl]; omega)⟩
  have hc : ([] :: CTab)[i + 1]? = some (CTab.getD i []) := by
    rw [List.getElem?_cons_succ, List.getD_eq_getElem?_getD, List.getElem?_eq_getElem (by rw [CTab_len]; exact hi)]
    rfl
  obtain ⟨css, h3, h4⟩ := h2.2 (i + 1) u (CTab.getD i []) hu hc
  obtain ⟨A2, c2, rfl, -, -⟩ := h3.open_
  obtain ⟨ad, n', c', he, hcc⟩ := h1.cells.at_ hu
  simp only [Value.slice.injEq] at he
  exact ⟨ad, css, A2, c2, he.1, h3, h4, hcc⟩
end Go.Proofs.YtdjhfeaimmpmhaaGreat

