/- Walk: substituted of the program. | Walk: convolve of the program. | Words of memory: the reference's cuts by places. No walk. | Walk: l07Conv of the reference. | Walks: l03Nodes, l05Compare, l05Order, l03Root, l03Branches, a copy of a list of lists, l03Times of the reference. | Walks: l05Put of the reference. | Walks: l03Root, l03Branches, a copy of a list of lists, l03Times of the reference. | Walk: l05Times of the reference. | Walks: l05Forest and l05Tree of the reference. | Walk: l05Cuts of the reference. | Walk: l07Cuts of the reference. | Walks: ReducedOrder, FreeNumbersOf of the program. | Walks: l16Piece, l16Pieces of the reference. | Walk: l16Pieces of the reference. | Walk: the reference's substitution. | Walk: mapPartitions of the program. | Walks: FirstError of the program and of the reference. | Walks: the codes of two maps the first of which has to be infinitesimal, of the program and of the reference; SubstituteMap of both. | A region that draws its order: first operations that yield one value each in every world of a class S, in whatever order; then a tail in one order, which may write. No program in sight. | Walk: substitutionInverse of the program. (printed by ivgen.py) | Walk: intoMap of the program. (printed by ivgen.py) | Walk: the reference's inverse by substitution. | Walk: l17Fit of the reference: the map whose substitution is another one, by numbers of nodes. | Walks: SubstitutionInverse, modifiedMap, ModifiedMap, ModifyingMap, ErrorMap of the program and of the reference. | Walks: modifiedMap, ModifiedMap, ModifyingMap of the program and of the reference. | Walks: CommuteTo of the program and of the reference. | Walk: valueOf of the program at lists of any length. | Walk: inverseMap of the program. | Walk: l07Unit and l07Inverse of the reference. -/
import Derived.Test.YtofabikjjkapmaaGreatSt18
import Derived.Test.YtofabikjjkapmaaGreatSt24
import Derived.Test.YtofabikjjkapmaaGreatSt15
import Derived.Test.YtofabikjjkapmaaGreatSt9
import Derived.Test.YtofabikjjkapmaaGreatSt16
import Derived.Test.YtofabikjjkapmaaGreatSt14
import Derived.Test.YtofabikjjkapmaaGreatSt10
import Derived.Test.YtofabikjjkapmaaGreatSt5
import Derived.Test.YtofabikjjkapmaaGreatSt12
import Derived.Test.YtofabikjjkapmaaGreatSt13
import Derived.Deep.CutRange
import Derived.Deep.CutBlock
import Derived.Deep.DeepCutAuto
import Derived.Test.YtofabikjjkapmaaGreatSt17
import Derived.Test.YtofabikjjkapmaaGreatSt19
import Derived.StillTail
import Derived.Test.YtofabikjjkapmaaGreatSt6
import Derived.Test.YtofabikjjkapmaaGreatSt3
set_option maxRecDepth 100000
set_option linter.unusedVariables false
set_option linter.unusedSimpArgs false
namespace Go.Proofs.YtofabikjjkapmaaGreat
open Go.RowKit

theorem Mcs.at_ {w : World} {B : Nat} {css : List (List Value)} {xs : List MC} {i : Nat} {x : MC} (h : Mcs w B css xs) (hx : xs[i]? = some x) : ∃ c, css[i]? = some c ∧ McD w B c x := by
  have hi := (List.getElem?_eq_some_iff.1 hx).1
  have hc : css[i]? = some (css[i]'(by rw [h.1]; exact hi)) := List.getElem?_eq_getElem _
  exact ⟨_, hc, h.2 i _ x hc hx⟩
/-- the parts of a partition or a cut in memory -/
theorem part_at {w : World} {B : Nat} {e : TypeId} {A2 : Option Addr} {c2 : Nat} {css : List (List Value)} {xs : List MC} {j : Nat} {x : MC} (h : OwnK w B e 3 (.slice A2 css.length c2) css) (hm : Mcs w B css xs) (hx : xs[j]? = some x) :
    ∃ go As cs, A2 = some ⟨go, 0, none⟩ ∧ OwnInts w B tN (.slice As x.1.1.length cs) (up x.1.1) ∧ w.cell? ⟨go, j * 3, none⟩ = some (.int .i64 (x.2 : Nat)) ∧ w.cell? ⟨go, j * 3 + 1, none⟩ = some (.slice As x.1.1.length cs) ∧ w.cell? ⟨go, j * 3 + 2, none⟩ = some (.int .i64 (x.1.2 : Nat)) := by
  obtain ⟨c, hc, s, rfl, hs⟩ := hm.at_ hx
  obtain ⟨As, cs, rfl, -, -, -⟩ := hs.ints.open_
  rw [up_len] at hs hc
  obtain ⟨go, cg, heo, hg0⟩ := h.cell (j := 0) hc rfl
  simp only [Value.slice.injEq] at heo
  obtain ⟨rfl, -, rfl⟩ := heo
  refine ⟨go, As, cs, rfl, hs, hg0, ?_, ?_⟩
  · obtain ⟨g', c', he', h'⟩ := h.cell (j := 1) hc rfl; simp only [Value.slice.injEq, Option.some.injEq, Addr.mk.injEq, and_true, true_and] at he'; rw [he'.1]; exact h'
  · obtain ⟨g', c', he', h'⟩ := h.cell (j := 2) hc rfl; simp only [Value.slice.injEq, Option.some.injEq, Addr.mk.injEq, and_true, true_and] at he'; rw [he'.1]; exact h'
end Go.Proofs.YtofabikjjkapmaaGreat

set_option maxRecDepth 100000
set_option linter.unusedVariables false
set_option linter.unusedSimpArgs false
namespace Go.Proofs.YtofabikjjkapmaaGreat
open Go.RowKit

end Go.Proofs.YtofabikjjkapmaaGreat

set_option maxRecDepth 100000
set_option linter.unusedVariables false
set_option linter.unusedSimpArgs false
namespace Go.Proofs.YtofabikjjkapmaaGreat
open Go.RowKit

abbrev t7 : TypeId := 168
abbrev t7l : TypeId := 166
def M7D (w : World) (B : Nat) (c : List Value) (x : MC) : Prop := ∃ s, c = [.int .i64 (x.2 : Nat), s, .int .i64 (x.1.2 : Nat)] ∧ OwnInts w B tI s (up x.1.1)
def M7s (w : World) (B : Nat) (css : List (List Value)) (xs : List MC) : Prop := css.length = xs.length ∧ ∀ (i : Nat) (c : List Value) (x : MC), css[i]? = some c → xs[i]? = some x → M7D w B c x
theorem M7D.below {w w' : World} {B : Nat} {c : List Value} {x : MC} (h : M7D w B c x) (hb : Below w.heap.size w w') : M7D w' B c x := by
  obtain ⟨s, rfl, h⟩ := h
  exact ⟨s, rfl, h.below hb⟩
theorem M7D.mono {w : World} {B B' : Nat} {c : List Value} {x : MC} (h : M7D w B c x) (hB : B' ≤ B) : M7D w B' c x := by
  obtain ⟨s, rfl, h⟩ := h
  exact ⟨s, rfl, h.mono hB⟩
theorem M7D.kept {w w' : World} {B : Nat} {c : List Value} {x : MC} {e : TypeId} {v : Value} (h : M7D w B c x) (hg : w.grownBy w' v.ownBlock) (hb : BT w e v) (hne : tI ≠ e) : M7D w' B c x := by
  obtain ⟨s, rfl, h⟩ := h
  exact ⟨s, rfl, h.kept hg (h.1.bt.ne hb hne)⟩
section
variable {w w' : World} {B : Nat} {css : List (List Value)} {xs : List MC}
theorem M7s.nil (w : World) (B : Nat) : M7s w B [] [] := ⟨rfl, fun i c x h => by simp at h⟩
theorem M7s.below (h : M7s w B css xs) (hb : Below w.heap.size w w') : M7s w' B css xs := ⟨h.1, fun i c x hc hx => (h.2 i c x hc hx).below hb⟩
theorem M7s.mono {B' : Nat} (h : M7s w B css xs) (hB : B' ≤ B) : M7s w B' css xs := ⟨h.1, fun i c x hc hx => (h.2 i c x hc hx).mono hB⟩
theorem M7s.kept {v : Value} {e : TypeId} (h : M7s w B css xs) (hg : w.grownBy w' v.ownBlock) (hb : BT w e v) (hne : tI ≠ e) : M7s w' B css xs := ⟨h.1, fun i c x hc hx => (h.2 i c x hc hx).kept hg hb hne⟩
theorem M7s.snoc {c : List Value} {x : MC} (h : M7s w B css xs) (hx : M7D w B c x) : M7s w B (css ++ [c]) (xs ++ [x]) := by
  refine ⟨by simp [h.1], fun i c' x' hc hx' => ?_⟩
  by_cases hlt : i < css.length
  · rw [List.getElem?_append_left hlt] at hc
    rw [List.getElem?_append_left (by rw [← h.1]; exact hlt)] at hx'
    exact h.2 i c' x' hc hx'
  · have hkl := (List.getElem?_eq_some_iff.1 hc).1
    simp at hkl
    have hi : i = css.length := by omega
    rw [hi] at hc
    rw [hi, h.1] at hx'
    simp at hc hx'
    subst hc hx'
    exact hx
end
/-- a list of cuts by places, one's own -/
def M7L (w : World) (B : Nat) (v : Value) (xs : List MC) : Prop := ∃ css, OwnK w B t7 3 v css ∧ M7s w B css xs
theorem M7L.below {w w' : World} {B : Nat} {v : Value} {xs : List MC} (h : M7L w B v xs) (hb : Below w.heap.size w w') : M7L w' B v xs := by
  obtain ⟨css, h1, h2⟩ := h
  exact ⟨css, h1.below hb, h2.below hb⟩
theorem M7L.kept {w w' : World} {B : Nat} {v : Value} {xs : List MC} {e : TypeId} {u : Value} (h : M7L w B v xs) (hg : w.grownBy w' u.ownBlock) (hb : BT w e u) (h1 : tI ≠ e) (h2 : t7 ≠ e) : M7L w' B v xs := by
  obtain ⟨css, h3, h4⟩ := h
  exact ⟨css, h3.kept hg (h3.bt.ne hb h2), h4.kept hg hb h1⟩
/-- a list of such lists: read only -/
def M7T (w : World) (B : Nat) (us : List Value) (xss : List (List MC)) : Prop := us.length = xss.length ∧ ∀ (i : Nat) (u : Value) (x : List MC), us[i]? = some u → xss[i]? = some x → M7L w B u x
section
variable {w w' : World} {B : Nat} {us : List Value} {xss : List (List MC)}
theorem M7T.nil (w : World) (B : Nat) : M7T w B [] [] := ⟨rfl, fun i c x h => by simp at h⟩
theorem M7T.below (h : M7T w B us xss) (hb : Below w.heap.size w w') : M7T w' B us xss := ⟨h.1, fun i c x hc hx => (h.2 i c x hc hx).below hb⟩
theorem M7T.kept {v : Value} {e : TypeId} (h : M7T w B us xss) (hg : w.grownBy w' v.ownBlock) (hb : BT w e v) (h1 : tI ≠ e) (h2 : t7 ≠ e) : M7T w' B us xss := ⟨h.1, fun i c x hc hx => (h.2 i c x hc hx).kept hg hb h1 h2⟩
theorem M7T.snoc {u : Value} {x : List MC} (h : M7T w B us xss) (hx : M7L w B u x) : M7T w B (us ++ [u]) (xss ++ [x]) := by
  refine ⟨by simp [h.1], fun i c' x' hc hx' => ?_⟩
  by_cases hlt : i < us.length
  · rw [List.getElem?_append_left hlt] at hc
    rw [List.getElem?_append_left (by rw [← h.1]; exact hlt)] at hx'
    exact h.2 i c' x' hc hx'
  · have hkl := (List.getElem?_eq_some_iff.1 hc).1
    simp at hkl
    have hi : i = us.length := by omega
    rw [hi] at hc
    rw [hi, h.1] at hx'
    simp at hc hx'
    subst hc hx'
    exact hx
end
theorem M7s.at_ {w : World} {B : Nat} {css : List (List Value)} {xs : List MC} {i : Nat} {x : MC} (h : M7s w B css xs) (hx : xs[i]? = some x) : ∃ c, css[i]? = some c ∧ M7D w B c x := by
  have hi := (List.getElem?_eq_some_iff.1 hx).1
  have hc : css[i]? = some (css[i]'(by rw [h.1]; exact hi)) := List.getElem?_eq_getElem _
  exact ⟨_, hc, h.2 i _ x hc hx⟩
/-- what l07Cuts returns -/
def C7 (w : World) (B : Nat) (v : Value) : Prop := ∃ us, Own w B t7l v us ∧ M7T w B us ([] :: CTab)
theorem CTab_len : CTab.length = 37 := rfl
theorem C7.below {w w' : World} {B : Nat} {v : Value} (h : C7 w B v) (hb : Below w.heap.size w w') : C7 w' B v := by
  obtain ⟨us, h1, h2⟩ := h
  exact ⟨us, h1.below hb, h2.below hb⟩
/-- the list at place p -/
theorem C7.at_ {w : World} {B : Nat} {v : Value} (h : C7 w B v) : ∃ A c, v = .slice A 38 c ∧ ∀ i, i < 37 → ∃ ad css A2 c2, A = some ad ∧ OwnK w B t7 3 (.slice A2 css.length c2) css ∧ M7s w B css (CTab.getD i []) ∧ w.cell? (ad.add (i + 1)) = some (.slice A2 css.length c2) := by
  obtain ⟨us, h1, h2⟩ := h
  have hl : us.length = 38 := h2.1
  obtain ⟨A, c, rfl, -, -⟩ := h1.cells.open_
  rw [hl]
  refine ⟨A, c, rfl, fun i hi => ?_⟩
  obtain ⟨u, hu⟩ : ∃ u, us[i + 1]? = some u := ⟨_, List.getElem?_eq_getElem (by rw [hl]; omega)⟩
  have hc : ([] :: CTab)[i + 1]? = some (CTab.getD i []) := by
    rw [List.getElem?_cons_succ, List.getD_eq_getElem?_getD, List.getElem?_eq_getElem (by rw [CTab_len]; exact hi)]
    rfl
  obtain ⟨css, h3, h4⟩ := h2.2 (i + 1) u (CTab.getD i []) hu hc
  obtain ⟨A2, c2, rfl, -, -⟩ := h3.open_
  obtain ⟨ad, n', c', he, hcc⟩ := h1.cells.at_ hu
  simp only [Value.slice.injEq] at he
  exact ⟨ad, css, A2, c2, he.1, h3, h4, hcc⟩
end Go.Proofs.YtofabikjjkapmaaGreat

set_option maxRecDepth 100000
set_option linter.unusedVariables false
set_option linter.unusedSimpArgs false
namespace Go.Proofs.YtofabikjjkapmaaGreat
open Go.RowKit

/-- the lists of cuts at the places below m, read only -/
def R7 (w : World) (B : Nat) (A : Option Addr) (m : Nat) : Prop := ∀ i, i + 1 < m → ∃ ad css A2 c2, A = some ad ∧ OwnK w B t7 3 (.slice A2 css.length c2) css ∧ M7s w B css (CTab.getD i []) ∧ w.cell? (ad.add (i + 1)) = some (.slice A2 css.length c2)
theorem R7.below {w w' : World} {B m : Nat} {A : Option Addr} (h : R7 w B A m) (hb : Below w.heap.size w w') : R7 w' B A m := fun i hi => by
  obtain ⟨ad, css, A2, c2, h1, h2, h3, h4⟩ := h i hi
  exact ⟨ad, css, A2, c2, h1, h2.below hb, h3.below hb, keepCell hb h4⟩
end Go.Proofs.YtofabikjjkapmaaGreat

set_option maxRecDepth 100000
set_option linter.unusedVariables false
set_option linter.unusedSimpArgs false
namespace Go.Proofs.YtofabikjjkapmaaGreat
open Go.RowKit

end Go.Proofs.YtofabikjjkapmaaGreat

set_option maxRecDepth 100000
set_option linter.unusedVariables false
set_option linter.unusedSimpArgs false
namespace Go.Proofs.YtofabikjjkapmaaGreat
open Go.RowKit

end Go.Proofs.YtofabikjjkapmaaGreat

set_option maxRecDepth 100000
set_option linter.unusedVariables false
set_option linter.unusedSimpArgs false
namespace Go.Proofs.YtofabikjjkapmaaGreat
open Go.RowKit

theorem Rows.cells {w : World} {v : Value} {xss : List (List Int)} (h : Rows w v xss) : ∃ us, Cells w v us ∧ us.length = xss.length ∧ (∀ (k : Nat) (u : Value) (x : List Int), us[k]? = some u → xss[k]? = some x → Ints w u x) := h
end Go.Proofs.YtofabikjjkapmaaGreat

set_option maxRecDepth 100000
set_option linter.unusedVariables false
set_option linter.unusedSimpArgs false
namespace Go.Proofs.YtofabikjjkapmaaGreat
open Go.RowKit

end Go.Proofs.YtofabikjjkapmaaGreat

set_option maxRecDepth 100000
set_option linter.unusedVariables false
set_option linter.unusedSimpArgs false
namespace Go.Proofs.YtofabikjjkapmaaGreat
open Go.RowKit

end Go.Proofs.YtofabikjjkapmaaGreat

set_option maxRecDepth 100000
set_option linter.unusedVariables false
set_option linter.unusedSimpArgs false
namespace Go.Proofs.YtofabikjjkapmaaGreat
open Go.RowKit

end Go.Proofs.YtofabikjjkapmaaGreat

set_option maxRecDepth 100000
set_option linter.unusedVariables false
set_option linter.unusedSimpArgs false
namespace Go.Proofs.YtofabikjjkapmaaGreat
open Go.RowKit

end Go.Proofs.YtofabikjjkapmaaGreat

set_option maxRecDepth 100000
set_option linter.unusedVariables false
set_option linter.unusedSimpArgs false
namespace Go.Proofs.YtofabikjjkapmaaGreat
open Go.RowKit

theorem LA.keptLt' {w w' : World} {B g : Nat} {v : Value} {xss : List (List Int)} (h : LA w B v xss) (hg : w.grownBy w' (some g)) (hlt : g < B) : LA w' B v xss := by
  obtain ⟨vs, h1, h2, h3⟩ := h
  have ne : ∀ u : Value, (∀ b, u.ownBlock = some b → B ≤ b) → u.ownBlock = none ∨ u.ownBlock ≠ some g := fun u hu => by
    cases hb : u.ownBlock with
    | none => exact .inl rfl
    | some b => exact .inr fun e => by injection e with e; have := hu b hb; omega
  exact ⟨vs, h1.kept hg (ne v h1.ge), ⟨h2.1, fun k u zs hu hz => ⟨(h2.2 k u zs hu hz).1.kept hg (ne u (h2.2 k u zs hu hz).1.ge), (h2.2 k u zs hu hz).2⟩⟩, h3⟩

end Go.Proofs.YtofabikjjkapmaaGreat

set_option maxRecDepth 100000
set_option linter.unusedVariables false
set_option linter.unusedSimpArgs false
namespace Go.Proofs.YtofabikjjkapmaaGreat
open Go.RowKit

end Go.Proofs.YtofabikjjkapmaaGreat

set_option maxRecDepth 100000
set_option linter.unusedVariables false
set_option linter.unusedSimpArgs false
namespace Go.Proofs.YtofabikjjkapmaaGreat
open Go.RowKit

end Go.Proofs.YtofabikjjkapmaaGreat

set_option maxRecDepth 100000
set_option linter.unusedVariables false
set_option linter.unusedSimpArgs false
namespace Go.Proofs.YtofabikjjkapmaaGreat
open Go.RowKit

end Go.Proofs.YtofabikjjkapmaaGreat

set_option maxRecDepth 100000
set_option linter.unusedVariables false
set_option linter.unusedSimpArgs false
namespace Go.Proofs.YtofabikjjkapmaaGreat
open Go.RowKit

end Go.Proofs.YtofabikjjkapmaaGreat

set_option maxRecDepth 100000
set_option linter.unusedVariables false
set_option linter.unusedSimpArgs false
namespace Go.Proofs.YtofabikjjkapmaaGreat
open Go.RowKit

theorem chr_of {a : List Int} (h : chrC a = 0) : mapB a = true ∧ a.getD 0 0 = 1 := by
  unfold chrC at h
  cases hm : mapB a with
  | false => rw [hm] at h; simp at h
  | true =>
    rw [hm] at h
    refine ⟨rfl, ?_⟩
    by_cases e : a.getD 0 0 = 1
    · exact e
    · rw [if_pos rfl, if_neg e] at h; exact absurd h (by decide)
end Go.Proofs.YtofabikjjkapmaaGreat

set_option maxRecDepth 100000
set_option linter.unusedVariables false
set_option linter.unusedSimpArgs false
namespace Go.Proofs.YtofabikjjkapmaaGreat
open Go.RowKit

end Go.Proofs.YtofabikjjkapmaaGreat

set_option linter.unusedVariables false
set_option linter.unusedSimpArgs false
namespace Go.Proofs.YtofabikjjkapmaaGreat
open Go Go.RowKit

section
variable {P : Program} {ops : Array Oper} {md : Region.Mode} {C : World → Prop} {n : Nat} {D : Array Bool → Act → Prop}

/-- so many steps, each by an operation of the head, whatever is picked; then D -/
def HeadQ (P : Program) (md : Region.Mode) (ops : Array Oper) (C : World → Prop) (n : Nat) (D : Array Bool → Act → Prop) : Nat → Array Bool → Act → Prop
  | 0, L, a => D L a
  | f + 1, L, a => Region.ready md ops L ≠ [] ∧ ∀ i ∈ Region.ready md ops L, i < n ∧ qOp P ops C i (HeadQ P md ops C n D f (L.setIfInBounds i true)) a

theorem HeadQ.any {g : Nat} {Q : Exit → Act → World → Prop} (hD : ∀ L a, D L a → ∀ w, C w → wpAny P md ops Q g L a w) : ∀ (f : Nat) (L : Array Bool) (a : Act) (w : World), C w → HeadQ P md ops C n D f L a → wpAny P md ops Q (f + g) L a w := by
  intro f
  induction f with
  | zero => intro L a w hw h; rw [Nat.zero_add]; exact hD L a h w hw
  | succ f ih =>
    intro L a w hw h
    have e : f + 1 + g = (f + g) + 1 := by omega
    rw [e]
    refine ⟨fun h0 => absurd h0 h.1, fun i hi => ?_⟩
    exact wpOp_of_qOp hw (fun a' w' hw' h' => ih _ a' w' hw' h') (h.2 i hi).2

theorem HeadQ.take {i : Nat} {oi : Oper} {v : Value} (hi : ops[i]? = some oi) (hsel : ∀ (j : Nat) (o : Oper) cs b, ops[j]? = some o → o.op ≠ .select cs b)
    (hs : Region.sinkB md ops n = true) (hc : Region.chainB md ops n = true) (hn : n < ops.size) (hin : i < n) (hD : ∀ L a, D L a → ∀ j ∈ Region.ready md ops L, n ≤ j) :
    ∀ (f : Nat) (L : Array Bool) (a : Act), HeadInv md ops n L →
      (∀ j oj, ops[j]? = some oj → j ≠ i → L.getD j true = false → (∀ e ∈ oj.after, Region.binds md e = true → e.on ≠ i) → oi.apart ops oj = true) →
      i ∈ Region.ready md ops L → YieldsIn P ops C oi v a →
      HeadQ P md ops C n D f (L.setIfInBounds i true) (a.put oi.dst v) → HeadQ P md ops C n D (f + 1) L a := by
  intro f
  induction f with
  | zero =>
    intro L a inv _ hr hy H
    have hun := (mem_ready.1 hr).1
    refine ⟨List.ne_nil_of_mem hr, fun j hj => ?_⟩
    have hjn : j < n := Nat.lt_of_not_le fun h => tail_waits hs hc hn inv _ i rfl hin hun j h hj
    by_cases hji : j = i
    · subst hji; exact ⟨hjn, hy.qOp hi H⟩
    · have := hD _ _ H j (ready_mono hj hji)
      omega
  | succ f ih =>
    intro L a inv hfree hr hy H
    have hun := (mem_ready.1 hr).1
    refine ⟨List.ne_nil_of_mem hr, fun j hj => ?_⟩
    have hjn : j < n := Nat.lt_of_not_le fun h => tail_waits hs hc hn inv _ i rfl hin hun j h hj
    by_cases hji : j = i
    · subst hji; exact ⟨hjn, hy.qOp hi H⟩
    · refine ⟨hjn, ?_⟩
      obtain ⟨hjun, oj, hoj, hall⟩ := mem_ready.1 hj
      have hnot : ∀ e ∈ oj.after, Region.binds md e = true → e.on ≠ i := by
        intro e he hb heq
        have h1 := hall e he hb
        rw [heq, getD_both hun] at h1
        cases h1
      have h2 := qOp_put hoj (hfree j oj hoj hji hjun hnot) (fun cs b => hsel i oi cs b hi) (fun cs b => hsel j oj cs b hoj) hy (H.2 j (ready_mono hj hji)).2
      refine qOp_mono (fun a' h3 => ?_) h2
      refine ih (L.setIfInBounds j true) a' (inv.set hj hjn) (fun k ok hk hki hun' hno => hfree k ok hk hki ?_ hno) (ready_mono hr (Ne.symm hji)) h3.1 ?_
      · by_cases hjk : j = k
        · subst hjk; exact hjun
        · rwa [getD_set_ne true hjk] at hun'
      · rw [Array.setIfInBounds_comm _ _ hji]
        exact h3.2

end
end Go.Proofs.YtofabikjjkapmaaGreat

set_option maxRecDepth 100000
set_option linter.unusedVariables false
set_option linter.unusedSimpArgs false
namespace Go.Proofs.YtofabikjjkapmaaGreat
open Go.RowKit

end Go.Proofs.YtofabikjjkapmaaGreat

set_option maxRecDepth 100000
set_option linter.unusedVariables false
set_option linter.unusedSimpArgs false
namespace Go.Proofs.YtofabikjjkapmaaGreat
open Go.RowKit

end Go.Proofs.YtofabikjjkapmaaGreat

set_option maxRecDepth 100000
set_option linter.unusedVariables false
set_option linter.unusedSimpArgs false
namespace Go.Proofs.YtofabikjjkapmaaGreat
open Go.RowKit

end Go.Proofs.YtofabikjjkapmaaGreat

set_option maxRecDepth 100000
set_option linter.unusedVariables false
set_option linter.unusedSimpArgs false
namespace Go.Proofs.YtofabikjjkapmaaGreat
open Go.RowKit

end Go.Proofs.YtofabikjjkapmaaGreat

set_option maxRecDepth 100000
set_option linter.unusedVariables false
set_option linter.unusedSimpArgs false
namespace Go.Proofs.YtofabikjjkapmaaGreat
open Go.RowKit

end Go.Proofs.YtofabikjjkapmaaGreat

set_option maxRecDepth 100000
set_option linter.unusedVariables false
set_option linter.unusedSimpArgs false
namespace Go.Proofs.YtofabikjjkapmaaGreat
open Go.RowKit

end Go.Proofs.YtofabikjjkapmaaGreat

set_option maxRecDepth 100000
set_option linter.unusedVariables false
set_option linter.unusedSimpArgs false
namespace Go.Proofs.YtofabikjjkapmaaGreat
open Go.RowKit

theorem C7.r7 {w : World} {B : Nat} {v : Value} (h : C7 w B v) : ∃ A c, v = .slice A 38 c ∧ R7 w B A 38 := by
  obtain ⟨A, c, he, h1⟩ := h.at_
  exact ⟨A, c, he, fun i hi => h1 i (by omega)⟩
end Go.Proofs.YtofabikjjkapmaaGreat

set_option maxRecDepth 100000
set_option linter.unusedVariables false
set_option linter.unusedSimpArgs false
namespace Go.Proofs.YtofabikjjkapmaaGreat
open Go.RowKit

theorem map_cellG {w : World} {A : Option Addr} {n c : Nat} {a : List Int} (h : Ints w (.slice A n c) a) (hm : ∀ z ∈ a, 0 ≤ z ∧ z ≤ 10006) {k : Nat} (hk : k < a.length) :
    ∃ ad, A = some ad ∧ w.cell? (ad.add k) = some (.int .i64 (a.getD k 0)) ∧ 0 ≤ a.getD k 0 ∧ a.getD k 0 ≤ 10006 := by
  obtain ⟨A', c', he, -, -, h3⟩ := h.open_
  simp only [Value.slice.injEq] at he
  obtain ⟨rfl, hl, rfl⟩ := he
  obtain ⟨ad, z, rfl, hz, -, hc⟩ := h3 k (by omega)
  rw [ints_getD hz]
  exact ⟨ad, rfl, hc, hm z (List.mem_of_getElem? hz)⟩
set_option maxHeartbeats 2000000 in
theorem i_valueOfG (w : World) (va vp : Value) (a : List Int) (ps : List Nat) (h1 : Ints w va a) (l1 : a.length ≤ 38) (hN : Nums a) (h2 : Ints w vp (up ps)) (hp : ∀ p ∈ ps, p < a.length) :
    Calls Tryz.prog 103 #[va, vp] w fun e w' => e = .returned (.int .i64 (valZ a ps)) ∧ w = w' := by
  obtain ⟨A, c, rfl, -, -, -⟩ := h1.open_
  have HA := Lib.hid h1
  have HN := Lib.hid hN
  have HP := Lib.hid hp
  have HL := Lib.hid l1
  obtain ⟨A2, c2, rfl, hc2, hc3, g2⟩ := h2.open_
  rw [up_len] at g2 hc2 ⊢
  have G2 := Lib.hid g2
  clear h1 h2 l1 hN hp g2
  go_enter Tryz.func103, Tryz.ntmps103
  go_wp2_with fail
  go_loop [5, 10] (fun x y => ∃ k : Nat, k ≤ ps.length ∧ x = .int .i64 (valZ a (ps.take k)) ∧ y = .int .i64 k) (fun _ y => ps.length - (intOf y).toNat)
  case atStart => exact ⟨0, Nat.zero_le _, rfl, rfl⟩
  case round =>
    obtain ⟨k, hk, rfl, rfl⟩ := hrel
    have hv := valZ_bd a (ps.take k)
    by_cases hlt : k < ps.length
    · obtain ⟨p, hpk⟩ : ∃ p, ps[k]? = some p := ⟨_, List.getElem?_eq_getElem hlt⟩
      have hp38 := HP.out p (List.mem_of_getElem? hpk)
      obtain ⟨a2, z, rfl, hz, -, hcz⟩ := G2.out k hlt
      have hze : z = (p : Int) := by
        unfold up at hz
        rw [List.getElem?_map, hpk] at hz
        injection hz with hz
        exact hz.symm
      subst hze
      obtain ⟨ad, rfl, hcx, hx0, hx1⟩ := map_cellG HA.out HN.out hp38
      have hpL : (p : Int) < (a.length : Int) := by omega
      have HV := Lib.hid (show valZ a (ps.take (k + 1)) = valZ a (ps.take k) * a.getD p 0 % 10007 from by rw [List.take_add_one, hpk]; exact valZ_snoc a _ p)
      generalize a.getD p 0 = y at *
      generalize valZ a (ps.take k) = s at *
      obtain ⟨p1, p2⟩ := mul_bd 10006 10006 hv.1 hv.2 hx0 hx1
      have hkk : (k : Int) < (ps.length : Int) := by omega
      have hpp : (p : Int) < 38 := by have := HL.out; omega
      clear hz hpk
      go_wp2_with (go_at_call 56; refine (i_num _ _ (by omega) (by omega)).mono ?_; rintro e w' ⟨rfl, rfl⟩)
      go_roundw
      case rel => exact ⟨k + 1, by omega, by rw [HV.out], by go_num⟩
      case measure => simp [intOf]; omega
    · have hkl : ps.take k = ps := List.take_of_length_le (by omega)
      rw [hkl]
      clear hkl
      go_wp2_with fail
      go_ret
      exact ⟨rfl, rfl⟩
end Go.Proofs.YtofabikjjkapmaaGreat

set_option maxRecDepth 100000
set_option linter.unusedVariables false
set_option linter.unusedSimpArgs false
namespace Go.Proofs.YtofabikjjkapmaaGreat
open Go.RowKit

set_option maxHeartbeats 16000000 in
theorem i_inverseMap (w : World) (vp va : Value) (Af : Option Addr) (cf Bp : Nat) (a : List Int) (hP : FrC w Bp vp) (h2 : Ints w va a) (l2 : a.length = 38) (hN2 : Nums a) :
    Calls Tryz.prog 49 #[.agg #[.slice Af 37 cf, vp], va] w fun e w' => ∃ x, e = .returned x ∧ OwnInts w' w.heap.size tI x (invL a 37) ∧ Below w.heap.size w w' := by
  obtain ⟨AP, cP, rfl, -⟩ := hP.at_
  obtain ⟨Aa, ca, rfl, -, -, -⟩ := h2.open_
  rw [l2] at h2 ⊢
  obtain ⟨ada, rfl, -, -, -⟩ := map_cell h2 hN2 (k := 0) (by omega)
  obtain ⟨wb, hwb⟩ : ∃ wb, wb = w.alloc (.cells #[.slice Af 37 cf, .slice AP 37 cP] tFo) := ⟨_, rfl⟩
  have hbb : Below w.heap.size w wb := by rw [hwb]; exact below1 w _
  have HBX := Lib.hid hbb
  have HF := Lib.hid (show Blk wb w.heap.size tFo #[.slice Af 37 cf, .slice AP 37 cP] from by rw [hwb]; exact Blk.new _ _ _)
  have HP := Lib.hid (hP.below hbb)
  have HA1 := Lib.hid (h2.below hbb)
  have HNA := Lib.hid hN2
  have HSZ := Lib.hid (invL_len a)
  have OL := Lib.hid (show Own (wb.alloc (.cells #[.int .i64 1] tI)) wb.heap.size tI (.slice (some ⟨wb.heap.size, 0, none⟩) 1 1) (ints (invL a 0)) from own_lit wb tI [.int .i64 1] (by simp [maxLen]))
  have hf0 : wb.cell? ⟨w.heap.size, 0, none⟩ = some (.slice Af 37 cf) := HF.out.cell 0
  have hf1 : wb.cell? ⟨w.heap.size, 1, none⟩ = some (.slice AP 37 cP) := HF.out.cell 1
  have hf1a : ∀ o, (wb.alloc o).cell? ⟨w.heap.size, 1, none⟩ = some (.slice AP 37 cP) := fun o => (HF.out.alloc o).cell 1
  clear hP h2 l2 hN2 hbb
  go_enter Tryz.func49, Tryz.ntmps49
  go_upto_region 1 with fail
  rw [← hwb]
  clear hwb
  go_wp2_with fail
  clear hf0 hf1 hf1a
  go_loopw [5, 15] (fun o x wr => ∃ i : Nat, i ≤ 37 ∧ x = .int .i64 i ∧ Own wr wb.heap.size tI o (ints (invL a i)) ∧ Below wb.heap.size wb wr) (fun _ x _ => 37 - (intOf x).toNat)
  case atStart => exact ⟨0, Nat.zero_le _, rfl, OL.out, below1 wb _⟩
  case round =>
    obtain ⟨i, hi, rfl, ho, hb⟩ := hrel
    rename World => wq
    clear OL
    have hel : (invL a i).length = i + 1 := HSZ.out i
    have hol := ho.cells.open_
    rw [ints_len, hel] at hol
    obtain ⟨Ao, co, rfl, -, -⟩ := hol
    have HEL := Lib.hid hel
    have HO := Lib.hid ho
    have HBQ := Lib.hid hb
    obtain ⟨AP', cP', he, hat⟩ := (HP.out.below hb).at_
    simp only [Value.slice.injEq, true_and] at he
    obtain ⟨rfl, rfl⟩ := he
    clear ho hel
    by_cases hlt : i < 37
    · obtain ⟨adp, css, A2, c2, rfl, ho2, hm2, hcp⟩ := hat i hlt
      have hpl := CTab_ln hlt
      obtain ⟨L, hL⟩ : ∃ L, L = CTab.getD i [] := ⟨_, rfl⟩
      rw [← hL] at hm2 hpl
      have HLE := Lib.hid hL
      have HPL := Lib.hid hpl
      have hcl := hm2.1
      have HCL := Lib.hid hcl
      have hc5 : css.length ≤ 100 := by rw [hcl]; exact hpl
      have HO2 := Lib.hid ho2
      have HM2 := Lib.hid hm2
      obtain ⟨b, hbE⟩ : ∃ b, b = invL a i := ⟨_, rfl⟩
      have HTS := Lib.hid (show ints (invL a (i + 1)) = ints b ++ [.int .i64 ((-(sumF (tpI b a) L)) % 10007)] from by
        rw [invL, ← hL, ← hbE, ints, ints, List.map_append]; rfl)
      have HNB := Lib.hid (show Nums b from by rw [hbE]; exact invL_nums a i)
      rw [← hbE] at HEL HO
      have HOI := Lib.hid (show OwnInts wq wb.heap.size tI (.slice Ao (i + 1) co) b from ⟨HO.out, fun z hz => in64_num (HNB.out z hz)⟩)
      have hii : (i : Int) < 37 := by omega
      clear hat hb hpl hL hcl ho2 hm2 hbE
      go_wp2_with fail
      go_loopw [8, 21] (fun s x wr => ∃ j : Nat, j ≤ css.length ∧ x = .int .i64 j ∧ s = .int .i64 (sumF (tpI b a) (L.take j)) ∧ Below wq.heap.size wq wr) (fun _ x _ => css.length - (intOf x).toNat)
      case atStart => exact ⟨0, Nat.zero_le _, rfl, rfl, Below.refl _ _⟩
      case round =>
        obtain ⟨j, hj, rfl, rfl, hb⟩ := hrel
        rename World => wc
        have HBC := Lib.hid hb
        have hsb : 0 ≤ sumF (tpI b a) (L.take j) ∧ sumF (tpI b a) (L.take j) ≤ 100 * 10006 := by
          have h := sumF_bd (tpI b a) 10006 (L.take j) fun x _ => tpI_bd b a x
          have h2 : (L.take j).length ≤ 100 := Nat.le_trans (List.length_take_le _ _) (by omega)
          have h3 := HPL.out
          rw [List.length_take] at h
          omega
        by_cases hlj : j < css.length
        · obtain ⟨⟨⟨cr, sk⟩, n⟩, hx⟩ : ∃ x, L[j]? = some x := ⟨_, List.getElem?_eq_getElem (by rw [← HCL.out]; exact hlj)⟩
          have hxm := List.mem_of_getElem? hx
          obtain ⟨-, hsk, hn⟩ := CTab_at hlt (x := ((cr, sk), n)) (by rw [← HLE.out]; exact hxm)
          have hcr := (tp_at (p := i + 1) (by omega) (by omega) (x := ((cr, sk), n)) (by show _ ∈ CTab.getD i []; rw [← HLE.out]; exact hxm)).1
          have hn : n ≤ 100 := hn
          have hcr : 0 < sk → ∀ p ∈ cr, p < i + 1 := hcr
          have hsk : sk < 38 := hsk
          obtain ⟨go, As, cs, rfl, hs1, hq0, hq1, hq2⟩ := part_at (HO2.out.below hb) (HM2.out.below hb) hx
          have hs1 : OwnInts wc Bp tN (.slice As cr.length cs) (up cr) := hs1
          have hq0 : wc.cell? ⟨go, j * 3, none⟩ = some (.int .i64 n) := hq0
          have hq1 : wc.cell? ⟨go, j * 3 + 1, none⟩ = some (.slice As cr.length cs) := hq1
          have hq2 : wc.cell? ⟨go, j * 3 + 2, none⟩ = some (.int .i64 sk) := hq2
          have HTJ := Lib.hid (show sumF (tpI b a) (L.take (j + 1)) = sumF (tpI b a) (L.take j) + (bif Nat.blt 0 sk then (n : Int) * (valZ b cr * a.getD sk 0 % 10007) % 10007 else 0) from by rw [sumF_take _ hx]; rfl)
          generalize sumF (tpI b a) (L.take j) = sm at *
          have hjj : (j : Int) < (css.length : Int) := by omega
          have hskk : (sk : Int) < 38 := by omega
          by_cases hpos : 0 < sk
          · have HTJ := Lib.hid (show sumF (tpI b a) (L.take (j + 1)) = sm + (n : Int) * (valZ b cr * a.getD sk 0 % 10007) % 10007 from by rw [HTJ.out, show Nat.blt 0 sk = true from Nat.ble_eq_true_of_le hpos]; rfl)
            have HCR := Lib.hid (hcr hpos)
            have hpp : (0 : Int) < (sk : Int) := by omega
            obtain ⟨_, he, hcx, hx0, hx1⟩ := map_cell ((HA1.out.below HBQ.out).below hb) HNA.out (k := sk) hsk
            simp only [Option.some.injEq] at he
            subst he
            have hvb := valZ_bd b cr
            obtain ⟨V, hV⟩ : ∃ V, V = valZ b cr := ⟨_, rfl⟩
            rw [← hV] at hvb HTJ
            have HVE := Lib.hid hV
            generalize a.getD sk 0 = y at *
            obtain ⟨p1, p2⟩ := mul_bd 10006 10006 hvb.1 hvb.2 hx0 hx1
            have hmd : 0 ≤ V * y % 10007 ∧ V * y % 10007 ≤ 10006 := by omega
            obtain ⟨q1, q2⟩ := mul_bd 100 10006 (show (0 : Int) ≤ (n : Int) by omega) (show (n : Int) ≤ 100 by omega) hmd.1 hmd.2
            clear hxm hcr hx hV hb
            go_upto_region 10 with fail
            obtain ⟨W, hW⟩ : ∃ W, W = wc.alloc (.cells #[.int .i64 n, .slice As cr.length cs, .int .i64 sk] tMc) := ⟨_, rfl⟩
            have hbw : Below wc.heap.size wc W := by rw [hW]; exact below1 wc _
            have HBW := Lib.hid hbw
            have HKP := Lib.hid (show Blk W wc.heap.size tMc #[.int .i64 n, .slice As cr.length cs, .int .i64 sk] from by rw [hW]; exact Blk.new _ _ _)
            have HSW := Lib.hid (hs1.below hbw).ints
            have HBB := Lib.hid ((HOI.out.below (HBC.out.trans (hbw.mono HBC.out.size))).ints)
            rw [← hW]
            clear hW hs1 hbw
            obtain ⟨S, hS1, hS2⟩ : ∃ S : World → Prop, (∀ Wx, S Wx → Below W.heap.size W Wx) ∧ (∀ Wx, Below W.heap.size W Wx → S Wx) := ⟨fun Wx => Below W.heap.size W Wx, fun _ h => h, fun _ h => h⟩
            have HSE := Lib.hid (show ∀ x : GW S, Below W.heap.size W x.w from fun x => hS1 _ x.h)
            have HSI := Lib.hid (show S W.drew from hS2 _ (Below.refl W.heap.size W).drew)
            have hx0' : ∀ x : GW S, x.w.cell? ⟨wc.heap.size, 0, none⟩ = some (.int .i64 n) := fun x => keepCell (HSE.out x) (HKP.out.cell 0)
            have hx1' : ∀ x : GW S, x.w.cell? ⟨wc.heap.size, 1, none⟩ = some (.slice As cr.length cs) := fun x => keepCell (HSE.out x) (HKP.out.cell 1)
            have hx2' : ∀ x : GW S, x.w.cell? ⟨wc.heap.size, 2, none⟩ = some (.int .i64 sk) := fun x => keepCell (HSE.out x) (HKP.out.cell 2)
            have hx3' : ∀ x : GW S, x.w.cell? (ada.add sk) = some (.int .i64 y) := fun x => keepCell ((HBW.out.trans ((HSE.out x).mono HBW.out.size))) hcx
            have HVL := Lib.hid (show ∀ x : GW S, Calls Tryz.prog 103 #[.slice Ao (i + 1) co, .slice As cr.length cs] x.w (fun e w' => e = .returned (.int .i64 V) ∧ S w') from fun x => (i_valueOfG x.w _ _ b cr (HBB.out.below (HSE.out x)) (by rw [HEL.out]; omega) HNB.out (HSW.out.below (HSE.out x)) (by rw [HEL.out]; exact HCR.out)).mono (by rintro e w7 ⟨rfl, rfl⟩; exact ⟨by rw [HVE.out], hS2 _ (HSE.out x)⟩))
            have HN1 := Lib.hid (show ∀ x : GW S, Calls Tryz.prog 56 #[.int .i64 (V * y)] x.w (fun e w' => e = .returned (.int .i64 (V * y % 10007)) ∧ S w') from fun x => (i_num (V * y) x.w (by omega) (by omega)).mono (by rintro e w7 ⟨rfl, rfl⟩; exact ⟨rfl, hS2 _ (HSE.out x)⟩))
            have hws1 : IntKind.i64.wrap (V * y) = V * y := IntWalk.i64_in _ (by omega)
            generalize V * y % 10007 = q at *
            have HN2 := Lib.hid (show ∀ x : GW S, Calls Tryz.prog 56 #[.int .i64 ((n : Int) * q)] x.w (fun e w' => e = .returned (.int .i64 ((n : Int) * q % 10007)) ∧ S w') from fun x => (i_num ((n : Int) * q) x.w (by omega) (by omega)).mono (by rintro e w7 ⟨rfl, rfl⟩; exact ⟨rfl, hS2 _ (HSE.out x)⟩))
            have hws2 : IntKind.i64.wrap ((n : Int) * q) = (n : Int) * q := IntWalk.i64_in _ (by omega)
            have hq3 : 0 ≤ (n : Int) * q % 10007 ∧ (n : Int) * q % 10007 ≤ 10006 := by omega
            clear hS1 hS2 hq0 hq1 hq2 hcx
            refine wp_region_grow S (by kernel_rfl) (by kernel_rfl) HSI.out (fun hne => ?_)
            repeat (go_big_quiet_step ((first
              | (go_at_call 103; exact grow_call (HVL.out _))
              | (go_at_call_of 56 V; exact grow_call (HN1.out _))
              | (go_at_call 56; exact grow_call (HN2.out _)))))
            refine wpQuiet_nil ?_
            rintro _ ⟨xq, rfl⟩
            clear hx0' hx1' hx2' hx3'
            go_wp2_with fail
            go_roundw
            case rel => exact ⟨j + 1, by omega, by go_num, by rw [HTJ.out], HBC.out.trans ((HBW.out.trans ((HSE.out xq).mono HBW.out.size)).mono HBC.out.size)⟩
            case measure => simp [intOf]; omega
          · have hz : sk = 0 := by omega
            subst hz
            have HTJ := Lib.hid (show sumF (tpI b a) (L.take (j + 1)) = sm from by rw [HTJ.out]; show sm + 0 = sm; omega)
            clear hxm hcr hx hb hpos
            go_wp2_with fail
            go_roundw
            case rel => exact ⟨j + 1, by omega, by go_num, by rw [HTJ.out], HBC.out.trans ((below1 wc _).mono HBC.out.size)⟩
            case measure => simp [intOf]; omega
        · have hjl : L.take j = L := List.take_of_length_le (by rw [← HCL.out]; omega)
          rw [hjl] at hsb ⊢
          have HOX := Lib.hid (HO.out.below HBC.out)
          clear hjl hb
          generalize sumF (tpI b a) L = sm at *
          go_wp2_with (first
            | (go_at_call 56; refine (i_num (-sm) _ (by omega) (by omega)).mono ?_; rintro e w' ⟨rfl, rfl⟩)
            | (at_builtin; go_loud (refine wpList_app1 T_int HOX.out (by rw [ints_len, HEL.out]; omega) (Nat.le_trans HBQ.out.size HBC.out.size) (by rfl) rfl (by rfl) (by rfl) (by rfl) ?_; intro v1 w6 hown1 hgr1; have HN := Lib.hid hown1; have HGR := Lib.hid hgr1; clear hown1 hgr1)))
          go_roundw
          case rel =>
            refine ⟨i + 1, by omega, by go_num, ?_, HGR.out.below (HBQ.out.trans (HBC.out.mono HBQ.out.size)) (Nat.le_trans HBQ.out.size HBC.out.size) HO.out.ge⟩
            rw [HTS.out]; exact HN.out
          case measure => simp [intOf]; omega
    · have hil : i = 37 := by omega
      subst hil
      go_wp2_with fail
      go_ret
      exact ⟨_, rfl, ⟨HO.out.mono HBX.out.size, fun z hz => in64_num (invL_nums a 37 z hz)⟩, HBX.out.trans (HBQ.out.mono HBX.out.size)⟩
end Go.Proofs.YtofabikjjkapmaaGreat

set_option maxRecDepth 100000
set_option linter.unusedVariables false
set_option linter.unusedSimpArgs false
namespace Go.Proofs.YtofabikjjkapmaaGreat
open Go.RowKit

end Go.Proofs.YtofabikjjkapmaaGreat

