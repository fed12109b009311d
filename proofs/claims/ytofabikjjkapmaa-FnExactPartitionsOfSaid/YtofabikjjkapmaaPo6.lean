/- Plain: the order of trees, and lists of trees in it. | Plain: strict total orders, lexicographic ones among them; sorting by insertion. | Lists of one's own of structs of k cells, over what an element's cells say; such a list sorted by the library. No program in sight. | slices.SortFunc at lists of numbers: laid. | slices.SortFunc with 'slices.Compare(b, a)', at lists of one's own: the lists in descending order. | Walks: slices.Clone at numbers; the columns of both. -/
import Derived.Test.YtofabikjjkapmaaPo5
import Derived.Test.YtofabikjjkapmaaPo2
import Derived.Test.YtofabikjjkapmaaPo3
import Derived.Shelf.SlSortCmp.WholeK
import Derived.Shelf.SlSortCmp.NoneTotal
import Derived.Shelf.SlSortCmp.Whole1
import Derived.Shelf.SlGeneric
import Derived.Ground.SlsfProg
import Derived.WalkSpells
import Derived.Deep.RegionLaw
set_option linter.unusedVariables false
set_option linter.unusedSimpArgs false
namespace Go.Proofs.Ytofabikjjkapmaa

theorem befN_iff (s t : List Nat) : befN s t = true ↔ s.length < t.length ∨ (s.length = t.length ∧ ltN t s = true) := by
  unfold befN
  cases h : Nat.beq s.length t.length with
  | true => have := Nat.eq_of_beq_eq_true h; simp [this]
  | false =>
    have := Nat.ne_of_beq_eq_false h
    simp only [cond_false, blt_iff]
    omega
theorem befN_irrefl (a : List Nat) : befN a a = false := by
  cases h : befN a a with
  | false => rfl
  | true =>
    rcases (befN_iff a a).1 h with h | ⟨-, h⟩
    · omega
    · rw [ltN_irrefl] at h; cases h
theorem befN_trans {a b c : List Nat} (h : befN a b = true) (h' : befN b c = true) : befN a c = true := by
  rw [befN_iff] at *
  rcases h with h | ⟨e, h⟩ <;> rcases h' with h' | ⟨e', h'⟩
  · left; omega
  · left; omega
  · left; omega
  · right; exact ⟨by omega, ltN_trans h' h⟩
theorem befN_tri {a b : List Nat} (h : befN a b = false) (h' : befN b a = false) : a = b := by
  have h1 : ¬ befN a b = true := by rw [h]; decide
  have h2 : ¬ befN b a = true := by rw [h']; decide
  rw [befN_iff] at h1 h2
  have e : a.length = b.length := by omega
  refine ltN_tri ?_ ?_
  · cases hh : ltN a b with
    | false => rfl
    | true => exact absurd (.inr ⟨e.symm, hh⟩) h2
  · cases hh : ltN b a with
    | false => rfl
    | true => exact absurd (.inr ⟨e, hh⟩) h1
theorem befN_asymm {a b : List Nat} (h : befN a b = true) : befN b a = false := by
  cases hh : befN b a with
  | false => rfl
  | true => have := befN_trans h hh; rw [befN_irrefl] at this; cases this
theorem befN_ntrans {a b c : List Nat} (h : befN a b = false) (h' : befN b c = false) : befN a c = false := by
  cases hh : befN a c with
  | false => rfl
  | true =>
    cases hb : befN b a with
    | true => rw [befN_trans hb hh] at h'; cases h'
    | false =>
      have := befN_tri h hb
      subst this
      rw [h'] at hh; cases hh

/-- ascending -/
def Asc (l : List (List Nat)) : Prop := l.Pairwise fun a b => befN b a = false
theorem asc_unique : ∀ {l1 l2 : List (List Nat)}, l1.Perm l2 → Asc l1 → Asc l2 → l1 = l2
  | [], l2, h, _, _ => by simpa using h.symm.eq_nil.symm
  | a :: l1, [], h, _, _ => by simpa using h.eq_nil
  | a :: l1, b :: l2, h, h1, h2 => by
    rw [Asc, List.pairwise_cons] at h1 h2
    have e : a = b := by
      by_cases hab : a = b
      · exact hab
      · have ha : a ∈ b :: l2 := h.mem_iff.1 (by simp)
        have hb : b ∈ a :: l1 := h.mem_iff.2 (by simp)
        have ha2 : a ∈ l2 := by rcases List.mem_cons.1 ha with h | h; exact absurd h hab; exact h
        have hb2 : b ∈ l1 := by rcases List.mem_cons.1 hb with h | h; exact absurd h.symm hab; exact h
        exact befN_tri (h2.1 a ha2) (h1.1 b hb2)
    subst e
    rw [asc_unique h.cons_inv h1.2 h2.2]
/-- a tree put into a forest, behind those that are not behind it -/
def insB (p : List Nat) : List (List Nat) → List (List Nat)
  | [] => [p]
  | q :: qs => bif befN p q then p :: q :: qs else q :: insB p qs
def srtBF (s : List (List Nat)) : List (List Nat) → List (List Nat)
  | [] => s
  | p :: ps => srtBF (insB p s) ps
/-- trees in their order -/
def srtB (ps : List (List Nat)) : List (List Nat) := srtBF [] ps
theorem insB_perm (p : List Nat) : ∀ qs : List (List Nat), (insB p qs).Perm (p :: qs)
  | [] => .refl _
  | q :: qs => by
    rw [insB]
    cases befN p q with
    | true => exact .refl _
    | false => exact ((insB_perm p qs).cons q).trans (.swap p q qs)
theorem mem_insB {p x : List Nat} {qs : List (List Nat)} (h : x ∈ insB p qs) : x = p ∨ x ∈ qs := by
  have := (insB_perm p qs).mem_iff.1 h
  simpa using this
theorem insB_asc {p : List Nat} : ∀ {qs : List (List Nat)}, Asc qs → Asc (insB p qs)
  | [], _ => by simp [insB, Asc]
  | q :: qs, h => by
    rw [Asc, List.pairwise_cons] at h
    rw [insB]
    cases hq : befN p q with
    | true =>
      refine List.pairwise_cons.2 ⟨fun x hx => ?_, List.pairwise_cons.2 h⟩
      rcases List.mem_cons.1 hx with rfl | hx
      · exact befN_asymm hq
      · cases hh : befN x p with
        | false => rfl
        | true => have := h.1 x hx; rw [befN_trans hh hq] at this; cases this
    | false =>
      refine List.pairwise_cons.2 ⟨fun x hx => ?_, insB_asc h.2⟩
      rcases mem_insB hx with rfl | hx
      · exact hq
      · exact h.1 x hx
theorem srtBF_perm : ∀ (s ps : List (List Nat)), (srtBF s ps).Perm (s ++ ps)
  | s, [] => by simp [srtBF]
  | s, p :: ps => by
    rw [srtBF]
    refine (srtBF_perm _ ps).trans ?_
    refine ((insB_perm p s).append_right ps).trans ?_
    exact List.perm_middle.symm
theorem srtBF_asc : ∀ {s ps : List (List Nat)}, Asc s → Asc (srtBF s ps)
  | s, [], h => h
  | s, p :: ps, h => by rw [srtBF]; exact srtBF_asc (s := insB p s) (ps := ps) (insB_asc h)
theorem srtB_unique {l ps : List (List Nat)} (h : l.Perm ps) (hd : Asc l) : l = srtB ps :=
  asc_unique (h.trans (srtBF_perm [] ps).symm) hd (srtBF_asc (by simp [Asc]))
theorem srtB_perm (ps : List (List Nat)) : (srtB ps).Perm ps := srtBF_perm [] ps
theorem srtBF_snoc : ∀ (s ps : List (List Nat)) (p : List Nat), srtBF s (ps ++ [p]) = insB p (srtBF s ps)
  | s, [], p => rfl
  | s, q :: ps, p => by rw [List.cons_append, srtBF, srtBF, srtBF_snoc]
/-- where a tree is put in -/
def insBAt (p : List Nat) : List (List Nat) → Nat
  | [] => 0
  | q :: qs => bif befN p q then 0 else insBAt p qs + 1
theorem insBAt_le (p : List Nat) : ∀ qs : List (List Nat), insBAt p qs ≤ qs.length
  | [] => Nat.le_refl _
  | q :: qs => by rw [insBAt]; cases befN p q <;> simp [insBAt_le p qs]
theorem insB_at (p : List Nat) : ∀ qs : List (List Nat), insB p qs = qs.take (insBAt p qs) ++ p :: qs.drop (insBAt p qs)
  | [] => rfl
  | q :: qs => by rw [insB, insBAt]; cases befN p q <;> simp [insB_at p qs]
theorem insBAt_step (p : List Nat) : ∀ (qs : List (List Nat)) (k : Nat) (q : List Nat), k ≤ insBAt p qs → qs[k]? = some q → (befN p q = true ∧ k = insBAt p qs) ∨ (befN p q = false ∧ k + 1 ≤ insBAt p qs)
  | [], k, q, hk, hq => by simp at hq
  | x :: qs, 0, q, hk, hq => by
    simp at hq; subst hq
    rw [insBAt]
    cases h : befN p x <;> simp
  | x :: qs, k + 1, q, hk, hq => by
    rw [insBAt] at hk ⊢
    cases h : befN p x with
    | true => rw [h] at hk; simp at hk
    | false =>
      rw [h] at hk
      simp only [cond_false] at hk ⊢
      rcases insBAt_step p qs k q (by omega) (by simpa using hq) with ⟨h1, h2⟩ | ⟨h1, h2⟩
      · exact .inl ⟨h1, by omega⟩
      · exact .inr ⟨h1, by omega⟩
end Go.Proofs.Ytofabikjjkapmaa

set_option linter.unusedVariables false
set_option linter.unusedSimpArgs false
namespace Go.Proofs.Ytofabikjjkapmaa

structure STO {α : Type} (lt : α → α → Bool) : Prop where
  irrefl : ∀ x, lt x x = false
  trans : ∀ {x y z}, lt x y = true → lt y z = true → lt x z = true
  tri : ∀ {x y}, lt x y = false → lt y x = false → x = y
namespace STO
variable {α β : Type} {lt : α → α → Bool} {l2 : β → β → Bool}
theorem asymm (h : STO lt) {x y : α} (a : lt x y = true) : lt y x = false := by
  cases b : lt y x with
  | false => rfl
  | true => have := h.trans a b; rw [h.irrefl] at this; cases this
theorem ntrans (h : STO lt) {x y z : α} (a : lt x y = false) (b : lt y z = false) : lt x z = false := by
  cases c : lt x z with
  | false => rfl
  | true =>
    cases d : lt y x with
    | true => have := h.trans d c; rw [b] at this; cases this
    | false => have := h.tri a d; subst this; rw [b] at c; cases c
theorem bef : STO befN := ⟨befN_irrefl, befN_trans, befN_tri⟩
theorem pull (h : STO lt) {f : β → α} (inj : ∀ {a b}, f a = f b → a = b) : STO (fun a b => lt (f a) (f b)) :=
  ⟨fun x => h.irrefl _, fun a b => h.trans a b, fun a b => inj (h.tri a b)⟩
end STO
/-- pairs: by the first, then by the second -/
def lexP {α β : Type} (l1 : α → α → Bool) (l2 : β → β → Bool) (a b : α × β) : Bool := bif l1 a.1 b.1 then true else bif l1 b.1 a.1 then false else l2 a.2 b.2
theorem lexP_eq {α β : Type} {l1 : α → α → Bool} {l2 : β → β → Bool} (h : STO l1) (a : α) (b c : β) : lexP l1 l2 (a, b) (a, c) = l2 b c := by simp [lexP, h.irrefl]
theorem lexP_tt {α β : Type} {l1 : α → α → Bool} {l2 : β → β → Bool} {a b : α × β} (h : l1 a.1 b.1 = true) : lexP l1 l2 a b = true := by simp [lexP, h]
theorem lexP_cases {α β : Type} {l1 : α → α → Bool} {l2 : β → β → Bool} (h1 : STO l1) {a b : α × β} (h : lexP l1 l2 a b = true) : l1 a.1 b.1 = true ∨ (a.1 = b.1 ∧ l2 a.2 b.2 = true) := by
  unfold lexP at h
  cases h2 : l1 a.1 b.1 with
  | true => exact .inl rfl
  | false =>
    cases h3 : l1 b.1 a.1 with
    | true => rw [h2, h3] at h; cases h
    | false => rw [h2, h3] at h; exact .inr ⟨h1.tri h2 h3, h⟩
theorem lexP_ncases {α β : Type} {l1 : α → α → Bool} {l2 : β → β → Bool} (h1 : STO l1) {a b : α × β} (h : lexP l1 l2 a b = false) : l1 b.1 a.1 = true ∨ (a.1 = b.1 ∧ l2 a.2 b.2 = false) := by
  unfold lexP at h
  cases h2 : l1 a.1 b.1 with
  | true => rw [h2] at h; cases h
  | false =>
    cases h3 : l1 b.1 a.1 with
    | true => exact .inl rfl
    | false => rw [h2, h3] at h; exact .inr ⟨h1.tri h2 h3, h⟩
theorem STO.lexP {α β : Type} {l1 : α → α → Bool} {l2 : β → β → Bool} (h1 : STO l1) (h2 : STO l2) : STO (lexP l1 l2) where
  irrefl x := by simp [Go.Proofs.Ytofabikjjkapmaa.lexP, h1.irrefl, h2.irrefl]
  trans {x y z} a b := by
    obtain ⟨x1, x2⟩ := x; obtain ⟨y1, y2⟩ := y; obtain ⟨z1, z2⟩ := z
    rcases lexP_cases h1 a with a | ⟨a1, a2⟩
    · rcases lexP_cases h1 b with b | ⟨b1, b2⟩
      · exact lexP_tt (h1.trans a b)
      · simp only at b1; subst b1; exact lexP_tt a
    · simp only at a1; subst a1
      rcases lexP_cases h1 b with b | ⟨b1, b2⟩
      · exact lexP_tt b
      · simp only at b1; subst b1; rw [lexP_eq h1]; exact h2.trans a2 b2
  tri {x y} a b := by
    obtain ⟨x1, x2⟩ := x; obtain ⟨y1, y2⟩ := y
    rcases lexP_ncases h1 a with a | ⟨a1, a2⟩
    · rw [lexP_tt a] at b; cases b
    · simp only at a1; subst a1
      rw [lexP_eq h1] at b
      have e : x2 = y2 := h2.tri a2 b
      rw [e]
/-- lists: element by element; a beginning first -/
def lexL {α : Type} (lt : α → α → Bool) : List α → List α → Bool
  | [], [] => false
  | [], _ :: _ => true
  | _ :: _, [] => false
  | x :: xs, y :: ys => bif lt x y then true else bif lt y x then false else lexL lt xs ys
theorem lexL_cons {α : Type} (lt : α → α → Bool) (x y : α) (xs ys : List α) : lexL lt (x :: xs) (y :: ys) = lexP lt (lexL lt) (x, xs) (y, ys) := rfl
theorem STO.lexL {α : Type} {lt : α → α → Bool} (h : STO lt) : STO (lexL lt) where
  irrefl x := by
    induction x with
    | nil => rfl
    | cons x xs ih => simp [Go.Proofs.Ytofabikjjkapmaa.lexL, h.irrefl, ih]
  trans {x} := by
    induction x with
    | nil =>
      intro y z a b
      cases z with
      | nil => cases y with | nil => exact b | cons _ _ => cases b
      | cons z zs => rfl
    | cons x xs ih =>
      intro y z a b
      cases y with
      | nil => cases a
      | cons y ys =>
        cases z with
        | nil => cases b
        | cons z zs =>
          rw [lexL_cons] at a b ⊢
          rcases lexP_cases h a with a | ⟨a1, a2⟩
          · rcases lexP_cases h b with b | ⟨b1, b2⟩
            · exact lexP_tt (h.trans a b)
            · simp only at b1; subst b1; exact lexP_tt a
          · simp only at a1; subst a1
            rcases lexP_cases h b with b | ⟨b1, b2⟩
            · exact lexP_tt b
            · simp only at b1; subst b1; rw [lexP_eq h]; exact ih a2 b2
  tri {x} := by
    induction x with
    | nil =>
      intro y a b
      cases y with
      | nil => rfl
      | cons _ _ => cases a
    | cons x xs ih =>
      intro y a b
      cases y with
      | nil => cases b
      | cons y ys =>
        rw [lexL_cons] at a b
        rcases lexP_ncases h a with a | ⟨a1, a2⟩
        · rw [lexP_tt a] at b; cases b
        · simp only at a1; subst a1
          rw [lexP_eq h] at b
          rw [ih a2 b]

/-- sorting by insertion -/
def insS {α : Type} (lt : α → α → Bool) (p : α) : List α → List α
  | [] => [p]
  | q :: qs => bif lt p q then p :: q :: qs else q :: insS lt p qs
def srtSF {α : Type} (lt : α → α → Bool) (s : List α) : List α → List α
  | [] => s
  | p :: ps => srtSF lt (insS lt p s) ps
def srtS {α : Type} (lt : α → α → Bool) (ps : List α) : List α := srtSF lt [] ps
def AscS {α : Type} (lt : α → α → Bool) (l : List α) : Prop := l.Pairwise fun a b => lt b a = false
section
variable {α : Type} {lt : α → α → Bool}
theorem insS_perm (p : α) : ∀ qs : List α, (insS lt p qs).Perm (p :: qs)
  | [] => .refl _
  | q :: qs => by
    rw [insS]
    cases lt p q with
    | true => exact .refl _
    | false => exact ((insS_perm p qs).cons q).trans (.swap p q qs)
theorem insS_asc (h : STO lt) {p : α} : ∀ {qs : List α}, AscS lt qs → AscS lt (insS lt p qs)
  | [], _ => by simp [insS, AscS]
  | q :: qs, hq => by
    rw [AscS, List.pairwise_cons] at hq
    rw [insS]
    cases hb : lt p q with
    | true =>
      refine List.pairwise_cons.2 ⟨fun x hx => ?_, List.pairwise_cons.2 hq⟩
      rcases List.mem_cons.1 hx with rfl | hx
      · exact h.asymm hb
      · exact h.ntrans (hq.1 x hx) (h.asymm hb)
    | false =>
      refine List.pairwise_cons.2 ⟨fun x hx => ?_, insS_asc h hq.2⟩
      have := (insS_perm p qs).mem_iff.1 hx
      rcases List.mem_cons.1 this with rfl | hx
      · exact hb
      · exact hq.1 x hx
theorem srtSF_perm : ∀ (s ps : List α), (srtSF lt s ps).Perm (s ++ ps)
  | s, [] => by simp [srtSF]
  | s, p :: ps => by
    rw [srtSF]
    refine (srtSF_perm _ ps).trans ?_
    refine ((insS_perm p s).append_right ps).trans ?_
    exact List.perm_middle.symm
theorem srtSF_asc (h : STO lt) : ∀ {s ps : List α}, AscS lt s → AscS lt (srtSF lt s ps)
  | s, [], hs => hs
  | s, p :: ps, hs => by rw [srtSF]; exact srtSF_asc h (s := insS lt p s) (ps := ps) (insS_asc h hs)
theorem srtS_unique (h : STO lt) {l ps : List α} (hp : l.Perm ps) (hd : AscS lt l) : l = srtS lt ps :=
  List.Perm.eq_of_pairwise (fun a b _ _ (h1 : lt b a = false) (h2 : lt a b = false) => h.tri h2 h1) hd (srtSF_asc h (by simp [AscS])) (hp.trans (by have := srtSF_perm (lt := lt) [] ps; simpa [srtS] using this.symm))
end

end Go.Proofs.Ytofabikjjkapmaa

set_option maxRecDepth 100000
set_option linter.unusedVariables false
set_option linter.unusedSimpArgs false
namespace Go.Proofs.Ytofabikjjkapmaa
open Go.RowKit Go.Sort Go.Shelf

/-- what k cells say of a datum; what they point to lies in blocks from B on, of numbers and of slices of numbers -/
structure Elt (α : Type) where
  k : Nat
  D : World → Nat → List Value → α → Prop
  len : ∀ {w B c x}, D w B c x → c.length = k
  one : ∀ {w B c x}, D w B c x → ∀ u ∈ c, u.oneCell' = true
  below : ∀ {w w' B c x}, D w B c x → Below w.heap.size w w' → D w' B c x
  mono : ∀ {w B B' c x}, D w B c x → B' ≤ B → D w B' c x
  kept : ∀ {w w' B c x} {e : TypeId} {v : Value}, D w B c x → w.grownBy w' v.ownBlock → BT w e v → tI ≠ e → tL ≠ e → D w' B c x

def Elts {α : Type} (E : Elt α) (w : World) (B : Nat) (css : List (List Value)) (xs : List α) : Prop := css.length = xs.length ∧ ∀ (i : Nat) (c : List Value) (x : α), css[i]? = some c → xs[i]? = some x → E.D w B c x
section
variable {α : Type} {E : Elt α} {w w' : World} {B : Nat} {css : List (List Value)} {xs : List α}
theorem Elts.nil (E : Elt α) (w : World) (B : Nat) : Elts E w B [] [] := ⟨rfl, fun i c x h => by simp at h⟩
theorem Elts.below (h : Elts E w B css xs) (hb : Below w.heap.size w w') : Elts E w' B css xs := ⟨h.1, fun i c x hc hx => E.below (h.2 i c x hc hx) hb⟩
theorem Elts.mono {B' : Nat} (h : Elts E w B css xs) (hB : B' ≤ B) : Elts E w B' css xs := ⟨h.1, fun i c x hc hx => E.mono (h.2 i c x hc hx) hB⟩
theorem Elts.kept {v : Value} {e : TypeId} (h : Elts E w B css xs) (hg : w.grownBy w' v.ownBlock) (hb : BT w e v) (h1 : tI ≠ e) (h2 : tL ≠ e) : Elts E w' B css xs := ⟨h.1, fun i c x hc hx => E.kept (h.2 i c x hc hx) hg hb h1 h2⟩
theorem Elts.snoc {c : List Value} {x : α} (h : Elts E w B css xs) (hx : E.D w B c x) : Elts E w B (css ++ [c]) (xs ++ [x]) := by
  refine ⟨by simp [h.1], fun i c' x' hc hx' => ?_⟩
  by_cases hlt : i < css.length
  · rw [List.getElem?_append_left hlt] at hc
    rw [List.getElem?_append_left (by rw [← h.1]; exact hlt)] at hx'
    exact h.2 i c' x' hc hx'
  · have hkl := (List.getElem?_eq_some_iff.1 hc).1
    simp at hkl
    have : i = css.length := by omega
    subst this
    rw [List.getElem?_append_right (Nat.le_refl _)] at hc
    rw [List.getElem?_append_right (by rw [h.1]; exact Nat.le_refl _), h.1] at hx'
    simp at hc hx'
    subst hc; subst hx'
    exact hx
theorem Elts.at_ {i : Nat} {x : α} (h : Elts E w B css xs) (hx : xs[i]? = some x) : ∃ c, css[i]? = some c ∧ E.D w B c x := by
  have hi : i < css.length := by rw [h.1]; exact (List.getElem?_eq_some_iff.1 hx).1
  exact ⟨_, List.getElem?_eq_getElem hi, h.2 i _ x (List.getElem?_eq_getElem hi) hx⟩
theorem Elts.set_ {i : Nat} {c : List Value} {x : α} (h : Elts E w B css xs) (hx : E.D w B c x) : Elts E w B (css.set i c) (xs.set i x) := by
  refine ⟨by simp [h.1], fun j c' x' hc hx' => ?_⟩
  rw [List.getElem?_set] at hc hx'
  by_cases hij : i = j
  · subst hij
    rw [if_pos rfl] at hc hx'
    split at hc
    · rw [if_pos (by rw [← h.1]; assumption)] at hx'
      injection hc with hc; injection hx' with hx'
      subst hc; subst hx'
      exact hx
    · cases hc
  · rw [if_neg hij] at hc hx'
    exact h.2 j c' x' hc hx'
end
/-- a list of one's own of such elements -/
def SLs {α : Type} (E : Elt α) (e : TypeId) (w : World) (B : Nat) (v : Value) (xs : List α) : Prop := ∃ css, OwnK w B e E.k v css ∧ Elts E w B css xs
section
variable {α : Type} {E : Elt α} {e : TypeId} {w w' : World} {B : Nat} {v : Value} {xs : List α}
theorem SLs.below (h : SLs E e w B v xs) (hb : Below w.heap.size w w') : SLs E e w' B v xs := by obtain ⟨css, h1, h2⟩ := h; exact ⟨css, h1.below hb, h2.below hb⟩
theorem SLs.mono {B' : Nat} (h : SLs E e w B v xs) (hB : B' ≤ B) : SLs E e w B' v xs := by obtain ⟨css, h1, h2⟩ := h; exact ⟨css, h1.mono hB, h2.mono hB⟩
theorem SLs.open_ (h : SLs E e w B v xs) : ∃ A c, v = .slice A xs.length c ∧ xs.length ≤ c ∧ c ≤ 9223372036854775807 := by
  obtain ⟨css, h1, h2⟩ := h
  have := h1.open_
  rwa [h2.1] at this
end

/-! ### sorted by the library -/
section
variable {α : Type} [Inhabited α] {enc : α → List Value} {k : Nat}
theorem flatK_list (hk : ∀ x, (enc x).length = k) (d : List α) : (flatK enc k d.toArray).toList = (d.map enc).flatten := by
  have hkk : ∀ c ∈ d.map enc, c.length = k := fun c hc => by obtain ⟨x, -, rfl⟩ := List.mem_map.1 hc; exact hk x
  apply List.ext_getElem?
  intro t
  by_cases ht : t < d.length * k
  · have k0 : 0 < k := by rcases Nat.eq_zero_or_pos k with h | h; subst h; simp at ht; exact h
    have hq : t / k < d.length := by rw [Nat.div_lt_iff_lt_mul k0]; exact ht
    have hm : t % k < k := Nat.mod_lt _ k0
    have hsz : t < (flatK enc k d.toArray).size := by rw [size_flatK]; simpa using ht
    have h1 : (flatK enc k d.toArray).toList[t]? = some ((enc (d[t / k]'hq))[t % k]'(by rw [hk]; exact hm)) := by
      rw [Array.getElem?_toList, Array.getElem?_eq_getElem hsz, ← getElem!_pos _ t hsz, get_flatK _ _ _ t (by simpa using ht)]
      rw [getElem!_pos d.toArray (t / k) (by simpa using hq), getElem!_pos _ (t % k) (by rw [hk]; exact hm)]
      simp
    rw [h1]
    have h2 := flat_get (css := d.map enc) (i := t / k) (j := t % k) hkk (by rw [List.getElem?_map, List.getElem?_eq_getElem hq]; rfl) (List.getElem?_eq_getElem (by rw [hk]; exact hm))
    rw [Nat.div_add_mod'] at h2
    exact h2.symm
  · rw [List.getElem?_eq_none (by rw [Array.length_toList, size_flatK]; simpa using ht), List.getElem?_eq_none (by rw [flat_len hkk, List.length_map]; omega)]
variable {w : World} {B g cap n : Nat} {e : TypeId} {d : List α} {os : Array Obj}
theorem holds_ownK (hk : ∀ x, (enc x).length = k) (h : OwnK w B e k (.slice (some ⟨g, 0, none⟩) d.length cap) (d.map enc)) : HoldsK enc k w g 0 d.toArray := by
  have hfl := flatK_list hk d
  rcases h.1.2 with ⟨e, _⟩ | ⟨g', cap', cur, he, h1, h2, h3, h4, h5, h6⟩
  · cases e
  simp only [Value.slice.injEq, Option.some.injEq, Addr.mk.injEq] at he
  obtain ⟨⟨rfl, -⟩, -, rfl⟩ := he
  intro j hj
  refine ⟨?_, by simp [World.frozen?, h2]⟩
  have h8 : (flatK enc k d.toArray)[j]? = cur[j]? := by
    rw [← Array.getElem?_toList, hfl, ← h6, List.getElem?_take_of_lt (by rw [List.length_map]; rw [size_flatK] at hj; simpa using hj), Array.getElem?_toList]
  simp only [World.cell?, h2, Nat.zero_add]
  simp only [Option.isSome_none, Bool.false_eq_true, if_false]
  rw [← h8, Array.getElem?_eq_getElem hj, getElem!_pos _ j hj]
  rfl
theorem grownBy_srtK (d : Array α) : w.grownBy (sortWorldK enc k w g 0 n d os) (some g) := by
  unfold sortWorldK putRowK
  refine ⟨rfl, rfl, rfl, by simp, fun k' hk' hne => ?_⟩
  rw [heap_grow_old _ _ (by simpa using hk')]
  have : g ≠ k' := fun e => hne (by rw [e])
  simp [putRow, mapBlock, Sort.ahead, Array.getElem?_modify, this]
theorem own_srtK (hk : ∀ x, (enc x).length = k) {ts : List α} (h : OwnK w B e k (.slice (some ⟨g, 0, none⟩) d.length cap) (d.map enc)) (hl : ts.length = d.length) :
    OwnK (sortWorldK enc k w g 0 n ts.toArray os) B e k (.slice (some ⟨g, 0, none⟩) d.length cap) (ts.map enc) := by
  have hkk : ∀ (l : List α), ∀ c ∈ l.map enc, c.length = k := fun l c hc => by obtain ⟨x, -, rfl⟩ := List.mem_map.1 hc; exact hk x
  rcases h.1.2 with ⟨e, _⟩ | ⟨g', cap', cur, he, h1, h2, h3, h4, h5, h6⟩
  · cases e
  simp only [Value.slice.injEq, Option.some.injEq, Addr.mk.injEq] at he
  obtain ⟨⟨rfl, -⟩, -, rfl⟩ := he
  rw [List.length_map] at h3 h6
  have hg : g < w.heap.size := (Array.getElem?_eq_some_iff.1 h2).1
  have hheap : (sortWorldK enc k w g 0 n ts.toArray os).heap[g]? = some (.cells (putCells id 0 (flatK enc k ts.toArray) cur) e (0, 0)) := by
    unfold sortWorldK putRowK
    rw [heap_grow_old _ _ (by simpa using hg)]
    simp [putRow, mapBlock, Sort.ahead, Array.getElem?_modify, h2, onCells]
  refine ⟨⟨by rw [flat_len (hkk ts)], .inr ⟨g, cap, _, by simp [hl], h1, hheap, by simp; omega, h4, by simp [putCells, h5], ?_⟩⟩, hkk ts⟩
  have hsz : (flatK enc k ts.toArray).size ≤ cur.size := by rw [size_flatK, h5]; simp only [List.size_toArray]; rw [hl]; exact Nat.mul_le_mul_right k h3
  have ht := take_put (α := Value) (enc := id) cur (flatK enc k ts.toArray).toList (by simpa using hsz)
  have e1 : (flatK enc k ts.toArray).toList.toArray = flatK enc k ts.toArray := by simp
  have e2 : (flatK enc k ts.toArray).toList.length = ts.length * k := by simp
  rw [e1, e2, List.map_id, flatK_list hk] at ht
  rw [List.length_map]
  exact ht
end

/-- an element with the cells that say it -/
abbrev EltS {α : Type} (E : Elt α) (w : World) (B : Nat) := {p : List Value × α // E.D w B p.1 p.2}
theorem mkElts {α : Type} {E : Elt α} {w : World} {B : Nat} : ∀ {css : List (List Value)} {xs : List α}, Elts E w B css xs → ∃ d : List (EltS E w B), d.map (fun x => x.1.1) = css ∧ d.map (fun x => x.1.2) = xs
  | [], [], _ => ⟨[], rfl, rfl⟩
  | [], _ :: _, h => by have := h.1; simp at this
  | _ :: _, [], h => by have := h.1; simp at this
  | c :: css, x :: xs, h => by
    obtain ⟨d, h1, h2⟩ := mkElts (css := css) (xs := xs) ⟨by have := h.1; simpa using this, fun i c' x' hc hx => h.2 (i + 1) c' x' (by simpa using hc) (by simpa using hx)⟩
    exact ⟨⟨(c, x), h.2 0 c x (by simp) (by simp)⟩ :: d, by simp [h1], by simp [h2]⟩

/-- slices.SortFunc at structs of one's own, where the comparison reads them -/
theorem sort_eltsP {P : Program} {ρ : Ren} (L : SlLaysF0.n6 P ρ) {α : Type} (E : Elt α) {e : TypeId} (aE : ∀ w, (isAgg (ρ.t 24)).run P w = .ok true w) (zE : ∀ w, (Go.sizeOf (ρ.t 24)).run P w = .ok E.k w)
    (lt : α → α → Bool) (sto : STO lt) (cf : α → α → Int) (hcf : ∀ x y, decide (cf x y < 0) = lt x y) (g : Nat) (eg : ∀ args w, (callFunc g args).run P w = .ok (.enter g args) w) (h1 : tI ≠ e) (h2 : tL ≠ e)
    (hcmp : ∀ (W : World) (B : Nat) (c c' : List Value) (x y : α), E.D W B c x → E.D W B c' y → Calls P g #[.agg c.toArray, .agg c'.toArray] W fun e w' => e = .returned (.int .i64 (cf x y)) ∧ ∃ q os, w' = grow (W.drewN q) os)
    (w : World) (B cap : Nat) (A : Option Addr) (css : List (List Value)) (xs : List α) (h : OwnK w B e E.k (.slice A css.length cap) css) (hr : Elts E w B css xs) (hn : css.length ≤ 1000000) :
    Calls P (ρ.f 6) #[.slice A css.length cap, .func (.func g) #[] #[]] w fun e' w' => e' = .returned (.tuple #[]) ∧
      ∃ css', css'.length = css.length ∧ OwnK w' B e E.k (.slice A css.length cap) css' ∧ Elts E w' B css' (srtS lt xs) ∧ w.grownBy w' (Value.ownBlock (.slice A css.length cap)) ∧ css'.Perm css := by
  rcases h.cases with ⟨he, rfl⟩ | ⟨gb, cap', cur, he, hBg, hgs, -⟩
  · simp only [Value.slice.injEq] at he
    obtain ⟨rfl, -, rfl⟩ := he
    have hb : xs = [] := by have h0 := hr.1; exact List.eq_nil_of_length_eq_zero h0.symm
    subst hb
    refine (AnyF.slices_SortFunc_none { L with } none 0 _ w).mono ?_
    rintro e w' ⟨rfl, rfl⟩
    exact ⟨rfl, [], rfl, h, hr, World.grownBy.refl _ _, List.Perm.refl _⟩
  · simp only [Value.slice.injEq] at he
    obtain ⟨rfl, -, rfl⟩ := he
    obtain ⟨d, hd1, hd2⟩ := mkElts hr
    by_cases hx0 : d = []
    · subst hx0
      simp at hd1
      subst hd1
      have hb : xs = [] := by simpa using hd2.symm
      subst hb
      refine (AnyF.slices_SortFunc_none { L with } (some ⟨gb, 0, none⟩) cap _ w).mono ?_
      rintro e w' ⟨rfl, rfl⟩
      exact ⟨rfl, [], rfl, h, hr, World.grownBy.refl _ _, List.Perm.refl _⟩
    haveI : Inhabited (EltS E w B) := ⟨d.head hx0⟩
    have hdl : d.length = css.length := by rw [← hd1, List.length_map]
    have hk : ∀ x : EltS E w B, (x.1.1).length = E.k := fun x => E.len x.2
    have ho : OwnK w B e E.k (.slice (some ⟨gb, 0, none⟩) d.length cap) (d.map fun x => x.1.1) := by rw [hd1, hdl]; exact h
    have hone : ∀ x : EltS E w B, ∀ v ∈ x.1.1, v.oneCell' = true := fun x => E.one x.2
    have hbt : BT w e (.slice (some ⟨gb, 0, none⟩) css.length cap) := h.bt
    have hkeep : ∀ (x : EltS E w B) (m : Nat) (dk : Array (EltS E w B)) (os : Array Obj), E.D (sortWorldK (fun x : EltS E w B => x.1.1) E.k w gb 0 m dk os) B x.1.1 x.1.2 := fun x m dk os =>
      E.kept (v := .slice (some ⟨gb, 0, none⟩) css.length cap) x.2 (grownBy_srtK dk) hbt h1 h2
    have hlay : CmpLays P g #[] (fun x : EltS E w B => x.1.1) E.k (fun x y => cf x.1.2 y.1.2) gb 0 d.toArray.size w := fun m os dk _ x y =>
      (hcmp _ B _ _ _ _ (hkeep x m dk os) (hkeep y m dk os)).mono fun e w' ⟨he, q, os', hw⟩ => ⟨he, q, os', hw⟩
    have hlt : ∀ x y : EltS E w B, ltOf (fun x y : EltS E w B => cf x.1.2 y.1.2) x y = lt x.1.2 y.1.2 := fun x y => hcf _ _
    have hswo : SWO (ltOf fun x y : EltS E w B => cf x.1.2 y.1.2) :=
      { irrefl := fun x => by rw [hlt]; exact sto.irrefl _
        trans := fun x y z a b => by rw [hlt] at *; exact sto.trans a b
        ntrans := fun x y z a b => by rw [hlt] at *; exact sto.ntrans a b }
    have hcon := AnyQ.slices_SortFunc L E.k aE zE (fun x : EltS E w B => x.1.1) hk hone _ hswo g #[] gb 0 cap d.toArray w eg hlay (holds_ownK hk ho) hgs (by simp; omega)
    rw [List.size_toArray, hdl] at hcon
    refine hcon.mono ?_
    rintro e' w' ⟨rfl, d', n, os, hp, hs, rfl⟩
    have hsz : d'.size = css.length := by have := hp.1; simp at this; omega
    have hperm : d'.toList.Perm d := by
      have h3 := hp.2.2
      rw [← hsz] at h3
      simp only [Array.extract_size] at h3
      have e : (d.toArray.extract 0 d'.size).toList = d := by
        rw [show d'.size = d.toArray.size by simp; omega, Array.extract_size]
      rw [e] at h3
      exact h3
    have hasc : AscS lt (d'.toList.map fun x => x.1.2) := by
      rw [AscS, List.pairwise_iff_getElem]
      intro i j hi hj hij
      simp at hi hj
      have h4 := hs i j (Nat.zero_le _) hij (by omega)
      rw [hlt, getElem!_pos d' i (by omega), getElem!_pos d' j (by omega)] at h4
      simpa using h4
    have hL : (d'.toList.map fun x => x.1.2) = srtS lt xs := srtS_unique sto (by rw [← hd2]; exact hperm.map _) hasc
    have hl : d'.toList.length = d.length := by simp; omega
    have hfin := own_srtK (n := n) (os := os) hk ho hl
    simp only [Array.toArray_toList] at hfin
    rw [hdl] at hfin
    refine ⟨rfl, d'.toList.map (fun x => x.1.1), by simp; omega, hfin, ⟨by rw [← hL]; simp, fun i c x hc hx => ?_⟩, grownBy_srtK d', by rw [← hd1]; exact hperm.map _⟩
    rw [← hL, List.getElem?_map] at hx
    rw [List.getElem?_map] at hc
    cases hx' : d'.toList[i]? with
    | none => rw [hx'] at hc; cases hc
    | some z =>
      rw [hx'] at hc hx
      simp only [Option.map_some, Option.some.injEq] at hc hx
      subst hc; subst hx
      exact hkeep z _ _ _
end Go.Proofs.Ytofabikjjkapmaa

set_option maxRecDepth 100000
namespace Go.Proofs
open Go.Shelf Go.RowKit Go.Lib Go.Sort
def Try.lsort_ren : Go.Shelf.Ren := ⟨fun | 6 => 64 | 15 => 87 | 14 => 88 | 28 => 103 | 29 => 104 | 20 => 105 | 21 => 106 | 22 => 107 | 23 => 108 | 24 => 109 | 25 => 110 | 26 => 111 | 27 => 112 | 46 => 128 | 47 => 124 | 48 => 125 | 49 => 129 | 50 => 130 | 57 => 136 | n => n, fun | 22 => 22 | 24 => 34 | 25 => 74 | 3 => 3 | 39 => 97 | 0 => 0 | 53 => 113 | 55 => 68 | 4 => 4 | 46 => 106 | 45 => 105 | 50 => 110 | 5 => 5 | 9 => 9 | 66 => 126 | 70 => 130 | 76 => 136 | 77 => 137 | n => n, fun | n => n⟩
theorem Try.lsort : Go.Proofs.SlLaysF.n6 Try.prog Try.lsort_ren := {
  mixed := by kernel_rfl
  f6 := ⟨Try.f64.name, by decide, Try.func64.trans (congrArg some (by kernel_rfl))⟩
  f14 := ⟨Try.f88.name, by decide, Try.func88.trans (congrArg some (by kernel_rfl))⟩
  f15 := Try.func87.trans (congrArg some (by kernel_rfl))
  f20 := ⟨Try.f105.name, by decide, Try.func105.trans (congrArg some (by kernel_rfl))⟩
  f21 := ⟨Try.f106.name, by decide, Try.func106.trans (congrArg some (by kernel_rfl))⟩
  f22 := ⟨Try.f107.name, by decide, Try.func107.trans (congrArg some (by kernel_rfl))⟩
  f23 := ⟨Try.f108.name, by decide, Try.func108.trans (congrArg some (by kernel_rfl))⟩
  f24 := ⟨Try.f109.name, by decide, Try.func109.trans (congrArg some (by kernel_rfl))⟩
  f25 := ⟨Try.f110.name, by decide, Try.func110.trans (congrArg some (by kernel_rfl))⟩
  f26 := ⟨Try.f111.name, by decide, Try.func111.trans (congrArg some (by kernel_rfl))⟩
  f27 := ⟨Try.f112.name, by decide, Try.func112.trans (congrArg some (by kernel_rfl))⟩
  f28 := Try.func103.trans (congrArg some (by kernel_rfl))
  f29 := Try.func104.trans (congrArg some (by kernel_rfl))
  f46 := ⟨Try.f128.name, by decide, Try.func128.trans (congrArg some (by kernel_rfl))⟩
  f47 := Try.func124.trans (congrArg some (by kernel_rfl))
  f48 := Try.func125.trans (congrArg some (by kernel_rfl))
  f49 := ⟨Try.f129.name, by decide, Try.func129.trans (congrArg some (by kernel_rfl))⟩
  f50 := ⟨Try.f130.name, by decide, Try.func130.trans (congrArg some (by kernel_rfl))⟩
  f57 := ⟨Try.f136.name, by decide, Try.func136.trans (congrArg some (by kernel_rfl))⟩
  t0 := Try.underlying0
  a0 := Try.isAgg0
  z0 := Try.sizeOf0
  v0 := Try.zeroValue0
  t3 := Try.underlying3
  a3 := Try.isAgg3
  z3 := Try.sizeOf3
  v3 := Try.zeroValue3
  t4 := Try.underlying4
  a4 := Try.isAgg4
  z4 := Try.sizeOf4
  v4 := Try.zeroValue4
  t5 := Try.underlying5
  a5 := Try.isAgg5
  z5 := Try.sizeOf5
  v5 := Try.zeroValue5
  t9 := Try.underlying9
  a9 := Try.isAgg9
  z9 := Try.sizeOf9
  v9 := Try.zeroValue9
  t22 := Try.underlying22
  a22 := Try.isAgg22
  z22 := Try.sizeOf22
  v22 := Try.zeroValue22
  a24 := Try.isAgg34
  z24 := Try.sizeOf34
  t25 := Try.underlying74
  a25 := Try.isAgg74
  z25 := Try.sizeOf74
  v25 := Try.zeroValue74
  t39 := Try.underlying97
  a39 := Try.isAgg97
  z39 := Try.sizeOf97
  v39 := Try.zeroValue97
  t45 := Try.underlying105
  a45 := Try.isAgg105
  z45 := Try.sizeOf105
  v45 := Try.zeroValue105
  t46 := Try.underlying106
  a46 := Try.isAgg106
  z46 := Try.sizeOf106
  v46 := Try.zeroValue106
  t50 := Try.underlying110
  a50 := Try.isAgg110
  z50 := Try.sizeOf110
  v50 := Try.zeroValue110
  t53 := Try.underlying113
  a53 := Try.isAgg113
  z53 := Try.sizeOf113
  v53 := Try.zeroValue113
  t55 := Try.underlying68
  a55 := Try.isAgg68
  z55 := Try.sizeOf68
  v55 := Try.zeroValue68
  t66 := Try.underlying126
  a66 := Try.isAgg126
  z66 := Try.sizeOf126
  v66 := Try.zeroValue126
  t70 := Try.underlying130
  a70 := Try.isAgg130
  z70 := Try.sizeOf130
  v70 := Try.zeroValue130
  t76 := Try.underlying136
  a76 := Try.isAgg136
  z76 := Try.sizeOf136
  v76 := Try.zeroValue136
  t77 := Try.underlying137
  a77 := Try.isAgg137
  z77 := Try.sizeOf137
  v77 := Try.zeroValue137 }
end Go.Proofs

set_option maxRecDepth 100000
set_option linter.unusedVariables false
set_option linter.unusedSimpArgs false
namespace Go.Proofs.Ytofabikjjkapmaa
open Go.RowKit Go.Sort Go.Shelf

theorem i_canonDesc (w : World) (v v' : Value) (a b : List Int) (ha : Ints w v a) (hb : Ints w v' b) :
    Calls Try.prog 65 #[v, v'] w fun e w' => e = .returned (.int .i64 (cmpL b a)) ∧ w = w' := by
  have HA := Lib.hid ha
  have HB := Lib.hid hb
  obtain ⟨A, c, rfl, -, -, -⟩ := ha.open_
  obtain ⟨A', c', rfl, -, -, -⟩ := hb.open_
  clear ha hb
  go_enter Try.func65, Try.ntmps65
  go_wp2_with (go_at_call 66; refine (lib_Compare _ _ _ b a HB.out HA.out).mono ?_; rintro e w1 ⟨rfl, rfl⟩)
  go_ret
  exact ⟨rfl, rfl⟩

/-- a list of numbers of one's own, with what it holds -/
abbrev Row1s (w : World) (B : Nat) := {p : Value × List Nat // OwnInts w B tI p.1 (up p.2)}
instance (w : World) (B : Nat) : Inhabited (Row1s w B) := ⟨⟨(.slice none 0 0, []), OwnInts.nil _ _ _⟩⟩

theorem mkRows {w : World} {B : Nat} : ∀ {vs : List Value} {bs : List (List Nat)}, RR w B vs (bs.map up) → ∃ d : List (Row1s w B), d.map (fun x => x.1.1) = vs ∧ d.map (fun x => x.1.2) = bs
  | [], [], _ => ⟨[], rfl, rfl⟩
  | [], _ :: _, h => by have := h.1; simp at this
  | _ :: _, [], h => by have := h.1; simp at this
  | v :: vs, b :: bs, h => by
    obtain ⟨d, h1, h2⟩ := mkRows (vs := vs) (bs := bs) ⟨by have := h.1; simpa using this, fun k u zs hu hz => h.2 (k + 1) u zs (by simpa using hu) (by simpa using hz)⟩
    exact ⟨⟨(v, b), h.2 0 v (up b) (by simp) (by simp)⟩ :: d, by simp [h1], by simp [h2]⟩

theorem rowCmp {w : World} {B : Nat} (x y : Row1s w B) : ltOf (fun (x y : Row1s w B) => cmpL (up y.1.2) (up x.1.2)) x y = ltN y.1.2 x.1.2 := cmpL_up _ _
theorem rowSwo (w : World) (B : Nat) : SWO (ltOf fun (x y : Row1s w B) => cmpL (up y.1.2) (up x.1.2)) where
  irrefl x := by rw [rowCmp]; exact ltN_irrefl _
  trans x y z h1 h2 := by rw [rowCmp] at *; exact ltN_trans h2 h1
  ntrans x y z h1 h2 := by rw [rowCmp] at *; exact ltN_ntrans h2 h1

theorem lib_SortDesc (w : World) (B cap : Nat) (A : Option Addr) (vs : List Value) (bs : List (List Nat)) (h : Own w B tL (.slice A vs.length cap) vs) (hr : RR w B vs (bs.map up)) (hn : vs.length ≤ 1000) :
    Calls Try.prog 64 #[.slice A vs.length cap, .func (.func 65) #[] #[]] w fun e w' => e = .returned (.tuple #[]) ∧
      ∃ vs', vs'.length = vs.length ∧ Own w' B tL (.slice A vs.length cap) vs' ∧ RR w' B vs' ((srtD bs).map up) ∧ w.grownBy w' (Value.ownBlock (.slice A vs.length cap)) := by
  rcases h.cases with ⟨he, rfl⟩ | ⟨g, cap', cur, he, hBg, hgs, -⟩
  · simp only [Value.slice.injEq] at he
    obtain ⟨rfl, -, rfl⟩ := he
    have hb : bs = [] := by have h0 := hr.1; rw [List.length_map] at h0; exact List.eq_nil_of_length_eq_zero h0.symm
    subst hb
    refine (AnyF.slices_SortFunc_none { Try.lsort with } none 0 _ w).mono ?_
    rintro e w' ⟨rfl, rfl⟩
    exact ⟨rfl, [], rfl, h, hr, World.grownBy.refl _ _⟩
  · simp only [Value.slice.injEq] at he
    obtain ⟨rfl, -, rfl⟩ := he
    obtain ⟨d, hd1, hd2⟩ := mkRows hr
    have hdl : d.length = vs.length := by rw [← hd1, List.length_map]
    have ho : Own w B tL (.slice (some ⟨g, 0, none⟩) d.length cap) (d.map fun x => x.1.1) := by rw [hd1, hdl]; exact h
    have hone : OneCell (fun x : Row1s w B => x.1.1) := fun x => (RR.one x.2).oneCell _ (by simp)
    have eg : ∀ args w, (callFunc 65 args).run Try.prog w = .ok (.enter 65 args) w := enters_of Try.func65 (by kernel_rfl) rfl
    have hkeep : ∀ (x : Row1s w B) (m : Nat) (dk : Array (Row1s w B)) (os : Array Obj), OwnInts (sortWorld (fun x : Row1s w B => x.1.1) w g 0 m dk os) B tI x.1.1 (up x.1.2) := fun x m dk os =>
      x.2.kept (v' := .slice (some ⟨g, 0, none⟩) vs.length cap) (grownBy_srt dk) (x.2.1.ne_of_type h (by decide))
    have hcmp : CmpReads Try.prog 65 #[] (fun x : Row1s w B => x.1.1) (fun x y => cmpL (up y.1.2) (up x.1.2)) g 0 d.toArray.size w := fun m os dk _ x y =>
      (i_canonDesc _ _ _ _ _ (hkeep x m dk os).ints (hkeep y m dk os).ints).mono fun e w' ⟨he, hw⟩ => ⟨he, 0, hw.symm⟩
    have hcon := Any.slices_SortFunc Try.lsort (fun x : Row1s w B => x.1.1) hone _ (rowSwo w B) 65 #[] g 0 cap d.toArray w eg hcmp.lays (holds_own ho) hgs (by simp; omega)
    rw [List.size_toArray, hdl] at hcon
    refine hcon.mono ?_
    rintro e w' ⟨rfl, d', n, os, hp, hs, rfl⟩
    have hsz : d'.size = vs.length := by have := hp.1; simp at this; omega
    have hperm : d'.toList.Perm d := by
      have h3 := hp.2.2
      rw [← hsz] at h3
      simp only [Array.extract_size] at h3
      have e : (d.toArray.extract 0 d'.size).toList = d := by
        rw [show d'.size = d.toArray.size by simp; omega, Array.extract_size]
      rw [e] at h3
      exact h3
    have hdesc : Desc (d'.toList.map fun x => x.1.2) := by
      rw [Desc, List.pairwise_iff_getElem]
      intro i j hi hj hij
      simp at hi hj
      have h4 := hs i j (Nat.zero_le _) hij (by omega)
      rw [rowCmp, getElem!_pos d' i (by omega), getElem!_pos d' j (by omega)] at h4
      simpa using h4
    have hL : (d'.toList.map fun x => x.1.2) = srtD bs := srtD_unique (by rw [← hd2]; exact hperm.map _) hdesc
    have hl : d'.toList.length = d.length := by simp; omega
    have hfin := own_srt (n := n) (os := os) ho hl
    simp only [Array.toArray_toList] at hfin
    rw [hdl] at hfin
    refine ⟨rfl, d'.toList.map (fun x => x.1.1), by simp; omega, hfin, ⟨by rw [← hL]; simp, fun k u zs hu hz => ?_⟩, grownBy_srt d'⟩
    rw [← hL, List.map_map, List.getElem?_map] at hz
    rw [List.getElem?_map] at hu
    cases hx : d'.toList[k]? with
    | none => rw [hx] at hu; cases hu
    | some x =>
      rw [hx] at hu hz
      simp only [Option.map_some, Option.some.injEq, Function.comp] at hu hz
      subst hu; subst hz
      exact hkeep x _ _ _
end Go.Proofs.Ytofabikjjkapmaa

set_option maxRecDepth 100000
set_option linter.unusedVariables false
set_option linter.unusedSimpArgs false
namespace Go.Proofs.Ytofabikjjkapmaa
open Go.RowKit

theorem ints_oneV (zs : List Int) : ∀ u ∈ ints zs, u.oneCell' = true := by
  intro u hu
  obtain ⟨z, _, rfl⟩ := List.mem_map.1 hu
  rfl

set_option maxHeartbeats 1000000 in
theorem lib_Clone (w : World) (v : Value) (zs : List Int) (ha : Ints w v zs) (hn : zs.length ≤ 4294967296) :
    Calls Try.prog 75 #[v] w fun e w' => ∃ r, e = .returned r ∧ OwnInts w' w.heap.size tI r zs ∧ Below w.heap.size w w' := by
  obtain ⟨A, c, rfl, l1, l2, h3⟩ := ha.open_
  have HA := Lib.hid ha
  clear h3 ha
  have OL := Lib.hid (own_lit w tI [] (by simp [maxLen]))
  have B1 := Lib.hid (below1 w (.cells #[] tI))
  have en := fun (W : World) (a : Option Addr) (n c : Nat) => Lib.run_eql_slice_nil (P := Try.prog) W 34 2 a n c 0 0 Try.underlying34
  go_enter Try.func75, Try.ntmps75
  cases A with
  | none =>
    have HZ := Lib.hid (show zs = [] by
      obtain ⟨A, c', hv, -, -, h3⟩ := HA.out.open_
      simp only [Value.slice.injEq] at hv
      obtain ⟨rfl, -, -⟩ := hv
      cases zs with
      | nil => rfl
      | cons z r => obtain ⟨ad, _, hA, _⟩ := h3 0 (by simp); cases hA)
    go_wp2_with fail
    go_ret
    refine ⟨_, rfl, ?_, Below.refl _ _⟩
    rw [HZ.out]
    exact OwnInts.nil _ _ _
  | some ad =>
    go_wp2_with (at_builtin; refine wpList_appN T_int OL.out (HA.out.below B1.out).1 (by rw [ints_len]; simp; omega) B1.out.size (ints_oneV _) rfl (by rfl) (by rfl) (by rfl) ?_; intro v1 w2 hown1 hgr1)
    go_ret
    exact ⟨_, rfl, ⟨by simpa using hown1, HA.out.2⟩, hgr1.below B1.out (by simp) OL.out.ge⟩

end Go.Proofs.Ytofabikjjkapmaa

