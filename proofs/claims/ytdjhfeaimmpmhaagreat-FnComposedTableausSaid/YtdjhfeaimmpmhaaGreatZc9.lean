/- Plain: strict total orders, lexicographic ones among them; sorting by insertion. | Lists of one's own of structs of k cells, over what an element's cells say; such a list sorted by the library. No program in sight. | Walks: slices.CompareFunc at forests; words for structs of two lists and a count. -/
import Derived.Test.YtdjhfeaimmpmhaaGreatZc5
import Derived.Test.YtdjhfeaimmpmhaaGreatZc7
import Derived.Test.YtdjhfeaimmpmhaaGreatZc6
import Derived.Shelf.SlSortCmp.WholeK
import Derived.Shelf.SlSortCmp.NoneTotal
import Derived.Test.YtdjhfeaimmpmhaaGreatZc8
set_option linter.unusedVariables false
set_option linter.unusedSimpArgs false
namespace Go.Proofs.YtdjhfeaimmpmhaaGreat

structure STO {α : Type} (lt : α → α → Bool) : Prop where
  irrefl : ∀ x, lt x x = false
  trans : ∀ {x y z}, lt x y = true → lt y z = true → lt x z = true
  tri : ∀ {x y}, lt x y = false → lt y x = false → x = y
namespace STO
variable {α β : Type} {lt : α → α → Bool} {l2 : β → β → Bool}
theorem asymm (h : STO lt) {x y : α} (a : lt x y = true) : lt y x = false := by
  cases b : lt y x with
  | false => rfl
  | true => have := h.trans a b; rw [h.irrefl] at this; cases this
theorem ntrans (h : STO lt) {x y z : α} (a : lt x y = false) (b : lt y z = false) : lt x z = false := by
  cases c : lt x z with
  | false => rfl
  | true =>
    cases d : lt y x with
    | true => have := h.trans d c; rw [b] at this; cases this
    | false => have := h.tri a d; subst this; rw [b] at c; cases c
theorem nat : STO Nat.blt where
  irrefl x := by cases h : Nat.blt x x with | false => rfl | true => have := (blt_iff _ _).1 h; omega
  trans {x y z} a b := (blt_iff _ _).2 (by have := (blt_iff _ _).1 a; have := (blt_iff _ _).1 b; omega)
  tri {x y} a b := by
    have h1 : ¬ x < y := fun h => by rw [(blt_iff _ _).2 h] at a; cases a
    have h2 : ¬ y < x := fun h => by rw [(blt_iff _ _).2 h] at b; cases b
    omega
theorem bef : STO befN := ⟨befN_irrefl, befN_trans, befN_tri⟩
theorem pull (h : STO lt) {f : β → α} (inj : ∀ {a b}, f a = f b → a = b) : STO (fun a b => lt (f a) (f b)) :=
  ⟨fun x => h.irrefl _, fun a b => h.trans a b, fun a b => inj (h.tri a b)⟩
end STO
/-- pairs: by the first, then by the second -/
def lexP {α β : Type} (l1 : α → α → Bool) (l2 : β → β → Bool) (a b : α × β) : Bool := bif l1 a.1 b.1 then true else bif l1 b.1 a.1 then false else l2 a.2 b.2
theorem lexP_eq {α β : Type} {l1 : α → α → Bool} {l2 : β → β → Bool} (h : STO l1) (a : α) (b c : β) : lexP l1 l2 (a, b) (a, c) = l2 b c := by simp [lexP, h.irrefl]
theorem lexP_tt {α β : Type} {l1 : α → α → Bool} {l2 : β → β → Bool} {a b : α × β} (h : l1 a.1 b.1 = true) : lexP l1 l2 a b = true := by simp [lexP, h]
theorem lexP_cases {α β : Type} {l1 : α → α → Bool} {l2 : β → β → Bool} (h1 : STO l1) {a b : α × β} (h : lexP l1 l2 a b = true) : l1 a.1 b.1 = true ∨ (a.1 = b.1 ∧ l2 a.2 b.2 = true) := by
  unfold lexP at h
  cases h2 : l1 a.1 b.1 with
  | true => exact .inl rfl
  | false =>
    cases h3 : l1 b.1 a.1 with
    | true => rw [h2, h3] at h; cases h
    | false => rw [h2, h3] at h; exact .inr ⟨h1.tri h2 h3, h⟩
theorem lexP_ncases {α β : Type} {l1 : α → α → Bool} {l2 : β → β → Bool} (h1 : STO l1) {a b : α × β} (h : lexP l1 l2 a b = false) : l1 b.1 a.1 = true ∨ (a.1 = b.1 ∧ l2 a.2 b.2 = false) := by
  unfold lexP at h
  cases h2 : l1 a.1 b.1 with
  | true => rw [h2] at h; cases h
  | false =>
    cases h3 : l1 b.1 a.1 with
    | true => exact .inl rfl
    | false => rw [h2, h3] at h; exact .inr ⟨h1.tri h2 h3, h⟩
theorem STO.lexP {α β : Type} {l1 : α → α → Bool} {l2 : β → β → Bool} (h1 : STO l1) (h2 : STO l2) : STO (lexP l1 l2) where
  irrefl x := by simp [Go.Proofs.YtdjhfeaimmpmhaaGreat.lexP, h1.irrefl, h2.irrefl]
  trans {x y z} a b := by
    obtain ⟨x1, x2⟩ := x; obtain ⟨y1, y2⟩ := y; obtain ⟨z1, z2⟩ := z
    rcases lexP_cases h1 a with a | ⟨a1, a2⟩
    · rcases lexP_cases h1 b with b | ⟨b1, b2⟩
      · exact lexP_tt (h1.trans a b)
      · simp only at b1; subst b1; exact lexP_tt a
    · simp only at a1; subst a1
      rcases lexP_cases h1 b with b | ⟨b1, b2⟩
      · exact lexP_tt b
      · simp only at b1; subst b1; rw [lexP_eq h1]; exact h2.trans a2 b2
  tri {x y} a b := by
    obtain ⟨x1, x2⟩ := x; obtain ⟨y1, y2⟩ := y
    rcases lexP_ncases h1 a with a | ⟨a1, a2⟩
    · rw [lexP_tt a] at b; cases b
    · simp only at a1; subst a1
      rw [lexP_eq h1] at b
      have e : x2 = y2 := h2.tri a2 b
      rw [e]
/-- lists: element by element; a beginning first -/
def lexL {α : Type} (lt : α → α → Bool) : List α → List α → Bool
  | [], [] => false
  | [], _ :: _ => true
  | _ :: _, [] => false
  | x :: xs, y :: ys => bif lt x y then true else bif lt y x then false else lexL lt xs ys
theorem lexL_cons {α : Type} (lt : α → α → Bool) (x y : α) (xs ys : List α) : lexL lt (x :: xs) (y :: ys) = lexP lt (lexL lt) (x, xs) (y, ys) := rfl
theorem STO.lexL {α : Type} {lt : α → α → Bool} (h : STO lt) : STO (lexL lt) where
  irrefl x := by
    induction x with
    | nil => rfl
    | cons x xs ih => simp [Go.Proofs.YtdjhfeaimmpmhaaGreat.lexL, h.irrefl, ih]
  trans {x} := by
    induction x with
    | nil =>
      intro y z a b
      cases z with
      | nil => cases y with | nil => exact b | cons _ _ => cases b
      | cons z zs => rfl
    | cons x xs ih =>
      intro y z a b
      cases y with
      | nil => cases a
      | cons y ys =>
        cases z with
        | nil => cases b
        | cons z zs =>
          rw [lexL_cons] at a b ⊢
          rcases lexP_cases h a with a | ⟨a1, a2⟩
          · rcases lexP_cases h b with b | ⟨b1, b2⟩
            · exact lexP_tt (h.trans a b)
            · simp only at b1; subst b1; exact lexP_tt a
          · simp only at a1; subst a1
            rcases lexP_cases h b with b | ⟨b1, b2⟩
            · exact lexP_tt b
            · simp only at b1; subst b1; rw [lexP_eq h]; exact ih a2 b2
  tri {x} := by
    induction x with
    | nil =>
      intro y a b
      cases y with
      | nil => rfl
      | cons _ _ => cases a
    | cons x xs ih =>
      intro y a b
      cases y with
      | nil => cases b
      | cons y ys =>
        rw [lexL_cons] at a b
        rcases lexP_ncases h a with a | ⟨a1, a2⟩
        · rw [lexP_tt a] at b; cases b
        · simp only at a1; subst a1
          rw [lexP_eq h] at b
          rw [ih a2 b]

/-- sorting by insertion -/
def insS {α : Type} (lt : α → α → Bool) (p : α) : List α → List α
  | [] => [p]
  | q :: qs => bif lt p q then p :: q :: qs else q :: insS lt p qs
def srtSF {α : Type} (lt : α → α → Bool) (s : List α) : List α → List α
  | [] => s
  | p :: ps => srtSF lt (insS lt p s) ps
def srtS {α : Type} (lt : α → α → Bool) (ps : List α) : List α := srtSF lt [] ps
def AscS {α : Type} (lt : α → α → Bool) (l : List α) : Prop := l.Pairwise fun a b => lt b a = false
section
variable {α : Type} {lt : α → α → Bool}
theorem insS_perm (p : α) : ∀ qs : List α, (insS lt p qs).Perm (p :: qs)
  | [] => .refl _
  | q :: qs => by
    rw [insS]
    cases lt p q with
    | true => exact .refl _
    | false => exact ((insS_perm p qs).cons q).trans (.swap p q qs)
theorem insS_asc (h : STO lt) {p : α} : ∀ {qs : List α}, AscS lt qs → AscS lt (insS lt p qs)
  | [], _ => by simp [insS, AscS]
  | q :: qs, hq => by
    rw [AscS, List.pairwise_cons] at hq
    rw [insS]
    cases hb : lt p q with
    | true =>
      refine List.pairwise_cons.2 ⟨fun x hx => ?_, List.pairwise_cons.2 hq⟩
      rcases List.mem_cons.1 hx with rfl | hx
      · exact h.asymm hb
      · exact h.ntrans (hq.1 x hx) (h.asymm hb)
    | false =>
      refine List.pairwise_cons.2 ⟨fun x hx => ?_, insS_asc h hq.2⟩
      have := (insS_perm p qs).mem_iff.1 hx
      rcases List.mem_cons.1 this with rfl | hx
      · exact hb
      · exact hq.1 x hx
theorem srtSF_perm : ∀ (s ps : List α), (srtSF lt s ps).Perm (s ++ ps)
  | s, [] => by simp [srtSF]
  | s, p :: ps => by
    rw [srtSF]
    refine (srtSF_perm _ ps).trans ?_
    refine ((insS_perm p s).append_right ps).trans ?_
    exact List.perm_middle.symm
theorem srtSF_asc (h : STO lt) : ∀ {s ps : List α}, AscS lt s → AscS lt (srtSF lt s ps)
  | s, [], hs => hs
  | s, p :: ps, hs => by rw [srtSF]; exact srtSF_asc h (s := insS lt p s) (ps := ps) (insS_asc h hs)
theorem srtS_unique (h : STO lt) {l ps : List α} (hp : l.Perm ps) (hd : AscS lt l) : l = srtS lt ps :=
  List.Perm.eq_of_pairwise (fun a b _ _ (h1 : lt b a = false) (h2 : lt a b = false) => h.tri h2 h1) hd (srtSF_asc h (by simp [AscS])) (hp.trans (by have := srtSF_perm (lt := lt) [] ps; simpa [srtS] using this.symm))
end

/-- forests: fewer trees first, then tree by tree -/
def ltK (f g : List (List Nat)) : Bool := lexP Nat.blt (lexL befN) (f.length, f) (g.length, g)
theorem STO.ltK : STO ltK := (STO.nat.lexP STO.bef.lexL).pull (f := fun f : List (List Nat) => (f.length, f)) fun h => by injection h
def ndN : List (List Nat) → Nat
  | [] => 0
  | t :: ts => t.length + ndN ts
/-- forests: fewer nodes first -/
def ltW (f g : List (List Nat)) : Bool := lexP Nat.blt Go.Proofs.YtdjhfeaimmpmhaaGreat.ltK (ndN f, f) (ndN g, g)
theorem STO.ltW : STO ltW := (STO.nat.lexP STO.ltK).pull (f := fun f : List (List Nat) => (ndN f, f)) fun h => by injection h
abbrev SP := List (List Nat) × List (List Nat)
/-- cuts: by the crowns, then by the trunks -/
def ltS : SP → SP → Bool := lexP Go.Proofs.YtdjhfeaimmpmhaaGreat.ltW Go.Proofs.YtdjhfeaimmpmhaaGreat.ltK
theorem STO.ltS : STO ltS := STO.ltW.lexP STO.ltK
end Go.Proofs.YtdjhfeaimmpmhaaGreat

set_option maxRecDepth 100000
set_option linter.unusedVariables false
set_option linter.unusedSimpArgs false
namespace Go.Proofs.YtdjhfeaimmpmhaaGreat
open Go.RowKit Go.Sort Go.Shelf

/-- what k cells say of a datum; what they point to lies in blocks from B on, of numbers and of slices of numbers -/
structure Elt (α : Type) where
  k : Nat
  D : World → Nat → List Value → α → Prop
  len : ∀ {w B c x}, D w B c x → c.length = k
  one : ∀ {w B c x}, D w B c x → ∀ u ∈ c, u.oneCell' = true
  below : ∀ {w w' B c x}, D w B c x → Below w.heap.size w w' → D w' B c x
  mono : ∀ {w B B' c x}, D w B c x → B' ≤ B → D w B' c x
  kept : ∀ {w w' B c x} {e : TypeId} {v : Value}, D w B c x → w.grownBy w' v.ownBlock → BT w e v → tI ≠ e → tL ≠ e → D w' B c x

def Elts {α : Type} (E : Elt α) (w : World) (B : Nat) (css : List (List Value)) (xs : List α) : Prop := css.length = xs.length ∧ ∀ (i : Nat) (c : List Value) (x : α), css[i]? = some c → xs[i]? = some x → E.D w B c x
section
variable {α : Type} {E : Elt α} {w w' : World} {B : Nat} {css : List (List Value)} {xs : List α}
theorem Elts.nil (E : Elt α) (w : World) (B : Nat) : Elts E w B [] [] := ⟨rfl, fun i c x h => by simp at h⟩
theorem Elts.below (h : Elts E w B css xs) (hb : Below w.heap.size w w') : Elts E w' B css xs := ⟨h.1, fun i c x hc hx => E.below (h.2 i c x hc hx) hb⟩
theorem Elts.mono {B' : Nat} (h : Elts E w B css xs) (hB : B' ≤ B) : Elts E w B' css xs := ⟨h.1, fun i c x hc hx => E.mono (h.2 i c x hc hx) hB⟩
theorem Elts.kept {v : Value} {e : TypeId} (h : Elts E w B css xs) (hg : w.grownBy w' v.ownBlock) (hb : BT w e v) (h1 : tI ≠ e) (h2 : tL ≠ e) : Elts E w' B css xs := ⟨h.1, fun i c x hc hx => E.kept (h.2 i c x hc hx) hg hb h1 h2⟩
theorem Elts.snoc {c : List Value} {x : α} (h : Elts E w B css xs) (hx : E.D w B c x) : Elts E w B (css ++ [c]) (xs ++ [x]) := by
  refine ⟨by simp [h.1], fun i c' x' hc hx' => ?_⟩
  by_cases hlt : i < css.length
  · rw [List.getElem?_append_left hlt] at hc
    rw [List.getElem?_append_left (by rw [← h.1]; exact hlt)] at hx'
    exact h.2 i c' x' hc hx'
  · have hkl := (List.getElem?_eq_some_iff.1 hc).1
    simp at hkl
    have : i = css.length := by omega
    subst this
    rw [List.getElem?_append_right (Nat.le_refl _)] at hc
    rw [List.getElem?_append_right (by rw [h.1]; exact Nat.le_refl _), h.1] at hx'
    simp at hc hx'
    subst hc; subst hx'
    exact hx
theorem Elts.at_ {i : Nat} {x : α} (h : Elts E w B css xs) (hx : xs[i]? = some x) : ∃ c, css[i]? = some c ∧ E.D w B c x := by
  have hi : i < css.length := by rw [h.1]; exact (List.getElem?_eq_some_iff.1 hx).1
  exact ⟨_, List.getElem?_eq_getElem hi, h.2 i _ x (List.getElem?_eq_getElem hi) hx⟩
theorem Elts.set_ {i : Nat} {c : List Value} {x : α} (h : Elts E w B css xs) (hx : E.D w B c x) : Elts E w B (css.set i c) (xs.set i x) := by
  refine ⟨by simp [h.1], fun j c' x' hc hx' => ?_⟩
  rw [List.getElem?_set] at hc hx'
  by_cases hij : i = j
  · subst hij
    rw [if_pos rfl] at hc hx'
    split at hc
    · rw [if_pos (by rw [← h.1]; assumption)] at hx'
      injection hc with hc; injection hx' with hx'
      subst hc; subst hx'
      exact hx
    · cases hc
  · rw [if_neg hij] at hc hx'
    exact h.2 j c' x' hc hx'
end
/-- a list of one's own of such elements -/
def SLs {α : Type} (E : Elt α) (e : TypeId) (w : World) (B : Nat) (v : Value) (xs : List α) : Prop := ∃ css, OwnK w B e E.k v css ∧ Elts E w B css xs
section
variable {α : Type} {E : Elt α} {e : TypeId} {w w' : World} {B : Nat} {v : Value} {xs : List α}
theorem SLs.below (h : SLs E e w B v xs) (hb : Below w.heap.size w w') : SLs E e w' B v xs := by obtain ⟨css, h1, h2⟩ := h; exact ⟨css, h1.below hb, h2.below hb⟩
theorem SLs.mono {B' : Nat} (h : SLs E e w B v xs) (hB : B' ≤ B) : SLs E e w B' v xs := by obtain ⟨css, h1, h2⟩ := h; exact ⟨css, h1.mono hB, h2.mono hB⟩
theorem SLs.open_ (h : SLs E e w B v xs) : ∃ A c, v = .slice A xs.length c ∧ xs.length ≤ c ∧ c ≤ 9223372036854775807 := by
  obtain ⟨css, h1, h2⟩ := h
  have := h1.open_
  rwa [h2.1] at this
end

/-! ### sorted by the library -/
section
variable {α : Type} [Inhabited α] {enc : α → List Value} {k : Nat}
theorem flatK_list (hk : ∀ x, (enc x).length = k) (d : List α) : (flatK enc k d.toArray).toList = (d.map enc).flatten := by
  have hkk : ∀ c ∈ d.map enc, c.length = k := fun c hc => by obtain ⟨x, -, rfl⟩ := List.mem_map.1 hc; exact hk x
  apply List.ext_getElem?
  intro t
  by_cases ht : t < d.length * k
  · have k0 : 0 < k := by rcases Nat.eq_zero_or_pos k with h | h; subst h; simp at ht; exact h
    have hq : t / k < d.length := by rw [Nat.div_lt_iff_lt_mul k0]; exact ht
    have hm : t % k < k := Nat.mod_lt _ k0
    have hsz : t < (flatK enc k d.toArray).size := by rw [size_flatK]; simpa using ht
    have h1 : (flatK enc k d.toArray).toList[t]? = some ((enc (d[t / k]'hq))[t % k]'(by rw [hk]; exact hm)) := by
      rw [Array.getElem?_toList, Array.getElem?_eq_getElem hsz, ← getElem!_pos _ t hsz, get_flatK _ _ _ t (by simpa using ht)]
      rw [getElem!_pos d.toArray (t / k) (by simpa using hq), getElem!_pos _ (t % k) (by rw [hk]; exact hm)]
      simp
    rw [h1]
    have h2 := flat_get (css := d.map enc) (i := t / k) (j := t % k) hkk (by rw [List.getElem?_map, List.getElem?_eq_getElem hq]; rfl) (List.getElem?_eq_getElem (by rw [hk]; exact hm))
    rw [Nat.div_add_mod'] at h2
    exact h2.symm
  · rw [List.getElem?_eq_none (by rw [Array.length_toList, size_flatK]; simpa using ht), List.getElem?_eq_none (by rw [flat_len hkk, List.length_map]; omega)]
variable {w : World} {B g cap n : Nat} {e : TypeId} {d : List α} {os : Array Obj}
theorem holds_ownK (hk : ∀ x, (enc x).length = k) (h : OwnK w B e k (.slice (some ⟨g, 0, none⟩) d.length cap) (d.map enc)) : HoldsK enc k w g 0 d.toArray := by
  have hfl := flatK_list hk d
  rcases h.1.2 with ⟨e, _⟩ | ⟨g', cap', cur, he, h1, h2, h3, h4, h5, h6⟩
  · cases e
  simp only [Value.slice.injEq, Option.some.injEq, Addr.mk.injEq] at he
  obtain ⟨⟨rfl, -⟩, -, rfl⟩ := he
  intro j hj
  refine ⟨?_, by simp [World.frozen?, h2]⟩
  have h8 : (flatK enc k d.toArray)[j]? = cur[j]? := by
    rw [← Array.getElem?_toList, hfl, ← h6, List.getElem?_take_of_lt (by rw [List.length_map]; rw [size_flatK] at hj; simpa using hj), Array.getElem?_toList]
  simp only [World.cell?, h2, Nat.zero_add]
  simp only [Option.isSome_none, Bool.false_eq_true, if_false]
  rw [← h8, Array.getElem?_eq_getElem hj, getElem!_pos _ j hj]
  rfl
theorem grownBy_srtK (d : Array α) : w.grownBy (sortWorldK enc k w g 0 n d os) (some g) := by
  unfold sortWorldK putRowK
  refine ⟨rfl, rfl, rfl, by simp, fun k' hk' hne => ?_⟩
  rw [heap_grow_old _ _ (by simpa using hk')]
  have : g ≠ k' := fun e => hne (by rw [e])
  simp [putRow, mapBlock, Sort.ahead, Array.getElem?_modify, this]
theorem own_srtK (hk : ∀ x, (enc x).length = k) {ts : List α} (h : OwnK w B e k (.slice (some ⟨g, 0, none⟩) d.length cap) (d.map enc)) (hl : ts.length = d.length) :
    OwnK (sortWorldK enc k w g 0 n ts.toArray os) B e k (.slice (some ⟨g, 0, none⟩) d.length cap) (ts.map enc) := by
  have hkk : ∀ (l : List α), ∀ c ∈ l.map enc, c.length = k := fun l c hc => by obtain ⟨x, -, rfl⟩ := List.mem_map.1 hc; exact hk x
  rcases h.1.2 with ⟨e, _⟩ | ⟨g', cap', cur, he, h1, h2, h3, h4, h5, h6⟩
  · cases e
  simp only [Value.slice.injEq, Option.some.injEq, Addr.mk.injEq] at he
  obtain ⟨⟨rfl, -⟩, -, rfl⟩ := he
  rw [List.length_map] at h3 h6
  have hg : g < w.heap.size := (Array.getElem?_eq_some_iff.1 h2).1
  have hheap : (sortWorldK enc k w g 0 n ts.toArray os).heap[g]? = some (.cells (putCells id 0 (flatK enc k ts.toArray) cur) e (0, 0)) := by
    unfold sortWorldK putRowK
    rw [heap_grow_old _ _ (by simpa using hg)]
    simp [putRow, mapBlock, Sort.ahead, Array.getElem?_modify, h2, onCells]
  refine ⟨⟨by rw [flat_len (hkk ts)], .inr ⟨g, cap, _, by simp [hl], h1, hheap, by simp; omega, h4, by simp [putCells, h5], ?_⟩⟩, hkk ts⟩
  have hsz : (flatK enc k ts.toArray).size ≤ cur.size := by rw [size_flatK, h5]; simp only [List.size_toArray]; rw [hl]; exact Nat.mul_le_mul_right k h3
  have ht := take_put (α := Value) (enc := id) cur (flatK enc k ts.toArray).toList (by simpa using hsz)
  have e1 : (flatK enc k ts.toArray).toList.toArray = flatK enc k ts.toArray := by simp
  have e2 : (flatK enc k ts.toArray).toList.length = ts.length * k := by simp
  rw [e1, e2, List.map_id, flatK_list hk] at ht
  rw [List.length_map]
  exact ht
end

/-- an element with the cells that say it -/
abbrev EltS {α : Type} (E : Elt α) (w : World) (B : Nat) := {p : List Value × α // E.D w B p.1 p.2}
theorem mkElts {α : Type} {E : Elt α} {w : World} {B : Nat} : ∀ {css : List (List Value)} {xs : List α}, Elts E w B css xs → ∃ d : List (EltS E w B), d.map (fun x => x.1.1) = css ∧ d.map (fun x => x.1.2) = xs
  | [], [], _ => ⟨[], rfl, rfl⟩
  | [], _ :: _, h => by have := h.1; simp at this
  | _ :: _, [], h => by have := h.1; simp at this
  | c :: css, x :: xs, h => by
    obtain ⟨d, h1, h2⟩ := mkElts (css := css) (xs := xs) ⟨by have := h.1; simpa using this, fun i c' x' hc hx => h.2 (i + 1) c' x' (by simpa using hc) (by simpa using hx)⟩
    exact ⟨⟨(c, x), h.2 0 c x (by simp) (by simp)⟩ :: d, by simp [h1], by simp [h2]⟩

/-- slices.SortFunc at structs of one's own, where the comparison reads them -/
theorem sort_eltsP {P : Program} {ρ : Ren} (L : SlLaysF0.n6 P ρ) {α : Type} (E : Elt α) {e : TypeId} (aE : ∀ w, (isAgg (ρ.t 24)).run P w = .ok true w) (zE : ∀ w, (Go.sizeOf (ρ.t 24)).run P w = .ok E.k w)
    (lt : α → α → Bool) (sto : STO lt) (cf : α → α → Int) (hcf : ∀ x y, decide (cf x y < 0) = lt x y) (g : Nat) (eg : ∀ args w, (callFunc g args).run P w = .ok (.enter g args) w) (h1 : tI ≠ e) (h2 : tL ≠ e)
    (hcmp : ∀ (W : World) (B : Nat) (c c' : List Value) (x y : α), E.D W B c x → E.D W B c' y → Calls P g #[.agg c.toArray, .agg c'.toArray] W fun e w' => e = .returned (.int .i64 (cf x y)) ∧ ∃ q os, w' = grow (W.drewN q) os)
    (w : World) (B cap : Nat) (A : Option Addr) (css : List (List Value)) (xs : List α) (h : OwnK w B e E.k (.slice A css.length cap) css) (hr : Elts E w B css xs) (hn : css.length ≤ 1000000) :
    Calls P (ρ.f 6) #[.slice A css.length cap, .func (.func g) #[] #[]] w fun e' w' => e' = .returned (.tuple #[]) ∧
      ∃ css', css'.length = css.length ∧ OwnK w' B e E.k (.slice A css.length cap) css' ∧ Elts E w' B css' (srtS lt xs) ∧ w.grownBy w' (Value.ownBlock (.slice A css.length cap)) ∧ css'.Perm css := by
  rcases h.cases with ⟨he, rfl⟩ | ⟨gb, cap', cur, he, hBg, hgs, -⟩
  · simp only [Value.slice.injEq] at he
    obtain ⟨rfl, -, rfl⟩ := he
    have hb : xs = [] := by have h0 := hr.1; exact List.eq_nil_of_length_eq_zero h0.symm
    subst hb
    refine (AnyF.slices_SortFunc_none { L with } none 0 _ w).mono ?_
    rintro e w' ⟨rfl, rfl⟩
    exact ⟨rfl, [], rfl, h, hr, World.grownBy.refl _ _, List.Perm.refl _⟩
  · simp only [Value.slice.injEq] at he
    obtain ⟨rfl, -, rfl⟩ := he
    obtain ⟨d, hd1, hd2⟩ := mkElts hr
    by_cases hx0 : d = []
    · subst hx0
      simp at hd1
      subst hd1
      have hb : xs = [] := by simpa using hd2.symm
      subst hb
      refine (AnyF.slices_SortFunc_none { L with } (some ⟨gb, 0, none⟩) cap _ w).mono ?_
      rintro e w' ⟨rfl, rfl⟩
      exact ⟨rfl, [], rfl, h, hr, World.grownBy.refl _ _, List.Perm.refl _⟩
    haveI : Inhabited (EltS E w B) := ⟨d.head hx0⟩
    have hdl : d.length = css.length := by rw [← hd1, List.length_map]
    have hk : ∀ x : EltS E w B, (x.1.1).length = E.k := fun x => E.len x.2
    have ho : OwnK w B e E.k (.slice (some ⟨gb, 0, none⟩) d.length cap) (d.map fun x => x.1.1) := by rw [hd1, hdl]; exact h
    have hone : ∀ x : EltS E w B, ∀ v ∈ x.1.1, v.oneCell' = true := fun x => E.one x.2
    have hbt : BT w e (.slice (some ⟨gb, 0, none⟩) css.length cap) := h.bt
    have hkeep : ∀ (x : EltS E w B) (m : Nat) (dk : Array (EltS E w B)) (os : Array Obj), E.D (sortWorldK (fun x : EltS E w B => x.1.1) E.k w gb 0 m dk os) B x.1.1 x.1.2 := fun x m dk os =>
      E.kept (v := .slice (some ⟨gb, 0, none⟩) css.length cap) x.2 (grownBy_srtK dk) hbt h1 h2
    have hlay : CmpLays P g #[] (fun x : EltS E w B => x.1.1) E.k (fun x y => cf x.1.2 y.1.2) gb 0 d.toArray.size w := fun m os dk _ x y =>
      (hcmp _ B _ _ _ _ (hkeep x m dk os) (hkeep y m dk os)).mono fun e w' ⟨he, q, os', hw⟩ => ⟨he, q, os', hw⟩
    have hlt : ∀ x y : EltS E w B, ltOf (fun x y : EltS E w B => cf x.1.2 y.1.2) x y = lt x.1.2 y.1.2 := fun x y => hcf _ _
    have hswo : SWO (ltOf fun x y : EltS E w B => cf x.1.2 y.1.2) :=
      { irrefl := fun x => by rw [hlt]; exact sto.irrefl _
        trans := fun x y z a b => by rw [hlt] at *; exact sto.trans a b
        ntrans := fun x y z a b => by rw [hlt] at *; exact sto.ntrans a b }
    have hcon := AnyQ.slices_SortFunc L E.k aE zE (fun x : EltS E w B => x.1.1) hk hone _ hswo g #[] gb 0 cap d.toArray w eg hlay (holds_ownK hk ho) hgs (by simp; omega)
    rw [List.size_toArray, hdl] at hcon
    refine hcon.mono ?_
    rintro e' w' ⟨rfl, d', n, os, hp, hs, rfl⟩
    have hsz : d'.size = css.length := by have := hp.1; simp at this; omega
    have hperm : d'.toList.Perm d := by
      have h3 := hp.2.2
      rw [← hsz] at h3
      simp only [Array.extract_size] at h3
      have e : (d.toArray.extract 0 d'.size).toList = d := by
        rw [show d'.size = d.toArray.size by simp; omega, Array.extract_size]
      rw [e] at h3
      exact h3
    have hasc : AscS lt (d'.toList.map fun x => x.1.2) := by
      rw [AscS, List.pairwise_iff_getElem]
      intro i j hi hj hij
      simp at hi hj
      have h4 := hs i j (Nat.zero_le _) hij (by omega)
      rw [hlt, getElem!_pos d' i (by omega), getElem!_pos d' j (by omega)] at h4
      simpa using h4
    have hL : (d'.toList.map fun x => x.1.2) = srtS lt xs := srtS_unique sto (by rw [← hd2]; exact hperm.map _) hasc
    have hl : d'.toList.length = d.length := by simp; omega
    have hfin := own_srtK (n := n) (os := os) hk ho hl
    simp only [Array.toArray_toList] at hfin
    rw [hdl] at hfin
    refine ⟨rfl, d'.toList.map (fun x => x.1.1), by simp; omega, hfin, ⟨by rw [← hL]; simp, fun i c x hc hx => ?_⟩, grownBy_srtK d', by rw [← hd1]; exact hperm.map _⟩
    rw [← hL, List.getElem?_map] at hx
    rw [List.getElem?_map] at hc
    cases hx' : d'.toList[i]? with
    | none => rw [hx'] at hc; cases hc
    | some z =>
      rw [hx'] at hc hx
      simp only [Option.map_some, Option.some.injEq] at hc hx
      subst hc; subst hx
      exact hkeep z _ _ _
theorem sort_elts {P : Program} {ρ : Ren} (L : SlLaysF0.n6 P ρ) {α : Type} (E : Elt α) {e : TypeId} (aE : ∀ w, (isAgg (ρ.t 24)).run P w = .ok true w) (zE : ∀ w, (Go.sizeOf (ρ.t 24)).run P w = .ok E.k w)
    (lt : α → α → Bool) (sto : STO lt) (cf : α → α → Int) (hcf : ∀ x y, decide (cf x y < 0) = lt x y) (g : Nat) (eg : ∀ args w, (callFunc g args).run P w = .ok (.enter g args) w) (h1 : tI ≠ e) (h2 : tL ≠ e)
    (hcmp : ∀ (W : World) (B : Nat) (c c' : List Value) (x y : α), E.D W B c x → E.D W B c' y → Calls P g #[.agg c.toArray, .agg c'.toArray] W fun e w' => e = .returned (.int .i64 (cf x y)) ∧ ∃ q os, w' = grow (W.drewN q) os)
    (w : World) (B cap : Nat) (A : Option Addr) (css : List (List Value)) (xs : List α) (h : OwnK w B e E.k (.slice A css.length cap) css) (hr : Elts E w B css xs) (hn : css.length ≤ 1000000) :
    Calls P (ρ.f 6) #[.slice A css.length cap, .func (.func g) #[] #[]] w fun e' w' => e' = .returned (.tuple #[]) ∧
      ∃ css', css'.length = css.length ∧ OwnK w' B e E.k (.slice A css.length cap) css' ∧ Elts E w' B css' (srtS lt xs) ∧ w.grownBy w' (Value.ownBlock (.slice A css.length cap)) := by
  refine (sort_eltsP L E aE zE lt sto cf hcf g eg h1 h2 hcmp w B cap A css xs h hr hn).mono ?_
  rintro e' w' ⟨he, css', a, b, c, d, -⟩
  exact ⟨he, css', a, b, c, d⟩
end Go.Proofs.YtdjhfeaimmpmhaaGreat

set_option maxRecDepth 100000
set_option linter.unusedVariables false
set_option linter.unusedSimpArgs false
namespace Go.Proofs.YtdjhfeaimmpmhaaGreat
open Go.RowKit Go.Sort Go.Shelf

/-- a field that points to memory of its own -/
structure Fld (α : Type) where
  P : World → Nat → Value → α → Prop
  one : ∀ {w B u x}, P w B u x → u.oneCell' = true
  below : ∀ {w w' B u x}, P w B u x → Below w.heap.size w w' → P w' B u x
  mono : ∀ {w B B' u x}, P w B u x → B' ≤ B → P w B' u x
  kept : ∀ {w w' B u x} {e : TypeId} {v : Value}, P w B u x → w.grownBy w' v.ownBlock → BT w e v → tI ≠ e → tL ≠ e → P w' B u x
theorem LA.keptE {w w' : World} {B : Nat} {u v : Value} {e : TypeId} {xss : List (List Int)} (h : LA w B u xss) (hg : w.grownBy w' v.ownBlock) (hb : BT w e v) (h1 : tI ≠ e) (h2 : tL ≠ e) : LA w' B u xss := by
  obtain ⟨vs, a, b, c⟩ := h
  exact ⟨vs, a.kept hg (a.bt.ne hb h2), ⟨b.1, fun k u zs hu hz => (b.2 k u zs hu hz).kept hg ((b.2 k u zs hu hz).1.bt.ne hb h1)⟩, c⟩
def fldI : Fld (List Nat) where
  P w B u x := OwnInts w B tI u (up x)
  one h := by
    obtain ⟨A, c, rfl, -⟩ := h.ints.open_
    cases A <;> rfl
  below h hb := h.below hb
  mono h hB := h.mono hB
  kept h hg hb h1 _ := h.kept hg (h.1.bt.ne hb h1)
section
variable {α β : Type}
/-- two fields and a count -/
def elt3 (F : Fld α) (G : Fld β) : Elt ((α × β) × Nat) where
  k := 3
  D w B c x := ∃ u s, c = [u, s, .int .i64 (x.2 : Nat)] ∧ F.P w B u x.1.1 ∧ G.P w B s x.1.2
  len h := by obtain ⟨u, s, rfl, -, -⟩ := h; rfl
  one h := by
    obtain ⟨u, s, rfl, h1, h2⟩ := h
    intro v hv
    simp at hv
    rcases hv with rfl | rfl | rfl
    · exact F.one h1
    · exact G.one h2
    · rfl
  below h hb := by obtain ⟨u, s, rfl, h1, h2⟩ := h; exact ⟨u, s, rfl, F.below h1 hb, G.below h2 hb⟩
  mono h hB := by obtain ⟨u, s, rfl, h1, h2⟩ := h; exact ⟨u, s, rfl, F.mono h1 hB, G.mono h2 hB⟩
  kept h hg hb h1' h2' := by obtain ⟨u, s, rfl, h1, h2⟩ := h; exact ⟨u, s, rfl, F.kept h1 hg hb h1' h2', G.kept h2 hg hb h1' h2'⟩
/-- .. where the count is n -/
def elt2 (F : Fld α) (G : Fld β) (n : Nat) : Elt (α × β) where
  k := 3
  D w B c x := (elt3 F G).D w B c (x, n)
  len h := (elt3 F G).len h
  one h := (elt3 F G).one h
  below h hb := (elt3 F G).below h hb
  mono h hB := (elt3 F G).mono h hB
  kept h hg hb h1 h2 := (elt3 F G).kept h hg hb h1 h2
end

/-- the program's comparison of forests, tree by tree -/
def cmpFL : List (List Nat) → List (List Nat) → Int
  | [], [] => 0
  | [], _ :: _ => -1
  | _ :: _, [] => 1
  | x :: xs, y :: ys => if cmpT (up x) (up y) = 0 then cmpFL xs ys else cmpT (up x) (up y)
theorem cmpT_bef {a b : List Nat} (h : cmpT (up a) (up b) ≠ 0) : (cmpT (up a) (up b) < 0 ∧ befN a b = true) ∨ (¬ cmpT (up a) (up b) < 0 ∧ befN a b = false ∧ befN b a = true) := by
  have h1 := cmpT_up a b
  have h2 := cmpT_zero a b
  by_cases hlt : cmpT (up a) (up b) < 0
  · left; exact ⟨hlt, by rw [← h1]; exact decide_eq_true hlt⟩
  · right
    have h3 : befN a b = false := by rw [← h1]; exact decide_eq_false hlt
    refine ⟨hlt, h3, ?_⟩
    cases h4 : befN b a with
    | true => rfl
    | false =>
      have := befN_tri h3 h4
      subst this
      rw [eqN_iff.2 rfl] at h2
      exact absurd (by simpa using h2) h
theorem cmpT_eq0 {a b : List Nat} : cmpT (up a) (up b) = 0 ↔ a = b := by
  have h2 := cmpT_zero a b
  constructor
  · intro h; rw [h] at h2; exact eqN_iff.1 h2.symm
  · rintro rfl; rw [eqN_iff.2 rfl] at h2; simpa using h2
theorem cmpFL_lt : ∀ a b : List (List Nat), decide (cmpFL a b < 0) = lexL befN a b
  | [], [] => by simp [cmpFL, lexL]
  | [], _ :: _ => by simp [cmpFL, lexL]
  | _ :: _, [] => by simp [cmpFL, lexL]
  | x :: xs, y :: ys => by
    rw [cmpFL, lexL]
    by_cases h : cmpT (up x) (up y) = 0
    · have := cmpT_eq0.1 h
      subst this
      rw [if_pos h, befN_irrefl, cmpFL_lt xs ys]; rfl
    · rw [if_neg h]
      rcases cmpT_bef h with ⟨h1, h2⟩ | ⟨h1, h2, h3⟩
      · rw [h2]; exact decide_eq_true h1
      · rw [h2, h3]; exact decide_eq_false h1
theorem cmpFL_zero : ∀ a b : List (List Nat), cmpFL a b = 0 ↔ a = b
  | [], [] => by simp [cmpFL]
  | [], _ :: _ => by simp [cmpFL]
  | _ :: _, [] => by simp [cmpFL]
  | x :: xs, y :: ys => by
    rw [cmpFL]
    by_cases h : cmpT (up x) (up y) = 0
    · rw [if_pos h, cmpFL_zero xs ys, cmpT_eq0.1 h]; simp
    · rw [if_neg h]
      constructor
      · intro h'; exact absurd h' h
      · intro h'; injection h' with h1 h2; exact absurd (cmpT_eq0.2 h1) h
theorem cmpFL_step {a b : List (List Nat)} {k : Nat} {x y : List Nat} (hx : a[k]? = some x) (hy : b[k]? = some y) : cmpFL (a.drop k) (b.drop k) = if cmpT (up x) (up y) = 0 then cmpFL (a.drop (k + 1)) (b.drop (k + 1)) else cmpT (up x) (up y) := by
  have e1 : a.drop k = x :: a.drop (k + 1) := by obtain ⟨hk, rfl⟩ := List.getElem?_eq_some_iff.1 hx; exact List.drop_eq_getElem_cons hk
  have e2 : b.drop k = y :: b.drop (k + 1) := by obtain ⟨hk, rfl⟩ := List.getElem?_eq_some_iff.1 hy; exact List.drop_eq_getElem_cons hk
  rw [e1, e2, cmpFL]

theorem rowsAt {w : World} {v : Value} {xs : List (List Nat)} (h : Rows w v (xs.map up)) : ∃ A c, v = .slice A xs.length c ∧ xs.length ≤ c ∧ c ≤ 9223372036854775807 ∧
    ∀ k, k < xs.length → ∃ ad q A5 c5, A = some ad ∧ xs[k]? = some q ∧ Ints w (.slice A5 q.length c5) (up q) ∧ w.cell? (ad.add k) = some (.slice A5 q.length c5) := by
  obtain ⟨A, c, rfl, l1, l2, h3⟩ := h.open_
  rw [List.length_map] at l1 h3
  refine ⟨A, c, by rw [List.length_map], l1, l2, fun k hk => ?_⟩
  obtain ⟨ad, u, zs, h1, h2, h4, h5⟩ := h3 k hk
  have hq : xs[k]? = some (xs[k]'hk) := List.getElem?_eq_getElem _
  rw [List.getElem?_map, hq] at h2
  injection h2 with h2
  subst h2
  obtain ⟨A5, c5, he5, -, -, -⟩ := h4.open_
  rw [up_len] at he5
  subst he5
  exact ⟨ad, _, A5, c5, h1, hq, h4, h5⟩

set_option maxHeartbeats 4000000 in
theorem lib_CompareTrees (w : World) (v v' : Value) (a b : List (List Nat)) (ha : Rows w v (a.map up)) (hb : Rows w v' (b.map up)) :
    Calls Tryz.prog 234 #[v, v', .func (.func 118) #[] #[]] w fun e w' => e = .returned (.int .i64 (cmpFL a b)) ∧ w = w' := by
  obtain ⟨A, c, rfl, l1, l2, h3⟩ := rowsAt ha
  obtain ⟨B, d, rfl, m1, m2, g3⟩ := rowsAt hb
  have H3 := Lib.hid h3
  have G3 := Lib.hid g3
  obtain ⟨R, hR⟩ : ∃ R, R = cmpFL a b := ⟨_, rfl⟩
  rw [← hR]
  have HR := Lib.hid hR
  clear ha hb h3 g3 hR
  go_enter Tryz.func234, Tryz.ntmps234
  go_wp2_with fail
  go_loopw [13] (fun i wr => ∃ k : Nat, k ≤ a.length ∧ k ≤ b.length ∧ i = .int .i64 k ∧ Hid (R = cmpFL (a.drop k) (b.drop k)) ∧ w = wr) (fun i _ => a.length - (intOf i).toNat)
  case atStart => exact ⟨0, Nat.zero_le _, Nat.zero_le _, rfl, HR.out, rfl⟩
  case round =>
    obtain ⟨k, hk, hkb, rfl, hI, rfl⟩ := hrel
    by_cases hlt : k < a.length
    · obtain ⟨ad, x, A5, c5, rfl, hx, hix, hcx⟩ := H3.out k hlt
      by_cases hlb : k < b.length
      · obtain ⟨ad', y, A6, c6, rfl, hy, hiy, hcy⟩ := G3.out k hlb
        have hs := hI.out.trans (cmpFL_step hx hy)
        have hct := i_compareTrees w _ _ _ _ hix hiy
        generalize cmpT (up x) (up y) = z at hs hct
        have HCT := Lib.hid hct
        have hng : ¬ (b.length : Int) ≤ (k : Int) := by omega
        clear hx hy hix hiy hct
        by_cases hz : z = 0
        · subst hz
          have HS := Lib.hid (show R = cmpFL (a.drop (k + 1)) (b.drop (k + 1)) from by rw [hs, if_pos rfl])
          clear hs
          go_wp2_with (go_at_call 118; refine HCT.out.mono ?_; rintro e w' ⟨rfl, rfl⟩)
          go_roundw
          case rel => exact ⟨k + 1, by omega, by omega, by go_num, HS.out, by first | rfl | trivial⟩
          case measure => simp [intOf]; omega
        · have HS := Lib.hid (show R = z from by rw [hs, if_neg hz])
          have hz2 : (z != 0) = true := by simpa using hz
          clear hs
          go_wp2_with (go_at_call 118; refine HCT.out.mono ?_; rintro e w' ⟨rfl, rfl⟩)
          go_ret
          exact ⟨ret_i64 HS.out.symm, rfl⟩
      · have hkb2 : k = b.length := by omega
        have HS := Lib.hid (show R = 1 from by
          have hne : a.drop k ≠ [] := fun h => by have := congrArg List.length h; simp at this; omega
          rw [hI.out, hkb2, List.drop_length, ← hkb2]
          cases hd : a.drop k with
          | nil => exact absurd hd hne
          | cons p ps => rfl)
        have hng : (b.length : Int) ≤ (k : Int) := by omega
        clear hkb2 hx hix
        go_wp2_with fail
        go_ret
        exact ⟨ret_i64 HS.out.symm, rfl⟩
    · have hka : k = a.length := by omega
      have hna : ¬ (k : Int) < (a.length : Int) := by omega
      by_cases hlb : a.length < b.length
      · have hlb' : (a.length : Int) < (b.length : Int) := by omega
        have HS := Lib.hid (show R = -1 from by
          have hne : b.drop k ≠ [] := fun h => by have := congrArg List.length h; simp at this; omega
          rw [hI.out, show a.drop k = [] from by rw [hka, List.drop_length]]
          cases hd : b.drop k with
          | nil => exact absurd hd hne
          | cons p ps => rfl)
        clear hka
        go_wp2_with fail
        go_ret
        exact ⟨ret_i64 HS.out.symm, rfl⟩
      · have hlb' : ¬ (a.length : Int) < (b.length : Int) := by omega
        have HS := Lib.hid (show R = 0 from by
          rw [hI.out, show a.drop k = [] from by rw [hka, List.drop_length], show b.drop k = [] from by rw [List.drop_eq_nil_iff]; omega]; rfl)
        clear hka
        go_wp2_with fail
        go_ret
        exact ⟨ret_i64 HS.out.symm, rfl⟩
end Go.Proofs.YtdjhfeaimmpmhaaGreat

