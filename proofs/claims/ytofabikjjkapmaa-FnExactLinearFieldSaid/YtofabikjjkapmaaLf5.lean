/- Lists of one's own of structs of k cells, over what an element's cells say; such a list sorted by the library. No program in sight. | slices.SortFunc at lists of numbers: laid. | slices.SortFunc with 'slices.Compare(b, a)', at lists of one's own: the lists in descending order. | Walks: slices.Clone at numbers; the columns of both. | Walks: compareTrees, forestOf of the program: lists of trees in their order. | Walks: isLevelList, IsLevels of the program; l03Is of the reference. | Walk: l03Is of the reference. | Plain: a list of levels with at most eight nodes, as natural numbers; it is one of finitely many, and each has a canonical list. | Walk: l16Parent of the reference. | Walk: parentsOf of the program. | Walk: canonical of the program. | Walk: treeFrom of the program. | Words of memory for lists of neighbours: rows of numbers, each in a block of its own, that grow one by one. | Walk: nearOf of the program. | Plain: a tree made from its neighbours is the canonical list of the list that is made without sorting. | Walks: rooted, slices.MinFunc, freeForm of the program. -/
import Derived.Test.YtofabikjjkapmaaLf4
import Derived.Shelf.SlSortCmp.WholeK
import Derived.Shelf.SlSortCmp.NoneTotal
import Derived.Shelf.SlSortCmp.Whole1
import Derived.Shelf.SlGeneric
import Derived.Ground.SlsfProg
import Derived.Test.YtofabikjjkapmaaLf2
import Derived.WalkSpells
import Derived.Deep.RegionLaw
set_option maxRecDepth 100000
set_option linter.unusedVariables false
set_option linter.unusedSimpArgs false
namespace Go.Proofs.Ytofabikjjkapmaa
open Go.RowKit Go.Sort Go.Shelf

/-- what k cells say of a datum; what they point to lies in blocks from B on, of numbers and of slices of numbers -/
structure Elt (α : Type) where
  k : Nat
  D : World → Nat → List Value → α → Prop
  len : ∀ {w B c x}, D w B c x → c.length = k
  one : ∀ {w B c x}, D w B c x → ∀ u ∈ c, u.oneCell' = true
  below : ∀ {w w' B c x}, D w B c x → Below w.heap.size w w' → D w' B c x
  mono : ∀ {w B B' c x}, D w B c x → B' ≤ B → D w B' c x
  kept : ∀ {w w' B c x} {e : TypeId} {v : Value}, D w B c x → w.grownBy w' v.ownBlock → BT w e v → tI ≠ e → tL ≠ e → D w' B c x

def Elts {α : Type} (E : Elt α) (w : World) (B : Nat) (css : List (List Value)) (xs : List α) : Prop := css.length = xs.length ∧ ∀ (i : Nat) (c : List Value) (x : α), css[i]? = some c → xs[i]? = some x → E.D w B c x
section
variable {α : Type} {E : Elt α} {w w' : World} {B : Nat} {css : List (List Value)} {xs : List α}
theorem Elts.nil (E : Elt α) (w : World) (B : Nat) : Elts E w B [] [] := ⟨rfl, fun i c x h => by simp at h⟩
theorem Elts.below (h : Elts E w B css xs) (hb : Below w.heap.size w w') : Elts E w' B css xs := ⟨h.1, fun i c x hc hx => E.below (h.2 i c x hc hx) hb⟩
theorem Elts.mono {B' : Nat} (h : Elts E w B css xs) (hB : B' ≤ B) : Elts E w B' css xs := ⟨h.1, fun i c x hc hx => E.mono (h.2 i c x hc hx) hB⟩
theorem Elts.kept {v : Value} {e : TypeId} (h : Elts E w B css xs) (hg : w.grownBy w' v.ownBlock) (hb : BT w e v) (h1 : tI ≠ e) (h2 : tL ≠ e) : Elts E w' B css xs := ⟨h.1, fun i c x hc hx => E.kept (h.2 i c x hc hx) hg hb h1 h2⟩
theorem Elts.snoc {c : List Value} {x : α} (h : Elts E w B css xs) (hx : E.D w B c x) : Elts E w B (css ++ [c]) (xs ++ [x]) := by
  refine ⟨by simp [h.1], fun i c' x' hc hx' => ?_⟩
  by_cases hlt : i < css.length
  · rw [List.getElem?_append_left hlt] at hc
    rw [List.getElem?_append_left (by rw [← h.1]; exact hlt)] at hx'
    exact h.2 i c' x' hc hx'
  · have hkl := (List.getElem?_eq_some_iff.1 hc).1
    simp at hkl
    have : i = css.length := by omega
    subst this
    rw [List.getElem?_append_right (Nat.le_refl _)] at hc
    rw [List.getElem?_append_right (by rw [h.1]; exact Nat.le_refl _), h.1] at hx'
    simp at hc hx'
    subst hc; subst hx'
    exact hx
theorem Elts.at_ {i : Nat} {x : α} (h : Elts E w B css xs) (hx : xs[i]? = some x) : ∃ c, css[i]? = some c ∧ E.D w B c x := by
  have hi : i < css.length := by rw [h.1]; exact (List.getElem?_eq_some_iff.1 hx).1
  exact ⟨_, List.getElem?_eq_getElem hi, h.2 i _ x (List.getElem?_eq_getElem hi) hx⟩
theorem Elts.set_ {i : Nat} {c : List Value} {x : α} (h : Elts E w B css xs) (hx : E.D w B c x) : Elts E w B (css.set i c) (xs.set i x) := by
  refine ⟨by simp [h.1], fun j c' x' hc hx' => ?_⟩
  rw [List.getElem?_set] at hc hx'
  by_cases hij : i = j
  · subst hij
    rw [if_pos rfl] at hc hx'
    split at hc
    · rw [if_pos (by rw [← h.1]; assumption)] at hx'
      injection hc with hc; injection hx' with hx'
      subst hc; subst hx'
      exact hx
    · cases hc
  · rw [if_neg hij] at hc hx'
    exact h.2 j c' x' hc hx'
end
/-- a list of one's own of such elements -/
def SLs {α : Type} (E : Elt α) (e : TypeId) (w : World) (B : Nat) (v : Value) (xs : List α) : Prop := ∃ css, OwnK w B e E.k v css ∧ Elts E w B css xs
section
variable {α : Type} {E : Elt α} {e : TypeId} {w w' : World} {B : Nat} {v : Value} {xs : List α}
theorem SLs.below (h : SLs E e w B v xs) (hb : Below w.heap.size w w') : SLs E e w' B v xs := by obtain ⟨css, h1, h2⟩ := h; exact ⟨css, h1.below hb, h2.below hb⟩
theorem SLs.mono {B' : Nat} (h : SLs E e w B v xs) (hB : B' ≤ B) : SLs E e w B' v xs := by obtain ⟨css, h1, h2⟩ := h; exact ⟨css, h1.mono hB, h2.mono hB⟩
theorem SLs.open_ (h : SLs E e w B v xs) : ∃ A c, v = .slice A xs.length c ∧ xs.length ≤ c ∧ c ≤ 9223372036854775807 := by
  obtain ⟨css, h1, h2⟩ := h
  have := h1.open_
  rwa [h2.1] at this
end

/-! ### sorted by the library -/
section
variable {α : Type} [Inhabited α] {enc : α → List Value} {k : Nat}
theorem flatK_list (hk : ∀ x, (enc x).length = k) (d : List α) : (flatK enc k d.toArray).toList = (d.map enc).flatten := by
  have hkk : ∀ c ∈ d.map enc, c.length = k := fun c hc => by obtain ⟨x, -, rfl⟩ := List.mem_map.1 hc; exact hk x
  apply List.ext_getElem?
  intro t
  by_cases ht : t < d.length * k
  · have k0 : 0 < k := by rcases Nat.eq_zero_or_pos k with h | h; subst h; simp at ht; exact h
    have hq : t / k < d.length := by rw [Nat.div_lt_iff_lt_mul k0]; exact ht
    have hm : t % k < k := Nat.mod_lt _ k0
    have hsz : t < (flatK enc k d.toArray).size := by rw [size_flatK]; simpa using ht
    have h1 : (flatK enc k d.toArray).toList[t]? = some ((enc (d[t / k]'hq))[t % k]'(by rw [hk]; exact hm)) := by
      rw [Array.getElem?_toList, Array.getElem?_eq_getElem hsz, ← getElem!_pos _ t hsz, get_flatK _ _ _ t (by simpa using ht)]
      rw [getElem!_pos d.toArray (t / k) (by simpa using hq), getElem!_pos _ (t % k) (by rw [hk]; exact hm)]
      simp
    rw [h1]
    have h2 := flat_get (css := d.map enc) (i := t / k) (j := t % k) hkk (by rw [List.getElem?_map, List.getElem?_eq_getElem hq]; rfl) (List.getElem?_eq_getElem (by rw [hk]; exact hm))
    rw [Nat.div_add_mod'] at h2
    exact h2.symm
  · rw [List.getElem?_eq_none (by rw [Array.length_toList, size_flatK]; simpa using ht), List.getElem?_eq_none (by rw [flat_len hkk, List.length_map]; omega)]
variable {w : World} {B g cap n : Nat} {e : TypeId} {d : List α} {os : Array Obj}
theorem holds_ownK (hk : ∀ x, (enc x).length = k) (h : OwnK w B e k (.slice (some ⟨g, 0, none⟩) d.length cap) (d.map enc)) : HoldsK enc k w g 0 d.toArray := by
  have hfl := flatK_list hk d
  rcases h.1.2 with ⟨e, _⟩ | ⟨g', cap', cur, he, h1, h2, h3, h4, h5, h6⟩
  · cases e
  simp only [Value.slice.injEq, Option.some.injEq, Addr.mk.injEq] at he
  obtain ⟨⟨rfl, -⟩, -, rfl⟩ := he
  intro j hj
  refine ⟨?_, by simp [World.frozen?, h2]⟩
  have h8 : (flatK enc k d.toArray)[j]? = cur[j]? := by
    rw [← Array.getElem?_toList, hfl, ← h6, List.getElem?_take_of_lt (by rw [List.length_map]; rw [size_flatK] at hj; simpa using hj), Array.getElem?_toList]
  simp only [World.cell?, h2, Nat.zero_add]
  simp only [Option.isSome_none, Bool.false_eq_true, if_false]
  rw [← h8, Array.getElem?_eq_getElem hj, getElem!_pos _ j hj]
  rfl
theorem grownBy_srtK (d : Array α) : w.grownBy (sortWorldK enc k w g 0 n d os) (some g) := by
  unfold sortWorldK putRowK
  refine ⟨rfl, rfl, rfl, by simp, fun k' hk' hne => ?_⟩
  rw [heap_grow_old _ _ (by simpa using hk')]
  have : g ≠ k' := fun e => hne (by rw [e])
  simp [putRow, mapBlock, Sort.ahead, Array.getElem?_modify, this]
theorem own_srtK (hk : ∀ x, (enc x).length = k) {ts : List α} (h : OwnK w B e k (.slice (some ⟨g, 0, none⟩) d.length cap) (d.map enc)) (hl : ts.length = d.length) :
    OwnK (sortWorldK enc k w g 0 n ts.toArray os) B e k (.slice (some ⟨g, 0, none⟩) d.length cap) (ts.map enc) := by
  have hkk : ∀ (l : List α), ∀ c ∈ l.map enc, c.length = k := fun l c hc => by obtain ⟨x, -, rfl⟩ := List.mem_map.1 hc; exact hk x
  rcases h.1.2 with ⟨e, _⟩ | ⟨g', cap', cur, he, h1, h2, h3, h4, h5, h6⟩
  · cases e
  simp only [Value.slice.injEq, Option.some.injEq, Addr.mk.injEq] at he
  obtain ⟨⟨rfl, -⟩, -, rfl⟩ := he
  rw [List.length_map] at h3 h6
  have hg : g < w.heap.size := (Array.getElem?_eq_some_iff.1 h2).1
  have hheap : (sortWorldK enc k w g 0 n ts.toArray os).heap[g]? = some (.cells (putCells id 0 (flatK enc k ts.toArray) cur) e (0, 0)) := by
    unfold sortWorldK putRowK
    rw [heap_grow_old _ _ (by simpa using hg)]
    simp [putRow, mapBlock, Sort.ahead, Array.getElem?_modify, h2, onCells]
  refine ⟨⟨by rw [flat_len (hkk ts)], .inr ⟨g, cap, _, by simp [hl], h1, hheap, by simp; omega, h4, by simp [putCells, h5], ?_⟩⟩, hkk ts⟩
  have hsz : (flatK enc k ts.toArray).size ≤ cur.size := by rw [size_flatK, h5]; simp only [List.size_toArray]; rw [hl]; exact Nat.mul_le_mul_right k h3
  have ht := take_put (α := Value) (enc := id) cur (flatK enc k ts.toArray).toList (by simpa using hsz)
  have e1 : (flatK enc k ts.toArray).toList.toArray = flatK enc k ts.toArray := by simp
  have e2 : (flatK enc k ts.toArray).toList.length = ts.length * k := by simp
  rw [e1, e2, List.map_id, flatK_list hk] at ht
  rw [List.length_map]
  exact ht
end

/-- an element with the cells that say it -/
abbrev EltS {α : Type} (E : Elt α) (w : World) (B : Nat) := {p : List Value × α // E.D w B p.1 p.2}
theorem mkElts {α : Type} {E : Elt α} {w : World} {B : Nat} : ∀ {css : List (List Value)} {xs : List α}, Elts E w B css xs → ∃ d : List (EltS E w B), d.map (fun x => x.1.1) = css ∧ d.map (fun x => x.1.2) = xs
  | [], [], _ => ⟨[], rfl, rfl⟩
  | [], _ :: _, h => by have := h.1; simp at this
  | _ :: _, [], h => by have := h.1; simp at this
  | c :: css, x :: xs, h => by
    obtain ⟨d, h1, h2⟩ := mkElts (css := css) (xs := xs) ⟨by have := h.1; simpa using this, fun i c' x' hc hx => h.2 (i + 1) c' x' (by simpa using hc) (by simpa using hx)⟩
    exact ⟨⟨(c, x), h.2 0 c x (by simp) (by simp)⟩ :: d, by simp [h1], by simp [h2]⟩

/-- slices.SortFunc at structs of one's own, where the comparison reads them -/
theorem sort_eltsP {P : Program} {ρ : Ren} (L : SlLaysF0.n6 P ρ) {α : Type} (E : Elt α) {e : TypeId} (aE : ∀ w, (isAgg (ρ.t 24)).run P w = .ok true w) (zE : ∀ w, (Go.sizeOf (ρ.t 24)).run P w = .ok E.k w)
    (lt : α → α → Bool) (sto : STO lt) (cf : α → α → Int) (hcf : ∀ x y, decide (cf x y < 0) = lt x y) (g : Nat) (eg : ∀ args w, (callFunc g args).run P w = .ok (.enter g args) w) (h1 : tI ≠ e) (h2 : tL ≠ e)
    (hcmp : ∀ (W : World) (B : Nat) (c c' : List Value) (x y : α), E.D W B c x → E.D W B c' y → Calls P g #[.agg c.toArray, .agg c'.toArray] W fun e w' => e = .returned (.int .i64 (cf x y)) ∧ ∃ q os, w' = grow (W.drewN q) os)
    (w : World) (B cap : Nat) (A : Option Addr) (css : List (List Value)) (xs : List α) (h : OwnK w B e E.k (.slice A css.length cap) css) (hr : Elts E w B css xs) (hn : css.length ≤ 1000000) :
    Calls P (ρ.f 6) #[.slice A css.length cap, .func (.func g) #[] #[]] w fun e' w' => e' = .returned (.tuple #[]) ∧
      ∃ css', css'.length = css.length ∧ OwnK w' B e E.k (.slice A css.length cap) css' ∧ Elts E w' B css' (srtS lt xs) ∧ w.grownBy w' (Value.ownBlock (.slice A css.length cap)) ∧ css'.Perm css := by
  rcases h.cases with ⟨he, rfl⟩ | ⟨gb, cap', cur, he, hBg, hgs, -⟩
  · simp only [Value.slice.injEq] at he
    obtain ⟨rfl, -, rfl⟩ := he
    have hb : xs = [] := by have h0 := hr.1; exact List.eq_nil_of_length_eq_zero h0.symm
    subst hb
    refine (AnyF.slices_SortFunc_none { L with } none 0 _ w).mono ?_
    rintro e w' ⟨rfl, rfl⟩
    exact ⟨rfl, [], rfl, h, hr, World.grownBy.refl _ _, List.Perm.refl _⟩
  · simp only [Value.slice.injEq] at he
    obtain ⟨rfl, -, rfl⟩ := he
    obtain ⟨d, hd1, hd2⟩ := mkElts hr
    by_cases hx0 : d = []
    · subst hx0
      simp at hd1
      subst hd1
      have hb : xs = [] := by simpa using hd2.symm
      subst hb
      refine (AnyF.slices_SortFunc_none { L with } (some ⟨gb, 0, none⟩) cap _ w).mono ?_
      rintro e w' ⟨rfl, rfl⟩
      exact ⟨rfl, [], rfl, h, hr, World.grownBy.refl _ _, List.Perm.refl _⟩
    haveI : Inhabited (EltS E w B) := ⟨d.head hx0⟩
    have hdl : d.length = css.length := by rw [← hd1, List.length_map]
    have hk : ∀ x : EltS E w B, (x.1.1).length = E.k := fun x => E.len x.2
    have ho : OwnK w B e E.k (.slice (some ⟨gb, 0, none⟩) d.length cap) (d.map fun x => x.1.1) := by rw [hd1, hdl]; exact h
    have hone : ∀ x : EltS E w B, ∀ v ∈ x.1.1, v.oneCell' = true := fun x => E.one x.2
    have hbt : BT w e (.slice (some ⟨gb, 0, none⟩) css.length cap) := h.bt
    have hkeep : ∀ (x : EltS E w B) (m : Nat) (dk : Array (EltS E w B)) (os : Array Obj), E.D (sortWorldK (fun x : EltS E w B => x.1.1) E.k w gb 0 m dk os) B x.1.1 x.1.2 := fun x m dk os =>
      E.kept (v := .slice (some ⟨gb, 0, none⟩) css.length cap) x.2 (grownBy_srtK dk) hbt h1 h2
    have hlay : CmpLays P g #[] (fun x : EltS E w B => x.1.1) E.k (fun x y => cf x.1.2 y.1.2) gb 0 d.toArray.size w := fun m os dk _ x y =>
      (hcmp _ B _ _ _ _ (hkeep x m dk os) (hkeep y m dk os)).mono fun e w' ⟨he, q, os', hw⟩ => ⟨he, q, os', hw⟩
    have hlt : ∀ x y : EltS E w B, ltOf (fun x y : EltS E w B => cf x.1.2 y.1.2) x y = lt x.1.2 y.1.2 := fun x y => hcf _ _
    have hswo : SWO (ltOf fun x y : EltS E w B => cf x.1.2 y.1.2) :=
      { irrefl := fun x => by rw [hlt]; exact sto.irrefl _
        trans := fun x y z a b => by rw [hlt] at *; exact sto.trans a b
        ntrans := fun x y z a b => by rw [hlt] at *; exact sto.ntrans a b }
    have hcon := AnyQ.slices_SortFunc L E.k aE zE (fun x : EltS E w B => x.1.1) hk hone _ hswo g #[] gb 0 cap d.toArray w eg hlay (holds_ownK hk ho) hgs (by simp; omega)
    rw [List.size_toArray, hdl] at hcon
    refine hcon.mono ?_
    rintro e' w' ⟨rfl, d', n, os, hp, hs, rfl⟩
    have hsz : d'.size = css.length := by have := hp.1; simp at this; omega
    have hperm : d'.toList.Perm d := by
      have h3 := hp.2.2
      rw [← hsz] at h3
      simp only [Array.extract_size] at h3
      have e : (d.toArray.extract 0 d'.size).toList = d := by
        rw [show d'.size = d.toArray.size by simp; omega, Array.extract_size]
      rw [e] at h3
      exact h3
    have hasc : AscS lt (d'.toList.map fun x => x.1.2) := by
      rw [AscS, List.pairwise_iff_getElem]
      intro i j hi hj hij
      simp at hi hj
      have h4 := hs i j (Nat.zero_le _) hij (by omega)
      rw [hlt, getElem!_pos d' i (by omega), getElem!_pos d' j (by omega)] at h4
      simpa using h4
    have hL : (d'.toList.map fun x => x.1.2) = srtS lt xs := srtS_unique sto (by rw [← hd2]; exact hperm.map _) hasc
    have hl : d'.toList.length = d.length := by simp; omega
    have hfin := own_srtK (n := n) (os := os) hk ho hl
    simp only [Array.toArray_toList] at hfin
    rw [hdl] at hfin
    refine ⟨rfl, d'.toList.map (fun x => x.1.1), by simp; omega, hfin, ⟨by rw [← hL]; simp, fun i c x hc hx => ?_⟩, grownBy_srtK d', by rw [← hd1]; exact hperm.map _⟩
    rw [← hL, List.getElem?_map] at hx
    rw [List.getElem?_map] at hc
    cases hx' : d'.toList[i]? with
    | none => rw [hx'] at hc; cases hc
    | some z =>
      rw [hx'] at hc hx
      simp only [Option.map_some, Option.some.injEq] at hc hx
      subst hc; subst hx
      exact hkeep z _ _ _
end Go.Proofs.Ytofabikjjkapmaa

set_option maxRecDepth 100000
namespace Go.Proofs
open Go.Shelf Go.RowKit Go.Lib Go.Sort
def Try.lsort_ren : Go.Shelf.Ren := ⟨fun | 6 => 64 | 15 => 87 | 14 => 88 | 28 => 103 | 29 => 104 | 20 => 105 | 21 => 106 | 22 => 107 | 23 => 108 | 24 => 109 | 25 => 110 | 26 => 111 | 27 => 112 | 46 => 128 | 47 => 124 | 48 => 125 | 49 => 129 | 50 => 130 | 57 => 136 | n => n, fun | 22 => 22 | 24 => 34 | 25 => 74 | 3 => 3 | 39 => 97 | 0 => 0 | 53 => 113 | 55 => 68 | 4 => 4 | 46 => 106 | 45 => 105 | 50 => 110 | 5 => 5 | 9 => 9 | 66 => 126 | 70 => 130 | 76 => 136 | 77 => 137 | n => n, fun | n => n⟩
theorem Try.lsort : Go.Proofs.SlLaysF.n6 Try.prog Try.lsort_ren := {
  mixed := by kernel_rfl
  f6 := ⟨Try.f64.name, by decide, Try.func64.trans (congrArg some (by kernel_rfl))⟩
  f14 := ⟨Try.f88.name, by decide, Try.func88.trans (congrArg some (by kernel_rfl))⟩
  f15 := Try.func87.trans (congrArg some (by kernel_rfl))
  f20 := ⟨Try.f105.name, by decide, Try.func105.trans (congrArg some (by kernel_rfl))⟩
  f21 := ⟨Try.f106.name, by decide, Try.func106.trans (congrArg some (by kernel_rfl))⟩
  f22 := ⟨Try.f107.name, by decide, Try.func107.trans (congrArg some (by kernel_rfl))⟩
  f23 := ⟨Try.f108.name, by decide, Try.func108.trans (congrArg some (by kernel_rfl))⟩
  f24 := ⟨Try.f109.name, by decide, Try.func109.trans (congrArg some (by kernel_rfl))⟩
  f25 := ⟨Try.f110.name, by decide, Try.func110.trans (congrArg some (by kernel_rfl))⟩
  f26 := ⟨Try.f111.name, by decide, Try.func111.trans (congrArg some (by kernel_rfl))⟩
  f27 := ⟨Try.f112.name, by decide, Try.func112.trans (congrArg some (by kernel_rfl))⟩
  f28 := Try.func103.trans (congrArg some (by kernel_rfl))
  f29 := Try.func104.trans (congrArg some (by kernel_rfl))
  f46 := ⟨Try.f128.name, by decide, Try.func128.trans (congrArg some (by kernel_rfl))⟩
  f47 := Try.func124.trans (congrArg some (by kernel_rfl))
  f48 := Try.func125.trans (congrArg some (by kernel_rfl))
  f49 := ⟨Try.f129.name, by decide, Try.func129.trans (congrArg some (by kernel_rfl))⟩
  f50 := ⟨Try.f130.name, by decide, Try.func130.trans (congrArg some (by kernel_rfl))⟩
  f57 := ⟨Try.f136.name, by decide, Try.func136.trans (congrArg some (by kernel_rfl))⟩
  t0 := Try.underlying0
  a0 := Try.isAgg0
  z0 := Try.sizeOf0
  v0 := Try.zeroValue0
  t3 := Try.underlying3
  a3 := Try.isAgg3
  z3 := Try.sizeOf3
  v3 := Try.zeroValue3
  t4 := Try.underlying4
  a4 := Try.isAgg4
  z4 := Try.sizeOf4
  v4 := Try.zeroValue4
  t5 := Try.underlying5
  a5 := Try.isAgg5
  z5 := Try.sizeOf5
  v5 := Try.zeroValue5
  t9 := Try.underlying9
  a9 := Try.isAgg9
  z9 := Try.sizeOf9
  v9 := Try.zeroValue9
  t22 := Try.underlying22
  a22 := Try.isAgg22
  z22 := Try.sizeOf22
  v22 := Try.zeroValue22
  a24 := Try.isAgg34
  z24 := Try.sizeOf34
  t25 := Try.underlying74
  a25 := Try.isAgg74
  z25 := Try.sizeOf74
  v25 := Try.zeroValue74
  t39 := Try.underlying97
  a39 := Try.isAgg97
  z39 := Try.sizeOf97
  v39 := Try.zeroValue97
  t45 := Try.underlying105
  a45 := Try.isAgg105
  z45 := Try.sizeOf105
  v45 := Try.zeroValue105
  t46 := Try.underlying106
  a46 := Try.isAgg106
  z46 := Try.sizeOf106
  v46 := Try.zeroValue106
  t50 := Try.underlying110
  a50 := Try.isAgg110
  z50 := Try.sizeOf110
  v50 := Try.zeroValue110
  t53 := Try.underlying113
  a53 := Try.isAgg113
  z53 := Try.sizeOf113
  v53 := Try.zeroValue113
  t55 := Try.underlying68
  a55 := Try.isAgg68
  z55 := Try.sizeOf68
  v55 := Try.zeroValue68
  t66 := Try.underlying126
  a66 := Try.isAgg126
  z66 := Try.sizeOf126
  v66 := Try.zeroValue126
  t70 := Try.underlying130
  a70 := Try.isAgg130
  z70 := Try.sizeOf130
  v70 := Try.zeroValue130
  t76 := Try.underlying136
  a76 := Try.isAgg136
  z76 := Try.sizeOf136
  v76 := Try.zeroValue136
  t77 := Try.underlying137
  a77 := Try.isAgg137
  z77 := Try.sizeOf137
  v77 := Try.zeroValue137 }
end Go.Proofs

set_option maxRecDepth 100000
set_option linter.unusedVariables false
set_option linter.unusedSimpArgs false
namespace Go.Proofs.Ytofabikjjkapmaa
open Go.RowKit Go.Sort Go.Shelf

/-- a list of numbers of one's own, with what it holds -/
abbrev Row1s (w : World) (B : Nat) := {p : Value × List Nat // OwnInts w B tI p.1 (up p.2)}
instance (w : World) (B : Nat) : Inhabited (Row1s w B) := ⟨⟨(.slice none 0 0, []), OwnInts.nil _ _ _⟩⟩

end Go.Proofs.Ytofabikjjkapmaa

set_option maxRecDepth 100000
set_option linter.unusedVariables false
set_option linter.unusedSimpArgs false
namespace Go.Proofs.Ytofabikjjkapmaa
open Go.RowKit

theorem ints_oneV (zs : List Int) : ∀ u ∈ ints zs, u.oneCell' = true := by
  intro u hu
  obtain ⟨z, _, rfl⟩ := List.mem_map.1 hu
  rfl

set_option maxHeartbeats 1000000 in
theorem lib_Clone (w : World) (v : Value) (zs : List Int) (ha : Ints w v zs) (hn : zs.length ≤ 4294967296) :
    Calls Try.prog 75 #[v] w fun e w' => ∃ r, e = .returned r ∧ OwnInts w' w.heap.size tI r zs ∧ Below w.heap.size w w' := by
  obtain ⟨A, c, rfl, l1, l2, h3⟩ := ha.open_
  have HA := Lib.hid ha
  clear h3 ha
  have OL := Lib.hid (own_lit w tI [] (by simp [maxLen]))
  have B1 := Lib.hid (below1 w (.cells #[] tI))
  have en := fun (W : World) (a : Option Addr) (n c : Nat) => Lib.run_eql_slice_nil (P := Try.prog) W 34 2 a n c 0 0 Try.underlying34
  go_enter Try.func75, Try.ntmps75
  cases A with
  | none =>
    have HZ := Lib.hid (show zs = [] by
      obtain ⟨A, c', hv, -, -, h3⟩ := HA.out.open_
      simp only [Value.slice.injEq] at hv
      obtain ⟨rfl, -, -⟩ := hv
      cases zs with
      | nil => rfl
      | cons z r => obtain ⟨ad, _, hA, _⟩ := h3 0 (by simp); cases hA)
    go_wp2_with fail
    go_ret
    refine ⟨_, rfl, ?_, Below.refl _ _⟩
    rw [HZ.out]
    exact OwnInts.nil _ _ _
  | some ad =>
    go_wp2_with (at_builtin; refine wpList_appN T_int OL.out (HA.out.below B1.out).1 (by rw [ints_len]; simp; omega) B1.out.size (ints_oneV _) rfl (by rfl) (by rfl) (by rfl) ?_; intro v1 w2 hown1 hgr1)
    go_ret
    exact ⟨_, rfl, ⟨by simpa using hown1, HA.out.2⟩, hgr1.below B1.out (by simp) OL.out.ge⟩

end Go.Proofs.Ytofabikjjkapmaa

set_option maxRecDepth 100000
set_option linter.unusedVariables false
set_option linter.unusedSimpArgs false
namespace Go.Proofs.Ytofabikjjkapmaa
open Go.RowKit Go.Sort Go.Shelf

end Go.Proofs.Ytofabikjjkapmaa

set_option maxRecDepth 100000
set_option linter.unusedVariables false
set_option linter.unusedSimpArgs false
namespace Go.Proofs.Ytofabikjjkapmaa
open Go.RowKit

end Go.Proofs.Ytofabikjjkapmaa

set_option maxRecDepth 100000
set_option linter.unusedVariables false
set_option linter.unusedSimpArgs false
namespace Go.Proofs.Ytofabikjjkapmaa
open Go.RowKit

end Go.Proofs.Ytofabikjjkapmaa

set_option linter.unusedVariables false
set_option linter.unusedSimpArgs false
set_option maxRecDepth 100000
namespace Go.Proofs.Ytofabikjjkapmaa

end Go.Proofs.Ytofabikjjkapmaa

set_option maxRecDepth 100000
set_option linter.unusedVariables false
set_option linter.unusedSimpArgs false
namespace Go.Proofs.Ytofabikjjkapmaa
open Go.RowKit

end Go.Proofs.Ytofabikjjkapmaa

set_option maxRecDepth 100000
set_option linter.unusedVariables false
set_option linter.unusedSimpArgs false
namespace Go.Proofs.Ytofabikjjkapmaa
open Go.RowKit

abbrev tN : TypeId := 3
end Go.Proofs.Ytofabikjjkapmaa

set_option maxRecDepth 100000
set_option linter.unusedVariables false
set_option linter.unusedSimpArgs false
namespace Go.Proofs.Ytofabikjjkapmaa
open Go.RowKit

/-- a row of one's own is stored in a list of rows of one's own -/
theorem RR.store {w : World} {B g n cap k : Nat} {vs : List Value} {xss : List (List Int)} {u : Value} {zs : List Int} (h : Own w B tL (.slice (some ⟨g, 0, none⟩) n cap) vs) (hr : RR w B vs xss) (hk : k < vs.length) (hu : OwnInts w B tI u zs) :
    (∃ u0, w.cell? ⟨g, k, none⟩ = some u0) ∧ w.frozen? ⟨g, k, none⟩ = false ∧ Own (w.setCell ⟨g, k, none⟩ u) B tL (.slice (some ⟨g, 0, none⟩) n cap) (vs.set k u) ∧ RR (w.setCell ⟨g, k, none⟩ u) B (vs.set k u) (xss.set k zs) := by
  obtain ⟨u0, -, hc, hf, -, -, ho, hg⟩ := h.storeAt hk u
  refine ⟨⟨u0, hc⟩, hf, ho, ?_⟩
  exact (hr.set hu).other (v := .slice (some ⟨g, 0, none⟩) n cap) hg h (by decide)

end Go.Proofs.Ytofabikjjkapmaa

set_option maxRecDepth 100000
set_option linter.unusedVariables false
set_option linter.unusedSimpArgs false
namespace Go.Proofs.Ytofabikjjkapmaa
open Go.RowKit

end Go.Proofs.Ytofabikjjkapmaa

set_option maxRecDepth 100000
set_option linter.unusedVariables false
set_option linter.unusedSimpArgs false
namespace Go.Proofs.Ytofabikjjkapmaa
open Go.RowKit

abbrev tNL : TypeId := 89
theorem addAt_set {x : Nat} : ∀ {bs : List (List Nat)} {i : Nat} {b : List Nat}, bs[i]? = some b → addAt x i bs = bs.set i (b ++ [x])
  | [], i, b, h => by simp at h
  | c :: bs, 0, b, h => by simp at h; subst h; rfl
  | c :: bs, i + 1, b, h => by rw [addAt, addAt_set (bs := bs) (by simpa using h)]; rfl
theorem addAt_len (x : Nat) : ∀ (i : Nat) (bs : List (List Nat)), (addAt x i bs).length = bs.length
  | _, [] => by cases ‹Nat› <;> rfl
  | 0, b :: bs => rfl
  | i + 1, b :: bs => by rw [addAt, List.length_cons, addAt_len x i bs, List.length_cons]
theorem mem_addAt {x : Nat} {ns : List Nat} : ∀ {i : Nat} {bs : List (List Nat)}, ns ∈ addAt x i bs → ns ∈ bs ∨ ∃ b ∈ bs, ns = b ++ [x]
  | _, [], h => by cases ‹Nat› <;> simp [addAt] at h
  | 0, b :: bs, h => by
    rw [addAt] at h
    rcases List.mem_cons.1 h with h | h
    · exact .inr ⟨b, by simp, h⟩
    · exact .inl (by simp [h])
  | i + 1, b :: bs, h => by
    rw [addAt] at h
    rcases List.mem_cons.1 h with h | h
    · exact .inl (by simp [h])
    · rcases mem_addAt h with h | ⟨c, hc, h⟩
      · exact .inl (by simp [h])
      · exact .inr ⟨c, by simp [hc], h⟩

/-- lists of numbers of one's own, no two of them in one block -/
structure Fam (w : World) (B : Nat) (e : TypeId) (us : List Value) (xss : List (List Int)) : Prop where
  len : us.length = xss.length
  row : ∀ (k : Nat) (u : Value) (zs : List Int), us[k]? = some u → xss[k]? = some zs → OwnInts w B e u zs
  apart : ∀ (i j : Nat) (u u' : Value), i ≠ j → us[i]? = some u → us[j]? = some u' → Apart u u'
section
variable {w w' w1 : World} {B k : Nat} {e e' : TypeId} {us : List Value} {xss : List (List Int)} {u u1 : Value} {zs zs1 : List Int}
theorem Fam.nil (w : World) (B : Nat) (e : TypeId) : Fam w B e [] [] := ⟨rfl, fun k u zs h => by simp at h, fun i j u u' _ h => by simp at h⟩
theorem Fam.below (h : Fam w B e us xss) (hb : Below w.heap.size w w') : Fam w' B e us xss := ⟨h.len, fun k u zs hu hz => (h.row k u zs hu hz).below hb, h.apart⟩
theorem Fam.mono {B' : Nat} (h : Fam w B e us xss) (hB : B' ≤ B) : Fam w B' e us xss := ⟨h.len, fun k u zs hu hz => (h.row k u zs hu hz).mono hB, h.apart⟩
/-- a block whose elements have another type has turned -/
theorem Fam.other {v : Value} {B' : Nat} {cs : List Value} (h : Fam w B e us xss) (hg : w.grownBy w' v.ownBlock) (ho : Own w B' e' v cs) (hne : e ≠ e') : Fam w' B e us xss :=
  ⟨h.len, fun k u zs hu hz => (h.row k u zs hu hz).kept hg ((h.row k u zs hu hz).1.ne_of_type ho hne), h.apart⟩
/-- one of the lists has turned or grown -/
theorem Fam.step (h : Fam w B e us xss) (hu : us[k]? = some u) (ho : OwnInts w1 B e u1 zs1) (hgr : Grow w w1 u u1) : Fam w1 B e (us.set k u1) (xss.set k zs1) := by
  have hk : k < us.length := (List.getElem?_eq_some_iff.1 hu).1
  have hap : ∀ (j : Nat) (u' : Value), k ≠ j → us[j]? = some u' → Apart u' u1 := by
    intro j u' hkj hj
    have h1 := h.apart j k u' u (Ne.symm hkj) hj hu
    have hz' : xss[j]? = some (xss[j]'(by rw [← h.len]; exact (List.getElem?_eq_some_iff.1 hj).1)) := List.getElem?_eq_getElem _
    have h2 := (h.row j u' _ hj hz').1.lt
    rcases hgr.2 with h3 | ⟨b, h3, h4⟩
    · rcases h1 with h1 | h1
      · exact .inl h1
      · exact .inr (by rw [h3]; exact h1)
    · cases hb : u'.ownBlock with
      | none => exact .inl hb
      | some b' => exact .inr (by rw [h3]; intro e; rw [hb] at e; injection e with e; have := h2 b' hb; omega)
  refine ⟨by simp [h.len], fun j u' ns' hj hj' => ?_, fun i j a b hij ha hb => ?_⟩
  · rw [List.getElem?_set] at hj hj'
    by_cases hkj : k = j
    · subst hkj
      rw [if_pos rfl, if_pos hk] at hj
      rw [if_pos rfl, if_pos (by rw [← h.len]; exact hk)] at hj'
      injection hj with hj; injection hj' with hj'
      subst hj; subst hj'
      exact ho
    · rw [if_neg hkj] at hj hj'
      exact (h.row j u' ns' hj hj').kept hgr.1 (h.apart j k u' u (Ne.symm hkj) hj hu)
  · rw [List.getElem?_set] at ha hb
    by_cases hki : k = i
    · subst hki
      rw [if_pos rfl, if_pos hk] at ha
      rw [if_neg hij] at hb
      injection ha with ha
      subst ha
      exact (hap j b hij hb).symm
    · rw [if_neg hki] at ha
      by_cases hkj : k = j
      · subst hkj
        rw [if_pos rfl, if_pos hk] at hb
        injection hb with hb
        subst hb
        exact hap i a hki ha
      · rw [if_neg hkj] at hb
        exact h.apart i j a b hij ha hb
/-- one list more, apart from all -/
theorem Fam.snoc (h : Fam w B e us xss) (ho : OwnInts w B e u zs) (hap : ∀ (j : Nat) (u' : Value), us[j]? = some u' → Apart u' u) : Fam w B e (us ++ [u]) (xss ++ [zs]) := by
  refine ⟨by simp [h.len], fun j u' ns' hj hj' => ?_, fun i j a b hij ha hb => ?_⟩
  · by_cases hlt : j < us.length
    · rw [List.getElem?_append_left hlt] at hj
      rw [List.getElem?_append_left (by rw [← h.len]; exact hlt)] at hj'
      exact h.row j u' ns' hj hj'
    · have hjl := (List.getElem?_eq_some_iff.1 hj).1
      simp at hjl
      have : j = us.length := by omega
      subst this
      rw [List.getElem?_append_right (Nat.le_refl _)] at hj
      rw [List.getElem?_append_right (by rw [h.len]; exact Nat.le_refl _), h.len] at hj'
      simp at hj hj'
      subst hj; subst hj'
      exact ho
  · have hx : ∀ (m : Nat) (c : Value), (us ++ [u])[m]? = some c → (m < us.length ∧ us[m]? = some c) ∨ (m = us.length ∧ c = u) := by
      intro m c hm
      by_cases hlt : m < us.length
      · rw [List.getElem?_append_left hlt] at hm; exact .inl ⟨hlt, hm⟩
      · have hml := (List.getElem?_eq_some_iff.1 hm).1
        simp at hml
        have : m = us.length := by omega
        subst this
        rw [List.getElem?_append_right (Nat.le_refl _)] at hm
        simp at hm
        exact .inr ⟨rfl, hm.symm⟩
    rcases hx i a ha with ⟨h1, h2⟩ | ⟨h1, h2⟩ <;> rcases hx j b hb with ⟨h3, h4⟩ | ⟨h3, h4⟩
    · exact h.apart i j a b hij h2 h4
    · subst h4; exact hap i a h2
    · subst h2; exact (hap j b h4).symm
    · omega
/-- a list that has just been made is apart from all -/
theorem Fam.fresh (h : Fam w B e us xss) (hge : ∀ b, u.ownBlock = some b → w.heap.size ≤ b) : ∀ (j : Nat) (u' : Value), us[j]? = some u' → Apart u' u := by
  intro j u' hj
  have hz' : xss[j]? = some (xss[j]'(by rw [← h.len]; exact (List.getElem?_eq_some_iff.1 hj).1)) := List.getElem?_eq_getElem _
  exact apart_of_lt (h.row j u' _ hj hz').1.lt hge
theorem Fam.nils (w : World) (B : Nat) (e : TypeId) (n : Nat) : Fam w B e (List.replicate n (.slice none 0 0)) (List.replicate n []) := by
  refine ⟨by simp, fun k u zs hu hz => ?_, fun i j u u' _ hu _ => ?_⟩
  · rw [List.getElem?_replicate] at hu hz
    split at hu
    · rw [if_pos (by assumption)] at hz
      injection hu with hu; injection hz with hz
      subst hu; subst hz
      exact OwnInts.nil _ _ _
    · cases hu
  · rw [List.getElem?_replicate] at hu
    split at hu
    · injection hu with hu; subst hu; exact .inl rfl
    · cases hu
end

/-- rows of neighbours: n rows, row k at vs k, in the block g; and other lists es, apart from all rows -/
structure NW (w : World) (B g n : Nat) (vs : List Value) (nss : List (List Nat)) (es : List Value) (ess : List (List Int)) : Prop where
  own : Own w B tNL (.slice (some ⟨g, 0, none⟩) n n) vs
  len : vs.length = n
  len' : nss.length = n
  fam : Fam w B tN (vs ++ es) (nss.map up ++ ess)

section
variable {w w' w1 : World} {B g n k x : Nat} {vs es : List Value} {nss : List (List Nat)} {ess : List (List Int)} {u u1 : Value} {ns : List Nat} {zs zs1 : List Int}
theorem NW.below (h : NW w B g n vs nss es ess) (hb : Below w.heap.size w w') : NW w' B g n vs nss es ess := ⟨h.own.below hb, h.len, h.len', h.fam.below hb⟩
theorem NW.drewN (h : NW w B g n vs nss es ess) (m : Nat) : NW (w.drewN m) B g n vs nss es ess := h.below (below_drewN (Below.refl _ _) m)
theorem NW.mono {B' : Nat} (h : NW w B g n vs nss es ess) (hB : B' ≤ B) : NW w B' g n vs nss es ess := ⟨h.own.mono hB, h.len, h.len', h.fam.mono hB⟩
theorem NW.made (h : Own w B tNL (.slice (some ⟨g, 0, none⟩) n n) (List.replicate n (.slice none 0 0))) : NW w B g n (List.replicate n (.slice none 0 0)) (List.replicate n []) [] [] := by
  refine ⟨h, by simp, by simp, ?_⟩
  have := Fam.nils w B tN n
  simpa [List.map_replicate, up] using this
theorem NW.get (h : NW w B g n vs nss es ess) (hk : k < n) : ∃ A m c ns, vs[k]? = some (.slice A m c) ∧ m = ns.length ∧ nss[k]? = some ns ∧ w.cell? ⟨g, k, none⟩ = some (.slice A m c) ∧ OwnInts w B tN (.slice A m c) (up ns) := by
  have hu : vs[k]? = some (vs[k]'(by rw [h.len]; exact hk)) := List.getElem?_eq_getElem _
  have hz : nss[k]? = some (nss[k]'(by rw [h.len']; exact hk)) := List.getElem?_eq_getElem _
  have ho := h.fam.row k _ (up (nss[k]'(by rw [h.len']; exact hk))) (by rw [List.getElem?_append_left (by rw [h.len]; exact hk)]; exact hu) (by rw [List.getElem?_append_left (by rw [List.length_map, h.len']; exact hk), List.getElem?_map, hz]; rfl)
  obtain ⟨ad, n', c', he, hc⟩ := h.own.cells.at_ hu
  simp only [Value.slice.injEq, Option.some.injEq] at he
  obtain ⟨rfl, -, -⟩ := he
  have e : (⟨g, 0, none⟩ : Addr).add k = ⟨g, k, none⟩ := by
    by_cases h0 : k = 0 <;> simp [Addr.add, h0]
  rw [e] at hc
  obtain ⟨A, c, hv, -, -⟩ := ho.1.cells.open_
  rw [ints_len, up_len] at hv
  exact ⟨A, _, c, _, by rw [hu, hv], rfl, hz, by rw [hc, hv], by rw [← hv]; exact ho⟩
theorem NW.rows (h : NW w B g n vs nss es ess) : Rows w (.slice (some ⟨g, 0, none⟩) n n) (nss.map up) := by
  refine ⟨vs, h.own.cells, by rw [List.length_map, h.len, h.len'], fun k u zs hu hz => ?_⟩
  refine (h.fam.row k u zs ?_ ?_).ints
  · rw [List.getElem?_append_left (List.getElem?_eq_some_iff.1 hu).1]; exact hu
  · rw [List.getElem?_append_left (List.getElem?_eq_some_iff.1 hz).1]; exact hz
/-- row k has grown by append: the world between, ahead of the store -/
theorem NW.grown (h : NW w B g n vs nss es ess) (hu : vs[k]? = some u) (hz : nss[k]? = some ns) (ho : Own w1 B tN u1 (ints (up ns) ++ [.int .i64 (x : Int)])) (hx : x ≤ 1000000) (hgr : Grow w w1 u u1) :
    Own w1 B tNL (.slice (some ⟨g, 0, none⟩) n n) vs ∧ Fam w1 B tN (vs.set k u1 ++ es) ((addAt x k nss).map up ++ ess) := by
  have hk : k < vs.length := (List.getElem?_eq_some_iff.1 hu).1
  have hkn : k < nss.length := (List.getElem?_eq_some_iff.1 hz).1
  have hr := h.fam.row k u (up ns) (by rw [List.getElem?_append_left hk]; exact hu) (by rw [List.getElem?_append_left (by rw [List.length_map]; exact hkn), List.getElem?_map, hz]; rfl)
  have how : Own w1 B tNL (.slice (some ⟨g, 0, none⟩) n n) vs := h.own.kept hgr.1 (h.own.ne_of_type hr.1 (by decide))
  have hnew : OwnInts w1 B tN u1 (up (ns ++ [x])) := by
    refine ⟨by rw [up_append]; simpa [ints, up] using ho, fun z hz => ?_⟩
    rw [up_append] at hz
    rcases List.mem_append.1 hz with hz | hz
    · exact hr.2 z hz
    · simp [up] at hz; subst hz; unfold In64; omega
  refine ⟨how, ?_⟩
  have hf := h.fam.step (k := k) (by rw [List.getElem?_append_left hk]; exact hu) hnew hgr
  rw [List.set_append, if_pos hk, List.set_append, if_pos (by rw [List.length_map]; exact hkn)] at hf
  rw [addAt_set hz, List.map_set]
  exact hf
/-- row k has grown by append: what its store wants, and what is there behind it -/
theorem NW.grow (h : NW w B g n vs nss es ess) (hu : vs[k]? = some u) (hz : nss[k]? = some ns) (ho : Own w1 B tN u1 (ints (up ns) ++ [.int .i64 (x : Int)])) (hx : x ≤ 1000000) (hgr : Grow w w1 u u1) :
    (∃ u0, w1.cell? ⟨g, k, none⟩ = some u0) ∧ w1.frozen? ⟨g, k, none⟩ = false ∧ NW (w1.setCell ⟨g, k, none⟩ u1) B g n (vs.set k u1) (addAt x k nss) es ess := by
  obtain ⟨how, hf⟩ := h.grown hu hz ho hx hgr
  obtain ⟨u0, -, hc, hfr, -, -, hown, hg2⟩ := how.storeAt (List.getElem?_eq_some_iff.1 hu).1 u1
  exact ⟨⟨u0, hc⟩, hfr, hown, by simp [h.len], by rw [addAt_len]; exact h.len', hf.other (v := .slice (some ⟨g, 0, none⟩) n n) hg2 how (by decide)⟩
theorem NW.ge (h : NW w B g n vs nss es ess) : B ≤ g := h.own.ge g rfl
/-- another list of one's own: what is known of it -/
theorem NW.other (h : NW w B g n vs nss es ess) (hu : es[k]? = some u) (hz : ess[k]? = some zs) : OwnInts w B tN u zs := by
  refine h.fam.row (n + k) u zs ?_ ?_
  · rw [List.getElem?_append_right (by rw [h.len]; omega), h.len, Nat.add_sub_cancel_left]; exact hu
  · rw [List.getElem?_append_right (by rw [List.length_map, h.len']; omega), List.length_map, h.len', Nat.add_sub_cancel_left]; exact hz
/-- another list has turned or grown -/
theorem NW.step (h : NW w B g n vs nss es ess) (hu : es[k]? = some u) (hz : ess[k]? = some zs) (ho : OwnInts w1 B tN u1 zs1) (hgr : Grow w w1 u u1) : NW w1 B g n vs nss (es.set k u1) (ess.set k zs1) := by
  have hr := h.other hu hz
  have how : Own w1 B tNL (.slice (some ⟨g, 0, none⟩) n n) vs := h.own.kept hgr.1 (h.own.ne_of_type hr.1 (by decide))
  have hf := h.fam.step (k := n + k) (u := u) (by rw [List.getElem?_append_right (by rw [h.len]; omega), h.len, Nat.add_sub_cancel_left]; exact hu) ho hgr
  rw [List.set_append, if_neg (by rw [h.len]; omega), h.len, Nat.add_sub_cancel_left, List.set_append, if_neg (by rw [List.length_map, h.len']; omega), List.length_map, h.len', Nat.add_sub_cancel_left] at hf
  exact ⟨how, h.len, h.len', hf⟩
/-- one list more, which has just been made -/
theorem NW.snoc (h : NW w B g n vs nss es ess) (hb : Below w.heap.size w w1) (ho : OwnInts w1 w.heap.size tN u zs) (hB : B ≤ w.heap.size) : NW w1 B g n vs nss (es ++ [u]) (ess ++ [zs]) := by
  have h1 := h.below hb
  refine ⟨h1.own, h.len, h.len', ?_⟩
  rw [← List.append_assoc, ← List.append_assoc]
  refine h1.fam.snoc (ho.mono hB) fun j u' hj => ?_
  exact h.fam.fresh ho.1.ge j u' hj
/-- a block of another type has turned -/
theorem NW.apart {v : Value} {B' : Nat} {e' : TypeId} {cs : List Value} (h : NW w B g n vs nss es ess) (hg : w.grownBy w' v.ownBlock) (ho : Own w B' e' v cs) (hne : tN ≠ e') (hne' : tNL ≠ e') : NW w' B g n vs nss es ess :=
  ⟨h.own.kept hg (h.own.ne_of_type ho hne'), h.len, h.len', h.fam.other hg ho hne⟩
/-- a block of another type has turned -/
theorem NW.keptBT {v : Value} {e' : TypeId} (h : NW w B g n vs nss es ess) (hg : w.grownBy w' v.ownBlock) (hb : BT w e' v) (hne : tN ≠ e') (hne' : tNL ≠ e') : NW w' B g n vs nss es ess :=
  ⟨h.own.kept hg (h.own.bt.ne hb hne'), h.len, h.len', ⟨h.fam.len, fun k u zs hu hz => (h.fam.row k u zs hu hz).kept hg ((h.fam.row k u zs hu hz).1.bt.ne hb hne), h.fam.apart⟩⟩
/-- another list has grown by one number -/
theorem NW.push {zn : List Nat} (h : NW w B g n vs nss es ess) (hu : es[k]? = some u) (hz : ess[k]? = some (up zn)) (ho : Own w1 B tN u1 (ints (up zn) ++ [.int .i64 (x : Int)])) (hx : x ≤ 1000000) (hgr : Grow w w1 u u1) : NW w1 B g n vs nss (es.set k u1) (ess.set k (up (zn ++ [x]))) := by
  refine h.step hu hz ⟨by rw [up_append]; simpa [ints, up] using ho, fun z hz' => ?_⟩ hgr
  rw [up_append] at hz'
  rcases List.mem_append.1 hz' with hz' | hz'
  · exact (h.other hu hz).2 z hz'
  · simp [up] at hz'; subst hz'; unfold In64; omega
/-- a store into another list -/
theorem NW.put {g1 n1 c1 j : Nat} {zn : List Nat} (h : NW w B g n vs nss es ess) (hu : es[k]? = some (.slice (some ⟨g1, 0, none⟩) n1 c1)) (hz : ess[k]? = some (up zn)) (hj : j < zn.length) (x : Nat) (hx : x ≤ 1000000) :
    (∃ u0, w.cell? ⟨g1, j, none⟩ = some u0) ∧ w.frozen? ⟨g1, j, none⟩ = false ∧ NW (w.setCell ⟨g1, j, none⟩ (.int .i64 (x : Int))) B g n vs nss es (ess.set k (up (zn.set j x))) ∧ B ≤ g1 ∧ w.grownBy (w.setCell ⟨g1, j, none⟩ (.int .i64 (x : Int))) (some g1) := by
  have hr := h.other hu hz
  obtain ⟨u0, -, hc, hf, -, hB, hown, hg⟩ := hr.1.storeAt (k := j) (by rw [ints_len, up_len]; exact hj) (.int .i64 (x : Int))
  have ho : OwnInts (w.setCell ⟨g1, j, none⟩ (.int .i64 (x : Int))) B tN (.slice (some ⟨g1, 0, none⟩) n1 c1) (up (zn.set j x)) := by
    refine ⟨by simpa [ints, up, List.map_set] using hown, fun z hz => ?_⟩
    simp only [up, List.map_set] at hz
    rcases List.mem_or_eq_of_mem_set hz with hz | hz
    · exact hr.2 z hz
    · rw [hz]; unfold In64; omega
  have hs := h.step hu hz ho ⟨hg, .inl rfl⟩
  have e : es.set k (.slice (some ⟨g1, 0, none⟩) n1 c1) = es := by
    apply List.ext_getElem?
    intro i
    rw [List.getElem?_set]
    by_cases hki : k = i
    · subst hki; rw [if_pos rfl, if_pos (List.getElem?_eq_some_iff.1 hu).1, hu]
    · rw [if_neg hki]
  rw [e] at hs
  exact ⟨⟨u0, hc⟩, hf, hs, hB, hg⟩
/-- a number in another list -/
theorem NW.num {g1 n1 c1 j : Nat} {zn : List Nat} (h : NW w B g n vs nss es ess) (hu : es[k]? = some (.slice (some ⟨g1, 0, none⟩) n1 c1)) (hz : ess[k]? = some (up zn)) (hj : j < zn.length) : w.cell? ⟨g1, j, none⟩ = some (.int .i64 (zn.getD j 0 : Nat)) := by
  have hr := (h.other hu hz).ints
  obtain ⟨A, c, e, -, -, h3⟩ := hr.open_
  obtain ⟨ad, z, hA, hz', -, hc⟩ := h3 j (by rw [up_len]; exact hj)
  simp only [Value.slice.injEq] at e
  obtain ⟨rfl, -, -⟩ := e
  injection hA with hA
  subst hA
  obtain ⟨l, hl, hzl⟩ := up_getD hz'
  have e2 : (⟨g1, 0, none⟩ : Addr).add j = ⟨g1, j, none⟩ := by by_cases h0 : j = 0 <;> simp [Addr.add, h0]
  rw [e2] at hc
  rw [hc, hzl]
  simp [List.getD, hl]
end

/-- rows that have grown, ahead of their stores: the outer list still holds vs, the rows are us -/
structure NW2 (w : World) (B g n : Nat) (vs us : List Value) (nss : List (List Nat)) (es : List Value) (ess : List (List Int)) : Prop where
  own : Own w B tNL (.slice (some ⟨g, 0, none⟩) n n) vs
  len : vs.length = n
  lenu : us.length = n
  len' : nss.length = n
  fam : Fam w B tN (us ++ es) (nss.map up ++ ess)
section
variable {w w' w1 : World} {B g n k x : Nat} {vs us es : List Value} {nss : List (List Nat)} {ess : List (List Int)} {u u1 : Value} {ns : List Nat}
theorem NW.two (h : NW w B g n vs nss es ess) : NW2 w B g n vs vs nss es ess := ⟨h.own, h.len, h.len, h.len', h.fam⟩
theorem NW2.one (h : NW2 w B g n vs us nss es ess) (e : vs = us) : NW w B g n vs nss es ess := ⟨h.own, h.len, h.len', by rw [e]; exact h.fam⟩
theorem NW2.below (h : NW2 w B g n vs us nss es ess) (hb : Below w.heap.size w w') : NW2 w' B g n vs us nss es ess := ⟨h.own.below hb, h.len, h.lenu, h.len', h.fam.below hb⟩
theorem NW2.row (h : NW2 w B g n vs us nss es ess) (hu : us[k]? = some u) (hz : nss[k]? = some ns) : OwnInts w B tN u (up ns) := by
  have hk := (List.getElem?_eq_some_iff.1 hu).1
  have hkn := (List.getElem?_eq_some_iff.1 hz).1
  exact h.fam.row k u (up ns) (by rw [List.getElem?_append_left hk]; exact hu) (by rw [List.getElem?_append_left (by rw [List.length_map]; exact hkn), List.getElem?_map, hz]; rfl)
theorem NW2.cell (h : NW2 w B g n vs us nss es ess) (hu : vs[k]? = some u) : w.cell? ⟨g, k, none⟩ = some u := by
  obtain ⟨ad, n', c', he, hc⟩ := h.own.cells.at_ hu
  simp only [Value.slice.injEq, Option.some.injEq] at he
  obtain ⟨rfl, -, -⟩ := he
  have e : (⟨g, 0, none⟩ : Addr).add k = ⟨g, k, none⟩ := by by_cases h0 : k = 0 <;> simp [Addr.add, h0]
  rwa [e] at hc
theorem NW2.store (h : NW2 w B g n vs us nss es ess) (hk : k < n) (u1 : Value) : (∃ u0, w.cell? ⟨g, k, none⟩ = some u0) ∧ w.frozen? ⟨g, k, none⟩ = false ∧ NW2 (w.setCell ⟨g, k, none⟩ u1) B g n (vs.set k u1) us nss es ess ∧ w.grownBy (w.setCell ⟨g, k, none⟩ u1) (some g) := by
  obtain ⟨u0, -, hc, hfr, -, -, hown, hg2⟩ := h.own.storeAt (by rw [h.len]; exact hk) u1
  exact ⟨⟨u0, hc⟩, hfr, ⟨hown, by rw [List.length_set]; exact h.len, h.lenu, h.len', h.fam.other (v := .slice (some ⟨g, 0, none⟩) n n) hg2 h.own (by decide)⟩, hg2⟩
end

/-- short rows of small numbers -/
def NB (nss : List (List Nat)) (m n : Nat) : Prop := ∀ ns ∈ nss, ns.length ≤ m ∧ ∀ x ∈ ns, x < n
theorem NB.add {nss : List (List Nat)} {m n x i : Nat} (h : NB nss m n) (hx : x < n) : NB (addAt x i nss) (m + 1) n := by
  intro ns hns
  rcases mem_addAt hns with hns | ⟨b, hb, rfl⟩
  · exact ⟨by have := (h ns hns).1; omega, (h ns hns).2⟩
  · refine ⟨by have := (h b hb).1; simp; omega, fun y hy => ?_⟩
    rcases List.mem_append.1 hy with hy | hy
    · exact (h b hb).2 y hy
    · simp at hy; omega
theorem NB.mono {nss : List (List Nat)} {m m' n : Nat} (h : NB nss m n) (hm : m ≤ m') : NB nss m' n := fun ns hns => ⟨Nat.le_trans (h ns hns).1 hm, (h ns hns).2⟩
theorem NB.nil (k m n : Nat) : NB (List.replicate k []) m n := by
  intro ns hns
  have := List.eq_of_mem_replicate hns
  subst this
  exact ⟨Nat.zero_le _, fun x hx => by simp at hx⟩
end Go.Proofs.Ytofabikjjkapmaa

set_option maxRecDepth 100000
set_option linter.unusedVariables false
set_option linter.unusedSimpArgs false
namespace Go.Proofs.Ytofabikjjkapmaa
open Go.RowKit

end Go.Proofs.Ytofabikjjkapmaa

set_option linter.unusedVariables false
set_option linter.unusedSimpArgs false
set_option maxRecDepth 100000
namespace Go.Proofs.Ytofabikjjkapmaa

end Go.Proofs.Ytofabikjjkapmaa

set_option maxRecDepth 100000
set_option linter.unusedVariables false
set_option linter.unusedSimpArgs false
namespace Go.Proofs.Ytofabikjjkapmaa
open Go.RowKit

end Go.Proofs.Ytofabikjjkapmaa

