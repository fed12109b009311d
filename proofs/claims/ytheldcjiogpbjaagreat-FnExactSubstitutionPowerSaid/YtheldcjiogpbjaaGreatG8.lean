/- Lists of one's own of structs of k cells, over what an element's cells say; such a list sorted by the library. No program in sight. | Walks: slices.CompareFunc at forests; words for structs of two lists and a count. | Walks: nodesIn, compareTrunks, compareForests, the comparison of cuts; slices.SortFunc at cuts. | Walks: the comparison of cuts; slices.SortFunc at cuts. | Words: lists of structs that are stored into; equal ones in a list in order gathered with their numbers. No program in sight. | A region that draws its order, whose operations yield one value each in every world of a class S, and leave a world of S: one walk in the order of the text. No program in sight. | Walks: masks: l16Mask of the reference, isCutMask of the program. | Walks: isCutMask, checkCutMask of the program; l16Code of the reference. | Plain: a canonical tree cut up above the nodes of a mask: the program's pieces and skeleton and the reference's are made from the same lists. | Walks: isCutMask, checkCutMask of the program. | Plain: what holds of the program's state while it cuts a tree up. -/
import Derived.Test.YtheldcjiogpbjaaGreatG6
import Derived.Test.YtheldcjiogpbjaaGreatG5
import Derived.Test.YtheldcjiogpbjaaGreatG4
import Derived.Test.YtheldcjiogpbjaaGreatG7
import Derived.Shelf.SlSortCmp.WholeK
import Derived.Shelf.SlSortCmp.NoneTotal
import Derived.Shelf.SlGeneric
import Derived.Ground.SlsfProg
import Derived.BigQuiet
import Derived.Below
set_option maxRecDepth 100000
set_option linter.unusedVariables false
set_option linter.unusedSimpArgs false
namespace Go.Proofs.YtheldcjiogpbjaaGreat
open Go.RowKit Go.Sort Go.Shelf

/-- what k cells say of a datum; what they point to lies in blocks from B on, of numbers and of slices of numbers -/
structure Elt (α : Type) where
  k : Nat
  D : World → Nat → List Value → α → Prop
  len : ∀ {w B c x}, D w B c x → c.length = k
  one : ∀ {w B c x}, D w B c x → ∀ u ∈ c, u.oneCell' = true
  below : ∀ {w w' B c x}, D w B c x → Below w.heap.size w w' → D w' B c x
  mono : ∀ {w B B' c x}, D w B c x → B' ≤ B → D w B' c x
  kept : ∀ {w w' B c x} {e : TypeId} {v : Value}, D w B c x → w.grownBy w' v.ownBlock → BT w e v → tI ≠ e → tL ≠ e → D w' B c x

def Elts {α : Type} (E : Elt α) (w : World) (B : Nat) (css : List (List Value)) (xs : List α) : Prop := css.length = xs.length ∧ ∀ (i : Nat) (c : List Value) (x : α), css[i]? = some c → xs[i]? = some x → E.D w B c x
section
variable {α : Type} {E : Elt α} {w w' : World} {B : Nat} {css : List (List Value)} {xs : List α}
theorem Elts.nil (E : Elt α) (w : World) (B : Nat) : Elts E w B [] [] := ⟨rfl, fun i c x h => by simp at h⟩
theorem Elts.below (h : Elts E w B css xs) (hb : Below w.heap.size w w') : Elts E w' B css xs := ⟨h.1, fun i c x hc hx => E.below (h.2 i c x hc hx) hb⟩
theorem Elts.mono {B' : Nat} (h : Elts E w B css xs) (hB : B' ≤ B) : Elts E w B' css xs := ⟨h.1, fun i c x hc hx => E.mono (h.2 i c x hc hx) hB⟩
theorem Elts.kept {v : Value} {e : TypeId} (h : Elts E w B css xs) (hg : w.grownBy w' v.ownBlock) (hb : BT w e v) (h1 : tI ≠ e) (h2 : tL ≠ e) : Elts E w' B css xs := ⟨h.1, fun i c x hc hx => E.kept (h.2 i c x hc hx) hg hb h1 h2⟩
theorem Elts.snoc {c : List Value} {x : α} (h : Elts E w B css xs) (hx : E.D w B c x) : Elts E w B (css ++ [c]) (xs ++ [x]) := by
  refine ⟨by simp [h.1], fun i c' x' hc hx' => ?_⟩
  by_cases hlt : i < css.length
  · rw [List.getElem?_append_left hlt] at hc
    rw [List.getElem?_append_left (by rw [← h.1]; exact hlt)] at hx'
    exact h.2 i c' x' hc hx'
  · have hkl := (List.getElem?_eq_some_iff.1 hc).1
    simp at hkl
    have : i = css.length := by omega
    subst this
    rw [List.getElem?_append_right (Nat.le_refl _)] at hc
    rw [List.getElem?_append_right (by rw [h.1]; exact Nat.le_refl _), h.1] at hx'
    simp at hc hx'
    subst hc; subst hx'
    exact hx
theorem Elts.at_ {i : Nat} {x : α} (h : Elts E w B css xs) (hx : xs[i]? = some x) : ∃ c, css[i]? = some c ∧ E.D w B c x := by
  have hi : i < css.length := by rw [h.1]; exact (List.getElem?_eq_some_iff.1 hx).1
  exact ⟨_, List.getElem?_eq_getElem hi, h.2 i _ x (List.getElem?_eq_getElem hi) hx⟩
theorem Elts.set_ {i : Nat} {c : List Value} {x : α} (h : Elts E w B css xs) (hx : E.D w B c x) : Elts E w B (css.set i c) (xs.set i x) := by
  refine ⟨by simp [h.1], fun j c' x' hc hx' => ?_⟩
  rw [List.getElem?_set] at hc hx'
  by_cases hij : i = j
  · subst hij
    rw [if_pos rfl] at hc hx'
    split at hc
    · rw [if_pos (by rw [← h.1]; assumption)] at hx'
      injection hc with hc; injection hx' with hx'
      subst hc; subst hx'
      exact hx
    · cases hc
  · rw [if_neg hij] at hc hx'
    exact h.2 j c' x' hc hx'
/-- elements that say more, said otherwise -/
theorem Elts.map_ {β : Type} {F : Elt β} {f : α → β} (h : Elts E w B css xs) (hf : ∀ c x, E.D w B c x → F.D w B c (f x)) : Elts F w B css (xs.map f) := by
  refine ⟨by simp [h.1], fun i c y hc hy => ?_⟩
  rw [List.getElem?_map] at hy
  cases hx : xs[i]? with
  | none => rw [hx] at hy; cases hy
  | some x => rw [hx] at hy; injection hy with hy; subst hy; exact hf c x (h.2 i c x hc hx)
theorem Elts.klen (h : Elts E w B css xs) : ∀ c ∈ css, c.length = E.k := by
  intro c hc
  obtain ⟨i, hi, rfl⟩ := List.getElem_of_mem hc
  exact E.len (h.2 i _ _ (List.getElem?_eq_getElem hi) (List.getElem?_eq_getElem (by rw [← h.1]; exact hi)))
end
/-- a list of one's own of such elements -/
def SLs {α : Type} (E : Elt α) (e : TypeId) (w : World) (B : Nat) (v : Value) (xs : List α) : Prop := ∃ css, OwnK w B e E.k v css ∧ Elts E w B css xs
section
variable {α : Type} {E : Elt α} {e : TypeId} {w w' : World} {B : Nat} {v : Value} {xs : List α}
theorem SLs.below (h : SLs E e w B v xs) (hb : Below w.heap.size w w') : SLs E e w' B v xs := by obtain ⟨css, h1, h2⟩ := h; exact ⟨css, h1.below hb, h2.below hb⟩
theorem SLs.mono {B' : Nat} (h : SLs E e w B v xs) (hB : B' ≤ B) : SLs E e w B' v xs := by obtain ⟨css, h1, h2⟩ := h; exact ⟨css, h1.mono hB, h2.mono hB⟩
theorem SLs.open_ (h : SLs E e w B v xs) : ∃ A c, v = .slice A xs.length c ∧ xs.length ≤ c ∧ c ≤ 9223372036854775807 := by
  obtain ⟨css, h1, h2⟩ := h
  have := h1.open_
  rwa [h2.1] at this
end

/-! ### sorted by the library -/
section
variable {α : Type} [Inhabited α] {enc : α → List Value} {k : Nat}
theorem flatK_list (hk : ∀ x, (enc x).length = k) (d : List α) : (flatK enc k d.toArray).toList = (d.map enc).flatten := by
  have hkk : ∀ c ∈ d.map enc, c.length = k := fun c hc => by obtain ⟨x, -, rfl⟩ := List.mem_map.1 hc; exact hk x
  apply List.ext_getElem?
  intro t
  by_cases ht : t < d.length * k
  · have k0 : 0 < k := by rcases Nat.eq_zero_or_pos k with h | h; subst h; simp at ht; exact h
    have hq : t / k < d.length := by rw [Nat.div_lt_iff_lt_mul k0]; exact ht
    have hm : t % k < k := Nat.mod_lt _ k0
    have hsz : t < (flatK enc k d.toArray).size := by rw [size_flatK]; simpa using ht
    have h1 : (flatK enc k d.toArray).toList[t]? = some ((enc (d[t / k]'hq))[t % k]'(by rw [hk]; exact hm)) := by
      rw [Array.getElem?_toList, Array.getElem?_eq_getElem hsz, ← getElem!_pos _ t hsz, get_flatK _ _ _ t (by simpa using ht)]
      rw [getElem!_pos d.toArray (t / k) (by simpa using hq), getElem!_pos _ (t % k) (by rw [hk]; exact hm)]
      simp
    rw [h1]
    have h2 := flat_get (css := d.map enc) (i := t / k) (j := t % k) hkk (by rw [List.getElem?_map, List.getElem?_eq_getElem hq]; rfl) (List.getElem?_eq_getElem (by rw [hk]; exact hm))
    rw [Nat.div_add_mod'] at h2
    exact h2.symm
  · rw [List.getElem?_eq_none (by rw [Array.length_toList, size_flatK]; simpa using ht), List.getElem?_eq_none (by rw [flat_len hkk, List.length_map]; omega)]
variable {w : World} {B g cap n : Nat} {e : TypeId} {d : List α} {os : Array Obj}
theorem holds_ownK (hk : ∀ x, (enc x).length = k) (h : OwnK w B e k (.slice (some ⟨g, 0, none⟩) d.length cap) (d.map enc)) : HoldsK enc k w g 0 d.toArray := by
  have hfl := flatK_list hk d
  rcases h.1.2 with ⟨e, _⟩ | ⟨g', cap', cur, he, h1, h2, h3, h4, h5, h6⟩
  · cases e
  simp only [Value.slice.injEq, Option.some.injEq, Addr.mk.injEq] at he
  obtain ⟨⟨rfl, -⟩, -, rfl⟩ := he
  intro j hj
  refine ⟨?_, by simp [World.frozen?, h2]⟩
  have h8 : (flatK enc k d.toArray)[j]? = cur[j]? := by
    rw [← Array.getElem?_toList, hfl, ← h6, List.getElem?_take_of_lt (by rw [List.length_map]; rw [size_flatK] at hj; simpa using hj), Array.getElem?_toList]
  simp only [World.cell?, h2, Nat.zero_add]
  simp only [Option.isSome_none, Bool.false_eq_true, if_false]
  rw [← h8, Array.getElem?_eq_getElem hj, getElem!_pos _ j hj]
  rfl
theorem grownBy_srtK (d : Array α) : w.grownBy (sortWorldK enc k w g 0 n d os) (some g) := by
  unfold sortWorldK putRowK
  refine ⟨rfl, rfl, rfl, by simp, fun k' hk' hne => ?_⟩
  rw [heap_grow_old _ _ (by simpa using hk')]
  have : g ≠ k' := fun e => hne (by rw [e])
  simp [putRow, mapBlock, Sort.ahead, Array.getElem?_modify, this]
theorem own_srtK (hk : ∀ x, (enc x).length = k) {ts : List α} (h : OwnK w B e k (.slice (some ⟨g, 0, none⟩) d.length cap) (d.map enc)) (hl : ts.length = d.length) :
    OwnK (sortWorldK enc k w g 0 n ts.toArray os) B e k (.slice (some ⟨g, 0, none⟩) d.length cap) (ts.map enc) := by
  have hkk : ∀ (l : List α), ∀ c ∈ l.map enc, c.length = k := fun l c hc => by obtain ⟨x, -, rfl⟩ := List.mem_map.1 hc; exact hk x
  rcases h.1.2 with ⟨e, _⟩ | ⟨g', cap', cur, he, h1, h2, h3, h4, h5, h6⟩
  · cases e
  simp only [Value.slice.injEq, Option.some.injEq, Addr.mk.injEq] at he
  obtain ⟨⟨rfl, -⟩, -, rfl⟩ := he
  rw [List.length_map] at h3 h6
  have hg : g < w.heap.size := (Array.getElem?_eq_some_iff.1 h2).1
  have hheap : (sortWorldK enc k w g 0 n ts.toArray os).heap[g]? = some (.cells (putCells id 0 (flatK enc k ts.toArray) cur) e (0, 0)) := by
    unfold sortWorldK putRowK
    rw [heap_grow_old _ _ (by simpa using hg)]
    simp [putRow, mapBlock, Sort.ahead, Array.getElem?_modify, h2, onCells]
  refine ⟨⟨by rw [flat_len (hkk ts)], .inr ⟨g, cap, _, by simp [hl], h1, hheap, by simp; omega, h4, by simp [putCells, h5], ?_⟩⟩, hkk ts⟩
  have hsz : (flatK enc k ts.toArray).size ≤ cur.size := by rw [size_flatK, h5]; simp only [List.size_toArray]; rw [hl]; exact Nat.mul_le_mul_right k h3
  have ht := take_put (α := Value) (enc := id) cur (flatK enc k ts.toArray).toList (by simpa using hsz)
  have e1 : (flatK enc k ts.toArray).toList.toArray = flatK enc k ts.toArray := by simp
  have e2 : (flatK enc k ts.toArray).toList.length = ts.length * k := by simp
  rw [e1, e2, List.map_id, flatK_list hk] at ht
  rw [List.length_map]
  exact ht
end

/-- an element with the cells that say it -/
abbrev EltS {α : Type} (E : Elt α) (w : World) (B : Nat) := {p : List Value × α // E.D w B p.1 p.2}
theorem mkElts {α : Type} {E : Elt α} {w : World} {B : Nat} : ∀ {css : List (List Value)} {xs : List α}, Elts E w B css xs → ∃ d : List (EltS E w B), d.map (fun x => x.1.1) = css ∧ d.map (fun x => x.1.2) = xs
  | [], [], _ => ⟨[], rfl, rfl⟩
  | [], _ :: _, h => by have := h.1; simp at this
  | _ :: _, [], h => by have := h.1; simp at this
  | c :: css, x :: xs, h => by
    obtain ⟨d, h1, h2⟩ := mkElts (css := css) (xs := xs) ⟨by have := h.1; simpa using this, fun i c' x' hc hx => h.2 (i + 1) c' x' (by simpa using hc) (by simpa using hx)⟩
    exact ⟨⟨(c, x), h.2 0 c x (by simp) (by simp)⟩ :: d, by simp [h1], by simp [h2]⟩

/-- slices.SortFunc at structs of one's own, where the comparison reads them -/
theorem sort_elts {P : Program} {ρ : Ren} (L : SlLaysF0.n6 P ρ) {α : Type} (E : Elt α) {e : TypeId} (aE : ∀ w, (isAgg (ρ.t 24)).run P w = .ok true w) (zE : ∀ w, (Go.sizeOf (ρ.t 24)).run P w = .ok E.k w)
    (lt : α → α → Bool) (sto : STO lt) (cf : α → α → Int) (hcf : ∀ x y, decide (cf x y < 0) = lt x y) (g : Nat) (eg : ∀ args w, (callFunc g args).run P w = .ok (.enter g args) w) (h1 : tI ≠ e) (h2 : tL ≠ e)
    (hcmp : ∀ (W : World) (B : Nat) (c c' : List Value) (x y : α), E.D W B c x → E.D W B c' y → Calls P g #[.agg c.toArray, .agg c'.toArray] W fun e w' => e = .returned (.int .i64 (cf x y)) ∧ ∃ q os, w' = grow (W.drewN q) os)
    (w : World) (B cap : Nat) (A : Option Addr) (css : List (List Value)) (xs : List α) (h : OwnK w B e E.k (.slice A css.length cap) css) (hr : Elts E w B css xs) (hn : css.length ≤ 1000000) :
    Calls P (ρ.f 6) #[.slice A css.length cap, .func (.func g) #[] #[]] w fun e' w' => e' = .returned (.tuple #[]) ∧
      ∃ css', css'.length = css.length ∧ OwnK w' B e E.k (.slice A css.length cap) css' ∧ Elts E w' B css' (srtS lt xs) ∧ w.grownBy w' (Value.ownBlock (.slice A css.length cap)) := by
  rcases h.cases with ⟨he, rfl⟩ | ⟨gb, cap', cur, he, hBg, hgs, -⟩
  · simp only [Value.slice.injEq] at he
    obtain ⟨rfl, -, rfl⟩ := he
    have hb : xs = [] := by have h0 := hr.1; exact List.eq_nil_of_length_eq_zero h0.symm
    subst hb
    refine (AnyF.slices_SortFunc_none { L with } none 0 _ w).mono ?_
    rintro e w' ⟨rfl, rfl⟩
    exact ⟨rfl, [], rfl, h, hr, World.grownBy.refl _ _⟩
  · simp only [Value.slice.injEq] at he
    obtain ⟨rfl, -, rfl⟩ := he
    obtain ⟨d, hd1, hd2⟩ := mkElts hr
    by_cases hx0 : d = []
    · subst hx0
      simp at hd1
      subst hd1
      have hb : xs = [] := by simpa using hd2.symm
      subst hb
      refine (AnyF.slices_SortFunc_none { L with } (some ⟨gb, 0, none⟩) cap _ w).mono ?_
      rintro e w' ⟨rfl, rfl⟩
      exact ⟨rfl, [], rfl, h, hr, World.grownBy.refl _ _⟩
    haveI : Inhabited (EltS E w B) := ⟨d.head hx0⟩
    have hdl : d.length = css.length := by rw [← hd1, List.length_map]
    have hk : ∀ x : EltS E w B, (x.1.1).length = E.k := fun x => E.len x.2
    have ho : OwnK w B e E.k (.slice (some ⟨gb, 0, none⟩) d.length cap) (d.map fun x => x.1.1) := by rw [hd1, hdl]; exact h
    have hone : ∀ x : EltS E w B, ∀ v ∈ x.1.1, v.oneCell' = true := fun x => E.one x.2
    have hbt : BT w e (.slice (some ⟨gb, 0, none⟩) css.length cap) := h.bt
    have hkeep : ∀ (x : EltS E w B) (m : Nat) (dk : Array (EltS E w B)) (os : Array Obj), E.D (sortWorldK (fun x : EltS E w B => x.1.1) E.k w gb 0 m dk os) B x.1.1 x.1.2 := fun x m dk os =>
      E.kept (v := .slice (some ⟨gb, 0, none⟩) css.length cap) x.2 (grownBy_srtK dk) hbt h1 h2
    have hlay : CmpLays P g #[] (fun x : EltS E w B => x.1.1) E.k (fun x y => cf x.1.2 y.1.2) gb 0 d.toArray.size w := fun m os dk _ x y =>
      (hcmp _ B _ _ _ _ (hkeep x m dk os) (hkeep y m dk os)).mono fun e w' ⟨he, q, os', hw⟩ => ⟨he, q, os', hw⟩
    have hlt : ∀ x y : EltS E w B, ltOf (fun x y : EltS E w B => cf x.1.2 y.1.2) x y = lt x.1.2 y.1.2 := fun x y => hcf _ _
    have hswo : SWO (ltOf fun x y : EltS E w B => cf x.1.2 y.1.2) :=
      { irrefl := fun x => by rw [hlt]; exact sto.irrefl _
        trans := fun x y z a b => by rw [hlt] at *; exact sto.trans a b
        ntrans := fun x y z a b => by rw [hlt] at *; exact sto.ntrans a b }
    have hcon := AnyQ.slices_SortFunc L E.k aE zE (fun x : EltS E w B => x.1.1) hk hone _ hswo g #[] gb 0 cap d.toArray w eg hlay (holds_ownK hk ho) hgs (by simp; omega)
    rw [List.size_toArray, hdl] at hcon
    refine hcon.mono ?_
    rintro e' w' ⟨rfl, d', n, os, hp, hs, rfl⟩
    have hsz : d'.size = css.length := by have := hp.1; simp at this; omega
    have hperm : d'.toList.Perm d := by
      have h3 := hp.2.2
      rw [← hsz] at h3
      simp only [Array.extract_size] at h3
      have e : (d.toArray.extract 0 d'.size).toList = d := by
        rw [show d'.size = d.toArray.size by simp; omega, Array.extract_size]
      rw [e] at h3
      exact h3
    have hasc : AscS lt (d'.toList.map fun x => x.1.2) := by
      rw [AscS, List.pairwise_iff_getElem]
      intro i j hi hj hij
      simp at hi hj
      have h4 := hs i j (Nat.zero_le _) hij (by omega)
      rw [hlt, getElem!_pos d' i (by omega), getElem!_pos d' j (by omega)] at h4
      simpa using h4
    have hL : (d'.toList.map fun x => x.1.2) = srtS lt xs := srtS_unique sto (by rw [← hd2]; exact hperm.map _) hasc
    have hl : d'.toList.length = d.length := by simp; omega
    have hfin := own_srtK (n := n) (os := os) hk ho hl
    simp only [Array.toArray_toList] at hfin
    rw [hdl] at hfin
    refine ⟨rfl, d'.toList.map (fun x => x.1.1), by simp; omega, hfin, ⟨by rw [← hL]; simp, fun i c x hc hx => ?_⟩, grownBy_srtK d'⟩
    rw [← hL, List.getElem?_map] at hx
    rw [List.getElem?_map] at hc
    cases hx' : d'.toList[i]? with
    | none => rw [hx'] at hc; cases hc
    | some z =>
      rw [hx'] at hc hx
      simp only [Option.map_some, Option.some.injEq] at hc hx
      subst hc; subst hx
      exact hkeep z _ _ _
end Go.Proofs.YtheldcjiogpbjaaGreat
set_option maxRecDepth 100000
set_option linter.unusedVariables false
set_option linter.unusedSimpArgs false
namespace Go.Proofs.YtheldcjiogpbjaaGreat
open Go.RowKit Go.Sort Go.Shelf

/-- a field that points to memory of its own -/
structure Fld (α : Type) where
  P : World → Nat → Value → α → Prop
  one : ∀ {w B u x}, P w B u x → u.oneCell' = true
  below : ∀ {w w' B u x}, P w B u x → Below w.heap.size w w' → P w' B u x
  mono : ∀ {w B B' u x}, P w B u x → B' ≤ B → P w B' u x
  kept : ∀ {w w' B u x} {e : TypeId} {v : Value}, P w B u x → w.grownBy w' v.ownBlock → BT w e v → tI ≠ e → tL ≠ e → P w' B u x
theorem LA.keptE {w w' : World} {B : Nat} {u v : Value} {e : TypeId} {xss : List (List Int)} (h : LA w B u xss) (hg : w.grownBy w' v.ownBlock) (hb : BT w e v) (h1 : tI ≠ e) (h2 : tL ≠ e) : LA w' B u xss := by
  obtain ⟨vs, a, b, c⟩ := h
  exact ⟨vs, a.kept hg (a.bt.ne hb h2), ⟨b.1, fun k u zs hu hz => (b.2 k u zs hu hz).kept hg ((b.2 k u zs hu hz).1.bt.ne hb h1)⟩, c⟩
def fldR : Fld (List (List Nat)) where
  P w B u x := LA w B u (x.map up)
  one h := by
    obtain ⟨A, c, rfl, -⟩ := h.rows.open_
    cases A <;> rfl
  below h hb := h.below hb
  mono h hB := h.mono hB
  kept h hg hb h1 h2 := h.keptE hg hb h1 h2
def fldI : Fld (List Nat) where
  P w B u x := OwnInts w B tI u (up x)
  one h := by
    obtain ⟨A, c, rfl, -⟩ := h.ints.open_
    cases A <;> rfl
  below h hb := h.below hb
  mono h hB := h.mono hB
  kept h hg hb h1 _ := h.kept hg (h.1.bt.ne hb h1)
section
variable {α β : Type}
/-- two fields and a count -/
def elt3 (F : Fld α) (G : Fld β) : Elt ((α × β) × Nat) where
  k := 3
  D w B c x := ∃ u s, c = [u, s, .int .i64 (x.2 : Nat)] ∧ F.P w B u x.1.1 ∧ G.P w B s x.1.2
  len h := by obtain ⟨u, s, rfl, -, -⟩ := h; rfl
  one h := by
    obtain ⟨u, s, rfl, h1, h2⟩ := h
    intro v hv
    simp at hv
    rcases hv with rfl | rfl | rfl
    · exact F.one h1
    · exact G.one h2
    · rfl
  below h hb := by obtain ⟨u, s, rfl, h1, h2⟩ := h; exact ⟨u, s, rfl, F.below h1 hb, G.below h2 hb⟩
  mono h hB := by obtain ⟨u, s, rfl, h1, h2⟩ := h; exact ⟨u, s, rfl, F.mono h1 hB, G.mono h2 hB⟩
  kept h hg hb h1' h2' := by obtain ⟨u, s, rfl, h1, h2⟩ := h; exact ⟨u, s, rfl, F.kept h1 hg hb h1' h2', G.kept h2 hg hb h1' h2'⟩
/-- .. where the count is n -/
def elt2 (F : Fld α) (G : Fld β) (n : Nat) : Elt (α × β) where
  k := 3
  D w B c x := (elt3 F G).D w B c (x, n)
  len h := (elt3 F G).len h
  one h := (elt3 F G).one h
  below h hb := (elt3 F G).below h hb
  mono h hB := (elt3 F G).mono h hB
  kept h hg hb h1 h2 := (elt3 F G).kept h hg hb h1 h2
end

/-- the program's comparison of forests, tree by tree -/
def cmpFL : List (List Nat) → List (List Nat) → Int
  | [], [] => 0
  | [], _ :: _ => -1
  | _ :: _, [] => 1
  | x :: xs, y :: ys => if cmpT (up x) (up y) = 0 then cmpFL xs ys else cmpT (up x) (up y)
theorem cmpT_bef {a b : List Nat} (h : cmpT (up a) (up b) ≠ 0) : (cmpT (up a) (up b) < 0 ∧ befN a b = true) ∨ (¬ cmpT (up a) (up b) < 0 ∧ befN a b = false ∧ befN b a = true) := by
  have h1 := cmpT_up a b
  have h2 := cmpT_zero a b
  by_cases hlt : cmpT (up a) (up b) < 0
  · left; exact ⟨hlt, by rw [← h1]; exact decide_eq_true hlt⟩
  · right
    have h3 : befN a b = false := by rw [← h1]; exact decide_eq_false hlt
    refine ⟨hlt, h3, ?_⟩
    cases h4 : befN b a with
    | true => rfl
    | false =>
      have := befN_tri h3 h4
      subst this
      rw [eqN_iff.2 rfl] at h2
      exact absurd (by simpa using h2) h
theorem cmpT_eq0 {a b : List Nat} : cmpT (up a) (up b) = 0 ↔ a = b := by
  have h2 := cmpT_zero a b
  constructor
  · intro h; rw [h] at h2; exact eqN_iff.1 h2.symm
  · rintro rfl; rw [eqN_iff.2 rfl] at h2; simpa using h2
theorem cmpFL_lt : ∀ a b : List (List Nat), decide (cmpFL a b < 0) = lexL befN a b
  | [], [] => by simp [cmpFL, lexL]
  | [], _ :: _ => by simp [cmpFL, lexL]
  | _ :: _, [] => by simp [cmpFL, lexL]
  | x :: xs, y :: ys => by
    rw [cmpFL, lexL]
    by_cases h : cmpT (up x) (up y) = 0
    · have := cmpT_eq0.1 h
      subst this
      rw [if_pos h, befN_irrefl, cmpFL_lt xs ys]; rfl
    · rw [if_neg h]
      rcases cmpT_bef h with ⟨h1, h2⟩ | ⟨h1, h2, h3⟩
      · rw [h2]; exact decide_eq_true h1
      · rw [h2, h3]; exact decide_eq_false h1
theorem cmpFL_zero : ∀ a b : List (List Nat), cmpFL a b = 0 ↔ a = b
  | [], [] => by simp [cmpFL]
  | [], _ :: _ => by simp [cmpFL]
  | _ :: _, [] => by simp [cmpFL]
  | x :: xs, y :: ys => by
    rw [cmpFL]
    by_cases h : cmpT (up x) (up y) = 0
    · rw [if_pos h, cmpFL_zero xs ys, cmpT_eq0.1 h]; simp
    · rw [if_neg h]
      constructor
      · intro h'; exact absurd h' h
      · intro h'; injection h' with h1 h2; exact absurd (cmpT_eq0.2 h1) h
theorem cmpFL_step {a b : List (List Nat)} {k : Nat} {x y : List Nat} (hx : a[k]? = some x) (hy : b[k]? = some y) : cmpFL (a.drop k) (b.drop k) = if cmpT (up x) (up y) = 0 then cmpFL (a.drop (k + 1)) (b.drop (k + 1)) else cmpT (up x) (up y) := by
  have e1 : a.drop k = x :: a.drop (k + 1) := by obtain ⟨hk, rfl⟩ := List.getElem?_eq_some_iff.1 hx; exact List.drop_eq_getElem_cons hk
  have e2 : b.drop k = y :: b.drop (k + 1) := by obtain ⟨hk, rfl⟩ := List.getElem?_eq_some_iff.1 hy; exact List.drop_eq_getElem_cons hk
  rw [e1, e2, cmpFL]

theorem rowsAt {w : World} {v : Value} {xs : List (List Nat)} (h : Rows w v (xs.map up)) : ∃ A c, v = .slice A xs.length c ∧ xs.length ≤ c ∧ c ≤ 9223372036854775807 ∧
    ∀ k, k < xs.length → ∃ ad q A5 c5, A = some ad ∧ xs[k]? = some q ∧ Ints w (.slice A5 q.length c5) (up q) ∧ w.cell? (ad.add k) = some (.slice A5 q.length c5) := by
  obtain ⟨A, c, rfl, l1, l2, h3⟩ := h.open_
  rw [List.length_map] at l1 h3
  refine ⟨A, c, by rw [List.length_map], l1, l2, fun k hk => ?_⟩
  obtain ⟨ad, u, zs, h1, h2, h4, h5⟩ := h3 k hk
  have hq : xs[k]? = some (xs[k]'hk) := List.getElem?_eq_getElem _
  rw [List.getElem?_map, hq] at h2
  injection h2 with h2
  subst h2
  obtain ⟨A5, c5, he5, -, -, -⟩ := h4.open_
  rw [up_len] at he5
  subst he5
  exact ⟨ad, _, A5, c5, h1, hq, h4, h5⟩

set_option maxHeartbeats 4000000 in
theorem lib_CompareTrees (w : World) (v v' : Value) (a b : List (List Nat)) (ha : Rows w v (a.map up)) (hb : Rows w v' (b.map up)) :
    Calls Tryz.prog 129 #[v, v', .func (.func 128) #[] #[]] w fun e w' => e = .returned (.int .i64 (cmpFL a b)) ∧ w = w' := by
  obtain ⟨A, c, rfl, l1, l2, h3⟩ := rowsAt ha
  obtain ⟨B, d, rfl, m1, m2, g3⟩ := rowsAt hb
  have H3 := Lib.hid h3
  have G3 := Lib.hid g3
  obtain ⟨R, hR⟩ : ∃ R, R = cmpFL a b := ⟨_, rfl⟩
  rw [← hR]
  have HR := Lib.hid hR
  clear ha hb h3 g3 hR
  go_enter Tryz.func129, Tryz.ntmps129
  go_wp2_with fail
  go_loopw [13] (fun i wr => ∃ k : Nat, k ≤ a.length ∧ k ≤ b.length ∧ i = .int .i64 k ∧ Hid (R = cmpFL (a.drop k) (b.drop k)) ∧ w = wr) (fun i _ => a.length - (intOf i).toNat)
  case atStart => exact ⟨0, Nat.zero_le _, Nat.zero_le _, rfl, HR.out, rfl⟩
  case round =>
    obtain ⟨k, hk, hkb, rfl, hI, rfl⟩ := hrel
    by_cases hlt : k < a.length
    · obtain ⟨ad, x, A5, c5, rfl, hx, hix, hcx⟩ := H3.out k hlt
      by_cases hlb : k < b.length
      · obtain ⟨ad', y, A6, c6, rfl, hy, hiy, hcy⟩ := G3.out k hlb
        have hs := hI.out.trans (cmpFL_step hx hy)
        have hct := i_compareTrees w _ _ _ _ hix hiy
        generalize cmpT (up x) (up y) = z at hs hct
        have HCT := Lib.hid hct
        have hng : ¬ (b.length : Int) ≤ (k : Int) := by omega
        clear hx hy hix hiy hct
        by_cases hz : z = 0
        · subst hz
          have HS := Lib.hid (show R = cmpFL (a.drop (k + 1)) (b.drop (k + 1)) from by rw [hs, if_pos rfl])
          clear hs
          go_wp2_with (go_at_call 128; refine HCT.out.mono ?_; rintro e w' ⟨rfl, rfl⟩)
          go_roundw
          case rel => exact ⟨k + 1, by omega, by omega, by go_num, HS.out, by first | rfl | trivial⟩
          case measure => simp [intOf]; omega
        · have HS := Lib.hid (show R = z from by rw [hs, if_neg hz])
          have hz2 : (z != 0) = true := by simpa using hz
          clear hs
          go_wp2_with (go_at_call 128; refine HCT.out.mono ?_; rintro e w' ⟨rfl, rfl⟩)
          go_ret
          exact ⟨ret_i64 HS.out.symm, rfl⟩
      · have hkb2 : k = b.length := by omega
        have HS := Lib.hid (show R = 1 from by
          have hne : a.drop k ≠ [] := fun h => by have := congrArg List.length h; simp at this; omega
          rw [hI.out, hkb2, List.drop_length, ← hkb2]
          cases hd : a.drop k with
          | nil => exact absurd hd hne
          | cons p ps => rfl)
        have hng : (b.length : Int) ≤ (k : Int) := by omega
        clear hkb2 hx hix
        go_wp2_with fail
        go_ret
        exact ⟨ret_i64 HS.out.symm, rfl⟩
    · have hka : k = a.length := by omega
      have hna : ¬ (k : Int) < (a.length : Int) := by omega
      by_cases hlb : a.length < b.length
      · have hlb' : (a.length : Int) < (b.length : Int) := by omega
        have HS := Lib.hid (show R = -1 from by
          have hne : b.drop k ≠ [] := fun h => by have := congrArg List.length h; simp at this; omega
          rw [hI.out, show a.drop k = [] from by rw [hka, List.drop_length]]
          cases hd : b.drop k with
          | nil => exact absurd hd hne
          | cons p ps => rfl)
        clear hka
        go_wp2_with fail
        go_ret
        exact ⟨ret_i64 HS.out.symm, rfl⟩
      · have hlb' : ¬ (a.length : Int) < (b.length : Int) := by omega
        have HS := Lib.hid (show R = 0 from by
          rw [hI.out, show a.drop k = [] from by rw [hka, List.drop_length], show b.drop k = [] from by rw [List.drop_eq_nil_iff]; omega]; rfl)
        clear hka
        go_wp2_with fail
        go_ret
        exact ⟨ret_i64 HS.out.symm, rfl⟩
end Go.Proofs.YtheldcjiogpbjaaGreat
set_option maxRecDepth 100000
set_option linter.unusedVariables false
set_option linter.unusedSimpArgs false
namespace Go.Proofs
open Go.Shelf Go.RowKit Go.Lib Go.Sort
def Tryz.ssort_ren : Go.Shelf.Ren := ⟨fun | 6 => 163 | 15 => 158 | 14 => 194 | 28 => 191 | 29 => 192 | 20 => 209 | 21 => 210 | 22 => 211 | 23 => 212 | 24 => 213 | 25 => 214 | 26 => 215 | 27 => 216 | 46 => 224 | 47 => 205 | 48 => 206 | 49 => 225 | 50 => 226 | 57 => 235 | n => n, fun | 22 => 106 | 24 => 110 | 25 => 133 | 3 => 3 | 39 => 131 | 0 => 0 | 53 => 156 | 55 => 68 | 4 => 4 | 46 => 150 | 45 => 149 | 50 => 117 | 5 => 5 | 9 => 9 | 66 => 166 | 70 => 170 | 76 => 182 | 77 => 183 | n => n, fun | n => n⟩
theorem Tryz.ssort : Go.Proofs.SlLaysF0.n6 Tryz.prog Tryz.ssort_ren := {
  mixed := by kernel_rfl
  f6 := ⟨Tryz.f163.name, by decide, Tryz.func163.trans (congrArg some (by kernel_rfl))⟩
  f14 := ⟨Tryz.f194.name, by decide, Tryz.func194.trans (congrArg some (by kernel_rfl))⟩
  f15 := Tryz.func158.trans (congrArg some (by kernel_rfl))
  f20 := ⟨Tryz.f209.name, by decide, Tryz.func209.trans (congrArg some (by kernel_rfl))⟩
  f21 := ⟨Tryz.f210.name, by decide, Tryz.func210.trans (congrArg some (by kernel_rfl))⟩
  f22 := ⟨Tryz.f211.name, by decide, Tryz.func211.trans (congrArg some (by kernel_rfl))⟩
  f23 := ⟨Tryz.f212.name, by decide, Tryz.func212.trans (congrArg some (by kernel_rfl))⟩
  f24 := ⟨Tryz.f213.name, by decide, Tryz.func213.trans (congrArg some (by kernel_rfl))⟩
  f25 := ⟨Tryz.f214.name, by decide, Tryz.func214.trans (congrArg some (by kernel_rfl))⟩
  f26 := ⟨Tryz.f215.name, by decide, Tryz.func215.trans (congrArg some (by kernel_rfl))⟩
  f27 := ⟨Tryz.f216.name, by decide, Tryz.func216.trans (congrArg some (by kernel_rfl))⟩
  f28 := Tryz.func191.trans (congrArg some (by kernel_rfl))
  f29 := Tryz.func192.trans (congrArg some (by kernel_rfl))
  f46 := ⟨Tryz.f224.name, by decide, Tryz.func224.trans (congrArg some (by kernel_rfl))⟩
  f47 := Tryz.func205.trans (congrArg some (by kernel_rfl))
  f48 := Tryz.func206.trans (congrArg some (by kernel_rfl))
  f49 := ⟨Tryz.f225.name, by decide, Tryz.func225.trans (congrArg some (by kernel_rfl))⟩
  f50 := ⟨Tryz.f226.name, by decide, Tryz.func226.trans (congrArg some (by kernel_rfl))⟩
  f57 := ⟨Tryz.f235.name, by decide, Tryz.func235.trans (congrArg some (by kernel_rfl))⟩
  t0 := Tryz.underlying0
  a0 := Tryz.isAgg0
  z0 := Tryz.sizeOf0
  v0 := Tryz.zeroValue0
  t3 := Tryz.underlying3
  a3 := Tryz.isAgg3
  z3 := Tryz.sizeOf3
  v3 := Tryz.zeroValue3
  t4 := Tryz.underlying4
  a4 := Tryz.isAgg4
  z4 := Tryz.sizeOf4
  v4 := Tryz.zeroValue4
  t5 := Tryz.underlying5
  a5 := Tryz.isAgg5
  z5 := Tryz.sizeOf5
  v5 := Tryz.zeroValue5
  t9 := Tryz.underlying9
  a9 := Tryz.isAgg9
  z9 := Tryz.sizeOf9
  v9 := Tryz.zeroValue9
  t22 := Tryz.underlying106
  a22 := Tryz.isAgg106
  z22 := Tryz.sizeOf106
  v22 := Tryz.zeroValue106
  t25 := Tryz.underlying133
  a25 := Tryz.isAgg133
  z25 := Tryz.sizeOf133
  v25 := Tryz.zeroValue133
  t39 := Tryz.underlying131
  a39 := Tryz.isAgg131
  z39 := Tryz.sizeOf131
  v39 := Tryz.zeroValue131
  t45 := Tryz.underlying149
  a45 := Tryz.isAgg149
  z45 := Tryz.sizeOf149
  v45 := Tryz.zeroValue149
  t46 := Tryz.underlying150
  a46 := Tryz.isAgg150
  z46 := Tryz.sizeOf150
  v46 := Tryz.zeroValue150
  t50 := Tryz.underlying117
  a50 := Tryz.isAgg117
  z50 := Tryz.sizeOf117
  v50 := Tryz.zeroValue117
  t53 := Tryz.underlying156
  a53 := Tryz.isAgg156
  z53 := Tryz.sizeOf156
  v53 := Tryz.zeroValue156
  t55 := Tryz.underlying68
  a55 := Tryz.isAgg68
  z55 := Tryz.sizeOf68
  v55 := Tryz.zeroValue68
  t66 := Tryz.underlying166
  a66 := Tryz.isAgg166
  z66 := Tryz.sizeOf166
  v66 := Tryz.zeroValue166
  t70 := Tryz.underlying170
  a70 := Tryz.isAgg170
  z70 := Tryz.sizeOf170
  v70 := Tryz.zeroValue170
  t76 := Tryz.underlying182
  a76 := Tryz.isAgg182
  z76 := Tryz.sizeOf182
  v76 := Tryz.zeroValue182
  t77 := Tryz.underlying183
  a77 := Tryz.isAgg183
  z77 := Tryz.sizeOf183
  v77 := Tryz.zeroValue183 }
end Go.Proofs
namespace Go.Proofs.YtheldcjiogpbjaaGreat
open Go.RowKit Go.Sort Go.Shelf

abbrev tSp : TypeId := 110
theorem lex_lt {α β : Type} {l1 : α → α → Bool} {l2 : β → β → Bool} (h1 : STO l1) {a b : α} {a' b' : β} {c1 c2 : Int} (e1 : decide (c1 < 0) = l1 a b) (z1 : c1 = 0 ↔ a = b) (e2 : decide (c2 < 0) = l2 a' b') : decide ((if c1 = 0 then c2 else c1) < 0) = lexP l1 l2 (a, a') (b, b') := by
  by_cases h : c1 = 0
  · have := z1.1 h
    subst this
    rw [if_pos h, lexP_eq h1, e2]
  · rw [if_neg h]
    cases h2 : l1 a b with
    | true => rw [lexP_tt (a := (a, a')) (b := (b, b')) h2, e1, h2]
    | false =>
      have h3 : l1 b a = true := by
        cases h4 : l1 b a with
        | true => rfl
        | false => exact absurd (z1.2 (h1.tri h2 h4)) h
      rw [e1, h2]
      simp [lexP, h2, h3]
theorem lex_zero {α β : Type} {a b : α} {a' b' : β} {c1 c2 : Int} (z1 : c1 = 0 ↔ a = b) (z2 : c2 = 0 ↔ a' = b') : (if c1 = 0 then c2 else c1) = 0 ↔ (a, a') = (b, b') := by
  by_cases h : c1 = 0
  · rw [if_pos h, z2, z1.1 h]; simp
  · rw [if_neg h]
    constructor
    · intro h'; exact absurd h' h
    · intro h'; injection h' with h1 _; exact absurd (z1.2 h1) h
theorem nat_lt (m n : Nat) : decide (((m : Int) - (n : Int)) < 0) = Nat.blt m n := by
  cases h : Nat.blt m n with
  | true => have := (blt_iff _ _).1 h; exact decide_eq_true (by omega)
  | false =>
    have : ¬ m < n := fun h2 => by rw [(blt_iff _ _).2 h2] at h; cases h
    exact decide_eq_false (by omega)
theorem nat_zero (m n : Nat) : ((m : Int) - (n : Int)) = 0 ↔ m = n := by omega
def cmpK (f g : List (List Nat)) : Int := if (f.length : Int) - (g.length : Int) = 0 then cmpFL f g else (f.length : Int) - (g.length : Int)
theorem cmpK_lt (f g : List (List Nat)) : decide (cmpK f g < 0) = ltK f g := lex_lt STO.nat (nat_lt _ _) (nat_zero _ _) (cmpFL_lt f g)
theorem cmpK_zero (f g : List (List Nat)) : cmpK f g = 0 ↔ f = g := by
  unfold cmpK
  rw [lex_zero (nat_zero _ _) (cmpFL_zero f g)]
  constructor
  · intro h; injection h
  · rintro rfl; rfl
def cmpW (f g : List (List Nat)) : Int := if (ndN f : Int) - (ndN g : Int) = 0 then cmpK f g else (ndN f : Int) - (ndN g : Int)
theorem cmpW_lt (f g : List (List Nat)) : decide (cmpW f g < 0) = ltW f g := lex_lt STO.nat (nat_lt _ _) (nat_zero _ _) (cmpK_lt f g)
theorem cmpW_zero (f g : List (List Nat)) : cmpW f g = 0 ↔ f = g := by
  unfold cmpW
  rw [lex_zero (nat_zero _ _) (cmpK_zero f g)]
  constructor
  · intro h; injection h
  · rintro rfl; rfl
def cmpS (x y : SP) : Int := if cmpW x.1 y.1 = 0 then cmpK x.2 y.2 else cmpW x.1 y.1
theorem cmpS_lt (x y : SP) : decide (cmpS x y < 0) = ltS x y := lex_lt STO.ltW (cmpW_lt _ _) (cmpW_zero _ _) (cmpK_lt x.2 y.2)
theorem cmpS_zero (x y : SP) : cmpS x y = 0 ↔ x = y := lex_zero (cmpW_zero _ _) (cmpK_zero _ _)

theorem ndN_snoc (f : List (List Nat)) (t : List Nat) : ndN (f ++ [t]) = ndN f + t.length := by
  induction f with
  | nil => simp [ndN]
  | cons x xs ih => simp [ndN, ih]; omega
theorem ndN_take (f : List (List Nat)) : ∀ k, ndN (f.take k) ≤ ndN f := by
  induction f with
  | nil => simp [ndN]
  | cons x xs ih =>
    intro k
    cases k with
    | zero => simp [ndN]
    | succ k => simp only [List.take_succ_cons, ndN]; have := ih k; omega
set_option maxHeartbeats 4000000 in
theorem i_nodesIn (w : World) (v : Value) (f : List (List Nat)) (ha : Rows w v (f.map up)) (hn : ndN f ≤ 1000000) :
    Calls Tryz.prog 193 #[v] w fun e w' => e = .returned (.int .i64 (ndN f : Nat)) ∧ w = w' := by
  obtain ⟨A, c, rfl, l1, l2, h3⟩ := rowsAt ha
  have H3 := Lib.hid h3
  have HNT := Lib.hid (ndN_take f)
  clear ha h3
  go_enter Tryz.func193, Tryz.ntmps193
  go_wp2_with fail
  go_loopw [3, 8] (fun s i wr => ∃ k : Nat, k ≤ f.length ∧ i = .int .i64 k ∧ s = .int .i64 (ndN (f.take k) : Nat) ∧ w = wr) (fun _ i _ => f.length - (intOf i).toNat)
  case atStart => exact ⟨0, Nat.zero_le _, rfl, by simp [ndN], rfl⟩
  case round =>
    obtain ⟨k, hk, rfl, rfl, rfl⟩ := hrel
    have hnt := HNT.out k
    by_cases hlt : k < f.length
    · obtain ⟨ad, q, A5, c5, rfl, hq, hiq, hcq⟩ := H3.out k hlt
      have HS := Lib.hid (show ndN (f.take (k + 1)) = ndN (f.take k) + q.length from by rw [List.take_add_one, hq]; exact ndN_snoc _ _)
      have hnt1 := HNT.out (k + 1)
      have hnt2 : ndN (f.take k) + q.length ≤ 1000000 := by rw [← HS.out]; omega
      have hki : (k : Int) < (f.length : Int) := by omega
      clear hq hiq hnt1
      generalize ndN (f.take k) = s at *
      have hw1 : IntKind.i64.wrap ((s : Int) + (q.length : Int)) = (s : Int) + (q.length : Int) := IntWalk.i64_in _ (by omega)
      go_wp2_with fail
      go_roundw
      case rel => clear hw1; exact ⟨k + 1, by omega, by go_num, by rw [HS.out]; congr 1, by first | rfl | trivial⟩
      case measure => clear hw1; simp [intOf]; omega
    · have hkl : k = f.length := by omega
      have HS := Lib.hid (show ndN (f.take k) = ndN f from by rw [hkl, List.take_length])
      rw [HS.out]
      go_wp2_with fail
      go_ret
      exact ⟨rfl, rfl⟩

set_option maxHeartbeats 4000000 in
theorem i_compareTrunks (w : World) (v v' : Value) (f g : List (List Nat)) (ha : Rows w v (f.map up)) (hb : Rows w v' (g.map up)) (hf : f.length ≤ 1000000) (hg : g.length ≤ 1000000) :
    Calls Tryz.prog 162 #[v, v'] w fun e w' => e = .returned (.int .i64 (cmpK f g)) ∧ w = w' := by
  have HC := Lib.hid (lib_CompareTrees w v v' f g ha hb)
  obtain ⟨A, c, rfl, l1, l2, -⟩ := rowsAt ha
  obtain ⟨B, d, rfl, m1, m2, -⟩ := rowsAt hb
  clear ha hb
  by_cases h : f.length = g.length
  · have HE := Lib.hid (show cmpK f g = cmpFL f g from by unfold cmpK; rw [h]; simp)
    rw [HE.out]
    have hd : ((f.length : Int) != (g.length : Int)) = false := by simp [h]
    clear h
    go_enter Tryz.func162, Tryz.ntmps162
    go_wp2_with (go_at_call 129; refine HC.out.mono ?_; rintro e w1 ⟨rfl, rfl⟩)
    go_ret
    exact ⟨rfl, rfl⟩
  · have HE := Lib.hid (show cmpK f g = (f.length : Int) - (g.length : Int) from by unfold cmpK; rw [if_neg (by omega)])
    rw [HE.out]
    have hd : ((f.length : Int) != (g.length : Int)) = true := by simp; omega
    have hw1 : IntKind.i64.wrap ((f.length : Int) - (g.length : Int)) = (f.length : Int) - (g.length : Int) := IntWalk.i64_in _ (by omega)
    clear h
    go_enter Tryz.func162, Tryz.ntmps162
    go_wp2_with fail
    go_ret
    exact ⟨rfl, rfl⟩

theorem ndN_len {f : List (List Nat)} (h : ∀ t ∈ f, 0 < t.length) : f.length ≤ ndN f := by
  induction f with
  | nil => simp [ndN]
  | cons x xs ih =>
    have := ih fun t ht => h t (by simp [ht])
    have := h x (by simp)
    simp [ndN]; omega
set_option maxHeartbeats 4000000 in
theorem i_compareForests (w : World) (v v' : Value) (f g : List (List Nat)) (ha : Rows w v (f.map up)) (hb : Rows w v' (g.map up)) (hf : f.length ≤ 1000000) (hg : g.length ≤ 1000000) (hnf : ndN f ≤ 1000000) (hng : ndN g ≤ 1000000) :
    Calls Tryz.prog 161 #[v, v'] w fun e w' => e = .returned (.int .i64 (cmpW f g)) ∧ w = w' := by
  have HC := Lib.hid (i_compareTrunks w v v' f g ha hb hf hg)
  have HN1 := Lib.hid (i_nodesIn w v f ha hnf)
  have HN2 := Lib.hid (i_nodesIn w v' g hb hng)
  obtain ⟨R, hR⟩ : ∃ R, R = cmpW f g := ⟨_, rfl⟩
  rw [← hR]
  unfold cmpW at hR
  generalize ndN f = m at hnf HN1 hR
  generalize ndN g = n at hng HN2 hR
  clear ha hb
  have hw1 : IntKind.i64.wrap ((m : Int) - (n : Int)) = (m : Int) - (n : Int) := IntWalk.i64_in _ (by omega)
  by_cases h : m = n
  · have HE := Lib.hid (show R = cmpK f g from by rw [hR, if_pos (by omega)])
    have hd : ((m : Int) - (n : Int) != 0) = false := by simp; omega
    have hd2 : (m : Int) - (n : Int) = 0 := by omega
    clear h hR
    go_enter Tryz.func161, Tryz.ntmps161
    go_wp2_with (first
      | (go_at_call 193; (with_reducible refine HN1.out.mono ?_); rintro e w1 ⟨rfl, rfl⟩)
      | (go_at_call 193; (with_reducible refine HN2.out.mono ?_); rintro e w1 ⟨rfl, rfl⟩)
      | (go_at_call 162; refine HC.out.mono ?_; rintro e w1 ⟨rfl, rfl⟩))
    go_ret
    exact ⟨ret_i64 HE.out.symm, rfl⟩
  · have HE := Lib.hid (show R = (m : Int) - (n : Int) from by rw [hR, if_neg (by omega)])
    have hd : ((m : Int) - (n : Int) != 0) = true := by simp; omega
    have hd2 : ¬ ((m : Int) - (n : Int) = 0) := by omega
    clear h hR
    go_enter Tryz.func161, Tryz.ntmps161
    go_wp2_with (first
      | (go_at_call 193; (with_reducible refine HN1.out.mono ?_); rintro e w1 ⟨rfl, rfl⟩)
      | (go_at_call 193; (with_reducible refine HN2.out.mono ?_); rintro e w1 ⟨rfl, rfl⟩))
    go_ret
    exact ⟨ret_i64 HE.out.symm, rfl⟩
end Go.Proofs.YtheldcjiogpbjaaGreat
set_option maxRecDepth 100000
set_option linter.unusedVariables false
set_option linter.unusedSimpArgs false
namespace Go.Proofs.YtheldcjiogpbjaaGreat
open Go.RowKit Go.Sort Go.Shelf

theorem LL.keptE {w w' : World} {B : Nat} {u v : Value} {e : TypeId} {xss : List (List Int)} (h : LL w B u xss) (hg : w.grownBy w' v.ownBlock) (hb : BT w e v) (h1 : tI ≠ e) (h2 : tL ≠ e) : LL w' B u xss := by
  obtain ⟨vs, a, b⟩ := h
  exact ⟨vs, a.kept hg (a.bt.ne hb h2), ⟨b.1, fun k u zs hu hz => (b.2 k u zs hu hz).kept hg ((b.2 k u zs hu hz).1.bt.ne hb h1)⟩⟩
/-- a forest that may be looked at: not too many nodes -/
def fldF : Fld (List (List Nat)) where
  P w B u x := LL w B u (x.map up) ∧ x.length ≤ 1000000 ∧ ndN x ≤ 1000000
  one h := by
    obtain ⟨A, c, rfl, -⟩ := h.1.rows.open_
    cases A <;> rfl
  below h hb := ⟨h.1.below hb, h.2⟩
  mono h hB := ⟨h.1.mono hB, h.2⟩
  kept h hg hb h1 h2 := ⟨h.1.keptE hg hb h1 h2, h.2⟩
abbrev eSp (n : Nat) : Elt SP := elt2 fldF fldF n
abbrev eSc : Elt (SP × Nat) := elt3 fldF fldF

set_option maxHeartbeats 4000000 in
theorem i_cmpSplit (W : World) (B B' : Nat) (c c' : List Value) (x y : SP) (n m : Nat) (hx : eSc.D W B c (x, n)) (hy : eSc.D W B' c' (y, m)) :
    Calls Tryz.prog 160 #[.agg c.toArray, .agg c'.toArray] W fun e w' => e = .returned (.int .i64 (cmpS x y)) ∧ ∃ q os, w' = grow (W.drewN q) os := by
  obtain ⟨u, s, rfl, hu0, hs0⟩ := hx
  obtain ⟨u', s', rfl, hu0', hs0'⟩ := hy
  have hu1 : LL W B u (x.1.map up) ∧ x.1.length ≤ 1000000 ∧ ndN x.1 ≤ 1000000 := hu0
  have hu1' : LL W B' u' (y.1.map up) ∧ y.1.length ≤ 1000000 ∧ ndN y.1 ≤ 1000000 := hu0'
  have hs1 : LL W B s (x.2.map up) ∧ x.2.length ≤ 1000000 ∧ ndN x.2 ≤ 1000000 := hs0
  have hs1' : LL W B' s' (y.2.map up) ∧ y.2.length ≤ 1000000 ∧ ndN y.2 ≤ 1000000 := hs0'
  clear hu0 hu0' hs0 hs0'
  have hu := hu1.1.rows
  have hu' := hu1'.1.rows
  have hs := hs1.1.rows
  have hs' := hs1'.1.rows
  have HU := Lib.hid hu
  have HU' := Lib.hid hu'
  have HS := Lib.hid hs
  have HS' := Lib.hid hs'
  obtain ⟨A1, c1, rfl, -, -, -⟩ := hu.open_
  obtain ⟨A2, c2, rfl, -, -, -⟩ := hu'.open_
  obtain ⟨A3, c3, rfl, -, -, -⟩ := hs.open_
  obtain ⟨A4, c4, rfl, -, -, -⟩ := hs'.open_
  simp only [List.length_map] at HU HU' HS HS' ⊢
  obtain ⟨R, hR⟩ : ∃ R, R = cmpS x y := ⟨_, rfl⟩
  rw [← hR]
  have hR2 : R = if cmpW x.1 y.1 = 0 then cmpK x.2 y.2 else cmpW x.1 y.1 := hR
  have hct := fun W h h' => i_compareForests W (.slice A1 x.1.length c1) (.slice A2 y.1.length c2) x.1 y.1 h h' hu1.2.1 hu1'.2.1 hu1.2.2 hu1'.2.2
  have hfl := fun W h h' => i_compareTrunks W (.slice A3 x.2.length c3) (.slice A4 y.2.length c4) x.2 y.2 h h' hs1.2.1 hs1'.2.1
  generalize cmpW x.1 y.1 = z at hR2 hct
  generalize cmpK x.2 y.2 = z2 at hR2 hfl
  have HCT := Lib.hid hct
  have HFL := Lib.hid hfl
  clear hu hu' hs hs' hct hfl hR hu1 hu1' hs1 hs1'
  have HBB := Lib.hid (fun o o' => show Below W.heap.size W ((W.alloc o).alloc o') from ((Below.refl W.heap.size W).alloc (Nat.le_refl _) _).alloc (by simp) _)
  by_cases hz : z = 0
  · subst hz
    rw [if_pos rfl] at hR2
    have HR := Lib.hid hR2
    clear hR2
    go_enter Tryz.func160, Tryz.ntmps160
    go_wp2_with (first
      | (go_at_call 161; go_loud (refine (HCT.out _ (HU.out.below (HBB.out _ _)) (HU'.out.below (HBB.out _ _))).mono ?_; rintro e w1 ⟨rfl, rfl⟩))
      | (go_at_call 162; go_loud (refine (HFL.out _ (HS.out.below (HBB.out _ _)) (HS'.out.below (HBB.out _ _))).mono ?_; rintro e w2 ⟨rfl, rfl⟩)))
    go_ret
    exact ⟨ret_i64 HR.out.symm, 0, _, by rw [alloc_eq_grow, alloc_eq_grow, grow_grow]; rfl⟩
  · rw [if_neg hz] at hR2
    have HR := Lib.hid hR2
    have hz2 : (z != 0) = true := by simpa using hz
    clear hR2
    go_enter Tryz.func160, Tryz.ntmps160
    go_wp2_with (first
      | (go_at_call 161; go_loud (refine (HCT.out _ (HU.out.below (HBB.out _ _)) (HU'.out.below (HBB.out _ _))).mono ?_; rintro e w1 ⟨rfl, rfl⟩)))
    go_ret
    exact ⟨ret_i64 HR.out.symm, 0, _, by rw [alloc_eq_grow, alloc_eq_grow, grow_grow]; rfl⟩

theorem lib_SortSplit (w : World) (B cap : Nat) (A : Option Addr) (css : List (List Value)) (xs : List SP) (h : OwnK w B tSp 3 (.slice A css.length cap) css) (hr : Elts (eSp 1) w B css xs) (hn : css.length ≤ 1000000) :
    Calls Tryz.prog 163 #[.slice A css.length cap, .func (.func 160) #[] #[]] w fun e w' => e = .returned (.tuple #[]) ∧
      ∃ css', css'.length = css.length ∧ OwnK w' B tSp 3 (.slice A css.length cap) css' ∧ Elts (eSp 1) w' B css' (srtS ltS xs) ∧ w.grownBy w' (Value.ownBlock (.slice A css.length cap)) := by
  have aE : ∀ w, (isAgg tSp).run Tryz.prog w = .ok true w := fun w => by kernel_rfl
  have zE : ∀ w, (Go.sizeOf tSp).run Tryz.prog w = .ok 3 w := fun w => by kernel_rfl
  have eg : ∀ args w, (callFunc 160 args).run Tryz.prog w = .ok (.enter 160 args) w := enters_of Tryz.func160 (by kernel_rfl) rfl
  exact sort_elts Tryz.ssort (eSp 1) (e := tSp) aE zE ltS STO.ltS cmpS cmpS_lt 160 eg (by decide) (by decide) (fun W B c c' x y hx hy => i_cmpSplit W B B c c' x y 1 1 hx hy) w B cap A css xs h hr hn
end Go.Proofs.YtheldcjiogpbjaaGreat
set_option maxRecDepth 100000
set_option linter.unusedVariables false
set_option linter.unusedSimpArgs false
namespace Go.Proofs.YtheldcjiogpbjaaGreat
open Go.RowKit

theorem keepCellG {w w' : World} {ad : Addr} {v : Value} (hb : Below w.heap.size w w') (h : w.cell? ad = some v) : w'.cell? ad = some v := by rw [hb.cell (World.block_lt_of_cell? w _ h)]; exact h
theorem grownBy_trans {w w1 w2 : World} {b : Option Nat} (h : w.grownBy w1 b) (h' : w1.grownBy w2 b) : w.grownBy w2 b :=
  ⟨h'.os.trans h.os, h'.tape.trans h.tape, h'.output.trans h.output, Nat.le_trans h.size h'.size, fun k hk hne => (h'.block k (Nat.lt_of_lt_of_le hk h.size) hne).trans (h.block k hk hne)⟩
/-- a struct of three cells stored over element i -/
theorem OwnK.store3 {w : World} {B : Nat} {e : TypeId} {g n cap i : Nat} {css : List (List Value)} {a b c : Value} (h : OwnK w B e 3 (.slice (some ⟨g, 0, none⟩) n cap) css) (hc : css[i]? = some [a, b, c]) (x y z : Value) :
    ∃ q0 q1 q2, w.cell? ⟨g, i * 3, none⟩ = some q0 ∧ w.frozen? ⟨g, i * 3, none⟩ = false ∧
      (w.setCell ⟨g, i * 3, none⟩ x).cell? ⟨g, i * 3 + 1, none⟩ = some q1 ∧ (w.setCell ⟨g, i * 3, none⟩ x).frozen? ⟨g, i * 3 + 1, none⟩ = false ∧
      ((w.setCell ⟨g, i * 3, none⟩ x).setCell ⟨g, i * 3 + 1, none⟩ y).cell? ⟨g, i * 3 + 2, none⟩ = some q2 ∧ ((w.setCell ⟨g, i * 3, none⟩ x).setCell ⟨g, i * 3 + 1, none⟩ y).frozen? ⟨g, i * 3 + 2, none⟩ = false ∧
      OwnK (((w.setCell ⟨g, i * 3, none⟩ x).setCell ⟨g, i * 3 + 1, none⟩ y).setCell ⟨g, i * 3 + 2, none⟩ z) B e 3 (.slice (some ⟨g, 0, none⟩) n cap) (css.set i [x, y, z]) ∧
      w.grownBy (((w.setCell ⟨g, i * 3, none⟩ x).setCell ⟨g, i * 3 + 1, none⟩ y).setCell ⟨g, i * 3 + 2, none⟩ z) (some g) := by
  have hi := (List.getElem?_eq_some_iff.1 hc).1
  obtain ⟨⟨q0, h0⟩, f0, -, o1, g1⟩ := h.storeAt (j := 0) hc (by omega) x
  have hc1 : (css.set i ([a, b, c].set 0 x))[i]? = some [x, b, c] := by rw [List.getElem?_set_self hi]; rfl
  obtain ⟨⟨q1, h1⟩, f1, -, o2, g2⟩ := o1.storeAt (j := 1) hc1 (by omega) y
  have hc2 : ((css.set i ([a, b, c].set 0 x)).set i ([x, b, c].set 1 y))[i]? = some [x, y, c] := by rw [List.getElem?_set_self (by simpa using hi)]; rfl
  obtain ⟨⟨q2, h2⟩, f2, -, o3, g3⟩ := o2.storeAt (j := 2) hc2 (by omega) z
  have e : ((css.set i ([a, b, c].set 0 x)).set i ([x, b, c].set 1 y)).set i ([x, y, c].set 2 z) = css.set i [x, y, z] := by simp [List.set_set]
  rw [e] at o3
  exact ⟨q0, q1, q2, h0, f0, h1, f1, h2, f2, o3, grownBy_trans (grownBy_trans g1 g2) g3⟩

theorem below_growE (w : World) (os : Array Obj) : Below w.heap.size w (Go.Sort.grow w os) := ⟨rfl, rfl, rfl, by simp [Go.Sort.grow], fun k hk => Go.Sort.heap_grow_old _ _ hk⟩
/-- equal ones once, with their numbers: one more -/
def grpS {α : Type} (cmp : α → α → Int) (out : List (α × Nat)) (s : α) : List (α × Nat) := match out.getLast? with
  | none => [(s, 1)]
  | some (r, n) => if cmp r s = 0 then out.set (out.length - 1) (r, n + 1) else out ++ [(s, 1)]
def grpL {α : Type} (cmp : α → α → Int) (l : List α) : List (α × Nat) := l.foldl (grpS cmp) []
theorem grpL_snoc {α : Type} (cmp : α → α → Int) (l : List α) (s : α) : grpL cmp (l ++ [s]) = grpS cmp (grpL cmp l) s := by simp [grpL]
theorem grpS_none {α : Type} {cmp : α → α → Int} {out : List (α × Nat)} {s : α} (h : out = []) : grpS cmp out s = out ++ [(s, 1)] := by subst h; rfl
theorem grpS_last {α : Type} {cmp : α → α → Int} {out : List (α × Nat)} {s r : α} {n m : Nat} (h : out.length = m + 1) (hr : out[m]? = some (r, n)) : grpS cmp out s = if cmp r s = 0 then out.set m (r, n + 1) else out ++ [(s, 1)] := by
  unfold grpS
  rw [List.getLast?_eq_getElem?, h, Nat.add_sub_cancel, hr]
/-- is the last one equal? -/
def lastEq {α : Type} (cmp : α → α → Int) (L : List (α × Nat)) (y : α) : Bool := match L.getLast? with
  | none => false
  | some (r, _) => decide (cmp r y = 0)
theorem grp_false {α : Type} {cmp : α → α → Int} {L : List (α × Nat)} {y : α} (h : lastEq cmp L y = false) : grpS cmp L y = L ++ [(y, 1)] := by
  unfold grpS
  unfold lastEq at h
  cases hl : L.getLast? with
  | none => rw [List.getLast?_eq_none_iff.1 hl]; rfl
  | some x =>
    obtain ⟨r, n⟩ := x
    rw [hl] at h
    simp only at h ⊢
    rw [if_neg (of_decide_eq_false h)]
theorem grp_true {α : Type} {cmp : α → α → Int} {L : List (α × Nat)} {y : α} (h : lastEq cmp L y = true) : ∃ m r n, L.length = m + 1 ∧ L[m]? = some (r, n) ∧ grpS cmp L y = L.set m (r, n + 1) := by
  unfold lastEq at h
  cases hl : L.getLast? with
  | none => rw [hl] at h; cases h
  | some x =>
    obtain ⟨r, n⟩ := x
    rw [hl] at h
    have hne : L ≠ [] := fun e => by rw [e] at hl; cases hl
    have hpos : 0 < L.length := List.length_pos_iff.2 hne
    refine ⟨L.length - 1, r, n, by omega, by rw [← List.getLast?_eq_getElem?]; exact hl, ?_⟩
    unfold grpS
    rw [hl]
    simp only
    rw [if_pos (of_decide_eq_true h)]
theorem grpS_len {α : Type} (cmp : α → α → Int) (out : List (α × Nat)) (s : α) : (grpS cmp out s).length ≤ out.length + 1 := by
  unfold grpS
  split
  · simp
  · split <;> simp
theorem grpL_len {α : Type} (cmp : α → α → Int) (l : List α) : ∀ k, k ≤ l.length → (grpL cmp (l.take k)).length ≤ k ∧ ∀ x ∈ grpL cmp (l.take k), x.2 ≤ k := by
  intro k
  induction k with
  | zero => intro _; simp [grpL]
  | succ k ih =>
    intro hk
    have ih := ih (by omega)
    rw [List.take_add_one, List.getElem?_eq_getElem (by omega)]
    show (grpL cmp (l.take k ++ [l[k]])).length ≤ k + 1 ∧ ∀ x ∈ grpL cmp (l.take k ++ [l[k]]), x.2 ≤ k + 1
    rw [grpL_snoc]
    refine ⟨by have := grpS_len cmp (grpL cmp (l.take k)) l[k]; omega, fun x hx => ?_⟩
    unfold grpS at hx
    split at hx
    · simp at hx; subst hx; simp
    · rename_i r n hl
      have hn := ih.2 _ (List.mem_of_getLast? hl)
      split at hx
      · rcases List.mem_or_eq_of_mem_set hx with hx | hx
        · have := ih.2 x hx; omega
        · subst hx; simp at hn ⊢; omega
      · rcases List.mem_append.1 hx with hx | hx
        · have := ih.2 x hx; omega
        · simp at hx; subst hx; simp
end Go.Proofs.YtheldcjiogpbjaaGreat
set_option linter.unusedVariables false
set_option linter.unusedSimpArgs false
namespace Go.Proofs.YtheldcjiogpbjaaGreat
open Go Go.RowKit

/-- a world of the class -/
structure GW (S : World → Prop) where
  w : World
  h : S w

theorem wp_region_grow {P : Program} {id : Nat} {Q : Exit → Act → World → Prop} {a : Act} {w : World} {l : List Oper} (S : World → Prop) (hm : P.follows .mixedOrders = true) (hB : Region.lexB .any l.toArray = true) (hC : S w.drew)
    (h : Nonempty (GW S) → wpQuiet P l.toArray (fun w' => ∃ x : GW S, w' = x.w) (fun a' => ∀ w', (∃ x : GW S, w' = x.w) → Q .normal a' w') l a) : (Code.region id l.toArray true).wp P Q a w :=
  wp_region_quiet (C := fun w' => ∃ x : GW S, w' = x.w) hm hB ⟨⟨_, hC⟩, rfl⟩ (by simpa using h ⟨⟨_, hC⟩⟩)

/-- a callee that leaves a world of the class -/
theorem grow_call {P : Program} {f : FuncId} {args : Array Value} {w : World} {v : Value} {S : World → Prop} (h : Calls P f args w fun e w' => e = .returned v ∧ S w') : Calls P f args w fun e w'' => e = .returned v ∧ ∃ x : GW S, w'' = x.w :=
  h.mono fun _ w' ⟨he, hw⟩ => ⟨he, ⟨w', hw⟩, rfl⟩
end Go.Proofs.YtheldcjiogpbjaaGreat
set_option maxRecDepth 100000
set_option linter.unusedVariables false
set_option linter.unusedSimpArgs false
namespace Go.Proofs.YtheldcjiogpbjaaGreat
open Go.RowKit

/-- a set of nodes of a tree with n nodes, without the root -/
def maskB (n : Nat) (m : Int) : Bool := decide (0 ≤ m) && (decide (m < 2 ^ n) && (m % 2 == 0))

end Go.Proofs.YtheldcjiogpbjaaGreat
set_option maxRecDepth 100000
set_option linter.unusedVariables false
set_option linter.unusedSimpArgs false
namespace Go.Proofs.YtheldcjiogpbjaaGreat
open Go.RowKit

/-- the code of a tree and a mask -/
def maskC (zs : List Int) (m : Int) : Int := if isT zs then (if maskB zs.length m then 0 else 2) else 1

end Go.Proofs.YtheldcjiogpbjaaGreat
set_option linter.unusedVariables false
set_option linter.unusedSimpArgs false
set_option maxRecDepth 100000
namespace Go.Proofs.YtheldcjiogpbjaaGreat

/-- what the program knows of the nodes so far: the neighbours in the pieces, the piece of each node, the pieces' roots, the joints -/
structure CutS where
  near : List (List Nat)
  top : List Nat
  tops : List Nat
  bet : List (Nat × Nat)
def cutStep (mask : Nat) (s : CutS) (i p : Nat) : CutS :=
  match p with
  | 0 => ⟨s.near, s.top.set i s.tops.length, s.tops ++ [i], s.bet⟩
  | k + 1 => bif mask.testBit i then ⟨s.near, s.top.set i s.tops.length, s.tops ++ [i], s.bet ++ [(s.top.getD k 0, s.tops.length)]⟩
    else ⟨addAt i k (addAt k i s.near), s.top.set i (s.top.getD k 0), s.tops, s.bet⟩
def cutF (mask : Nat) (s : CutS) : List Nat → Nat → CutS
  | [], _ => s
  | p :: ps, i => cutF mask (cutStep mask s i p) ps (i + 1)
def cutN (t : List Nat) (mask : Nat) : CutS := cutF mask ⟨List.replicate t.length [], List.replicate t.length 0, [], []⟩ (parents t) 0
def joinF (near : List (List Nat)) : List (Nat × Nat) → List (List Nat)
  | [] => near
  | (a, b) :: es => joinF (addAt a b (addAt b a near)) es
def joinN (s : CutS) : List (List Nat) := joinF (List.replicate s.tops.length []) s.bet

/-- the nodes of a piece of the reference's: whether each is in it, and its list -/
def pieF (t : List Nat) (mask root : Nat) : List Nat → Nat → List Bool → List Nat → List Nat
  | [], _, _, out => out
  | l :: ls, i, inn, out =>
    let p := parN t l i
    bif Nat.blt root p && (inn.getD (p - 1) false && !mask.testBit i) then pieF t mask root ls (i + 1) (inn.set i true) (out ++ [l - t.getD root 0])
    else pieF t mask root ls (i + 1) inn out
def pieN (t : List Nat) (mask root : Nat) : List Nat := pieF t mask root (t.drop (root + 1)) (root + 1) ((List.replicate t.length false).set root true) [0]
/-- the nodes at which the reference cuts -/
def cutsN (mask : Nat) : Nat → Nat → List Nat
  | 0, _ => []
  | n + 1, i => bif mask.testBit i then i :: cutsN mask n (i + 1) else cutsN mask n (i + 1)
/-- the number of nodes with a cut on the way from a node (by one more than its place) to the root -/
def wayN (t : List Nat) (mask : Nat) : Nat → Nat → Nat
  | 0, _ => 0
  | f + 1, 0 => 0
  | f + 1, 1 => 0
  | f + 1, k + 2 => (bif mask.testBit (k + 1) then 1 else 0) + wayN t mask f (parN t (t.getD (k + 1) 0) (k + 1))
def sklN (t : List Nat) (mask : Nat) : List Nat := 0 :: (cutsN mask (t.length - 1) 1).map fun i => 1 + wayN t mask 9 (parN t (t.getD i 0) i)

def okCut (t : List Nat) (mask : Nat) : Bool :=
  let s := cutN t mask
  eqN s.tops (0 :: cutsN mask (t.length - 1) 1) && (s.tops.all (fun i => match rawO 9 s.near i 0 with | none => false | some q => eqN q (pieN t mask i) && Nat.ble q.length 8) &&
    match rawO 9 (joinN s) 0 0 with | none => false | some q => eqN q (sklN t mask) && Nat.ble q.length 8)
def isCan (t : List Nat) : Bool := match canO 9 t with | none => false | some r => eqN r t
def okTree (t : List Nat) : Bool := bif isCan t then (List.range (2 ^ (t.length - 1))).all fun m => okCut t (2 * m) else true
end Go.Proofs.YtheldcjiogpbjaaGreat
set_option maxRecDepth 100000
set_option linter.unusedVariables false
set_option linter.unusedSimpArgs false
namespace Go.Proofs.YtheldcjiogpbjaaGreat
open Go.RowKit

theorem cut_eq (n : Nat) (m : Int) : maskB n m = (inR m 0 (2 ^ n - 1) && (m % 2 == 0)) := by
  unfold maskB inR
  have : decide (m < 2 ^ n) = decide (m ≤ 2 ^ n - 1) := by congr 1; apply propext; omega
  rw [this, Bool.and_assoc]

theorem and1 (m : Int) (h0 : 0 ≤ m) (h1 : m ≤ 255) : bits BinOp.and IntKind.i64 m 1 = m % 2 := by
  have h := (by decide +kernel : ∀ k : Fin 256, bits BinOp.and IntKind.i64 ((k.val : Nat) : Int) 1 = ((k.val : Nat) : Int) % 2) ⟨m.toNat, by omega⟩
  simpa [Int.toNat_of_nonneg h0] using h

end Go.Proofs.YtheldcjiogpbjaaGreat
set_option linter.unusedVariables false
set_option linter.unusedSimpArgs false
namespace Go.Proofs.YtheldcjiogpbjaaGreat

theorem cutF_snoc (mask : Nat) : ∀ (s : CutS) (ps : List Nat) (i p : Nat), cutF mask s (ps ++ [p]) i = cutStep mask (cutF mask s ps i) (i + ps.length) p
  | s, [], i, p => rfl
  | s, q :: ps, i, p => by rw [List.cons_append, cutF, cutF, cutF_snoc mask _ ps (i + 1) p, List.length_cons]; congr 1; omega
def cutTo (t : List Nat) (mask j : Nat) : CutS := cutF mask ⟨List.replicate t.length [], List.replicate t.length 0, [], []⟩ ((parents t).take j) 0
theorem cutTo_succ {t : List Nat} {mask j : Nat} (hlt : j < t.length) : cutTo t mask (j + 1) = cutStep mask (cutTo t mask j) j (parN t (t.getD j 0) j) := by
  have htj : t[j]? = some (t[j]'hlt) := List.getElem?_eq_getElem _
  have hg : t.getD j 0 = t[j]'hlt := by simp [List.getD, htj]
  unfold cutTo
  rw [List.take_add_one, parents_get htj, hg]
  show cutF _ _ (_ ++ [_]) 0 = _
  rw [cutF_snoc, List.length_take, parents_len, Nat.min_eq_left (by omega), Nat.zero_add]
theorem cutTo_all (t : List Nat) (mask : Nat) : cutTo t mask t.length = cutN t mask := by
  unfold cutTo cutN
  rw [← parents_len, List.take_length, parents_len]

structure CI (n j : Nat) (s : CutS) : Prop where
  near : NB s.near (2 * j) n
  top : s.top.length = n ∧ ∀ x ∈ s.top, x ≤ s.tops.length
  tops : s.tops.length ≤ j ∧ ∀ x ∈ s.tops, x < n
  bet : s.bet.length ≤ j ∧ ∀ p ∈ s.bet, p.1 < s.tops.length ∧ p.2 < s.tops.length
theorem CI.start (n : Nat) : CI n 0 ⟨List.replicate n [], List.replicate n 0, [], []⟩ :=
  ⟨NB.nil _ _ _, ⟨by simp, fun x hx => by have := List.eq_of_mem_replicate hx; omega⟩, ⟨Nat.le_refl _, fun x hx => by simp at hx⟩, ⟨Nat.le_refl _, fun x hx => by simp at hx⟩⟩
theorem CI.topLe {n j : Nat} {s : CutS} (h : CI n j s) (k : Nat) : s.top.getD k 0 ≤ s.tops.length := by
  cases hx : s.top[k]? with
  | none => simp [List.getD, hx]
  | some x => have := h.top.2 x (List.mem_of_getElem? hx); simpa [List.getD, hx] using this
theorem CI.step {n j P mask : Nat} {s : CutS} (h : CI n j s) (hj : j < n) (hP : P ≤ j) : CI n (j + 1) (cutStep mask s j P) := by
  have hnew : ∀ x ∈ s.top.set j s.tops.length, x ≤ (s.tops ++ [j]).length := by
    intro x hx
    rcases List.mem_or_eq_of_mem_set hx with hx | hx
    · have := h.top.2 x hx; simp; omega
    · simp [hx]
  have htops : (s.tops ++ [j]).length ≤ j + 1 ∧ ∀ x ∈ s.tops ++ [j], x < n := by
    refine ⟨by have := h.tops.1; simp; omega, fun x hx => ?_⟩
    rcases List.mem_append.1 hx with hx | hx
    · exact h.tops.2 x hx
    · simp at hx; omega
  cases P with
  | zero =>
    exact ⟨h.near.mono (by omega), ⟨by simp [cutStep, h.top.1], hnew⟩, htops, ⟨by have := h.bet.1; show s.bet.length ≤ _; omega, fun p hp => by have := h.bet.2 p hp; simp [cutStep]; omega⟩⟩
  | succ k =>
    rw [cutStep]
    cases mask.testBit j with
    | true =>
      refine ⟨h.near.mono (by omega), ⟨by simp [h.top.1], hnew⟩, htops, ⟨by have := h.bet.1; simp; omega, fun p hp => ?_⟩⟩
      simp only [cond_true, List.length_append, List.length_singleton] at hp ⊢
      rcases List.mem_append.1 hp with hp | hp
      · have := h.bet.2 p hp; omega
      · simp at hp
        have := h.topLe k
        subst hp
        simp only [List.getD_eq_getElem?_getD] at this
        exact ⟨by simpa using Nat.lt_succ_of_le this, by simp⟩
    | false =>
      refine ⟨((h.near.add (x := k) (i := j) (by omega)).add (x := j) (i := k) hj).mono (by omega), ⟨by simp [h.top.1], fun x hx => ?_⟩, ⟨by have := h.tops.1; simp; omega, h.tops.2⟩, ⟨by have := h.bet.1; simp; omega, h.bet.2⟩⟩
      rcases List.mem_or_eq_of_mem_set hx with hx | hx
      · exact h.top.2 x hx
      · rw [hx]; exact h.topLe k
theorem cutTo_ci (t : List Nat) (mask : Nat) : ∀ j, j ≤ t.length → CI t.length j (cutTo t mask j)
  | 0, _ => CI.start _
  | j + 1, h => by rw [cutTo_succ (by omega)]; exact (cutTo_ci t mask j (by omega)).step (by omega) (parN_le _ _ _)

theorem joinF_snoc : ∀ (near : List (List Nat)) (es : List (Nat × Nat)) (a b : Nat), joinF near (es ++ [(a, b)]) = addAt a b (addAt b a (joinF near es))
  | near, [], a, b => rfl
  | near, (c, d) :: es, a, b => by rw [List.cons_append, joinF, joinF, joinF_snoc]
def joinTo (k : Nat) (es : List (Nat × Nat)) (j : Nat) : List (List Nat) := joinF (List.replicate k []) (es.take j)
theorem joinTo_succ {k j a b : Nat} {es : List (Nat × Nat)} (h : es[j]? = some (a, b)) : joinTo k es (j + 1) = addAt a b (addAt b a (joinTo k es j)) := by
  unfold joinTo
  rw [List.take_add_one, h]
  exact joinF_snoc _ _ _ _
theorem joinTo_all (s : CutS) : joinTo s.tops.length s.bet s.bet.length = joinN s := by
  unfold joinTo joinN
  rw [List.take_length]
theorem joinTo_nb {k : Nat} {es : List (Nat × Nat)} (h : ∀ p ∈ es, p.1 < k ∧ p.2 < k) : ∀ j, j ≤ es.length → NB (joinTo k es j) (2 * j) k
  | 0, _ => by unfold joinTo; exact NB.nil _ _ _
  | j + 1, hj => by
    have hp : es[j]? = some ((es[j]'(by omega)).1, (es[j]'(by omega)).2) := List.getElem?_eq_getElem _
    have hb := h _ (List.mem_of_getElem? hp)
    rw [joinTo_succ hp]
    exact (((joinTo_nb h j (by omega)).add hb.2).add hb.1).mono (by omega)

/-- the bit of a mask, as the program reckons it -/
theorem cut_bit (m j : Nat) (hm : m < 256) : bits BinOp.and IntKind.i64 ((m : Int) / 2 ^ j) 1 = if m.testBit j then 1 else 0 := by
  have e : ((m : Int) / 2 ^ j) = ((m / 2 ^ j : Nat) : Int) := by simp
  have hle : m / 2 ^ j ≤ m := Nat.div_le_self _ _
  rw [e, Nat.testBit_eq_decide_div_mod_eq]
  generalize m / 2 ^ j = q at hle ⊢
  rw [and1 _ (by omega) (by omega)]
  by_cases h : q % 2 = 1
  · simp [h]; omega
  · simp [h]; omega
end Go.Proofs.YtheldcjiogpbjaaGreat
