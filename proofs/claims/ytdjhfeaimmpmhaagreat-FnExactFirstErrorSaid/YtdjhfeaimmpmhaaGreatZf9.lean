/- Words of memory for lists of neighbours: rows of numbers, each in a block of its own, that grow one by one. | Walk: nearOf of the program. | Plain: a tree made from its neighbours is the canonical list of the list that is made without sorting. | Walks: rooted, slices.MinFunc, freeForm of the program. | Walks: equality of lists and of lists of lists, of the library and of the reference. | Walks: isSuperfluous, the predicate of freeTreesOf, of the program. -/
import Derived.Test.YtdjhfeaimmpmhaaGreatZf8
import Derived.Test.YtdjhfeaimmpmhaaGreatZf7
import Derived.Test.YtdjhfeaimmpmhaaGreatZf2
set_option maxRecDepth 100000
set_option linter.unusedVariables false
set_option linter.unusedSimpArgs false
namespace Go.Proofs.YtdjhfeaimmpmhaaGreat
open Go.RowKit

abbrev tNL : TypeId := 119
theorem T_nrow : ElemT Tryz.prog 136 119 (.slice none 0 0) 24 := ⟨Tryz.underlying136, by kernel_rfl, rfl, by omega⟩

theorem addAt_set {x : Nat} : ∀ {bs : List (List Nat)} {i : Nat} {b : List Nat}, bs[i]? = some b → addAt x i bs = bs.set i (b ++ [x])
  | [], i, b, h => by simp at h
  | c :: bs, 0, b, h => by simp at h; subst h; rfl
  | c :: bs, i + 1, b, h => by rw [addAt, addAt_set (bs := bs) (by simpa using h)]; rfl
theorem addAt_len (x : Nat) : ∀ (i : Nat) (bs : List (List Nat)), (addAt x i bs).length = bs.length
  | _, [] => by cases ‹Nat› <;> rfl
  | 0, b :: bs => rfl
  | i + 1, b :: bs => by rw [addAt, List.length_cons, addAt_len x i bs, List.length_cons]
theorem mem_addAt {x : Nat} {ns : List Nat} : ∀ {i : Nat} {bs : List (List Nat)}, ns ∈ addAt x i bs → ns ∈ bs ∨ ∃ b ∈ bs, ns = b ++ [x]
  | _, [], h => by cases ‹Nat› <;> simp [addAt] at h
  | 0, b :: bs, h => by
    rw [addAt] at h
    rcases List.mem_cons.1 h with h | h
    · exact .inr ⟨b, by simp, h⟩
    · exact .inl (by simp [h])
  | i + 1, b :: bs, h => by
    rw [addAt] at h
    rcases List.mem_cons.1 h with h | h
    · exact .inl (by simp [h])
    · rcases mem_addAt h with h | ⟨c, hc, h⟩
      · exact .inl (by simp [h])
      · exact .inr ⟨c, by simp [hc], h⟩

/-- lists of numbers of one's own, no two of them in one block -/
structure Fam (w : World) (B : Nat) (e : TypeId) (us : List Value) (xss : List (List Int)) : Prop where
  len : us.length = xss.length
  row : ∀ (k : Nat) (u : Value) (zs : List Int), us[k]? = some u → xss[k]? = some zs → OwnInts w B e u zs
  apart : ∀ (i j : Nat) (u u' : Value), i ≠ j → us[i]? = some u → us[j]? = some u' → Apart u u'
section
variable {w w' w1 : World} {B k : Nat} {e e' : TypeId} {us : List Value} {xss : List (List Int)} {u u1 : Value} {zs zs1 : List Int}
theorem Fam.nil (w : World) (B : Nat) (e : TypeId) : Fam w B e [] [] := ⟨rfl, fun k u zs h => by simp at h, fun i j u u' _ h => by simp at h⟩
theorem Fam.below (h : Fam w B e us xss) (hb : Below w.heap.size w w') : Fam w' B e us xss := ⟨h.len, fun k u zs hu hz => (h.row k u zs hu hz).below hb, h.apart⟩
theorem Fam.mono {B' : Nat} (h : Fam w B e us xss) (hB : B' ≤ B) : Fam w B' e us xss := ⟨h.len, fun k u zs hu hz => (h.row k u zs hu hz).mono hB, h.apart⟩
/-- a block whose elements have another type has turned -/
theorem Fam.other {v : Value} {B' : Nat} {cs : List Value} (h : Fam w B e us xss) (hg : w.grownBy w' v.ownBlock) (ho : Own w B' e' v cs) (hne : e ≠ e') : Fam w' B e us xss :=
  ⟨h.len, fun k u zs hu hz => (h.row k u zs hu hz).kept hg ((h.row k u zs hu hz).1.ne_of_type ho hne), h.apart⟩
/-- one of the lists has turned or grown -/
theorem Fam.step (h : Fam w B e us xss) (hu : us[k]? = some u) (ho : OwnInts w1 B e u1 zs1) (hgr : Grow w w1 u u1) : Fam w1 B e (us.set k u1) (xss.set k zs1) := by
  have hk : k < us.length := (List.getElem?_eq_some_iff.1 hu).1
  have hap : ∀ (j : Nat) (u' : Value), k ≠ j → us[j]? = some u' → Apart u' u1 := by
    intro j u' hkj hj
    have h1 := h.apart j k u' u (Ne.symm hkj) hj hu
    have hz' : xss[j]? = some (xss[j]'(by rw [← h.len]; exact (List.getElem?_eq_some_iff.1 hj).1)) := List.getElem?_eq_getElem _
    have h2 := (h.row j u' _ hj hz').1.lt
    rcases hgr.2 with h3 | ⟨b, h3, h4⟩
    · rcases h1 with h1 | h1
      · exact .inl h1
      · exact .inr (by rw [h3]; exact h1)
    · cases hb : u'.ownBlock with
      | none => exact .inl hb
      | some b' => exact .inr (by rw [h3]; intro e; rw [hb] at e; injection e with e; have := h2 b' hb; omega)
  refine ⟨by simp [h.len], fun j u' ns' hj hj' => ?_, fun i j a b hij ha hb => ?_⟩
  · rw [List.getElem?_set] at hj hj'
    by_cases hkj : k = j
    · subst hkj
      rw [if_pos rfl, if_pos hk] at hj
      rw [if_pos rfl, if_pos (by rw [← h.len]; exact hk)] at hj'
      injection hj with hj; injection hj' with hj'
      subst hj; subst hj'
      exact ho
    · rw [if_neg hkj] at hj hj'
      exact (h.row j u' ns' hj hj').kept hgr.1 (h.apart j k u' u (Ne.symm hkj) hj hu)
  · rw [List.getElem?_set] at ha hb
    by_cases hki : k = i
    · subst hki
      rw [if_pos rfl, if_pos hk] at ha
      rw [if_neg hij] at hb
      injection ha with ha
      subst ha
      exact (hap j b hij hb).symm
    · rw [if_neg hki] at ha
      by_cases hkj : k = j
      · subst hkj
        rw [if_pos rfl, if_pos hk] at hb
        injection hb with hb
        subst hb
        exact hap i a hki ha
      · rw [if_neg hkj] at hb
        exact h.apart i j a b hij ha hb
/-- one list more, apart from all -/
theorem Fam.snoc (h : Fam w B e us xss) (ho : OwnInts w B e u zs) (hap : ∀ (j : Nat) (u' : Value), us[j]? = some u' → Apart u' u) : Fam w B e (us ++ [u]) (xss ++ [zs]) := by
  refine ⟨by simp [h.len], fun j u' ns' hj hj' => ?_, fun i j a b hij ha hb => ?_⟩
  · by_cases hlt : j < us.length
    · rw [List.getElem?_append_left hlt] at hj
      rw [List.getElem?_append_left (by rw [← h.len]; exact hlt)] at hj'
      exact h.row j u' ns' hj hj'
    · have hjl := (List.getElem?_eq_some_iff.1 hj).1
      simp at hjl
      have : j = us.length := by omega
      subst this
      rw [List.getElem?_append_right (Nat.le_refl _)] at hj
      rw [List.getElem?_append_right (by rw [h.len]; exact Nat.le_refl _), h.len] at hj'
      simp at hj hj'
      subst hj; subst hj'
      exact ho
  · have hx : ∀ (m : Nat) (c : Value), (us ++ [u])[m]? = some c → (m < us.length ∧ us[m]? = some c) ∨ (m = us.length ∧ c = u) := by
      intro m c hm
      by_cases hlt : m < us.length
      · rw [List.getElem?_append_left hlt] at hm; exact .inl ⟨hlt, hm⟩
      · have hml := (List.getElem?_eq_some_iff.1 hm).1
        simp at hml
        have : m = us.length := by omega
        subst this
        rw [List.getElem?_append_right (Nat.le_refl _)] at hm
        simp at hm
        exact .inr ⟨rfl, hm.symm⟩
    rcases hx i a ha with ⟨h1, h2⟩ | ⟨h1, h2⟩ <;> rcases hx j b hb with ⟨h3, h4⟩ | ⟨h3, h4⟩
    · exact h.apart i j a b hij h2 h4
    · subst h4; exact hap i a h2
    · subst h2; exact (hap j b h4).symm
    · omega
/-- a list that has just been made is apart from all -/
theorem Fam.fresh (h : Fam w B e us xss) (hge : ∀ b, u.ownBlock = some b → w.heap.size ≤ b) : ∀ (j : Nat) (u' : Value), us[j]? = some u' → Apart u' u := by
  intro j u' hj
  have hz' : xss[j]? = some (xss[j]'(by rw [← h.len]; exact (List.getElem?_eq_some_iff.1 hj).1)) := List.getElem?_eq_getElem _
  exact apart_of_lt (h.row j u' _ hj hz').1.lt hge
theorem Fam.nils (w : World) (B : Nat) (e : TypeId) (n : Nat) : Fam w B e (List.replicate n (.slice none 0 0)) (List.replicate n []) := by
  refine ⟨by simp, fun k u zs hu hz => ?_, fun i j u u' _ hu _ => ?_⟩
  · rw [List.getElem?_replicate] at hu hz
    split at hu
    · rw [if_pos (by assumption)] at hz
      injection hu with hu; injection hz with hz
      subst hu; subst hz
      exact OwnInts.nil _ _ _
    · cases hu
  · rw [List.getElem?_replicate] at hu
    split at hu
    · injection hu with hu; subst hu; exact .inl rfl
    · cases hu
end

/-- rows of neighbours: n rows, row k at vs k, in the block g; and other lists es, apart from all rows -/
structure NW (w : World) (B g n : Nat) (vs : List Value) (nss : List (List Nat)) (es : List Value) (ess : List (List Int)) : Prop where
  own : Own w B tNL (.slice (some ⟨g, 0, none⟩) n n) vs
  len : vs.length = n
  len' : nss.length = n
  fam : Fam w B tN (vs ++ es) (nss.map up ++ ess)

section
variable {w w' w1 : World} {B g n k x : Nat} {vs es : List Value} {nss : List (List Nat)} {ess : List (List Int)} {u u1 : Value} {ns : List Nat} {zs zs1 : List Int}
theorem NW.below (h : NW w B g n vs nss es ess) (hb : Below w.heap.size w w') : NW w' B g n vs nss es ess := ⟨h.own.below hb, h.len, h.len', h.fam.below hb⟩
theorem NW.drewN (h : NW w B g n vs nss es ess) (m : Nat) : NW (w.drewN m) B g n vs nss es ess := h.below (below_drewN (Below.refl _ _) m)
theorem NW.mono {B' : Nat} (h : NW w B g n vs nss es ess) (hB : B' ≤ B) : NW w B' g n vs nss es ess := ⟨h.own.mono hB, h.len, h.len', h.fam.mono hB⟩
theorem NW.made (h : Own w B tNL (.slice (some ⟨g, 0, none⟩) n n) (List.replicate n (.slice none 0 0))) : NW w B g n (List.replicate n (.slice none 0 0)) (List.replicate n []) [] [] := by
  refine ⟨h, by simp, by simp, ?_⟩
  have := Fam.nils w B tN n
  simpa [List.map_replicate, up] using this
theorem NW.get (h : NW w B g n vs nss es ess) (hk : k < n) : ∃ A m c ns, vs[k]? = some (.slice A m c) ∧ m = ns.length ∧ nss[k]? = some ns ∧ w.cell? ⟨g, k, none⟩ = some (.slice A m c) ∧ OwnInts w B tN (.slice A m c) (up ns) := by
  have hu : vs[k]? = some (vs[k]'(by rw [h.len]; exact hk)) := List.getElem?_eq_getElem _
  have hz : nss[k]? = some (nss[k]'(by rw [h.len']; exact hk)) := List.getElem?_eq_getElem _
  have ho := h.fam.row k _ (up (nss[k]'(by rw [h.len']; exact hk))) (by rw [List.getElem?_append_left (by rw [h.len]; exact hk)]; exact hu) (by rw [List.getElem?_append_left (by rw [List.length_map, h.len']; exact hk), List.getElem?_map, hz]; rfl)
  obtain ⟨ad, n', c', he, hc⟩ := h.own.cells.at_ hu
  simp only [Value.slice.injEq, Option.some.injEq] at he
  obtain ⟨rfl, -, -⟩ := he
  have e : (⟨g, 0, none⟩ : Addr).add k = ⟨g, k, none⟩ := by
    by_cases h0 : k = 0 <;> simp [Addr.add, h0]
  rw [e] at hc
  obtain ⟨A, c, hv, -, -⟩ := ho.1.cells.open_
  rw [ints_len, up_len] at hv
  exact ⟨A, _, c, _, by rw [hu, hv], rfl, hz, by rw [hc, hv], by rw [← hv]; exact ho⟩
theorem NW.rows (h : NW w B g n vs nss es ess) : Rows w (.slice (some ⟨g, 0, none⟩) n n) (nss.map up) := by
  refine ⟨vs, h.own.cells, by rw [List.length_map, h.len, h.len'], fun k u zs hu hz => ?_⟩
  refine (h.fam.row k u zs ?_ ?_).ints
  · rw [List.getElem?_append_left (List.getElem?_eq_some_iff.1 hu).1]; exact hu
  · rw [List.getElem?_append_left (List.getElem?_eq_some_iff.1 hz).1]; exact hz
/-- row k has grown by append: the world between, ahead of the store -/
theorem NW.grown (h : NW w B g n vs nss es ess) (hu : vs[k]? = some u) (hz : nss[k]? = some ns) (ho : Own w1 B tN u1 (ints (up ns) ++ [.int .i64 (x : Int)])) (hx : x ≤ 1000000) (hgr : Grow w w1 u u1) :
    Own w1 B tNL (.slice (some ⟨g, 0, none⟩) n n) vs ∧ Fam w1 B tN (vs.set k u1 ++ es) ((addAt x k nss).map up ++ ess) := by
  have hk : k < vs.length := (List.getElem?_eq_some_iff.1 hu).1
  have hkn : k < nss.length := (List.getElem?_eq_some_iff.1 hz).1
  have hr := h.fam.row k u (up ns) (by rw [List.getElem?_append_left hk]; exact hu) (by rw [List.getElem?_append_left (by rw [List.length_map]; exact hkn), List.getElem?_map, hz]; rfl)
  have how : Own w1 B tNL (.slice (some ⟨g, 0, none⟩) n n) vs := h.own.kept hgr.1 (h.own.ne_of_type hr.1 (by decide))
  have hnew : OwnInts w1 B tN u1 (up (ns ++ [x])) := by
    refine ⟨by rw [up_append]; simpa [ints, up] using ho, fun z hz => ?_⟩
    rw [up_append] at hz
    rcases List.mem_append.1 hz with hz | hz
    · exact hr.2 z hz
    · simp [up] at hz; subst hz; unfold In64; omega
  refine ⟨how, ?_⟩
  have hf := h.fam.step (k := k) (by rw [List.getElem?_append_left hk]; exact hu) hnew hgr
  rw [List.set_append, if_pos hk, List.set_append, if_pos (by rw [List.length_map]; exact hkn)] at hf
  rw [addAt_set hz, List.map_set]
  exact hf
/-- row k has grown by append: what its store wants, and what is there behind it -/
theorem NW.grow (h : NW w B g n vs nss es ess) (hu : vs[k]? = some u) (hz : nss[k]? = some ns) (ho : Own w1 B tN u1 (ints (up ns) ++ [.int .i64 (x : Int)])) (hx : x ≤ 1000000) (hgr : Grow w w1 u u1) :
    (∃ u0, w1.cell? ⟨g, k, none⟩ = some u0) ∧ w1.frozen? ⟨g, k, none⟩ = false ∧ NW (w1.setCell ⟨g, k, none⟩ u1) B g n (vs.set k u1) (addAt x k nss) es ess := by
  obtain ⟨how, hf⟩ := h.grown hu hz ho hx hgr
  obtain ⟨u0, -, hc, hfr, -, -, hown, hg2⟩ := how.storeAt (List.getElem?_eq_some_iff.1 hu).1 u1
  exact ⟨⟨u0, hc⟩, hfr, hown, by simp [h.len], by rw [addAt_len]; exact h.len', hf.other (v := .slice (some ⟨g, 0, none⟩) n n) hg2 how (by decide)⟩
theorem NW.ge (h : NW w B g n vs nss es ess) : B ≤ g := h.own.ge g rfl
/-- another list of one's own: what is known of it -/
theorem NW.other (h : NW w B g n vs nss es ess) (hu : es[k]? = some u) (hz : ess[k]? = some zs) : OwnInts w B tN u zs := by
  refine h.fam.row (n + k) u zs ?_ ?_
  · rw [List.getElem?_append_right (by rw [h.len]; omega), h.len, Nat.add_sub_cancel_left]; exact hu
  · rw [List.getElem?_append_right (by rw [List.length_map, h.len']; omega), List.length_map, h.len', Nat.add_sub_cancel_left]; exact hz
/-- another list has turned or grown -/
theorem NW.step (h : NW w B g n vs nss es ess) (hu : es[k]? = some u) (hz : ess[k]? = some zs) (ho : OwnInts w1 B tN u1 zs1) (hgr : Grow w w1 u u1) : NW w1 B g n vs nss (es.set k u1) (ess.set k zs1) := by
  have hr := h.other hu hz
  have how : Own w1 B tNL (.slice (some ⟨g, 0, none⟩) n n) vs := h.own.kept hgr.1 (h.own.ne_of_type hr.1 (by decide))
  have hf := h.fam.step (k := n + k) (u := u) (by rw [List.getElem?_append_right (by rw [h.len]; omega), h.len, Nat.add_sub_cancel_left]; exact hu) ho hgr
  rw [List.set_append, if_neg (by rw [h.len]; omega), h.len, Nat.add_sub_cancel_left, List.set_append, if_neg (by rw [List.length_map, h.len']; omega), List.length_map, h.len', Nat.add_sub_cancel_left] at hf
  exact ⟨how, h.len, h.len', hf⟩
/-- one list more, which has just been made -/
theorem NW.snoc (h : NW w B g n vs nss es ess) (hb : Below w.heap.size w w1) (ho : OwnInts w1 w.heap.size tN u zs) (hB : B ≤ w.heap.size) : NW w1 B g n vs nss (es ++ [u]) (ess ++ [zs]) := by
  have h1 := h.below hb
  refine ⟨h1.own, h.len, h.len', ?_⟩
  rw [← List.append_assoc, ← List.append_assoc]
  refine h1.fam.snoc (ho.mono hB) fun j u' hj => ?_
  exact h.fam.fresh ho.1.ge j u' hj
/-- a block of another type has turned -/
theorem NW.apart {v : Value} {B' : Nat} {e' : TypeId} {cs : List Value} (h : NW w B g n vs nss es ess) (hg : w.grownBy w' v.ownBlock) (ho : Own w B' e' v cs) (hne : tN ≠ e') (hne' : tNL ≠ e') : NW w' B g n vs nss es ess :=
  ⟨h.own.kept hg (h.own.ne_of_type ho hne'), h.len, h.len', h.fam.other hg ho hne⟩
/-- another list has grown by one number -/
theorem NW.push {zn : List Nat} (h : NW w B g n vs nss es ess) (hu : es[k]? = some u) (hz : ess[k]? = some (up zn)) (ho : Own w1 B tN u1 (ints (up zn) ++ [.int .i64 (x : Int)])) (hx : x ≤ 1000000) (hgr : Grow w w1 u u1) : NW w1 B g n vs nss (es.set k u1) (ess.set k (up (zn ++ [x]))) := by
  refine h.step hu hz ⟨by rw [up_append]; simpa [ints, up] using ho, fun z hz' => ?_⟩ hgr
  rw [up_append] at hz'
  rcases List.mem_append.1 hz' with hz' | hz'
  · exact (h.other hu hz).2 z hz'
  · simp [up] at hz'; subst hz'; unfold In64; omega
/-- a store into another list -/
theorem NW.put {g1 n1 c1 j : Nat} {zn : List Nat} (h : NW w B g n vs nss es ess) (hu : es[k]? = some (.slice (some ⟨g1, 0, none⟩) n1 c1)) (hz : ess[k]? = some (up zn)) (hj : j < zn.length) (x : Nat) (hx : x ≤ 1000000) :
    (∃ u0, w.cell? ⟨g1, j, none⟩ = some u0) ∧ w.frozen? ⟨g1, j, none⟩ = false ∧ NW (w.setCell ⟨g1, j, none⟩ (.int .i64 (x : Int))) B g n vs nss es (ess.set k (up (zn.set j x))) ∧ B ≤ g1 ∧ w.grownBy (w.setCell ⟨g1, j, none⟩ (.int .i64 (x : Int))) (some g1) := by
  have hr := h.other hu hz
  obtain ⟨u0, -, hc, hf, -, hB, hown, hg⟩ := hr.1.storeAt (k := j) (by rw [ints_len, up_len]; exact hj) (.int .i64 (x : Int))
  have ho : OwnInts (w.setCell ⟨g1, j, none⟩ (.int .i64 (x : Int))) B tN (.slice (some ⟨g1, 0, none⟩) n1 c1) (up (zn.set j x)) := by
    refine ⟨by simpa [ints, up, List.map_set] using hown, fun z hz => ?_⟩
    simp only [up, List.map_set] at hz
    rcases List.mem_or_eq_of_mem_set hz with hz | hz
    · exact hr.2 z hz
    · rw [hz]; unfold In64; omega
  have hs := h.step hu hz ho ⟨hg, .inl rfl⟩
  have e : es.set k (.slice (some ⟨g1, 0, none⟩) n1 c1) = es := by
    apply List.ext_getElem?
    intro i
    rw [List.getElem?_set]
    by_cases hki : k = i
    · subst hki; rw [if_pos rfl, if_pos (List.getElem?_eq_some_iff.1 hu).1, hu]
    · rw [if_neg hki]
  rw [e] at hs
  exact ⟨⟨u0, hc⟩, hf, hs, hB, hg⟩
/-- a number in another list -/
theorem NW.num {g1 n1 c1 j : Nat} {zn : List Nat} (h : NW w B g n vs nss es ess) (hu : es[k]? = some (.slice (some ⟨g1, 0, none⟩) n1 c1)) (hz : ess[k]? = some (up zn)) (hj : j < zn.length) : w.cell? ⟨g1, j, none⟩ = some (.int .i64 (zn.getD j 0 : Nat)) := by
  have hr := (h.other hu hz).ints
  obtain ⟨A, c, e, -, -, h3⟩ := hr.open_
  obtain ⟨ad, z, hA, hz', -, hc⟩ := h3 j (by rw [up_len]; exact hj)
  simp only [Value.slice.injEq] at e
  obtain ⟨rfl, -, -⟩ := e
  injection hA with hA
  subst hA
  obtain ⟨l, hl, hzl⟩ := up_getD hz'
  have e2 : (⟨g1, 0, none⟩ : Addr).add j = ⟨g1, j, none⟩ := by by_cases h0 : j = 0 <;> simp [Addr.add, h0]
  rw [e2] at hc
  rw [hc, hzl]
  simp [List.getD, hl]
end

/-- rows that have grown, ahead of their stores: the outer list still holds vs, the rows are us -/
structure NW2 (w : World) (B g n : Nat) (vs us : List Value) (nss : List (List Nat)) (es : List Value) (ess : List (List Int)) : Prop where
  own : Own w B tNL (.slice (some ⟨g, 0, none⟩) n n) vs
  len : vs.length = n
  lenu : us.length = n
  len' : nss.length = n
  fam : Fam w B tN (us ++ es) (nss.map up ++ ess)
section
variable {w w' w1 : World} {B g n k x : Nat} {vs us es : List Value} {nss : List (List Nat)} {ess : List (List Int)} {u u1 : Value} {ns : List Nat}
theorem NW.two (h : NW w B g n vs nss es ess) : NW2 w B g n vs vs nss es ess := ⟨h.own, h.len, h.len, h.len', h.fam⟩
theorem NW2.one (h : NW2 w B g n vs us nss es ess) (e : vs = us) : NW w B g n vs nss es ess := ⟨h.own, h.len, h.len', by rw [e]; exact h.fam⟩
theorem NW2.below (h : NW2 w B g n vs us nss es ess) (hb : Below w.heap.size w w') : NW2 w' B g n vs us nss es ess := ⟨h.own.below hb, h.len, h.lenu, h.len', h.fam.below hb⟩
theorem NW2.row (h : NW2 w B g n vs us nss es ess) (hu : us[k]? = some u) (hz : nss[k]? = some ns) : OwnInts w B tN u (up ns) := by
  have hk := (List.getElem?_eq_some_iff.1 hu).1
  have hkn := (List.getElem?_eq_some_iff.1 hz).1
  exact h.fam.row k u (up ns) (by rw [List.getElem?_append_left hk]; exact hu) (by rw [List.getElem?_append_left (by rw [List.length_map]; exact hkn), List.getElem?_map, hz]; rfl)
theorem NW2.app (h : NW2 w B g n vs us nss es ess) (hu : us[k]? = some u) (hz : nss[k]? = some ns) (ho : Own w1 B tN u1 (ints (up ns) ++ [.int .i64 (x : Int)])) (hx : x ≤ 1000000) (hgr : Grow w w1 u u1) : NW2 w1 B g n vs (us.set k u1) (addAt x k nss) es ess := by
  have hk := (List.getElem?_eq_some_iff.1 hu).1
  have hkn := (List.getElem?_eq_some_iff.1 hz).1
  have hr := h.row hu hz
  have how : Own w1 B tNL (.slice (some ⟨g, 0, none⟩) n n) vs := h.own.kept hgr.1 (h.own.ne_of_type hr.1 (by decide))
  have hnew : OwnInts w1 B tN u1 (up (ns ++ [x])) := by
    refine ⟨by rw [up_append]; simpa [ints, up] using ho, fun z hz => ?_⟩
    rw [up_append] at hz
    rcases List.mem_append.1 hz with hz | hz
    · exact hr.2 z hz
    · simp [up] at hz; subst hz; unfold In64; omega
  have hf := h.fam.step (k := k) (by rw [List.getElem?_append_left hk]; exact hu) hnew hgr
  rw [List.set_append, if_pos hk, List.set_append, if_pos (by rw [List.length_map]; exact hkn)] at hf
  refine ⟨how, h.len, by rw [List.length_set]; exact h.lenu, by rw [addAt_len]; exact h.len', ?_⟩
  rw [addAt_set hz, List.map_set]
  exact hf
theorem NW2.cell (h : NW2 w B g n vs us nss es ess) (hu : vs[k]? = some u) : w.cell? ⟨g, k, none⟩ = some u := by
  obtain ⟨ad, n', c', he, hc⟩ := h.own.cells.at_ hu
  simp only [Value.slice.injEq, Option.some.injEq] at he
  obtain ⟨rfl, -, -⟩ := he
  have e : (⟨g, 0, none⟩ : Addr).add k = ⟨g, k, none⟩ := by by_cases h0 : k = 0 <;> simp [Addr.add, h0]
  rwa [e] at hc
theorem NW2.store (h : NW2 w B g n vs us nss es ess) (hk : k < n) (u1 : Value) : (∃ u0, w.cell? ⟨g, k, none⟩ = some u0) ∧ w.frozen? ⟨g, k, none⟩ = false ∧ NW2 (w.setCell ⟨g, k, none⟩ u1) B g n (vs.set k u1) us nss es ess ∧ w.grownBy (w.setCell ⟨g, k, none⟩ u1) (some g) := by
  obtain ⟨u0, -, hc, hfr, -, -, hown, hg2⟩ := h.own.storeAt (by rw [h.len]; exact hk) u1
  exact ⟨⟨u0, hc⟩, hfr, ⟨hown, by rw [List.length_set]; exact h.len, h.lenu, h.len', h.fam.other (v := .slice (some ⟨g, 0, none⟩) n n) hg2 h.own (by decide)⟩, hg2⟩
end

/-- one node more -/
def nearStep (near : List (List Nat)) (i : Nat) : Nat → List (List Nat)
  | 0 => near
  | k + 1 => addAt i k (addAt k i near)
theorem nearF_snoc : ∀ (near : List (List Nat)) (ps : List Nat) (i p : Nat), nearF near (ps ++ [p]) i = nearStep (nearF near ps i) (i + ps.length) p
  | near, [], i, 0 => rfl
  | near, [], i, k + 1 => rfl
  | near, 0 :: ps, i, p => by rw [List.cons_append, nearF, nearF, nearF_snoc near ps (i + 1) p, List.length_cons]; congr 1; omega
  | near, (k + 1) :: ps, i, p => by rw [List.cons_append, nearF, nearF, nearF_snoc _ ps (i + 1) p, List.length_cons]; congr 1; omega
theorem parF_len (t : List Nat) : ∀ (ls : List Nat) (i : Nat), (parF t ls i).length = ls.length
  | [], i => rfl
  | l :: ls, i => by rw [parF, List.length_cons, parF_len t ls (i + 1), List.length_cons]
theorem parF_get (t : List Nat) : ∀ (ls : List Nat) (i k l : Nat), ls[k]? = some l → (parF t ls i)[k]? = some (parN t l (i + k))
  | [], i, k, l, h => by simp at h
  | x :: ls, i, 0, l, h => by simp at h; subst h; rfl
  | x :: ls, i, k + 1, l, h => by
    rw [parF, List.getElem?_cons_succ, parF_get t ls (i + 1) k l (by simpa using h)]
    congr 2; omega
theorem parents_get {t : List Nat} {k l : Nat} (h : t[k]? = some l) : (parents t)[k]? = some (parN t l k) := by
  rw [parents, parF_get t t 0 k l h, Nat.zero_add]
theorem parents_len (t : List Nat) : (parents t).length = t.length := parF_len t t 0
theorem parN_le (t : List Nat) (l : Nat) : ∀ k : Nat, parN t l k ≤ k
  | 0 => Nat.le_refl _
  | k + 1 => by
    rw [parN]
    cases Nat.beq (t.getD k 0 + 1) l with
    | true => exact Nat.le_refl _
    | false => exact Nat.le_succ_of_le (parN_le t l k)
theorem pzTo_get {t : List Nat} {n k : Nat} (h : k < n) : (pzTo t n)[k]? = some ((parN t (t.getD k 0) k : Int) - 1) := by
  simp [pzTo, h]
/-- short rows of small numbers -/
def NB (nss : List (List Nat)) (m n : Nat) : Prop := ∀ ns ∈ nss, ns.length ≤ m ∧ ∀ x ∈ ns, x < n
theorem NB.add {nss : List (List Nat)} {m n x i : Nat} (h : NB nss m n) (hx : x < n) : NB (addAt x i nss) (m + 1) n := by
  intro ns hns
  rcases mem_addAt hns with hns | ⟨b, hb, rfl⟩
  · exact ⟨by have := (h ns hns).1; omega, (h ns hns).2⟩
  · refine ⟨by have := (h b hb).1; simp; omega, fun y hy => ?_⟩
    rcases List.mem_append.1 hy with hy | hy
    · exact (h b hb).2 y hy
    · simp at hy; omega
theorem NB.mono {nss : List (List Nat)} {m m' n : Nat} (h : NB nss m n) (hm : m ≤ m') : NB nss m' n := fun ns hns => ⟨Nat.le_trans (h ns hns).1 hm, (h ns hns).2⟩
theorem NB.nil (k m n : Nat) : NB (List.replicate k []) m n := by
  intro ns hns
  have := List.eq_of_mem_replicate hns
  subst this
  exact ⟨Nat.zero_le _, fun x hx => by simp at hx⟩
end Go.Proofs.YtdjhfeaimmpmhaaGreat

set_option maxRecDepth 100000
set_option linter.unusedVariables false
set_option linter.unusedSimpArgs false
namespace Go.Proofs.YtdjhfeaimmpmhaaGreat
open Go.RowKit

theorem near_at {t : List Nat} {j : Nat} (near : List (List Nat)) (hlt : j < t.length) : nearF near ((parents t).take (j + 1)) 0 = nearStep (nearF near ((parents t).take j) 0) j (parN t (t.getD j 0) j) := by
  have htj : t[j]? = some (t[j]'hlt) := List.getElem?_eq_getElem _
  have hg : t.getD j 0 = t[j]'hlt := by simp [List.getD, htj]
  rw [List.take_add_one, parents_get htj, hg]
  show nearF _ (_ ++ [_]) 0 = _
  rw [nearF_snoc, List.length_take, parents_len, Nat.min_eq_left (by omega), Nat.zero_add]

set_option maxHeartbeats 4000000 in
theorem i_nearOf (w : World) (v : Value) (t : List Nat) (ha : Ints w v (up t)) (hn : t.length ≤ 1000) (hl : ∀ l ∈ t, l ≤ 1000000) :
    Calls Tryz.prog 169 #[v] w fun e w' => ∃ g vs es ess, e = .returned (.slice (some ⟨g, 0, none⟩) t.length t.length) ∧ NW w' w.heap.size g t.length vs (nearN t) es ess ∧ NB (nearN t) 2000 t.length ∧ Below w.heap.size w w' := by
  have HA := Lib.hid ha
  have HL := Lib.hid hl
  obtain ⟨A, c, rfl, l1, l2, h3⟩ := ha.open_
  rw [up_len] at l1 h3 HA ⊢
  clear ha h3 hl
  go_enter Tryz.func169, Tryz.ntmps169
  go_wp2_with (first
    | (at_make; refine wpList_mk rfl _ _ _ rfl _ _ _ T_nrow t.length _ (by rfl) (by rfl) (by rfl) (by omega) _ ?_; intro w1 hown hb hs1; have HN1 := Lib.hid (NW.made hown); have HB1 := Lib.hid hb; clear hown hb)
    | (go_at_call 201; refine (i_parentsOf _ _ t (HA.out.below HB1.out) hn HL.out).mono ?_; rintro e w2 ⟨x, rfl, hx, hb2⟩; obtain ⟨A5, c5, he5, -, -, -⟩ := hx.ints.open_; rw [pzTo_len] at he5; subst he5; have HN2 := Lib.hid (HN1.out.snoc hb2 hx HB1.out.size); have HB2 := Lib.hid (HB1.out.trans (hb2.mono HB1.out.size)); clear hx hb2))
  generalize hg : w.heap.size = g at HN2 ⊢
  have HG := Lib.hid hg
  have HGE := Lib.hid (show w.heap.size ≤ g by omega)
  clear HN1
  go_loopw [12] (fun x wr => ∃ (j : Nat) (vs : List Value), j ≤ t.length ∧ x = .int .i64 j ∧ NW wr w.heap.size g t.length vs (nearF (List.replicate t.length []) ((parents t).take j) 0) [.slice A5 t.length c5] [pzTo t t.length] ∧ NB (nearF (List.replicate t.length []) ((parents t).take j) 0) (2 * j) t.length ∧ Below w.heap.size w wr) (fun x _ => t.length - (intOf x).toNat)
  case atStart => exact ⟨0, _, Nat.zero_le _, rfl, by rw [HG.out]; exact HN2.out, NB.nil _ _ _, HB2.out⟩
  case round =>
    obtain ⟨j, vs, hj, rfl, hnw, hnb, hbw⟩ := hrel
    clear HN2
    have HN := Lib.hid hnw
    have HNB := Lib.hid hnb
    have HBW := Lib.hid hbw
    clear hnw hnb hbw
    by_cases hlt : j < t.length
    · obtain ⟨Ax, cx, hx5, -, -, hp5⟩ := (HN.out.other (k := 0) rfl rfl).ints.open_
      rw [pzTo_len] at hp5
      obtain ⟨ap, zp, rfl, hzp, -, hcp⟩ := hp5 j hlt
      simp only [Value.slice.injEq] at hx5
      obtain ⟨rfl, -, rfl⟩ := hx5
      rw [pzTo_get hlt] at hzp
      injection hzp with hzp
      have hji : (j : Int) < (t.length : Int) := by omega
      have HSN := Lib.hid (near_at (List.replicate t.length []) hlt)
      have hPj := parN_le t (t.getD j 0) j
      generalize hPP : parN t (t.getD j 0) j = P at hzp HSN hPj
      generalize hnn : nearF (List.replicate t.length []) ((parents t).take j) 0 = nss at HN HNB HSN
      clear hPP hnn hp5
      cases P with
      | zero =>
        have hz1 : zp = -1 := by omega
        subst hz1
        go_wp2_with fail
        go_roundw
        case rel =>
          refine ⟨j + 1, vs, by omega, by go_num, ?_, ?_, HBW.out⟩
          · rw [HSN.out]; exact HN.out
          · rw [HSN.out]; exact HNB.out.mono (by omega)
        case measure => simp [intOf]; omega
      | succ k =>
        have hz1 : zp = (k : Int) := by omega
        subst hz1
        have hkt : k < t.length := by omega
        have hki : (k : Int) < (t.length : Int) := by omega
        have hk0 : (0 : Int) ≤ (k : Int) := by omega
        obtain ⟨Aj, mj, cj, nj, huj, hmj, hzj, hcj, hoj⟩ := HN.out.get hlt
        subst hmj
        have HUJ := Lib.hid huj
        have HZJ := Lib.hid hzj
        have HOJ := Lib.hid hoj
        have HLJ := Lib.hid (HNB.out nj (List.mem_of_getElem? hzj))
        have hbs := HBW.out.size
        clear huj hzj hoj hzp
        go_wp2_with (first
          | (at_builtin; refine wpList_app1 T_nat (v := .slice Aj nj.length cj) (vs := ints (up nj)) HOJ.out.1 (by rw [ints_len, up_len]; have := HLJ.out.1; omega) hbs (by rfl) rfl (by rfl) (by rfl) (by rfl) ?_; intro u3 w3 hown3 hgr3; obtain ⟨A3, c3, hu3, -, -⟩ := hown3.cells.open_; rw [List.length_append, List.length_singleton] at hu3; subst hu3; obtain ⟨⟨u0, q1⟩, q2, hn3⟩ := HN.out.grow HUJ.out HZJ.out hown3 (by omega) hgr3; have hb3 := (hgr3.below HBW.out hbs HOJ.out.1.ge).setCell (p := ⟨g, j, none⟩) HGE.out (.slice A3 ((ints (up nj)).length + 1) c3); obtain ⟨Ak, mk, ck, nk, huk, hmk, hzk, hck, hok⟩ := hn3.get hkt; subst hmk; have HN3 := Lib.hid hn3; have HB3 := Lib.hid hb3; have HUK := Lib.hid huk; have HZK := Lib.hid hzk; have HOK := Lib.hid hok; have HNB3 := Lib.hid ((HNB.out.add (x := k) (i := j) hkt)); have HLK := Lib.hid (HNB3.out nk (List.mem_of_getElem? hzk)); have hbs3 := hb3.size; clear hn3 hb3 huk hzk hok hown3 hgr3)
          | (at_builtin; refine wpList_app1n w3.heap.size (by simp) T_nat (v := .slice Ak nk.length ck) (vs := ints (up nk)) HOK.out.1 (by rw [ints_len, up_len]; have := HLK.out.1; omega) hbs3 (by rfl) rfl (by rfl) (by rfl) (by rfl) ?_; intro u5 w5 hown5 hgr5; obtain ⟨A6, c6, hu6, -, -⟩ := hown5.cells.open_; rw [List.length_append, List.length_singleton] at hu6; subst hu6; obtain ⟨⟨u6, q3⟩, q4, hn5⟩ := HN3.out.grow HUK.out HZK.out hown5 (by omega) hgr5; have HB5 := Lib.hid ((hgr5.below HB3.out hbs3 HOK.out.1.ge).setCell (p := ⟨g, k, none⟩) HGE.out (.slice A6 ((ints (up nk)).length + 1) c6)); have HN5 := Lib.hid hn5; clear hn5 hown5 hgr5))
        go_roundw
        case rel =>
          have hf := HN5.out
          rw [show addAt j k (addAt k j nss) = nearStep nss j (k + 1) from rfl] at hf
          have hq := (HNB3.out.add (x := j) (i := k) hlt).mono (m' := 2 * (j + 1)) (by omega)
          rw [show addAt j k (addAt k j nss) = nearStep nss j (k + 1) from rfl] at hq
          rw [← HSN.out] at hf hq
          exact ⟨j + 1, _, by omega, by go_num, hf, hq, HB5.out⟩
        case measure => simp [intOf]; omega
    · have : j = t.length := by omega
      subst this
      rw [← parents_len, List.take_length] at HN HNB
      rw [parents_len] at HN HNB
      go_wp2_with fail
      go_ret
      exact ⟨g, vs, _, _, rfl, HN.out, HNB.out.mono (by omega), HBW.out⟩
end Go.Proofs.YtdjhfeaimmpmhaaGreat

set_option linter.unusedVariables false
set_option linter.unusedSimpArgs false
set_option maxRecDepth 100000
namespace Go.Proofs.YtdjhfeaimmpmhaaGreat

theorem lvl_cons {t : List Nat} (h : lvl t = true) : ∃ c, t = 0 :: c ∧ lvlF 0 c = true := by
  cases t with
  | nil => cases h
  | cons a c =>
    rw [lvl] at h
    cases h1 : Nat.beq a 0 with
    | false => rw [h1] at h; cases h
    | true => rw [h1] at h; have := Nat.eq_of_beq_eq_true h1; subst this; exact ⟨c, rfl, h⟩
end Go.Proofs.YtdjhfeaimmpmhaaGreat

set_option maxRecDepth 100000
set_option linter.unusedVariables false
set_option linter.unusedSimpArgs false
namespace Go.Proofs.YtdjhfeaimmpmhaaGreat
open Go.RowKit

end Go.Proofs.YtdjhfeaimmpmhaaGreat

set_option maxRecDepth 100000
set_option linter.unusedVariables false
set_option linter.unusedSimpArgs false
namespace Go.Proofs.YtdjhfeaimmpmhaaGreat
open Go.RowKit

set_option maxHeartbeats 400000 in
theorem s_l01Same (w : World) (a b : Value) (xs ys : List Int) (ha : Ints w a xs) (hb : Ints w b ys) :
    Calls Tryz.prog 135 #[a, b] w fun e w' => e = .returned (.bool (decide (xs = ys))) ∧ ∃ n, w' = w.drewN n := by
  obtain ⟨A, c, rfl, h1, h2, h3⟩ := ha.open_
  obtain ⟨B, d, rfl, g1, g2, g3⟩ := hb.open_
  clear ha hb
  have H3 := Lib.hid h3
  have G3 := Lib.hid g3
  clear h3 g3
  by_cases hl : xs.length = ys.length
  · have hl' : (((xs.length : Nat) : Int) != ((ys.length : Nat) : Int)) = false := by simp [hl]
    have HL := Lib.hid hl
    clear hl
    have g4 : ys.length ≤ xs.length := by rw [HL.out]; omega
    have g5 : xs.length ≤ ys.length := by rw [HL.out]; omega
    go_enter Tryz.func135, Tryz.ntmps135
    go_wp2
    go_loopw [5] (fun i wr => ∃ k n : Nat, k ≤ xs.length ∧ i = .int .i64 k ∧ xs.take k = ys.take k ∧ wr = w.drewN n) (fun i _ => xs.length - (intOf i).toNat)
    case atStart => exact ⟨0, 0, Nat.zero_le _, rfl, rfl, rfl⟩
    case round =>
      obtain ⟨k, n, hk, rfl, ht, rfl⟩ := hrel
      have HT := Lib.hid ht
      clear ht
      by_cases hlt : k < xs.length
      · obtain ⟨ad, z, rfl, hz, hz2, hc⟩ := H3.out k hlt
        obtain ⟨ad', y, rfl, hy, hy2, hc'⟩ := G3.out k (by omega)
        have HZ := Lib.hid hz
        have HY := Lib.hid hy
        clear hz hy hz2 hy2
        go_wp2
        go_quiet (fail)
        go_wp2
        · have hne : (z != y) = true := by assumption
          go_ret
          refine ⟨ret_bool ?_, _, World.drewN_drewN _ _ _⟩
          symm
          simp only [decide_eq_false_iff_not]
          rintro rfl
          have := HZ.out.symm.trans HY.out
          simp at this hne
          exact hne this
        · have hne : (z != y) = false := by assumption
          go_roundw
          case rel => exact ⟨k + 1, _, by omega, by go_num, take_eq_succ HT.out HZ.out HY.out (by simpa using hne), rfl⟩
          case measure => simp [intOf]; omega
      · have : k = xs.length := by omega
        subst this
        go_wp2
        go_ret
        refine ⟨ret_bool ?_, _, rfl⟩
        have e := HT.out
        rw [List.take_length, List.take_of_length_le (by omega)] at e
        simp [e]
  · have hl' : (((xs.length : Nat) : Int) != ((ys.length : Nat) : Int)) = true := by simp; omega
    have HL := Lib.hid hl
    clear hl
    go_enter Tryz.func135, Tryz.ntmps135
    go_wp2
    go_ret
    refine ⟨ret_bool ?_, 0, rfl⟩
    have := HL.out
    symm
    simp only [decide_eq_false_iff_not]
    rintro rfl
    exact this rfl

end Go.Proofs.YtdjhfeaimmpmhaaGreat

set_option maxRecDepth 100000
set_option linter.unusedVariables false
set_option linter.unusedSimpArgs false
namespace Go.Proofs.YtdjhfeaimmpmhaaGreat
open Go.RowKit

end Go.Proofs.YtdjhfeaimmpmhaaGreat

