/- Words of memory for lists of neighbours: rows of numbers, each in a block of its own, that grow one by one. | Walk: nearOf of the program. | Plain: a tree made from its neighbours is the canonical list of the list that is made without sorting. | Walks: rooted, slices.MinFunc, freeForm of the program. | Walks: equality of lists and of lists of lists, of the library and of the reference. | Walks: isSuperfluous, the predicate of freeTreesOf, of the program. | Walks: slices.BinarySearchFunc at trees, indexIn of the program; l03Find of the reference. -/
import Derived.Test.YtdjhfeaimmpmhaaGreatZc7
import Derived.Test.YtdjhfeaimmpmhaaGreatZc3
set_option maxRecDepth 100000
set_option linter.unusedVariables false
set_option linter.unusedSimpArgs false
namespace Go.Proofs.YtdjhfeaimmpmhaaGreat
open Go.RowKit

abbrev tNL : TypeId := 119
theorem addAt_set {x : Nat} : ∀ {bs : List (List Nat)} {i : Nat} {b : List Nat}, bs[i]? = some b → addAt x i bs = bs.set i (b ++ [x])
  | [], i, b, h => by simp at h
  | c :: bs, 0, b, h => by simp at h; subst h; rfl
  | c :: bs, i + 1, b, h => by rw [addAt, addAt_set (bs := bs) (by simpa using h)]; rfl
theorem addAt_len (x : Nat) : ∀ (i : Nat) (bs : List (List Nat)), (addAt x i bs).length = bs.length
  | _, [] => by cases ‹Nat› <;> rfl
  | 0, b :: bs => rfl
  | i + 1, b :: bs => by rw [addAt, List.length_cons, addAt_len x i bs, List.length_cons]
theorem mem_addAt {x : Nat} {ns : List Nat} : ∀ {i : Nat} {bs : List (List Nat)}, ns ∈ addAt x i bs → ns ∈ bs ∨ ∃ b ∈ bs, ns = b ++ [x]
  | _, [], h => by cases ‹Nat› <;> simp [addAt] at h
  | 0, b :: bs, h => by
    rw [addAt] at h
    rcases List.mem_cons.1 h with h | h
    · exact .inr ⟨b, by simp, h⟩
    · exact .inl (by simp [h])
  | i + 1, b :: bs, h => by
    rw [addAt] at h
    rcases List.mem_cons.1 h with h | h
    · exact .inl (by simp [h])
    · rcases mem_addAt h with h | ⟨c, hc, h⟩
      · exact .inl (by simp [h])
      · exact .inr ⟨c, by simp [hc], h⟩

/-- lists of numbers of one's own, no two of them in one block -/
structure Fam (w : World) (B : Nat) (e : TypeId) (us : List Value) (xss : List (List Int)) : Prop where
  len : us.length = xss.length
  row : ∀ (k : Nat) (u : Value) (zs : List Int), us[k]? = some u → xss[k]? = some zs → OwnInts w B e u zs
  apart : ∀ (i j : Nat) (u u' : Value), i ≠ j → us[i]? = some u → us[j]? = some u' → Apart u u'
section
variable {w w' w1 : World} {B k : Nat} {e e' : TypeId} {us : List Value} {xss : List (List Int)} {u u1 : Value} {zs zs1 : List Int}
theorem Fam.nil (w : World) (B : Nat) (e : TypeId) : Fam w B e [] [] := ⟨rfl, fun k u zs h => by simp at h, fun i j u u' _ h => by simp at h⟩
theorem Fam.below (h : Fam w B e us xss) (hb : Below w.heap.size w w') : Fam w' B e us xss := ⟨h.len, fun k u zs hu hz => (h.row k u zs hu hz).below hb, h.apart⟩
theorem Fam.mono {B' : Nat} (h : Fam w B e us xss) (hB : B' ≤ B) : Fam w B' e us xss := ⟨h.len, fun k u zs hu hz => (h.row k u zs hu hz).mono hB, h.apart⟩
/-- a block whose elements have another type has turned -/
theorem Fam.other {v : Value} {B' : Nat} {cs : List Value} (h : Fam w B e us xss) (hg : w.grownBy w' v.ownBlock) (ho : Own w B' e' v cs) (hne : e ≠ e') : Fam w' B e us xss :=
  ⟨h.len, fun k u zs hu hz => (h.row k u zs hu hz).kept hg ((h.row k u zs hu hz).1.ne_of_type ho hne), h.apart⟩
/-- one of the lists has turned or grown -/
theorem Fam.step (h : Fam w B e us xss) (hu : us[k]? = some u) (ho : OwnInts w1 B e u1 zs1) (hgr : Grow w w1 u u1) : Fam w1 B e (us.set k u1) (xss.set k zs1) := by
  have hk : k < us.length := (List.getElem?_eq_some_iff.1 hu).1
  have hap : ∀ (j : Nat) (u' : Value), k ≠ j → us[j]? = some u' → Apart u' u1 := by
    intro j u' hkj hj
    have h1 := h.apart j k u' u (Ne.symm hkj) hj hu
    have hz' : xss[j]? = some (xss[j]'(by rw [← h.len]; exact (List.getElem?_eq_some_iff.1 hj).1)) := List.getElem?_eq_getElem _
    have h2 := (h.row j u' _ hj hz').1.lt
    rcases hgr.2 with h3 | ⟨b, h3, h4⟩
    · rcases h1 with h1 | h1
      · exact .inl h1
      · exact .inr (by rw [h3]; exact h1)
    · cases hb : u'.ownBlock with
      | none => exact .inl hb
      | some b' => exact .inr (by rw [h3]; intro e; rw [hb] at e; injection e with e; have := h2 b' hb; omega)
  refine ⟨by simp [h.len], fun j u' ns' hj hj' => ?_, fun i j a b hij ha hb => ?_⟩
  · rw [List.getElem?_set] at hj hj'
    by_cases hkj : k = j
    · subst hkj
      rw [if_pos rfl, if_pos hk] at hj
      rw [if_pos rfl, if_pos (by rw [← h.len]; exact hk)] at hj'
      injection hj with hj; injection hj' with hj'
      subst hj; subst hj'
      exact ho
    · rw [if_neg hkj] at hj hj'
      exact (h.row j u' ns' hj hj').kept hgr.1 (h.apart j k u' u (Ne.symm hkj) hj hu)
  · rw [List.getElem?_set] at ha hb
    by_cases hki : k = i
    · subst hki
      rw [if_pos rfl, if_pos hk] at ha
      rw [if_neg hij] at hb
      injection ha with ha
      subst ha
      exact (hap j b hij hb).symm
    · rw [if_neg hki] at ha
      by_cases hkj : k = j
      · subst hkj
        rw [if_pos rfl, if_pos hk] at hb
        injection hb with hb
        subst hb
        exact hap i a hki ha
      · rw [if_neg hkj] at hb
        exact h.apart i j a b hij ha hb
/-- one list more, apart from all -/
theorem Fam.snoc (h : Fam w B e us xss) (ho : OwnInts w B e u zs) (hap : ∀ (j : Nat) (u' : Value), us[j]? = some u' → Apart u' u) : Fam w B e (us ++ [u]) (xss ++ [zs]) := by
  refine ⟨by simp [h.len], fun j u' ns' hj hj' => ?_, fun i j a b hij ha hb => ?_⟩
  · by_cases hlt : j < us.length
    · rw [List.getElem?_append_left hlt] at hj
      rw [List.getElem?_append_left (by rw [← h.len]; exact hlt)] at hj'
      exact h.row j u' ns' hj hj'
    · have hjl := (List.getElem?_eq_some_iff.1 hj).1
      simp at hjl
      have : j = us.length := by omega
      subst this
      rw [List.getElem?_append_right (Nat.le_refl _)] at hj
      rw [List.getElem?_append_right (by rw [h.len]; exact Nat.le_refl _), h.len] at hj'
      simp at hj hj'
      subst hj; subst hj'
      exact ho
  · have hx : ∀ (m : Nat) (c : Value), (us ++ [u])[m]? = some c → (m < us.length ∧ us[m]? = some c) ∨ (m = us.length ∧ c = u) := by
      intro m c hm
      by_cases hlt : m < us.length
      · rw [List.getElem?_append_left hlt] at hm; exact .inl ⟨hlt, hm⟩
      · have hml := (List.getElem?_eq_some_iff.1 hm).1
        simp at hml
        have : m = us.length := by omega
        subst this
        rw [List.getElem?_append_right (Nat.le_refl _)] at hm
        simp at hm
        exact .inr ⟨rfl, hm.symm⟩
    rcases hx i a ha with ⟨h1, h2⟩ | ⟨h1, h2⟩ <;> rcases hx j b hb with ⟨h3, h4⟩ | ⟨h3, h4⟩
    · exact h.apart i j a b hij h2 h4
    · subst h4; exact hap i a h2
    · subst h2; exact (hap j b h4).symm
    · omega
/-- a list that has just been made is apart from all -/
theorem Fam.fresh (h : Fam w B e us xss) (hge : ∀ b, u.ownBlock = some b → w.heap.size ≤ b) : ∀ (j : Nat) (u' : Value), us[j]? = some u' → Apart u' u := by
  intro j u' hj
  have hz' : xss[j]? = some (xss[j]'(by rw [← h.len]; exact (List.getElem?_eq_some_iff.1 hj).1)) := List.getElem?_eq_getElem _
  exact apart_of_lt (h.row j u' _ hj hz').1.lt hge
theorem Fam.nils (w : World) (B : Nat) (e : TypeId) (n : Nat) : Fam w B e (List.replicate n (.slice none 0 0)) (List.replicate n []) := by
  refine ⟨by simp, fun k u zs hu hz => ?_, fun i j u u' _ hu _ => ?_⟩
  · rw [List.getElem?_replicate] at hu hz
    split at hu
    · rw [if_pos (by assumption)] at hz
      injection hu with hu; injection hz with hz
      subst hu; subst hz
      exact OwnInts.nil _ _ _
    · cases hu
  · rw [List.getElem?_replicate] at hu
    split at hu
    · injection hu with hu; subst hu; exact .inl rfl
    · cases hu
end

/-- rows of neighbours: n rows, row k at vs k, in the block g; and other lists es, apart from all rows -/
structure NW (w : World) (B g n : Nat) (vs : List Value) (nss : List (List Nat)) (es : List Value) (ess : List (List Int)) : Prop where
  own : Own w B tNL (.slice (some ⟨g, 0, none⟩) n n) vs
  len : vs.length = n
  len' : nss.length = n
  fam : Fam w B tN (vs ++ es) (nss.map up ++ ess)

section
variable {w w' w1 : World} {B g n k x : Nat} {vs es : List Value} {nss : List (List Nat)} {ess : List (List Int)} {u u1 : Value} {ns : List Nat} {zs zs1 : List Int}
theorem NW.below (h : NW w B g n vs nss es ess) (hb : Below w.heap.size w w') : NW w' B g n vs nss es ess := ⟨h.own.below hb, h.len, h.len', h.fam.below hb⟩
theorem NW.drewN (h : NW w B g n vs nss es ess) (m : Nat) : NW (w.drewN m) B g n vs nss es ess := h.below (below_drewN (Below.refl _ _) m)
theorem NW.mono {B' : Nat} (h : NW w B g n vs nss es ess) (hB : B' ≤ B) : NW w B' g n vs nss es ess := ⟨h.own.mono hB, h.len, h.len', h.fam.mono hB⟩
theorem NW.made (h : Own w B tNL (.slice (some ⟨g, 0, none⟩) n n) (List.replicate n (.slice none 0 0))) : NW w B g n (List.replicate n (.slice none 0 0)) (List.replicate n []) [] [] := by
  refine ⟨h, by simp, by simp, ?_⟩
  have := Fam.nils w B tN n
  simpa [List.map_replicate, up] using this
theorem NW.rows (h : NW w B g n vs nss es ess) : Rows w (.slice (some ⟨g, 0, none⟩) n n) (nss.map up) := by
  refine ⟨vs, h.own.cells, by rw [List.length_map, h.len, h.len'], fun k u zs hu hz => ?_⟩
  refine (h.fam.row k u zs ?_ ?_).ints
  · rw [List.getElem?_append_left (List.getElem?_eq_some_iff.1 hu).1]; exact hu
  · rw [List.getElem?_append_left (List.getElem?_eq_some_iff.1 hz).1]; exact hz
/-- row k has grown by append: the world between, ahead of the store -/
theorem NW.grown (h : NW w B g n vs nss es ess) (hu : vs[k]? = some u) (hz : nss[k]? = some ns) (ho : Own w1 B tN u1 (ints (up ns) ++ [.int .i64 (x : Int)])) (hx : x ≤ 1000000) (hgr : Grow w w1 u u1) :
    Own w1 B tNL (.slice (some ⟨g, 0, none⟩) n n) vs ∧ Fam w1 B tN (vs.set k u1 ++ es) ((addAt x k nss).map up ++ ess) := by
  have hk : k < vs.length := (List.getElem?_eq_some_iff.1 hu).1
  have hkn : k < nss.length := (List.getElem?_eq_some_iff.1 hz).1
  have hr := h.fam.row k u (up ns) (by rw [List.getElem?_append_left hk]; exact hu) (by rw [List.getElem?_append_left (by rw [List.length_map]; exact hkn), List.getElem?_map, hz]; rfl)
  have how : Own w1 B tNL (.slice (some ⟨g, 0, none⟩) n n) vs := h.own.kept hgr.1 (h.own.ne_of_type hr.1 (by decide))
  have hnew : OwnInts w1 B tN u1 (up (ns ++ [x])) := by
    refine ⟨by rw [up_append]; simpa [ints, up] using ho, fun z hz => ?_⟩
    rw [up_append] at hz
    rcases List.mem_append.1 hz with hz | hz
    · exact hr.2 z hz
    · simp [up] at hz; subst hz; unfold In64; omega
  refine ⟨how, ?_⟩
  have hf := h.fam.step (k := k) (by rw [List.getElem?_append_left hk]; exact hu) hnew hgr
  rw [List.set_append, if_pos hk, List.set_append, if_pos (by rw [List.length_map]; exact hkn)] at hf
  rw [addAt_set hz, List.map_set]
  exact hf
/-- row k has grown by append: what its store wants, and what is there behind it -/
theorem NW.grow (h : NW w B g n vs nss es ess) (hu : vs[k]? = some u) (hz : nss[k]? = some ns) (ho : Own w1 B tN u1 (ints (up ns) ++ [.int .i64 (x : Int)])) (hx : x ≤ 1000000) (hgr : Grow w w1 u u1) :
    (∃ u0, w1.cell? ⟨g, k, none⟩ = some u0) ∧ w1.frozen? ⟨g, k, none⟩ = false ∧ NW (w1.setCell ⟨g, k, none⟩ u1) B g n (vs.set k u1) (addAt x k nss) es ess := by
  obtain ⟨how, hf⟩ := h.grown hu hz ho hx hgr
  obtain ⟨u0, -, hc, hfr, -, -, hown, hg2⟩ := how.storeAt (List.getElem?_eq_some_iff.1 hu).1 u1
  exact ⟨⟨u0, hc⟩, hfr, hown, by simp [h.len], by rw [addAt_len]; exact h.len', hf.other (v := .slice (some ⟨g, 0, none⟩) n n) hg2 how (by decide)⟩
theorem NW.ge (h : NW w B g n vs nss es ess) : B ≤ g := h.own.ge g rfl
/-- another list of one's own: what is known of it -/
theorem NW.other (h : NW w B g n vs nss es ess) (hu : es[k]? = some u) (hz : ess[k]? = some zs) : OwnInts w B tN u zs := by
  refine h.fam.row (n + k) u zs ?_ ?_
  · rw [List.getElem?_append_right (by rw [h.len]; omega), h.len, Nat.add_sub_cancel_left]; exact hu
  · rw [List.getElem?_append_right (by rw [List.length_map, h.len']; omega), List.length_map, h.len', Nat.add_sub_cancel_left]; exact hz
/-- another list has turned or grown -/
theorem NW.step (h : NW w B g n vs nss es ess) (hu : es[k]? = some u) (hz : ess[k]? = some zs) (ho : OwnInts w1 B tN u1 zs1) (hgr : Grow w w1 u u1) : NW w1 B g n vs nss (es.set k u1) (ess.set k zs1) := by
  have hr := h.other hu hz
  have how : Own w1 B tNL (.slice (some ⟨g, 0, none⟩) n n) vs := h.own.kept hgr.1 (h.own.ne_of_type hr.1 (by decide))
  have hf := h.fam.step (k := n + k) (u := u) (by rw [List.getElem?_append_right (by rw [h.len]; omega), h.len, Nat.add_sub_cancel_left]; exact hu) ho hgr
  rw [List.set_append, if_neg (by rw [h.len]; omega), h.len, Nat.add_sub_cancel_left, List.set_append, if_neg (by rw [List.length_map, h.len']; omega), List.length_map, h.len', Nat.add_sub_cancel_left] at hf
  exact ⟨how, h.len, h.len', hf⟩
/-- one list more, which has just been made -/
theorem NW.snoc (h : NW w B g n vs nss es ess) (hb : Below w.heap.size w w1) (ho : OwnInts w1 w.heap.size tN u zs) (hB : B ≤ w.heap.size) : NW w1 B g n vs nss (es ++ [u]) (ess ++ [zs]) := by
  have h1 := h.below hb
  refine ⟨h1.own, h.len, h.len', ?_⟩
  rw [← List.append_assoc, ← List.append_assoc]
  refine h1.fam.snoc (ho.mono hB) fun j u' hj => ?_
  exact h.fam.fresh ho.1.ge j u' hj
/-- a block of another type has turned -/
theorem NW.apart {v : Value} {B' : Nat} {e' : TypeId} {cs : List Value} (h : NW w B g n vs nss es ess) (hg : w.grownBy w' v.ownBlock) (ho : Own w B' e' v cs) (hne : tN ≠ e') (hne' : tNL ≠ e') : NW w' B g n vs nss es ess :=
  ⟨h.own.kept hg (h.own.ne_of_type ho hne'), h.len, h.len', h.fam.other hg ho hne⟩
/-- another list has grown by one number -/
theorem NW.push {zn : List Nat} (h : NW w B g n vs nss es ess) (hu : es[k]? = some u) (hz : ess[k]? = some (up zn)) (ho : Own w1 B tN u1 (ints (up zn) ++ [.int .i64 (x : Int)])) (hx : x ≤ 1000000) (hgr : Grow w w1 u u1) : NW w1 B g n vs nss (es.set k u1) (ess.set k (up (zn ++ [x]))) := by
  refine h.step hu hz ⟨by rw [up_append]; simpa [ints, up] using ho, fun z hz' => ?_⟩ hgr
  rw [up_append] at hz'
  rcases List.mem_append.1 hz' with hz' | hz'
  · exact (h.other hu hz).2 z hz'
  · simp [up] at hz'; subst hz'; unfold In64; omega
/-- a store into another list -/
theorem NW.put {g1 n1 c1 j : Nat} {zn : List Nat} (h : NW w B g n vs nss es ess) (hu : es[k]? = some (.slice (some ⟨g1, 0, none⟩) n1 c1)) (hz : ess[k]? = some (up zn)) (hj : j < zn.length) (x : Nat) (hx : x ≤ 1000000) :
    (∃ u0, w.cell? ⟨g1, j, none⟩ = some u0) ∧ w.frozen? ⟨g1, j, none⟩ = false ∧ NW (w.setCell ⟨g1, j, none⟩ (.int .i64 (x : Int))) B g n vs nss es (ess.set k (up (zn.set j x))) ∧ B ≤ g1 ∧ w.grownBy (w.setCell ⟨g1, j, none⟩ (.int .i64 (x : Int))) (some g1) := by
  have hr := h.other hu hz
  obtain ⟨u0, -, hc, hf, -, hB, hown, hg⟩ := hr.1.storeAt (k := j) (by rw [ints_len, up_len]; exact hj) (.int .i64 (x : Int))
  have ho : OwnInts (w.setCell ⟨g1, j, none⟩ (.int .i64 (x : Int))) B tN (.slice (some ⟨g1, 0, none⟩) n1 c1) (up (zn.set j x)) := by
    refine ⟨by simpa [ints, up, List.map_set] using hown, fun z hz => ?_⟩
    simp only [up, List.map_set] at hz
    rcases List.mem_or_eq_of_mem_set hz with hz | hz
    · exact hr.2 z hz
    · rw [hz]; unfold In64; omega
  have hs := h.step hu hz ho ⟨hg, .inl rfl⟩
  have e : es.set k (.slice (some ⟨g1, 0, none⟩) n1 c1) = es := by
    apply List.ext_getElem?
    intro i
    rw [List.getElem?_set]
    by_cases hki : k = i
    · subst hki; rw [if_pos rfl, if_pos (List.getElem?_eq_some_iff.1 hu).1, hu]
    · rw [if_neg hki]
  rw [e] at hs
  exact ⟨⟨u0, hc⟩, hf, hs, hB, hg⟩
/-- a number in another list -/
theorem NW.num {g1 n1 c1 j : Nat} {zn : List Nat} (h : NW w B g n vs nss es ess) (hu : es[k]? = some (.slice (some ⟨g1, 0, none⟩) n1 c1)) (hz : ess[k]? = some (up zn)) (hj : j < zn.length) : w.cell? ⟨g1, j, none⟩ = some (.int .i64 (zn.getD j 0 : Nat)) := by
  have hr := (h.other hu hz).ints
  obtain ⟨A, c, e, -, -, h3⟩ := hr.open_
  obtain ⟨ad, z, hA, hz', -, hc⟩ := h3 j (by rw [up_len]; exact hj)
  simp only [Value.slice.injEq] at e
  obtain ⟨rfl, -, -⟩ := e
  injection hA with hA
  subst hA
  obtain ⟨l, hl, hzl⟩ := up_getD hz'
  have e2 : (⟨g1, 0, none⟩ : Addr).add j = ⟨g1, j, none⟩ := by by_cases h0 : j = 0 <;> simp [Addr.add, h0]
  rw [e2] at hc
  rw [hc, hzl]
  simp [List.getD, hl]
end

/-- rows that have grown, ahead of their stores: the outer list still holds vs, the rows are us -/
structure NW2 (w : World) (B g n : Nat) (vs us : List Value) (nss : List (List Nat)) (es : List Value) (ess : List (List Int)) : Prop where
  own : Own w B tNL (.slice (some ⟨g, 0, none⟩) n n) vs
  len : vs.length = n
  lenu : us.length = n
  len' : nss.length = n
  fam : Fam w B tN (us ++ es) (nss.map up ++ ess)
section
variable {w w' w1 : World} {B g n k x : Nat} {vs us es : List Value} {nss : List (List Nat)} {ess : List (List Int)} {u u1 : Value} {ns : List Nat}
theorem NW.two (h : NW w B g n vs nss es ess) : NW2 w B g n vs vs nss es ess := ⟨h.own, h.len, h.len, h.len', h.fam⟩
theorem NW2.one (h : NW2 w B g n vs us nss es ess) (e : vs = us) : NW w B g n vs nss es ess := ⟨h.own, h.len, h.len', by rw [e]; exact h.fam⟩
theorem NW2.below (h : NW2 w B g n vs us nss es ess) (hb : Below w.heap.size w w') : NW2 w' B g n vs us nss es ess := ⟨h.own.below hb, h.len, h.lenu, h.len', h.fam.below hb⟩
theorem NW2.row (h : NW2 w B g n vs us nss es ess) (hu : us[k]? = some u) (hz : nss[k]? = some ns) : OwnInts w B tN u (up ns) := by
  have hk := (List.getElem?_eq_some_iff.1 hu).1
  have hkn := (List.getElem?_eq_some_iff.1 hz).1
  exact h.fam.row k u (up ns) (by rw [List.getElem?_append_left hk]; exact hu) (by rw [List.getElem?_append_left (by rw [List.length_map]; exact hkn), List.getElem?_map, hz]; rfl)
theorem NW2.app (h : NW2 w B g n vs us nss es ess) (hu : us[k]? = some u) (hz : nss[k]? = some ns) (ho : Own w1 B tN u1 (ints (up ns) ++ [.int .i64 (x : Int)])) (hx : x ≤ 1000000) (hgr : Grow w w1 u u1) : NW2 w1 B g n vs (us.set k u1) (addAt x k nss) es ess := by
  have hk := (List.getElem?_eq_some_iff.1 hu).1
  have hkn := (List.getElem?_eq_some_iff.1 hz).1
  have hr := h.row hu hz
  have how : Own w1 B tNL (.slice (some ⟨g, 0, none⟩) n n) vs := h.own.kept hgr.1 (h.own.ne_of_type hr.1 (by decide))
  have hnew : OwnInts w1 B tN u1 (up (ns ++ [x])) := by
    refine ⟨by rw [up_append]; simpa [ints, up] using ho, fun z hz => ?_⟩
    rw [up_append] at hz
    rcases List.mem_append.1 hz with hz | hz
    · exact hr.2 z hz
    · simp [up] at hz; subst hz; unfold In64; omega
  have hf := h.fam.step (k := k) (by rw [List.getElem?_append_left hk]; exact hu) hnew hgr
  rw [List.set_append, if_pos hk, List.set_append, if_pos (by rw [List.length_map]; exact hkn)] at hf
  refine ⟨how, h.len, by rw [List.length_set]; exact h.lenu, by rw [addAt_len]; exact h.len', ?_⟩
  rw [addAt_set hz, List.map_set]
  exact hf
theorem NW2.cell (h : NW2 w B g n vs us nss es ess) (hu : vs[k]? = some u) : w.cell? ⟨g, k, none⟩ = some u := by
  obtain ⟨ad, n', c', he, hc⟩ := h.own.cells.at_ hu
  simp only [Value.slice.injEq, Option.some.injEq] at he
  obtain ⟨rfl, -, -⟩ := he
  have e : (⟨g, 0, none⟩ : Addr).add k = ⟨g, k, none⟩ := by by_cases h0 : k = 0 <;> simp [Addr.add, h0]
  rwa [e] at hc
theorem NW2.store (h : NW2 w B g n vs us nss es ess) (hk : k < n) (u1 : Value) : (∃ u0, w.cell? ⟨g, k, none⟩ = some u0) ∧ w.frozen? ⟨g, k, none⟩ = false ∧ NW2 (w.setCell ⟨g, k, none⟩ u1) B g n (vs.set k u1) us nss es ess ∧ w.grownBy (w.setCell ⟨g, k, none⟩ u1) (some g) := by
  obtain ⟨u0, -, hc, hfr, -, -, hown, hg2⟩ := h.own.storeAt (by rw [h.len]; exact hk) u1
  exact ⟨⟨u0, hc⟩, hfr, ⟨hown, by rw [List.length_set]; exact h.len, h.lenu, h.len', h.fam.other (v := .slice (some ⟨g, 0, none⟩) n n) hg2 h.own (by decide)⟩, hg2⟩
end

/-- short rows of small numbers -/
def NB (nss : List (List Nat)) (m n : Nat) : Prop := ∀ ns ∈ nss, ns.length ≤ m ∧ ∀ x ∈ ns, x < n
theorem NB.add {nss : List (List Nat)} {m n x i : Nat} (h : NB nss m n) (hx : x < n) : NB (addAt x i nss) (m + 1) n := by
  intro ns hns
  rcases mem_addAt hns with hns | ⟨b, hb, rfl⟩
  · exact ⟨by have := (h ns hns).1; omega, (h ns hns).2⟩
  · refine ⟨by have := (h b hb).1; simp; omega, fun y hy => ?_⟩
    rcases List.mem_append.1 hy with hy | hy
    · exact (h b hb).2 y hy
    · simp at hy; omega
theorem NB.mono {nss : List (List Nat)} {m m' n : Nat} (h : NB nss m n) (hm : m ≤ m') : NB nss m' n := fun ns hns => ⟨Nat.le_trans (h ns hns).1 hm, (h ns hns).2⟩
theorem NB.nil (k m n : Nat) : NB (List.replicate k []) m n := by
  intro ns hns
  have := List.eq_of_mem_replicate hns
  subst this
  exact ⟨Nat.zero_le _, fun x hx => by simp at hx⟩
end Go.Proofs.YtdjhfeaimmpmhaaGreat

set_option maxRecDepth 100000
set_option linter.unusedVariables false
set_option linter.unusedSimpArgs false
namespace Go.Proofs.YtdjhfeaimmpmhaaGreat
open Go.RowKit

end Go.Proofs.YtdjhfeaimmpmhaaGreat

set_option linter.unusedVariables false
set_option linter.unusedSimpArgs false
set_option maxRecDepth 100000
namespace Go.Proofs.YtdjhfeaimmpmhaaGreat

end Go.Proofs.YtdjhfeaimmpmhaaGreat

set_option maxRecDepth 100000
set_option linter.unusedVariables false
set_option linter.unusedSimpArgs false
namespace Go.Proofs.YtdjhfeaimmpmhaaGreat
open Go.RowKit

end Go.Proofs.YtdjhfeaimmpmhaaGreat

set_option maxRecDepth 100000
set_option linter.unusedVariables false
set_option linter.unusedSimpArgs false
namespace Go.Proofs.YtdjhfeaimmpmhaaGreat
open Go.RowKit

end Go.Proofs.YtdjhfeaimmpmhaaGreat

set_option maxRecDepth 100000
set_option linter.unusedVariables false
set_option linter.unusedSimpArgs false
namespace Go.Proofs.YtdjhfeaimmpmhaaGreat
open Go.RowKit

end Go.Proofs.YtdjhfeaimmpmhaaGreat

set_option maxRecDepth 100000
set_option linter.unusedVariables false
set_option linter.unusedSimpArgs false
namespace Go.Proofs.YtdjhfeaimmpmhaaGreat
open Go.RowKit

/-- the binary search -/
def bsF (xs : List (List Nat)) (t : List Nat) : Nat → Nat → Nat → Nat
  | 0, i, _ => i
  | f + 1, i, j => bif Nat.blt i j then (bif befN (xs.getD ((i + j) / 2) []) t then bsF xs t f ((i + j) / 2 + 1) j else bsF xs t f i ((i + j) / 2)) else i
/-- one more than the place that the binary search finds, or 0 -/
def idxN (xs : List (List Nat)) (t : List Nat) : Nat := bif Nat.blt (bsF xs t xs.length 0 xs.length) xs.length && eqN (xs.getD (bsF xs t xs.length 0 xs.length) []) t then bsF xs t xs.length 0 xs.length + 1 else 0
/-- one more than the first place of a tree in a list, or 0 -/
def fndF (t : List Nat) : Nat → List (List Nat) → Nat
  | _, [] => 0
  | i, x :: xs => bif eqN x t then i + 1 else fndF t (i + 1) xs
def fndN (xs : List (List Nat)) (t : List Nat) : Nat := fndF t 0 xs

theorem bsF_end {xs : List (List Nat)} {t : List Nat} : ∀ {f i j : Nat}, ¬ i < j → bsF xs t f i j = i
  | 0, i, j, _ => rfl
  | f + 1, i, j, h => by
    have : Nat.blt i j = false := by
      cases hh : Nat.blt i j with
      | true => exact absurd ((blt_iff _ _).1 hh) h
      | false => rfl
    rw [bsF, this]; rfl
theorem bsF_step {xs : List (List Nat)} {t : List Nat} {f i j : Nat} (h : i < j) (hf : j - i ≤ f) : ∃ g, f = g + 1 ∧ bsF xs t f i j = bif befN (xs.getD ((i + j) / 2) []) t then bsF xs t g ((i + j) / 2 + 1) j else bsF xs t g i ((i + j) / 2) := by
  obtain ⟨g, rfl⟩ : ∃ g, f = g + 1 := ⟨f - 1, by omega⟩
  exact ⟨g, rfl, by rw [bsF, (blt_iff _ _).2 h]; rfl⟩
theorem ret_i64 {a b : Int} (h : a = b) : Ending.returned (.int .i64 a) = Ending.returned (.int .i64 b) := by rw [h]
theorem cmpL_zero : ∀ a b : List Int, cmpL a b = 0 ↔ a = b
  | [], [] => by simp [cmpL]
  | [], _ :: _ => by simp [cmpL]
  | _ :: _, [] => by simp [cmpL]
  | x :: xs, y :: ys => by
    rw [cmpL]
    by_cases h1 : x < y
    · rw [if_pos h1]; constructor
      · intro h; omega
      · intro h; injection h with h _; omega
    · rw [if_neg h1]
      by_cases h2 : y < x
      · rw [if_pos h2]; constructor
        · intro h; omega
        · intro h; injection h with h _; omega
      · rw [if_neg h2, cmpL_zero xs ys, show x = y by omega]
        simp
theorem cmpT_zero (a b : List Nat) : (cmpT (up a) (up b) == 0) = eqN a b := by
  have h : cmpT (up a) (up b) = 0 ↔ a = b := by
    unfold cmpT
    rw [up_len, up_len]
    by_cases hl : a.length = b.length
    · rw [if_pos hl, cmpL_zero]
      exact ⟨fun h => (up_inj h).symm, fun h => by rw [h]⟩
    · rw [if_neg hl]
      exact ⟨fun h => absurd (by omega) hl, fun h => absurd (by rw [h]) hl⟩
  by_cases e : a = b
  · rw [eqN_iff.2 e, h.2 e]; rfl
  · have h1 : eqN a b = false := by
      cases hh : eqN a b with
      | true => exact absurd (eqN_iff.1 hh) e
      | false => rfl
    rw [h1]
    have : cmpT (up a) (up b) ≠ 0 := fun hz => e (h.1 hz)
    simpa using this

set_option maxHeartbeats 4000000 in
theorem lib_Search (w : World) (v tv : Value) (xs : List (List Nat)) (t : List Nat) (ha : Rows w v (xs.map up)) (ht : Ints w tv (up t)) (hn : xs.length ≤ 1000) :
    Calls Tryz.prog 117 #[v, tv, .func (.func 118) #[] #[]] w fun e w' => e = .returned (.tuple #[.int .i64 (bsF xs t xs.length 0 xs.length), .bool (Nat.blt (bsF xs t xs.length 0 xs.length) xs.length && eqN (xs.getD (bsF xs t xs.length 0 xs.length) []) t)]) ∧ w = w' := by
  obtain ⟨A, c, rfl, l1, l2, h3⟩ := ha.open_
  rw [List.length_map] at l1 h3 ⊢
  have HT := Lib.hid ht
  have H3 := Lib.hid (show ∀ k, k < xs.length → ∃ ad q A5 c5, A = some ad ∧ xs[k]? = some q ∧ Ints w (.slice A5 q.length c5) (up q) ∧ w.cell? (ad.add k) = some (.slice A5 q.length c5) from fun k hk => by
    obtain ⟨ad, u, zs, h1, h2, h4, h5⟩ := h3 k hk
    have hq : xs[k]? = some (xs[k]'hk) := List.getElem?_eq_getElem _
    rw [List.getElem?_map, hq] at h2
    injection h2 with h2
    subst h2
    obtain ⟨A5, c5, he5, -, -, -⟩ := h4.open_
    rw [up_len] at he5
    subst he5
    exact ⟨ad, _, A5, c5, h1, hq, h4, h5⟩)
  obtain ⟨At, ct, rfl, -, -, -⟩ := ht.open_
  rw [up_len] at HT ⊢
  obtain ⟨R, hR⟩ : ∃ R, R = bsF xs t xs.length 0 xs.length := ⟨_, rfl⟩
  rw [← hR]
  obtain ⟨BB, hBB⟩ : ∃ BB, BB = (Nat.blt R xs.length && eqN (xs.getD R []) t) := ⟨_, rfl⟩
  rw [← hBB]
  have HR := Lib.hid hR
  have HBB := Lib.hid hBB
  clear ha ht h3 hR hBB
  go_enter Tryz.func117, Tryz.ntmps117
  go_wp2_with fail
  go_loopw [9, 10] (fun x y wr => ∃ i j f : Nat, i ≤ j ∧ j ≤ xs.length ∧ x = .int .i64 i ∧ y = .int .i64 j ∧ j - i ≤ f ∧ Hid (bsF xs t f i j = R) ∧ w = wr) (fun x y _ => (intOf y).toNat - (intOf x).toNat)
  case atStart => exact ⟨0, xs.length, xs.length, Nat.zero_le _, Nat.le_refl _, rfl, rfl, by omega, HR.out.symm, rfl⟩
  case round =>
    obtain ⟨i, j, f, hij, hj, rfl, rfl, hf, HB, rfl⟩ := hrel
    by_cases hlt : i < j
    · obtain ⟨g, hfg, hbs⟩ := bsF_step (xs := xs) (t := t) hlt hf
      rw [HB.out] at hbs
      obtain ⟨ad, q, A5, c5, rfl, hq, hq2, hc⟩ := H3.out ((i + j) / 2) (by omega)
      have hgd : xs.getD ((i + j) / 2) [] = q := by simp [List.getD, hq]
      rw [hgd] at hbs
      have hcm := cmpT_up q t
      have hct := i_compareTrees w _ _ _ _ hq2 HT.out
      generalize cmpT (up q) (up t) = z at hcm hct
      have HCT := Lib.hid hct
      have hii : (i : Int) < (j : Int) := by omega
      have hw1 : IntKind.i64.wrap ((i : Int) + (j : Int)) = (i : Int) + (j : Int) := IntWalk.i64_in _ (by omega)
      have hw2 : IntKind.u64.wrap ((i : Int) + (j : Int)) = (i : Int) + (j : Int) := IntWalk.u64_in _ (by omega)
      clear hq hq2 hgd hct
      cases hb : befN q t with
      | true =>
        rw [hb] at hbs hcm
        have HBS := Lib.hid hbs
        have hz : z < 0 := by simpa using hcm
        have hw3 : IntKind.i64.wrap (((i : Int) + (j : Int)) / 2 + 1) = ((i : Int) + (j : Int)) / 2 + 1 := IntWalk.i64_in _ (by omega)
        clear hbs hb hcm
        go_wp2_with (go_at_call 118; refine HCT.out.mono ?_; rintro e w1 ⟨rfl, rfl⟩)
        go_roundw
        case rel =>
          clear hw1 hw2 hw3
          exact ⟨(i + j) / 2 + 1, j, g, by omega, hj, by congr 1 <;> omega, rfl, by omega, HBS.out.symm, by first | rfl | trivial⟩
        case measure => clear hw1 hw2 hw3; simp [intOf]; omega
      | false =>
        rw [hb] at hbs hcm
        have HBS := Lib.hid hbs
        have hz : ¬ (z < 0) := by simpa using hcm
        clear hbs hb hcm
        go_wp2_with (go_at_call 118; refine HCT.out.mono ?_; rintro e w1 ⟨rfl, rfl⟩)
        go_roundw
        case rel =>
          clear hw1 hw2
          exact ⟨i, (i + j) / 2, g, by omega, by omega, rfl, by congr 1 <;> omega, by omega, HBS.out.symm, by first | rfl | trivial⟩
        case measure => clear hw1 hw2; simp [intOf]; omega
    · have hiR : i = R := by rw [← HB.out, bsF_end hlt]
      have hii : ¬ ((i : Int) < (j : Int)) := by omega
      subst hiR
      by_cases hl : i < xs.length
      · obtain ⟨ad, q, A5, c5, rfl, hq, hq2, hc⟩ := H3.out i hl
        have hgd : xs.getD i [] = q := by simp [List.getD, hq]
        have hcm := cmpT_zero q t
        have hct := i_compareTrees w _ _ _ _ hq2 HT.out
        generalize cmpT (up q) (up t) = z at hcm hct
        have HCT := Lib.hid hct
        have HE := Lib.hid (show BB = (z == 0) from by rw [HBB.out, (blt_iff _ _).2 hl, hgd, hcm]; rfl)
        have hli : (i : Int) < (xs.length : Int) := by omega
        clear hq hq2 hgd hct hcm
        go_wp2_with (go_at_call 118; refine HCT.out.mono ?_; rintro e w1 ⟨rfl, rfl⟩)
        go_ret2
        obtain rfl := HE.out
        exact ⟨rfl, rfl⟩
      · have HE := Lib.hid (show BB = false from by
          have : Nat.blt i xs.length = false := by
            cases hh : Nat.blt i xs.length with
            | true => exact absurd ((blt_iff _ _).1 hh) hl
            | false => rfl
          rw [HBB.out, this]; rfl)
        have hli : ¬ ((i : Int) < (xs.length : Int)) := by omega
        go_wp2_with fail
        go_ret2
        obtain rfl := HE.out
        exact ⟨rfl, rfl⟩

set_option maxHeartbeats 2000000 in
theorem i_indexIn (w : World) (v tv : Value) (xs : List (List Nat)) (t : List Nat) (ha : Rows w v (xs.map up)) (ht : Ints w tv (up t)) (hn : xs.length ≤ 1000) :
    Calls Tryz.prog 57 #[v, tv] w fun e w' => e = .returned (.int .i64 ((idxN xs t : Int) - 1)) ∧ w = w' := by
  have HS := Lib.hid (lib_Search w v tv xs t ha ht hn)
  have hI : idxN xs t = bif Nat.blt (bsF xs t xs.length 0 xs.length) xs.length && eqN (xs.getD (bsF xs t xs.length 0 xs.length) []) t then bsF xs t xs.length 0 xs.length + 1 else 0 := rfl
  obtain ⟨A, c, rfl, -, -, -⟩ := ha.open_
  obtain ⟨At, ct, rfl, -, -, -⟩ := ht.open_
  rw [List.length_map, up_len] at HS ⊢
  generalize (Nat.blt (bsF xs t xs.length 0 xs.length) xs.length && eqN (xs.getD (bsF xs t xs.length 0 xs.length) []) t) = b at hI HS
  generalize bsF xs t xs.length 0 xs.length = R at hI HS
  clear ha ht
  cases b with
  | true =>
    have HI := Lib.hid (show ((idxN xs t : Int) - 1) = (R : Int) from by rw [hI]; simp)
    rw [HI.out]
    clear hI
    go_enter Tryz.func57, Tryz.ntmps57
    go_wp2_with (go_at_call 117; refine HS.out.mono ?_; rintro e w1 ⟨rfl, rfl⟩)
    go_ret
    exact ⟨rfl, rfl⟩
  | false =>
    have HI := Lib.hid (show ((idxN xs t : Int) - 1) = -1 from by rw [hI]; simp)
    rw [HI.out]
    clear hI
    go_enter Tryz.func57, Tryz.ntmps57
    go_wp2_with (go_at_call 117; refine HS.out.mono ?_; rintro e w1 ⟨rfl, rfl⟩)
    go_ret
    exact ⟨rfl, rfl⟩

end Go.Proofs.YtdjhfeaimmpmhaaGreat

