/- Owned lists whose elements are k cells each (arrays, structs). No program in sight. | Words of memory for lists of neighbours: rows of numbers, each in a block of its own, that grow one by one. | Walk: nearOf of the program. | Plain: a tree made from its neighbours is the canonical list of the list that is made without sorting. | Walks: rooted, slices.MinFunc, freeForm of the program. -/
import Derived.Test.YtdjhfeaimmpmhaaGreatZm2
import Derived.Laws.MakeOwn
import Derived.Test.YtdjhfeaimmpmhaaGreatZm7
set_option maxRecDepth 100000
set_option linter.unusedVariables false
set_option linter.unusedSimpArgs false
namespace Go.Proofs.YtdjhfeaimmpmhaaGreat
open Go.RowKit

/-- the block of a slice has elements of type e -/
def BT (w : World) (e : TypeId) (v : Value) : Prop := v.ownBlock = none ∨ ∃ g cur fz, v.ownBlock = some g ∧ w.heap[g]? = some (.cells cur e fz)
theorem BT.ne {w : World} {e e' : TypeId} {v v' : Value} (h : BT w e v) (h' : BT w e' v') (hne : e ≠ e') : Apart v v' := by
  rcases h with h | ⟨g, cur, fz, h, hg⟩
  · exact .inl h
  · rcases h' with h' | ⟨g', cur', fz', h', hg'⟩
    · exact .inr (by rw [h, h']; simp)
    · refine .inr ?_
      rw [h, h']
      intro he
      injection he with he
      subst he
      rw [hg] at hg'
      injection hg' with hg'
      injection hg' with _ ht
      exact hne ht
theorem ownsRow_bt {w : World} {B e k n : Nat} {v : Value} {xs : List Value} (h : w.ownsRow B e k v n xs) : BT w e v := by
  rcases h.2 with ⟨rfl, _⟩ | ⟨g, cap, cur, rfl, _, hg, _⟩
  · exact .inl rfl
  · exact .inr ⟨g, cur, _, rfl, hg⟩
theorem Own.bt {w : World} {B : Nat} {e : TypeId} {v : Value} {vs : List Value} (h : Own w B e v vs) : BT w e v := ownsRow_bt h

/-- the call owns from block B on the slice v of elements of type e, k cells each -/
def OwnK (w : World) (B : Nat) (e : TypeId) (k : Nat) (v : Value) (css : List (List Value)) : Prop :=
  w.ownsRow B e k v css.length css.flatten ∧ ∀ c ∈ css, c.length = k

theorem flat_get {k : Nat} : ∀ {css : List (List Value)} {i j : Nat} {c : List Value} {u : Value}, (∀ c ∈ css, c.length = k) → css[i]? = some c → c[j]? = some u → css.flatten[i * k + j]? = some u
  | [], i, j, c, u, _, h, _ => by simp at h
  | d :: css, 0, j, c, u, hk, h, hu => by
    simp at h; subst h
    have := (List.getElem?_eq_some_iff.1 hu).1
    simp only [List.flatten_cons, Nat.zero_mul, Nat.zero_add]
    rw [List.getElem?_append_left this]
    exact hu
  | d :: css, i + 1, j, c, u, hk, h, hu => by
    have hd := hk d (by simp)
    rw [List.flatten_cons, List.getElem?_append_right (by rw [hd, Nat.add_mul]; omega), hd]
    have e : (i + 1) * k + j - k = i * k + j := by rw [Nat.add_mul]; omega
    rw [e]
    exact flat_get (fun c hc => hk c (by simp [hc])) (by simpa using h) hu
theorem flat_len {k : Nat} : ∀ {css : List (List Value)}, (∀ c ∈ css, c.length = k) → css.flatten.length = css.length * k
  | [], _ => by simp
  | d :: css, hk => by rw [List.flatten_cons, List.length_append, hk d (by simp), flat_len fun c hc => hk c (by simp [hc]), List.length_cons, Nat.add_mul]; omega
theorem flat_set {k : Nat} : ∀ {css : List (List Value)} {i j : Nat} {c : List Value} {u : Value}, (∀ c ∈ css, c.length = k) → css[i]? = some c → j < k → css.flatten.set (i * k + j) u = (css.set i (c.set j u)).flatten
  | [], i, j, c, u, _, h, _ => by simp at h
  | d :: css, 0, j, c, u, hk, h, hj => by
    simp at h; subst h
    have hd := hk d (by simp)
    rw [List.flatten_cons, Nat.zero_mul, Nat.zero_add, List.set_append, if_pos (by omega), List.set_cons_zero, List.flatten_cons]
  | d :: css, i + 1, j, c, u, hk, h, hj => by
    have hd := hk d (by simp)
    rw [List.flatten_cons, List.set_append, if_neg (by rw [hd, Nat.add_mul]; omega), hd]
    have e : (i + 1) * k + j - k = i * k + j := by rw [Nat.add_mul]; omega
    rw [e, flat_set (fun c hc => hk c (by simp [hc])) (by simpa using h) hj, List.set_cons_succ, List.flatten_cons]

section
variable {w w' : World} {B k : Nat} {e : TypeId} {v : Value} {css : List (List Value)}
theorem OwnK.cases (h : OwnK w B e k v css) : (v = .slice none 0 0 ∧ css = []) ∨
    ∃ g cap cur, v = .slice (some ⟨g, 0, none⟩) css.length cap ∧ B ≤ g ∧ g < w.heap.size ∧ w.heap[g]? = some (.cells cur e (0, 0)) ∧ css.length ≤ cap ∧ cap ≤ maxLen := by
  rcases h.1.2 with ⟨h1, h2⟩ | ⟨g, cap, cur, h1, h2, h3, h4, h5, h6, h7⟩
  · exact .inl ⟨h1, List.eq_nil_of_length_eq_zero h2⟩
  · exact .inr ⟨g, cap, cur, h1, h2, (Array.getElem?_eq_some_iff.1 h3).1, h3, h4, h5⟩
theorem OwnK.open_ (h : OwnK w B e k v css) : ∃ A c, v = .slice A css.length c ∧ css.length ≤ c ∧ c ≤ 9223372036854775807 := by
  rcases h.cases with ⟨rfl, rfl⟩ | ⟨g, cap, cur, rfl, -, -, -, h4, h5⟩
  · exact ⟨none, 0, rfl, Nat.le_refl _, by omega⟩
  · exact ⟨_, cap, rfl, h4, by simpa [maxLen] using h5⟩
theorem OwnK.nil (w : World) (B : Nat) (e : TypeId) (k : Nat) : OwnK w B e k (.slice none 0 0) [] := ⟨World.ownsRow_nil w B e k, fun c hc => by simp at hc⟩
theorem OwnK.of_block (h : OwnK w B e k v css) (hb : ∀ b, v.ownBlock = some b → w'.heap[b]? = w.heap[b]?) : OwnK w' B e k v css := by
  refine ⟨⟨h.1.1, ?_⟩, h.2⟩
  rcases h.1.2 with hn | ⟨g, cap, cur, rfl, hB, hgg, rest⟩
  · exact .inl hn
  · exact .inr ⟨g, cap, cur, rfl, hB, by rw [hb g rfl]; exact hgg, rest⟩
theorem OwnK.lt (h : OwnK w B e k v css) : ∀ b, v.ownBlock = some b → b < w.heap.size := fun b hb => (World.ownsRow.lt h.1 b hb).2
theorem OwnK.ge (h : OwnK w B e k v css) : ∀ b, v.ownBlock = some b → B ≤ b := fun b hb => (World.ownsRow.lt h.1 b hb).1
theorem OwnK.below (h : OwnK w B e k v css) (hb : Below w.heap.size w w') : OwnK w' B e k v css := h.of_block fun b hv => hb.block b (h.lt b hv)
theorem OwnK.kept (h : OwnK w B e k v css) {row : Option Nat} (hg : w.grownBy w' row) (hne : v.ownBlock = none ∨ v.ownBlock ≠ row) : OwnK w' B e k v css := ⟨World.ownsRow.kept h.1 hg hne, h.2⟩
theorem OwnK.mono {B' : Nat} (h : OwnK w B e k v css) (hB : B' ≤ B) : OwnK w B' e k v css := by
  refine ⟨⟨h.1.1, ?_⟩, h.2⟩
  rcases h.1.2 with hn | ⟨g, cap, cur, rfl, hB', rest⟩
  · exact .inl hn
  · exact .inr ⟨g, cap, cur, rfl, by omega, rest⟩
theorem OwnK.drewN (h : OwnK w B e k v css) (n : Nat) : OwnK (w.drewN n) B e k v css := h
theorem OwnK.bt (h : OwnK w B e k v css) : BT w e v := ownsRow_bt h.1
theorem addr_add (g n : Nat) : (⟨g, 0, none⟩ : Addr).add n = ⟨g, n, none⟩ := by by_cases h0 : n = 0 <;> simp [Addr.add, h0]
/-- cell j of element i -/
theorem OwnK.cell {i j : Nat} {c : List Value} {u : Value} (h : OwnK w B e k v css) (hc : css[i]? = some c) (hu : c[j]? = some u) : ∃ g cap, v = .slice (some ⟨g, 0, none⟩) css.length cap ∧ w.cell? ⟨g, i * k + j, none⟩ = some u := by
  rcases h.cases with ⟨_, rfl⟩ | ⟨g, cap, cur, rfl, h1, h2, h3, h4, h5⟩
  · simp at hc
  · refine ⟨g, cap, rfl, ?_⟩
    have := World.ownsRow.cells h.1 (g := g) rfl (i * k + j) u (flat_get h.2 hc hu)
    rwa [addr_add] at this
theorem OwnK.cellAt {g n cap i j : Nat} {c : List Value} {u : Value} (h : OwnK w B e k (.slice (some ⟨g, 0, none⟩) n cap) css) (hc : css[i]? = some c) (hu : c[j]? = some u) : w.cell? ⟨g, i * k + j, none⟩ = some u := by
  obtain ⟨g', cap', hv, h1⟩ := h.cell hc hu
  simp only [Value.slice.injEq, Option.some.injEq, Addr.mk.injEq, and_true, true_and] at hv
  rw [hv.1]; exact h1
/-- a store into cell j of element i -/
theorem OwnK.storeAt {g n cap i j : Nat} {c : List Value} (h : OwnK w B e k (.slice (some ⟨g, 0, none⟩) n cap) css) (hc : css[i]? = some c) (hj : j < k) (u : Value) :
    (∃ u0, w.cell? ⟨g, i * k + j, none⟩ = some u0) ∧ w.frozen? ⟨g, i * k + j, none⟩ = false ∧ B ≤ g ∧ OwnK (w.setCell ⟨g, i * k + j, none⟩ u) B e k (.slice (some ⟨g, 0, none⟩) n cap) (css.set i (c.set j u)) ∧ w.grownBy (w.setCell ⟨g, i * k + j, none⟩ u) (some g) := by
  have hck := h.2 c (List.mem_of_getElem? hc)
  have hu0 : c[j]? = some (c[j]'(by omega)) := List.getElem?_eq_getElem _
  have hn : n = css.length := by
    rcases h.cases with ⟨he, _⟩ | ⟨g', cap', cur, he, _⟩
    · cases he
    · simp only [Value.slice.injEq] at he; exact he.2.1
  subst hn
  have hs := World.ownsRow.stored h.1 (i * k + j) u
  refine ⟨⟨_, h.cellAt hc hu0⟩, World.ownsRow.frozenAt h.1 _, h.ge g rfl, ⟨?_, fun d hd => ?_⟩, hs.2⟩
  · rw [List.length_set, ← flat_set h.2 hc hj]; exact hs.1
  · rcases List.mem_or_eq_of_mem_set hd with hd | hd
    · exact h.2 d hd
    · rw [hd, List.length_set]; exact hck
end

/-- what is known of a slice type t over elements of type e, k cells each -/
structure ElemK (P : Program) (t e : TypeId) (z : Value) (k bytes : Nat) : Prop where
  under : P.underlying t = some (.slice e)
  info : (P.info? e).map (fun i => (i.zero, i.size, i.bytes)) = some (some z, k, bytes)
  cells : z.cells.size = k
  pos : 0 < k
  small : bytes ≤ 64

theorem OwnK.lit (W : World) (e : TypeId) (k : Nat) (css : List (List Value)) (hk : ∀ c ∈ css, c.length = k) (hn : css.length ≤ maxLen) (cs : Array Value) (hcs : cs.toList = css.flatten) :
    OwnK (W.alloc (.cells cs e)) W.heap.size e k (.slice (some ⟨W.heap.size, 0, none⟩) css.length css.length) css := by
  refine ⟨?_, hk⟩
  have := World.ownsRow_lit (base := W.heap.size) (e := e) (size := k) W cs css.length (Nat.le_refl _) hn (by rw [← Array.length_toList, hcs, flat_len hk])
  rwa [hcs] at this

/-- append of one element of k cells, which lies anywhere -/
theorem run_app1K {P : Program} {t e : TypeId} {z : Value} {k bytes B : Nat} {v : Value} {css : List (List Value)} {W : World} {c : List Value} {ad : Addr} (ty : TypeId)
    (T : ElemK P t e z k bytes) (hown : OwnK W B e k v css) (hlen : css.length < 1099511627776) (hB : B ≤ W.heap.size) (hc : c.length = k) (hu : ∀ u ∈ c, u.oneCell' = true)
    (hcell : ∀ j u, c[j]? = some u → W.cell? (ad.add j) = some u) :
    ∃ v' w', (Builtin.append_ #[t, t] ty #[v, .slice (some ad) 1 1]).run P W = .ok v' w' ∧ OwnK w' B e k v' (css ++ [c]) ∧ Grow W w' v v' := by
  obtain ⟨i, hi, hz, h1, h2⟩ := info_parts T.info
  have hby := T.small
  obtain ⟨v', w', hrun, r1, r2, _, r3⟩ := run_append_own_at (P := P) W B t ty e i z k bytes T.under hi hz h1 h2 T.cells T.pos v css.length css.flatten hown.1 ad 1 1 c (by omega) hcell hu (by simp only [maxLen]; omega) (by have := Nat.mul_le_mul_left (css.length + 1) hby; omega) hB
  refine ⟨v', w', hrun, ⟨by simpa using r1, fun d hd => ?_⟩, r2, ?_⟩
  · rcases List.mem_append.1 hd with hd | hd
    · exact hown.2 d hd
    · simp at hd; rw [hd]; exact hc
  · rcases r3 with r3 | r3
    · exact .inl r3
    · exact .inr ⟨_, r3, Nat.le_refl _⟩

theorem wpList_app1K {P : Program} {ops : Array Oper} {rest : List Oper} {o : Oper} {a : Act} {Q : Exit → Act → World → Prop} {s x : Operand} {t : TypeId}
    {e : TypeId} {z : Value} {k bytes : Nat} {B : Nat} {v : Value} {css : List (List Value)} {W : World} {c : List Value} {ad : Addr}
    (T : ElemK P t e z k bytes) (hown : OwnK W B e k v css) (hlen : css.length < 1099511627776) (hB : B ≤ W.heap.size) (hc : c.length = k) (hu : ∀ u ∈ c, u.oneCell' = true)
    (hcell : ∀ j u, c[j]? = some u → W.cell? (ad.add j) = some u)
    (hgd : o.guard = none) (ho : o.op = .call { callee := .builtin .append, args := #[s, x], argTypes := #[t, t] }) (hs : a.eval s = v)
    (hx : a.eval x = .slice (some ad) 1 1)
    (h : ∀ v' w', OwnK w' B e k v' (css ++ [c]) → Grow W w' v v' → wpList P ops Q rest (a.put o.dst v') w') : wpList P ops Q (o :: rest) a W := by
  obtain ⟨v', w', hrun, r1, r2⟩ := run_app1K o.type T hown hlen hB hc hu hcell
  refine wpList_plain hgd fun K hK => ?_
  unfold Oper.wp execOp
  simp only [ho, resolve, invoke, builtin, Sem.run_bind, Sem.run_pure, Result.andThen_ok, List.map_toArray, List.map_cons, List.map_nil, hs, hx, hrun]
  exact hK _ _ (h v' w' r1 r2)

/-- the same, met in a region that draws -/
theorem step_app1K {P : Program} {ops : Array Oper} {o : Oper} {a : Act} {K : Act → World → Prop} {Q : Exit → Act → World → Prop} {E : Prop} {s x : Operand} {t : TypeId}
    {e : TypeId} {z : Value} {k bytes : Nat} {B : Nat} {v : Value} {css : List (List Value)} {W : World} {c : List Value} {ad : Addr}
    (T : ElemK P t e z k bytes) (hown : OwnK W B e k v css) (hlen : css.length < 1099511627776) (hB : B ≤ W.heap.size) (hc : c.length = k) (hu : ∀ u ∈ c, u.oneCell' = true)
    (hcell : ∀ j u, c[j]? = some u → W.cell? (ad.add j) = some u)
    (hgd : o.guard = none) (ho : o.op = .call { callee := .builtin .append, args := #[s, x], argTypes := #[t, t] }) (hs : a.eval s = v)
    (hx : a.eval x = .slice (some ad) 1 1)
    (h : ∀ v' w', OwnK w' B e k v' (css ++ [c]) → Grow W w' v v' → K (a.put o.dst v') w') :
    if Region.wanted o (yielded ops a.tmps) = true then Oper.wp P o a W K Q else E := by
  have hw : Region.wanted o (yielded ops a.tmps) = true := by simp [Region.wanted, hgd]
  rw [if_pos hw]
  obtain ⟨v', w', hrun, r1, r2⟩ := run_app1K o.type T hown hlen hB hc hu hcell
  unfold Oper.wp execOp
  simp only [ho, resolve, invoke, builtin, Sem.run_bind, Sem.run_pure, Result.andThen_ok, List.map_toArray, List.map_cons, List.map_nil, hs, hx, hrun]
  exact h v' w' r1 r2

/-- the cells of a literal of one element of k cells, just laid -/
theorem lit_cells (W : World) (e : TypeId) (c : List Value) (cs : Array Value) (hcs : cs.toList = c) : ∀ j u, c[j]? = some u → (W.alloc (.cells cs e)).cell? ((⟨W.heap.size, 0, none⟩ : Addr).add j) = some u := by
  intro j u hu
  rw [addr_add, (Blk.new W cs e).cell, ← Array.getElem?_toList, hcs]
  exact hu
end Go.Proofs.YtdjhfeaimmpmhaaGreat

set_option maxRecDepth 100000
set_option linter.unusedVariables false
set_option linter.unusedSimpArgs false
namespace Go.Proofs.YtdjhfeaimmpmhaaGreat
open Go.RowKit

abbrev tNL : TypeId := 119
theorem addAt_set {x : Nat} : ∀ {bs : List (List Nat)} {i : Nat} {b : List Nat}, bs[i]? = some b → addAt x i bs = bs.set i (b ++ [x])
  | [], i, b, h => by simp at h
  | c :: bs, 0, b, h => by simp at h; subst h; rfl
  | c :: bs, i + 1, b, h => by rw [addAt, addAt_set (bs := bs) (by simpa using h)]; rfl
theorem addAt_len (x : Nat) : ∀ (i : Nat) (bs : List (List Nat)), (addAt x i bs).length = bs.length
  | _, [] => by cases ‹Nat› <;> rfl
  | 0, b :: bs => rfl
  | i + 1, b :: bs => by rw [addAt, List.length_cons, addAt_len x i bs, List.length_cons]
theorem mem_addAt {x : Nat} {ns : List Nat} : ∀ {i : Nat} {bs : List (List Nat)}, ns ∈ addAt x i bs → ns ∈ bs ∨ ∃ b ∈ bs, ns = b ++ [x]
  | _, [], h => by cases ‹Nat› <;> simp [addAt] at h
  | 0, b :: bs, h => by
    rw [addAt] at h
    rcases List.mem_cons.1 h with h | h
    · exact .inr ⟨b, by simp, h⟩
    · exact .inl (by simp [h])
  | i + 1, b :: bs, h => by
    rw [addAt] at h
    rcases List.mem_cons.1 h with h | h
    · exact .inl (by simp [h])
    · rcases mem_addAt h with h | ⟨c, hc, h⟩
      · exact .inl (by simp [h])
      · exact .inr ⟨c, by simp [hc], h⟩

/-- lists of numbers of one's own, no two of them in one block -/
structure Fam (w : World) (B : Nat) (e : TypeId) (us : List Value) (xss : List (List Int)) : Prop where
  len : us.length = xss.length
  row : ∀ (k : Nat) (u : Value) (zs : List Int), us[k]? = some u → xss[k]? = some zs → OwnInts w B e u zs
  apart : ∀ (i j : Nat) (u u' : Value), i ≠ j → us[i]? = some u → us[j]? = some u' → Apart u u'
section
variable {w w' w1 : World} {B k : Nat} {e e' : TypeId} {us : List Value} {xss : List (List Int)} {u u1 : Value} {zs zs1 : List Int}
theorem Fam.nil (w : World) (B : Nat) (e : TypeId) : Fam w B e [] [] := ⟨rfl, fun k u zs h => by simp at h, fun i j u u' _ h => by simp at h⟩
theorem Fam.below (h : Fam w B e us xss) (hb : Below w.heap.size w w') : Fam w' B e us xss := ⟨h.len, fun k u zs hu hz => (h.row k u zs hu hz).below hb, h.apart⟩
theorem Fam.mono {B' : Nat} (h : Fam w B e us xss) (hB : B' ≤ B) : Fam w B' e us xss := ⟨h.len, fun k u zs hu hz => (h.row k u zs hu hz).mono hB, h.apart⟩
/-- a block whose elements have another type has turned -/
theorem Fam.other {v : Value} {B' : Nat} {cs : List Value} (h : Fam w B e us xss) (hg : w.grownBy w' v.ownBlock) (ho : Own w B' e' v cs) (hne : e ≠ e') : Fam w' B e us xss :=
  ⟨h.len, fun k u zs hu hz => (h.row k u zs hu hz).kept hg ((h.row k u zs hu hz).1.ne_of_type ho hne), h.apart⟩
/-- one of the lists has turned or grown -/
theorem Fam.step (h : Fam w B e us xss) (hu : us[k]? = some u) (ho : OwnInts w1 B e u1 zs1) (hgr : Grow w w1 u u1) : Fam w1 B e (us.set k u1) (xss.set k zs1) := by
  have hk : k < us.length := (List.getElem?_eq_some_iff.1 hu).1
  have hap : ∀ (j : Nat) (u' : Value), k ≠ j → us[j]? = some u' → Apart u' u1 := by
    intro j u' hkj hj
    have h1 := h.apart j k u' u (Ne.symm hkj) hj hu
    have hz' : xss[j]? = some (xss[j]'(by rw [← h.len]; exact (List.getElem?_eq_some_iff.1 hj).1)) := List.getElem?_eq_getElem _
    have h2 := (h.row j u' _ hj hz').1.lt
    rcases hgr.2 with h3 | ⟨b, h3, h4⟩
    · rcases h1 with h1 | h1
      · exact .inl h1
      · exact .inr (by rw [h3]; exact h1)
    · cases hb : u'.ownBlock with
      | none => exact .inl hb
      | some b' => exact .inr (by rw [h3]; intro e; rw [hb] at e; injection e with e; have := h2 b' hb; omega)
  refine ⟨by simp [h.len], fun j u' ns' hj hj' => ?_, fun i j a b hij ha hb => ?_⟩
  · rw [List.getElem?_set] at hj hj'
    by_cases hkj : k = j
    · subst hkj
      rw [if_pos rfl, if_pos hk] at hj
      rw [if_pos rfl, if_pos (by rw [← h.len]; exact hk)] at hj'
      injection hj with hj; injection hj' with hj'
      subst hj; subst hj'
      exact ho
    · rw [if_neg hkj] at hj hj'
      exact (h.row j u' ns' hj hj').kept hgr.1 (h.apart j k u' u (Ne.symm hkj) hj hu)
  · rw [List.getElem?_set] at ha hb
    by_cases hki : k = i
    · subst hki
      rw [if_pos rfl, if_pos hk] at ha
      rw [if_neg hij] at hb
      injection ha with ha
      subst ha
      exact (hap j b hij hb).symm
    · rw [if_neg hki] at ha
      by_cases hkj : k = j
      · subst hkj
        rw [if_pos rfl, if_pos hk] at hb
        injection hb with hb
        subst hb
        exact hap i a hki ha
      · rw [if_neg hkj] at hb
        exact h.apart i j a b hij ha hb
/-- one list more, apart from all -/
theorem Fam.snoc (h : Fam w B e us xss) (ho : OwnInts w B e u zs) (hap : ∀ (j : Nat) (u' : Value), us[j]? = some u' → Apart u' u) : Fam w B e (us ++ [u]) (xss ++ [zs]) := by
  refine ⟨by simp [h.len], fun j u' ns' hj hj' => ?_, fun i j a b hij ha hb => ?_⟩
  · by_cases hlt : j < us.length
    · rw [List.getElem?_append_left hlt] at hj
      rw [List.getElem?_append_left (by rw [← h.len]; exact hlt)] at hj'
      exact h.row j u' ns' hj hj'
    · have hjl := (List.getElem?_eq_some_iff.1 hj).1
      simp at hjl
      have : j = us.length := by omega
      subst this
      rw [List.getElem?_append_right (Nat.le_refl _)] at hj
      rw [List.getElem?_append_right (by rw [h.len]; exact Nat.le_refl _), h.len] at hj'
      simp at hj hj'
      subst hj; subst hj'
      exact ho
  · have hx : ∀ (m : Nat) (c : Value), (us ++ [u])[m]? = some c → (m < us.length ∧ us[m]? = some c) ∨ (m = us.length ∧ c = u) := by
      intro m c hm
      by_cases hlt : m < us.length
      · rw [List.getElem?_append_left hlt] at hm; exact .inl ⟨hlt, hm⟩
      · have hml := (List.getElem?_eq_some_iff.1 hm).1
        simp at hml
        have : m = us.length := by omega
        subst this
        rw [List.getElem?_append_right (Nat.le_refl _)] at hm
        simp at hm
        exact .inr ⟨rfl, hm.symm⟩
    rcases hx i a ha with ⟨h1, h2⟩ | ⟨h1, h2⟩ <;> rcases hx j b hb with ⟨h3, h4⟩ | ⟨h3, h4⟩
    · exact h.apart i j a b hij h2 h4
    · subst h4; exact hap i a h2
    · subst h2; exact (hap j b h4).symm
    · omega
/-- a list that has just been made is apart from all -/
theorem Fam.fresh (h : Fam w B e us xss) (hge : ∀ b, u.ownBlock = some b → w.heap.size ≤ b) : ∀ (j : Nat) (u' : Value), us[j]? = some u' → Apart u' u := by
  intro j u' hj
  have hz' : xss[j]? = some (xss[j]'(by rw [← h.len]; exact (List.getElem?_eq_some_iff.1 hj).1)) := List.getElem?_eq_getElem _
  exact apart_of_lt (h.row j u' _ hj hz').1.lt hge
theorem Fam.nils (w : World) (B : Nat) (e : TypeId) (n : Nat) : Fam w B e (List.replicate n (.slice none 0 0)) (List.replicate n []) := by
  refine ⟨by simp, fun k u zs hu hz => ?_, fun i j u u' _ hu _ => ?_⟩
  · rw [List.getElem?_replicate] at hu hz
    split at hu
    · rw [if_pos (by assumption)] at hz
      injection hu with hu; injection hz with hz
      subst hu; subst hz
      exact OwnInts.nil _ _ _
    · cases hu
  · rw [List.getElem?_replicate] at hu
    split at hu
    · injection hu with hu; subst hu; exact .inl rfl
    · cases hu
end

/-- rows of neighbours: n rows, row k at vs k, in the block g; and other lists es, apart from all rows -/
structure NW (w : World) (B g n : Nat) (vs : List Value) (nss : List (List Nat)) (es : List Value) (ess : List (List Int)) : Prop where
  own : Own w B tNL (.slice (some ⟨g, 0, none⟩) n n) vs
  len : vs.length = n
  len' : nss.length = n
  fam : Fam w B tN (vs ++ es) (nss.map up ++ ess)

section
variable {w w' w1 : World} {B g n k x : Nat} {vs es : List Value} {nss : List (List Nat)} {ess : List (List Int)} {u u1 : Value} {ns : List Nat} {zs zs1 : List Int}
theorem NW.below (h : NW w B g n vs nss es ess) (hb : Below w.heap.size w w') : NW w' B g n vs nss es ess := ⟨h.own.below hb, h.len, h.len', h.fam.below hb⟩
theorem NW.drewN (h : NW w B g n vs nss es ess) (m : Nat) : NW (w.drewN m) B g n vs nss es ess := h.below (below_drewN (Below.refl _ _) m)
theorem NW.mono {B' : Nat} (h : NW w B g n vs nss es ess) (hB : B' ≤ B) : NW w B' g n vs nss es ess := ⟨h.own.mono hB, h.len, h.len', h.fam.mono hB⟩
theorem NW.made (h : Own w B tNL (.slice (some ⟨g, 0, none⟩) n n) (List.replicate n (.slice none 0 0))) : NW w B g n (List.replicate n (.slice none 0 0)) (List.replicate n []) [] [] := by
  refine ⟨h, by simp, by simp, ?_⟩
  have := Fam.nils w B tN n
  simpa [List.map_replicate, up] using this
theorem NW.rows (h : NW w B g n vs nss es ess) : Rows w (.slice (some ⟨g, 0, none⟩) n n) (nss.map up) := by
  refine ⟨vs, h.own.cells, by rw [List.length_map, h.len, h.len'], fun k u zs hu hz => ?_⟩
  refine (h.fam.row k u zs ?_ ?_).ints
  · rw [List.getElem?_append_left (List.getElem?_eq_some_iff.1 hu).1]; exact hu
  · rw [List.getElem?_append_left (List.getElem?_eq_some_iff.1 hz).1]; exact hz
/-- row k has grown by append: the world between, ahead of the store -/
theorem NW.grown (h : NW w B g n vs nss es ess) (hu : vs[k]? = some u) (hz : nss[k]? = some ns) (ho : Own w1 B tN u1 (ints (up ns) ++ [.int .i64 (x : Int)])) (hx : x ≤ 1000000) (hgr : Grow w w1 u u1) :
    Own w1 B tNL (.slice (some ⟨g, 0, none⟩) n n) vs ∧ Fam w1 B tN (vs.set k u1 ++ es) ((addAt x k nss).map up ++ ess) := by
  have hk : k < vs.length := (List.getElem?_eq_some_iff.1 hu).1
  have hkn : k < nss.length := (List.getElem?_eq_some_iff.1 hz).1
  have hr := h.fam.row k u (up ns) (by rw [List.getElem?_append_left hk]; exact hu) (by rw [List.getElem?_append_left (by rw [List.length_map]; exact hkn), List.getElem?_map, hz]; rfl)
  have how : Own w1 B tNL (.slice (some ⟨g, 0, none⟩) n n) vs := h.own.kept hgr.1 (h.own.ne_of_type hr.1 (by decide))
  have hnew : OwnInts w1 B tN u1 (up (ns ++ [x])) := by
    refine ⟨by rw [up_append]; simpa [ints, up] using ho, fun z hz => ?_⟩
    rw [up_append] at hz
    rcases List.mem_append.1 hz with hz | hz
    · exact hr.2 z hz
    · simp [up] at hz; subst hz; unfold In64; omega
  refine ⟨how, ?_⟩
  have hf := h.fam.step (k := k) (by rw [List.getElem?_append_left hk]; exact hu) hnew hgr
  rw [List.set_append, if_pos hk, List.set_append, if_pos (by rw [List.length_map]; exact hkn)] at hf
  rw [addAt_set hz, List.map_set]
  exact hf
/-- row k has grown by append: what its store wants, and what is there behind it -/
theorem NW.grow (h : NW w B g n vs nss es ess) (hu : vs[k]? = some u) (hz : nss[k]? = some ns) (ho : Own w1 B tN u1 (ints (up ns) ++ [.int .i64 (x : Int)])) (hx : x ≤ 1000000) (hgr : Grow w w1 u u1) :
    (∃ u0, w1.cell? ⟨g, k, none⟩ = some u0) ∧ w1.frozen? ⟨g, k, none⟩ = false ∧ NW (w1.setCell ⟨g, k, none⟩ u1) B g n (vs.set k u1) (addAt x k nss) es ess := by
  obtain ⟨how, hf⟩ := h.grown hu hz ho hx hgr
  obtain ⟨u0, -, hc, hfr, -, -, hown, hg2⟩ := how.storeAt (List.getElem?_eq_some_iff.1 hu).1 u1
  exact ⟨⟨u0, hc⟩, hfr, hown, by simp [h.len], by rw [addAt_len]; exact h.len', hf.other (v := .slice (some ⟨g, 0, none⟩) n n) hg2 how (by decide)⟩
theorem NW.ge (h : NW w B g n vs nss es ess) : B ≤ g := h.own.ge g rfl
/-- another list of one's own: what is known of it -/
theorem NW.other (h : NW w B g n vs nss es ess) (hu : es[k]? = some u) (hz : ess[k]? = some zs) : OwnInts w B tN u zs := by
  refine h.fam.row (n + k) u zs ?_ ?_
  · rw [List.getElem?_append_right (by rw [h.len]; omega), h.len, Nat.add_sub_cancel_left]; exact hu
  · rw [List.getElem?_append_right (by rw [List.length_map, h.len']; omega), List.length_map, h.len', Nat.add_sub_cancel_left]; exact hz
/-- another list has turned or grown -/
theorem NW.step (h : NW w B g n vs nss es ess) (hu : es[k]? = some u) (hz : ess[k]? = some zs) (ho : OwnInts w1 B tN u1 zs1) (hgr : Grow w w1 u u1) : NW w1 B g n vs nss (es.set k u1) (ess.set k zs1) := by
  have hr := h.other hu hz
  have how : Own w1 B tNL (.slice (some ⟨g, 0, none⟩) n n) vs := h.own.kept hgr.1 (h.own.ne_of_type hr.1 (by decide))
  have hf := h.fam.step (k := n + k) (u := u) (by rw [List.getElem?_append_right (by rw [h.len]; omega), h.len, Nat.add_sub_cancel_left]; exact hu) ho hgr
  rw [List.set_append, if_neg (by rw [h.len]; omega), h.len, Nat.add_sub_cancel_left, List.set_append, if_neg (by rw [List.length_map, h.len']; omega), List.length_map, h.len', Nat.add_sub_cancel_left] at hf
  exact ⟨how, h.len, h.len', hf⟩
/-- one list more, which has just been made -/
theorem NW.snoc (h : NW w B g n vs nss es ess) (hb : Below w.heap.size w w1) (ho : OwnInts w1 w.heap.size tN u zs) (hB : B ≤ w.heap.size) : NW w1 B g n vs nss (es ++ [u]) (ess ++ [zs]) := by
  have h1 := h.below hb
  refine ⟨h1.own, h.len, h.len', ?_⟩
  rw [← List.append_assoc, ← List.append_assoc]
  refine h1.fam.snoc (ho.mono hB) fun j u' hj => ?_
  exact h.fam.fresh ho.1.ge j u' hj
/-- a block of another type has turned -/
theorem NW.apart {v : Value} {B' : Nat} {e' : TypeId} {cs : List Value} (h : NW w B g n vs nss es ess) (hg : w.grownBy w' v.ownBlock) (ho : Own w B' e' v cs) (hne : tN ≠ e') (hne' : tNL ≠ e') : NW w' B g n vs nss es ess :=
  ⟨h.own.kept hg (h.own.ne_of_type ho hne'), h.len, h.len', h.fam.other hg ho hne⟩
/-- another list has grown by one number -/
theorem NW.push {zn : List Nat} (h : NW w B g n vs nss es ess) (hu : es[k]? = some u) (hz : ess[k]? = some (up zn)) (ho : Own w1 B tN u1 (ints (up zn) ++ [.int .i64 (x : Int)])) (hx : x ≤ 1000000) (hgr : Grow w w1 u u1) : NW w1 B g n vs nss (es.set k u1) (ess.set k (up (zn ++ [x]))) := by
  refine h.step hu hz ⟨by rw [up_append]; simpa [ints, up] using ho, fun z hz' => ?_⟩ hgr
  rw [up_append] at hz'
  rcases List.mem_append.1 hz' with hz' | hz'
  · exact (h.other hu hz).2 z hz'
  · simp [up] at hz'; subst hz'; unfold In64; omega
/-- a store into another list -/
theorem NW.put {g1 n1 c1 j : Nat} {zn : List Nat} (h : NW w B g n vs nss es ess) (hu : es[k]? = some (.slice (some ⟨g1, 0, none⟩) n1 c1)) (hz : ess[k]? = some (up zn)) (hj : j < zn.length) (x : Nat) (hx : x ≤ 1000000) :
    (∃ u0, w.cell? ⟨g1, j, none⟩ = some u0) ∧ w.frozen? ⟨g1, j, none⟩ = false ∧ NW (w.setCell ⟨g1, j, none⟩ (.int .i64 (x : Int))) B g n vs nss es (ess.set k (up (zn.set j x))) ∧ B ≤ g1 ∧ w.grownBy (w.setCell ⟨g1, j, none⟩ (.int .i64 (x : Int))) (some g1) := by
  have hr := h.other hu hz
  obtain ⟨u0, -, hc, hf, -, hB, hown, hg⟩ := hr.1.storeAt (k := j) (by rw [ints_len, up_len]; exact hj) (.int .i64 (x : Int))
  have ho : OwnInts (w.setCell ⟨g1, j, none⟩ (.int .i64 (x : Int))) B tN (.slice (some ⟨g1, 0, none⟩) n1 c1) (up (zn.set j x)) := by
    refine ⟨by simpa [ints, up, List.map_set] using hown, fun z hz => ?_⟩
    simp only [up, List.map_set] at hz
    rcases List.mem_or_eq_of_mem_set hz with hz | hz
    · exact hr.2 z hz
    · rw [hz]; unfold In64; omega
  have hs := h.step hu hz ho ⟨hg, .inl rfl⟩
  have e : es.set k (.slice (some ⟨g1, 0, none⟩) n1 c1) = es := by
    apply List.ext_getElem?
    intro i
    rw [List.getElem?_set]
    by_cases hki : k = i
    · subst hki; rw [if_pos rfl, if_pos (List.getElem?_eq_some_iff.1 hu).1, hu]
    · rw [if_neg hki]
  rw [e] at hs
  exact ⟨⟨u0, hc⟩, hf, hs, hB, hg⟩
/-- a number in another list -/
theorem NW.num {g1 n1 c1 j : Nat} {zn : List Nat} (h : NW w B g n vs nss es ess) (hu : es[k]? = some (.slice (some ⟨g1, 0, none⟩) n1 c1)) (hz : ess[k]? = some (up zn)) (hj : j < zn.length) : w.cell? ⟨g1, j, none⟩ = some (.int .i64 (zn.getD j 0 : Nat)) := by
  have hr := (h.other hu hz).ints
  obtain ⟨A, c, e, -, -, h3⟩ := hr.open_
  obtain ⟨ad, z, hA, hz', -, hc⟩ := h3 j (by rw [up_len]; exact hj)
  simp only [Value.slice.injEq] at e
  obtain ⟨rfl, -, -⟩ := e
  injection hA with hA
  subst hA
  obtain ⟨l, hl, hzl⟩ := up_getD hz'
  have e2 : (⟨g1, 0, none⟩ : Addr).add j = ⟨g1, j, none⟩ := by by_cases h0 : j = 0 <;> simp [Addr.add, h0]
  rw [e2] at hc
  rw [hc, hzl]
  simp [List.getD, hl]
end

/-- rows that have grown, ahead of their stores: the outer list still holds vs, the rows are us -/
structure NW2 (w : World) (B g n : Nat) (vs us : List Value) (nss : List (List Nat)) (es : List Value) (ess : List (List Int)) : Prop where
  own : Own w B tNL (.slice (some ⟨g, 0, none⟩) n n) vs
  len : vs.length = n
  lenu : us.length = n
  len' : nss.length = n
  fam : Fam w B tN (us ++ es) (nss.map up ++ ess)
section
variable {w w' w1 : World} {B g n k x : Nat} {vs us es : List Value} {nss : List (List Nat)} {ess : List (List Int)} {u u1 : Value} {ns : List Nat}
theorem NW.two (h : NW w B g n vs nss es ess) : NW2 w B g n vs vs nss es ess := ⟨h.own, h.len, h.len, h.len', h.fam⟩
theorem NW2.one (h : NW2 w B g n vs us nss es ess) (e : vs = us) : NW w B g n vs nss es ess := ⟨h.own, h.len, h.len', by rw [e]; exact h.fam⟩
theorem NW2.below (h : NW2 w B g n vs us nss es ess) (hb : Below w.heap.size w w') : NW2 w' B g n vs us nss es ess := ⟨h.own.below hb, h.len, h.lenu, h.len', h.fam.below hb⟩
theorem NW2.row (h : NW2 w B g n vs us nss es ess) (hu : us[k]? = some u) (hz : nss[k]? = some ns) : OwnInts w B tN u (up ns) := by
  have hk := (List.getElem?_eq_some_iff.1 hu).1
  have hkn := (List.getElem?_eq_some_iff.1 hz).1
  exact h.fam.row k u (up ns) (by rw [List.getElem?_append_left hk]; exact hu) (by rw [List.getElem?_append_left (by rw [List.length_map]; exact hkn), List.getElem?_map, hz]; rfl)
theorem NW2.app (h : NW2 w B g n vs us nss es ess) (hu : us[k]? = some u) (hz : nss[k]? = some ns) (ho : Own w1 B tN u1 (ints (up ns) ++ [.int .i64 (x : Int)])) (hx : x ≤ 1000000) (hgr : Grow w w1 u u1) : NW2 w1 B g n vs (us.set k u1) (addAt x k nss) es ess := by
  have hk := (List.getElem?_eq_some_iff.1 hu).1
  have hkn := (List.getElem?_eq_some_iff.1 hz).1
  have hr := h.row hu hz
  have how : Own w1 B tNL (.slice (some ⟨g, 0, none⟩) n n) vs := h.own.kept hgr.1 (h.own.ne_of_type hr.1 (by decide))
  have hnew : OwnInts w1 B tN u1 (up (ns ++ [x])) := by
    refine ⟨by rw [up_append]; simpa [ints, up] using ho, fun z hz => ?_⟩
    rw [up_append] at hz
    rcases List.mem_append.1 hz with hz | hz
    · exact hr.2 z hz
    · simp [up] at hz; subst hz; unfold In64; omega
  have hf := h.fam.step (k := k) (by rw [List.getElem?_append_left hk]; exact hu) hnew hgr
  rw [List.set_append, if_pos hk, List.set_append, if_pos (by rw [List.length_map]; exact hkn)] at hf
  refine ⟨how, h.len, by rw [List.length_set]; exact h.lenu, by rw [addAt_len]; exact h.len', ?_⟩
  rw [addAt_set hz, List.map_set]
  exact hf
theorem NW2.cell (h : NW2 w B g n vs us nss es ess) (hu : vs[k]? = some u) : w.cell? ⟨g, k, none⟩ = some u := by
  obtain ⟨ad, n', c', he, hc⟩ := h.own.cells.at_ hu
  simp only [Value.slice.injEq, Option.some.injEq] at he
  obtain ⟨rfl, -, -⟩ := he
  have e : (⟨g, 0, none⟩ : Addr).add k = ⟨g, k, none⟩ := by by_cases h0 : k = 0 <;> simp [Addr.add, h0]
  rwa [e] at hc
theorem NW2.store (h : NW2 w B g n vs us nss es ess) (hk : k < n) (u1 : Value) : (∃ u0, w.cell? ⟨g, k, none⟩ = some u0) ∧ w.frozen? ⟨g, k, none⟩ = false ∧ NW2 (w.setCell ⟨g, k, none⟩ u1) B g n (vs.set k u1) us nss es ess ∧ w.grownBy (w.setCell ⟨g, k, none⟩ u1) (some g) := by
  obtain ⟨u0, -, hc, hfr, -, -, hown, hg2⟩ := h.own.storeAt (by rw [h.len]; exact hk) u1
  exact ⟨⟨u0, hc⟩, hfr, ⟨hown, by rw [List.length_set]; exact h.len, h.lenu, h.len', h.fam.other (v := .slice (some ⟨g, 0, none⟩) n n) hg2 h.own (by decide)⟩, hg2⟩
end

/-- short rows of small numbers -/
def NB (nss : List (List Nat)) (m n : Nat) : Prop := ∀ ns ∈ nss, ns.length ≤ m ∧ ∀ x ∈ ns, x < n
theorem NB.add {nss : List (List Nat)} {m n x i : Nat} (h : NB nss m n) (hx : x < n) : NB (addAt x i nss) (m + 1) n := by
  intro ns hns
  rcases mem_addAt hns with hns | ⟨b, hb, rfl⟩
  · exact ⟨by have := (h ns hns).1; omega, (h ns hns).2⟩
  · refine ⟨by have := (h b hb).1; simp; omega, fun y hy => ?_⟩
    rcases List.mem_append.1 hy with hy | hy
    · exact (h b hb).2 y hy
    · simp at hy; omega
theorem NB.mono {nss : List (List Nat)} {m m' n : Nat} (h : NB nss m n) (hm : m ≤ m') : NB nss m' n := fun ns hns => ⟨Nat.le_trans (h ns hns).1 hm, (h ns hns).2⟩
theorem NB.nil (k m n : Nat) : NB (List.replicate k []) m n := by
  intro ns hns
  have := List.eq_of_mem_replicate hns
  subst this
  exact ⟨Nat.zero_le _, fun x hx => by simp at hx⟩
end Go.Proofs.YtdjhfeaimmpmhaaGreat

set_option maxRecDepth 100000
set_option linter.unusedVariables false
set_option linter.unusedSimpArgs false
namespace Go.Proofs.YtdjhfeaimmpmhaaGreat
open Go.RowKit

end Go.Proofs.YtdjhfeaimmpmhaaGreat

set_option linter.unusedVariables false
set_option linter.unusedSimpArgs false
set_option maxRecDepth 100000
namespace Go.Proofs.YtdjhfeaimmpmhaaGreat

theorem lvl_cons {t : List Nat} (h : lvl t = true) : ∃ c, t = 0 :: c ∧ lvlF 0 c = true := by
  cases t with
  | nil => cases h
  | cons a c =>
    rw [lvl] at h
    cases h1 : Nat.beq a 0 with
    | false => rw [h1] at h; cases h
    | true => rw [h1] at h; have := Nat.eq_of_beq_eq_true h1; subst this; exact ⟨c, rfl, h⟩
end Go.Proofs.YtdjhfeaimmpmhaaGreat

set_option maxRecDepth 100000
set_option linter.unusedVariables false
set_option linter.unusedSimpArgs false
namespace Go.Proofs.YtdjhfeaimmpmhaaGreat
open Go.RowKit

end Go.Proofs.YtdjhfeaimmpmhaaGreat

