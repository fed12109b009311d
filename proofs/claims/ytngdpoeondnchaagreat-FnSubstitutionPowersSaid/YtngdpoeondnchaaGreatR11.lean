/- Owned lists whose elements are k cells each (arrays, structs). No program in sight. -/
import Derived.Test.YtngdpoeondnchaaGreatR1
import Derived.Laws.MakeOwn
set_option maxRecDepth 100000
set_option linter.unusedVariables false
set_option linter.unusedSimpArgs false
namespace Go.Proofs.YtngdpoeondnchaaGreat
open Go.RowKit

/-- the block of a slice has elements of type e -/
def BT (w : World) (e : TypeId) (v : Value) : Prop := v.ownBlock = none ∨ ∃ g cur fz, v.ownBlock = some g ∧ w.heap[g]? = some (.cells cur e fz)
theorem BT.ne {w : World} {e e' : TypeId} {v v' : Value} (h : BT w e v) (h' : BT w e' v') (hne : e ≠ e') : Apart v v' := by
  rcases h with h | ⟨g, cur, fz, h, hg⟩
  · exact .inl h
  · rcases h' with h' | ⟨g', cur', fz', h', hg'⟩
    · exact .inr (by rw [h, h']; simp)
    · refine .inr ?_
      rw [h, h']
      intro he
      injection he with he
      subst he
      rw [hg] at hg'
      injection hg' with hg'
      injection hg' with _ ht
      exact hne ht
theorem ownsRow_bt {w : World} {B e k n : Nat} {v : Value} {xs : List Value} (h : w.ownsRow B e k v n xs) : BT w e v := by
  rcases h.2 with ⟨rfl, _⟩ | ⟨g, cap, cur, rfl, _, hg, _⟩
  · exact .inl rfl
  · exact .inr ⟨g, cur, _, rfl, hg⟩
theorem Own.bt {w : World} {B : Nat} {e : TypeId} {v : Value} {vs : List Value} (h : Own w B e v vs) : BT w e v := ownsRow_bt h

/-- the call owns from block B on the slice v of elements of type e, k cells each -/
def OwnK (w : World) (B : Nat) (e : TypeId) (k : Nat) (v : Value) (css : List (List Value)) : Prop :=
  w.ownsRow B e k v css.length css.flatten ∧ ∀ c ∈ css, c.length = k

theorem flat_get {k : Nat} : ∀ {css : List (List Value)} {i j : Nat} {c : List Value} {u : Value}, (∀ c ∈ css, c.length = k) → css[i]? = some c → c[j]? = some u → css.flatten[i * k + j]? = some u
  | [], i, j, c, u, _, h, _ => by simp at h
  | d :: css, 0, j, c, u, hk, h, hu => by
    simp at h; subst h
    have := (List.getElem?_eq_some_iff.1 hu).1
    simp only [List.flatten_cons, Nat.zero_mul, Nat.zero_add]
    rw [List.getElem?_append_left this]
    exact hu
  | d :: css, i + 1, j, c, u, hk, h, hu => by
    have hd := hk d (by simp)
    rw [List.flatten_cons, List.getElem?_append_right (by rw [hd, Nat.add_mul]; omega), hd]
    have e : (i + 1) * k + j - k = i * k + j := by rw [Nat.add_mul]; omega
    rw [e]
    exact flat_get (fun c hc => hk c (by simp [hc])) (by simpa using h) hu
theorem flat_len {k : Nat} : ∀ {css : List (List Value)}, (∀ c ∈ css, c.length = k) → css.flatten.length = css.length * k
  | [], _ => by simp
  | d :: css, hk => by rw [List.flatten_cons, List.length_append, hk d (by simp), flat_len fun c hc => hk c (by simp [hc]), List.length_cons, Nat.add_mul]; omega
theorem flat_set {k : Nat} : ∀ {css : List (List Value)} {i j : Nat} {c : List Value} {u : Value}, (∀ c ∈ css, c.length = k) → css[i]? = some c → j < k → css.flatten.set (i * k + j) u = (css.set i (c.set j u)).flatten
  | [], i, j, c, u, _, h, _ => by simp at h
  | d :: css, 0, j, c, u, hk, h, hj => by
    simp at h; subst h
    have hd := hk d (by simp)
    rw [List.flatten_cons, Nat.zero_mul, Nat.zero_add, List.set_append, if_pos (by omega), List.set_cons_zero, List.flatten_cons]
  | d :: css, i + 1, j, c, u, hk, h, hj => by
    have hd := hk d (by simp)
    rw [List.flatten_cons, List.set_append, if_neg (by rw [hd, Nat.add_mul]; omega), hd]
    have e : (i + 1) * k + j - k = i * k + j := by rw [Nat.add_mul]; omega
    rw [e, flat_set (fun c hc => hk c (by simp [hc])) (by simpa using h) hj, List.set_cons_succ, List.flatten_cons]

section
variable {w w' : World} {B k : Nat} {e : TypeId} {v : Value} {css : List (List Value)}
theorem OwnK.cases (h : OwnK w B e k v css) : (v = .slice none 0 0 ∧ css = []) ∨
    ∃ g cap cur, v = .slice (some ⟨g, 0, none⟩) css.length cap ∧ B ≤ g ∧ g < w.heap.size ∧ w.heap[g]? = some (.cells cur e (0, 0)) ∧ css.length ≤ cap ∧ cap ≤ maxLen := by
  rcases h.1.2 with ⟨h1, h2⟩ | ⟨g, cap, cur, h1, h2, h3, h4, h5, h6, h7⟩
  · exact .inl ⟨h1, List.eq_nil_of_length_eq_zero h2⟩
  · exact .inr ⟨g, cap, cur, h1, h2, (Array.getElem?_eq_some_iff.1 h3).1, h3, h4, h5⟩
theorem OwnK.open_ (h : OwnK w B e k v css) : ∃ A c, v = .slice A css.length c ∧ css.length ≤ c ∧ c ≤ 9223372036854775807 := by
  rcases h.cases with ⟨rfl, rfl⟩ | ⟨g, cap, cur, rfl, -, -, -, h4, h5⟩
  · exact ⟨none, 0, rfl, Nat.le_refl _, by omega⟩
  · exact ⟨_, cap, rfl, h4, by simpa [maxLen] using h5⟩
theorem OwnK.nil (w : World) (B : Nat) (e : TypeId) (k : Nat) : OwnK w B e k (.slice none 0 0) [] := ⟨World.ownsRow_nil w B e k, fun c hc => by simp at hc⟩
theorem OwnK.of_block (h : OwnK w B e k v css) (hb : ∀ b, v.ownBlock = some b → w'.heap[b]? = w.heap[b]?) : OwnK w' B e k v css := by
  refine ⟨⟨h.1.1, ?_⟩, h.2⟩
  rcases h.1.2 with hn | ⟨g, cap, cur, rfl, hB, hgg, rest⟩
  · exact .inl hn
  · exact .inr ⟨g, cap, cur, rfl, hB, by rw [hb g rfl]; exact hgg, rest⟩
theorem OwnK.lt (h : OwnK w B e k v css) : ∀ b, v.ownBlock = some b → b < w.heap.size := fun b hb => (World.ownsRow.lt h.1 b hb).2
theorem OwnK.ge (h : OwnK w B e k v css) : ∀ b, v.ownBlock = some b → B ≤ b := fun b hb => (World.ownsRow.lt h.1 b hb).1
theorem OwnK.below (h : OwnK w B e k v css) (hb : Below w.heap.size w w') : OwnK w' B e k v css := h.of_block fun b hv => hb.block b (h.lt b hv)
theorem OwnK.kept (h : OwnK w B e k v css) {row : Option Nat} (hg : w.grownBy w' row) (hne : v.ownBlock = none ∨ v.ownBlock ≠ row) : OwnK w' B e k v css := ⟨World.ownsRow.kept h.1 hg hne, h.2⟩
theorem OwnK.mono {B' : Nat} (h : OwnK w B e k v css) (hB : B' ≤ B) : OwnK w B' e k v css := by
  refine ⟨⟨h.1.1, ?_⟩, h.2⟩
  rcases h.1.2 with hn | ⟨g, cap, cur, rfl, hB', rest⟩
  · exact .inl hn
  · exact .inr ⟨g, cap, cur, rfl, by omega, rest⟩
theorem OwnK.drewN (h : OwnK w B e k v css) (n : Nat) : OwnK (w.drewN n) B e k v css := h
theorem OwnK.bt (h : OwnK w B e k v css) : BT w e v := ownsRow_bt h.1
theorem addr_add (g n : Nat) : (⟨g, 0, none⟩ : Addr).add n = ⟨g, n, none⟩ := by by_cases h0 : n = 0 <;> simp [Addr.add, h0]
/-- cell j of element i -/
theorem OwnK.cell {i j : Nat} {c : List Value} {u : Value} (h : OwnK w B e k v css) (hc : css[i]? = some c) (hu : c[j]? = some u) : ∃ g cap, v = .slice (some ⟨g, 0, none⟩) css.length cap ∧ w.cell? ⟨g, i * k + j, none⟩ = some u := by
  rcases h.cases with ⟨_, rfl⟩ | ⟨g, cap, cur, rfl, h1, h2, h3, h4, h5⟩
  · simp at hc
  · refine ⟨g, cap, rfl, ?_⟩
    have := World.ownsRow.cells h.1 (g := g) rfl (i * k + j) u (flat_get h.2 hc hu)
    rwa [addr_add] at this
theorem OwnK.cellAt {g n cap i j : Nat} {c : List Value} {u : Value} (h : OwnK w B e k (.slice (some ⟨g, 0, none⟩) n cap) css) (hc : css[i]? = some c) (hu : c[j]? = some u) : w.cell? ⟨g, i * k + j, none⟩ = some u := by
  obtain ⟨g', cap', hv, h1⟩ := h.cell hc hu
  simp only [Value.slice.injEq, Option.some.injEq, Addr.mk.injEq, and_true, true_and] at hv
  rw [hv.1]; exact h1
/-- a store into cell j of element i -/
theorem OwnK.storeAt {g n cap i j : Nat} {c : List Value} (h : OwnK w B e k (.slice (some ⟨g, 0, none⟩) n cap) css) (hc : css[i]? = some c) (hj : j < k) (u : Value) :
    (∃ u0, w.cell? ⟨g, i * k + j, none⟩ = some u0) ∧ w.frozen? ⟨g, i * k + j, none⟩ = false ∧ B ≤ g ∧ OwnK (w.setCell ⟨g, i * k + j, none⟩ u) B e k (.slice (some ⟨g, 0, none⟩) n cap) (css.set i (c.set j u)) ∧ w.grownBy (w.setCell ⟨g, i * k + j, none⟩ u) (some g) := by
  have hck := h.2 c (List.mem_of_getElem? hc)
  have hu0 : c[j]? = some (c[j]'(by omega)) := List.getElem?_eq_getElem _
  have hn : n = css.length := by
    rcases h.cases with ⟨he, _⟩ | ⟨g', cap', cur, he, _⟩
    · cases he
    · simp only [Value.slice.injEq] at he; exact he.2.1
  subst hn
  have hs := World.ownsRow.stored h.1 (i * k + j) u
  refine ⟨⟨_, h.cellAt hc hu0⟩, World.ownsRow.frozenAt h.1 _, h.ge g rfl, ⟨?_, fun d hd => ?_⟩, hs.2⟩
  · rw [List.length_set, ← flat_set h.2 hc hj]; exact hs.1
  · rcases List.mem_or_eq_of_mem_set hd with hd | hd
    · exact h.2 d hd
    · rw [hd, List.length_set]; exact hck
end

/-- what is known of a slice type t over elements of type e, k cells each -/
structure ElemK (P : Program) (t e : TypeId) (z : Value) (k bytes : Nat) : Prop where
  under : P.underlying t = some (.slice e)
  info : (P.info? e).map (fun i => (i.zero, i.size, i.bytes)) = some (some z, k, bytes)
  cells : z.cells.size = k
  pos : 0 < k
  small : bytes ≤ 64

theorem OwnK.lit (W : World) (e : TypeId) (k : Nat) (css : List (List Value)) (hk : ∀ c ∈ css, c.length = k) (hn : css.length ≤ maxLen) (cs : Array Value) (hcs : cs.toList = css.flatten) :
    OwnK (W.alloc (.cells cs e)) W.heap.size e k (.slice (some ⟨W.heap.size, 0, none⟩) css.length css.length) css := by
  refine ⟨?_, hk⟩
  have := World.ownsRow_lit (base := W.heap.size) (e := e) (size := k) W cs css.length (Nat.le_refl _) hn (by rw [← Array.length_toList, hcs, flat_len hk])
  rwa [hcs] at this

/-- append of one element of k cells, which lies anywhere -/
theorem run_app1K {P : Program} {t e : TypeId} {z : Value} {k bytes B : Nat} {v : Value} {css : List (List Value)} {W : World} {c : List Value} {ad : Addr} (ty : TypeId)
    (T : ElemK P t e z k bytes) (hown : OwnK W B e k v css) (hlen : css.length < 1099511627776) (hB : B ≤ W.heap.size) (hc : c.length = k) (hu : ∀ u ∈ c, u.oneCell' = true)
    (hcell : ∀ j u, c[j]? = some u → W.cell? (ad.add j) = some u) :
    ∃ v' w', (Builtin.append_ #[t, t] ty #[v, .slice (some ad) 1 1]).run P W = .ok v' w' ∧ OwnK w' B e k v' (css ++ [c]) ∧ Grow W w' v v' := by
  obtain ⟨i, hi, hz, h1, h2⟩ := info_parts T.info
  have hby := T.small
  obtain ⟨v', w', hrun, r1, r2, _, r3⟩ := run_append_own_at (P := P) W B t ty e i z k bytes T.under hi hz h1 h2 T.cells T.pos v css.length css.flatten hown.1 ad 1 1 c (by omega) hcell hu (by simp only [maxLen]; omega) (by have := Nat.mul_le_mul_left (css.length + 1) hby; omega) hB
  refine ⟨v', w', hrun, ⟨by simpa using r1, fun d hd => ?_⟩, r2, ?_⟩
  · rcases List.mem_append.1 hd with hd | hd
    · exact hown.2 d hd
    · simp at hd; rw [hd]; exact hc
  · rcases r3 with r3 | r3
    · exact .inl r3
    · exact .inr ⟨_, r3, Nat.le_refl _⟩

theorem wpList_app1K {P : Program} {ops : Array Oper} {rest : List Oper} {o : Oper} {a : Act} {Q : Exit → Act → World → Prop} {s x : Operand} {t : TypeId}
    {e : TypeId} {z : Value} {k bytes : Nat} {B : Nat} {v : Value} {css : List (List Value)} {W : World} {c : List Value} {ad : Addr}
    (T : ElemK P t e z k bytes) (hown : OwnK W B e k v css) (hlen : css.length < 1099511627776) (hB : B ≤ W.heap.size) (hc : c.length = k) (hu : ∀ u ∈ c, u.oneCell' = true)
    (hcell : ∀ j u, c[j]? = some u → W.cell? (ad.add j) = some u)
    (hgd : o.guard = none) (ho : o.op = .call { callee := .builtin .append, args := #[s, x], argTypes := #[t, t] }) (hs : a.eval s = v)
    (hx : a.eval x = .slice (some ad) 1 1)
    (h : ∀ v' w', OwnK w' B e k v' (css ++ [c]) → Grow W w' v v' → wpList P ops Q rest (a.put o.dst v') w') : wpList P ops Q (o :: rest) a W := by
  obtain ⟨v', w', hrun, r1, r2⟩ := run_app1K o.type T hown hlen hB hc hu hcell
  refine wpList_plain hgd fun K hK => ?_
  unfold Oper.wp execOp
  simp only [ho, resolve, invoke, builtin, Sem.run_bind, Sem.run_pure, Result.andThen_ok, List.map_toArray, List.map_cons, List.map_nil, hs, hx, hrun]
  exact hK _ _ (h v' w' r1 r2)

/-- the same, met in a region that draws -/
theorem step_app1K {P : Program} {ops : Array Oper} {o : Oper} {a : Act} {K : Act → World → Prop} {Q : Exit → Act → World → Prop} {E : Prop} {s x : Operand} {t : TypeId}
    {e : TypeId} {z : Value} {k bytes : Nat} {B : Nat} {v : Value} {css : List (List Value)} {W : World} {c : List Value} {ad : Addr}
    (T : ElemK P t e z k bytes) (hown : OwnK W B e k v css) (hlen : css.length < 1099511627776) (hB : B ≤ W.heap.size) (hc : c.length = k) (hu : ∀ u ∈ c, u.oneCell' = true)
    (hcell : ∀ j u, c[j]? = some u → W.cell? (ad.add j) = some u)
    (hgd : o.guard = none) (ho : o.op = .call { callee := .builtin .append, args := #[s, x], argTypes := #[t, t] }) (hs : a.eval s = v)
    (hx : a.eval x = .slice (some ad) 1 1)
    (h : ∀ v' w', OwnK w' B e k v' (css ++ [c]) → Grow W w' v v' → K (a.put o.dst v') w') :
    if Region.wanted o (yielded ops a.tmps) = true then Oper.wp P o a W K Q else E := by
  have hw : Region.wanted o (yielded ops a.tmps) = true := by simp [Region.wanted, hgd]
  rw [if_pos hw]
  obtain ⟨v', w', hrun, r1, r2⟩ := run_app1K o.type T hown hlen hB hc hu hcell
  unfold Oper.wp execOp
  simp only [ho, resolve, invoke, builtin, Sem.run_bind, Sem.run_pure, Result.andThen_ok, List.map_toArray, List.map_cons, List.map_nil, hs, hx, hrun]
  exact h v' w' r1 r2

/-- the cells of a literal of one element of k cells, just laid -/
theorem lit_cells (W : World) (e : TypeId) (c : List Value) (cs : Array Value) (hcs : cs.toList = c) : ∀ j u, c[j]? = some u → (W.alloc (.cells cs e)).cell? ((⟨W.heap.size, 0, none⟩ : Addr).add j) = some u := by
  intro j u hu
  rw [addr_add, (Blk.new W cs e).cell, ← Array.getElem?_toList, hcs]
  exact hu
end Go.Proofs.YtngdpoeondnchaaGreat

