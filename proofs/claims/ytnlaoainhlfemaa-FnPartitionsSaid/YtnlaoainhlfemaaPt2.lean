/- Owned lists whose elements are k cells each (arrays, structs). No program in sight. | The walks of the small functions of the laws: copies, comparisons, marks. | The walks of the laws' small functions over lists of lists and tableaus. | Level lists, plain: what the program and the reference reckon with them. No program in sight. | Words of memory for level lists and lists of them: slices of slices, rows that can be read, branches that grow. -/
import Derived.Test.YtnlaoainhlfemaaPt1
import Derived.Laws.MakeOwn
import Derived.Test.YtnlaoainhlfemaaRows
import Derived.WalkLawsBesides
import Derived.Deep.QuietTactic
import Derived.BigQuiet
set_option maxRecDepth 100000
set_option linter.unusedVariables false
set_option linter.unusedSimpArgs false
namespace Go.Proofs.Ytnlaoainhlfemaa
open Go.RowKit

/-- the block of a slice has elements of type e -/
def BT (w : World) (e : TypeId) (v : Value) : Prop := v.ownBlock = none ∨ ∃ g cur fz, v.ownBlock = some g ∧ w.heap[g]? = some (.cells cur e fz)
theorem BT.ne {w : World} {e e' : TypeId} {v v' : Value} (h : BT w e v) (h' : BT w e' v') (hne : e ≠ e') : Apart v v' := by
  rcases h with h | ⟨g, cur, fz, h, hg⟩
  · exact .inl h
  · rcases h' with h' | ⟨g', cur', fz', h', hg'⟩
    · exact .inr (by rw [h, h']; simp)
    · refine .inr ?_
      rw [h, h']
      intro he
      injection he with he
      subst he
      rw [hg] at hg'
      injection hg' with hg'
      injection hg' with _ ht
      exact hne ht
theorem ownsRow_bt {w : World} {B e k n : Nat} {v : Value} {xs : List Value} (h : w.ownsRow B e k v n xs) : BT w e v := by
  rcases h.2 with ⟨rfl, _⟩ | ⟨g, cap, cur, rfl, _, hg, _⟩
  · exact .inl rfl
  · exact .inr ⟨g, cur, _, rfl, hg⟩
theorem Own.bt {w : World} {B : Nat} {e : TypeId} {v : Value} {vs : List Value} (h : Own w B e v vs) : BT w e v := ownsRow_bt h

/-- the call owns from block B on the slice v of elements of type e, k cells each -/
def OwnK (w : World) (B : Nat) (e : TypeId) (k : Nat) (v : Value) (css : List (List Value)) : Prop :=
  w.ownsRow B e k v css.length css.flatten ∧ ∀ c ∈ css, c.length = k

theorem flat_get {k : Nat} : ∀ {css : List (List Value)} {i j : Nat} {c : List Value} {u : Value}, (∀ c ∈ css, c.length = k) → css[i]? = some c → c[j]? = some u → css.flatten[i * k + j]? = some u
  | [], i, j, c, u, _, h, _ => by simp at h
  | d :: css, 0, j, c, u, hk, h, hu => by
    simp at h; subst h
    have := (List.getElem?_eq_some_iff.1 hu).1
    simp only [List.flatten_cons, Nat.zero_mul, Nat.zero_add]
    rw [List.getElem?_append_left this]
    exact hu
  | d :: css, i + 1, j, c, u, hk, h, hu => by
    have hd := hk d (by simp)
    rw [List.flatten_cons, List.getElem?_append_right (by rw [hd, Nat.add_mul]; omega), hd]
    have e : (i + 1) * k + j - k = i * k + j := by rw [Nat.add_mul]; omega
    rw [e]
    exact flat_get (fun c hc => hk c (by simp [hc])) (by simpa using h) hu
theorem flat_len {k : Nat} : ∀ {css : List (List Value)}, (∀ c ∈ css, c.length = k) → css.flatten.length = css.length * k
  | [], _ => by simp
  | d :: css, hk => by rw [List.flatten_cons, List.length_append, hk d (by simp), flat_len fun c hc => hk c (by simp [hc]), List.length_cons, Nat.add_mul]; omega
theorem flat_set {k : Nat} : ∀ {css : List (List Value)} {i j : Nat} {c : List Value} {u : Value}, (∀ c ∈ css, c.length = k) → css[i]? = some c → j < k → css.flatten.set (i * k + j) u = (css.set i (c.set j u)).flatten
  | [], i, j, c, u, _, h, _ => by simp at h
  | d :: css, 0, j, c, u, hk, h, hj => by
    simp at h; subst h
    have hd := hk d (by simp)
    rw [List.flatten_cons, Nat.zero_mul, Nat.zero_add, List.set_append, if_pos (by omega), List.set_cons_zero, List.flatten_cons]
  | d :: css, i + 1, j, c, u, hk, h, hj => by
    have hd := hk d (by simp)
    rw [List.flatten_cons, List.set_append, if_neg (by rw [hd, Nat.add_mul]; omega), hd]
    have e : (i + 1) * k + j - k = i * k + j := by rw [Nat.add_mul]; omega
    rw [e, flat_set (fun c hc => hk c (by simp [hc])) (by simpa using h) hj, List.set_cons_succ, List.flatten_cons]

section
variable {w w' : World} {B k : Nat} {e : TypeId} {v : Value} {css : List (List Value)}
theorem OwnK.cases (h : OwnK w B e k v css) : (v = .slice none 0 0 ∧ css = []) ∨
    ∃ g cap cur, v = .slice (some ⟨g, 0, none⟩) css.length cap ∧ B ≤ g ∧ g < w.heap.size ∧ w.heap[g]? = some (.cells cur e (0, 0)) ∧ css.length ≤ cap ∧ cap ≤ maxLen := by
  rcases h.1.2 with ⟨h1, h2⟩ | ⟨g, cap, cur, h1, h2, h3, h4, h5, h6, h7⟩
  · exact .inl ⟨h1, List.eq_nil_of_length_eq_zero h2⟩
  · exact .inr ⟨g, cap, cur, h1, h2, (Array.getElem?_eq_some_iff.1 h3).1, h3, h4, h5⟩
theorem OwnK.open_ (h : OwnK w B e k v css) : ∃ A c, v = .slice A css.length c ∧ css.length ≤ c ∧ c ≤ 9223372036854775807 := by
  rcases h.cases with ⟨rfl, rfl⟩ | ⟨g, cap, cur, rfl, -, -, -, h4, h5⟩
  · exact ⟨none, 0, rfl, Nat.le_refl _, by omega⟩
  · exact ⟨_, cap, rfl, h4, by simpa [maxLen] using h5⟩
theorem OwnK.nil (w : World) (B : Nat) (e : TypeId) (k : Nat) : OwnK w B e k (.slice none 0 0) [] := ⟨World.ownsRow_nil w B e k, fun c hc => by simp at hc⟩
theorem OwnK.of_block (h : OwnK w B e k v css) (hb : ∀ b, v.ownBlock = some b → w'.heap[b]? = w.heap[b]?) : OwnK w' B e k v css := by
  refine ⟨⟨h.1.1, ?_⟩, h.2⟩
  rcases h.1.2 with hn | ⟨g, cap, cur, rfl, hB, hgg, rest⟩
  · exact .inl hn
  · exact .inr ⟨g, cap, cur, rfl, hB, by rw [hb g rfl]; exact hgg, rest⟩
theorem OwnK.lt (h : OwnK w B e k v css) : ∀ b, v.ownBlock = some b → b < w.heap.size := fun b hb => (World.ownsRow.lt h.1 b hb).2
theorem OwnK.ge (h : OwnK w B e k v css) : ∀ b, v.ownBlock = some b → B ≤ b := fun b hb => (World.ownsRow.lt h.1 b hb).1
theorem OwnK.below (h : OwnK w B e k v css) (hb : Below w.heap.size w w') : OwnK w' B e k v css := h.of_block fun b hv => hb.block b (h.lt b hv)
theorem OwnK.kept (h : OwnK w B e k v css) {row : Option Nat} (hg : w.grownBy w' row) (hne : v.ownBlock = none ∨ v.ownBlock ≠ row) : OwnK w' B e k v css := ⟨World.ownsRow.kept h.1 hg hne, h.2⟩
theorem OwnK.mono {B' : Nat} (h : OwnK w B e k v css) (hB : B' ≤ B) : OwnK w B' e k v css := by
  refine ⟨⟨h.1.1, ?_⟩, h.2⟩
  rcases h.1.2 with hn | ⟨g, cap, cur, rfl, hB', rest⟩
  · exact .inl hn
  · exact .inr ⟨g, cap, cur, rfl, by omega, rest⟩
theorem OwnK.drewN (h : OwnK w B e k v css) (n : Nat) : OwnK (w.drewN n) B e k v css := h
theorem OwnK.bt (h : OwnK w B e k v css) : BT w e v := ownsRow_bt h.1
theorem addr_add (g n : Nat) : (⟨g, 0, none⟩ : Addr).add n = ⟨g, n, none⟩ := by by_cases h0 : n = 0 <;> simp [Addr.add, h0]
/-- cell j of element i -/
theorem OwnK.cell {i j : Nat} {c : List Value} {u : Value} (h : OwnK w B e k v css) (hc : css[i]? = some c) (hu : c[j]? = some u) : ∃ g cap, v = .slice (some ⟨g, 0, none⟩) css.length cap ∧ w.cell? ⟨g, i * k + j, none⟩ = some u := by
  rcases h.cases with ⟨_, rfl⟩ | ⟨g, cap, cur, rfl, h1, h2, h3, h4, h5⟩
  · simp at hc
  · refine ⟨g, cap, rfl, ?_⟩
    have := World.ownsRow.cells h.1 (g := g) rfl (i * k + j) u (flat_get h.2 hc hu)
    rwa [addr_add] at this
theorem OwnK.cellAt {g n cap i j : Nat} {c : List Value} {u : Value} (h : OwnK w B e k (.slice (some ⟨g, 0, none⟩) n cap) css) (hc : css[i]? = some c) (hu : c[j]? = some u) : w.cell? ⟨g, i * k + j, none⟩ = some u := by
  obtain ⟨g', cap', hv, h1⟩ := h.cell hc hu
  simp only [Value.slice.injEq, Option.some.injEq, Addr.mk.injEq, and_true, true_and] at hv
  rw [hv.1]; exact h1
/-- a store into cell j of element i -/
theorem OwnK.storeAt {g n cap i j : Nat} {c : List Value} (h : OwnK w B e k (.slice (some ⟨g, 0, none⟩) n cap) css) (hc : css[i]? = some c) (hj : j < k) (u : Value) :
    (∃ u0, w.cell? ⟨g, i * k + j, none⟩ = some u0) ∧ w.frozen? ⟨g, i * k + j, none⟩ = false ∧ B ≤ g ∧ OwnK (w.setCell ⟨g, i * k + j, none⟩ u) B e k (.slice (some ⟨g, 0, none⟩) n cap) (css.set i (c.set j u)) ∧ w.grownBy (w.setCell ⟨g, i * k + j, none⟩ u) (some g) := by
  have hck := h.2 c (List.mem_of_getElem? hc)
  have hu0 : c[j]? = some (c[j]'(by omega)) := List.getElem?_eq_getElem _
  have hn : n = css.length := by
    rcases h.cases with ⟨he, _⟩ | ⟨g', cap', cur, he, _⟩
    · cases he
    · simp only [Value.slice.injEq] at he; exact he.2.1
  subst hn
  have hs := World.ownsRow.stored h.1 (i * k + j) u
  refine ⟨⟨_, h.cellAt hc hu0⟩, World.ownsRow.frozenAt h.1 _, h.ge g rfl, ⟨?_, fun d hd => ?_⟩, hs.2⟩
  · rw [List.length_set, ← flat_set h.2 hc hj]; exact hs.1
  · rcases List.mem_or_eq_of_mem_set hd with hd | hd
    · exact h.2 d hd
    · rw [hd, List.length_set]; exact hck
end

/-- what is known of a slice type t over elements of type e, k cells each -/
structure ElemK (P : Program) (t e : TypeId) (z : Value) (k bytes : Nat) : Prop where
  under : P.underlying t = some (.slice e)
  info : (P.info? e).map (fun i => (i.zero, i.size, i.bytes)) = some (some z, k, bytes)
  cells : z.cells.size = k
  pos : 0 < k
  small : bytes ≤ 64

theorem OwnK.lit (W : World) (e : TypeId) (k : Nat) (css : List (List Value)) (hk : ∀ c ∈ css, c.length = k) (hn : css.length ≤ maxLen) (cs : Array Value) (hcs : cs.toList = css.flatten) :
    OwnK (W.alloc (.cells cs e)) W.heap.size e k (.slice (some ⟨W.heap.size, 0, none⟩) css.length css.length) css := by
  refine ⟨?_, hk⟩
  have := World.ownsRow_lit (base := W.heap.size) (e := e) (size := k) W cs css.length (Nat.le_refl _) hn (by rw [← Array.length_toList, hcs, flat_len hk])
  rwa [hcs] at this

/-- append of one element of k cells, which lies anywhere -/
theorem run_app1K {P : Program} {t e : TypeId} {z : Value} {k bytes B : Nat} {v : Value} {css : List (List Value)} {W : World} {c : List Value} {ad : Addr} (ty : TypeId)
    (T : ElemK P t e z k bytes) (hown : OwnK W B e k v css) (hlen : css.length < 1099511627776) (hB : B ≤ W.heap.size) (hc : c.length = k) (hu : ∀ u ∈ c, u.oneCell' = true)
    (hcell : ∀ j u, c[j]? = some u → W.cell? (ad.add j) = some u) :
    ∃ v' w', (Builtin.append_ #[t, t] ty #[v, .slice (some ad) 1 1]).run P W = .ok v' w' ∧ OwnK w' B e k v' (css ++ [c]) ∧ Grow W w' v v' := by
  obtain ⟨i, hi, hz, h1, h2⟩ := info_parts T.info
  have hby := T.small
  obtain ⟨v', w', hrun, r1, r2, _, r3⟩ := run_append_own_at (P := P) W B t ty e i z k bytes T.under hi hz h1 h2 T.cells T.pos v css.length css.flatten hown.1 ad 1 1 c (by omega) hcell hu (by simp only [maxLen]; omega) (by have := Nat.mul_le_mul_left (css.length + 1) hby; omega) hB
  refine ⟨v', w', hrun, ⟨by simpa using r1, fun d hd => ?_⟩, r2, ?_⟩
  · rcases List.mem_append.1 hd with hd | hd
    · exact hown.2 d hd
    · simp at hd; rw [hd]; exact hc
  · rcases r3 with r3 | r3
    · exact .inl r3
    · exact .inr ⟨_, r3, Nat.le_refl _⟩

theorem wpList_app1K {P : Program} {ops : Array Oper} {rest : List Oper} {o : Oper} {a : Act} {Q : Exit → Act → World → Prop} {s x : Operand} {t : TypeId}
    {e : TypeId} {z : Value} {k bytes : Nat} {B : Nat} {v : Value} {css : List (List Value)} {W : World} {c : List Value} {ad : Addr}
    (T : ElemK P t e z k bytes) (hown : OwnK W B e k v css) (hlen : css.length < 1099511627776) (hB : B ≤ W.heap.size) (hc : c.length = k) (hu : ∀ u ∈ c, u.oneCell' = true)
    (hcell : ∀ j u, c[j]? = some u → W.cell? (ad.add j) = some u)
    (hgd : o.guard = none) (ho : o.op = .call { callee := .builtin .append, args := #[s, x], argTypes := #[t, t] }) (hs : a.eval s = v)
    (hx : a.eval x = .slice (some ad) 1 1)
    (h : ∀ v' w', OwnK w' B e k v' (css ++ [c]) → Grow W w' v v' → wpList P ops Q rest (a.put o.dst v') w') : wpList P ops Q (o :: rest) a W := by
  obtain ⟨v', w', hrun, r1, r2⟩ := run_app1K o.type T hown hlen hB hc hu hcell
  refine wpList_plain hgd fun K hK => ?_
  unfold Oper.wp execOp
  simp only [ho, resolve, invoke, builtin, Sem.run_bind, Sem.run_pure, Result.andThen_ok, List.map_toArray, List.map_cons, List.map_nil, hs, hx, hrun]
  exact hK _ _ (h v' w' r1 r2)

/-- the same, met in a region that draws -/
theorem step_app1K {P : Program} {ops : Array Oper} {o : Oper} {a : Act} {K : Act → World → Prop} {Q : Exit → Act → World → Prop} {E : Prop} {s x : Operand} {t : TypeId}
    {e : TypeId} {z : Value} {k bytes : Nat} {B : Nat} {v : Value} {css : List (List Value)} {W : World} {c : List Value} {ad : Addr}
    (T : ElemK P t e z k bytes) (hown : OwnK W B e k v css) (hlen : css.length < 1099511627776) (hB : B ≤ W.heap.size) (hc : c.length = k) (hu : ∀ u ∈ c, u.oneCell' = true)
    (hcell : ∀ j u, c[j]? = some u → W.cell? (ad.add j) = some u)
    (hgd : o.guard = none) (ho : o.op = .call { callee := .builtin .append, args := #[s, x], argTypes := #[t, t] }) (hs : a.eval s = v)
    (hx : a.eval x = .slice (some ad) 1 1)
    (h : ∀ v' w', OwnK w' B e k v' (css ++ [c]) → Grow W w' v v' → K (a.put o.dst v') w') :
    if Region.wanted o (yielded ops a.tmps) = true then Oper.wp P o a W K Q else E := by
  have hw : Region.wanted o (yielded ops a.tmps) = true := by simp [Region.wanted, hgd]
  rw [if_pos hw]
  obtain ⟨v', w', hrun, r1, r2⟩ := run_app1K o.type T hown hlen hB hc hu hcell
  unfold Oper.wp execOp
  simp only [ho, resolve, invoke, builtin, Sem.run_bind, Sem.run_pure, Result.andThen_ok, List.map_toArray, List.map_cons, List.map_nil, hs, hx, hrun]
  exact h v' w' r1 r2

/-- the cells of a literal of one element of k cells, just laid -/
theorem lit_cells (W : World) (e : TypeId) (c : List Value) (cs : Array Value) (hcs : cs.toList = c) : ∀ j u, c[j]? = some u → (W.alloc (.cells cs e)).cell? ((⟨W.heap.size, 0, none⟩ : Addr).add j) = some u := by
  intro j u hu
  rw [addr_add, (Blk.new W cs e).cell, ← Array.getElem?_toList, hcs]
  exact hu
end Go.Proofs.Ytnlaoainhlfemaa

set_option linter.unusedVariables false
set_option linter.unusedSimpArgs false
namespace Go.Proofs.Ytnlaoainhlfemaa
open Go.RowKit

theorem T_int : ElemT Try.prog 25 2 (.int .i64 0) 8 := ⟨Try.underlying25, by kernel_rfl, rfl, by omega⟩

theorem take_eq_succ {xs ys : List Int} {k : Nat} {x y : Int} (h : xs.take k = ys.take k) (hx : xs[k]? = some x) (hy : ys[k]? = some y) (e : x = y) : xs.take (k + 1) = ys.take (k + 1) := by
  rw [List.take_add_one, List.take_add_one, h, hx, hy, e]

/-- the marks k, k + 1, .. -/
def marks (k : Int) (n : Nat) : List Int := (List.range n).map fun (i : Nat) => k + (i : Int)
end Go.Proofs.Ytnlaoainhlfemaa

set_option linter.unusedVariables false
set_option linter.unusedSimpArgs false
namespace Go.Proofs.Ytnlaoainhlfemaa
open Go.RowKit

theorem T_row : ElemT Try.prog 24 25 (.slice none 0 0) 24 := ⟨Try.underlying24, by kernel_rfl, rfl, by omega⟩

abbrev tI : TypeId := 2
abbrev tL : TypeId := 25

theorem rtake_succ {xs ys : List (List Int)} {k : Nat} {x y : List Int} (h : xs.take k = ys.take k) (hx : xs[k]? = some x) (hy : ys[k]? = some y) (e : x = y) : xs.take (k + 1) = ys.take (k + 1) := by
  rw [List.take_add_one, List.take_add_one, h, hx, hy, e]

/-- a tableau that came in -/
def TabArg (w : World) (v : Value) (A : List (List Int)) (Bs : List Int) : Prop := ∃ va vb, v = .agg #[va, vb] ∧ Rows w va A ∧ Ints w vb Bs
/-- an owned tableau: the rows, the row of rows and the weights lie in blocks of their own -/
def OT (w : World) (B C : Nat) (v : Value) (A : List (List Int)) (Bs : List Int) : Prop :=
  ∃ va vb vs, v = .agg #[va, vb] ∧ Own w B tL va vs ∧ (∀ b, va.ownBlock = some b → b < C) ∧ RowsOwn w B C tI vs A ∧ OI w B C tI vb Bs ∧ ∀ (k : Nat) (u : Value), vs[k]? = some u → Apart u vb

section
variable {w w' : World} {B C B' C' : Nat} {v : Value} {A : List (List Int)} {Bs : List Int}
theorem TabArg.below (h : TabArg w v A Bs) (hb : Below w.heap.size w w') : TabArg w' v A Bs := by
  obtain ⟨va, vb, rfl, h1, h2⟩ := h
  exact ⟨va, vb, rfl, h1.below hb, h2.below hb⟩
theorem TabArg.drewN (h : TabArg w v A Bs) (n : Nat) : TabArg (w.drewN n) v A Bs := h
theorem OT.arg (h : OT w B C v A Bs) : TabArg w v A Bs := by
  obtain ⟨va, vb, vs, rfl, h1, h2, h3, h4, h5⟩ := h
  exact ⟨va, vb, rfl, OR.rows ⟨vs, h1, h2, h3⟩, h4.ints⟩
theorem OT.below (h : OT w B C v A Bs) (hb : Below w.heap.size w w') : OT w' B C v A Bs := by
  obtain ⟨va, vb, vs, rfl, h1, h2, h3, h4, h5⟩ := h
  exact ⟨va, vb, vs, rfl, h1.below hb, h2, h3.below hb, h4.below hb, h5⟩
theorem OT.drewN (h : OT w B C v A Bs) (n : Nat) : OT (w.drewN n) B C v A Bs := h
theorem OT.kept (h : OT w B C v A Bs) (hc : Chg B' C' w w') (hd : C ≤ B' ∨ C' ≤ B) : OT w' B C v A Bs := by
  obtain ⟨va, vb, vs, rfl, h1, h2, h3, h4, h5⟩ := h
  exact ⟨va, vb, vs, rfl, h1.of_block fun b hb => hc.block b (h1.lt b hb) (by have := h1.ge b hb; have := h2 b hb; omega), h2, h3.kept hc hd, h4.kept hc hd, h5⟩
theorem OT.mono (h : OT w B C v A Bs) (h1 : B' ≤ B) (h2 : C ≤ C') : OT w B' C' v A Bs := by
  obtain ⟨va, vb, vs, rfl, g1, g2, g3, g4, g5⟩ := h
  exact ⟨va, vb, vs, rfl, g1.mono h1, fun b hb => Nat.lt_of_lt_of_le (g2 b hb) h2, g3.mono h1 h2, g4.mono h1 h2, g5⟩
theorem RowsOwn.apart {M : Nat} {vs : List Value} {u' : Value} {e : TypeId} (h : RowsOwn w B C e vs A) (hu : ∀ b, u'.ownBlock = some b → C ≤ b ∨ b < B) : ∀ (k : Nat) (u : Value), vs[k]? = some u → Apart u u' := by
  intro k u hk
  have hx : A[k]? = some (A[k]'(by rw [← h.1]; exact (List.getElem?_eq_some_iff.1 hk).1)) := List.getElem?_eq_getElem _
  have ho := h.2.1 k u _ hk hx
  unfold Apart
  cases hb : u.ownBlock with
  | none => exact .inl rfl
  | some b =>
    refine .inr fun e => ?_
    have h1 := ho.2 b hb
    have h2 := ho.1.1.ge b hb
    have h3 := hu b e.symm
    omega
end

theorem OT.open_ {w : World} {B C : Nat} {v : Value} {A : List (List Int)} {Bs : List Int} (h : OT w B C v A Bs) : ∃ Aa ca Ab cb, v = .agg #[.slice Aa A.length ca, .slice Ab Bs.length cb] := by
  obtain ⟨va, vb, rfl, h1, h2⟩ := h.arg
  obtain ⟨Aa, ca, rfl, _⟩ := h1.open_
  obtain ⟨Ab, cb, rfl, _⟩ := h2.open_
  exact ⟨_, _, _, _, rfl⟩
theorem TabArg.open_ {w : World} {v : Value} {A : List (List Int)} {Bs : List Int} (h : TabArg w v A Bs) : ∃ Aa ca Ab cb, v = .agg #[.slice Aa A.length ca, .slice Ab Bs.length cb] := by
  obtain ⟨va, vb, rfl, h1, h2⟩ := h
  obtain ⟨Aa, ca, rfl, _⟩ := h1.open_
  obtain ⟨Ab, cb, rfl, _⟩ := h2.open_
  exact ⟨_, _, _, _, rfl⟩
end Go.Proofs.Ytnlaoainhlfemaa

set_option linter.unusedVariables false
set_option linter.unusedSimpArgs false
namespace Go.Proofs.Ytnlaoainhlfemaa

/-- natural numbers as integers -/
def up (t : List Nat) : List Int := t.map fun (n : Nat) => (n : Int)
theorem up_len (t : List Nat) : (up t).length = t.length := by simp [up]
theorem up_get (t : List Nat) (k : Nat) : (up t)[k]? = t[k]?.map fun (n : Nat) => (n : Int) := by simp [up]
theorem up_append (a b : List Nat) : up (a ++ b) = up a ++ up b := by simp [up]
theorem up_inj {a b : List Nat} (h : up a = up b) : a = b := by
  have e : ∀ l : List Nat, (up l).map Int.toNat = l := by
    intro l
    simp only [up, List.map_map]
    have : (Int.toNat ∘ fun n : Nat => (n : Int)) = id := by funext n; simp
    rw [this, List.map_id]
  rw [← e a, ← e b, h]

def eqN : List Nat → List Nat → Bool
  | [], [] => true
  | [], _ :: _ => false
  | _ :: _, [] => false
  | a :: ar, b :: bs => bif Nat.beq a b then eqN ar bs else false
theorem eqN_iff : ∀ {a b : List Nat}, eqN a b = true ↔ a = b
  | [], [] => by simp [eqN]
  | [], _ :: _ => by simp [eqN]
  | _ :: _, [] => by simp [eqN]
  | a :: ar, b :: bs => by
    rw [eqN]
    cases h : Nat.beq a b with
    | true => have := Nat.eq_of_beq_eq_true h; subst this; simp [eqN_iff (a := ar) (b := bs)]
    | false => have := Nat.ne_of_beq_eq_false h; simp [this]
/-- lexicographically less -/
def ltN : List Nat → List Nat → Bool
  | [], [] => false
  | [], _ :: _ => true
  | _ :: _, [] => false
  | a :: ar, b :: bs => bif Nat.beq a b then ltN ar bs else Nat.blt a b

def mapO {α β : Type} (g : α → Option β) : List α → Option (List β)
  | [] => some []
  | x :: xs => match g x with
    | none => none
    | some y => match mapO g xs with
      | none => none
      | some ys => some (y :: ys)
theorem mapO_cons {α β : Type} {g : α → Option β} {x : α} {xs : List α} {ys : List β} (h : mapO g (x :: xs) = some ys) : ∃ y ys', ys = y :: ys' ∧ g x = some y ∧ mapO g xs = some ys' := by
  rw [mapO] at h
  split at h
  · cases h
  · rename_i y hy
    split at h
    · cases h
    · rename_i ys' hys
      injection h with h
      exact ⟨y, ys', h.symm, hy, hys⟩
theorem mapO_len {α β : Type} {g : α → Option β} : ∀ {xs : List α} {ys : List β}, mapO g xs = some ys → ys.length = xs.length
  | [], ys, h => by simp [mapO] at h; subst h; rfl
  | x :: xs, ys, h => by
    obtain ⟨y, ys', rfl, _, h'⟩ := mapO_cons h
    simp [mapO_len h']
theorem mapO_get {α β : Type} {g : α → Option β} : ∀ {xs : List α} {ys : List β}, mapO g xs = some ys → ∀ (k : Nat) (x : α), xs[k]? = some x → ∃ y, ys[k]? = some y ∧ g x = some y
  | [], ys, h, k, x, hx => by simp at hx
  | z :: xs, ys, h, k, x, hx => by
    obtain ⟨y, ys', rfl, hy, h'⟩ := mapO_cons h
    cases k with
    | zero => simp at hx; subst hx; exact ⟨y, by simp, hy⟩
    | succ k => simpa using mapO_get h' k x (by simpa using hx)
theorem mapO_all {α β : Type} {g : α → Option β} {xs : List α} {ys : List β} (h : mapO g xs = some ys) : ∀ y ∈ ys, ∃ x ∈ xs, g x = some y := by
  intro y hy
  obtain ⟨k, hk, rfl⟩ := List.getElem_of_mem hy
  have hl := mapO_len h
  have hx : xs[k]? = some (xs[k]'(by omega)) := List.getElem?_eq_getElem _
  obtain ⟨y', h1, h2⟩ := mapO_get h k _ hx
  rw [List.getElem?_eq_getElem hk] at h1
  injection h1 with h1
  exact ⟨_, List.mem_of_getElem? hx, by rw [h2, ← h1]⟩

/-- the levels behind a level -/
def lvlF (p : Nat) : List Nat → Bool
  | [] => true
  | l :: ls => bif Nat.ble 1 l then (bif Nat.ble l (p + 1) then lvlF l ls else false) else false
/-- a list of levels -/
def lvl : List Nat → Bool
  | [] => false
  | a :: ar => bif Nat.beq a 0 then lvlF 0 ar else false

def addLast (x : Nat) : List (List Nat) → List (List Nat)
  | [] => []
  | [b] => [b ++ [x]]
  | b :: c :: bs => b :: addLast x (c :: bs)
/-- one level more, of the branches gathered so far -/
def brStep (out : List (List Nat)) (l : Nat) : Option (List (List Nat)) :=
  match l with
  | 0 => none
  | 1 => some (out ++ [[0]])
  | l + 2 => match out with
    | [] => none
    | b :: bs => some (addLast (l + 1) (b :: bs))
def brF (out : List (List Nat)) : List Nat → Option (List (List Nat))
  | [] => some out
  | l :: ls => match brStep out l with
    | none => none
    | some o => brF o ls
/-- the branches of a level list -/
def brO : List Nat → Option (List (List Nat))
  | [] => none
  | _ :: ts => brF [] ts

/-- a list put into lists in descending order -/
def insD (p : List Nat) : List (List Nat) → List (List Nat)
  | [] => [p]
  | q :: qs => bif ltN q p then p :: q :: qs else q :: insD p qs
def srtF (s : List (List Nat)) : List (List Nat) → List (List Nat)
  | [] => s
  | p :: ps => srtF (insD p s) ps
/-- lists in descending order -/
def srtD (ps : List (List Nat)) : List (List Nat) := srtF [] ps
def bump : List Nat → List Nat
  | [] => []
  | a :: ar => (a + 1) :: bump ar
def bumps : List (List Nat) → List Nat
  | [] => []
  | b :: bs => bump b ++ bumps bs
/-- the list of the tree with some branches -/
def rootN (bs : List (List Nat)) : List Nat := 0 :: bumps bs
/-- the canonical list -/
def canO : Nat → List Nat → Option (List Nat)
  | 0, _ => none
  | f + 1, t => match brO t with
    | none => none
    | some bs => match mapO (canO f) bs with
      | none => none
      | some cs => some (rootN (srtD cs))

/-- one more than the last place below k whose level is one less; 0 if there is none -/
def parN (t : List Nat) (lev : Nat) : Nat → Nat
  | 0 => 0
  | k + 1 => bif Nat.beq (t.getD k 0 + 1) lev then k + 1 else parN t lev k
def parF (t : List Nat) : List Nat → Nat → List Nat
  | [], _ => []
  | l :: ls, i => parN t l i :: parF t ls (i + 1)
/-- the parents of the nodes, each by one more than its place -/
def parents (t : List Nat) : List Nat := parF t t 0
/-- one more at the end of the list at a place -/
def addAt (x : Nat) : Nat → List (List Nat) → List (List Nat)
  | _, [] => []
  | 0, b :: bs => (b ++ [x]) :: bs
  | i + 1, b :: bs => b :: addAt x i bs
/-- the canonical tree with a root (fr: one more than the node from which it is come to, or 0) -/
def tfO : Nat → List (List Nat) → Nat → Nat → Option (List Nat)
  | 0, _, _, _ => none
  | f + 1, near, root, fr => match near[root]? with
    | none => none
    | some ns => match mapO (fun n => tfO f near n (root + 1)) (ns.filter fun n => !Nat.beq (n + 1) fr) with
      | none => none
      | some bs => canO 9 (rootN bs)
/-- before in the order of trees -/
def befN (s t : List Nat) : Bool := bif Nat.beq s.length t.length then ltN t s else Nat.blt s.length t.length
/- of the reference -/
/-- all lists of so many levels that begin with a list: the greater ones first -/
def grow1 (t : List Nat) (last : Nat) : Nat → List (List Nat)
  | 0 => []
  | l + 1 => (t ++ [l + 1]) :: grow1 t last l
def lastN : List Nat → Nat
  | [] => 0
  | [a] => a
  | _ :: b :: bs => lastN (b :: bs)
def levs : Nat → List (List Nat)
  | 0 => [[0]]
  | n + 1 => (levs n).flatMap fun t => grow1 t (lastN t) (lastN t + 1)
end Go.Proofs.Ytnlaoainhlfemaa

set_option maxRecDepth 100000
set_option linter.unusedVariables false
set_option linter.unusedSimpArgs false
namespace Go.Proofs.Ytnlaoainhlfemaa
open Go.RowKit

theorem sliced_cells {w : World} {A : Option Addr} {n c : Nat} {vs : List Value} (h : Cells w (.slice A n c) vs) {k m : Nat} (hk : k ≤ m) (hm : m ≤ vs.length) :
    ∃ X, sliced A k m c 1 = .slice X (m - k) (c - k) ∧ Cells w (.slice X (m - k) (c - k)) ((vs.take m).drop k) := by
  obtain ⟨A', c', he, h1, h2, h3⟩ := h
  simp only [Value.slice.injEq] at he
  obtain ⟨rfl, rfl, rfl⟩ := he
  refine ⟨_, rfl, ?_⟩
  have hl : ((vs.take m).drop k).length = m - k := by rw [List.length_drop, List.length_take]; omega
  refine ⟨_, _, by rw [hl], by rw [hl]; omega, by omega, fun j u hj => ?_⟩
  have hjl := (List.getElem?_eq_some_iff.1 hj).1
  rw [hl] at hjl
  rw [List.getElem?_drop, List.getElem?_take, if_pos (by omega)] at hj
  obtain ⟨ad, rfl, hc⟩ := h3 _ u hj
  have hne : ¬ c = k := by omega
  refine ⟨ad.add (k * 1), by simp [hne], ?_⟩
  rw [add_add', Nat.mul_one]
  exact hc

/-- a slice of a list of numbers that is read, from k to m -/
theorem slice_ints {w : World} {A : Option Addr} {n c : Nat} {zs : List Int} (h : Ints w (.slice A n c) zs) {k m : Nat} (hk : k ≤ m) (hm : m ≤ zs.length) :
    ∃ X, sliced A k m c 1 = .slice X (m - k) (c - k) ∧ Ints w (.slice X (m - k) (c - k)) ((zs.take m).drop k) := by
  obtain ⟨X, h1, h2⟩ := sliced_cells h.1 hk (by rw [ints_len]; exact hm)
  refine ⟨X, h1, ?_, fun z hz => h.2 z (List.mem_of_mem_take (List.mem_of_mem_drop hz))⟩
  simpa [ints, List.map_take, List.map_drop] using h2

/-- rows that can be read: each a list of numbers in a block from B on -/
def RR (w : World) (B : Nat) (vs : List Value) (xss : List (List Int)) : Prop :=
  vs.length = xss.length ∧ ∀ (k : Nat) (u : Value) (zs : List Int), vs[k]? = some u → xss[k]? = some zs → OwnInts w B tI u zs
section
variable {w w' : World} {B : Nat} {vs : List Value} {xss : List (List Int)}
theorem RR.nil (w : World) (B : Nat) : RR w B [] [] := ⟨rfl, fun k u zs h => by simp at h⟩
theorem RR.below (h : RR w B vs xss) (hb : Below w.heap.size w w') : RR w' B vs xss := ⟨h.1, fun k u zs hu hz => (h.2 k u zs hu hz).below hb⟩
theorem RR.mono {B' : Nat} (h : RR w B vs xss) (hB : B' ≤ B) : RR w B' vs xss := ⟨h.1, fun k u zs hu hz => (h.2 k u zs hu hz).mono hB⟩
theorem RR.snoc {u : Value} {zs : List Int} (h : RR w B vs xss) (hu : OwnInts w B tI u zs) : RR w B (vs ++ [u]) (xss ++ [zs]) := by
  refine ⟨by simp [h.1], fun k u' zs' hk hz => ?_⟩
  by_cases hlt : k < vs.length
  · rw [List.getElem?_append_left hlt] at hk
    rw [List.getElem?_append_left (by rw [← h.1]; exact hlt)] at hz
    exact h.2 k u' zs' hk hz
  · have hkl := (List.getElem?_eq_some_iff.1 hk).1
    simp at hkl
    have : k = vs.length := by omega
    subst this
    rw [List.getElem?_append_right (Nat.le_refl _)] at hk
    rw [List.getElem?_append_right (by rw [h.1]; exact Nat.le_refl _), h.1] at hz
    simp at hk hz
    subst hk; subst hz
    exact hu
theorem RR.set {k : Nat} {u : Value} {zs : List Int} (h : RR w B vs xss) (hu : OwnInts w B tI u zs) : RR w B (vs.set k u) (xss.set k zs) := by
  refine ⟨by simp [h.1], fun j u' zs' hj hz => ?_⟩
  rw [List.getElem?_set] at hj hz
  by_cases hjk : k = j
  · subst hjk
    rw [if_pos rfl] at hj hz
    split at hj
    · rw [if_pos (by rw [← h.1]; assumption)] at hz
      injection hj with hj; injection hz with hz
      subst hj; subst hz
      exact hu
    · cases hj
  · rw [if_neg hjk] at hj hz
    exact h.2 j u' zs' hj hz
/-- a block whose elements have another type has turned -/
theorem RR.other {v : Value} {e : TypeId} {B' : Nat} {us : List Value} (h : RR w B vs xss) (hg : w.grownBy w' v.ownBlock) (ho : Own w B' e v us) (hne : tI ≠ e) : RR w' B vs xss :=
  ⟨h.1, fun k u zs hu hz => (h.2 k u zs hu hz).kept hg ((h.2 k u zs hu hz).1.ne_of_type ho hne)⟩
theorem RR.rows {v : Value} {e : TypeId} {B' : Nat} (h : RR w B vs xss) (ho : Own w B' e v vs) : Rows w v xss :=
  ⟨vs, ho.cells, h.1, fun k u zs hu hz => (h.2 k u zs hu hz).ints⟩
theorem RR.oneCell (h : RR w B vs xss) : ∀ u ∈ vs, u.oneCell' = true := by
  intro u hu
  obtain ⟨k, hk, rfl⟩ := List.getElem_of_mem hu
  have hx : xss[k]? = some (xss[k]'(by rw [← h.1]; exact hk)) := List.getElem?_eq_getElem _
  rcases (h.2 k _ _ (List.getElem?_eq_getElem hk) hx).1.cases with ⟨e, _⟩ | ⟨g, cap, cur, e, _⟩ <;> rw [e] <;> rfl
end

/-- a list of lists of one's own whose rows can be read -/
def LL (w : World) (B : Nat) (v : Value) (xss : List (List Int)) : Prop := ∃ vs, Own w B tL v vs ∧ RR w B vs xss
section
variable {w w' : World} {B : Nat} {v : Value} {xss : List (List Int)}
theorem LL.rows (h : LL w B v xss) : Rows w v xss := by obtain ⟨vs, h1, h2⟩ := h; exact h2.rows h1
theorem LL.below (h : LL w B v xss) (hb : Below w.heap.size w w') : LL w' B v xss := by obtain ⟨vs, h1, h2⟩ := h; exact ⟨vs, h1.below hb, h2.below hb⟩
theorem LL.mono {B' : Nat} (h : LL w B v xss) (hB : B' ≤ B) : LL w B' v xss := by obtain ⟨vs, h1, h2⟩ := h; exact ⟨vs, h1.mono hB, h2.mono hB⟩
theorem LL.nil (w : World) (B : Nat) : LL w B (.slice none 0 0) [] := ⟨[], Own.nil _ _ _, RR.nil _ _⟩
/-- one row more, made after all else -/
theorem LL.snoc {w1 : World} {vs : List Value} {u v1 : Value} {zs : List Int} (h1 : Own w B tL v vs) (h2 : RR w B vs xss) (hu : OwnInts w B tI u zs) (ho : Own w1 B tL v1 (vs ++ [u])) (hg : w.grownBy w1 v.ownBlock) : RR w1 B (vs ++ [u]) (xss ++ [zs]) :=
  (h2.snoc hu).other hg h1 (by decide)
end

/-- branches that are gathered: rows whose blocks lie before M, and the last row of one's own from M on -/
structure BrS (w : World) (B M : Nat) (o : Value) (vs : List Value) (bs : List (List Int)) : Prop where
  own : Own w B tL o vs
  rows : RR w B vs bs
  old : ∀ (k : Nat) (u : Value), k + 1 < vs.length → vs[k]? = some u → ∀ b, u.ownBlock = some b → b < M
  last : ∀ (u : Value) (zs : List Int), vs[vs.length - 1]? = some u → bs[vs.length - 1]? = some zs → OwnInts w M tI u zs
  le : B ≤ M
  lt : M ≤ w.heap.size

theorem BrS.push {w w1 : World} {B M : Nat} {o v1 u : Value} {vs : List Value} {bs : List (List Int)} {zs : List Int} (h : BrS w B M o vs bs) (hu : OwnInts w w.heap.size tI u zs) (ho : Own w1 B tL v1 (vs ++ [u])) (hg : w.grownBy w1 o.ownBlock) (hge : ∀ b, u.ownBlock = some b → w.heap.size ≤ b) :
    BrS w1 B w.heap.size v1 (vs ++ [u]) (bs ++ [zs]) := by
  have hB : B ≤ w.heap.size := Nat.le_trans h.le h.lt
  have hr := LL.snoc h.own h.rows (hu.mono hB) ho hg
  have hkeep := hu.kept hg (hu.1.ne_of_type h.own (by decide))
  refine ⟨ho, hr, fun k u' hk hu' b hb => ?_, fun u' zs' hu' hz' => ?_, hB, hg.size⟩
  · simp at hk
    rw [List.getElem?_append_left hk] at hu'
    have hx : bs[k]? = some (bs[k]'(by rw [← h.rows.1]; exact hk)) := List.getElem?_eq_getElem _
    exact (h.rows.2 k u' _ hu' hx).1.lt b hb
  · simp at hu'
    have e : (vs ++ [u]).length - 1 = bs.length := by simp [h.rows.1]
    rw [e, List.getElem?_append_right (Nat.le_refl _)] at hz'
    simp at hz'
    subst hu'; subst hz'
    exact hkeep

/-- the last row has grown: it is stored -/
theorem BrS.grow {w w1 : World} {B M g : Nat} {o u u1 : Value} {vs : List Value} {bs : List (List Int)} {zs zs1 : List Int} (h : BrS w B M o vs bs) (hu : vs[vs.length - 1]? = some u) (hz : bs[vs.length - 1]? = some zs)
    (ho : OwnInts w1 M tI u1 zs1) (hg : w.grownBy w1 u.ownBlock) (hob : o.ownBlock = some g) (hown : Own (w1.setCell ⟨g, vs.length - 1, none⟩ u1) B tL o (vs.set (vs.length - 1) u1)) :
    BrS (w1.setCell ⟨g, vs.length - 1, none⟩ u1) B M o (vs.set (vs.length - 1) u1) (bs.set (vs.length - 1) zs1) := by
  have hl := h.last u zs hu hz
  have hpos := (List.getElem?_eq_some_iff.1 hu).1
  have how1 : Own w1 B tL o vs := h.own.kept hg (h.own.ne_of_type hl.1 (by decide))
  have hset : w1.grownBy (w1.setCell ⟨g, vs.length - 1, none⟩ u1) o.ownBlock := by
    rw [hob]
    exact ((Chg.refl g (g + 1) w1).setCell (p := ⟨g, vs.length - 1, none⟩) (Nat.le_refl _) (by simp) u1) |> fun c => ⟨c.os, c.tape, c.output, c.size, fun b hb hne => c.block b hb (by have : b ≠ g := fun e => hne (by rw [e]); omega)⟩
  have hrow1 : RR w1 B (vs.set (vs.length - 1) u1) (bs.set (vs.length - 1) zs1) := by
    refine ⟨by simp [h.rows.1], fun k u' zs' hk hz' => ?_⟩
    rw [List.getElem?_set] at hk hz'
    by_cases hkl : vs.length - 1 = k
    · subst hkl
      rw [if_pos rfl, if_pos hpos] at hk
      rw [if_pos rfl, if_pos (by rw [← h.rows.1]; exact hpos)] at hz'
      injection hk with hk; injection hz' with hz'
      subst hk; subst hz'
      exact ho.mono h.le
    · rw [if_neg hkl] at hk hz'
      have hkk := (List.getElem?_eq_some_iff.1 hk).1
      have hr := h.rows.2 k u' zs' hk hz'
      refine hr.kept hg ?_
      have hold := h.old k u' (by omega) hk
      cases hb : u'.ownBlock with
      | none => exact .inl hb
      | some b => exact .inr fun e => by have h1 := hold b hb; have h2 := hl.1.ge b (e.symm.trans hb); omega
  refine ⟨hown, hrow1.other hset how1 (by decide), fun k u' hk hu' b hb => ?_, fun u' zs' hu' hz' => ?_, h.le, ?_⟩
  · simp at hk
    rw [List.getElem?_set_ne (by omega)] at hu'
    exact h.old k u' hk hu' b hb
  · simp only [List.length_set] at hu' hz'
    rw [List.getElem?_set_self hpos] at hu'
    rw [List.getElem?_set_self (by rw [← h.rows.1]; exact hpos)] at hz'
    injection hu' with hu'; injection hz' with hz'
    subst hu'; subst hz'
    exact ho.kept hset (ho.1.ne_of_type how1 (by decide))
  · have h1 := hg.size
    have h2 := hset.size
    have h3 := h.lt
    omega

theorem BrS.openLast {w : World} {B M m : Nat} {o : Value} {vs : List Value} {bs : List (List Int)} (h : BrS w B M o vs bs) (hm : vs.length = m + 1) :
    ∃ g cap u zs, o = .slice (some ⟨g, 0, none⟩) (m + 1) cap ∧ m + 1 ≤ cap ∧ cap ≤ 9223372036854775807 ∧ vs[m]? = some u ∧ bs[m]? = some zs ∧ OwnInts w M tI u zs ∧ w.cell? ⟨g, m, none⟩ = some u := by
  have hbl : bs.length = m + 1 := by rw [← h.rows.1]; exact hm
  have hu : vs[m]? = some (vs[m]'(by omega)) := List.getElem?_eq_getElem _
  have hz : bs[m]? = some (bs[m]'(by omega)) := List.getElem?_eq_getElem _
  have hl := h.last _ _ (by rw [hm]; exact hu) (by rw [hm]; exact hz)
  rcases h.own.cases with ⟨_, e⟩ | ⟨g, cap, cur, e, h1, h2, h3, h4, h5, h6, h7⟩
  · rw [e] at hm; simp at hm
  · refine ⟨g, cap, _, _, by rw [e, hm], by omega, by simpa [maxLen] using h5, hu, hz, hl, ?_⟩
    subst e
    obtain ⟨ad, n', c', he, hc⟩ := h.own.cells.at_ hu
    simp only [Value.slice.injEq, Option.some.injEq] at he
    obtain ⟨rfl, -, -⟩ := he
    have e : (⟨g, 0, none⟩ : Addr).add m = ⟨g, m, none⟩ := by
      by_cases h0 : m = 0 <;> simp [Addr.add, h0]
    rwa [e] at hc

/-- behind the append to the last row: what the store wants -/
theorem BrS.ready {w w1 : World} {B M m g cap : Nat} {u u1 : Value} {vs : List Value} {bs : List (List Int)} {zs zs1 : List Int} (h : BrS w B M (.slice (some ⟨g, 0, none⟩) (m + 1) cap) vs bs) (hm : vs.length = m + 1) (hu : vs[m]? = some u) (hz : bs[m]? = some zs)
    (ho : OwnInts w1 M tI u1 zs1) (hg : w.grownBy w1 u.ownBlock) :
    (∃ u0, w1.cell? ⟨g, m, none⟩ = some u0) ∧ w1.frozen? ⟨g, m, none⟩ = false ∧ BrS (w1.setCell ⟨g, m, none⟩ u1) B M (.slice (some ⟨g, 0, none⟩) (m + 1) cap) (vs.set m u1) (bs.set m zs1) := by
  have hlu := h.last u zs (by rw [hm]; exact hu) (by rw [hm]; exact hz)
  have how1 : Own w1 B tL (.slice (some ⟨g, 0, none⟩) (m + 1) cap) vs := h.own.kept hg (h.own.ne_of_type hlu.1 (by decide))
  obtain ⟨u0, -, hc, hf, -, -, hown, -⟩ := how1.storeAt (k := m) (by omega) u1
  have e : m = vs.length - 1 := by omega
  refine ⟨⟨u0, hc⟩, hf, ?_⟩
  have := h.grow (g := g) (u1 := u1) (by rw [← e]; exact hu) (by rw [← e]; exact hz) ho hg rfl (by rw [← e]; exact hown)
  rwa [← e] at this

/-- an empty row more -/
theorem BrS.pushNil {w w1 : World} {B M : Nat} {o v1 : Value} {vs : List Value} {bs : List (List Int)} (h : BrS w B M o vs bs) (ho : Own w1 B tL v1 (vs ++ [.slice none 0 0])) (hg : w.grownBy w1 o.ownBlock) :
    ∃ g cap, v1 = .slice (some ⟨g, 0, none⟩) (vs.length + 1) cap ∧ vs.length + 1 ≤ cap ∧ cap ≤ 9223372036854775807 ∧ BrS w1 B w.heap.size (.slice (some ⟨g, 0, none⟩) (vs.length + 1) cap) (vs ++ [.slice none 0 0]) (bs ++ [[]]) ∧
      w1.cell? ⟨g, vs.length, none⟩ = some (.slice none 0 0) ∧ g < w1.heap.size ∧ B ≤ g ∧ (vs ++ [Value.slice none 0 0])[vs.length]? = some (.slice none 0 0) ∧ (bs ++ [[]])[vs.length]? = some [] := by
  have hp := h.push (u := .slice none 0 0) (zs := []) (OwnInts.nil _ _ _) ho hg (fun b hb => by simp [Value.ownBlock] at hb)
  obtain ⟨g, cap, u, zs, e, h1, h2, hu, hz, hl, hc⟩ := hp.openLast (m := vs.length) (by simp)
  subst e
  have eu : (vs ++ [Value.slice none 0 0])[vs.length]? = some (.slice none 0 0) := by simp
  have ez : (bs ++ [[]])[vs.length]? = some [] := by rw [h.rows.1]; simp
  rw [eu] at hu
  injection hu with hu
  subst hu
  exact ⟨g, cap, rfl, h1, h2, hp, hc, World.block_lt_of_cell? w1 _ hc, hp.own.ge g rfl, eu, ez⟩

theorem BrS.below {w w' : World} {B M : Nat} {o : Value} {vs : List Value} {bs : List (List Int)} (h : BrS w B M o vs bs) (hb : Below w.heap.size w w') : BrS w' B M o vs bs :=
  ⟨h.own.below hb, h.rows.below hb, h.old, fun u zs hu hz => (h.last u zs hu hz).below hb, h.le, Nat.le_trans h.lt hb.size⟩

/-- an empty row more, which a literal has laid -/
theorem BrS.pushLit {w w1 : World} {B M : Nat} {o v1 : Value} {vs : List Value} {bs : List (List Int)} (h : BrS w B M o vs bs) (ho : Own w1 B tL v1 (vs ++ [.slice (some ⟨w.heap.size, 0, none⟩) 0 0])) (hg : (w.alloc (.cells #[] tI)).grownBy w1 o.ownBlock) :
    ∃ g cap, v1 = .slice (some ⟨g, 0, none⟩) (vs.length + 1) cap ∧ vs.length + 1 ≤ cap ∧ cap ≤ 9223372036854775807 ∧ BrS w1 B w.heap.size (.slice (some ⟨g, 0, none⟩) (vs.length + 1) cap) (vs ++ [.slice (some ⟨w.heap.size, 0, none⟩) 0 0]) (bs ++ [[]]) ∧
      w1.cell? ⟨g, vs.length, none⟩ = some (.slice (some ⟨w.heap.size, 0, none⟩) 0 0) ∧ g < w1.heap.size ∧ B ≤ g ∧ (vs ++ [Value.slice (some ⟨w.heap.size, 0, none⟩) 0 0])[vs.length]? = some (.slice (some ⟨w.heap.size, 0, none⟩) 0 0) ∧ (bs ++ [[]])[vs.length]? = some [] ∧
      OwnInts w1 w.heap.size tI (.slice (some ⟨w.heap.size, 0, none⟩) 0 0) [] := by
  have h' := h.below (below1 w (.cells #[] tI))
  have hB : B ≤ w.heap.size := Nat.le_trans h.le h.lt
  have hu : OwnInts (w.alloc (.cells #[] tI)) w.heap.size tI (.slice (some ⟨w.heap.size, 0, none⟩) 0 0) [] := ⟨own_lit w tI [] (by simp [maxLen]), fun z hz => by simp at hz⟩
  have hkeep := hu.kept hg (hu.1.ne_of_type h'.own (by decide))
  have hr := LL.snoc h'.own h'.rows (hu.mono hB) ho hg
  have hsz := hg.size
  have hp : BrS w1 B w.heap.size v1 (vs ++ [.slice (some ⟨w.heap.size, 0, none⟩) 0 0]) (bs ++ [[]]) := by
    refine ⟨ho, hr, fun k u' hk hu' b hb => ?_, fun u' zs' hu' hz' => ?_, hB, by rw [size_alloc'] at hsz; omega⟩
    · simp at hk
      rw [List.getElem?_append_left hk] at hu'
      have hx : bs[k]? = some (bs[k]'(by rw [← h.rows.1]; exact hk)) := List.getElem?_eq_getElem _
      exact (h.rows.2 k u' _ hu' hx).1.lt b hb
    · simp at hu'
      have e : (vs ++ [Value.slice (some ⟨w.heap.size, 0, none⟩) 0 0]).length - 1 = bs.length := by simp [h.rows.1]
      rw [e, List.getElem?_append_right (Nat.le_refl _)] at hz'
      simp at hz'
      subst hu'; subst hz'
      exact hkeep
  obtain ⟨g, cap, u, zs, e, h1, h2, hu2, hz, hl, hc⟩ := hp.openLast (m := vs.length) (by simp)
  subst e
  have eu : (vs ++ [Value.slice (some ⟨w.heap.size, 0, none⟩) 0 0])[vs.length]? = some (.slice (some ⟨w.heap.size, 0, none⟩) 0 0) := by simp
  have ez : (bs ++ [[]])[vs.length]? = some [] := by rw [h.rows.1]; simp
  rw [eu] at hu2
  injection hu2 with hu2
  subst hu2
  exact ⟨g, cap, rfl, h1, h2, hp, hc, World.block_lt_of_cell? w1 _ hc, hp.own.ge g rfl, eu, ez, hkeep⟩
end Go.Proofs.Ytnlaoainhlfemaa

