/- Words for memory: what a slice value reads as, what a call owns, and the laws on append and make in these words. No program in sight. | More words for memory: what changes within an interval of blocks; owned lists of lists. No program in sight. | The walks of the small functions of the laws: copies, comparisons, marks. | The walks of the laws' small functions over lists of lists and tableaus. -/
import Derived.WalkKit
import Derived.ProofKit
import Derived.Deep.AppendLies
import Derived.Deep.OwnRows
import Derived.Deep.Draws
import Derived.Maps.AppendAt
import Derived.Lib.Hide
import Derived.Deep.QuietTactic
import Derived.Test.YtdjhfeaimmpmhaaGreatRows
import Derived.WalkLawsBesides
import Derived.BigQuiet
set_option linter.unusedVariables false
set_option linter.unusedSimpArgs false
namespace Go.Proofs.YtdjhfeaimmpmhaaGreat
open Go.RowKit

/-- a number of 64 bits -/
def In64 (z : Int) : Prop := -9223372036854775808 ≤ z ∧ z ≤ 9223372036854775807

theorem In64.wf {z : Int} (h : In64 z) : (Lit.int .i64 z).wf = true := by
  unfold In64 at h
  simp [Lit.wf, IntKind.min, IntKind.max, IntKind.signed, IntKind.bits]
  omega

theorem block_add (a : Addr) (n : Nat) : (a.add n).block = a.block := by unfold Addr.add; split <;> rfl
theorem add_add' (a : Addr) (i j : Nat) : (a.add i).add j = a.add (i + j) := by
  unfold Addr.add
  by_cases hi : i = 0 <;> by_cases hj : j = 0 <;> simp [hi, hj, Nat.add_assoc]

theorem below_drewN {B : Nat} {a w : World} (h : Below B a w) (n : Nat) : Below B a (w.drewN n) := ⟨h.os, h.tape, h.output, h.size, h.block⟩

/-- The value v is a slice whose elements are one cell each and hold the values vs in w. -/
def Cells (w : World) (v : Value) (vs : List Value) : Prop :=
  ∃ A c, v = .slice A vs.length c ∧ vs.length ≤ c ∧ c ≤ maxLen ∧
    (∀ k u, vs[k]? = some u → ∃ ad, A = some ad ∧ w.cell? (ad.add k) = some u)

def ints (zs : List Int) : List Value := zs.map (Value.int .i64)
theorem ints_len (zs : List Int) : (ints zs).length = zs.length := by simp [ints]
theorem ints_get {zs : List Int} {k : Nat} {z : Int} (h : zs[k]? = some z) : (ints zs)[k]? = some (.int .i64 z) := by simp [ints, h]

/-- The value v reads as the list zs of numbers of 64 bits in w. -/
def Ints (w : World) (v : Value) (zs : List Int) : Prop := Cells w v (ints zs) ∧ ∀ z ∈ zs, In64 z

/-- v reads as a list, each of whose elements reads as R says -/
def ListOf {α : Type} (R : World → Value → α → Prop) (w : World) (v : Value) (xs : List α) : Prop :=
  ∃ vs, Cells w v vs ∧ vs.length = xs.length ∧ ∀ (k : Nat) (u : Value) (x : α), vs[k]? = some u → xs[k]? = some x → R w u x

/-- The value v reads as the list of lists xss. -/
def Rows (w : World) (v : Value) (xss : List (List Int)) : Prop := ListOf Ints w v xss

section
variable {w w' : World} {v : Value} {vs : List Value}

theorem Cells.of_block (h : Cells w v vs) (hb : ∀ b, v.ownBlock = some b → w'.heap[b]? = w.heap[b]?) : Cells w' v vs := by
  obtain ⟨A, c, rfl, h1, h2, h3⟩ := h
  refine ⟨A, c, rfl, h1, h2, fun k u hk => ?_⟩
  obtain ⟨ad, rfl, hc⟩ := h3 k u hk
  refine ⟨ad, rfl, ?_⟩
  rw [← hc]
  exact World.cell?_of_block (by rw [block_add]; exact hb _ rfl)

theorem Cells.lt (h : Cells w v vs) (hn : vs ≠ []) : ∀ b, v.ownBlock = some b → b < w.heap.size := by
  obtain ⟨A, c, rfl, h1, h2, h3⟩ := h
  intro b hb
  cases vs with
  | nil => exact absurd rfl hn
  | cons u us =>
    obtain ⟨ad, rfl, hc⟩ := h3 0 u rfl
    have := World.block_lt_of_cell? w _ hc
    rw [block_add] at this
    simpa [Value.ownBlock] using (by simpa [Value.ownBlock] using hb : ad.block = b) ▸ this

/-- the cells lie in blocks that have not turned, or there are none -/
theorem Cells.of_old (h : Cells w v vs) (hb : ∀ b, b < w.heap.size → v.ownBlock = some b → w'.heap[b]? = w.heap[b]?) : Cells w' v vs := by
  by_cases hn : vs = []
  · subst hn
    obtain ⟨A, c, rfl, h1, h2, h3⟩ := h
    exact ⟨A, c, rfl, h1, h2, fun k u hk => by simp at hk⟩
  · exact h.of_block fun b hv => hb b (h.lt hn b hv) hv

theorem Cells.below (h : Cells w v vs) (hb : Below w.heap.size w w') : Cells w' v vs := h.of_old fun b hlt _ => hb.block b hlt

theorem Cells.at_ (h : Cells w v vs) {k : Nat} {u : Value} (hk : vs[k]? = some u) : ∃ ad n c, v = .slice (some ad) n c ∧ w.cell? (ad.add k) = some u := by
  obtain ⟨A, c, rfl, _, _, h3⟩ := h
  obtain ⟨ad, rfl, hc⟩ := h3 k u hk
  exact ⟨ad, _, c, rfl, hc⟩

theorem Cells.open_ (h : Cells w v vs) : ∃ A c, v = .slice A vs.length c ∧ vs.length ≤ c ∧ c ≤ 9223372036854775807 := by
  obtain ⟨A, c, rfl, h1, h2, _⟩ := h
  exact ⟨A, c, rfl, h1, by simpa [maxLen] using h2⟩
end

section
variable {w w' : World} {v : Value} {zs : List Int} {xss : List (List Int)}

theorem Ints.below (h : Ints w v zs) (hb : Below w.heap.size w w') : Ints w' v zs := ⟨h.1.below hb, h.2⟩
theorem Ints.of_block (h : Ints w v zs) (hb : ∀ b, v.ownBlock = some b → w'.heap[b]? = w.heap[b]?) : Ints w' v zs := ⟨h.1.of_block hb, h.2⟩
theorem Ints.of_old (h : Ints w v zs) (hb : ∀ b, b < w.heap.size → v.ownBlock = some b → w'.heap[b]? = w.heap[b]?) : Ints w' v zs := ⟨h.1.of_old hb, h.2⟩

theorem Rows.below (h : Rows w v xss) (hb : Below w.heap.size w w') : Rows w' v xss := by
  obtain ⟨vs, h1, h2, h3⟩ := h
  exact ⟨vs, h1.below hb, h2, fun k u x hu hx => (h3 k u x hu hx).below hb⟩

/-- open at the head: the value written out -/
theorem Ints.open_ (h : Ints w v zs) :
    ∃ A c, v = .slice A zs.length c ∧ zs.length ≤ c ∧ c ≤ 9223372036854775807 ∧
      ∀ k, k < zs.length → ∃ ad z, A = some ad ∧ zs[k]? = some z ∧ In64 z ∧ w.cell? (ad.add k) = some (.int .i64 z) := by
  obtain ⟨⟨A, c, rfl, h1, h2, h3⟩, h4⟩ := h
  refine ⟨A, c, by simp [ints], by simpa [ints] using h1, by simpa [maxLen] using h2, fun k hk => ?_⟩
  obtain ⟨ad, hA, hc⟩ := h3 k (.int .i64 (zs[k])) (ints_get (by simp [hk]))
  exact ⟨ad, zs[k], hA, by simp [hk], h4 _ (List.getElem_mem _), hc⟩

theorem Rows.open_ (h : Rows w v xss) :
    ∃ A c, v = .slice A xss.length c ∧ xss.length ≤ c ∧ c ≤ 9223372036854775807 ∧
      ∀ k, k < xss.length → ∃ ad u zs, A = some ad ∧ xss[k]? = some zs ∧ Ints w u zs ∧ w.cell? (ad.add k) = some u := by
  obtain ⟨vs, ⟨A, c, rfl, h1, h2, h3⟩, h4, h5⟩ := h
  refine ⟨A, c, by rw [h4], by rw [← h4]; exact h1, by simpa [maxLen] using h2, fun k hk => ?_⟩
  have hv : vs[k]? = some (vs[k]'(by omega)) := List.getElem?_eq_getElem (by omega)
  have hx : xss[k]? = some (xss[k]) := by simp [hk]
  obtain ⟨ad, hA, hc⟩ := h3 k _ hv
  exact ⟨ad, _, _, hA, hx, h5 k _ _ hv hx, hc⟩
end

/- OWNED SLICES -/

/-- the call owns from block B on the slice v of elements of type e, one cell each, which hold vs -/
def Own (w : World) (B : Nat) (e : TypeId) (v : Value) (vs : List Value) : Prop := w.ownsRow B e 1 v vs.length vs

/-- an owned list of numbers -/
def OwnInts (w : World) (B : Nat) (e : TypeId) (v : Value) (zs : List Int) : Prop := Own w B e v (ints zs) ∧ ∀ z ∈ zs, In64 z

section
variable {w w' : World} {B : Nat} {e : TypeId} {v : Value} {vs : List Value}

theorem Own.cases (h : Own w B e v vs) : (v = .slice none 0 0 ∧ vs = []) ∨
    ∃ g cap cur, v = .slice (some ⟨g, 0, none⟩) vs.length cap ∧ B ≤ g ∧ g < w.heap.size ∧ w.heap[g]? = some (.cells cur e (0, 0)) ∧ vs.length ≤ cap ∧ cap ≤ maxLen ∧ cur.size = cap ∧ cur.toList.take vs.length = vs := by
  rcases h.2 with ⟨h1, h2⟩ | ⟨g, cap, cur, h1, h2, h3, h4, h5, h6, h7⟩
  · exact .inl ⟨h1, List.eq_nil_of_length_eq_zero h2⟩
  · refine .inr ⟨g, cap, cur, h1, h2, ?_, h3, h4, h5, by simpa using h6, by simpa using h7⟩
    exact (Array.getElem?_eq_some_iff.1 h3).1

theorem Own.nil (w : World) (B : Nat) (e : TypeId) : Own w B e (.slice none 0 0) [] := World.ownsRow_nil w B e 1

theorem Own.cells (h : Own w B e v vs) : Cells w v vs := by
  rcases h.cases with ⟨rfl, rfl⟩ | ⟨g, cap, cur, rfl, h1, h2, h3, h4, h5, h6, h7⟩
  · exact ⟨none, 0, rfl, Nat.le_refl _, by simp [maxLen], fun k u hk => by simp at hk⟩
  · refine ⟨_, cap, rfl, h4, h5, fun k u hk => ⟨_, rfl, ?_⟩⟩
    exact World.ownsRow.cells h (g := g) rfl k u hk

theorem Own.kept (h : Own w B e v vs) {row : Option Nat} (hg : w.grownBy w' row) (hne : v.ownBlock = none ∨ v.ownBlock ≠ row) : Own w' B e v vs := World.ownsRow.kept h hg hne

theorem Own.of_block (h : Own w B e v vs) (hb : ∀ b, v.ownBlock = some b → w'.heap[b]? = w.heap[b]?) : Own w' B e v vs := by
  refine ⟨h.1, ?_⟩
  rcases h.2 with hn | ⟨g, cap, cur, rfl, hB, hgg, rest⟩
  · exact .inl hn
  · exact .inr ⟨g, cap, cur, rfl, hB, by rw [hb g rfl]; exact hgg, rest⟩

theorem Own.below (h : Own w B e v vs) (hb : Below w.heap.size w w') : Own w' B e v vs := h.of_block fun b hv => hb.block b (World.ownsRow.lt h b hv).2
theorem Own.mono (h : Own w B e v vs) {B' : Nat} (hB : B' ≤ B) : Own w B' e v vs := by
  refine ⟨h.1, ?_⟩
  rcases h.2 with hn | ⟨g, cap, cur, rfl, hB, hgg, rest⟩
  · exact .inl hn
  · exact .inr ⟨g, cap, cur, rfl, by omega, hgg, rest⟩
theorem Own.ge (h : Own w B e v vs) : ∀ b, v.ownBlock = some b → B ≤ b := fun b hb => (World.ownsRow.lt h b hb).1
theorem Own.lt (h : Own w B e v vs) : ∀ b, v.ownBlock = some b → b < w.heap.size := fun b hb => (World.ownsRow.lt h b hb).2
theorem Own.alloc (h : Own w B e v vs) (o : Obj) : Own (w.alloc o) B e v vs := World.ownsRow.alloc h o
theorem Own.drewN (h : Own w B e v vs) (n : Nat) : Own (w.drewN n) B e v vs := h

/-- two owned slices whose elements have different types lie in different blocks -/
theorem Own.ne_of_type {B' : Nat} {e' : TypeId} {v' : Value} {vs' : List Value} (h : Own w B e v vs) (h' : Own w B' e' v' vs') (hne : e ≠ e') : v.ownBlock = none ∨ v.ownBlock ≠ v'.ownBlock := by
  rcases h.cases with ⟨rfl, _⟩ | ⟨g, cap, cur, rfl, _, _, hg, _⟩
  · exact .inl rfl
  · rcases h'.cases with ⟨rfl, _⟩ | ⟨g', cap', cur', rfl, _, _, hg', _⟩
    · exact .inr (by simp [Value.ownBlock])
    · refine .inr ?_
      simp only [Value.ownBlock, ne_eq, Option.some.injEq]
      rintro rfl
      rw [hg] at hg'
      injection hg' with hg'
      injection hg' with _ ht
      exact hne ht

/-- a store into an owned row: the value is not nil there -/
theorem Own.store (h : Own w B e v vs) {k : Nat} (hk : k < vs.length) (u : Value) : ∃ g cap u0, v = .slice (some ⟨g, 0, none⟩) vs.length cap ∧ B ≤ g ∧ g < w.heap.size ∧ vs[k]? = some u0 ∧ w.cell? ⟨g, k, none⟩ = some u0 ∧ w.frozen? ⟨g, k, none⟩ = false ∧
    Own (w.setCell ⟨g, k, none⟩ u) B e v (vs.set k u) ∧ w.grownBy (w.setCell ⟨g, k, none⟩ u) (some g) := by
  rcases h.cases with ⟨_, rfl⟩ | ⟨g, cap, cur, rfl, h1, h2, h3, h4, h5, h6, h7⟩
  · simp at hk
  · have hs := World.ownsRow.stored h k u
    refine ⟨g, cap, vs[k], rfl, h1, h2, by simp [hk], ?_, World.ownsRow.frozenAt h k, ?_, hs.2⟩
    · rw [World.ownsRow.cellAt h k (by simpa using hk)]
      simp [hk]
    · unfold Own
      rw [List.length_set]
      exact hs.1
end

theorem Own.storeAt {w : World} {B : Nat} {e : TypeId} {vs : List Value} {g n cap : Nat} (h : Own w B e (.slice (some ⟨g, 0, none⟩) n cap) vs) {k : Nat} (hk : k < vs.length) (u : Value) :
    ∃ u0, vs[k]? = some u0 ∧ w.cell? ⟨g, k, none⟩ = some u0 ∧ w.frozen? ⟨g, k, none⟩ = false ∧ g < w.heap.size ∧ B ≤ g ∧
    Own (w.setCell ⟨g, k, none⟩ u) B e (.slice (some ⟨g, 0, none⟩) n cap) (vs.set k u) ∧ w.grownBy (w.setCell ⟨g, k, none⟩ u) (some g) := by
  obtain ⟨g', cap', u0, hv, h1, h2, h3, h4, h5, h6, h7⟩ := h.store hk u
  simp only [Value.slice.injEq, Option.some.injEq, Addr.mk.injEq, and_true, true_and] at hv
  obtain ⟨rfl, _, _⟩ := hv
  exact ⟨u0, h3, h4, h5, h2, h1, h6, h7⟩

section
variable {w w' : World} {B : Nat} {e : TypeId} {v : Value} {zs : List Int}
theorem OwnInts.ints (h : OwnInts w B e v zs) : Ints w v zs := ⟨h.1.cells, h.2⟩
theorem OwnInts.below (h : OwnInts w B e v zs) (hb : Below w.heap.size w w') : OwnInts w' B e v zs := ⟨h.1.below hb, h.2⟩
theorem OwnInts.mono (h : OwnInts w B e v zs) {B' : Nat} (hB : B' ≤ B) : OwnInts w B' e v zs := ⟨h.1.mono hB, h.2⟩
theorem OwnInts.nil (w : World) (B : Nat) (e : TypeId) : OwnInts w B e (.slice none 0 0) [] := ⟨Own.nil w B e, fun _ h => absurd h (by simp)⟩
end

/-- v lies apart from v' -/
def Apart (v v' : Value) : Prop := v.ownBlock = none ∨ v.ownBlock ≠ v'.ownBlock
theorem apart_of_lt {v v' : Value} {B : Nat} (h1 : ∀ b, v.ownBlock = some b → b < B) (h2 : ∀ b, v'.ownBlock = some b → B ≤ b) : Apart v v' := by
  unfold Apart
  cases h : v.ownBlock with
  | none => exact .inl rfl
  | some b => exact .inr fun e => by have := h1 b h; have := h2 b e.symm; omega
theorem Apart.symm {v v' : Value} (h : Apart v v') : Apart v' v := by
  rcases h with h | h
  · cases h' : v'.ownBlock with
    | none => exact .inl h'
    | some b => exact .inr (by rw [h, h']; simp)
  · exact .inr fun e => h e.symm
theorem Cells.kept {w w' : World} {v v' : Value} {vs : List Value} (h : Cells w v vs) (hg : w.grownBy w' v'.ownBlock) (ha : Apart v v') : Cells w' v vs :=
  h.of_old fun b hlt hv => hg.block b hlt (by rcases ha with ha | ha <;> rw [hv] at ha <;> simp_all)
theorem Ints.kept {w w' : World} {v v' : Value} {zs : List Int} (h : Ints w v zs) (hg : w.grownBy w' v'.ownBlock) (ha : Apart v v') : Ints w' v zs := ⟨h.1.kept hg ha, h.2⟩
theorem OwnInts.kept {w w' : World} {B : Nat} {e : TypeId} {v v' : Value} {zs : List Int} (h : OwnInts w B e v zs) (hg : w.grownBy w' v'.ownBlock) (ha : Apart v v') : OwnInts w' B e v zs := ⟨h.1.kept hg ha, h.2⟩

/- THE LAWS -/

/-- what is known of a slice type t over elements of type e, one cell each -/
structure ElemT (P : Program) (t e : TypeId) (z : Value) (bytes : Nat) : Prop where
  under : P.underlying t = some (.slice e)
  info : (P.info? e).map (fun i => (i.zero, i.size, i.bytes)) = some (some z, 1, bytes)
  one : z.cells = #[z]
  small : bytes ≤ 24

/-- the world has grown by new blocks and by writes to v's own block; v' lies there or in a new block -/
def Grow (W w' : World) (v v' : Value) : Prop := W.grownBy w' v.ownBlock ∧ (v'.ownBlock = v.ownBlock ∨ ∃ g, v'.ownBlock = some g ∧ W.heap.size ≤ g)

theorem Grow.below {W w' w0 : World} {v v' : Value} {B : Nat} (h : Grow W w' v v') (hb : Below B w0 W) (hB : B ≤ W.heap.size) (hv : ∀ b, v.ownBlock = some b → B ≤ b) : Below B w0 w' := hb.grown h.1 hB hv

/-- append of one element, which the walk has laid into a block of its own -/
theorem wpList_app1 {P : Program} {ops : Array Oper} {rest : List Oper} {o : Oper} {a : Act} {Q : Exit → Act → World → Prop} {s x : Operand} {t : TypeId}
    {e : TypeId} {z : Value} {bytes : Nat} {B : Nat} {v : Value} {vs : List Value} {W : World} {u : Value}
    (T : ElemT P t e z bytes) (hown : Own W B e v vs) (hlen : vs.length < 1099511627776) (hB : B ≤ W.heap.size) (hu : u.oneCell' = true)
    (hgd : o.guard = none) (ho : o.op = .call { callee := .builtin .append, args := #[s, x], argTypes := #[t, t] }) (hs : a.eval s = v)
    (hx : a.eval x = .slice (some ⟨W.heap.size, 0, none⟩) 1 1)
    (h : ∀ v' w', Own w' B e v' (vs ++ [u]) → Grow W w' v v' → wpList P ops Q rest (a.put o.dst v') w') : wpList P ops Q (o :: rest) a (W.alloc (.cells #[u] e)) := by
  obtain ⟨i, hi, hz, h1, h2⟩ := info_parts T.info
  have hby := T.small
  obtain ⟨v', w', hrun, r1, r2, _, r3⟩ := run_append_own_at (P := P) (W.alloc (.cells #[u] e)) B t o.type e i z 1 bytes T.under hi hz h1 h2 (by rw [T.one]; rfl) (by omega) v vs.length vs (hown.alloc _) ⟨W.heap.size, 0, none⟩ 1 1 [u] rfl
    (fun j u' hj => by
      cases j with
      | zero =>
        simp at hj; subst hj
        have e0 : (⟨W.heap.size, 0, none⟩ : Addr).add 0 = ⟨W.heap.size, 0, none⟩ := rfl
        rw [e0, World.cell?_alloc_at _ _ _ _ rfl]
        rfl
      | succ j => simp at hj) (by simpa using hu) (by simp only [maxLen]; omega) (by have := Nat.mul_le_mul_left (vs.length + 1) hby; omega) (by simp; omega)
  refine wpList_plain hgd fun K hK => ?_
  unfold Oper.wp execOp
  simp only [ho, resolve, invoke, builtin, Sem.run_bind, Sem.run_pure, Result.andThen_ok, List.map_toArray, List.map_cons, List.map_nil, hs, hx, hrun]
  refine hK _ _ (h v' w' ?_ ⟨?_, ?_⟩)
  · unfold Own; simpa using r1
  · refine ⟨r2.os, r2.tape, r2.output, ?_, fun k hk hne => ?_⟩
    · have := r2.size; simp at this; omega
    · rw [r2.block k (by simp; omega) hne]
      exact Below.heap_alloc _ _ _ hk
  · rcases r3 with r3 | r3
    · exact .inl r3
    · exact .inr ⟨_, r3, by simp⟩

/-- append of a list that is read -/
theorem wpList_appN {P : Program} {ops : Array Oper} {rest : List Oper} {o : Oper} {a : Act} {Q : Exit → Act → World → Prop} {s x : Operand} {t : TypeId}
    {e : TypeId} {z : Value} {bytes : Nat} {B : Nat} {v : Value} {vs : List Value} {W : World} {y : Value} {us : List Value}
    (T : ElemT P t e z bytes) (hown : Own W B e v vs) (hy : Cells W y us) (hlen : vs.length + us.length < 1099511627776) (hB : B ≤ W.heap.size) (hu : ∀ u ∈ us, u.oneCell' = true)
    (hgd : o.guard = none) (ho : o.op = .call { callee := .builtin .append, args := #[s, x], argTypes := #[t, t] }) (hs : a.eval s = v)
    (hx : a.eval x = y)
    (h : ∀ v' w', Own w' B e v' (vs ++ us) → Grow W w' v v' → wpList P ops Q rest (a.put o.dst v') w') : wpList P ops Q (o :: rest) a W := by
  obtain ⟨i, hi, hz, h1, h2⟩ := info_parts T.info
  have hby := T.small
  obtain ⟨A, c, rfl, hy1, hy2, hy3⟩ := hy
  cases A with
  | none =>
    have hus : us = [] := by
      cases us with
      | nil => rfl
      | cons u us => obtain ⟨ad, h, _⟩ := hy3 0 u rfl; cases h
    subst hus
    have hrun : (Builtin.append_ #[t, t] o.type #[v, .slice none 0 c]).run P W = .ok v W := by
      rcases hown.cases with ⟨rfl, rfl⟩ | ⟨g, cap, cur, rfl, _, _, _, hnc, _⟩
      · simp [Builtin.append_, run_underlying T.under, sizeOf, typeInfo, hi, Builtin.lenOf, Builtin.firstCells]
      · simp [Builtin.append_, run_underlying T.under, sizeOf, typeInfo, hi, Builtin.lenOf, Builtin.firstCells, hnc, storeCells]
    refine wpList_plain hgd fun K hK => ?_
    unfold Oper.wp execOp
    simp only [ho, resolve, invoke, builtin, Sem.run_bind, Sem.run_pure, Result.andThen_ok, List.map_toArray, List.map_cons, List.map_nil, hs, hx, List.length_nil, hrun]
    exact hK _ _ (h v W (by simpa using hown) ⟨World.grownBy.refl W _, .inl rfl⟩)
  | some ad =>
    obtain ⟨v', w', hrun, r1, r2, _, r3⟩ := run_append_own_at (P := P) W B t o.type e i z 1 bytes T.under hi hz h1 h2 (by rw [T.one]; rfl) (by omega) v vs.length vs hown ad us.length c us (by simp)
      (fun j u' hj => by obtain ⟨ad', h, hc⟩ := hy3 j u' hj; injection h with h; subst h; exact hc) hu (by simp only [maxLen]; omega) (by have := Nat.mul_le_mul_left (vs.length + us.length) hby; omega) hB
    refine wpList_plain hgd fun K hK => ?_
    unfold Oper.wp execOp
    simp only [ho, resolve, invoke, builtin, Sem.run_bind, Sem.run_pure, Result.andThen_ok, List.map_toArray, List.map_cons, List.map_nil, hs, hx, hrun]
    refine hK _ _ (h v' w' ?_ ⟨r2, ?_⟩)
    · unfold Own; simpa using r1
    · rcases r3 with r3 | r3
      · exact .inl r3
      · exact .inr ⟨_, r3, by simp⟩

/-- what make lays -/
theorem own_made (W : World) (e : TypeId) (z : Value) (n : Nat) (hn : n ≤ maxLen) : Own (W.alloc (.cells (madeCells #[z] n) e)) W.heap.size e (.slice (some ⟨W.heap.size, 0, none⟩) n n) (List.replicate n z) := by
  have h := World.ownsRow_lit (base := W.heap.size) (e := e) (size := 1) W (madeCells #[z] n) n (Nat.le_refl _) hn (by rw [size_madeCells]; omega)
  rw [toList_madeCells_one] at h
  unfold Own
  rw [List.length_replicate]
  exact h

theorem run_make {P : Program} {t e : TypeId} {z : Value} {bytes : Nat} (T : ElemT P t e z bytes) (n : Nat) (hn : n < 1099511627776) (w : World) :
    (Instr.makeSlice t (.int .i64 (n : Int)) (.int .i64 (n : Int))).run P w = .ok (.slice (some ⟨w.heap.size, 0, none⟩) n n) (w.alloc (.cells (madeCells #[z] n) e)) :=
  run_make_row' t e z bytes T.under T.info T.one .i64 .i64 n (by have := Nat.mul_le_mul_right n T.small; omega) (by omega) w

/-- make, as a law of the walk: the world behind it is a letter -/
theorem wpList_mk {P : Program} {ops : Array Oper} {rest : List Oper} {o : Oper} {a : Act} {Q : Exit → Act → World → Prop} (hgd : o.guard = none) (t : TypeId) (l c : Operand) (ho : o.op = .makeSlice t l c)
    (e : TypeId) (z : Value) (bytes : Nat) (T : ElemT P t e z bytes) (n : Nat) (N : Int) (hN : N = (n : Int)) (hl : a.eval l = .int .i64 N) (hc : a.eval c = .int .i64 N) (hn : n < 1099511627776) (W : World)
    (h : ∀ w', Own w' W.heap.size e (.slice (some ⟨W.heap.size, 0, none⟩) n n) (List.replicate n z) → Below W.heap.size W w' → W.heap.size < w'.heap.size →
      wpList P ops Q rest (a.put o.dst (.slice (some ⟨W.heap.size, 0, none⟩) n n)) w') : wpList P ops Q (o :: rest) a W := by
  refine wpList_plain hgd fun K hK => ?_
  have hrun := run_make T n hn W
  subst hN
  unfold Oper.wp execOp
  simp only [ho, hl, hc, hrun, Sem.run_bind, Result.andThen_ok]
  exact hK _ _ (h _ (own_made W e z n (by simp only [maxLen]; omega)) ((Below.refl _ _).alloc (Nat.le_refl _) _) (by simp))

/-- a slice literal -/
theorem own_lit (W : World) (e : TypeId) (vs : List Value) (hn : vs.length ≤ maxLen) : Own (W.alloc (.cells vs.toArray e)) W.heap.size e (.slice (some ⟨W.heap.size, 0, none⟩) vs.length vs.length) vs := by
  have h := World.ownsRow_lit (base := W.heap.size) (e := e) (size := 1) W vs.toArray vs.length (Nat.le_refl _) hn (by simp)
  exact h

theorem ret_bool {a b : Bool} (h : a = b) : Ending.returned (.bool a) = .returned (.bool b) := by rw [h]
theorem ret_int {k : IntKind} {a b : Int} (h : a = b) : Ending.returned (.int k a) = .returned (.int k b) := by rw [h]

end Go.Proofs.YtdjhfeaimmpmhaaGreat

set_option linter.unusedVariables false
set_option linter.unusedSimpArgs false
namespace Go.Proofs.YtdjhfeaimmpmhaaGreat
open Go.RowKit

/-- of the blocks that were there only those from B to C (without C) may have turned -/
structure Chg (B C : Nat) (w w' : World) : Prop where
  os : w'.os = w.os
  tape : w'.tape = w.tape
  output : w'.output = w.output
  size : w.heap.size ≤ w'.heap.size
  block : ∀ k, k < w.heap.size → (k < B ∨ C ≤ k) → w'.heap[k]? = w.heap[k]?

section
variable {B C B' C' B0 : Nat} {w w' w'' w0 : World}
theorem Chg.refl (B C : Nat) (w : World) : Chg B C w w := ⟨rfl, rfl, rfl, Nat.le_refl _, fun _ _ _ => rfl⟩
theorem Chg.trans (h : Chg B C w w') (h' : Chg B C w' w'') : Chg B C w w'' :=
  ⟨h'.os.trans h.os, h'.tape.trans h.tape, h'.output.trans h.output, Nat.le_trans h.size h'.size, fun k hk hd => (h'.block k (Nat.lt_of_lt_of_le hk h.size) hd).trans (h.block k hk hd)⟩
theorem Chg.mono (h : Chg B C w w') (h1 : B' ≤ B) (h2 : C ≤ C') : Chg B' C' w w' := ⟨h.os, h.tape, h.output, h.size, fun k hk hd => h.block k hk (by omega)⟩
theorem Chg.below (h : Chg B C w w') (hb : Below B0 w0 w) (hB : B0 ≤ B) (hs : B0 ≤ w.heap.size) : Below B0 w0 w' :=
  hb.trans ⟨h.os, h.tape, h.output, h.size, fun k hk => h.block k (by omega) (.inl (by omega))⟩
theorem Chg.of_below (h : Below w.heap.size w w') (B C : Nat) : Chg B C w w' := ⟨h.os, h.tape, h.output, h.size, fun k hk _ => h.block k hk⟩
theorem Chg.of_grown {v : Value} (h : w.grownBy w' v.ownBlock) (h1 : ∀ b, v.ownBlock = some b → B ≤ b ∧ b < C) : Chg B C w w' :=
  ⟨h.os, h.tape, h.output, h.size, fun k hk hd => h.block k hk (fun e => by have := h1 k e.symm; omega)⟩
theorem Chg.drewN (h : Chg B C w w') (n : Nat) : Chg B C w (w'.drewN n) := ⟨h.os, h.tape, h.output, h.size, h.block⟩
end

/-- a quiet call behind draws: for go_quiet -/
theorem quiet_more {P : Program} {f : FuncId} {args : Array Value} {w : World} {a n : Nat} {v : Value}
    (h : Calls P f args (w.drewN (a + n)) fun e w' => e = .returned v ∧ ∃ m, w' = (w.drewN (a + n)).drewN m) :
    Calls P f args (w.drewN (a + n)) fun e w'' => e = .returned v ∧ ∃ m, w'' = w.drewN (a + m) :=
  h.mono fun _ _ ⟨he, m, hm⟩ => ⟨he, n + m, by rw [hm, World.drewN_drewN, Nat.add_assoc]⟩
/-- an owned list of numbers whose block lies from B to C -/
def OI (w : World) (B C : Nat) (e : TypeId) (v : Value) (zs : List Int) : Prop := OwnInts w B e v zs ∧ ∀ b, v.ownBlock = some b → b < C

section
variable {w w' : World} {B C B' C' : Nat} {e : TypeId} {v : Value} {zs : List Int}
theorem OI.of (h : OwnInts w B e v zs) : OI w B w.heap.size e v zs := ⟨h, h.1.lt⟩
theorem OI.ints (h : OI w B C e v zs) : Ints w v zs := h.1.ints
theorem OI.kept (h : OI w B C e v zs) (hc : Chg B' C' w w') (hd : C ≤ B' ∨ C' ≤ B) : OI w' B C e v zs :=
  ⟨⟨h.1.1.of_block fun b hb => hc.block b (h.1.1.lt b hb) (by have := h.1.1.ge b hb; have := h.2 b hb; omega), h.1.2⟩, h.2⟩
theorem OI.below (h : OI w B C e v zs) (hb : Below w.heap.size w w') : OI w' B C e v zs := ⟨h.1.below hb, h.2⟩
theorem OI.drewN (h : OI w B C e v zs) (n : Nat) : OI (w.drewN n) B C e v zs := h
theorem Ints.drewN (h : Ints w v zs) (n : Nat) : Ints (w.drewN n) v zs := h
theorem OI.mono (h : OI w B C e v zs) (h1 : B' ≤ B) (h2 : C ≤ C') : OI w B' C' e v zs := ⟨h.1.mono h1, fun b hb => Nat.lt_of_lt_of_le (h.2 b hb) h2⟩
end

/-- the values vs own the lists xss, each in a block of its own -/
def RowsOwn (w : World) (B C : Nat) (e : TypeId) (vs : List Value) (xss : List (List Int)) : Prop :=
  vs.length = xss.length ∧ (∀ (k : Nat) (u : Value) (zs : List Int), vs[k]? = some u → xss[k]? = some zs → OI w B C e u zs) ∧
    (∀ (i j : Nat) (u u' : Value), i < j → vs[i]? = some u → vs[j]? = some u' → Apart u u')

section
variable {w w' : World} {B C B' C' : Nat} {e : TypeId} {vs : List Value} {xss : List (List Int)}
theorem RowsOwn.nil (w : World) (B C : Nat) (e : TypeId) : RowsOwn w B C e [] [] := ⟨rfl, fun k u zs h => by simp at h, fun i j u u' _ h => by simp at h⟩
theorem RowsOwn.below (h : RowsOwn w B C e vs xss) (hb : Below w.heap.size w w') : RowsOwn w' B C e vs xss := ⟨h.1, fun k u zs hu hz => (h.2.1 k u zs hu hz).below hb, h.2.2⟩
theorem RowsOwn.kept (h : RowsOwn w B C e vs xss) (hc : Chg B' C' w w') (hd : C ≤ B' ∨ C' ≤ B) : RowsOwn w' B C e vs xss := ⟨h.1, fun k u zs hu hz => (h.2.1 k u zs hu hz).kept hc hd, h.2.2⟩
theorem RowsOwn.mono (h : RowsOwn w B C e vs xss) (h1 : B' ≤ B) (h2 : C ≤ C') : RowsOwn w B' C' e vs xss := ⟨h.1, fun k u zs hu hz => (h.2.1 k u zs hu hz).mono h1 h2, h.2.2⟩
/-- another block, whose elements have another type, has turned -/
theorem RowsOwn.other {row : Option Nat} (h : RowsOwn w B C e vs xss) (hg : w.grownBy w' row) (hne : ∀ (k : Nat) (u : Value), vs[k]? = some u → u.ownBlock = none ∨ u.ownBlock ≠ row) : RowsOwn w' B C e vs xss :=
  ⟨h.1, fun k u zs hu hz => ⟨⟨(h.2.1 k u zs hu hz).1.1.kept hg (hne k u hu), (h.2.1 k u zs hu hz).1.2⟩, (h.2.1 k u zs hu hz).2⟩, h.2.2⟩
theorem RowsOwn.snoc {u : Value} {zs : List Int} (h : RowsOwn w B C e vs xss) (hu : OI w B C e u zs) (hap : ∀ (k : Nat) (u' : Value), vs[k]? = some u' → Apart u' u) : RowsOwn w B C e (vs ++ [u]) (xss ++ [zs]) := by
  refine ⟨by simp [h.1], fun k u' zs' hu' hz' => ?_, fun i j a b hij ha hb => ?_⟩
  · by_cases hk : k < vs.length
    · rw [List.getElem?_append_left hk] at hu'
      rw [List.getElem?_append_left (by rw [← h.1]; exact hk)] at hz'
      exact h.2.1 k u' zs' hu' hz'
    · have hk' : k = vs.length := by
        have := (List.getElem?_eq_some_iff.1 hu').1
        simp at this; omega
      subst hk'
      rw [List.getElem?_append_right (Nat.le_refl _)] at hu'
      rw [List.getElem?_append_right (by rw [h.1]; exact Nat.le_refl _)] at hz'
      simp [h.1] at hu' hz'
      subst hu'; subst hz'
      exact hu
  · by_cases hj : j < vs.length
    · rw [List.getElem?_append_left hj] at hb
      rw [List.getElem?_append_left (by omega)] at ha
      exact h.2.2 i j a b hij ha hb
    · have hj' : j = vs.length := by
        have := (List.getElem?_eq_some_iff.1 hb).1
        simp at this; omega
      subst hj'
      rw [List.getElem?_append_left hij] at ha
      rw [List.getElem?_append_right (Nat.le_refl _)] at hb
      simp at hb
      subst hb
      exact hap i a ha
theorem RowsOwn.oneCell (h : RowsOwn w B C e vs xss) : ∀ u ∈ vs, u.oneCell' = true := by
  intro u hu
  obtain ⟨k, hk, rfl⟩ := List.getElem_of_mem hu
  have hz : xss[k]? = some (xss[k]'(by rw [← h.1]; exact hk)) := List.getElem?_eq_getElem _
  rcases (h.2.1 k _ _ (List.getElem?_eq_getElem hk) hz).1.1.cases with ⟨e, _⟩ | ⟨g, cap, cur, e, _⟩ <;> rw [e] <;> rfl
end

/-- an owned list of lists: the outer row holds the values vs -/
def OR (w : World) (B C : Nat) (e2 e1 : TypeId) (v : Value) (xss : List (List Int)) : Prop :=
  ∃ vs, Own w B e2 v vs ∧ (∀ b, v.ownBlock = some b → b < C) ∧ RowsOwn w B C e1 vs xss

section
variable {w w' : World} {B C B' C' : Nat} {e2 e1 : TypeId} {v : Value} {xss : List (List Int)}
theorem OR.rows (h : OR w B C e2 e1 v xss) : Rows w v xss := by
  obtain ⟨vs, h1, h2, h3⟩ := h
  exact ⟨vs, h1.cells, h3.1, fun k u x hu hx => (h3.2.1 k u x hu hx).ints⟩
theorem OR.kept (h : OR w B C e2 e1 v xss) (hc : Chg B' C' w w') (hd : C ≤ B' ∨ C' ≤ B) : OR w' B C e2 e1 v xss := by
  obtain ⟨vs, h1, h2, h3⟩ := h
  exact ⟨vs, h1.of_block fun b hb => hc.block b (h1.lt b hb) (by have := h1.ge b hb; have := h2 b hb; omega), h2, h3.kept hc hd⟩
theorem OR.below (h : OR w B C e2 e1 v xss) (hb : Below w.heap.size w w') : OR w' B C e2 e1 v xss := by
  obtain ⟨vs, h1, h2, h3⟩ := h
  exact ⟨vs, h1.below hb, h2, h3.below hb⟩
theorem OR.drewN (h : OR w B C e2 e1 v xss) (n : Nat) : OR (w.drewN n) B C e2 e1 v xss := h
theorem OR.mono (h : OR w B C e2 e1 v xss) (h1 : B' ≤ B) (h2 : C ≤ C') : OR w B' C' e2 e1 v xss := by
  obtain ⟨vs, g1, g2, g3⟩ := h
  exact ⟨vs, g1.mono h1, fun b hb => Nat.lt_of_lt_of_le (g2 b hb) h2, g3.mono h1 h2⟩
theorem OR.nil (w : World) (B C : Nat) (e2 e1 : TypeId) : OR w B C e2 e1 (.slice none 0 0) [] := ⟨[], Own.nil w B e2, fun b hb => by simp [Value.ownBlock] at hb, RowsOwn.nil w B C e1⟩
theorem Rows.drewN (h : Rows w v xss) (n : Nat) : Rows (w.drewN n) v xss := h
theorem OI.nil (w : World) (B C : Nat) (e : TypeId) : OI w B C e (.slice none 0 0) [] := ⟨OwnInts.nil w B e, fun b hb => by simp [Value.ownBlock] at hb⟩
end

theorem below1 (w : World) (o1 : Obj) : Below w.heap.size w (w.alloc o1) := (Below.refl _ _).alloc (Nat.le_refl _) _
theorem below2 (w : World) (o1 o2 : Obj) : Below w.heap.size w ((w.alloc o1).alloc o2) := (below1 w o1).alloc (by simp) _
theorem below3 (w : World) (o1 o2 o3 : Obj) : Below w.heap.size w (((w.alloc o1).alloc o2).alloc o3) := (below2 w o1 o2).alloc (by simp; omega) _

theorem below_of_drew {B : Nat} {w w' : World} (h : Below B w.drew w') : Below B w w' := ⟨h.os, h.tape, h.output, h.size, h.block⟩
/-- block g holds just the cells cs, of type t -/
def Blk (w : World) (g : Nat) (t : TypeId) (cs : Array Value) : Prop := w.heap[g]? = some (.cells cs t (0, 0))
section
variable {w w' : World} {g : Nat} {t : TypeId} {cs : Array Value}
theorem Blk.lt (h : Blk w g t cs) : g < w.heap.size := (Array.getElem?_eq_some_iff.1 h).1
theorem Blk.cell (h : Blk w g t cs) (i : Nat) : w.cell? ⟨g, i, none⟩ = cs[i]? := cell_of_row w g i cs t (0, 0) h
theorem Blk.frozen (h : Blk w g t cs) (i : Nat) : w.frozen? ⟨g, i, none⟩ = false := by
  unfold Blk at h
  simp [World.frozen?, h]
theorem Blk.set_ (h : Blk w g t cs) (i : Nat) (u : Value) : Blk (w.setCell ⟨g, i, none⟩ u) g t (cs.setIfInBounds i u) := by
  unfold Blk at h ⊢
  simp [World.setCell, Array.getElem?_modify, h]
theorem Blk.far (h : Blk w g t cs) {p : Addr} (hp : g ≠ p.block) (u : Value) : Blk (w.setCell p u) g t cs := (Below.heap_setCell w p u g hp).trans h
theorem Blk.below {B : Nat} (h : Blk w g t cs) (hb : Below B w w') (hg : g < B) : Blk w' g t cs := (hb.block g hg).trans h
theorem Blk.alloc (h : Blk w g t cs) (o : Obj) : Blk (w.alloc o) g t cs := (Below.heap_alloc w o g h.lt).trans h
theorem Blk.drewN (h : Blk w g t cs) (n : Nat) : Blk (w.drewN n) g t cs := h
theorem Blk.new (w : World) (cs : Array Value) (t : TypeId) : Blk (w.alloc (.cells cs t)) w.heap.size t cs := heap_alloc_new w _
theorem size_alloc' (w : World) (o : Obj) : (w.alloc o).heap.size = w.heap.size + 1 := by simp
theorem Blk.new1 (w : World) (o : Obj) (cs : Array Value) (t : TypeId) : Blk ((w.alloc o).alloc (.cells cs t)) (w.heap.size + 1) t cs := by
  have := Blk.new (w.alloc o) cs t
  rwa [size_alloc'] at this
theorem Blk.new2 (w : World) (o o' : Obj) (cs : Array Value) (t : TypeId) : Blk (((w.alloc o).alloc o').alloc (.cells cs t)) (w.heap.size + 1 + 1) t cs := by
  have := Blk.new1 (w.alloc o) o' cs t
  rwa [size_alloc'] at this
theorem Blk.chg {B C : Nat} (h : Blk w g t cs) (hc : Chg B C w w') (hd : g < B ∨ C ≤ g) : Blk w' g t cs := (hc.block g h.lt hd).trans h
end
theorem Chg.setCell {B C : Nat} {w w' : World} (h : Chg B C w w') {p : Addr} (h1 : B ≤ p.block) (h2 : p.block < C) (u : Value) : Chg B C w (w'.setCell p u) :=
  ⟨h.os, h.tape, h.output, by simpa [World.setCell] using h.size, fun k hk hd => (Below.heap_setCell _ _ _ k (by rintro rfl; omega)).trans (h.block k hk hd)⟩

end Go.Proofs.YtdjhfeaimmpmhaaGreat

set_option linter.unusedVariables false
set_option linter.unusedSimpArgs false
namespace Go.Proofs.YtdjhfeaimmpmhaaGreat
open Go.RowKit

theorem T_int : ElemT Tryz.prog 24 2 (.int .i64 0) 8 := ⟨Tryz.underlying24, by kernel_rfl, rfl, by omega⟩

theorem take_eq_succ {xs ys : List Int} {k : Nat} {x y : Int} (h : xs.take k = ys.take k) (hx : xs[k]? = some x) (hy : ys[k]? = some y) (e : x = y) : xs.take (k + 1) = ys.take (k + 1) := by
  rw [List.take_add_one, List.take_add_one, h, hx, hy, e]

/-- the marks k, k + 1, .. -/
def marks (k : Int) (n : Nat) : List Int := (List.range n).map fun (i : Nat) => k + (i : Int)
end Go.Proofs.YtdjhfeaimmpmhaaGreat

set_option linter.unusedVariables false
set_option linter.unusedSimpArgs false
namespace Go.Proofs.YtdjhfeaimmpmhaaGreat
open Go.RowKit

theorem T_row : ElemT Tryz.prog 43 24 (.slice none 0 0) 24 := ⟨Tryz.underlying43, by kernel_rfl, rfl, by omega⟩

abbrev tI : TypeId := 2
abbrev tL : TypeId := 24

theorem rtake_succ {xs ys : List (List Int)} {k : Nat} {x y : List Int} (h : xs.take k = ys.take k) (hx : xs[k]? = some x) (hy : ys[k]? = some y) (e : x = y) : xs.take (k + 1) = ys.take (k + 1) := by
  rw [List.take_add_one, List.take_add_one, h, hx, hy, e]

/-- a tableau that came in -/
def TabArg (w : World) (v : Value) (A : List (List Int)) (Bs : List Int) : Prop := ∃ va vb, v = .agg #[va, vb] ∧ Rows w va A ∧ Ints w vb Bs
/-- an owned tableau: the rows, the row of rows and the weights lie in blocks of their own -/
def OT (w : World) (B C : Nat) (v : Value) (A : List (List Int)) (Bs : List Int) : Prop :=
  ∃ va vb vs, v = .agg #[va, vb] ∧ Own w B tL va vs ∧ (∀ b, va.ownBlock = some b → b < C) ∧ RowsOwn w B C tI vs A ∧ OI w B C tI vb Bs ∧ ∀ (k : Nat) (u : Value), vs[k]? = some u → Apart u vb

section
variable {w w' : World} {B C B' C' : Nat} {v : Value} {A : List (List Int)} {Bs : List Int}
theorem TabArg.below (h : TabArg w v A Bs) (hb : Below w.heap.size w w') : TabArg w' v A Bs := by
  obtain ⟨va, vb, rfl, h1, h2⟩ := h
  exact ⟨va, vb, rfl, h1.below hb, h2.below hb⟩
theorem TabArg.drewN (h : TabArg w v A Bs) (n : Nat) : TabArg (w.drewN n) v A Bs := h
theorem OT.arg (h : OT w B C v A Bs) : TabArg w v A Bs := by
  obtain ⟨va, vb, vs, rfl, h1, h2, h3, h4, h5⟩ := h
  exact ⟨va, vb, rfl, OR.rows ⟨vs, h1, h2, h3⟩, h4.ints⟩
theorem OT.below (h : OT w B C v A Bs) (hb : Below w.heap.size w w') : OT w' B C v A Bs := by
  obtain ⟨va, vb, vs, rfl, h1, h2, h3, h4, h5⟩ := h
  exact ⟨va, vb, vs, rfl, h1.below hb, h2, h3.below hb, h4.below hb, h5⟩
theorem OT.drewN (h : OT w B C v A Bs) (n : Nat) : OT (w.drewN n) B C v A Bs := h
theorem OT.kept (h : OT w B C v A Bs) (hc : Chg B' C' w w') (hd : C ≤ B' ∨ C' ≤ B) : OT w' B C v A Bs := by
  obtain ⟨va, vb, vs, rfl, h1, h2, h3, h4, h5⟩ := h
  exact ⟨va, vb, vs, rfl, h1.of_block fun b hb => hc.block b (h1.lt b hb) (by have := h1.ge b hb; have := h2 b hb; omega), h2, h3.kept hc hd, h4.kept hc hd, h5⟩
theorem OT.mono (h : OT w B C v A Bs) (h1 : B' ≤ B) (h2 : C ≤ C') : OT w B' C' v A Bs := by
  obtain ⟨va, vb, vs, rfl, g1, g2, g3, g4, g5⟩ := h
  exact ⟨va, vb, vs, rfl, g1.mono h1, fun b hb => Nat.lt_of_lt_of_le (g2 b hb) h2, g3.mono h1 h2, g4.mono h1 h2, g5⟩
theorem RowsOwn.apart {M : Nat} {vs : List Value} {u' : Value} {e : TypeId} (h : RowsOwn w B C e vs A) (hu : ∀ b, u'.ownBlock = some b → C ≤ b ∨ b < B) : ∀ (k : Nat) (u : Value), vs[k]? = some u → Apart u u' := by
  intro k u hk
  have hx : A[k]? = some (A[k]'(by rw [← h.1]; exact (List.getElem?_eq_some_iff.1 hk).1)) := List.getElem?_eq_getElem _
  have ho := h.2.1 k u _ hk hx
  unfold Apart
  cases hb : u.ownBlock with
  | none => exact .inl rfl
  | some b =>
    refine .inr fun e => ?_
    have h1 := ho.2 b hb
    have h2 := ho.1.1.ge b hb
    have h3 := hu b e.symm
    omega
/-- the rows lie before M, the weights from M on -/
theorem OT.of_M {M : Nat} {va vb : Value} (h0 : B ≤ M) (h1 : M ≤ C) (hA : OR w B M tL tI va A) (hB : OI w M C tI vb Bs) : OT w B C (.agg #[va, vb]) A Bs := by
  obtain ⟨vs, g1, g2, g3⟩ := hA
  exact ⟨va, vb, vs, rfl, g1, fun b hb => Nat.lt_of_lt_of_le (g2 b hb) h1, g3.mono (Nat.le_refl _) h1, hB.mono h0 (Nat.le_refl _), g3.apart (M := M) fun b hb => .inl (hB.1.1.ge b hb)⟩
/-- the weights lie before M, the rows from M on -/
theorem OT.of_M' {M : Nat} {va vb : Value} (h0 : B ≤ M) (h1 : M ≤ C) (hB : OI w B M tI vb Bs) (hA : OR w M C tL tI va A) : OT w B C (.agg #[va, vb]) A Bs := by
  obtain ⟨vs, g1, g2, g3⟩ := hA
  exact ⟨va, vb, vs, rfl, g1.mono h0, g2, g3.mono h0 (Nat.le_refl _), hB.mono (Nat.le_refl _) h1, g3.apart (M := M) fun b hb => .inr (hB.2 b hb)⟩
end

theorem OT.open_ {w : World} {B C : Nat} {v : Value} {A : List (List Int)} {Bs : List Int} (h : OT w B C v A Bs) : ∃ Aa ca Ab cb, v = .agg #[.slice Aa A.length ca, .slice Ab Bs.length cb] := by
  obtain ⟨va, vb, rfl, h1, h2⟩ := h.arg
  obtain ⟨Aa, ca, rfl, _⟩ := h1.open_
  obtain ⟨Ab, cb, rfl, _⟩ := h2.open_
  exact ⟨_, _, _, _, rfl⟩
theorem TabArg.open_ {w : World} {v : Value} {A : List (List Int)} {Bs : List Int} (h : TabArg w v A Bs) : ∃ Aa ca Ab cb, v = .agg #[.slice Aa A.length ca, .slice Ab Bs.length cb] := by
  obtain ⟨va, vb, rfl, h1, h2⟩ := h
  obtain ⟨Aa, ca, rfl, _⟩ := h1.open_
  obtain ⟨Ab, cb, rfl, _⟩ := h2.open_
  exact ⟨_, _, _, _, rfl⟩
end Go.Proofs.YtdjhfeaimmpmhaaGreat

