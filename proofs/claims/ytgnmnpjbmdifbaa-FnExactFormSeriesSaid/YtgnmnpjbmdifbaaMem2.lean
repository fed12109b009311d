/- More words for memory: what changes within an interval of blocks; owned lists of lists. No program in sight. -/
import Derived.Test.YtgnmnpjbmdifbaaMem
import Derived.Deep.QuietTactic
set_option linter.unusedVariables false
set_option linter.unusedSimpArgs false
namespace Go.Proofs.Ytgnmnpjbmdifbaa
open Go.RowKit

/-- of the blocks that were there only those from B to C (without C) may have turned -/
structure Chg (B C : Nat) (w w' : World) : Prop where
  os : w'.os = w.os
  tape : w'.tape = w.tape
  output : w'.output = w.output
  size : w.heap.size ≤ w'.heap.size
  block : ∀ k, k < w.heap.size → (k < B ∨ C ≤ k) → w'.heap[k]? = w.heap[k]?

section
variable {B C B' C' B0 : Nat} {w w' w'' w0 : World}
theorem Chg.refl (B C : Nat) (w : World) : Chg B C w w := ⟨rfl, rfl, rfl, Nat.le_refl _, fun _ _ _ => rfl⟩
theorem Chg.trans (h : Chg B C w w') (h' : Chg B C w' w'') : Chg B C w w'' :=
  ⟨h'.os.trans h.os, h'.tape.trans h.tape, h'.output.trans h.output, Nat.le_trans h.size h'.size, fun k hk hd => (h'.block k (Nat.lt_of_lt_of_le hk h.size) hd).trans (h.block k hk hd)⟩
theorem Chg.mono (h : Chg B C w w') (h1 : B' ≤ B) (h2 : C ≤ C') : Chg B' C' w w' := ⟨h.os, h.tape, h.output, h.size, fun k hk hd => h.block k hk (by omega)⟩
theorem Chg.below (h : Chg B C w w') (hb : Below B0 w0 w) (hB : B0 ≤ B) (hs : B0 ≤ w.heap.size) : Below B0 w0 w' :=
  hb.trans ⟨h.os, h.tape, h.output, h.size, fun k hk => h.block k (by omega) (.inl (by omega))⟩
theorem Chg.of_below (h : Below w.heap.size w w') (B C : Nat) : Chg B C w w' := ⟨h.os, h.tape, h.output, h.size, fun k hk _ => h.block k hk⟩
theorem Chg.of_grown {v : Value} (h : w.grownBy w' v.ownBlock) (h1 : ∀ b, v.ownBlock = some b → B ≤ b ∧ b < C) : Chg B C w w' :=
  ⟨h.os, h.tape, h.output, h.size, fun k hk hd => h.block k hk (fun e => by have := h1 k e.symm; omega)⟩
theorem Chg.drewN (h : Chg B C w w') (n : Nat) : Chg B C w (w'.drewN n) := ⟨h.os, h.tape, h.output, h.size, h.block⟩
end

/-- a quiet call behind draws: for go_quiet -/
theorem quiet_more {P : Program} {f : FuncId} {args : Array Value} {w : World} {a n : Nat} {v : Value}
    (h : Calls P f args (w.drewN (a + n)) fun e w' => e = .returned v ∧ ∃ m, w' = (w.drewN (a + n)).drewN m) :
    Calls P f args (w.drewN (a + n)) fun e w'' => e = .returned v ∧ ∃ m, w'' = w.drewN (a + m) :=
  h.mono fun _ _ ⟨he, m, hm⟩ => ⟨he, n + m, by rw [hm, World.drewN_drewN, Nat.add_assoc]⟩
theorem quiet_same {P : Program} {f : FuncId} {args : Array Value} {w : World} {a n : Nat} {v : Value}
    (h : Calls P f args (w.drewN (a + n)) fun e w' => e = .returned v ∧ w.drewN (a + n) = w') :
    Calls P f args (w.drewN (a + n)) fun e w'' => e = .returned v ∧ ∃ m, w'' = w.drewN (a + m) :=
  h.mono fun _ _ ⟨he, hm⟩ => ⟨he, n, hm.symm⟩
theorem quiet_same0 {P : Program} {f : FuncId} {args : Array Value} {w : World} {n : Nat} {v : Value}
    (h : Calls P f args (w.drewN n) fun e w' => e = .returned v ∧ w.drewN n = w') :
    Calls P f args (w.drewN n) fun e w'' => e = .returned v ∧ ∃ m, w'' = w.drewN m :=
  h.mono fun _ _ ⟨he, hm⟩ => ⟨he, n, hm.symm⟩

/-- an owned list of numbers whose block lies from B to C -/
def OI (w : World) (B C : Nat) (e : TypeId) (v : Value) (zs : List Int) : Prop := OwnInts w B e v zs ∧ ∀ b, v.ownBlock = some b → b < C

section
variable {w w' : World} {B C B' C' : Nat} {e : TypeId} {v : Value} {zs : List Int}
theorem OI.of (h : OwnInts w B e v zs) : OI w B w.heap.size e v zs := ⟨h, h.1.lt⟩
theorem OI.ints (h : OI w B C e v zs) : Ints w v zs := h.1.ints
theorem OI.kept (h : OI w B C e v zs) (hc : Chg B' C' w w') (hd : C ≤ B' ∨ C' ≤ B) : OI w' B C e v zs :=
  ⟨⟨h.1.1.of_block fun b hb => hc.block b (h.1.1.lt b hb) (by have := h.1.1.ge b hb; have := h.2 b hb; omega), h.1.2⟩, h.2⟩
theorem OI.below (h : OI w B C e v zs) (hb : Below w.heap.size w w') : OI w' B C e v zs := ⟨h.1.below hb, h.2⟩
theorem OI.drewN (h : OI w B C e v zs) (n : Nat) : OI (w.drewN n) B C e v zs := h
theorem Ints.drewN (h : Ints w v zs) (n : Nat) : Ints (w.drewN n) v zs := h
theorem OI.mono (h : OI w B C e v zs) (h1 : B' ≤ B) (h2 : C ≤ C') : OI w B' C' e v zs := ⟨h.1.mono h1, fun b hb => Nat.lt_of_lt_of_le (h.2 b hb) h2⟩
end

/-- the values vs own the lists xss, each in a block of its own -/
def RowsOwn (w : World) (B C : Nat) (e : TypeId) (vs : List Value) (xss : List (List Int)) : Prop :=
  vs.length = xss.length ∧ (∀ (k : Nat) (u : Value) (zs : List Int), vs[k]? = some u → xss[k]? = some zs → OI w B C e u zs) ∧
    (∀ (i j : Nat) (u u' : Value), i < j → vs[i]? = some u → vs[j]? = some u' → Apart u u')

section
variable {w w' : World} {B C B' C' : Nat} {e : TypeId} {vs : List Value} {xss : List (List Int)}
theorem RowsOwn.nil (w : World) (B C : Nat) (e : TypeId) : RowsOwn w B C e [] [] := ⟨rfl, fun k u zs h => by simp at h, fun i j u u' _ h => by simp at h⟩
theorem RowsOwn.below (h : RowsOwn w B C e vs xss) (hb : Below w.heap.size w w') : RowsOwn w' B C e vs xss := ⟨h.1, fun k u zs hu hz => (h.2.1 k u zs hu hz).below hb, h.2.2⟩
theorem RowsOwn.kept (h : RowsOwn w B C e vs xss) (hc : Chg B' C' w w') (hd : C ≤ B' ∨ C' ≤ B) : RowsOwn w' B C e vs xss := ⟨h.1, fun k u zs hu hz => (h.2.1 k u zs hu hz).kept hc hd, h.2.2⟩
theorem RowsOwn.mono (h : RowsOwn w B C e vs xss) (h1 : B' ≤ B) (h2 : C ≤ C') : RowsOwn w B' C' e vs xss := ⟨h.1, fun k u zs hu hz => (h.2.1 k u zs hu hz).mono h1 h2, h.2.2⟩
/-- another block, whose elements have another type, has turned -/
theorem RowsOwn.other {row : Option Nat} (h : RowsOwn w B C e vs xss) (hg : w.grownBy w' row) (hne : ∀ (k : Nat) (u : Value), vs[k]? = some u → u.ownBlock = none ∨ u.ownBlock ≠ row) : RowsOwn w' B C e vs xss :=
  ⟨h.1, fun k u zs hu hz => ⟨⟨(h.2.1 k u zs hu hz).1.1.kept hg (hne k u hu), (h.2.1 k u zs hu hz).1.2⟩, (h.2.1 k u zs hu hz).2⟩, h.2.2⟩
theorem RowsOwn.snoc {u : Value} {zs : List Int} (h : RowsOwn w B C e vs xss) (hu : OI w B C e u zs) (hap : ∀ (k : Nat) (u' : Value), vs[k]? = some u' → Apart u' u) : RowsOwn w B C e (vs ++ [u]) (xss ++ [zs]) := by
  refine ⟨by simp [h.1], fun k u' zs' hu' hz' => ?_, fun i j a b hij ha hb => ?_⟩
  · by_cases hk : k < vs.length
    · rw [List.getElem?_append_left hk] at hu'
      rw [List.getElem?_append_left (by rw [← h.1]; exact hk)] at hz'
      exact h.2.1 k u' zs' hu' hz'
    · have hk' : k = vs.length := by
        have := (List.getElem?_eq_some_iff.1 hu').1
        simp at this; omega
      subst hk'
      rw [List.getElem?_append_right (Nat.le_refl _)] at hu'
      rw [List.getElem?_append_right (by rw [h.1]; exact Nat.le_refl _)] at hz'
      simp [h.1] at hu' hz'
      subst hu'; subst hz'
      exact hu
  · by_cases hj : j < vs.length
    · rw [List.getElem?_append_left hj] at hb
      rw [List.getElem?_append_left (by omega)] at ha
      exact h.2.2 i j a b hij ha hb
    · have hj' : j = vs.length := by
        have := (List.getElem?_eq_some_iff.1 hb).1
        simp at this; omega
      subst hj'
      rw [List.getElem?_append_left hij] at ha
      rw [List.getElem?_append_right (Nat.le_refl _)] at hb
      simp at hb
      subst hb
      exact hap i a ha
theorem RowsOwn.oneCell (h : RowsOwn w B C e vs xss) : ∀ u ∈ vs, u.oneCell' = true := by
  intro u hu
  obtain ⟨k, hk, rfl⟩ := List.getElem_of_mem hu
  have hz : xss[k]? = some (xss[k]'(by rw [← h.1]; exact hk)) := List.getElem?_eq_getElem _
  rcases (h.2.1 k _ _ (List.getElem?_eq_getElem hk) hz).1.1.cases with ⟨e, _⟩ | ⟨g, cap, cur, e, _⟩ <;> rw [e] <;> rfl
end

/-- an owned list of lists: the outer row holds the values vs -/
def OR (w : World) (B C : Nat) (e2 e1 : TypeId) (v : Value) (xss : List (List Int)) : Prop :=
  ∃ vs, Own w B e2 v vs ∧ (∀ b, v.ownBlock = some b → b < C) ∧ RowsOwn w B C e1 vs xss

section
variable {w w' : World} {B C B' C' : Nat} {e2 e1 : TypeId} {v : Value} {xss : List (List Int)}
theorem OR.rows (h : OR w B C e2 e1 v xss) : Rows w v xss := by
  obtain ⟨vs, h1, h2, h3⟩ := h
  exact ⟨vs, h1.cells, h3.1, fun k u x hu hx => (h3.2.1 k u x hu hx).ints⟩
theorem OR.kept (h : OR w B C e2 e1 v xss) (hc : Chg B' C' w w') (hd : C ≤ B' ∨ C' ≤ B) : OR w' B C e2 e1 v xss := by
  obtain ⟨vs, h1, h2, h3⟩ := h
  exact ⟨vs, h1.of_block fun b hb => hc.block b (h1.lt b hb) (by have := h1.ge b hb; have := h2 b hb; omega), h2, h3.kept hc hd⟩
theorem OR.below (h : OR w B C e2 e1 v xss) (hb : Below w.heap.size w w') : OR w' B C e2 e1 v xss := by
  obtain ⟨vs, h1, h2, h3⟩ := h
  exact ⟨vs, h1.below hb, h2, h3.below hb⟩
theorem OR.drewN (h : OR w B C e2 e1 v xss) (n : Nat) : OR (w.drewN n) B C e2 e1 v xss := h
theorem OR.mono (h : OR w B C e2 e1 v xss) (h1 : B' ≤ B) (h2 : C ≤ C') : OR w B' C' e2 e1 v xss := by
  obtain ⟨vs, g1, g2, g3⟩ := h
  exact ⟨vs, g1.mono h1, fun b hb => Nat.lt_of_lt_of_le (g2 b hb) h2, g3.mono h1 h2⟩
theorem OR.nil (w : World) (B C : Nat) (e2 e1 : TypeId) : OR w B C e2 e1 (.slice none 0 0) [] := ⟨[], Own.nil w B e2, fun b hb => by simp [Value.ownBlock] at hb, RowsOwn.nil w B C e1⟩
theorem Rows.drewN (h : Rows w v xss) (n : Nat) : Rows (w.drewN n) v xss := h
theorem OI.nil (w : World) (B C : Nat) (e : TypeId) : OI w B C e (.slice none 0 0) [] := ⟨OwnInts.nil w B e, fun b hb => by simp [Value.ownBlock] at hb⟩
end

theorem below1 (w : World) (o1 : Obj) : Below w.heap.size w (w.alloc o1) := (Below.refl _ _).alloc (Nat.le_refl _) _
theorem below2 (w : World) (o1 o2 : Obj) : Below w.heap.size w ((w.alloc o1).alloc o2) := (below1 w o1).alloc (by simp) _
theorem below3 (w : World) (o1 o2 o3 : Obj) : Below w.heap.size w (((w.alloc o1).alloc o2).alloc o3) := (below2 w o1 o2).alloc (by simp; omega) _

theorem below_of_drew {B : Nat} {w w' : World} (h : Below B w.drew w') : Below B w w' := ⟨h.os, h.tape, h.output, h.size, h.block⟩
theorem below_of_drewN {B n : Nat} {w w' : World} (h : Below B (w.drewN n) w') : Below B w w' := ⟨h.os, h.tape, h.output, h.size, h.block⟩

/-- block g holds just the cells cs, of type t -/
def Blk (w : World) (g : Nat) (t : TypeId) (cs : Array Value) : Prop := w.heap[g]? = some (.cells cs t (0, 0))
section
variable {w w' : World} {g : Nat} {t : TypeId} {cs : Array Value}
theorem Blk.lt (h : Blk w g t cs) : g < w.heap.size := (Array.getElem?_eq_some_iff.1 h).1
theorem Blk.cell (h : Blk w g t cs) (i : Nat) : w.cell? ⟨g, i, none⟩ = cs[i]? := cell_of_row w g i cs t (0, 0) h
theorem Blk.frozen (h : Blk w g t cs) (i : Nat) : w.frozen? ⟨g, i, none⟩ = false := by
  unfold Blk at h
  simp [World.frozen?, h]
theorem Blk.set_ (h : Blk w g t cs) (i : Nat) (u : Value) : Blk (w.setCell ⟨g, i, none⟩ u) g t (cs.setIfInBounds i u) := by
  unfold Blk at h ⊢
  simp [World.setCell, Array.getElem?_modify, h]
theorem Blk.far (h : Blk w g t cs) {p : Addr} (hp : g ≠ p.block) (u : Value) : Blk (w.setCell p u) g t cs := (Below.heap_setCell w p u g hp).trans h
theorem Blk.below {B : Nat} (h : Blk w g t cs) (hb : Below B w w') (hg : g < B) : Blk w' g t cs := (hb.block g hg).trans h
theorem Blk.alloc (h : Blk w g t cs) (o : Obj) : Blk (w.alloc o) g t cs := (Below.heap_alloc w o g h.lt).trans h
theorem Blk.drewN (h : Blk w g t cs) (n : Nat) : Blk (w.drewN n) g t cs := h
theorem Blk.new (w : World) (cs : Array Value) (t : TypeId) : Blk (w.alloc (.cells cs t)) w.heap.size t cs := heap_alloc_new w _
theorem size_alloc' (w : World) (o : Obj) : (w.alloc o).heap.size = w.heap.size + 1 := by simp
theorem Blk.new1 (w : World) (o : Obj) (cs : Array Value) (t : TypeId) : Blk ((w.alloc o).alloc (.cells cs t)) (w.heap.size + 1) t cs := by
  have := Blk.new (w.alloc o) cs t
  rwa [size_alloc'] at this
theorem Blk.new2 (w : World) (o o' : Obj) (cs : Array Value) (t : TypeId) : Blk (((w.alloc o).alloc o').alloc (.cells cs t)) (w.heap.size + 1 + 1) t cs := by
  have := Blk.new1 (w.alloc o) o' cs t
  rwa [size_alloc'] at this
theorem Blk.chg {B C : Nat} (h : Blk w g t cs) (hc : Chg B C w w') (hd : g < B ∨ C ≤ g) : Blk w' g t cs := (hc.block g h.lt hd).trans h
end
theorem Chg.setCell {B C : Nat} {w w' : World} (h : Chg B C w w') {p : Addr} (h1 : B ≤ p.block) (h2 : p.block < C) (u : Value) : Chg B C w (w'.setCell p u) :=
  ⟨h.os, h.tape, h.output, by simpa [World.setCell] using h.size, fun k hk hd => (Below.heap_setCell _ _ _ k (by rintro rfl; omega)).trans (h.block k hk hd)⟩

end Go.Proofs.Ytgnmnpjbmdifbaa
