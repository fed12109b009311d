/- More words for memory: what changes within an interval of blocks; owned lists of lists. No program in sight. | The walks of the small functions of the laws: copies, comparisons, marks. | The walks of the laws' small functions over lists of lists and tableaus. | Words of memory for level lists and lists of them: slices of slices, rows that can be read, branches that grow. | Slices of slices, at lists of numbers and at lists of lists. | The walks of the arithmetic of the program and of the reference: num, pow, inv and their like. -/
import Derived.Test.YtofabikjjkapmaaGreatCo2
import Derived.Deep.QuietTactic
import Derived.Test.YtofabikjjkapmaaGreatRows
import Derived.WalkLawsBesides
import Derived.BigQuiet
import Derived.Test.YtofabikjjkapmaaGreatCo1
set_option linter.unusedVariables false
set_option linter.unusedSimpArgs false
namespace Go.Proofs.YtofabikjjkapmaaGreat
open Go.RowKit

/-- of the blocks that were there only those from B to C (without C) may have turned -/
structure Chg (B C : Nat) (w w' : World) : Prop where
  os : w'.os = w.os
  tape : w'.tape = w.tape
  output : w'.output = w.output
  size : w.heap.size ≤ w'.heap.size
  block : ∀ k, k < w.heap.size → (k < B ∨ C ≤ k) → w'.heap[k]? = w.heap[k]?

section
variable {B C B' C' B0 : Nat} {w w' w'' w0 : World}
theorem Chg.refl (B C : Nat) (w : World) : Chg B C w w := ⟨rfl, rfl, rfl, Nat.le_refl _, fun _ _ _ => rfl⟩
theorem Chg.trans (h : Chg B C w w') (h' : Chg B C w' w'') : Chg B C w w'' :=
  ⟨h'.os.trans h.os, h'.tape.trans h.tape, h'.output.trans h.output, Nat.le_trans h.size h'.size, fun k hk hd => (h'.block k (Nat.lt_of_lt_of_le hk h.size) hd).trans (h.block k hk hd)⟩
theorem Chg.mono (h : Chg B C w w') (h1 : B' ≤ B) (h2 : C ≤ C') : Chg B' C' w w' := ⟨h.os, h.tape, h.output, h.size, fun k hk hd => h.block k hk (by omega)⟩
theorem Chg.below (h : Chg B C w w') (hb : Below B0 w0 w) (hB : B0 ≤ B) (hs : B0 ≤ w.heap.size) : Below B0 w0 w' :=
  hb.trans ⟨h.os, h.tape, h.output, h.size, fun k hk => h.block k (by omega) (.inl (by omega))⟩
theorem Chg.of_below (h : Below w.heap.size w w') (B C : Nat) : Chg B C w w' := ⟨h.os, h.tape, h.output, h.size, fun k hk _ => h.block k hk⟩
theorem Chg.of_grown {v : Value} (h : w.grownBy w' v.ownBlock) (h1 : ∀ b, v.ownBlock = some b → B ≤ b ∧ b < C) : Chg B C w w' :=
  ⟨h.os, h.tape, h.output, h.size, fun k hk hd => h.block k hk (fun e => by have := h1 k e.symm; omega)⟩
theorem Chg.drewN (h : Chg B C w w') (n : Nat) : Chg B C w (w'.drewN n) := ⟨h.os, h.tape, h.output, h.size, h.block⟩
end

theorem quiet_same {P : Program} {f : FuncId} {args : Array Value} {w : World} {a n : Nat} {v : Value}
    (h : Calls P f args (w.drewN (a + n)) fun e w' => e = .returned v ∧ w.drewN (a + n) = w') :
    Calls P f args (w.drewN (a + n)) fun e w'' => e = .returned v ∧ ∃ m, w'' = w.drewN (a + m) :=
  h.mono fun _ _ ⟨he, hm⟩ => ⟨he, n, hm.symm⟩
theorem quiet_same0 {P : Program} {f : FuncId} {args : Array Value} {w : World} {n : Nat} {v : Value}
    (h : Calls P f args (w.drewN n) fun e w' => e = .returned v ∧ w.drewN n = w') :
    Calls P f args (w.drewN n) fun e w'' => e = .returned v ∧ ∃ m, w'' = w.drewN m :=
  h.mono fun _ _ ⟨he, hm⟩ => ⟨he, n, hm.symm⟩

/-- an owned list of numbers whose block lies from B to C -/
def OI (w : World) (B C : Nat) (e : TypeId) (v : Value) (zs : List Int) : Prop := OwnInts w B e v zs ∧ ∀ b, v.ownBlock = some b → b < C

section
variable {w w' : World} {B C B' C' : Nat} {e : TypeId} {v : Value} {zs : List Int}
theorem OI.of (h : OwnInts w B e v zs) : OI w B w.heap.size e v zs := ⟨h, h.1.lt⟩
theorem OI.ints (h : OI w B C e v zs) : Ints w v zs := h.1.ints
theorem OI.kept (h : OI w B C e v zs) (hc : Chg B' C' w w') (hd : C ≤ B' ∨ C' ≤ B) : OI w' B C e v zs :=
  ⟨⟨h.1.1.of_block fun b hb => hc.block b (h.1.1.lt b hb) (by have := h.1.1.ge b hb; have := h.2 b hb; omega), h.1.2⟩, h.2⟩
theorem OI.below (h : OI w B C e v zs) (hb : Below w.heap.size w w') : OI w' B C e v zs := ⟨h.1.below hb, h.2⟩
theorem OI.drewN (h : OI w B C e v zs) (n : Nat) : OI (w.drewN n) B C e v zs := h
theorem Ints.drewN (h : Ints w v zs) (n : Nat) : Ints (w.drewN n) v zs := h
theorem OI.mono (h : OI w B C e v zs) (h1 : B' ≤ B) (h2 : C ≤ C') : OI w B' C' e v zs := ⟨h.1.mono h1, fun b hb => Nat.lt_of_lt_of_le (h.2 b hb) h2⟩
end

/-- the values vs own the lists xss, each in a block of its own -/
def RowsOwn (w : World) (B C : Nat) (e : TypeId) (vs : List Value) (xss : List (List Int)) : Prop :=
  vs.length = xss.length ∧ (∀ (k : Nat) (u : Value) (zs : List Int), vs[k]? = some u → xss[k]? = some zs → OI w B C e u zs) ∧
    (∀ (i j : Nat) (u u' : Value), i < j → vs[i]? = some u → vs[j]? = some u' → Apart u u')

section
variable {w w' : World} {B C B' C' : Nat} {e : TypeId} {vs : List Value} {xss : List (List Int)}
theorem RowsOwn.nil (w : World) (B C : Nat) (e : TypeId) : RowsOwn w B C e [] [] := ⟨rfl, fun k u zs h => by simp at h, fun i j u u' _ h => by simp at h⟩
theorem RowsOwn.below (h : RowsOwn w B C e vs xss) (hb : Below w.heap.size w w') : RowsOwn w' B C e vs xss := ⟨h.1, fun k u zs hu hz => (h.2.1 k u zs hu hz).below hb, h.2.2⟩
theorem RowsOwn.kept (h : RowsOwn w B C e vs xss) (hc : Chg B' C' w w') (hd : C ≤ B' ∨ C' ≤ B) : RowsOwn w' B C e vs xss := ⟨h.1, fun k u zs hu hz => (h.2.1 k u zs hu hz).kept hc hd, h.2.2⟩
theorem RowsOwn.mono (h : RowsOwn w B C e vs xss) (h1 : B' ≤ B) (h2 : C ≤ C') : RowsOwn w B' C' e vs xss := ⟨h.1, fun k u zs hu hz => (h.2.1 k u zs hu hz).mono h1 h2, h.2.2⟩
/-- another block, whose elements have another type, has turned -/
theorem RowsOwn.other {row : Option Nat} (h : RowsOwn w B C e vs xss) (hg : w.grownBy w' row) (hne : ∀ (k : Nat) (u : Value), vs[k]? = some u → u.ownBlock = none ∨ u.ownBlock ≠ row) : RowsOwn w' B C e vs xss :=
  ⟨h.1, fun k u zs hu hz => ⟨⟨(h.2.1 k u zs hu hz).1.1.kept hg (hne k u hu), (h.2.1 k u zs hu hz).1.2⟩, (h.2.1 k u zs hu hz).2⟩, h.2.2⟩
theorem RowsOwn.snoc {u : Value} {zs : List Int} (h : RowsOwn w B C e vs xss) (hu : OI w B C e u zs) (hap : ∀ (k : Nat) (u' : Value), vs[k]? = some u' → Apart u' u) : RowsOwn w B C e (vs ++ [u]) (xss ++ [zs]) := by
  refine ⟨by simp [h.1], fun k u' zs' hu' hz' => ?_, fun i j a b hij ha hb => ?_⟩
  · by_cases hk : k < vs.length
    · rw [List.getElem?_append_left hk] at hu'
      rw [List.getElem?_append_left (by rw [← h.1]; exact hk)] at hz'
      exact h.2.1 k u' zs' hu' hz'
    · have hk' : k = vs.length := by
        have := (List.getElem?_eq_some_iff.1 hu').1
        simp at this; omega
      subst hk'
      rw [List.getElem?_append_right (Nat.le_refl _)] at hu'
      rw [List.getElem?_append_right (by rw [h.1]; exact Nat.le_refl _)] at hz'
      simp [h.1] at hu' hz'
      subst hu'; subst hz'
      exact hu
  · by_cases hj : j < vs.length
    · rw [List.getElem?_append_left hj] at hb
      rw [List.getElem?_append_left (by omega)] at ha
      exact h.2.2 i j a b hij ha hb
    · have hj' : j = vs.length := by
        have := (List.getElem?_eq_some_iff.1 hb).1
        simp at this; omega
      subst hj'
      rw [List.getElem?_append_left hij] at ha
      rw [List.getElem?_append_right (Nat.le_refl _)] at hb
      simp at hb
      subst hb
      exact hap i a ha
theorem RowsOwn.oneCell (h : RowsOwn w B C e vs xss) : ∀ u ∈ vs, u.oneCell' = true := by
  intro u hu
  obtain ⟨k, hk, rfl⟩ := List.getElem_of_mem hu
  have hz : xss[k]? = some (xss[k]'(by rw [← h.1]; exact hk)) := List.getElem?_eq_getElem _
  rcases (h.2.1 k _ _ (List.getElem?_eq_getElem hk) hz).1.1.cases with ⟨e, _⟩ | ⟨g, cap, cur, e, _⟩ <;> rw [e] <;> rfl
end

/-- an owned list of lists: the outer row holds the values vs -/
def OR (w : World) (B C : Nat) (e2 e1 : TypeId) (v : Value) (xss : List (List Int)) : Prop :=
  ∃ vs, Own w B e2 v vs ∧ (∀ b, v.ownBlock = some b → b < C) ∧ RowsOwn w B C e1 vs xss

section
variable {w w' : World} {B C B' C' : Nat} {e2 e1 : TypeId} {v : Value} {xss : List (List Int)}
theorem OR.rows (h : OR w B C e2 e1 v xss) : Rows w v xss := by
  obtain ⟨vs, h1, h2, h3⟩ := h
  exact ⟨vs, h1.cells, h3.1, fun k u x hu hx => (h3.2.1 k u x hu hx).ints⟩
theorem OR.kept (h : OR w B C e2 e1 v xss) (hc : Chg B' C' w w') (hd : C ≤ B' ∨ C' ≤ B) : OR w' B C e2 e1 v xss := by
  obtain ⟨vs, h1, h2, h3⟩ := h
  exact ⟨vs, h1.of_block fun b hb => hc.block b (h1.lt b hb) (by have := h1.ge b hb; have := h2 b hb; omega), h2, h3.kept hc hd⟩
theorem OR.below (h : OR w B C e2 e1 v xss) (hb : Below w.heap.size w w') : OR w' B C e2 e1 v xss := by
  obtain ⟨vs, h1, h2, h3⟩ := h
  exact ⟨vs, h1.below hb, h2, h3.below hb⟩
theorem OR.drewN (h : OR w B C e2 e1 v xss) (n : Nat) : OR (w.drewN n) B C e2 e1 v xss := h
theorem OR.mono (h : OR w B C e2 e1 v xss) (h1 : B' ≤ B) (h2 : C ≤ C') : OR w B' C' e2 e1 v xss := by
  obtain ⟨vs, g1, g2, g3⟩ := h
  exact ⟨vs, g1.mono h1, fun b hb => Nat.lt_of_lt_of_le (g2 b hb) h2, g3.mono h1 h2⟩
theorem OR.nil (w : World) (B C : Nat) (e2 e1 : TypeId) : OR w B C e2 e1 (.slice none 0 0) [] := ⟨[], Own.nil w B e2, fun b hb => by simp [Value.ownBlock] at hb, RowsOwn.nil w B C e1⟩
theorem Rows.drewN (h : Rows w v xss) (n : Nat) : Rows (w.drewN n) v xss := h
theorem OI.nil (w : World) (B C : Nat) (e : TypeId) : OI w B C e (.slice none 0 0) [] := ⟨OwnInts.nil w B e, fun b hb => by simp [Value.ownBlock] at hb⟩
end

theorem below1 (w : World) (o1 : Obj) : Below w.heap.size w (w.alloc o1) := (Below.refl _ _).alloc (Nat.le_refl _) _
theorem below2 (w : World) (o1 o2 : Obj) : Below w.heap.size w ((w.alloc o1).alloc o2) := (below1 w o1).alloc (by simp) _
theorem below3 (w : World) (o1 o2 o3 : Obj) : Below w.heap.size w (((w.alloc o1).alloc o2).alloc o3) := (below2 w o1 o2).alloc (by simp; omega) _

theorem below_of_drew {B : Nat} {w w' : World} (h : Below B w.drew w') : Below B w w' := ⟨h.os, h.tape, h.output, h.size, h.block⟩
/-- block g holds just the cells cs, of type t -/
def Blk (w : World) (g : Nat) (t : TypeId) (cs : Array Value) : Prop := w.heap[g]? = some (.cells cs t (0, 0))
section
variable {w w' : World} {g : Nat} {t : TypeId} {cs : Array Value}
theorem Blk.lt (h : Blk w g t cs) : g < w.heap.size := (Array.getElem?_eq_some_iff.1 h).1
theorem Blk.cell (h : Blk w g t cs) (i : Nat) : w.cell? ⟨g, i, none⟩ = cs[i]? := cell_of_row w g i cs t (0, 0) h
theorem Blk.frozen (h : Blk w g t cs) (i : Nat) : w.frozen? ⟨g, i, none⟩ = false := by
  unfold Blk at h
  simp [World.frozen?, h]
theorem Blk.set_ (h : Blk w g t cs) (i : Nat) (u : Value) : Blk (w.setCell ⟨g, i, none⟩ u) g t (cs.setIfInBounds i u) := by
  unfold Blk at h ⊢
  simp [World.setCell, Array.getElem?_modify, h]
theorem Blk.far (h : Blk w g t cs) {p : Addr} (hp : g ≠ p.block) (u : Value) : Blk (w.setCell p u) g t cs := (Below.heap_setCell w p u g hp).trans h
theorem Blk.below {B : Nat} (h : Blk w g t cs) (hb : Below B w w') (hg : g < B) : Blk w' g t cs := (hb.block g hg).trans h
theorem Blk.alloc (h : Blk w g t cs) (o : Obj) : Blk (w.alloc o) g t cs := (Below.heap_alloc w o g h.lt).trans h
theorem Blk.drewN (h : Blk w g t cs) (n : Nat) : Blk (w.drewN n) g t cs := h
theorem Blk.new (w : World) (cs : Array Value) (t : TypeId) : Blk (w.alloc (.cells cs t)) w.heap.size t cs := heap_alloc_new w _
theorem size_alloc' (w : World) (o : Obj) : (w.alloc o).heap.size = w.heap.size + 1 := by simp
theorem Blk.new1 (w : World) (o : Obj) (cs : Array Value) (t : TypeId) : Blk ((w.alloc o).alloc (.cells cs t)) (w.heap.size + 1) t cs := by
  have := Blk.new (w.alloc o) cs t
  rwa [size_alloc'] at this
theorem Blk.new2 (w : World) (o o' : Obj) (cs : Array Value) (t : TypeId) : Blk (((w.alloc o).alloc o').alloc (.cells cs t)) (w.heap.size + 1 + 1) t cs := by
  have := Blk.new1 (w.alloc o) o' cs t
  rwa [size_alloc'] at this
theorem Blk.chg {B C : Nat} (h : Blk w g t cs) (hc : Chg B C w w') (hd : g < B ∨ C ≤ g) : Blk w' g t cs := (hc.block g h.lt hd).trans h
end
theorem Chg.setCell {B C : Nat} {w w' : World} (h : Chg B C w w') {p : Addr} (h1 : B ≤ p.block) (h2 : p.block < C) (u : Value) : Chg B C w (w'.setCell p u) :=
  ⟨h.os, h.tape, h.output, by simpa [World.setCell] using h.size, fun k hk hd => (Below.heap_setCell _ _ _ k (by rintro rfl; omega)).trans (h.block k hk hd)⟩

end Go.Proofs.YtofabikjjkapmaaGreat

set_option linter.unusedVariables false
set_option linter.unusedSimpArgs false
namespace Go.Proofs.YtofabikjjkapmaaGreat
open Go.RowKit

theorem T_int : ElemT Tryz.prog 27 2 (.int .i64 0) 8 := ⟨Tryz.underlying27, by kernel_rfl, rfl, by omega⟩

theorem take_eq_succ {xs ys : List Int} {k : Nat} {x y : Int} (h : xs.take k = ys.take k) (hx : xs[k]? = some x) (hy : ys[k]? = some y) (e : x = y) : xs.take (k + 1) = ys.take (k + 1) := by
  rw [List.take_add_one, List.take_add_one, h, hx, hy, e]

/-- the marks k, k + 1, .. -/
def marks (k : Int) (n : Nat) : List Int := (List.range n).map fun (i : Nat) => k + (i : Int)
end Go.Proofs.YtofabikjjkapmaaGreat

set_option linter.unusedVariables false
set_option linter.unusedSimpArgs false
namespace Go.Proofs.YtofabikjjkapmaaGreat
open Go.RowKit

theorem T_row : ElemT Tryz.prog 35 27 (.slice none 0 0) 24 := ⟨Tryz.underlying35, by kernel_rfl, rfl, by omega⟩

abbrev tI : TypeId := 2
abbrev tL : TypeId := 27

theorem rtake_succ {xs ys : List (List Int)} {k : Nat} {x y : List Int} (h : xs.take k = ys.take k) (hx : xs[k]? = some x) (hy : ys[k]? = some y) (e : x = y) : xs.take (k + 1) = ys.take (k + 1) := by
  rw [List.take_add_one, List.take_add_one, h, hx, hy, e]

/-- a tableau that came in -/
def TabArg (w : World) (v : Value) (A : List (List Int)) (Bs : List Int) : Prop := ∃ va vb, v = .agg #[va, vb] ∧ Rows w va A ∧ Ints w vb Bs
/-- an owned tableau: the rows, the row of rows and the weights lie in blocks of their own -/
def OT (w : World) (B C : Nat) (v : Value) (A : List (List Int)) (Bs : List Int) : Prop :=
  ∃ va vb vs, v = .agg #[va, vb] ∧ Own w B tL va vs ∧ (∀ b, va.ownBlock = some b → b < C) ∧ RowsOwn w B C tI vs A ∧ OI w B C tI vb Bs ∧ ∀ (k : Nat) (u : Value), vs[k]? = some u → Apart u vb

section
variable {w w' : World} {B C B' C' : Nat} {v : Value} {A : List (List Int)} {Bs : List Int}
theorem TabArg.below (h : TabArg w v A Bs) (hb : Below w.heap.size w w') : TabArg w' v A Bs := by
  obtain ⟨va, vb, rfl, h1, h2⟩ := h
  exact ⟨va, vb, rfl, h1.below hb, h2.below hb⟩
theorem TabArg.drewN (h : TabArg w v A Bs) (n : Nat) : TabArg (w.drewN n) v A Bs := h
theorem OT.arg (h : OT w B C v A Bs) : TabArg w v A Bs := by
  obtain ⟨va, vb, vs, rfl, h1, h2, h3, h4, h5⟩ := h
  exact ⟨va, vb, rfl, OR.rows ⟨vs, h1, h2, h3⟩, h4.ints⟩
theorem OT.below (h : OT w B C v A Bs) (hb : Below w.heap.size w w') : OT w' B C v A Bs := by
  obtain ⟨va, vb, vs, rfl, h1, h2, h3, h4, h5⟩ := h
  exact ⟨va, vb, vs, rfl, h1.below hb, h2, h3.below hb, h4.below hb, h5⟩
theorem OT.drewN (h : OT w B C v A Bs) (n : Nat) : OT (w.drewN n) B C v A Bs := h
theorem OT.kept (h : OT w B C v A Bs) (hc : Chg B' C' w w') (hd : C ≤ B' ∨ C' ≤ B) : OT w' B C v A Bs := by
  obtain ⟨va, vb, vs, rfl, h1, h2, h3, h4, h5⟩ := h
  exact ⟨va, vb, vs, rfl, h1.of_block fun b hb => hc.block b (h1.lt b hb) (by have := h1.ge b hb; have := h2 b hb; omega), h2, h3.kept hc hd, h4.kept hc hd, h5⟩
theorem OT.mono (h : OT w B C v A Bs) (h1 : B' ≤ B) (h2 : C ≤ C') : OT w B' C' v A Bs := by
  obtain ⟨va, vb, vs, rfl, g1, g2, g3, g4, g5⟩ := h
  exact ⟨va, vb, vs, rfl, g1.mono h1, fun b hb => Nat.lt_of_lt_of_le (g2 b hb) h2, g3.mono h1 h2, g4.mono h1 h2, g5⟩
theorem RowsOwn.apart {M : Nat} {vs : List Value} {u' : Value} {e : TypeId} (h : RowsOwn w B C e vs A) (hu : ∀ b, u'.ownBlock = some b → C ≤ b ∨ b < B) : ∀ (k : Nat) (u : Value), vs[k]? = some u → Apart u u' := by
  intro k u hk
  have hx : A[k]? = some (A[k]'(by rw [← h.1]; exact (List.getElem?_eq_some_iff.1 hk).1)) := List.getElem?_eq_getElem _
  have ho := h.2.1 k u _ hk hx
  unfold Apart
  cases hb : u.ownBlock with
  | none => exact .inl rfl
  | some b =>
    refine .inr fun e => ?_
    have h1 := ho.2 b hb
    have h2 := ho.1.1.ge b hb
    have h3 := hu b e.symm
    omega
/-- the rows lie before M, the weights from M on -/
theorem OT.of_M {M : Nat} {va vb : Value} (h0 : B ≤ M) (h1 : M ≤ C) (hA : OR w B M tL tI va A) (hB : OI w M C tI vb Bs) : OT w B C (.agg #[va, vb]) A Bs := by
  obtain ⟨vs, g1, g2, g3⟩ := hA
  exact ⟨va, vb, vs, rfl, g1, fun b hb => Nat.lt_of_lt_of_le (g2 b hb) h1, g3.mono (Nat.le_refl _) h1, hB.mono h0 (Nat.le_refl _), g3.apart (M := M) fun b hb => .inl (hB.1.1.ge b hb)⟩
/-- the weights lie before M, the rows from M on -/
theorem OT.of_M' {M : Nat} {va vb : Value} (h0 : B ≤ M) (h1 : M ≤ C) (hB : OI w B M tI vb Bs) (hA : OR w M C tL tI va A) : OT w B C (.agg #[va, vb]) A Bs := by
  obtain ⟨vs, g1, g2, g3⟩ := hA
  exact ⟨va, vb, vs, rfl, g1.mono h0, g2, g3.mono h0 (Nat.le_refl _), hB.mono (Nat.le_refl _) h1, g3.apart (M := M) fun b hb => .inr (hB.2 b hb)⟩
end

theorem OT.open_ {w : World} {B C : Nat} {v : Value} {A : List (List Int)} {Bs : List Int} (h : OT w B C v A Bs) : ∃ Aa ca Ab cb, v = .agg #[.slice Aa A.length ca, .slice Ab Bs.length cb] := by
  obtain ⟨va, vb, rfl, h1, h2⟩ := h.arg
  obtain ⟨Aa, ca, rfl, _⟩ := h1.open_
  obtain ⟨Ab, cb, rfl, _⟩ := h2.open_
  exact ⟨_, _, _, _, rfl⟩
theorem TabArg.open_ {w : World} {v : Value} {A : List (List Int)} {Bs : List Int} (h : TabArg w v A Bs) : ∃ Aa ca Ab cb, v = .agg #[.slice Aa A.length ca, .slice Ab Bs.length cb] := by
  obtain ⟨va, vb, rfl, h1, h2⟩ := h
  obtain ⟨Aa, ca, rfl, _⟩ := h1.open_
  obtain ⟨Ab, cb, rfl, _⟩ := h2.open_
  exact ⟨_, _, _, _, rfl⟩
end Go.Proofs.YtofabikjjkapmaaGreat

set_option maxRecDepth 100000
set_option linter.unusedVariables false
set_option linter.unusedSimpArgs false
namespace Go.Proofs.YtofabikjjkapmaaGreat
open Go.RowKit

theorem sliced_cells {w : World} {A : Option Addr} {n c : Nat} {vs : List Value} (h : Cells w (.slice A n c) vs) {k m : Nat} (hk : k ≤ m) (hm : m ≤ vs.length) :
    ∃ X, sliced A k m c 1 = .slice X (m - k) (c - k) ∧ Cells w (.slice X (m - k) (c - k)) ((vs.take m).drop k) := by
  obtain ⟨A', c', he, h1, h2, h3⟩ := h
  simp only [Value.slice.injEq] at he
  obtain ⟨rfl, rfl, rfl⟩ := he
  refine ⟨_, rfl, ?_⟩
  have hl : ((vs.take m).drop k).length = m - k := by rw [List.length_drop, List.length_take]; omega
  refine ⟨_, _, by rw [hl], by rw [hl]; omega, by omega, fun j u hj => ?_⟩
  have hjl := (List.getElem?_eq_some_iff.1 hj).1
  rw [hl] at hjl
  rw [List.getElem?_drop, List.getElem?_take, if_pos (by omega)] at hj
  obtain ⟨ad, rfl, hc⟩ := h3 _ u hj
  have hne : ¬ c = k := by omega
  refine ⟨ad.add (k * 1), by simp [hne], ?_⟩
  rw [add_add', Nat.mul_one]
  exact hc

/-- a slice of a list of numbers that is read, from k to m -/
theorem slice_ints {w : World} {A : Option Addr} {n c : Nat} {zs : List Int} (h : Ints w (.slice A n c) zs) {k m : Nat} (hk : k ≤ m) (hm : m ≤ zs.length) :
    ∃ X, sliced A k m c 1 = .slice X (m - k) (c - k) ∧ Ints w (.slice X (m - k) (c - k)) ((zs.take m).drop k) := by
  obtain ⟨X, h1, h2⟩ := sliced_cells h.1 hk (by rw [ints_len]; exact hm)
  refine ⟨X, h1, ?_, fun z hz => h.2 z (List.mem_of_mem_take (List.mem_of_mem_drop hz))⟩
  simpa [ints, List.map_take, List.map_drop] using h2

/-- rows that can be read: each a list of numbers in a block from B on -/
def RR (w : World) (B : Nat) (vs : List Value) (xss : List (List Int)) : Prop :=
  vs.length = xss.length ∧ ∀ (k : Nat) (u : Value) (zs : List Int), vs[k]? = some u → xss[k]? = some zs → OwnInts w B tI u zs
section
variable {w w' : World} {B : Nat} {vs : List Value} {xss : List (List Int)}
theorem RR.nil (w : World) (B : Nat) : RR w B [] [] := ⟨rfl, fun k u zs h => by simp at h⟩
theorem RR.below (h : RR w B vs xss) (hb : Below w.heap.size w w') : RR w' B vs xss := ⟨h.1, fun k u zs hu hz => (h.2 k u zs hu hz).below hb⟩
theorem RR.mono {B' : Nat} (h : RR w B vs xss) (hB : B' ≤ B) : RR w B' vs xss := ⟨h.1, fun k u zs hu hz => (h.2 k u zs hu hz).mono hB⟩
theorem RR.snoc {u : Value} {zs : List Int} (h : RR w B vs xss) (hu : OwnInts w B tI u zs) : RR w B (vs ++ [u]) (xss ++ [zs]) := by
  refine ⟨by simp [h.1], fun k u' zs' hk hz => ?_⟩
  by_cases hlt : k < vs.length
  · rw [List.getElem?_append_left hlt] at hk
    rw [List.getElem?_append_left (by rw [← h.1]; exact hlt)] at hz
    exact h.2 k u' zs' hk hz
  · have hkl := (List.getElem?_eq_some_iff.1 hk).1
    simp at hkl
    have : k = vs.length := by omega
    subst this
    rw [List.getElem?_append_right (Nat.le_refl _)] at hk
    rw [List.getElem?_append_right (by rw [h.1]; exact Nat.le_refl _), h.1] at hz
    simp at hk hz
    subst hk; subst hz
    exact hu
theorem RR.set {k : Nat} {u : Value} {zs : List Int} (h : RR w B vs xss) (hu : OwnInts w B tI u zs) : RR w B (vs.set k u) (xss.set k zs) := by
  refine ⟨by simp [h.1], fun j u' zs' hj hz => ?_⟩
  rw [List.getElem?_set] at hj hz
  by_cases hjk : k = j
  · subst hjk
    rw [if_pos rfl] at hj hz
    split at hj
    · rw [if_pos (by rw [← h.1]; assumption)] at hz
      injection hj with hj; injection hz with hz
      subst hj; subst hz
      exact hu
    · cases hj
  · rw [if_neg hjk] at hj hz
    exact h.2 j u' zs' hj hz
/-- a block whose elements have another type has turned -/
theorem RR.other {v : Value} {e : TypeId} {B' : Nat} {us : List Value} (h : RR w B vs xss) (hg : w.grownBy w' v.ownBlock) (ho : Own w B' e v us) (hne : tI ≠ e) : RR w' B vs xss :=
  ⟨h.1, fun k u zs hu hz => (h.2 k u zs hu hz).kept hg ((h.2 k u zs hu hz).1.ne_of_type ho hne)⟩
theorem RR.rows {v : Value} {e : TypeId} {B' : Nat} (h : RR w B vs xss) (ho : Own w B' e v vs) : Rows w v xss :=
  ⟨vs, ho.cells, h.1, fun k u zs hu hz => (h.2 k u zs hu hz).ints⟩
theorem RR.oneCell (h : RR w B vs xss) : ∀ u ∈ vs, u.oneCell' = true := by
  intro u hu
  obtain ⟨k, hk, rfl⟩ := List.getElem_of_mem hu
  have hx : xss[k]? = some (xss[k]'(by rw [← h.1]; exact hk)) := List.getElem?_eq_getElem _
  rcases (h.2 k _ _ (List.getElem?_eq_getElem hk) hx).1.cases with ⟨e, _⟩ | ⟨g, cap, cur, e, _⟩ <;> rw [e] <;> rfl
end

/-- a list of lists of one's own whose rows can be read -/
def LL (w : World) (B : Nat) (v : Value) (xss : List (List Int)) : Prop := ∃ vs, Own w B tL v vs ∧ RR w B vs xss
section
variable {w w' : World} {B : Nat} {v : Value} {xss : List (List Int)}
theorem LL.rows (h : LL w B v xss) : Rows w v xss := by obtain ⟨vs, h1, h2⟩ := h; exact h2.rows h1
theorem LL.below (h : LL w B v xss) (hb : Below w.heap.size w w') : LL w' B v xss := by obtain ⟨vs, h1, h2⟩ := h; exact ⟨vs, h1.below hb, h2.below hb⟩
theorem LL.mono {B' : Nat} (h : LL w B v xss) (hB : B' ≤ B) : LL w B' v xss := by obtain ⟨vs, h1, h2⟩ := h; exact ⟨vs, h1.mono hB, h2.mono hB⟩
theorem LL.nil (w : World) (B : Nat) : LL w B (.slice none 0 0) [] := ⟨[], Own.nil _ _ _, RR.nil _ _⟩
/-- one row more, made after all else -/
theorem LL.snoc {w1 : World} {vs : List Value} {u v1 : Value} {zs : List Int} (h1 : Own w B tL v vs) (h2 : RR w B vs xss) (hu : OwnInts w B tI u zs) (ho : Own w1 B tL v1 (vs ++ [u])) (hg : w.grownBy w1 v.ownBlock) : RR w1 B (vs ++ [u]) (xss ++ [zs]) :=
  (h2.snoc hu).other hg h1 (by decide)
end

/-- branches that are gathered: rows whose blocks lie before M, and the last row of one's own from M on -/
structure BrS (w : World) (B M : Nat) (o : Value) (vs : List Value) (bs : List (List Int)) : Prop where
  own : Own w B tL o vs
  rows : RR w B vs bs
  old : ∀ (k : Nat) (u : Value), k + 1 < vs.length → vs[k]? = some u → ∀ b, u.ownBlock = some b → b < M
  last : ∀ (u : Value) (zs : List Int), vs[vs.length - 1]? = some u → bs[vs.length - 1]? = some zs → OwnInts w M tI u zs
  le : B ≤ M
  lt : M ≤ w.heap.size

theorem BrS.push {w w1 : World} {B M : Nat} {o v1 u : Value} {vs : List Value} {bs : List (List Int)} {zs : List Int} (h : BrS w B M o vs bs) (hu : OwnInts w w.heap.size tI u zs) (ho : Own w1 B tL v1 (vs ++ [u])) (hg : w.grownBy w1 o.ownBlock) (hge : ∀ b, u.ownBlock = some b → w.heap.size ≤ b) :
    BrS w1 B w.heap.size v1 (vs ++ [u]) (bs ++ [zs]) := by
  have hB : B ≤ w.heap.size := Nat.le_trans h.le h.lt
  have hr := LL.snoc h.own h.rows (hu.mono hB) ho hg
  have hkeep := hu.kept hg (hu.1.ne_of_type h.own (by decide))
  refine ⟨ho, hr, fun k u' hk hu' b hb => ?_, fun u' zs' hu' hz' => ?_, hB, hg.size⟩
  · simp at hk
    rw [List.getElem?_append_left hk] at hu'
    have hx : bs[k]? = some (bs[k]'(by rw [← h.rows.1]; exact hk)) := List.getElem?_eq_getElem _
    exact (h.rows.2 k u' _ hu' hx).1.lt b hb
  · simp at hu'
    have e : (vs ++ [u]).length - 1 = bs.length := by simp [h.rows.1]
    rw [e, List.getElem?_append_right (Nat.le_refl _)] at hz'
    simp at hz'
    subst hu'; subst hz'
    exact hkeep

/-- the last row has grown: it is stored -/
theorem BrS.grow {w w1 : World} {B M g : Nat} {o u u1 : Value} {vs : List Value} {bs : List (List Int)} {zs zs1 : List Int} (h : BrS w B M o vs bs) (hu : vs[vs.length - 1]? = some u) (hz : bs[vs.length - 1]? = some zs)
    (ho : OwnInts w1 M tI u1 zs1) (hg : w.grownBy w1 u.ownBlock) (hob : o.ownBlock = some g) (hown : Own (w1.setCell ⟨g, vs.length - 1, none⟩ u1) B tL o (vs.set (vs.length - 1) u1)) :
    BrS (w1.setCell ⟨g, vs.length - 1, none⟩ u1) B M o (vs.set (vs.length - 1) u1) (bs.set (vs.length - 1) zs1) := by
  have hl := h.last u zs hu hz
  have hpos := (List.getElem?_eq_some_iff.1 hu).1
  have how1 : Own w1 B tL o vs := h.own.kept hg (h.own.ne_of_type hl.1 (by decide))
  have hset : w1.grownBy (w1.setCell ⟨g, vs.length - 1, none⟩ u1) o.ownBlock := by
    rw [hob]
    exact ((Chg.refl g (g + 1) w1).setCell (p := ⟨g, vs.length - 1, none⟩) (Nat.le_refl _) (by simp) u1) |> fun c => ⟨c.os, c.tape, c.output, c.size, fun b hb hne => c.block b hb (by have : b ≠ g := fun e => hne (by rw [e]); omega)⟩
  have hrow1 : RR w1 B (vs.set (vs.length - 1) u1) (bs.set (vs.length - 1) zs1) := by
    refine ⟨by simp [h.rows.1], fun k u' zs' hk hz' => ?_⟩
    rw [List.getElem?_set] at hk hz'
    by_cases hkl : vs.length - 1 = k
    · subst hkl
      rw [if_pos rfl, if_pos hpos] at hk
      rw [if_pos rfl, if_pos (by rw [← h.rows.1]; exact hpos)] at hz'
      injection hk with hk; injection hz' with hz'
      subst hk; subst hz'
      exact ho.mono h.le
    · rw [if_neg hkl] at hk hz'
      have hkk := (List.getElem?_eq_some_iff.1 hk).1
      have hr := h.rows.2 k u' zs' hk hz'
      refine hr.kept hg ?_
      have hold := h.old k u' (by omega) hk
      cases hb : u'.ownBlock with
      | none => exact .inl hb
      | some b => exact .inr fun e => by have h1 := hold b hb; have h2 := hl.1.ge b (e.symm.trans hb); omega
  refine ⟨hown, hrow1.other hset how1 (by decide), fun k u' hk hu' b hb => ?_, fun u' zs' hu' hz' => ?_, h.le, ?_⟩
  · simp at hk
    rw [List.getElem?_set_ne (by omega)] at hu'
    exact h.old k u' hk hu' b hb
  · simp only [List.length_set] at hu' hz'
    rw [List.getElem?_set_self hpos] at hu'
    rw [List.getElem?_set_self (by rw [← h.rows.1]; exact hpos)] at hz'
    injection hu' with hu'; injection hz' with hz'
    subst hu'; subst hz'
    exact ho.kept hset (ho.1.ne_of_type how1 (by decide))
  · have h1 := hg.size
    have h2 := hset.size
    have h3 := h.lt
    omega

theorem BrS.openLast {w : World} {B M m : Nat} {o : Value} {vs : List Value} {bs : List (List Int)} (h : BrS w B M o vs bs) (hm : vs.length = m + 1) :
    ∃ g cap u zs, o = .slice (some ⟨g, 0, none⟩) (m + 1) cap ∧ m + 1 ≤ cap ∧ cap ≤ 9223372036854775807 ∧ vs[m]? = some u ∧ bs[m]? = some zs ∧ OwnInts w M tI u zs ∧ w.cell? ⟨g, m, none⟩ = some u := by
  have hbl : bs.length = m + 1 := by rw [← h.rows.1]; exact hm
  have hu : vs[m]? = some (vs[m]'(by omega)) := List.getElem?_eq_getElem _
  have hz : bs[m]? = some (bs[m]'(by omega)) := List.getElem?_eq_getElem _
  have hl := h.last _ _ (by rw [hm]; exact hu) (by rw [hm]; exact hz)
  rcases h.own.cases with ⟨_, e⟩ | ⟨g, cap, cur, e, h1, h2, h3, h4, h5, h6, h7⟩
  · rw [e] at hm; simp at hm
  · refine ⟨g, cap, _, _, by rw [e, hm], by omega, by simpa [maxLen] using h5, hu, hz, hl, ?_⟩
    subst e
    obtain ⟨ad, n', c', he, hc⟩ := h.own.cells.at_ hu
    simp only [Value.slice.injEq, Option.some.injEq] at he
    obtain ⟨rfl, -, -⟩ := he
    have e : (⟨g, 0, none⟩ : Addr).add m = ⟨g, m, none⟩ := by
      by_cases h0 : m = 0 <;> simp [Addr.add, h0]
    rwa [e] at hc

/-- behind the append to the last row: what the store wants -/
theorem BrS.ready {w w1 : World} {B M m g cap : Nat} {u u1 : Value} {vs : List Value} {bs : List (List Int)} {zs zs1 : List Int} (h : BrS w B M (.slice (some ⟨g, 0, none⟩) (m + 1) cap) vs bs) (hm : vs.length = m + 1) (hu : vs[m]? = some u) (hz : bs[m]? = some zs)
    (ho : OwnInts w1 M tI u1 zs1) (hg : w.grownBy w1 u.ownBlock) :
    (∃ u0, w1.cell? ⟨g, m, none⟩ = some u0) ∧ w1.frozen? ⟨g, m, none⟩ = false ∧ BrS (w1.setCell ⟨g, m, none⟩ u1) B M (.slice (some ⟨g, 0, none⟩) (m + 1) cap) (vs.set m u1) (bs.set m zs1) := by
  have hlu := h.last u zs (by rw [hm]; exact hu) (by rw [hm]; exact hz)
  have how1 : Own w1 B tL (.slice (some ⟨g, 0, none⟩) (m + 1) cap) vs := h.own.kept hg (h.own.ne_of_type hlu.1 (by decide))
  obtain ⟨u0, -, hc, hf, -, -, hown, -⟩ := how1.storeAt (k := m) (by omega) u1
  have e : m = vs.length - 1 := by omega
  refine ⟨⟨u0, hc⟩, hf, ?_⟩
  have := h.grow (g := g) (u1 := u1) (by rw [← e]; exact hu) (by rw [← e]; exact hz) ho hg rfl (by rw [← e]; exact hown)
  rwa [← e] at this

/-- an empty row more -/
theorem BrS.pushNil {w w1 : World} {B M : Nat} {o v1 : Value} {vs : List Value} {bs : List (List Int)} (h : BrS w B M o vs bs) (ho : Own w1 B tL v1 (vs ++ [.slice none 0 0])) (hg : w.grownBy w1 o.ownBlock) :
    ∃ g cap, v1 = .slice (some ⟨g, 0, none⟩) (vs.length + 1) cap ∧ vs.length + 1 ≤ cap ∧ cap ≤ 9223372036854775807 ∧ BrS w1 B w.heap.size (.slice (some ⟨g, 0, none⟩) (vs.length + 1) cap) (vs ++ [.slice none 0 0]) (bs ++ [[]]) ∧
      w1.cell? ⟨g, vs.length, none⟩ = some (.slice none 0 0) ∧ g < w1.heap.size ∧ B ≤ g ∧ (vs ++ [Value.slice none 0 0])[vs.length]? = some (.slice none 0 0) ∧ (bs ++ [[]])[vs.length]? = some [] := by
  have hp := h.push (u := .slice none 0 0) (zs := []) (OwnInts.nil _ _ _) ho hg (fun b hb => by simp [Value.ownBlock] at hb)
  obtain ⟨g, cap, u, zs, e, h1, h2, hu, hz, hl, hc⟩ := hp.openLast (m := vs.length) (by simp)
  subst e
  have eu : (vs ++ [Value.slice none 0 0])[vs.length]? = some (.slice none 0 0) := by simp
  have ez : (bs ++ [[]])[vs.length]? = some [] := by rw [h.rows.1]; simp
  rw [eu] at hu
  injection hu with hu
  subst hu
  exact ⟨g, cap, rfl, h1, h2, hp, hc, World.block_lt_of_cell? w1 _ hc, hp.own.ge g rfl, eu, ez⟩

theorem BrS.below {w w' : World} {B M : Nat} {o : Value} {vs : List Value} {bs : List (List Int)} (h : BrS w B M o vs bs) (hb : Below w.heap.size w w') : BrS w' B M o vs bs :=
  ⟨h.own.below hb, h.rows.below hb, h.old, fun u zs hu hz => (h.last u zs hu hz).below hb, h.le, Nat.le_trans h.lt hb.size⟩

end Go.Proofs.YtofabikjjkapmaaGreat

set_option maxRecDepth 100000
set_option linter.unusedVariables false
set_option linter.unusedSimpArgs false
namespace Go.Proofs.YtofabikjjkapmaaGreat
open Go.RowKit

theorem sizeI (W : World) : (sizeOf (Tryz.prog.elem 27)).run Tryz.prog W = .ok 1 W := by kernel_rfl
theorem sl_from {t : TypeId} (ht : Tryz.prog.underlying t = some (.slice (Tryz.prog.elem t))) (hs : ∀ W, (sizeOf (Tryz.prog.elem t)).run Tryz.prog W = .ok 1 W) (W : World) (A : Option Addr) (n c k : Nat) (K : Int) (hK : K = k) (h : k ≤ n) :
    (Instr.slice t (.slice A n c) (some (.int .i64 K)) none none).run Tryz.prog W = .ok (sliced A k n c 1) W := by
  subst hK
  rw [run_slice_l W t A n c ht .i64 k (by omega) (by omega), hs]
  simp [Result.andThen]
/-- 't[k:]' of a list of numbers -/
theorem ints_from {w : World} {A : Option Addr} {n c : Nat} {zs : List Int} (h : Ints w (.slice A n c) zs) (k : Nat) (K : Int) (hK : K = k) (hk : k ≤ zs.length) :
    ∃ X, (∀ W, (Instr.slice 27 (.slice A n c) (some (.int .i64 K)) none none).run Tryz.prog W = .ok (.slice X (zs.length - k) (c - k)) W) ∧ Ints w (.slice X (zs.length - k) (c - k)) (zs.drop k) := by
  have hn : n = zs.length := by obtain ⟨A', c', e, -, -, -⟩ := h.open_; simp only [Value.slice.injEq] at e; exact e.2.1
  obtain ⟨X, h1, h2⟩ := slice_ints h (k := k) (m := zs.length) hk (Nat.le_refl _)
  rw [List.take_length] at h2
  exact ⟨X, fun W => by rw [sl_from Tryz.underlying27 sizeI W A n c k K hK (by omega), hn, h1], h2⟩
end Go.Proofs.YtofabikjjkapmaaGreat

set_option linter.unusedVariables false
set_option linter.unusedSimpArgs false
namespace Go.Proofs.YtofabikjjkapmaaGreat
open Go.RowKit

set_option maxHeartbeats 400000 in
theorem i_num (n : Int) (w : World) (h0 : -4000000000000000000 ≤ n) (h1 : n ≤ 4000000000000000000) :
    Calls Tryz.prog 56 #[.int .i64 n] w fun e w' => e = .returned (.int .i64 (n % 10007)) ∧ w = w' := by
  have h2 : -10007 < n.tmod 10007 := by rw [Int.tmod_eq_emod]; split <;> omega
  have h3 : n.tmod 10007 < 10007 := by rw [Int.tmod_eq_emod]; split <;> omega
  have HT := Lib.hid (tmod_num n)
  go_enter Tryz.func56, Tryz.ntmps56
  go_wp2
  go_ret
  exact ⟨ret_int HT.out, rfl⟩

set_option maxHeartbeats 400000 in
theorem s_l01Mod (n : Int) (w : World) (h0 : -4000000000000000000 ≤ n) (h1 : n ≤ 4000000000000000000) :
    Calls Tryz.prog 177 #[.int .i64 n] w fun e w' => e = .returned (.int .i64 (n % 10007)) ∧ w = w' := by
  have h2 : -10007 < n.tmod 10007 := by rw [Int.tmod_eq_emod]; split <;> omega
  have h3 : n.tmod 10007 < 10007 := by rw [Int.tmod_eq_emod]; split <;> omega
  have HT := Lib.hid (tmod_num n)
  go_enter Tryz.func177, Tryz.ntmps177
  go_wp2
  go_ret
  exact ⟨ret_int HT.out, rfl⟩

set_option maxHeartbeats 400000 in
theorem s_l01Mul (a b : Int) (w : World) (h0 : 0 ≤ a) (h1 : a ≤ 2000000000) (g0 : 0 ≤ b) (g1 : b ≤ 2000000000) :
    Calls Tryz.prog 176 #[.int .i64 a, .int .i64 b] w fun e w' => e = .returned (.int .i64 (a * b % 10007)) ∧ w = w' := by
  obtain ⟨p1, p2⟩ := mul_bd 2000000000 2000000000 h0 h1 g0 g1
  go_enter Tryz.func176, Tryz.ntmps176
  go_wp2_with (go_at_call 177; refine (s_l01Mod _ _ (by omega) (by omega)).mono ?_; rintro e w' ⟨rfl, rfl⟩)
  go_ret
  exact ⟨rfl, rfl⟩

set_option maxHeartbeats 400000 in
theorem s_l01Add (a b : Int) (w : World) (h0 : -2000000000000000000 ≤ a) (h1 : a ≤ 2000000000000000000) (g0 : -2000000000000000000 ≤ b) (g1 : b ≤ 2000000000000000000) :
    Calls Tryz.prog 189 #[.int .i64 a, .int .i64 b] w fun e w' => e = .returned (.int .i64 ((a + b) % 10007)) ∧ w = w' := by
  go_enter Tryz.func189, Tryz.ntmps189
  go_wp2_with (go_at_call 177; refine (s_l01Mod _ _ (by omega) (by omega)).mono ?_; rintro e w' ⟨rfl, rfl⟩)
  go_ret
  exact ⟨rfl, rfl⟩

set_option maxHeartbeats 400000 in
theorem s_l01Sub (a b : Int) (w : World) (h0 : -2000000000000000000 ≤ a) (h1 : a ≤ 2000000000000000000) (g0 : -2000000000000000000 ≤ b) (g1 : b ≤ 2000000000000000000) :
    Calls Tryz.prog 184 #[.int .i64 a, .int .i64 b] w fun e w' => e = .returned (.int .i64 ((a - b) % 10007)) ∧ w = w' := by
  go_enter Tryz.func184, Tryz.ntmps184
  go_wp2_with (go_at_call 177; refine (s_l01Mod _ _ (by omega) (by omega)).mono ?_; rintro e w' ⟨rfl, rfl⟩)
  go_ret
  exact ⟨rfl, rfl⟩

set_option maxHeartbeats 400000 in
theorem i_pow (a k : Int) (w : World) (h0 : 0 ≤ a) (h1 : a ≤ 2000000000) (g0 : 0 ≤ k) (g1 : k ≤ 2000000000) :
    Calls Tryz.prog 140 #[.int .i64 a, .int .i64 k] w fun e w' => e = .returned (.int .i64 (pw a k.toNat)) ∧ w = w' := by
  go_enter Tryz.func140, Tryz.ntmps140
  go_wp2
  go_loop [0, 1, 5] (fun x y z => ∃ (b out : Int) (j : Nat), x = .int .i64 b ∧ y = .int .i64 j ∧ z = .int .i64 out ∧ 0 ≤ b ∧ b ≤ 2000000000 ∧ j ≤ 2000000000 ∧ 0 ≤ out ∧ out ≤ 10006 ∧ Hid ((out * b ^ j) % 10007 = pw a k.toNat)) (fun _ y _ => (intOf y).toNat)
  case atStart => exact ⟨a, 1, k.toNat, rfl, by rw [Int.toNat_of_nonneg g0], rfl, h0, h1, by omega, by omega, by omega, by unfold Hid pw; rw [Int.one_mul]⟩
  case round =>
    obtain ⟨b, out, j, rfl, rfl, rfl, b0, b1, j1, o0, o1, hI⟩ := hrel
    clear h0 h1 g0 g1
    by_cases hj : 0 < j
    · obtain ⟨p1, p2⟩ := mul_bd 10006 2000000000 o0 o1 b0 b1
      obtain ⟨q1, q2⟩ := mul_bd 2000000000 2000000000 b0 b1 b0 b1
      have hst := Lib.hid (pw_step out b _ j hj hI.out)
      by_cases hodd : j % 2 = 1
      · have hb : (((j : Int) % 2) == 1) = true := by simp; omega
        clear hodd
        go_wp2_with (go_at_call 56; refine (i_num _ _ (by omega) (by omega)).mono ?_; rintro e w' ⟨rfl, rfl⟩)
        go_round
        case rel => exact ⟨_, _, j / 2, rfl, by go_num, rfl, by omega, by omega, by omega, by omega, by omega, hst.out.1 (by simp at hb; omega)⟩
        case measure => simp [intOf]; omega
      · have hb : (((j : Int) % 2) == 1) = false := by simp; omega
        clear hodd
        go_wp2_with (go_at_call 56; refine (i_num _ _ (by omega) (by omega)).mono ?_; rintro e w' ⟨rfl, rfl⟩)
        go_round
        case rel => exact ⟨_, _, j / 2, rfl, by go_num, rfl, by omega, by omega, by omega, by omega, by omega, hst.out.2 (by simp at hb; omega)⟩
        case measure => simp [intOf]; omega
    · obtain rfl : j = 0 := by omega
      go_wp2
      go_ret
      refine ⟨ret_int ?_, rfl⟩
      have := hI.out
      rw [← this]
      simp
      omega

set_option maxHeartbeats 400000 in
theorem s_l01Pow (a k : Int) (w : World) (h0 : 0 ≤ a) (h1 : a ≤ 2000000000) (g0 : 0 ≤ k) (g1 : k ≤ 2000000000) :
    Calls Tryz.prog 190 #[.int .i64 a, .int .i64 k] w fun e w' => e = .returned (.int .i64 (pw a k.toNat)) ∧ w = w' := by
  go_enter Tryz.func190, Tryz.ntmps190
  go_wp2
  go_loop [0, 1, 5] (fun x y z => ∃ (b out : Int) (j : Nat), x = .int .i64 b ∧ y = .int .i64 j ∧ z = .int .i64 out ∧ 0 ≤ b ∧ b ≤ 2000000000 ∧ j ≤ 2000000000 ∧ 0 ≤ out ∧ out ≤ 10006 ∧ Hid ((out * b ^ j) % 10007 = pw a k.toNat)) (fun _ y _ => (intOf y).toNat)
  case atStart => exact ⟨a, 1, k.toNat, rfl, by rw [Int.toNat_of_nonneg g0], rfl, h0, h1, by omega, by omega, by omega, by unfold Hid pw; rw [Int.one_mul]⟩
  case round =>
    obtain ⟨b, out, j, rfl, rfl, rfl, b0, b1, j1, o0, o1, hI⟩ := hrel
    clear h0 h1 g0 g1
    by_cases hj : 0 < j
    · have hst := Lib.hid (pw_step out b _ j hj hI.out)
      by_cases hodd : j % 2 = 1
      · have hb : (((j : Int) % 2) == 1) = true := by simp; omega
        clear hodd
        go_wp2_with (go_at_call 176; refine (s_l01Mul _ _ _ (by omega) (by omega) (by omega) (by omega)).mono ?_; rintro e w' ⟨rfl, rfl⟩)
        go_round
        case rel => exact ⟨_, _, j / 2, rfl, by go_num, rfl, by omega, by omega, by omega, by omega, by omega, hst.out.1 (by simp at hb; omega)⟩
        case measure => simp [intOf]; omega
      · have hb : (((j : Int) % 2) == 1) = false := by simp; omega
        clear hodd
        go_wp2_with (go_at_call 176; refine (s_l01Mul _ _ _ (by omega) (by omega) (by omega) (by omega)).mono ?_; rintro e w' ⟨rfl, rfl⟩)
        go_round
        case rel => exact ⟨_, _, j / 2, rfl, by go_num, rfl, by omega, by omega, by omega, by omega, by omega, hst.out.2 (by simp at hb; omega)⟩
        case measure => simp [intOf]; omega
    · obtain rfl : j = 0 := by omega
      go_wp2
      go_ret
      refine ⟨ret_int ?_, rfl⟩
      have := hI.out
      rw [← this]
      simp
      omega

set_option maxHeartbeats 400000 in
theorem i_inv (a : Int) (w : World) (h0 : 0 ≤ a) (h1 : a ≤ 2000000000) :
    Calls Tryz.prog 99 #[.int .i64 a] w fun e w' => e = .returned (.int .i64 (pw a 10005)) ∧ w = w' := by
  go_enter Tryz.func99, Tryz.ntmps99
  go_wp2_with (go_at_call 140; refine (i_pow _ _ _ (by omega) (by omega) (by omega) (by omega)).mono ?_; rintro e w' ⟨rfl, rfl⟩)
  go_ret
  exact ⟨rfl, rfl⟩

set_option maxHeartbeats 400000 in
theorem s_l01Inv (a : Int) (w : World) (h0 : 0 ≤ a) (h1 : a ≤ 2000000000) :
    Calls Tryz.prog 178 #[.int .i64 a] w fun e w' => e = .returned (.int .i64 (pw a 10005)) ∧ w = w' := by
  go_enter Tryz.func178, Tryz.ntmps178
  go_wp2_with (go_at_call 190; refine (s_l01Pow _ _ _ (by omega) (by omega) (by omega) (by omega)).mono ?_; rintro e w' ⟨rfl, rfl⟩)
  go_ret
  exact ⟨rfl, rfl⟩

end Go.Proofs.YtofabikjjkapmaaGreat

