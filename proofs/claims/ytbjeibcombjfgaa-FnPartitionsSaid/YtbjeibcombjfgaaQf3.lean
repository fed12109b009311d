/- Words of memory for level lists and lists of them: slices of slices, rows that can be read, branches that grow. | Slices of slices, at lists of numbers and at lists of lists. | Arithmetic modulo 10007, plain. No program in sight. | The walks of the arithmetic of the program and of the reference: num, pow, inv and their like. | Scaling a list: plain words, and append as a step of a region that draws. | Walks: the branches of a level list, of both. -/
import Derived.Test.YtbjeibcombjfgaaQf2
import Derived.Test.YtbjeibcombjfgaaRows
import Derived.Test.YtbjeibcombjfgaaQf1
import Derived.WalkLawsBesides
import Derived.Deep.RegionHeld3
import Derived.Deep.RegionLaw
set_option maxRecDepth 100000
set_option linter.unusedVariables false
set_option linter.unusedSimpArgs false
namespace Go.Proofs.Ytbjeibcombjfgaa
open Go.RowKit

theorem sliced_cells {w : World} {A : Option Addr} {n c : Nat} {vs : List Value} (h : Cells w (.slice A n c) vs) {k m : Nat} (hk : k ≤ m) (hm : m ≤ vs.length) :
    ∃ X, sliced A k m c 1 = .slice X (m - k) (c - k) ∧ Cells w (.slice X (m - k) (c - k)) ((vs.take m).drop k) := by
  obtain ⟨A', c', he, h1, h2, h3⟩ := h
  simp only [Value.slice.injEq] at he
  obtain ⟨rfl, rfl, rfl⟩ := he
  refine ⟨_, rfl, ?_⟩
  have hl : ((vs.take m).drop k).length = m - k := by rw [List.length_drop, List.length_take]; omega
  refine ⟨_, _, by rw [hl], by rw [hl]; omega, by omega, fun j u hj => ?_⟩
  have hjl := (List.getElem?_eq_some_iff.1 hj).1
  rw [hl] at hjl
  rw [List.getElem?_drop, List.getElem?_take, if_pos (by omega)] at hj
  obtain ⟨ad, rfl, hc⟩ := h3 _ u hj
  have hne : ¬ c = k := by omega
  refine ⟨ad.add (k * 1), by simp [hne], ?_⟩
  rw [add_add', Nat.mul_one]
  exact hc

/-- a slice of a list of numbers that is read, from k to m -/
theorem slice_ints {w : World} {A : Option Addr} {n c : Nat} {zs : List Int} (h : Ints w (.slice A n c) zs) {k m : Nat} (hk : k ≤ m) (hm : m ≤ zs.length) :
    ∃ X, sliced A k m c 1 = .slice X (m - k) (c - k) ∧ Ints w (.slice X (m - k) (c - k)) ((zs.take m).drop k) := by
  obtain ⟨X, h1, h2⟩ := sliced_cells h.1 hk (by rw [ints_len]; exact hm)
  refine ⟨X, h1, ?_, fun z hz => h.2 z (List.mem_of_mem_take (List.mem_of_mem_drop hz))⟩
  simpa [ints, List.map_take, List.map_drop] using h2

/-- rows that can be read: each a list of numbers in a block from B on -/
def RR (w : World) (B : Nat) (vs : List Value) (xss : List (List Int)) : Prop :=
  vs.length = xss.length ∧ ∀ (k : Nat) (u : Value) (zs : List Int), vs[k]? = some u → xss[k]? = some zs → OwnInts w B tI u zs
section
variable {w w' : World} {B : Nat} {vs : List Value} {xss : List (List Int)}
theorem RR.nil (w : World) (B : Nat) : RR w B [] [] := ⟨rfl, fun k u zs h => by simp at h⟩
theorem RR.below (h : RR w B vs xss) (hb : Below w.heap.size w w') : RR w' B vs xss := ⟨h.1, fun k u zs hu hz => (h.2 k u zs hu hz).below hb⟩
theorem RR.mono {B' : Nat} (h : RR w B vs xss) (hB : B' ≤ B) : RR w B' vs xss := ⟨h.1, fun k u zs hu hz => (h.2 k u zs hu hz).mono hB⟩
theorem RR.snoc {u : Value} {zs : List Int} (h : RR w B vs xss) (hu : OwnInts w B tI u zs) : RR w B (vs ++ [u]) (xss ++ [zs]) := by
  refine ⟨by simp [h.1], fun k u' zs' hk hz => ?_⟩
  by_cases hlt : k < vs.length
  · rw [List.getElem?_append_left hlt] at hk
    rw [List.getElem?_append_left (by rw [← h.1]; exact hlt)] at hz
    exact h.2 k u' zs' hk hz
  · have hkl := (List.getElem?_eq_some_iff.1 hk).1
    simp at hkl
    have : k = vs.length := by omega
    subst this
    rw [List.getElem?_append_right (Nat.le_refl _)] at hk
    rw [List.getElem?_append_right (by rw [h.1]; exact Nat.le_refl _), h.1] at hz
    simp at hk hz
    subst hk; subst hz
    exact hu
theorem RR.set {k : Nat} {u : Value} {zs : List Int} (h : RR w B vs xss) (hu : OwnInts w B tI u zs) : RR w B (vs.set k u) (xss.set k zs) := by
  refine ⟨by simp [h.1], fun j u' zs' hj hz => ?_⟩
  rw [List.getElem?_set] at hj hz
  by_cases hjk : k = j
  · subst hjk
    rw [if_pos rfl] at hj hz
    split at hj
    · rw [if_pos (by rw [← h.1]; assumption)] at hz
      injection hj with hj; injection hz with hz
      subst hj; subst hz
      exact hu
    · cases hj
  · rw [if_neg hjk] at hj hz
    exact h.2 j u' zs' hj hz
/-- a block whose elements have another type has turned -/
theorem RR.other {v : Value} {e : TypeId} {B' : Nat} {us : List Value} (h : RR w B vs xss) (hg : w.grownBy w' v.ownBlock) (ho : Own w B' e v us) (hne : tI ≠ e) : RR w' B vs xss :=
  ⟨h.1, fun k u zs hu hz => (h.2 k u zs hu hz).kept hg ((h.2 k u zs hu hz).1.ne_of_type ho hne)⟩
theorem RR.rows {v : Value} {e : TypeId} {B' : Nat} (h : RR w B vs xss) (ho : Own w B' e v vs) : Rows w v xss :=
  ⟨vs, ho.cells, h.1, fun k u zs hu hz => (h.2 k u zs hu hz).ints⟩
theorem RR.oneCell (h : RR w B vs xss) : ∀ u ∈ vs, u.oneCell' = true := by
  intro u hu
  obtain ⟨k, hk, rfl⟩ := List.getElem_of_mem hu
  have hx : xss[k]? = some (xss[k]'(by rw [← h.1]; exact hk)) := List.getElem?_eq_getElem _
  rcases (h.2 k _ _ (List.getElem?_eq_getElem hk) hx).1.cases with ⟨e, _⟩ | ⟨g, cap, cur, e, _⟩ <;> rw [e] <;> rfl
end

/-- a list of lists of one's own whose rows can be read -/
def LL (w : World) (B : Nat) (v : Value) (xss : List (List Int)) : Prop := ∃ vs, Own w B tL v vs ∧ RR w B vs xss
section
variable {w w' : World} {B : Nat} {v : Value} {xss : List (List Int)}
theorem LL.rows (h : LL w B v xss) : Rows w v xss := by obtain ⟨vs, h1, h2⟩ := h; exact h2.rows h1
theorem LL.below (h : LL w B v xss) (hb : Below w.heap.size w w') : LL w' B v xss := by obtain ⟨vs, h1, h2⟩ := h; exact ⟨vs, h1.below hb, h2.below hb⟩
theorem LL.mono {B' : Nat} (h : LL w B v xss) (hB : B' ≤ B) : LL w B' v xss := by obtain ⟨vs, h1, h2⟩ := h; exact ⟨vs, h1.mono hB, h2.mono hB⟩
theorem LL.nil (w : World) (B : Nat) : LL w B (.slice none 0 0) [] := ⟨[], Own.nil _ _ _, RR.nil _ _⟩
/-- one row more, made after all else -/
theorem LL.snoc {w1 : World} {vs : List Value} {u v1 : Value} {zs : List Int} (h1 : Own w B tL v vs) (h2 : RR w B vs xss) (hu : OwnInts w B tI u zs) (ho : Own w1 B tL v1 (vs ++ [u])) (hg : w.grownBy w1 v.ownBlock) : RR w1 B (vs ++ [u]) (xss ++ [zs]) :=
  (h2.snoc hu).other hg h1 (by decide)
end

/-- branches that are gathered: rows whose blocks lie before M, and the last row of one's own from M on -/
structure BrS (w : World) (B M : Nat) (o : Value) (vs : List Value) (bs : List (List Int)) : Prop where
  own : Own w B tL o vs
  rows : RR w B vs bs
  old : ∀ (k : Nat) (u : Value), k + 1 < vs.length → vs[k]? = some u → ∀ b, u.ownBlock = some b → b < M
  last : ∀ (u : Value) (zs : List Int), vs[vs.length - 1]? = some u → bs[vs.length - 1]? = some zs → OwnInts w M tI u zs
  le : B ≤ M
  lt : M ≤ w.heap.size

theorem BrS.push {w w1 : World} {B M : Nat} {o v1 u : Value} {vs : List Value} {bs : List (List Int)} {zs : List Int} (h : BrS w B M o vs bs) (hu : OwnInts w w.heap.size tI u zs) (ho : Own w1 B tL v1 (vs ++ [u])) (hg : w.grownBy w1 o.ownBlock) (hge : ∀ b, u.ownBlock = some b → w.heap.size ≤ b) :
    BrS w1 B w.heap.size v1 (vs ++ [u]) (bs ++ [zs]) := by
  have hB : B ≤ w.heap.size := Nat.le_trans h.le h.lt
  have hr := LL.snoc h.own h.rows (hu.mono hB) ho hg
  have hkeep := hu.kept hg (hu.1.ne_of_type h.own (by decide))
  refine ⟨ho, hr, fun k u' hk hu' b hb => ?_, fun u' zs' hu' hz' => ?_, hB, hg.size⟩
  · simp at hk
    rw [List.getElem?_append_left hk] at hu'
    have hx : bs[k]? = some (bs[k]'(by rw [← h.rows.1]; exact hk)) := List.getElem?_eq_getElem _
    exact (h.rows.2 k u' _ hu' hx).1.lt b hb
  · simp at hu'
    have e : (vs ++ [u]).length - 1 = bs.length := by simp [h.rows.1]
    rw [e, List.getElem?_append_right (Nat.le_refl _)] at hz'
    simp at hz'
    subst hu'; subst hz'
    exact hkeep

/-- the last row has grown: it is stored -/
theorem BrS.grow {w w1 : World} {B M g : Nat} {o u u1 : Value} {vs : List Value} {bs : List (List Int)} {zs zs1 : List Int} (h : BrS w B M o vs bs) (hu : vs[vs.length - 1]? = some u) (hz : bs[vs.length - 1]? = some zs)
    (ho : OwnInts w1 M tI u1 zs1) (hg : w.grownBy w1 u.ownBlock) (hob : o.ownBlock = some g) (hown : Own (w1.setCell ⟨g, vs.length - 1, none⟩ u1) B tL o (vs.set (vs.length - 1) u1)) :
    BrS (w1.setCell ⟨g, vs.length - 1, none⟩ u1) B M o (vs.set (vs.length - 1) u1) (bs.set (vs.length - 1) zs1) := by
  have hl := h.last u zs hu hz
  have hpos := (List.getElem?_eq_some_iff.1 hu).1
  have how1 : Own w1 B tL o vs := h.own.kept hg (h.own.ne_of_type hl.1 (by decide))
  have hset : w1.grownBy (w1.setCell ⟨g, vs.length - 1, none⟩ u1) o.ownBlock := by
    rw [hob]
    exact ((Chg.refl g (g + 1) w1).setCell (p := ⟨g, vs.length - 1, none⟩) (Nat.le_refl _) (by simp) u1) |> fun c => ⟨c.os, c.tape, c.output, c.size, fun b hb hne => c.block b hb (by have : b ≠ g := fun e => hne (by rw [e]); omega)⟩
  have hrow1 : RR w1 B (vs.set (vs.length - 1) u1) (bs.set (vs.length - 1) zs1) := by
    refine ⟨by simp [h.rows.1], fun k u' zs' hk hz' => ?_⟩
    rw [List.getElem?_set] at hk hz'
    by_cases hkl : vs.length - 1 = k
    · subst hkl
      rw [if_pos rfl, if_pos hpos] at hk
      rw [if_pos rfl, if_pos (by rw [← h.rows.1]; exact hpos)] at hz'
      injection hk with hk; injection hz' with hz'
      subst hk; subst hz'
      exact ho.mono h.le
    · rw [if_neg hkl] at hk hz'
      have hkk := (List.getElem?_eq_some_iff.1 hk).1
      have hr := h.rows.2 k u' zs' hk hz'
      refine hr.kept hg ?_
      have hold := h.old k u' (by omega) hk
      cases hb : u'.ownBlock with
      | none => exact .inl hb
      | some b => exact .inr fun e => by have h1 := hold b hb; have h2 := hl.1.ge b (e.symm.trans hb); omega
  refine ⟨hown, hrow1.other hset how1 (by decide), fun k u' hk hu' b hb => ?_, fun u' zs' hu' hz' => ?_, h.le, ?_⟩
  · simp at hk
    rw [List.getElem?_set_ne (by omega)] at hu'
    exact h.old k u' hk hu' b hb
  · simp only [List.length_set] at hu' hz'
    rw [List.getElem?_set_self hpos] at hu'
    rw [List.getElem?_set_self (by rw [← h.rows.1]; exact hpos)] at hz'
    injection hu' with hu'; injection hz' with hz'
    subst hu'; subst hz'
    exact ho.kept hset (ho.1.ne_of_type how1 (by decide))
  · have h1 := hg.size
    have h2 := hset.size
    have h3 := h.lt
    omega

theorem BrS.openLast {w : World} {B M m : Nat} {o : Value} {vs : List Value} {bs : List (List Int)} (h : BrS w B M o vs bs) (hm : vs.length = m + 1) :
    ∃ g cap u zs, o = .slice (some ⟨g, 0, none⟩) (m + 1) cap ∧ m + 1 ≤ cap ∧ cap ≤ 9223372036854775807 ∧ vs[m]? = some u ∧ bs[m]? = some zs ∧ OwnInts w M tI u zs ∧ w.cell? ⟨g, m, none⟩ = some u := by
  have hbl : bs.length = m + 1 := by rw [← h.rows.1]; exact hm
  have hu : vs[m]? = some (vs[m]'(by omega)) := List.getElem?_eq_getElem _
  have hz : bs[m]? = some (bs[m]'(by omega)) := List.getElem?_eq_getElem _
  have hl := h.last _ _ (by rw [hm]; exact hu) (by rw [hm]; exact hz)
  rcases h.own.cases with ⟨_, e⟩ | ⟨g, cap, cur, e, h1, h2, h3, h4, h5, h6, h7⟩
  · rw [e] at hm; simp at hm
  · refine ⟨g, cap, _, _, by rw [e, hm], by omega, by simpa [maxLen] using h5, hu, hz, hl, ?_⟩
    subst e
    obtain ⟨ad, n', c', he, hc⟩ := h.own.cells.at_ hu
    simp only [Value.slice.injEq, Option.some.injEq] at he
    obtain ⟨rfl, -, -⟩ := he
    have e : (⟨g, 0, none⟩ : Addr).add m = ⟨g, m, none⟩ := by
      by_cases h0 : m = 0 <;> simp [Addr.add, h0]
    rwa [e] at hc

/-- behind the append to the last row: what the store wants -/
theorem BrS.ready {w w1 : World} {B M m g cap : Nat} {u u1 : Value} {vs : List Value} {bs : List (List Int)} {zs zs1 : List Int} (h : BrS w B M (.slice (some ⟨g, 0, none⟩) (m + 1) cap) vs bs) (hm : vs.length = m + 1) (hu : vs[m]? = some u) (hz : bs[m]? = some zs)
    (ho : OwnInts w1 M tI u1 zs1) (hg : w.grownBy w1 u.ownBlock) :
    (∃ u0, w1.cell? ⟨g, m, none⟩ = some u0) ∧ w1.frozen? ⟨g, m, none⟩ = false ∧ BrS (w1.setCell ⟨g, m, none⟩ u1) B M (.slice (some ⟨g, 0, none⟩) (m + 1) cap) (vs.set m u1) (bs.set m zs1) := by
  have hlu := h.last u zs (by rw [hm]; exact hu) (by rw [hm]; exact hz)
  have how1 : Own w1 B tL (.slice (some ⟨g, 0, none⟩) (m + 1) cap) vs := h.own.kept hg (h.own.ne_of_type hlu.1 (by decide))
  obtain ⟨u0, -, hc, hf, -, -, hown, -⟩ := how1.storeAt (k := m) (by omega) u1
  have e : m = vs.length - 1 := by omega
  refine ⟨⟨u0, hc⟩, hf, ?_⟩
  have := h.grow (g := g) (u1 := u1) (by rw [← e]; exact hu) (by rw [← e]; exact hz) ho hg rfl (by rw [← e]; exact hown)
  rwa [← e] at this

/-- an empty row more -/
theorem BrS.pushNil {w w1 : World} {B M : Nat} {o v1 : Value} {vs : List Value} {bs : List (List Int)} (h : BrS w B M o vs bs) (ho : Own w1 B tL v1 (vs ++ [.slice none 0 0])) (hg : w.grownBy w1 o.ownBlock) :
    ∃ g cap, v1 = .slice (some ⟨g, 0, none⟩) (vs.length + 1) cap ∧ vs.length + 1 ≤ cap ∧ cap ≤ 9223372036854775807 ∧ BrS w1 B w.heap.size (.slice (some ⟨g, 0, none⟩) (vs.length + 1) cap) (vs ++ [.slice none 0 0]) (bs ++ [[]]) ∧
      w1.cell? ⟨g, vs.length, none⟩ = some (.slice none 0 0) ∧ g < w1.heap.size ∧ B ≤ g ∧ (vs ++ [Value.slice none 0 0])[vs.length]? = some (.slice none 0 0) ∧ (bs ++ [[]])[vs.length]? = some [] := by
  have hp := h.push (u := .slice none 0 0) (zs := []) (OwnInts.nil _ _ _) ho hg (fun b hb => by simp [Value.ownBlock] at hb)
  obtain ⟨g, cap, u, zs, e, h1, h2, hu, hz, hl, hc⟩ := hp.openLast (m := vs.length) (by simp)
  subst e
  have eu : (vs ++ [Value.slice none 0 0])[vs.length]? = some (.slice none 0 0) := by simp
  have ez : (bs ++ [[]])[vs.length]? = some [] := by rw [h.rows.1]; simp
  rw [eu] at hu
  injection hu with hu
  subst hu
  exact ⟨g, cap, rfl, h1, h2, hp, hc, World.block_lt_of_cell? w1 _ hc, hp.own.ge g rfl, eu, ez⟩

theorem BrS.below {w w' : World} {B M : Nat} {o : Value} {vs : List Value} {bs : List (List Int)} (h : BrS w B M o vs bs) (hb : Below w.heap.size w w') : BrS w' B M o vs bs :=
  ⟨h.own.below hb, h.rows.below hb, h.old, fun u zs hu hz => (h.last u zs hu hz).below hb, h.le, Nat.le_trans h.lt hb.size⟩

/-- an empty row more, which a literal has laid -/
theorem BrS.pushLit {w w1 : World} {B M : Nat} {o v1 : Value} {vs : List Value} {bs : List (List Int)} (h : BrS w B M o vs bs) (ho : Own w1 B tL v1 (vs ++ [.slice (some ⟨w.heap.size, 0, none⟩) 0 0])) (hg : (w.alloc (.cells #[] tI)).grownBy w1 o.ownBlock) :
    ∃ g cap, v1 = .slice (some ⟨g, 0, none⟩) (vs.length + 1) cap ∧ vs.length + 1 ≤ cap ∧ cap ≤ 9223372036854775807 ∧ BrS w1 B w.heap.size (.slice (some ⟨g, 0, none⟩) (vs.length + 1) cap) (vs ++ [.slice (some ⟨w.heap.size, 0, none⟩) 0 0]) (bs ++ [[]]) ∧
      w1.cell? ⟨g, vs.length, none⟩ = some (.slice (some ⟨w.heap.size, 0, none⟩) 0 0) ∧ g < w1.heap.size ∧ B ≤ g ∧ (vs ++ [Value.slice (some ⟨w.heap.size, 0, none⟩) 0 0])[vs.length]? = some (.slice (some ⟨w.heap.size, 0, none⟩) 0 0) ∧ (bs ++ [[]])[vs.length]? = some [] ∧
      OwnInts w1 w.heap.size tI (.slice (some ⟨w.heap.size, 0, none⟩) 0 0) [] := by
  have h' := h.below (below1 w (.cells #[] tI))
  have hB : B ≤ w.heap.size := Nat.le_trans h.le h.lt
  have hu : OwnInts (w.alloc (.cells #[] tI)) w.heap.size tI (.slice (some ⟨w.heap.size, 0, none⟩) 0 0) [] := ⟨own_lit w tI [] (by simp [maxLen]), fun z hz => by simp at hz⟩
  have hkeep := hu.kept hg (hu.1.ne_of_type h'.own (by decide))
  have hr := LL.snoc h'.own h'.rows (hu.mono hB) ho hg
  have hsz := hg.size
  have hp : BrS w1 B w.heap.size v1 (vs ++ [.slice (some ⟨w.heap.size, 0, none⟩) 0 0]) (bs ++ [[]]) := by
    refine ⟨ho, hr, fun k u' hk hu' b hb => ?_, fun u' zs' hu' hz' => ?_, hB, by rw [size_alloc'] at hsz; omega⟩
    · simp at hk
      rw [List.getElem?_append_left hk] at hu'
      have hx : bs[k]? = some (bs[k]'(by rw [← h.rows.1]; exact hk)) := List.getElem?_eq_getElem _
      exact (h.rows.2 k u' _ hu' hx).1.lt b hb
    · simp at hu'
      have e : (vs ++ [Value.slice (some ⟨w.heap.size, 0, none⟩) 0 0]).length - 1 = bs.length := by simp [h.rows.1]
      rw [e, List.getElem?_append_right (Nat.le_refl _)] at hz'
      simp at hz'
      subst hu'; subst hz'
      exact hkeep
  obtain ⟨g, cap, u, zs, e, h1, h2, hu2, hz, hl, hc⟩ := hp.openLast (m := vs.length) (by simp)
  subst e
  have eu : (vs ++ [Value.slice (some ⟨w.heap.size, 0, none⟩) 0 0])[vs.length]? = some (.slice (some ⟨w.heap.size, 0, none⟩) 0 0) := by simp
  have ez : (bs ++ [[]])[vs.length]? = some [] := by rw [h.rows.1]; simp
  rw [eu] at hu2
  injection hu2 with hu2
  subst hu2
  exact ⟨g, cap, rfl, h1, h2, hp, hc, World.block_lt_of_cell? w1 _ hc, hp.own.ge g rfl, eu, ez, hkeep⟩
end Go.Proofs.Ytbjeibcombjfgaa

set_option maxRecDepth 100000
set_option linter.unusedVariables false
set_option linter.unusedSimpArgs false
namespace Go.Proofs.Ytbjeibcombjfgaa
open Go.RowKit

theorem sizeI (W : World) : (sizeOf (Try.prog.elem 25)).run Try.prog W = .ok 1 W := by kernel_rfl
theorem sizeL (W : World) : (sizeOf (Try.prog.elem 24)).run Try.prog W = .ok 1 W := by kernel_rfl

theorem sl_from {t : TypeId} (ht : Try.prog.underlying t = some (.slice (Try.prog.elem t))) (hs : ∀ W, (sizeOf (Try.prog.elem t)).run Try.prog W = .ok 1 W) (W : World) (A : Option Addr) (n c k : Nat) (K : Int) (hK : K = k) (h : k ≤ n) :
    (Instr.slice t (.slice A n c) (some (.int .i64 K)) none none).run Try.prog W = .ok (sliced A k n c 1) W := by
  subst hK
  rw [run_slice_l W t A n c ht .i64 k (by omega) (by omega), hs]
  simp [Result.andThen]
theorem sl_to {t : TypeId} (ht : Try.prog.underlying t = some (.slice (Try.prog.elem t))) (hs : ∀ W, (sizeOf (Try.prog.elem t)).run Try.prog W = .ok 1 W) (W : World) (A : Option Addr) (n c k : Nat) (K : Int) (hK : K = k) (h : k ≤ c) :
    (Instr.slice t (.slice A n c) none (some (.int .i64 K)) none).run Try.prog W = .ok (sliced A 0 k c 1) W := by
  subst hK
  rw [run_slice_h W t A n c ht .i64 k (by omega) (by omega), hs]
  simp [Result.andThen]
/-- 't[k:]' of a list of numbers -/
theorem ints_from {w : World} {A : Option Addr} {n c : Nat} {zs : List Int} (h : Ints w (.slice A n c) zs) (k : Nat) (K : Int) (hK : K = k) (hk : k ≤ zs.length) :
    ∃ X, (∀ W, (Instr.slice 25 (.slice A n c) (some (.int .i64 K)) none none).run Try.prog W = .ok (.slice X (zs.length - k) (c - k)) W) ∧ Ints w (.slice X (zs.length - k) (c - k)) (zs.drop k) := by
  have hn : n = zs.length := by obtain ⟨A', c', e, -, -, -⟩ := h.open_; simp only [Value.slice.injEq] at e; exact e.2.1
  obtain ⟨X, h1, h2⟩ := slice_ints h (k := k) (m := zs.length) hk (Nat.le_refl _)
  rw [List.take_length] at h2
  exact ⟨X, fun W => by rw [sl_from Try.underlying25 sizeI W A n c k K hK (by omega), hn, h1], h2⟩
/-- 't[:k]' of a list of numbers -/
theorem ints_to {w : World} {A : Option Addr} {n c : Nat} {zs : List Int} (h : Ints w (.slice A n c) zs) (k : Nat) (K : Int) (hK : K = k) (hk : k ≤ zs.length) :
    ∃ X, (∀ W, (Instr.slice 25 (.slice A n c) none (some (.int .i64 K)) none).run Try.prog W = .ok (.slice X k c) W) ∧ Ints w (.slice X k c) (zs.take k) := by
  have hc : zs.length ≤ c := by obtain ⟨A', c', e, h, -, -⟩ := h.open_; simp only [Value.slice.injEq] at e; omega
  obtain ⟨X, h1, h2⟩ := slice_ints h (k := 0) (m := k) (Nat.zero_le _) hk
  simp only [Nat.sub_zero, List.drop_zero] at h1 h2
  exact ⟨X, fun W => by rw [sl_to Try.underlying25 sizeI W A n c k K hK (by omega), h1], h2⟩

/-- append of one element, whose block's number the walk has reckoned -/
theorem wpList_app1n {P : Program} {ops : Array Oper} {rest : List Oper} {o : Oper} {a : Act} {Q : Exit → Act → World → Prop} {s x : Operand} {t : TypeId}
    {e : TypeId} {z : Value} {bytes : Nat} {B : Nat} {v : Value} {vs : List Value} {W : World} {u : Value} (gn : Nat) (hgn : W.heap.size = gn)
    (T : ElemT P t e z bytes) (hown : Own W B e v vs) (hlen : vs.length < 1099511627776) (hB : B ≤ W.heap.size) (hu : u.oneCell' = true)
    (hgd : o.guard = none) (ho : o.op = .call { callee := .builtin .append, args := #[s, x], argTypes := #[t, t] }) (hs : a.eval s = v)
    (hx : a.eval x = .slice (some ⟨gn, 0, none⟩) 1 1)
    (h : ∀ v' w', Own w' B e v' (vs ++ [u]) → Grow W w' v v' → wpList P ops Q rest (a.put o.dst v') w') : wpList P ops Q (o :: rest) a (W.alloc (.cells #[u] e)) := by
  subst hgn
  exact wpList_app1 T hown hlen hB hu hgd ho hs hx h
end Go.Proofs.Ytbjeibcombjfgaa

set_option linter.unusedVariables false
set_option linter.unusedSimpArgs false
namespace Go.Proofs.Ytbjeibcombjfgaa

theorem tmod_num (n : Int) : (n.tmod 10007 + 10007) % 10007 = n % 10007 := by
  rw [Int.tmod_eq_emod (a := n)]
  split <;> omega

/-- lo ≤ n ≤ hi, as a test -/
def inR (n lo hi : Int) : Bool := decide (lo ≤ n) && decide (n ≤ hi)
theorem inR_iff {n lo hi : Int} : inR n lo hi = true ↔ lo ≤ n ∧ n ≤ hi := by simp [inR]
def isNum (z : Int) : Bool := inR z 0 10006
def nums (zs : List Int) : Bool := zs.all isNum
theorem nums_iff {zs : List Int} : nums zs = true ↔ ∀ z ∈ zs, 0 ≤ z ∧ z ≤ 10006 := by simp [nums, isNum, inR_iff]
/-- the first index at which p holds, or -1 -/
def idxF {α : Type} (p : α → Bool) (l : List α) : Int := match l.findIdx? p with | some i => (i : Int) | none => -1
theorem idxF_hit {α : Type} {p : α → Bool} {l : List α} {k : Nat} {x : α} (h : ∀ i y, i < k → l[i]? = some y → p y = false) (hx : l[k]? = some x) (hp : p x = true) : idxF p l = (k : Int) := by
  have : l.findIdx? p = some k := by
    rw [List.findIdx?_eq_some_iff_getElem]
    obtain ⟨hk, e⟩ := List.getElem?_eq_some_iff.1 hx
    refine ⟨hk, by rw [e]; exact hp, fun j hj => ?_⟩
    have hj' : j < l.length := by omega
    simp [h j l[j] hj (List.getElem?_eq_getElem hj')]
  simp [idxF, this]
theorem idxF_miss {α : Type} {p : α → Bool} {l : List α} (h : ∀ i y, i < l.length → l[i]? = some y → p y = false) : idxF p l = -1 := by
  have : l.findIdx? p = none := by
    rw [List.findIdx?_eq_none_iff]
    intro x hx
    obtain ⟨i, hi, rfl⟩ := List.getElem_of_mem hx
    simpa using h i l[i] hi (List.getElem?_eq_getElem hi)
  simp [idxF, this]
theorem idxF_nonneg {α : Type} (p : α → Bool) (l : List α) : decide (0 ≤ idxF p l) = l.any p := by
  unfold idxF
  cases h : l.findIdx? p with
  | none =>
    rw [List.findIdx?_eq_none_iff] at h
    have : l.any p = false := by rw [List.any_eq_false]; intro x hx; simp [h x hx]
    rw [this]; decide
  | some i =>
    rw [List.findIdx?_eq_some_iff_getElem] at h
    obtain ⟨hk, e, _⟩ := h
    have : l.any p = true := List.any_eq_true.2 ⟨_, List.getElem_mem hk, e⟩
    rw [this]; simp
theorem any_not_nums (zs : List Int) : (zs.any fun z => !isNum z) = !nums zs := by
  unfold nums
  induction zs with
  | nil => rfl
  | cons z zs ih => simp only [List.any_cons, List.all_cons, ih]; cases isNum z <;> simp
theorem nums_false {zs : List Int} {k : Nat} {z : Int} (h : zs[k]? = some z) (hz : isNum z = false) : nums zs = false := by
  unfold nums
  rw [List.all_eq_false]
  exact ⟨z, List.mem_of_getElem? h, by simp [hz]⟩
theorem nums_all {zs : List Int} (h : ∀ i y, i < zs.length → zs[i]? = some y → isNum y = true) : nums zs = true := by
  unfold nums
  rw [List.all_eq_true]
  intro x hx
  obtain ⟨i, hi, rfl⟩ := List.getElem_of_mem hx
  exact h i _ hi (List.getElem?_eq_getElem hi)

end Go.Proofs.Ytbjeibcombjfgaa

set_option linter.unusedVariables false
set_option linter.unusedSimpArgs false
namespace Go.Proofs.Ytbjeibcombjfgaa
open Go.RowKit

set_option maxHeartbeats 400000 in
theorem i_num (n : Int) (w : World) (h0 : -4000000000000000000 ≤ n) (h1 : n ≤ 4000000000000000000) :
    Calls Try.prog 108 #[.int .i64 n] w fun e w' => e = .returned (.int .i64 (n % 10007)) ∧ w = w' := by
  have h2 : -10007 < n.tmod 10007 := by rw [Int.tmod_eq_emod]; split <;> omega
  have h3 : n.tmod 10007 < 10007 := by rw [Int.tmod_eq_emod]; split <;> omega
  have HT := Lib.hid (tmod_num n)
  go_enter Try.func108, Try.ntmps108
  go_wp2
  go_ret
  exact ⟨ret_int HT.out, rfl⟩

set_option maxHeartbeats 400000 in
theorem s_l01Mod (n : Int) (w : World) (h0 : -4000000000000000000 ≤ n) (h1 : n ≤ 4000000000000000000) :
    Calls Try.prog 123 #[.int .i64 n] w fun e w' => e = .returned (.int .i64 (n % 10007)) ∧ w = w' := by
  have h2 : -10007 < n.tmod 10007 := by rw [Int.tmod_eq_emod]; split <;> omega
  have h3 : n.tmod 10007 < 10007 := by rw [Int.tmod_eq_emod]; split <;> omega
  have HT := Lib.hid (tmod_num n)
  go_enter Try.func123, Try.ntmps123
  go_wp2
  go_ret
  exact ⟨ret_int HT.out, rfl⟩

end Go.Proofs.Ytbjeibcombjfgaa

set_option linter.unusedVariables false
set_option linter.unusedSimpArgs false
namespace Go.Proofs.Ytbjeibcombjfgaa
open Go.RowKit

/-- append of one element, met in a region that draws -/
theorem step_app1 {P : Program} {ops : Array Oper} {o : Oper} {a : Act} {K : Act → World → Prop} {Q : Exit → Act → World → Prop} {E : Prop} {s x : Operand} {t : TypeId}
    {e : TypeId} {z : Value} {bytes : Nat} {B : Nat} {v : Value} {vs : List Value} {W : World} {u : Value}
    (T : ElemT P t e z bytes) (hown : Own W B e v vs) (hlen : vs.length < 1099511627776) (hB : B ≤ W.heap.size) (hu : u.oneCell' = true)
    (hgd : o.guard = none) (ho : o.op = .call { callee := .builtin .append, args := #[s, x], argTypes := #[t, t] }) (hs : a.eval s = v)
    (hx : a.eval x = .slice (some ⟨W.heap.size, 0, none⟩) 1 1)
    (h : ∀ v' w', Own w' B e v' (vs ++ [u]) → Grow W w' v v' → K (a.put o.dst v') w') :
    if Region.wanted o (yielded ops a.tmps) = true then Oper.wp P o a (W.alloc (.cells #[u] e)) K Q else E := by
  have hw : Region.wanted o (yielded ops a.tmps) = true := by simp [Region.wanted, hgd]
  rw [if_pos hw]
  obtain ⟨i, hi, hz, h1, h2⟩ := info_parts T.info
  have hby := T.small
  obtain ⟨v', w', hrun, r1, r2, _, r3⟩ := run_append_own_at (P := P) (W.alloc (.cells #[u] e)) B t o.type e i z 1 bytes T.under hi hz h1 h2 (by rw [T.one]; rfl) (by omega) v vs.length vs (hown.alloc _) ⟨W.heap.size, 0, none⟩ 1 1 [u] rfl
    (fun j u' hj => by
      cases j with
      | zero =>
        simp at hj; subst hj
        have e0 : (⟨W.heap.size, 0, none⟩ : Addr).add 0 = ⟨W.heap.size, 0, none⟩ := rfl
        rw [e0, World.cell?_alloc_at _ _ _ _ rfl]
        rfl
      | succ j => simp at hj) (by simpa using hu) (by simp only [maxLen]; omega) (by have := Nat.mul_le_mul_left (vs.length + 1) hby; omega) (by simp; omega)
  unfold Oper.wp execOp
  simp only [ho, resolve, invoke, builtin, Sem.run_bind, Sem.run_pure, Result.andThen_ok, List.map_toArray, List.map_cons, List.map_nil, hs, hx, hrun]
  refine h v' w' ?_ ⟨?_, ?_⟩
  · unfold Own; simpa using r1
  · refine ⟨r2.os, r2.tape, r2.output, ?_, fun k hk hne => ?_⟩
    · have := r2.size; simp at this; omega
    · rw [r2.block k (by simp; omega) hne]
      exact Below.heap_alloc _ _ _ hk
  · rcases r3 with r3 | r3
    · exact .inl r3
    · exact .inr ⟨_, r3, by simp⟩

def Nums (zs : List Int) : Prop := ∀ z ∈ zs, 0 ≤ z ∧ z ≤ 10006
end Go.Proofs.Ytbjeibcombjfgaa

set_option maxRecDepth 100000
set_option linter.unusedVariables false
set_option linter.unusedSimpArgs false
namespace Go.Proofs.Ytbjeibcombjfgaa
open Go.RowKit

theorem brF_snoc : ∀ (out : List (List Nat)) (ts : List Nat) (k : Nat) (l : Nat) (o r : List (List Nat)), brF out ts = some r → brF out (ts.take k) = some o → ts[k]? = some l → ∃ o', brStep o l = some o' ∧ brF out (ts.take (k + 1)) = some o'
  | out, [], k, l, o, r, _, _, hl => by simp at hl
  | out, t :: ts, 0, l, o, r, hr, ho, hl => by
    simp at hl; subst hl
    simp [brF] at ho; subst ho
    rw [brF] at hr
    cases hs : brStep out t with
    | none => rw [hs] at hr; cases hr
    | some o' => exact ⟨o', rfl, by simp [brF, hs]⟩
  | out, t :: ts, k + 1, l, o, r, hr, ho, hl => by
    rw [List.take_succ_cons, brF] at ho ⊢
    rw [brF] at hr
    cases hs : brStep out t with
    | none => rw [hs] at hr; cases hr
    | some o1 =>
      rw [hs] at hr ho
      simp only at hr ho ⊢
      exact brF_snoc o1 ts k l o r hr ho (by simpa using hl)
/-- one more step of the branches -/
theorem brStep_cases {o o' : List (List Nat)} {l : Nat} (h : brStep o l = some o') : (l = 1 ∧ o' = o ++ [[0]]) ∨ (2 ≤ l ∧ ∃ (n : Nat) (b : List Nat), o.length = n + 1 ∧ o[n]? = some b ∧ o' = o.set n (b ++ [l - 1])) := by
  unfold brStep at h
  split at h
  · cases h
  · injection h with h; exact .inl ⟨rfl, h.symm⟩
  · rename_i l' 
    split at h
    · cases h
    · rename_i b bs
      injection h with h
      refine .inr ⟨by omega, bs.length, (b :: bs)[bs.length], rfl, by simp, ?_⟩
      rw [← h]
      have : ∀ (b : List Nat) (bs : List (List Nat)), addLast (l' + 1) (b :: bs) = (b :: bs).set bs.length ((b :: bs)[bs.length] ++ [l' + 1]) := by
        intro b bs
        induction bs generalizing b with
        | nil => rfl
        | cons c cs ih =>
          rw [addLast, ih c]
          simp
      exact this b bs

def brLen : List (List Nat) → Nat
  | [] => 0
  | b :: bs => b.length + brLen bs
theorem brLen_append (a b : List (List Nat)) : brLen (a ++ b) = brLen a + brLen b := by
  induction a with
  | nil => simp [brLen]
  | cons x a ih => simp [brLen, ih]; omega
theorem brLen_set {bs : List (List Nat)} {n : Nat} {b : List Nat} (h : bs[n]? = some b) (x : Nat) : brLen (bs.set n (b ++ [x])) = brLen bs + 1 := by
  induction bs generalizing n with
  | nil => simp at h
  | cons c cs ih =>
    cases n with
    | zero => simp at h; subst h; simp [brLen]; omega
    | succ n => simp at h; simp [brLen, ih h]; omega
theorem brLen_mem {bs : List (List Nat)} {n : Nat} {b : List Nat} (h : bs[n]? = some b) : b.length ≤ brLen bs := by
  induction bs generalizing n with
  | nil => simp at h
  | cons c cs ih =>
    cases n with
    | zero => simp at h; subst h; simp [brLen]
    | succ n => simp at h; have := ih h; simp [brLen]; omega
theorem brF_tot : ∀ {out ts r}, brF out ts = some r → brLen r = brLen out + ts.length
  | out, [], r, h => by simp [brF] at h; subst h; simp
  | out, t :: ts, r, h => by
    rw [brF] at h
    cases hs : brStep out t with
    | none => rw [hs] at h; cases h
    | some o =>
      rw [hs] at h
      have h1 := brF_tot h
      have h2 : brLen o = brLen out + 1 := by
        rcases brStep_cases hs with ⟨_, rfl⟩ | ⟨_, n, b, _, hb, rfl⟩
        · rw [brLen_append]; simp [brLen]
        · exact brLen_set hb _
      simp
      omega
theorem up_getD {t : List Nat} {k : Nat} {z : Int} (h : (up t)[k]? = some z) : ∃ l : Nat, t[k]? = some l ∧ z = (l : Int) := by
  rw [up_get] at h
  cases ht : t[k]? with
  | none => rw [ht] at h; cases h
  | some l => rw [ht] at h; simp at h; exact ⟨l, rfl, h.symm⟩

set_option maxHeartbeats 4000000 in
theorem i_branchesOf (w : World) (v : Value) (t : List Nat) (bs : List (List Nat)) (ha : Ints w v (up t)) (hb : brO t = some bs) (hn : t.length ≤ 1000) (hl : ∀ l ∈ t, l ≤ 1000000) :
    Calls Try.prog 158 #[v] w fun e w' => ∃ r, e = .returned r ∧ LL w' w.heap.size r (bs.map up) ∧ Below w.heap.size w w' := by
  cases t with
  | nil => cases hb
  | cons t0 ts =>
    have HB := Lib.hid (show brF [] ts = some bs from hb)
    have HLV := Lib.hid hl
    obtain ⟨A, c, rfl, l1, l2, -⟩ := ha.open_
    obtain ⟨X, hsl, hx⟩ := ints_from ha 1 1 rfl (by simp [up])
    have hul : (up (t0 :: ts)).length - 1 = ts.length := by simp [up]
    rw [hul] at hsl hx
    have hnt : ts.length ≤ 1000 := by simp at hn; omega
    obtain ⟨A', c', he, m1, m2, h3⟩ := hx.open_
    have hdl : (up (t0 :: ts)).drop 1 = up ts := by simp [up]
    rw [hdl] at h3 he
    rw [up_len] at he
    simp only [Value.slice.injEq] at he
    obtain ⟨rfl, -, rfl⟩ := he
    have H3 := Lib.hid h3
    have OL := Lib.hid (show BrS (w.alloc (.cells #[] tL)) w.heap.size w.heap.size (.slice (some ⟨w.heap.size, 0, none⟩) 0 0) [] [] from ⟨own_lit w tL [] (by simp [maxLen]), RR.nil _ _, fun k u h => by simp at h, fun u zs h => by simp at h, Nat.le_refl _, by simp⟩)
    generalize hcc : c - 1 = cc at hsl m1 m2
    clear ha hx h3 hb hl hul hdl hn l1 l2 hcc
    generalize (up (t0 :: ts)).length = n0 at hsl ⊢
    go_enter Try.func158, Try.ntmps158
    go_wp2_with fail
    clear hsl
    have hm1 : ts.length ≤ cc := by simpa [up] using m1
    clear m1
    have HLT := Lib.hid (show ∀ l ∈ ts, l ≤ 1000000 from fun l h => HLV.out l (List.mem_cons_of_mem _ h))
    clear HLV
    go_loopw [3, 10] (fun o i wr => ∃ (j M : Nat) (vs : List Value) (oj : List (List Nat)), j ≤ ts.length ∧ i = .int .i64 j ∧ Hid (brF [] (ts.take j) = some oj) ∧ vs.length ≤ j ∧ BrS wr w.heap.size M o vs (oj.map up) ∧ Below w.heap.size w wr) (fun _ i _ => ts.length - (intOf i).toNat)
    case atStart => exact ⟨0, _, [], [], Nat.zero_le _, rfl, by simp [brF, Hid], Nat.le_refl _, OL.out, below1 _ _⟩
    case round =>
      obtain ⟨j, M, vs, oj, hj, rfl, hO, hvj, hs, hbw⟩ := hrel
      clear OL
      have HS := Lib.hid hs
      have HBW := Lib.hid hbw
      clear hs hbw
      by_cases hlt : j < ts.length
      · obtain ⟨ad, z, rfl, hz, -, hc0⟩ := H3.out j (by rw [up_len]; exact hlt)
        obtain ⟨l, hlj, hzl⟩ := up_getD hz
        obtain ⟨o', hst, hO'⟩ := brF_snoc [] ts j l oj bs HB.out hO.out hlj
        have hl6 := HLT.out l (List.mem_of_getElem? hlj)
        have hc : wr.cell? (ad.add j) = some (.int .i64 z) := by
          rw [HBW.out.cell (by rw [block_add]; have := World.block_lt_of_cell? w _ hc0; rwa [block_add] at this)]; exact hc0
        have HO' := Lib.hid hO'
        clear hz hc0 hO'
        have hji : (j : Int) < (ts.length : Int) := by omega
        have hwz : IntKind.i64.wrap (z - 1) = z - 1 := IntWalk.i64_in _ (by omega)
        rcases brStep_cases hst with ⟨h1, rfl⟩ | ⟨h2, n, b, hn', hb', rfl⟩
        · have hd : (z == 1) = true := by rw [hzl, h1]; rfl
          have HE := Lib.hid (show z - 1 = ((0 : Nat) : Int) by rw [hzl, h1]; rfl)
          have hz64 : In64 (z - 1) := by unfold In64; omega
          clear hst hlj h1 hzl
          have hvl : vs.length ≤ 1000 := by omega
          have hw2 : IntKind.i64.wrap ((vs.length : Int) + 1 - 1) = (vs.length : Int) := by rw [IntWalk.i64_in _ (by omega)]; omega
          go_wp2_with (first
            | (at_builtin; refine wpList_app1 T_row HS.out.own (by omega) (Nat.le_trans HS.out.le HS.out.lt) (by rfl) rfl (by rfl) (by rfl) (by rfl) ?_; intro v1 w1 hown1 hgr1; obtain ⟨g, cap, hv1, k1, k2, hs1, q0, hgs, hge, hu, hzs⟩ := HS.out.pushNil hown1 hgr1.1; have HB1 := Lib.hid (hgr1.below HBW.out HBW.out.size HS.out.own.ge); subst hv1; have HS1 := Lib.hid hs1; have HU := Lib.hid hu; have HZS := Lib.hid hzs; have HGE := Lib.hid hge; clear hown1 hgr1 hs1 hu hzs hge)
            | (at_builtin; refine wpList_app1 T_int (B := wr.heap.size) (v := .slice none 0 0) (vs := []) (Own.nil _ _ _) (by simp) HS1.out.lt (by rfl) rfl (by rfl) (by rfl) (by rfl) ?_; intro u1 w2 hown2 hgr2; obtain ⟨A2, c2, hu1, -, -⟩ := hown2.cells.open_; subst hu1; obtain ⟨⟨u0, q1⟩, q2, hs2⟩ := HS1.out.ready (m := vs.length) (zs1 := [z - 1]) (by simp) HU.out HZS.out ⟨by simpa [ints] using hown2, fun y hy => by simp at hy; subst hy; exact hz64⟩ hgr2.1; have HS2 := Lib.hid hs2; have HB2 := Lib.hid (hgr2.below HB1.out HB1.out.size (fun b hb => by simp [Value.ownBlock] at hb)); have hgs2 : g < w2.heap.size := Nat.lt_of_lt_of_le hgs hgr2.1.size; clear hs2 hown2 hgr2 q0))
          go_roundw
          case rel =>
            have e : (oj ++ [[0]]).map up = (oj.map up ++ [[]]).set vs.length [z - 1] := by
              have hl := HS.out.rows.1
              rw [hl, HE.out]
              simp [up]
            have hfin := HS2.out
            rw [← e] at hfin
            exact ⟨j + 1, _, _, _, by omega, by go_num, HO'.out, by simp; omega, hfin, HB2.out.setCell (p := ⟨g, vs.length, none⟩) HGE.out _⟩
          case measure => simp [intOf]; omega
        · have hd : (z == 1) = false := by rw [hzl]; simp; omega
          have HE := Lib.hid (show z - 1 = ((l - 1 : Nat) : Int) by rw [hzl]; omega)
          have hz64 : In64 (z - 1) := by unfold In64; omega
          have hvn : vs.length = n + 1 := by rw [HS.out.rows.1]; simp [hn']
          have hnn : n + 1 ≤ 1000 := by omega
          have HBB := Lib.hid hb'
          have HOL := Lib.hid hn'
          have HVN := Lib.hid hvn
          have HVJ := Lib.hid hvj
          clear hst hlj h2 hzl hb' hn' hvj
          obtain ⟨g, cap, u, zs, hv1, k1, k2, hu, hzs, hlast, q0⟩ := HS.out.openLast hvn
          subst hv1
          have HZS := Lib.hid (show zs = up b by simp [HBB.out] at hzs; exact hzs.symm)
          have HZ2 := Lib.hid hzs
          have HU := Lib.hid hu
          have HLA := Lib.hid hlast
          have hgs : g < wr.heap.size := World.block_lt_of_cell? wr _ q0
          have hbl : zs.length ≤ 1048576 := by
            have h1 := brF_tot hO.out
            have h2 := brLen_mem HBB.out
            rw [HZS.out, up_len]
            simp [brLen] at h1
            omega
          have hw2 : IntKind.i64.wrap ((n : Int) + 1 - 1) = (n : Int) := by rw [IntWalk.i64_in _ (by omega)]; omega
          clear hu hzs hlast hvn
          go_wp2_with (at_builtin; refine wpList_app1 T_int (B := M) (v := u) (vs := ints zs) HLA.out.1 (by rw [ints_len]; omega) HS.out.lt (by rfl) rfl (by rfl) (by rfl) (by rfl) ?_; intro u1 w2 hown2 hgr2; obtain ⟨A2, c2, hu1, -, -⟩ := hown2.cells.open_; subst hu1; obtain ⟨⟨u0, q1⟩, q2, hs2⟩ := HS.out.ready (m := n) (zs1 := zs ++ [z - 1]) HVN.out HU.out HZ2.out ⟨by simpa [ints] using hown2, fun y hy => by rcases List.mem_append.1 hy with hy | hy; exact HLA.out.2 y hy; simp at hy; subst hy; exact hz64⟩ hgr2.1; have HS2 := Lib.hid hs2; have HB2 := Lib.hid (hgr2.below HBW.out HBW.out.size (fun b hb => Nat.le_trans HS.out.le (HLA.out.1.ge b hb))); have hgs2 : g < w2.heap.size := Nat.lt_of_lt_of_le hgs hgr2.1.size; have HGE := Lib.hid (HS.out.own.ge g rfl); clear hs2 hown2 hgr2 q0)
          go_roundw
          case rel =>
            have e : (oj.set n (b ++ [l - 1])).map up = (oj.map up).set n (zs ++ [z - 1]) := by
              rw [HZS.out, HE.out, List.map_set, up_append]; rfl
            have hfin := HS2.out
            rw [← e, ← ints_len zs] at hfin
            exact ⟨j + 1, _, _, _, by omega, by go_num, HO'.out, by rw [List.length_set]; have := HVJ.out; omega, hfin, HB2.out.setCell (p := ⟨g, n, none⟩) HGE.out _⟩
          case measure => simp [intOf]; omega
      · have : j = ts.length := by omega
        subst this
        rw [List.take_length] at hO
        have HE := Lib.hid (show oj = bs from by have h := hO.out; rw [HB.out] at h; injection h with h; exact h.symm)
        go_wp2_with fail
        go_ret
        exact ⟨_, rfl, ⟨vs, HS.out.own, by rw [← HE.out]; exact HS.out.rows⟩, HBW.out⟩
end Go.Proofs.Ytbjeibcombjfgaa

