/- Words of memory for level lists and lists of them: slices of slices, rows that can be read, branches that grow. | Slices of slices, at lists of numbers and at lists of lists. | The walks of the arithmetic of the program and of the reference: num, pow, inv and their like. | Scaling a list: plain words, and append as a step of a region that draws. -/
import Derived.Test.YtdjhfeaimmpmhaaGreatZc3
import Derived.Test.YtdjhfeaimmpmhaaGreatZc1
import Derived.Test.YtdjhfeaimmpmhaaGreatRows
import Derived.WalkLawsBesides
import Derived.Deep.RegionHeld3
import Derived.Deep.RegionLaw
set_option maxRecDepth 100000
set_option linter.unusedVariables false
set_option linter.unusedSimpArgs false
namespace Go.Proofs.YtdjhfeaimmpmhaaGreat
open Go.RowKit

theorem sliced_cells {w : World} {A : Option Addr} {n c : Nat} {vs : List Value} (h : Cells w (.slice A n c) vs) {k m : Nat} (hk : k ≤ m) (hm : m ≤ vs.length) :
    ∃ X, sliced A k m c 1 = .slice X (m - k) (c - k) ∧ Cells w (.slice X (m - k) (c - k)) ((vs.take m).drop k) := by
  obtain ⟨A', c', he, h1, h2, h3⟩ := h
  simp only [Value.slice.injEq] at he
  obtain ⟨rfl, rfl, rfl⟩ := he
  refine ⟨_, rfl, ?_⟩
  have hl : ((vs.take m).drop k).length = m - k := by rw [List.length_drop, List.length_take]; omega
  refine ⟨_, _, by rw [hl], by rw [hl]; omega, by omega, fun j u hj => ?_⟩
  have hjl := (List.getElem?_eq_some_iff.1 hj).1
  rw [hl] at hjl
  rw [List.getElem?_drop, List.getElem?_take, if_pos (by omega)] at hj
  obtain ⟨ad, rfl, hc⟩ := h3 _ u hj
  have hne : ¬ c = k := by omega
  refine ⟨ad.add (k * 1), by simp [hne], ?_⟩
  rw [add_add', Nat.mul_one]
  exact hc

/-- a slice of a list of numbers that is read, from k to m -/
theorem slice_ints {w : World} {A : Option Addr} {n c : Nat} {zs : List Int} (h : Ints w (.slice A n c) zs) {k m : Nat} (hk : k ≤ m) (hm : m ≤ zs.length) :
    ∃ X, sliced A k m c 1 = .slice X (m - k) (c - k) ∧ Ints w (.slice X (m - k) (c - k)) ((zs.take m).drop k) := by
  obtain ⟨X, h1, h2⟩ := sliced_cells h.1 hk (by rw [ints_len]; exact hm)
  refine ⟨X, h1, ?_, fun z hz => h.2 z (List.mem_of_mem_take (List.mem_of_mem_drop hz))⟩
  simpa [ints, List.map_take, List.map_drop] using h2

/-- rows that can be read: each a list of numbers in a block from B on -/
def RR (w : World) (B : Nat) (vs : List Value) (xss : List (List Int)) : Prop :=
  vs.length = xss.length ∧ ∀ (k : Nat) (u : Value) (zs : List Int), vs[k]? = some u → xss[k]? = some zs → OwnInts w B tI u zs
section
variable {w w' : World} {B : Nat} {vs : List Value} {xss : List (List Int)}
theorem RR.nil (w : World) (B : Nat) : RR w B [] [] := ⟨rfl, fun k u zs h => by simp at h⟩
theorem RR.below (h : RR w B vs xss) (hb : Below w.heap.size w w') : RR w' B vs xss := ⟨h.1, fun k u zs hu hz => (h.2 k u zs hu hz).below hb⟩
theorem RR.mono {B' : Nat} (h : RR w B vs xss) (hB : B' ≤ B) : RR w B' vs xss := ⟨h.1, fun k u zs hu hz => (h.2 k u zs hu hz).mono hB⟩
theorem RR.snoc {u : Value} {zs : List Int} (h : RR w B vs xss) (hu : OwnInts w B tI u zs) : RR w B (vs ++ [u]) (xss ++ [zs]) := by
  refine ⟨by simp [h.1], fun k u' zs' hk hz => ?_⟩
  by_cases hlt : k < vs.length
  · rw [List.getElem?_append_left hlt] at hk
    rw [List.getElem?_append_left (by rw [← h.1]; exact hlt)] at hz
    exact h.2 k u' zs' hk hz
  · have hkl := (List.getElem?_eq_some_iff.1 hk).1
    simp at hkl
    have : k = vs.length := by omega
    subst this
    rw [List.getElem?_append_right (Nat.le_refl _)] at hk
    rw [List.getElem?_append_right (by rw [h.1]; exact Nat.le_refl _), h.1] at hz
    simp at hk hz
    subst hk; subst hz
    exact hu
theorem RR.set {k : Nat} {u : Value} {zs : List Int} (h : RR w B vs xss) (hu : OwnInts w B tI u zs) : RR w B (vs.set k u) (xss.set k zs) := by
  refine ⟨by simp [h.1], fun j u' zs' hj hz => ?_⟩
  rw [List.getElem?_set] at hj hz
  by_cases hjk : k = j
  · subst hjk
    rw [if_pos rfl] at hj hz
    split at hj
    · rw [if_pos (by rw [← h.1]; assumption)] at hz
      injection hj with hj; injection hz with hz
      subst hj; subst hz
      exact hu
    · cases hj
  · rw [if_neg hjk] at hj hz
    exact h.2 j u' zs' hj hz
/-- a block whose elements have another type has turned -/
theorem RR.other {v : Value} {e : TypeId} {B' : Nat} {us : List Value} (h : RR w B vs xss) (hg : w.grownBy w' v.ownBlock) (ho : Own w B' e v us) (hne : tI ≠ e) : RR w' B vs xss :=
  ⟨h.1, fun k u zs hu hz => (h.2 k u zs hu hz).kept hg ((h.2 k u zs hu hz).1.ne_of_type ho hne)⟩
theorem RR.rows {v : Value} {e : TypeId} {B' : Nat} (h : RR w B vs xss) (ho : Own w B' e v vs) : Rows w v xss :=
  ⟨vs, ho.cells, h.1, fun k u zs hu hz => (h.2 k u zs hu hz).ints⟩
theorem RR.oneCell (h : RR w B vs xss) : ∀ u ∈ vs, u.oneCell' = true := by
  intro u hu
  obtain ⟨k, hk, rfl⟩ := List.getElem_of_mem hu
  have hx : xss[k]? = some (xss[k]'(by rw [← h.1]; exact hk)) := List.getElem?_eq_getElem _
  rcases (h.2 k _ _ (List.getElem?_eq_getElem hk) hx).1.cases with ⟨e, _⟩ | ⟨g, cap, cur, e, _⟩ <;> rw [e] <;> rfl
end

/-- a list of lists of one's own whose rows can be read -/
def LL (w : World) (B : Nat) (v : Value) (xss : List (List Int)) : Prop := ∃ vs, Own w B tL v vs ∧ RR w B vs xss
section
variable {w w' : World} {B : Nat} {v : Value} {xss : List (List Int)}
theorem LL.rows (h : LL w B v xss) : Rows w v xss := by obtain ⟨vs, h1, h2⟩ := h; exact h2.rows h1
theorem LL.below (h : LL w B v xss) (hb : Below w.heap.size w w') : LL w' B v xss := by obtain ⟨vs, h1, h2⟩ := h; exact ⟨vs, h1.below hb, h2.below hb⟩
theorem LL.mono {B' : Nat} (h : LL w B v xss) (hB : B' ≤ B) : LL w B' v xss := by obtain ⟨vs, h1, h2⟩ := h; exact ⟨vs, h1.mono hB, h2.mono hB⟩
theorem LL.nil (w : World) (B : Nat) : LL w B (.slice none 0 0) [] := ⟨[], Own.nil _ _ _, RR.nil _ _⟩
/-- one row more, made after all else -/
theorem LL.snoc {w1 : World} {vs : List Value} {u v1 : Value} {zs : List Int} (h1 : Own w B tL v vs) (h2 : RR w B vs xss) (hu : OwnInts w B tI u zs) (ho : Own w1 B tL v1 (vs ++ [u])) (hg : w.grownBy w1 v.ownBlock) : RR w1 B (vs ++ [u]) (xss ++ [zs]) :=
  (h2.snoc hu).other hg h1 (by decide)
end

/-- branches that are gathered: rows whose blocks lie before M, and the last row of one's own from M on -/
structure BrS (w : World) (B M : Nat) (o : Value) (vs : List Value) (bs : List (List Int)) : Prop where
  own : Own w B tL o vs
  rows : RR w B vs bs
  old : ∀ (k : Nat) (u : Value), k + 1 < vs.length → vs[k]? = some u → ∀ b, u.ownBlock = some b → b < M
  last : ∀ (u : Value) (zs : List Int), vs[vs.length - 1]? = some u → bs[vs.length - 1]? = some zs → OwnInts w M tI u zs
  le : B ≤ M
  lt : M ≤ w.heap.size

theorem BrS.push {w w1 : World} {B M : Nat} {o v1 u : Value} {vs : List Value} {bs : List (List Int)} {zs : List Int} (h : BrS w B M o vs bs) (hu : OwnInts w w.heap.size tI u zs) (ho : Own w1 B tL v1 (vs ++ [u])) (hg : w.grownBy w1 o.ownBlock) (hge : ∀ b, u.ownBlock = some b → w.heap.size ≤ b) :
    BrS w1 B w.heap.size v1 (vs ++ [u]) (bs ++ [zs]) := by
  have hB : B ≤ w.heap.size := Nat.le_trans h.le h.lt
  have hr := LL.snoc h.own h.rows (hu.mono hB) ho hg
  have hkeep := hu.kept hg (hu.1.ne_of_type h.own (by decide))
  refine ⟨ho, hr, fun k u' hk hu' b hb => ?_, fun u' zs' hu' hz' => ?_, hB, hg.size⟩
  · simp at hk
    rw [List.getElem?_append_left hk] at hu'
    have hx : bs[k]? = some (bs[k]'(by rw [← h.rows.1]; exact hk)) := List.getElem?_eq_getElem _
    exact (h.rows.2 k u' _ hu' hx).1.lt b hb
  · simp at hu'
    have e : (vs ++ [u]).length - 1 = bs.length := by simp [h.rows.1]
    rw [e, List.getElem?_append_right (Nat.le_refl _)] at hz'
    simp at hz'
    subst hu'; subst hz'
    exact hkeep

/-- the last row has grown: it is stored -/
theorem BrS.grow {w w1 : World} {B M g : Nat} {o u u1 : Value} {vs : List Value} {bs : List (List Int)} {zs zs1 : List Int} (h : BrS w B M o vs bs) (hu : vs[vs.length - 1]? = some u) (hz : bs[vs.length - 1]? = some zs)
    (ho : OwnInts w1 M tI u1 zs1) (hg : w.grownBy w1 u.ownBlock) (hob : o.ownBlock = some g) (hown : Own (w1.setCell ⟨g, vs.length - 1, none⟩ u1) B tL o (vs.set (vs.length - 1) u1)) :
    BrS (w1.setCell ⟨g, vs.length - 1, none⟩ u1) B M o (vs.set (vs.length - 1) u1) (bs.set (vs.length - 1) zs1) := by
  have hl := h.last u zs hu hz
  have hpos := (List.getElem?_eq_some_iff.1 hu).1
  have how1 : Own w1 B tL o vs := h.own.kept hg (h.own.ne_of_type hl.1 (by decide))
  have hset : w1.grownBy (w1.setCell ⟨g, vs.length - 1, none⟩ u1) o.ownBlock := by
    rw [hob]
    exact ((Chg.refl g (g + 1) w1).setCell (p := ⟨g, vs.length - 1, none⟩) (Nat.le_refl _) (by simp) u1) |> fun c => ⟨c.os, c.tape, c.output, c.size, fun b hb hne => c.block b hb (by have : b ≠ g := fun e => hne (by rw [e]); omega)⟩
  have hrow1 : RR w1 B (vs.set (vs.length - 1) u1) (bs.set (vs.length - 1) zs1) := by
    refine ⟨by simp [h.rows.1], fun k u' zs' hk hz' => ?_⟩
    rw [List.getElem?_set] at hk hz'
    by_cases hkl : vs.length - 1 = k
    · subst hkl
      rw [if_pos rfl, if_pos hpos] at hk
      rw [if_pos rfl, if_pos (by rw [← h.rows.1]; exact hpos)] at hz'
      injection hk with hk; injection hz' with hz'
      subst hk; subst hz'
      exact ho.mono h.le
    · rw [if_neg hkl] at hk hz'
      have hkk := (List.getElem?_eq_some_iff.1 hk).1
      have hr := h.rows.2 k u' zs' hk hz'
      refine hr.kept hg ?_
      have hold := h.old k u' (by omega) hk
      cases hb : u'.ownBlock with
      | none => exact .inl hb
      | some b => exact .inr fun e => by have h1 := hold b hb; have h2 := hl.1.ge b (e.symm.trans hb); omega
  refine ⟨hown, hrow1.other hset how1 (by decide), fun k u' hk hu' b hb => ?_, fun u' zs' hu' hz' => ?_, h.le, ?_⟩
  · simp at hk
    rw [List.getElem?_set_ne (by omega)] at hu'
    exact h.old k u' hk hu' b hb
  · simp only [List.length_set] at hu' hz'
    rw [List.getElem?_set_self hpos] at hu'
    rw [List.getElem?_set_self (by rw [← h.rows.1]; exact hpos)] at hz'
    injection hu' with hu'; injection hz' with hz'
    subst hu'; subst hz'
    exact ho.kept hset (ho.1.ne_of_type how1 (by decide))
  · have h1 := hg.size
    have h2 := hset.size
    have h3 := h.lt
    omega

theorem BrS.openLast {w : World} {B M m : Nat} {o : Value} {vs : List Value} {bs : List (List Int)} (h : BrS w B M o vs bs) (hm : vs.length = m + 1) :
    ∃ g cap u zs, o = .slice (some ⟨g, 0, none⟩) (m + 1) cap ∧ m + 1 ≤ cap ∧ cap ≤ 9223372036854775807 ∧ vs[m]? = some u ∧ bs[m]? = some zs ∧ OwnInts w M tI u zs ∧ w.cell? ⟨g, m, none⟩ = some u := by
  have hbl : bs.length = m + 1 := by rw [← h.rows.1]; exact hm
  have hu : vs[m]? = some (vs[m]'(by omega)) := List.getElem?_eq_getElem _
  have hz : bs[m]? = some (bs[m]'(by omega)) := List.getElem?_eq_getElem _
  have hl := h.last _ _ (by rw [hm]; exact hu) (by rw [hm]; exact hz)
  rcases h.own.cases with ⟨_, e⟩ | ⟨g, cap, cur, e, h1, h2, h3, h4, h5, h6, h7⟩
  · rw [e] at hm; simp at hm
  · refine ⟨g, cap, _, _, by rw [e, hm], by omega, by simpa [maxLen] using h5, hu, hz, hl, ?_⟩
    subst e
    obtain ⟨ad, n', c', he, hc⟩ := h.own.cells.at_ hu
    simp only [Value.slice.injEq, Option.some.injEq] at he
    obtain ⟨rfl, -, -⟩ := he
    have e : (⟨g, 0, none⟩ : Addr).add m = ⟨g, m, none⟩ := by
      by_cases h0 : m = 0 <;> simp [Addr.add, h0]
    rwa [e] at hc

/-- behind the append to the last row: what the store wants -/
theorem BrS.ready {w w1 : World} {B M m g cap : Nat} {u u1 : Value} {vs : List Value} {bs : List (List Int)} {zs zs1 : List Int} (h : BrS w B M (.slice (some ⟨g, 0, none⟩) (m + 1) cap) vs bs) (hm : vs.length = m + 1) (hu : vs[m]? = some u) (hz : bs[m]? = some zs)
    (ho : OwnInts w1 M tI u1 zs1) (hg : w.grownBy w1 u.ownBlock) :
    (∃ u0, w1.cell? ⟨g, m, none⟩ = some u0) ∧ w1.frozen? ⟨g, m, none⟩ = false ∧ BrS (w1.setCell ⟨g, m, none⟩ u1) B M (.slice (some ⟨g, 0, none⟩) (m + 1) cap) (vs.set m u1) (bs.set m zs1) := by
  have hlu := h.last u zs (by rw [hm]; exact hu) (by rw [hm]; exact hz)
  have how1 : Own w1 B tL (.slice (some ⟨g, 0, none⟩) (m + 1) cap) vs := h.own.kept hg (h.own.ne_of_type hlu.1 (by decide))
  obtain ⟨u0, -, hc, hf, -, -, hown, -⟩ := how1.storeAt (k := m) (by omega) u1
  have e : m = vs.length - 1 := by omega
  refine ⟨⟨u0, hc⟩, hf, ?_⟩
  have := h.grow (g := g) (u1 := u1) (by rw [← e]; exact hu) (by rw [← e]; exact hz) ho hg rfl (by rw [← e]; exact hown)
  rwa [← e] at this

/-- an empty row more -/
theorem BrS.pushNil {w w1 : World} {B M : Nat} {o v1 : Value} {vs : List Value} {bs : List (List Int)} (h : BrS w B M o vs bs) (ho : Own w1 B tL v1 (vs ++ [.slice none 0 0])) (hg : w.grownBy w1 o.ownBlock) :
    ∃ g cap, v1 = .slice (some ⟨g, 0, none⟩) (vs.length + 1) cap ∧ vs.length + 1 ≤ cap ∧ cap ≤ 9223372036854775807 ∧ BrS w1 B w.heap.size (.slice (some ⟨g, 0, none⟩) (vs.length + 1) cap) (vs ++ [.slice none 0 0]) (bs ++ [[]]) ∧
      w1.cell? ⟨g, vs.length, none⟩ = some (.slice none 0 0) ∧ g < w1.heap.size ∧ B ≤ g ∧ (vs ++ [Value.slice none 0 0])[vs.length]? = some (.slice none 0 0) ∧ (bs ++ [[]])[vs.length]? = some [] := by
  have hp := h.push (u := .slice none 0 0) (zs := []) (OwnInts.nil _ _ _) ho hg (fun b hb => by simp [Value.ownBlock] at hb)
  obtain ⟨g, cap, u, zs, e, h1, h2, hu, hz, hl, hc⟩ := hp.openLast (m := vs.length) (by simp)
  subst e
  have eu : (vs ++ [Value.slice none 0 0])[vs.length]? = some (.slice none 0 0) := by simp
  have ez : (bs ++ [[]])[vs.length]? = some [] := by rw [h.rows.1]; simp
  rw [eu] at hu
  injection hu with hu
  subst hu
  exact ⟨g, cap, rfl, h1, h2, hp, hc, World.block_lt_of_cell? w1 _ hc, hp.own.ge g rfl, eu, ez⟩

theorem BrS.below {w w' : World} {B M : Nat} {o : Value} {vs : List Value} {bs : List (List Int)} (h : BrS w B M o vs bs) (hb : Below w.heap.size w w') : BrS w' B M o vs bs :=
  ⟨h.own.below hb, h.rows.below hb, h.old, fun u zs hu hz => (h.last u zs hu hz).below hb, h.le, Nat.le_trans h.lt hb.size⟩

end Go.Proofs.YtdjhfeaimmpmhaaGreat

set_option maxRecDepth 100000
set_option linter.unusedVariables false
set_option linter.unusedSimpArgs false
namespace Go.Proofs.YtdjhfeaimmpmhaaGreat
open Go.RowKit

theorem sizeI (W : World) : (sizeOf (Tryz.prog.elem 24)).run Tryz.prog W = .ok 1 W := by kernel_rfl
theorem sl_from {t : TypeId} (ht : Tryz.prog.underlying t = some (.slice (Tryz.prog.elem t))) (hs : ∀ W, (sizeOf (Tryz.prog.elem t)).run Tryz.prog W = .ok 1 W) (W : World) (A : Option Addr) (n c k : Nat) (K : Int) (hK : K = k) (h : k ≤ n) :
    (Instr.slice t (.slice A n c) (some (.int .i64 K)) none none).run Tryz.prog W = .ok (sliced A k n c 1) W := by
  subst hK
  rw [run_slice_l W t A n c ht .i64 k (by omega) (by omega), hs]
  simp [Result.andThen]
/-- 't[k:]' of a list of numbers -/
theorem ints_from {w : World} {A : Option Addr} {n c : Nat} {zs : List Int} (h : Ints w (.slice A n c) zs) (k : Nat) (K : Int) (hK : K = k) (hk : k ≤ zs.length) :
    ∃ X, (∀ W, (Instr.slice 24 (.slice A n c) (some (.int .i64 K)) none none).run Tryz.prog W = .ok (.slice X (zs.length - k) (c - k)) W) ∧ Ints w (.slice X (zs.length - k) (c - k)) (zs.drop k) := by
  have hn : n = zs.length := by obtain ⟨A', c', e, -, -, -⟩ := h.open_; simp only [Value.slice.injEq] at e; exact e.2.1
  obtain ⟨X, h1, h2⟩ := slice_ints h (k := k) (m := zs.length) hk (Nat.le_refl _)
  rw [List.take_length] at h2
  exact ⟨X, fun W => by rw [sl_from Tryz.underlying24 sizeI W A n c k K hK (by omega), hn, h1], h2⟩
end Go.Proofs.YtdjhfeaimmpmhaaGreat

set_option linter.unusedVariables false
set_option linter.unusedSimpArgs false
namespace Go.Proofs.YtdjhfeaimmpmhaaGreat
open Go.RowKit

set_option maxHeartbeats 400000 in
theorem i_num (n : Int) (w : World) (h0 : -4000000000000000000 ≤ n) (h1 : n ≤ 4000000000000000000) :
    Calls Tryz.prog 60 #[.int .i64 n] w fun e w' => e = .returned (.int .i64 (n % 10007)) ∧ w = w' := by
  have h2 : -10007 < n.tmod 10007 := by rw [Int.tmod_eq_emod]; split <;> omega
  have h3 : n.tmod 10007 < 10007 := by rw [Int.tmod_eq_emod]; split <;> omega
  have HT := Lib.hid (tmod_num n)
  go_enter Tryz.func60, Tryz.ntmps60
  go_wp2
  go_ret
  exact ⟨ret_int HT.out, rfl⟩

set_option maxHeartbeats 400000 in
theorem s_l01Mod (n : Int) (w : World) (h0 : -4000000000000000000 ≤ n) (h1 : n ≤ 4000000000000000000) :
    Calls Tryz.prog 123 #[.int .i64 n] w fun e w' => e = .returned (.int .i64 (n % 10007)) ∧ w = w' := by
  have h2 : -10007 < n.tmod 10007 := by rw [Int.tmod_eq_emod]; split <;> omega
  have h3 : n.tmod 10007 < 10007 := by rw [Int.tmod_eq_emod]; split <;> omega
  have HT := Lib.hid (tmod_num n)
  go_enter Tryz.func123, Tryz.ntmps123
  go_wp2
  go_ret
  exact ⟨ret_int HT.out, rfl⟩

set_option maxHeartbeats 400000 in
theorem s_l01Mul (a b : Int) (w : World) (h0 : 0 ≤ a) (h1 : a ≤ 2000000000) (g0 : 0 ≤ b) (g1 : b ≤ 2000000000) :
    Calls Tryz.prog 131 #[.int .i64 a, .int .i64 b] w fun e w' => e = .returned (.int .i64 (a * b % 10007)) ∧ w = w' := by
  obtain ⟨p1, p2⟩ := mul_bd 2000000000 2000000000 h0 h1 g0 g1
  go_enter Tryz.func131, Tryz.ntmps131
  go_wp2_with (go_at_call 123; refine (s_l01Mod _ _ (by omega) (by omega)).mono ?_; rintro e w' ⟨rfl, rfl⟩)
  go_ret
  exact ⟨rfl, rfl⟩

set_option maxHeartbeats 400000 in
theorem s_l01Add (a b : Int) (w : World) (h0 : -2000000000000000000 ≤ a) (h1 : a ≤ 2000000000000000000) (g0 : -2000000000000000000 ≤ b) (g1 : b ≤ 2000000000000000000) :
    Calls Tryz.prog 132 #[.int .i64 a, .int .i64 b] w fun e w' => e = .returned (.int .i64 ((a + b) % 10007)) ∧ w = w' := by
  go_enter Tryz.func132, Tryz.ntmps132
  go_wp2_with (go_at_call 123; refine (s_l01Mod _ _ (by omega) (by omega)).mono ?_; rintro e w' ⟨rfl, rfl⟩)
  go_ret
  exact ⟨rfl, rfl⟩

set_option maxHeartbeats 400000 in
theorem s_l01Sub (a b : Int) (w : World) (h0 : -2000000000000000000 ≤ a) (h1 : a ≤ 2000000000000000000) (g0 : -2000000000000000000 ≤ b) (g1 : b ≤ 2000000000000000000) :
    Calls Tryz.prog 93 #[.int .i64 a, .int .i64 b] w fun e w' => e = .returned (.int .i64 ((a - b) % 10007)) ∧ w = w' := by
  go_enter Tryz.func93, Tryz.ntmps93
  go_wp2_with (go_at_call 123; refine (s_l01Mod _ _ (by omega) (by omega)).mono ?_; rintro e w' ⟨rfl, rfl⟩)
  go_ret
  exact ⟨rfl, rfl⟩

set_option maxHeartbeats 400000 in
theorem i_pow (a k : Int) (w : World) (h0 : 0 ≤ a) (h1 : a ≤ 2000000000) (g0 : 0 ≤ k) (g1 : k ≤ 2000000000) :
    Calls Tryz.prog 141 #[.int .i64 a, .int .i64 k] w fun e w' => e = .returned (.int .i64 (pw a k.toNat)) ∧ w = w' := by
  go_enter Tryz.func141, Tryz.ntmps141
  go_wp2
  go_loop [0, 1, 5] (fun x y z => ∃ (b out : Int) (j : Nat), x = .int .i64 b ∧ y = .int .i64 j ∧ z = .int .i64 out ∧ 0 ≤ b ∧ b ≤ 2000000000 ∧ j ≤ 2000000000 ∧ 0 ≤ out ∧ out ≤ 10006 ∧ Hid ((out * b ^ j) % 10007 = pw a k.toNat)) (fun _ y _ => (intOf y).toNat)
  case atStart => exact ⟨a, 1, k.toNat, rfl, by rw [Int.toNat_of_nonneg g0], rfl, h0, h1, by omega, by omega, by omega, by unfold Hid pw; rw [Int.one_mul]⟩
  case round =>
    obtain ⟨b, out, j, rfl, rfl, rfl, b0, b1, j1, o0, o1, hI⟩ := hrel
    clear h0 h1 g0 g1
    by_cases hj : 0 < j
    · obtain ⟨p1, p2⟩ := mul_bd 10006 2000000000 o0 o1 b0 b1
      obtain ⟨q1, q2⟩ := mul_bd 2000000000 2000000000 b0 b1 b0 b1
      have hst := Lib.hid (pw_step out b _ j hj hI.out)
      by_cases hodd : j % 2 = 1
      · have hb : (((j : Int) % 2) == 1) = true := by simp; omega
        clear hodd
        go_wp2_with (go_at_call 60; refine (i_num _ _ (by omega) (by omega)).mono ?_; rintro e w' ⟨rfl, rfl⟩)
        go_round
        case rel => exact ⟨_, _, j / 2, rfl, by go_num, rfl, by omega, by omega, by omega, by omega, by omega, hst.out.1 (by simp at hb; omega)⟩
        case measure => simp [intOf]; omega
      · have hb : (((j : Int) % 2) == 1) = false := by simp; omega
        clear hodd
        go_wp2_with (go_at_call 60; refine (i_num _ _ (by omega) (by omega)).mono ?_; rintro e w' ⟨rfl, rfl⟩)
        go_round
        case rel => exact ⟨_, _, j / 2, rfl, by go_num, rfl, by omega, by omega, by omega, by omega, by omega, hst.out.2 (by simp at hb; omega)⟩
        case measure => simp [intOf]; omega
    · obtain rfl : j = 0 := by omega
      go_wp2
      go_ret
      refine ⟨ret_int ?_, rfl⟩
      have := hI.out
      rw [← this]
      simp
      omega

set_option maxHeartbeats 400000 in
theorem s_l01Pow (a k : Int) (w : World) (h0 : 0 ≤ a) (h1 : a ≤ 2000000000) (g0 : 0 ≤ k) (g1 : k ≤ 2000000000) :
    Calls Tryz.prog 186 #[.int .i64 a, .int .i64 k] w fun e w' => e = .returned (.int .i64 (pw a k.toNat)) ∧ w = w' := by
  go_enter Tryz.func186, Tryz.ntmps186
  go_wp2
  go_loop [0, 1, 5] (fun x y z => ∃ (b out : Int) (j : Nat), x = .int .i64 b ∧ y = .int .i64 j ∧ z = .int .i64 out ∧ 0 ≤ b ∧ b ≤ 2000000000 ∧ j ≤ 2000000000 ∧ 0 ≤ out ∧ out ≤ 10006 ∧ Hid ((out * b ^ j) % 10007 = pw a k.toNat)) (fun _ y _ => (intOf y).toNat)
  case atStart => exact ⟨a, 1, k.toNat, rfl, by rw [Int.toNat_of_nonneg g0], rfl, h0, h1, by omega, by omega, by omega, by unfold Hid pw; rw [Int.one_mul]⟩
  case round =>
    obtain ⟨b, out, j, rfl, rfl, rfl, b0, b1, j1, o0, o1, hI⟩ := hrel
    clear h0 h1 g0 g1
    by_cases hj : 0 < j
    · have hst := Lib.hid (pw_step out b _ j hj hI.out)
      by_cases hodd : j % 2 = 1
      · have hb : (((j : Int) % 2) == 1) = true := by simp; omega
        clear hodd
        go_wp2_with (go_at_call 131; refine (s_l01Mul _ _ _ (by omega) (by omega) (by omega) (by omega)).mono ?_; rintro e w' ⟨rfl, rfl⟩)
        go_round
        case rel => exact ⟨_, _, j / 2, rfl, by go_num, rfl, by omega, by omega, by omega, by omega, by omega, hst.out.1 (by simp at hb; omega)⟩
        case measure => simp [intOf]; omega
      · have hb : (((j : Int) % 2) == 1) = false := by simp; omega
        clear hodd
        go_wp2_with (go_at_call 131; refine (s_l01Mul _ _ _ (by omega) (by omega) (by omega) (by omega)).mono ?_; rintro e w' ⟨rfl, rfl⟩)
        go_round
        case rel => exact ⟨_, _, j / 2, rfl, by go_num, rfl, by omega, by omega, by omega, by omega, by omega, hst.out.2 (by simp at hb; omega)⟩
        case measure => simp [intOf]; omega
    · obtain rfl : j = 0 := by omega
      go_wp2
      go_ret
      refine ⟨ret_int ?_, rfl⟩
      have := hI.out
      rw [← this]
      simp
      omega

set_option maxHeartbeats 400000 in
theorem s_l01Inv (a : Int) (w : World) (h0 : 0 ≤ a) (h1 : a ≤ 2000000000) :
    Calls Tryz.prog 191 #[.int .i64 a] w fun e w' => e = .returned (.int .i64 (pw a 10005)) ∧ w = w' := by
  go_enter Tryz.func191, Tryz.ntmps191
  go_wp2_with (go_at_call 186; refine (s_l01Pow _ _ _ (by omega) (by omega) (by omega) (by omega)).mono ?_; rintro e w' ⟨rfl, rfl⟩)
  go_ret
  exact ⟨rfl, rfl⟩

end Go.Proofs.YtdjhfeaimmpmhaaGreat

set_option linter.unusedVariables false
set_option linter.unusedSimpArgs false
namespace Go.Proofs.YtdjhfeaimmpmhaaGreat
open Go.RowKit

/-- append of one element, met in a region that draws -/
theorem step_app1 {P : Program} {ops : Array Oper} {o : Oper} {a : Act} {K : Act → World → Prop} {Q : Exit → Act → World → Prop} {E : Prop} {s x : Operand} {t : TypeId}
    {e : TypeId} {z : Value} {bytes : Nat} {B : Nat} {v : Value} {vs : List Value} {W : World} {u : Value}
    (T : ElemT P t e z bytes) (hown : Own W B e v vs) (hlen : vs.length < 1099511627776) (hB : B ≤ W.heap.size) (hu : u.oneCell' = true)
    (hgd : o.guard = none) (ho : o.op = .call { callee := .builtin .append, args := #[s, x], argTypes := #[t, t] }) (hs : a.eval s = v)
    (hx : a.eval x = .slice (some ⟨W.heap.size, 0, none⟩) 1 1)
    (h : ∀ v' w', Own w' B e v' (vs ++ [u]) → Grow W w' v v' → K (a.put o.dst v') w') :
    if Region.wanted o (yielded ops a.tmps) = true then Oper.wp P o a (W.alloc (.cells #[u] e)) K Q else E := by
  have hw : Region.wanted o (yielded ops a.tmps) = true := by simp [Region.wanted, hgd]
  rw [if_pos hw]
  obtain ⟨i, hi, hz, h1, h2⟩ := info_parts T.info
  have hby := T.small
  obtain ⟨v', w', hrun, r1, r2, _, r3⟩ := run_append_own_at (P := P) (W.alloc (.cells #[u] e)) B t o.type e i z 1 bytes T.under hi hz h1 h2 (by rw [T.one]; rfl) (by omega) v vs.length vs (hown.alloc _) ⟨W.heap.size, 0, none⟩ 1 1 [u] rfl
    (fun j u' hj => by
      cases j with
      | zero =>
        simp at hj; subst hj
        have e0 : (⟨W.heap.size, 0, none⟩ : Addr).add 0 = ⟨W.heap.size, 0, none⟩ := rfl
        rw [e0, World.cell?_alloc_at _ _ _ _ rfl]
        rfl
      | succ j => simp at hj) (by simpa using hu) (by simp only [maxLen]; omega) (by have := Nat.mul_le_mul_left (vs.length + 1) hby; omega) (by simp; omega)
  unfold Oper.wp execOp
  simp only [ho, resolve, invoke, builtin, Sem.run_bind, Sem.run_pure, Result.andThen_ok, List.map_toArray, List.map_cons, List.map_nil, hs, hx, hrun]
  refine h v' w' ?_ ⟨?_, ?_⟩
  · unfold Own; simpa using r1
  · refine ⟨r2.os, r2.tape, r2.output, ?_, fun k hk hne => ?_⟩
    · have := r2.size; simp at this; omega
    · rw [r2.block k (by simp; omega) hne]
      exact Below.heap_alloc _ _ _ hk
  · rcases r3 with r3 | r3
    · exact .inl r3
    · exact .inr ⟨_, r3, by simp⟩

/-- a list scaled -/
def scl (k : Int) (zs : List Int) : List Int := zs.map fun z => z * k % 10007
theorem scl_len (k : Int) (zs : List Int) : (scl k zs).length = zs.length := by simp [scl]
theorem scl_in (k : Int) (zs : List Int) : ∀ z ∈ scl k zs, In64 z := by
  intro z hz
  obtain ⟨i, _, rfl⟩ := List.mem_map.1 hz
  unfold In64
  omega
theorem scl_take {k : Int} {zs : List Int} {j : Nat} {z : Int} (h : zs[j]? = some z) : scl k (zs.take (j + 1)) = scl k (zs.take j) ++ [z * k % 10007] := by
  unfold scl
  rw [List.take_add_one, h]; simp
def Nums (zs : List Int) : Prop := ∀ z ∈ zs, 0 ≤ z ∧ z ≤ 10006
theorem scl_nums (k : Int) (zs : List Int) : Nums (scl k zs) := by
  intro z hz
  obtain ⟨i, _, rfl⟩ := List.mem_map.1 hz
  omega

set_option maxHeartbeats 1000000 in
theorem i_scaled (w : World) (v : Value) (zs : List Int) (k : Int) (ha : Ints w v zs) (hN : Nums zs) (hn : zs.length ≤ 4294967296) (h0 : -4000000000000000000 ≤ k) (h1 : k ≤ 4000000000000000000) :
    Calls Tryz.prog 147 #[v, .int .i64 k] w fun e w' => ∃ r, e = .returned r ∧ OwnInts w' w.heap.size tI r (scl (k % 10007) zs) ∧ Below w.heap.size w w' := by
  obtain ⟨A, c, rfl, l1, l2, h3⟩ := ha.open_
  have H3 := Lib.hid h3
  have HN := Lib.hid hN
  clear ha h3 hN
  have OL := Lib.hid (own_lit w tI [] (by simp [maxLen]))
  go_enter Tryz.func147, Tryz.ntmps147
  go_wp2_with fail
  go_loopw [5, 11] (fun o i wr => ∃ j : Nat, j ≤ zs.length ∧ i = .int .i64 j ∧ Own wr w.heap.size tI o (ints (scl (k % 10007) (zs.take j))) ∧ Below w.heap.size w wr) (fun _ i _ => zs.length - (intOf i).toNat)
  case atStart => exact ⟨0, Nat.zero_le _, rfl, by simpa [scl, ints] using OL.out, (Below.refl _ _).alloc (Nat.le_refl _) _⟩
  case round =>
    obtain ⟨j, hj, rfl, hown, hb⟩ := hrel
    clear OL
    have HO := Lib.hid hown
    have HB := Lib.hid hb
    clear hown hb
    by_cases hlt : j < zs.length
    · obtain ⟨ad, z, rfl, hz, hz2, hc0⟩ := H3.out j hlt
      have hc : wr.cell? (ad.add j) = some (.int .i64 z) := by
        rw [HB.out.cell (by rw [block_add]; have := World.block_lt_of_cell? w _ hc0; rwa [block_add] at this)]; exact hc0
      have hzn := HN.out z (List.mem_of_getElem? hz)
      have HS := Lib.hid (scl_take (k := k % 10007) hz)
      have hm0 : 0 ≤ k % 10007 ∧ k % 10007 ≤ 10006 := by omega
      obtain ⟨p1, p2⟩ := mul_bd 10006 10006 hzn.1 hzn.2 hm0.1 hm0.2
      have hmod : k % 10007 % 10007 = k % 10007 := by omega
      clear hz hz2 hc0
      go_wp2_with (first | (go_at_call 60; refine (i_num _ _ (by omega) (by omega)).mono ?_; rintro e w' ⟨rfl, rfl⟩) | (at_builtin; refine wpList_app1 T_int HO.out (by rw [ints_len, scl_len, List.length_take]; omega) HB.out.size (by rfl) rfl (by rfl) (by rfl) (by rfl) ?_; intro v1 w1 hown1 hgr1))
      go_roundw
      case rel =>
        refine ⟨j + 1, by omega, by go_num, ?_, hgr1.below HB.out HB.out.size HO.out.ge⟩
        rw [HS.out]
        simpa [ints] using hown1
      case measure => simp [intOf]; omega
    · have : j = zs.length := by omega
      subst this
      rw [List.take_length] at HO
      go_wp2_with fail
      go_ret
      exact ⟨_, rfl, ⟨HO.out, scl_in _ _⟩, HB.out⟩

end Go.Proofs.YtdjhfeaimmpmhaaGreat

