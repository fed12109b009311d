/- What newForms of the program lays: the trees, and the cuts of each by places. No walk. | Plain: what maps reckon with: sizes and densities of the trees at the places, the exact map, agreement. No walk. | Plain: the two Butcher products of trees by places; up to where a map has the condition of symplectic or Hamiltonian ones. No walk. | slices.SortFunc at partitions: laid. | Walks: the comparison of partitions; slices.SortFunc at partitions. | Plain: the trees of at most eight nodes, cut up: the kernel looks at all of them. First part. | Plain: the trees of at most eight nodes, cut up: the kernel looks at all of them. Second part. | Plain: the trees of at most eight nodes, cut up: put together. -/
import Derived.Test.YtngdpoeondnchaaGreatR22
import Derived.Test.YtngdpoeondnchaaGreatR23
import Derived.Test.YtngdpoeondnchaaGreatR7
import Derived.Test.YtngdpoeondnchaaGreatR18
import Derived.Test.YtngdpoeondnchaaGreatR8
import Derived.Shelf.SlSortCmp.WholeK
import Derived.Shelf.SlSortCmp.NoneTotal
import Derived.Shelf.SlGeneric
import Derived.Ground.SlsfProg
import Derived.Test.YtngdpoeondnchaaGreatR15
import Derived.Test.YtngdpoeondnchaaGreatR16
set_option maxRecDepth 100000
set_option linter.unusedVariables false
set_option linter.unusedSimpArgs false
namespace Go.Proofs.YtngdpoeondnchaaGreat
open Go.RowKit

abbrev tMc : TypeId := 101
abbrev tMl : TypeId := 95
abbrev MC := (List Nat × Nat) × Nat
/-- a cut by places -/
def mcU (xs : List (List Nat)) (c : CU) : MC := ((c.1.1.map (idxN xs), bif Nat.blt 0 c.1.2.length then idxN xs c.1.2 else 0), c.2)
/-- the cuts of a tree by places -/
def cutsI (xs : List (List Nat)) (t : List Nat) : List MC := match splV 9 t with
  | some r => (cutsU r).map (mcU xs)
  | none => []

def McD (w : World) (B : Nat) (c : List Value) (x : MC) : Prop := ∃ s, c = [.int .i64 (x.2 : Nat), s, .int .i64 (x.1.2 : Nat)] ∧ OwnInts w B tN s (up x.1.1)
def Mcs (w : World) (B : Nat) (css : List (List Value)) (xs : List MC) : Prop := css.length = xs.length ∧ ∀ (i : Nat) (c : List Value) (x : MC), css[i]? = some c → xs[i]? = some x → McD w B c x
theorem McD.below {w w' : World} {B : Nat} {c : List Value} {x : MC} (h : McD w B c x) (hb : Below w.heap.size w w') : McD w' B c x := by
  obtain ⟨s, rfl, h⟩ := h
  exact ⟨s, rfl, h.below hb⟩
theorem McD.mono {w : World} {B B' : Nat} {c : List Value} {x : MC} (h : McD w B c x) (hB : B' ≤ B) : McD w B' c x := by
  obtain ⟨s, rfl, h⟩ := h
  exact ⟨s, rfl, h.mono hB⟩
theorem McD.kept {w w' : World} {B : Nat} {c : List Value} {x : MC} {e : TypeId} {v : Value} (h : McD w B c x) (hg : w.grownBy w' v.ownBlock) (hb : BT w e v) (hne : tN ≠ e) : McD w' B c x := by
  obtain ⟨s, rfl, h⟩ := h
  exact ⟨s, rfl, h.kept hg (h.1.bt.ne hb hne)⟩
section
variable {w w' : World} {B : Nat} {css : List (List Value)} {xs : List MC}
theorem Mcs.nil (w : World) (B : Nat) : Mcs w B [] [] := ⟨rfl, fun i c x h => by simp at h⟩
theorem Mcs.below (h : Mcs w B css xs) (hb : Below w.heap.size w w') : Mcs w' B css xs := ⟨h.1, fun i c x hc hx => (h.2 i c x hc hx).below hb⟩
theorem Mcs.mono {B' : Nat} (h : Mcs w B css xs) (hB : B' ≤ B) : Mcs w B' css xs := ⟨h.1, fun i c x hc hx => (h.2 i c x hc hx).mono hB⟩
theorem Mcs.kept {v : Value} {e : TypeId} (h : Mcs w B css xs) (hg : w.grownBy w' v.ownBlock) (hb : BT w e v) (hne : tN ≠ e) : Mcs w' B css xs := ⟨h.1, fun i c x hc hx => (h.2 i c x hc hx).kept hg hb hne⟩
theorem Mcs.snoc {c : List Value} {x : MC} (h : Mcs w B css xs) (hx : McD w B c x) : Mcs w B (css ++ [c]) (xs ++ [x]) := by
  refine ⟨by simp [h.1], fun i c' x' hc hx' => ?_⟩
  by_cases hlt : i < css.length
  · rw [List.getElem?_append_left hlt] at hc
    rw [List.getElem?_append_left (by rw [← h.1]; exact hlt)] at hx'
    exact h.2 i c' x' hc hx'
  · have hkl := (List.getElem?_eq_some_iff.1 hc).1
    simp at hkl
    have hi : i = css.length := by omega
    rw [hi] at hc
    rw [hi, h.1] at hx'
    simp at hc hx'
    subst hc hx'
    exact hx
end
/-- a list of cuts by places, one's own -/
def ML (w : World) (B : Nat) (v : Value) (xs : List MC) : Prop := ∃ css, OwnK w B tMc 3 v css ∧ Mcs w B css xs
theorem ML.below {w w' : World} {B : Nat} {v : Value} {xs : List MC} (h : ML w B v xs) (hb : Below w.heap.size w w') : ML w' B v xs := by
  obtain ⟨css, h1, h2⟩ := h
  exact ⟨css, h1.below hb, h2.below hb⟩
theorem ML.kept {w w' : World} {B : Nat} {v : Value} {xs : List MC} {e : TypeId} {u : Value} (h : ML w B v xs) (hg : w.grownBy w' u.ownBlock) (hb : BT w e u) (h1 : tN ≠ e) (h2 : tMc ≠ e) : ML w' B v xs := by
  obtain ⟨css, h3, h4⟩ := h
  exact ⟨css, h3.kept hg (h3.bt.ne hb h2), h4.kept hg hb h1⟩
/-- a list of such lists: read only -/
def Mls (w : World) (B : Nat) (us : List Value) (xss : List (List MC)) : Prop := us.length = xss.length ∧ ∀ (i : Nat) (u : Value) (x : List MC), us[i]? = some u → xss[i]? = some x → ML w B u x
section
variable {w w' : World} {B : Nat} {us : List Value} {xss : List (List MC)}
theorem Mls.nil (w : World) (B : Nat) : Mls w B [] [] := ⟨rfl, fun i c x h => by simp at h⟩
theorem Mls.below (h : Mls w B us xss) (hb : Below w.heap.size w w') : Mls w' B us xss := ⟨h.1, fun i c x hc hx => (h.2 i c x hc hx).below hb⟩
theorem Mls.kept {v : Value} {e : TypeId} (h : Mls w B us xss) (hg : w.grownBy w' v.ownBlock) (hb : BT w e v) (h1 : tN ≠ e) (h2 : tMc ≠ e) : Mls w' B us xss := ⟨h.1, fun i c x hc hx => (h.2 i c x hc hx).kept hg hb h1 h2⟩
theorem Mls.snoc {u : Value} {x : List MC} (h : Mls w B us xss) (hx : ML w B u x) : Mls w B (us ++ [u]) (xss ++ [x]) := by
  refine ⟨by simp [h.1], fun i c' x' hc hx' => ?_⟩
  by_cases hlt : i < us.length
  · rw [List.getElem?_append_left hlt] at hc
    rw [List.getElem?_append_left (by rw [← h.1]; exact hlt)] at hx'
    exact h.2 i c' x' hc hx'
  · have hkl := (List.getElem?_eq_some_iff.1 hc).1
    simp at hkl
    have hi : i = us.length := by omega
    rw [hi] at hc
    rw [hi, h.1] at hx'
    simp at hc hx'
    subst hc hx'
    exact hx
end
def T6n : List (List Nat) := allG treesN 6
theorem T6n_len : T6n.length = 37 := by decide +kernel
theorem T6n_split {t : List Nat} (h : t ∈ T6n) : ∃ r, splV 9 t = some r ∧ okLs r = true := by
  obtain ⟨n, hn, ht⟩ := List.mem_flatMap.1 h
  have h1 := List.all_eq_true.1 (List.all_eq_true.1 splV_6 n hn) t ht
  cases hs : splV 9 t with
  | none => rw [hs] at h1; cases h1
  | some r => rw [hs] at h1; exact ⟨r, rfl, h1⟩
/-- what newForms returns -/
def Frm (w : World) (B : Nat) (v : Value) : Prop := ∃ x y us, v = .agg #[x, y] ∧ LA w B x (T6n.map up) ∧ Own w B tMl y us ∧ Mls w B us (T6n.map (cutsI T6n))
end Go.Proofs.YtngdpoeondnchaaGreat

set_option maxRecDepth 100000
set_option linter.unusedVariables false
set_option linter.unusedSimpArgs false
namespace Go.Proofs.YtngdpoeondnchaaGreat
open Go.RowKit

/-- the number of nodes of the tree at a place -/
def szN (k : Nat) : Nat := (0 :: T6n.map List.length).getD k 0
theorem szN_succ {i : Nat} {t : List Nat} (h : T6n[i]? = some t) : szN (i + 1) = t.length := by
  unfold szN
  simp [List.getD, h]
/-- what is known of the trees -/
def okT6 (t : List Nat) : Bool := lvl t && (Nat.ble 1 t.length && Nat.ble t.length 6 && t.all fun l => Nat.ble l 6)
theorem okT6_all : T6n.all okT6 = true := by decide +kernel
theorem T6n_at {t : List Nat} (h : t ∈ T6n) : lvl t = true ∧ 1 ≤ t.length ∧ t.length ≤ 6 ∧ ∀ l ∈ t, l ≤ 6 := by
  have h1 := okT6_all
  rw [List.all_eq_true] at h1
  have h2 := h1 t h
  unfold okT6 at h2
  simp only [Bool.and_eq_true, List.all_eq_true] at h2
  exact ⟨h2.1, Nat.le_of_ble_eq_true h2.2.1.1, Nat.le_of_ble_eq_true h2.2.1.2, fun l hl => Nat.le_of_ble_eq_true (h2.2.2 l hl)⟩

/-! ### densities -/
/-! ### the exact map -/
/-! ### agreement -/
end Go.Proofs.YtngdpoeondnchaaGreat

set_option maxRecDepth 100000
set_option linter.unusedVariables false
set_option linter.unusedSimpArgs false
namespace Go.Proofs.YtngdpoeondnchaaGreat
open Go.RowKit

def gIdx (u v : List Nat) : Nat := match canO 9 (graL u 0 v) with
  | some r => fndN T6n r
  | none => 0
/-- the tree at an index -/
def tr (i : Nat) : List Nat := T6n.getD i []
theorem tr_at {i : Nat} {t : List Nat} (h : T6n[i]? = some t) : tr i = t := by unfold tr; rw [List.getD_eq_getElem?_getD, h]; rfl
theorem tr_get {i : Nat} (h : i < 37) : T6n[i]? = some (tr i) := by
  have ht : T6n[i]? = some (T6n[i]'(by rw [T6n_len]; exact h)) := List.getElem?_eq_getElem _
  rw [tr_at ht]; exact ht
theorem tr_mem {i : Nat} (h : i < 37) : tr i ∈ T6n := List.mem_of_getElem? (tr_get h)
/-- the condition at two trees -/
def prB (a : List Int) (c : Int) (i k : Nat) : Prop := (a.getD (gIdx (tr i) (tr k)) 0 + a.getD (gIdx (tr k) (tr i)) 0) % 10007 = c * (a.getD (i + 1) 0 * a.getD (k + 1) 0 % 10007) % 10007
instance (a : List Int) (c : Int) (i k : Nat) : Decidable (prB a c i k) := inferInstanceAs (Decidable (_ = _))
/-- what r tells -/
structure ToR (a : List Int) (c : Int) (r : Nat) : Prop where
  le : r ≤ 6
  all : ∀ i k, i < 37 → k < 37 → (tr i).length + (tr k).length ≤ r → prB a c i k
  hit : r = 6 ∨ ∃ i k, i < 37 ∧ k < 37 ∧ (tr i).length + (tr k).length = r + 1 ∧ ¬ prB a c i k
/-- on the way through the pairs with k up to i, row by row: those ahead of (i, k) are done -/
structure ToM (a : List Int) (c : Int) (i k m : Nat) : Prop where
  le : m ≤ 6
  all : ∀ i' k', i' < 37 → k' ≤ i' → (i' < i ∨ (i' = i ∧ k' < k)) → (tr i').length + (tr k').length ≤ m → prB a c i' k'
  hit : m = 6 ∨ ∃ i k, i < 37 ∧ k < 37 ∧ (tr i).length + (tr k).length = m + 1 ∧ ¬ prB a c i k
theorem ToM.start (a : List Int) (c : Int) : ToM a c 0 0 6 := ⟨Nat.le_refl _, fun i' k' _ _ h _ => by omega, .inl rfl⟩
theorem ToM.skip {a : List Int} {c : Int} {i k m : Nat} (h : ToM a c i k m) (hn : m < (tr i).length + (tr k).length) : ToM a c i (k + 1) m := by
  refine ⟨h.le, fun i' k' hi hk hd hm => ?_, h.hit⟩
  by_cases e : i' = i ∧ k' = k
  · obtain ⟨rfl, rfl⟩ := e; omega
  · exact h.all i' k' hi hk (by omega) hm
theorem ToM.row {a : List Int} {c : Int} {i m : Nat} (h : ToM a c i (i + 1) m) : ToM a c (i + 1) 0 m :=
  ⟨h.le, fun i' k' hi hk hd hm => h.all i' k' hi hk (by omega) hm, h.hit⟩
/-- on the way of the reference: all pairs with fewer than n nodes, and those with n nodes ahead of (i, k) -/
structure ToS (a : List Int) (c : Int) (n i k : Nat) : Prop where
  low : ∀ i' k', i' < 37 → k' < 37 → (tr i').length + (tr k').length < n → prB a c i' k'
  all : ∀ i' k', i' < 37 → k' < 37 → (i' < i ∨ (i' = i ∧ k' < k)) → (tr i').length + (tr k').length = n → prB a c i' k'
theorem tr_pos {i : Nat} (h : i < 37) : 1 ≤ (tr i).length := (T6n_at (tr_mem h)).2.1
theorem ToS.start (a : List Int) (c : Int) : ToS a c 2 0 0 :=
  ⟨fun i k hi hk h => by have := tr_pos hi; have := tr_pos hk; omega, fun i' k' _ _ h _ => by omega⟩
theorem ToS.skip {a : List Int} {c : Int} {n i k : Nat} (h : ToS a c n i k) (hn : (tr i).length + (tr k).length ≠ n) : ToS a c n i (k + 1) := by
  refine ⟨h.low, fun i' k' hi hk hd hm => ?_⟩
  by_cases e : i' = i ∧ k' = k
  · obtain ⟨rfl, rfl⟩ := e; exact absurd hm hn
  · exact h.all i' k' hi hk (by omega) hm
theorem ToS.row {a : List Int} {c : Int} {n i : Nat} (h : ToS a c n i 37) : ToS a c n (i + 1) 0 :=
  ⟨h.low, fun i' k' hi hk hd hm => h.all i' k' hi hk (by omega) hm⟩
theorem ToS.next {a : List Int} {c : Int} {n : Nat} (h : ToS a c n 37 0) : ToS a c (n + 1) 0 0 := by
  refine ⟨fun i k hi hk hm => ?_, fun i' k' _ _ h _ => by omega⟩
  by_cases e : (tr i).length + (tr k).length = n
  · exact h.all i k hi hk (.inl hi) e
  · exact h.low i k hi hk (by omega)
end Go.Proofs.YtngdpoeondnchaaGreat

set_option maxRecDepth 100000
namespace Go.Proofs
open Go.Shelf Go.RowKit Go.Lib Go.Sort
def Tryz.psort_ren : Go.Shelf.Ren := ⟨fun | 6 => 143 | 15 => 170 | 14 => 169 | 28 => 201 | 29 => 202 | 20 => 193 | 21 => 194 | 22 => 195 | 23 => 196 | 24 => 197 | 25 => 198 | 26 => 199 | 27 => 200 | 46 => 212 | 47 => 213 | 48 => 214 | 49 => 215 | 50 => 216 | 57 => 231 | n => n, fun | 22 => 89 | 24 => 92 | 25 => 122 | 3 => 3 | 39 => 81 | 0 => 0 | 53 => 156 | 55 => 26 | 4 => 4 | 46 => 165 | 45 => 164 | 50 => 144 | 5 => 5 | 9 => 9 | 66 => 179 | 70 => 183 | 76 => 195 | 77 => 196 | n => n, fun | n => n⟩
theorem Tryz.psort : Go.Proofs.SlLaysF0.n6 Tryz.prog Tryz.psort_ren := {
  mixed := by kernel_rfl
  f6 := ⟨Tryz.f143.name, by decide, Tryz.func143.trans (congrArg some (by kernel_rfl))⟩
  f14 := ⟨Tryz.f169.name, by decide, Tryz.func169.trans (congrArg some (by kernel_rfl))⟩
  f15 := Tryz.func170.trans (congrArg some (by kernel_rfl))
  f20 := ⟨Tryz.f193.name, by decide, Tryz.func193.trans (congrArg some (by kernel_rfl))⟩
  f21 := ⟨Tryz.f194.name, by decide, Tryz.func194.trans (congrArg some (by kernel_rfl))⟩
  f22 := ⟨Tryz.f195.name, by decide, Tryz.func195.trans (congrArg some (by kernel_rfl))⟩
  f23 := ⟨Tryz.f196.name, by decide, Tryz.func196.trans (congrArg some (by kernel_rfl))⟩
  f24 := ⟨Tryz.f197.name, by decide, Tryz.func197.trans (congrArg some (by kernel_rfl))⟩
  f25 := ⟨Tryz.f198.name, by decide, Tryz.func198.trans (congrArg some (by kernel_rfl))⟩
  f26 := ⟨Tryz.f199.name, by decide, Tryz.func199.trans (congrArg some (by kernel_rfl))⟩
  f27 := ⟨Tryz.f200.name, by decide, Tryz.func200.trans (congrArg some (by kernel_rfl))⟩
  f28 := Tryz.func201.trans (congrArg some (by kernel_rfl))
  f29 := Tryz.func202.trans (congrArg some (by kernel_rfl))
  f46 := ⟨Tryz.f212.name, by decide, Tryz.func212.trans (congrArg some (by kernel_rfl))⟩
  f47 := Tryz.func213.trans (congrArg some (by kernel_rfl))
  f48 := Tryz.func214.trans (congrArg some (by kernel_rfl))
  f49 := ⟨Tryz.f215.name, by decide, Tryz.func215.trans (congrArg some (by kernel_rfl))⟩
  f50 := ⟨Tryz.f216.name, by decide, Tryz.func216.trans (congrArg some (by kernel_rfl))⟩
  f57 := ⟨Tryz.f231.name, by decide, Tryz.func231.trans (congrArg some (by kernel_rfl))⟩
  t0 := Tryz.underlying0
  a0 := Tryz.isAgg0
  z0 := Tryz.sizeOf0
  v0 := Tryz.zeroValue0
  t3 := Tryz.underlying3
  a3 := Tryz.isAgg3
  z3 := Tryz.sizeOf3
  v3 := Tryz.zeroValue3
  t4 := Tryz.underlying4
  a4 := Tryz.isAgg4
  z4 := Tryz.sizeOf4
  v4 := Tryz.zeroValue4
  t5 := Tryz.underlying5
  a5 := Tryz.isAgg5
  z5 := Tryz.sizeOf5
  v5 := Tryz.zeroValue5
  t9 := Tryz.underlying9
  a9 := Tryz.isAgg9
  z9 := Tryz.sizeOf9
  v9 := Tryz.zeroValue9
  t22 := Tryz.underlying89
  a22 := Tryz.isAgg89
  z22 := Tryz.sizeOf89
  v22 := Tryz.zeroValue89
  t25 := Tryz.underlying122
  a25 := Tryz.isAgg122
  z25 := Tryz.sizeOf122
  v25 := Tryz.zeroValue122
  t39 := Tryz.underlying81
  a39 := Tryz.isAgg81
  z39 := Tryz.sizeOf81
  v39 := Tryz.zeroValue81
  t45 := Tryz.underlying164
  a45 := Tryz.isAgg164
  z45 := Tryz.sizeOf164
  v45 := Tryz.zeroValue164
  t46 := Tryz.underlying165
  a46 := Tryz.isAgg165
  z46 := Tryz.sizeOf165
  v46 := Tryz.zeroValue165
  t50 := Tryz.underlying144
  a50 := Tryz.isAgg144
  z50 := Tryz.sizeOf144
  v50 := Tryz.zeroValue144
  t53 := Tryz.underlying156
  a53 := Tryz.isAgg156
  z53 := Tryz.sizeOf156
  v53 := Tryz.zeroValue156
  t55 := Tryz.underlying26
  a55 := Tryz.isAgg26
  z55 := Tryz.sizeOf26
  v55 := Tryz.zeroValue26
  t66 := Tryz.underlying179
  a66 := Tryz.isAgg179
  z66 := Tryz.sizeOf179
  v66 := Tryz.zeroValue179
  t70 := Tryz.underlying183
  a70 := Tryz.isAgg183
  z70 := Tryz.sizeOf183
  v70 := Tryz.zeroValue183
  t76 := Tryz.underlying195
  a76 := Tryz.isAgg195
  z76 := Tryz.sizeOf195
  v76 := Tryz.zeroValue195
  t77 := Tryz.underlying196
  a77 := Tryz.isAgg196
  z77 := Tryz.sizeOf196
  v77 := Tryz.zeroValue196 }
end Go.Proofs

set_option maxRecDepth 100000
set_option linter.unusedVariables false
set_option linter.unusedSimpArgs false
namespace Go.Proofs.YtngdpoeondnchaaGreat
open Go.RowKit Go.Sort Go.Shelf

abbrev tPt : TypeId := 92
/-- pieces and skeleton -/
abbrev PK := List (List Nat) × List Nat
def cmpP (x y : PK) : Int := if cmpT (up x.2) (up y.2) = 0 then cmpFL x.1 y.1 else cmpT (up x.2) (up y.2)
/-- partitions: by the skeletons, then by the pieces -/
def ltP (x y : PK) : Bool := lexP befN (lexL befN) (x.2, x.1) (y.2, y.1)
theorem STO.ltP : STO ltP := (STO.bef.lexP STO.bef.lexL).pull (f := fun x : PK => (x.2, x.1)) fun {a b} h => by obtain ⟨a1, a2⟩ := a; obtain ⟨b1, b2⟩ := b; injection h with h1 h2; have h1 : a2 = b2 := h1; have h2 : a1 = b1 := h2; rw [h1, h2]
theorem cmpP_lt (x y : PK) : decide (cmpP x y < 0) = ltP x y := by
  obtain ⟨x1, x2⟩ := x; obtain ⟨y1, y2⟩ := y
  unfold cmpP Go.Proofs.YtngdpoeondnchaaGreat.ltP lexP
  simp only
  by_cases h : cmpT (up x2) (up y2) = 0
  · have := cmpT_eq0.1 h
    subst this
    rw [if_pos h, befN_irrefl, cmpFL_lt]; rfl
  · rw [if_neg h]
    rcases cmpT_bef h with ⟨h1, h2⟩ | ⟨h1, h2, h3⟩
    · rw [h2]; exact decide_eq_true h1
    · rw [h2, h3]; exact decide_eq_false h1
theorem cmpP_zero (x y : PK) : cmpP x y = 0 ↔ x = y := by
  obtain ⟨x1, x2⟩ := x; obtain ⟨y1, y2⟩ := y
  unfold cmpP
  simp only
  by_cases h : cmpT (up x2) (up y2) = 0
  · rw [if_pos h, cmpFL_zero, cmpT_eq0.1 h]; simp
  · rw [if_neg h]
    constructor
    · intro h'; exact absurd h' h
    · intro h'; injection h' with h1 h2; exact absurd (cmpT_eq0.2 h2) h
abbrev ePt (n : Nat) : Elt PK := elt2 fldR fldI n
abbrev ePc : Elt (PK × Nat) := elt3 fldR fldI

set_option maxHeartbeats 4000000 in
theorem i_cmpPart (W : World) (B B' : Nat) (c c' : List Value) (x y : PK) (n m : Nat) (hx : ePc.D W B c (x, n)) (hy : ePc.D W B' c' (y, m)) :
    Calls Tryz.prog 140 #[.agg c.toArray, .agg c'.toArray] W fun e w' => e = .returned (.int .i64 (cmpP x y)) ∧ ∃ q os, w' = grow (W.drewN q) os := by
  obtain ⟨u, s, rfl, hu0, hs0⟩ := hx
  obtain ⟨u', s', rfl, hu0', hs0'⟩ := hy
  have hu := (show LA W B u (x.1.map up) from hu0).rows
  have hu' := (show LA W B' u' (y.1.map up) from hu0').rows
  have hs := (show OwnInts W B tI s (up x.2) from hs0).ints
  have hs' := (show OwnInts W B' tI s' (up y.2) from hs0').ints
  clear hu0 hu0' hs0 hs0'
  have HU := Lib.hid hu
  have HU' := Lib.hid hu'
  have HS := Lib.hid hs
  have HS' := Lib.hid hs'
  obtain ⟨A1, c1, rfl, -, -, -⟩ := hu.open_
  obtain ⟨A2, c2, rfl, -, -, -⟩ := hu'.open_
  obtain ⟨A3, c3, rfl, -, -, -⟩ := hs.open_
  obtain ⟨A4, c4, rfl, -, -, -⟩ := hs'.open_
  simp only [List.length_map, up_len] at HU HU' HS HS' ⊢
  obtain ⟨R, hR⟩ : ∃ R, R = cmpP x y := ⟨_, rfl⟩
  rw [← hR]
  have hR2 : R = if cmpT (up x.2) (up y.2) = 0 then cmpFL x.1 y.1 else cmpT (up x.2) (up y.2) := hR
  have hct := fun W h h' => i_compareTrees W (.slice A3 x.2.length c3) (.slice A4 y.2.length c4) (up x.2) (up y.2) h h'
  have HFL := Lib.hid (fun W h h' => lib_CompareTrees W (.slice A1 x.1.length c1) (.slice A2 y.1.length c2) x.1 y.1 h h')
  generalize cmpT (up x.2) (up y.2) = z at hR2 hct
  generalize cmpFL x.1 y.1 = z2 at hR2 HFL
  have HCT := Lib.hid hct
  clear hu hu' hs hs' hct hR
  have HBB := Lib.hid (fun o o' => show Below W.heap.size W ((W.alloc o).alloc o') from ((Below.refl W.heap.size W).alloc (Nat.le_refl _) _).alloc (by simp) _)
  by_cases hz : z = 0
  · subst hz
    rw [if_pos rfl] at hR2
    have HR := Lib.hid hR2
    clear hR2
    go_enter Tryz.func140, Tryz.ntmps140
    go_wp2_with (first
      | (go_at_call 141; go_loud (refine (HCT.out _ (HS.out.below (HBB.out _ _)) (HS'.out.below (HBB.out _ _))).mono ?_; rintro e w1 ⟨rfl, rfl⟩))
      | (go_at_call 142; go_loud (refine (HFL.out _ (HU.out.below (HBB.out _ _)) (HU'.out.below (HBB.out _ _))).mono ?_; rintro e w2 ⟨rfl, rfl⟩)))
    go_ret
    exact ⟨ret_i64 HR.out.symm, 0, _, by rw [alloc_eq_grow, alloc_eq_grow, grow_grow]; rfl⟩
  · rw [if_neg hz] at hR2
    have HR := Lib.hid hR2
    have hz2 : (z != 0) = true := by simpa using hz
    clear hR2
    go_enter Tryz.func140, Tryz.ntmps140
    go_wp2_with (first
      | (go_at_call 141; go_loud (refine (HCT.out _ (HS.out.below (HBB.out _ _)) (HS'.out.below (HBB.out _ _))).mono ?_; rintro e w1 ⟨rfl, rfl⟩)))
    go_ret
    exact ⟨ret_i64 HR.out.symm, 0, _, by rw [alloc_eq_grow, alloc_eq_grow, grow_grow]; rfl⟩

theorem lib_SortPart (w : World) (B cap : Nat) (A : Option Addr) (css : List (List Value)) (xs : List PK) (h : OwnK w B tPt 3 (.slice A css.length cap) css) (hr : Elts (ePt 1) w B css xs) (hn : css.length ≤ 1000000) :
    Calls Tryz.prog 143 #[.slice A css.length cap, .func (.func 140) #[] #[]] w fun e w' => e = .returned (.tuple #[]) ∧
      ∃ css', css'.length = css.length ∧ OwnK w' B tPt 3 (.slice A css.length cap) css' ∧ Elts (ePt 1) w' B css' (srtS ltP xs) ∧ w.grownBy w' (Value.ownBlock (.slice A css.length cap)) := by
  have aE : ∀ w, (isAgg tPt).run Tryz.prog w = .ok true w := fun w => by kernel_rfl
  have zE : ∀ w, (Go.sizeOf tPt).run Tryz.prog w = .ok 3 w := fun w => by kernel_rfl
  have eg : ∀ args w, (callFunc 140 args).run Tryz.prog w = .ok (.enter 140 args) w := enters_of Tryz.func140 (by kernel_rfl) rfl
  exact sort_elts Tryz.psort (ePt 1) (e := tPt) aE zE ltP STO.ltP cmpP cmpP_lt 140 eg (by decide) (by decide) (fun W B c c' x y hx hy => i_cmpPart W B B c c' x y 1 1 hx hy) w B cap A css xs h hr hn
end Go.Proofs.YtngdpoeondnchaaGreat

set_option maxRecDepth 100000
namespace Go.Proofs.YtngdpoeondnchaaGreat
theorem okc_s : (List.range 6).all (fun m => (levs m).all okTree) = true := by decide +kernel
theorem okc_0 : (((levs 6).drop 0).take 20).all okTree = true := by decide +kernel
theorem okc_1 : (((levs 6).drop 20).take 40).all okTree = true := by decide +kernel
theorem okc_2 : (((levs 6).drop 60).take 72).all okTree = true := by decide +kernel
theorem okc_3 : (((levs 7).drop 0).take 16).all okTree = true := by decide +kernel
theorem okc_4 : (((levs 7).drop 16).take 22).all okTree = true := by decide +kernel
theorem okc_5 : (((levs 7).drop 38).take 18).all okTree = true := by decide +kernel
end Go.Proofs.YtngdpoeondnchaaGreat

set_option maxRecDepth 100000
namespace Go.Proofs.YtngdpoeondnchaaGreat
theorem okc_6 : (((levs 7).drop 56).take 16).all okTree = true := by decide +kernel
theorem okc_7 : (((levs 7).drop 72).take 44).all okTree = true := by decide +kernel
theorem okc_8 : (((levs 7).drop 116).take 30).all okTree = true := by decide +kernel
theorem okc_9 : (((levs 7).drop 146).take 92).all okTree = true := by decide +kernel
theorem okc_10 : (((levs 7).drop 238).take 191).all okTree = true := by decide +kernel
end Go.Proofs.YtngdpoeondnchaaGreat

set_option linter.unusedVariables false
set_option linter.unusedSimpArgs false
set_option maxRecDepth 100000
namespace Go.Proofs.YtngdpoeondnchaaGreat

theorem all_part {α : Type} {p : α → Bool} {l : List α} {a m : Nat} (h : ((l.drop a).take m).all p = true) (h' : (l.drop (a + m)).all p = true) : (l.drop a).all p = true := by
  rw [← List.take_append_drop m (l.drop a), List.all_append, h, List.drop_drop, h']; rfl
theorem all_end {α : Type} {p : α → Bool} {l : List α} {a : Nat} (h : Nat.ble l.length a = true) : (l.drop a).all p = true := by
  rw [List.drop_eq_nil_of_le (Nat.le_of_ble_eq_true h)]; rfl
theorem okc_six : (levs 6).all okTree = true := by
  have e := @all_end _ okTree (levs 6) 132 (by decide +kernel)
  have e2 := all_part (a := 60) (m := 72) okc_2 e
  have e1 := all_part (a := 20) (m := 40) okc_1 e2
  have e0 := all_part (a := 0) (m := 20) okc_0 e1
  simpa using e0
theorem okc_seven : (levs 7).all okTree = true := by
  have e := @all_end _ okTree (levs 7) 429 (by decide +kernel)
  have e10 := all_part (a := 238) (m := 191) okc_10 e
  have e9 := all_part (a := 146) (m := 92) okc_9 e10
  have e8 := all_part (a := 116) (m := 30) okc_8 e9
  have e7 := all_part (a := 72) (m := 44) okc_7 e8
  have e6 := all_part (a := 56) (m := 16) okc_6 e7
  have e5 := all_part (a := 38) (m := 18) okc_5 e6
  have e4 := all_part (a := 16) (m := 22) okc_4 e5
  have e3 := all_part (a := 0) (m := 16) okc_3 e4
  simpa using e3
theorem okTree_8 : (List.range 8).all (fun m => (levs m).all okTree) = true := by
  have h := okc_s
  rw [List.all_eq_true] at h ⊢
  intro m hm
  have hm8 := List.mem_range.1 hm
  by_cases h6 : m < 6
  · exact h m (List.mem_range.2 h6)
  · have : m = 6 ∨ m = 7 := by omega
    rcases this with rfl | rfl
    · exact okc_six
    · exact okc_seven
theorem cut_ok {t : List Nat} {m : Nat} (ht : lvl t = true) (hl : t.length ≤ 8) (hc : canO 9 t = some t) (hm : m < 2 ^ t.length) (h2 : m % 2 = 0) : okCut t m = true := by
  have h := lev8 okTree_8 ht hl
  rw [okTree, isCan, hc] at h
  simp only [eqN_iff.2 rfl, cond_true, List.all_eq_true, List.mem_range] at h
  have hpos : 0 < t.length := by obtain ⟨c, rfl, -⟩ := lvl_cons ht; simp
  have e : t.length = (t.length - 1) + 1 := by omega
  have h3 := h (m / 2) (by rw [e, Nat.pow_succ] at hm; omega)
  rwa [show 2 * (m / 2) = m by omega] at h3
/-- what the kernel has found -/
theorem cut_parts {t : List Nat} {m : Nat} (h : okCut t m = true) : (cutN t m).tops = 0 :: cutsN m (t.length - 1) 1 ∧ (∀ i ∈ (cutN t m).tops, lvl (pieN t m i) = true ∧ (pieN t m i).length ≤ 8 ∧ tfO 9 (cutN t m).near i 0 = canO 9 (pieN t m i)) ∧
    lvl (sklN t m) = true ∧ (sklN t m).length ≤ 8 ∧ tfO 9 (joinN (cutN t m)) 0 0 = canO 9 (sklN t m) := by
  unfold okCut at h
  simp only [Bool.and_eq_true, List.all_eq_true] at h
  obtain ⟨h1, h2, h3⟩ := h
  refine ⟨eqN_iff.1 h1, fun i hi => ?_, ?_⟩
  · have h4 := h2 i hi
    cases hr : rawO 9 (cutN t m).near i 0 with
    | none => rw [hr] at h4; cases h4
    | some q =>
      rw [hr] at h4
      simp only [Bool.and_eq_true] at h4
      have h5 := eqN_iff.1 h4.1
      subst h5
      have h8 := Nat.le_of_ble_eq_true h4.2
      obtain ⟨h6, h7⟩ := tfO_raw hr h8
      exact ⟨h6, h8, h7⟩
  · cases hr : rawO 9 (joinN (cutN t m)) 0 0 with
    | none => rw [hr] at h3; cases h3
    | some q =>
      rw [hr] at h3
      simp only [Bool.and_eq_true] at h3
      have h5 := eqN_iff.1 h3.1
      subst h5
      have h8 := Nat.le_of_ble_eq_true h3.2
      obtain ⟨h6, h7⟩ := tfO_raw hr h8
      exact ⟨h6, h8, h7⟩
end Go.Proofs.YtngdpoeondnchaaGreat

