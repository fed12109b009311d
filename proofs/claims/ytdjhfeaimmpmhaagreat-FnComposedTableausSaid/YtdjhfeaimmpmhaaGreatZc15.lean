/- Walks: treesTo of the program; l03All of the reference. (printed by allgen.py) | What newForms of the program lays: the trees, and the cuts of each by places. No walk. | Plain: what maps reckon with: sizes and densities of the trees at the places, the exact map, agreement. No walk. | Plain: the exponential at a tree is the value there and what smaller trees give; it is told by that, goes with scaling, and convolution goes with scaling; kernel checks. No walk. | Plain: elementary weights of tableaus by places; the weights of a composition are the convolution of the weights; kernel checks. No walk. | Which free number, with which sign, a Hamiltonian map has at each place (0: none), and the chain of conditions that tells it. (printed by hamgen.py) No walk. | Plain: the two Butcher products of trees by places; up to where a map has the condition of symplectic or Hamiltonian ones. No walk. | Walk: l04Turn of the reference. | Plain: l04Put, l04Roots, l04Cut, l04Double of the reference, with every premise of the walks; what the kernel finds at the trees with at most 8 nodes. | Words of memory for sums of trees: lists of one's own of structs of a tree and a count. -/
import Derived.Test.YtdjhfeaimmpmhaaGreatZc11
import Derived.Test.YtdjhfeaimmpmhaaGreatZc14
import Derived.Test.YtdjhfeaimmpmhaaGreatZc6
import Derived.Test.YtdjhfeaimmpmhaaGreatZc2
import Derived.Test.YtdjhfeaimmpmhaaGreatZc1
import Derived.Test.YtdjhfeaimmpmhaaGreatZc8
set_option maxRecDepth 100000
set_option linter.unusedVariables false
set_option linter.unusedSimpArgs false
namespace Go.Proofs.YtdjhfeaimmpmhaaGreat
open Go.RowKit

/-- the lists for 1 to n, one after the other -/
def allG (G : Nat → List (List Nat)) (n : Nat) : List (List Nat) := (List.range n).flatMap fun k => G (k + 1)
theorem allG_succ (G : Nat → List (List Nat)) (k : Nat) : allG G (k + 1) = allG G k ++ G (k + 1) := by simp [allG, List.range_succ]
theorem allG_len {G : Nat → List (List Nat)} (hG : ∀ k, 1 ≤ k → k ≤ 8 → (G k).length ≤ 115) : ∀ n, n ≤ 8 → (allG G n).length ≤ 115 * n
  | 0, _ => by simp [allG]
  | n + 1, h => by
    rw [allG_succ, List.length_append]
    have h1 := allG_len hG n (by omega)
    have h2 := hG (n + 1) (by omega) h
    omega
theorem treesN_len {k : Nat} (h1 : 1 ≤ k) (h8 : k ≤ 8) : (treesN k).length ≤ 115 := (treesN_at h1 h8).1

theorem RR.keptAl {w w' : World} {B : Nat} {vs : List Value} {xss : List (List Int)} {v : Value} {e : TypeId} (h : RR w B vs xss) (hg : w.grownBy w' v.ownBlock) (hb : BT w e v) (hne : tI ≠ e) : RR w' B vs xss :=
  ⟨h.1, fun k u zs hu hz => (h.2 k u zs hu hz).kept hg ((h.2 k u zs hu hz).1.bt.ne hb hne)⟩
/-- a list of rows behind another one -/
theorem LA.app {w2 w' : World} {B C : Nat} {v v' : Value} {xs ys : List (List Int)} {us vs : List Value} (h1 : Own w2 B tL v us) (h2 : RR w2 B us xs) (h3 : us.Pairwise Apart) (hlt : ∀ u ∈ us, ∀ b, u.ownBlock = some b → b < C)
    (g1 : RR w2 C vs ys) (g2 : vs.Pairwise Apart) (hBC : B ≤ C) (ho : Own w' B tL v' (us ++ vs)) (hg : Grow w2 w' v v') : LA w' B v' (xs ++ ys) := by
  refine ⟨us ++ vs, ho, (h2.append (g1.mono hBC)).keptAl hg.1 h1.bt (by decide), List.pairwise_append.2 ⟨h3, g2, fun u hu x hx => ?_⟩⟩
  obtain ⟨k, hk, rfl⟩ := List.getElem_of_mem hx
  have hz : ys[k]? = some (ys[k]'(by rw [← g1.1]; exact hk)) := List.getElem?_eq_getElem _
  exact apart_of_lt (hlt u hu) (g1.2 k _ _ (List.getElem?_eq_getElem hk) hz).1.ge
theorem RR.lt {w : World} {B : Nat} {vs : List Value} {xss : List (List Int)} (h : RR w B vs xss) : ∀ u ∈ vs, ∀ b, u.ownBlock = some b → b < w.heap.size := by
  intro u hu
  obtain ⟨k, hk, rfl⟩ := List.getElem_of_mem hu
  have hz : xss[k]? = some (xss[k]'(by rw [← h.1]; exact hk)) := List.getElem?_eq_getElem _
  exact (h.2 k _ _ (List.getElem?_eq_getElem hk) hz).1.lt

set_option maxHeartbeats 4000000 in
theorem i_treesTo (w : World) (n : Nat) (h8 : n ≤ 8) :
    Calls Tryz.prog 56 #[.int .i64 n] w fun e w' => ∃ x, e = .returned x ∧ LA w' w.heap.size x ((allG treesN n).map up) ∧ Below w.heap.size w w' := by
  have HG := Lib.hid (fun k (h : k ≤ 8) => allG_len (G := treesN) (fun k h1 h2 => treesN_len h1 h2) k h)
  have HL := Lib.hid (fun k (h1 : 1 ≤ k) (h2 : k ≤ 8) => treesN_len h1 h2)
  have OL := Lib.hid (show LA (w.alloc (.cells #[] tL)) w.heap.size (.slice (some ⟨w.heap.size, 0, none⟩) 0 0) ((allG treesN 0).map up) from ⟨[], own_lit w tL [] (by simp [maxLen]), RR.nil _ _, List.Pairwise.nil⟩)
  go_enter Tryz.func56, Tryz.ntmps56
  go_wp2_with fail
  go_loopw [3, 4] (fun o x wr => ∃ k : Nat, 1 ≤ k ∧ k ≤ n + 1 ∧ x = .int .i64 k ∧ LA wr w.heap.size o ((allG treesN (k - 1)).map up) ∧ Below w.heap.size w wr) (fun _ x _ => n + 1 - (intOf x).toNat)
  case atStart => exact ⟨1, Nat.le_refl _, by omega, by go_num, OL.out, below1 _ _⟩
  case round =>
    obtain ⟨k, hk1, hk, rfl, ho, hb⟩ := hrel
    clear OL
    have HB := Lib.hid hb
    obtain ⟨us, hown, hrr, hap⟩ := ho
    have hul := hrr.1
    rw [List.length_map] at hul
    have HUL := Lib.hid (show us.length ≤ 1000 from by have := HG.out (k - 1) (by omega); omega)
    have HO := Lib.hid hown
    have HR := Lib.hid hrr
    have HAP := Lib.hid hap
    have HLT := Lib.hid hrr.lt
    obtain ⟨Ao, co, rfl, -, -⟩ := hown.cells.open_
    clear hb hown hrr hap hul
    by_cases hlt : k < n + 1
    · have hle : (k : Int) ≤ (n : Int) := by omega
      have HS := Lib.hid (show allG treesN (k + 1 - 1) = allG treesN (k - 1) ++ treesN k from by
        have h := allG_succ treesN (k - 1)
        rw [show k - 1 + 1 = k by omega] at h
        rw [Nat.add_sub_cancel]; exact h)
      have HLK := Lib.hid (HL.out k hk1 (by omega))
      have hk8 : k ≤ 8 := by omega
      go_wp2_with (first
        | (go_at_call 116; go_loud (refine (i_treesOf _ k hk1 hk8).mono ?_; rintro e w2 ⟨x2, rfl, hl2, hb2⟩; obtain ⟨vs, hown2, hrr2, hap2⟩ := hl2; have HV := Lib.hid hown2; have HR2 := Lib.hid hrr2; have HAP2 := Lib.hid hap2; have hvl := hrr2.1.trans (List.length_map ..); have HVL := Lib.hid hvl; have HB2 := Lib.hid hb2; have HO2 := Lib.hid (HO.out.below hb2); clear hown2 hrr2 hap2 hb2 hvl))
        | (at_builtin; go_loud (refine wpList_appN T_row HO2.out HV.out.cells (by have h1 := HUL.out; have h2 := HVL.out; have h3 := HLK.out; omega) (Nat.le_trans HB.out.size HB2.out.size) HR2.out.oneCell (by rfl) rfl (by rfl) (by rfl) ?_; intro v5 w5 hown5 hgr5; have HN := Lib.hid hown5; have HGR := Lib.hid hgr5; clear hown5 hgr5)))
      go_roundw
      case rel =>
        refine ⟨k + 1, by omega, by omega, by go_num, ?_, HGR.out.below (HB.out.trans (HB2.out.mono HB.out.size)) (Nat.le_trans HB.out.size HB2.out.size) HO2.out.ge⟩
        rw [HS.out, List.map_append]
        exact LA.app HO2.out (HR.out.below HB2.out) HAP.out HLT.out HR2.out HAP2.out HB.out.size HN.out HGR.out
      case measure => simp [intOf]; omega
    · have hkn : k = n + 1 := by omega
      subst hkn
      go_wp2_with fail
      go_ret
      exact ⟨_, rfl, ⟨us, HO.out, by simpa using HR.out, HAP.out⟩, HB.out⟩

end Go.Proofs.YtdjhfeaimmpmhaaGreat

set_option maxRecDepth 100000
set_option linter.unusedVariables false
set_option linter.unusedSimpArgs false
namespace Go.Proofs.YtdjhfeaimmpmhaaGreat
open Go.RowKit

abbrev tMc : TypeId := 121
abbrev tMl : TypeId := 114
abbrev MC := (List Nat × Nat) × Nat
/-- a cut by places -/
def mcU (xs : List (List Nat)) (c : CU) : MC := ((c.1.1.map (idxN xs), bif Nat.blt 0 c.1.2.length then idxN xs c.1.2 else 0), c.2)
/-- the cuts of a tree by places -/
def cutsI (xs : List (List Nat)) (t : List Nat) : List MC := match splV 9 t with
  | some r => (cutsU r).map (mcU xs)
  | none => []

def McD (w : World) (B : Nat) (c : List Value) (x : MC) : Prop := ∃ s, c = [.int .i64 (x.2 : Nat), s, .int .i64 (x.1.2 : Nat)] ∧ OwnInts w B tN s (up x.1.1)
def Mcs (w : World) (B : Nat) (css : List (List Value)) (xs : List MC) : Prop := css.length = xs.length ∧ ∀ (i : Nat) (c : List Value) (x : MC), css[i]? = some c → xs[i]? = some x → McD w B c x
theorem McD.below {w w' : World} {B : Nat} {c : List Value} {x : MC} (h : McD w B c x) (hb : Below w.heap.size w w') : McD w' B c x := by
  obtain ⟨s, rfl, h⟩ := h
  exact ⟨s, rfl, h.below hb⟩
theorem McD.mono {w : World} {B B' : Nat} {c : List Value} {x : MC} (h : McD w B c x) (hB : B' ≤ B) : McD w B' c x := by
  obtain ⟨s, rfl, h⟩ := h
  exact ⟨s, rfl, h.mono hB⟩
theorem McD.kept {w w' : World} {B : Nat} {c : List Value} {x : MC} {e : TypeId} {v : Value} (h : McD w B c x) (hg : w.grownBy w' v.ownBlock) (hb : BT w e v) (hne : tN ≠ e) : McD w' B c x := by
  obtain ⟨s, rfl, h⟩ := h
  exact ⟨s, rfl, h.kept hg (h.1.bt.ne hb hne)⟩
section
variable {w w' : World} {B : Nat} {css : List (List Value)} {xs : List MC}
theorem Mcs.nil (w : World) (B : Nat) : Mcs w B [] [] := ⟨rfl, fun i c x h => by simp at h⟩
theorem Mcs.below (h : Mcs w B css xs) (hb : Below w.heap.size w w') : Mcs w' B css xs := ⟨h.1, fun i c x hc hx => (h.2 i c x hc hx).below hb⟩
theorem Mcs.mono {B' : Nat} (h : Mcs w B css xs) (hB : B' ≤ B) : Mcs w B' css xs := ⟨h.1, fun i c x hc hx => (h.2 i c x hc hx).mono hB⟩
theorem Mcs.kept {v : Value} {e : TypeId} (h : Mcs w B css xs) (hg : w.grownBy w' v.ownBlock) (hb : BT w e v) (hne : tN ≠ e) : Mcs w' B css xs := ⟨h.1, fun i c x hc hx => (h.2 i c x hc hx).kept hg hb hne⟩
theorem Mcs.snoc {c : List Value} {x : MC} (h : Mcs w B css xs) (hx : McD w B c x) : Mcs w B (css ++ [c]) (xs ++ [x]) := by
  refine ⟨by simp [h.1], fun i c' x' hc hx' => ?_⟩
  by_cases hlt : i < css.length
  · rw [List.getElem?_append_left hlt] at hc
    rw [List.getElem?_append_left (by rw [← h.1]; exact hlt)] at hx'
    exact h.2 i c' x' hc hx'
  · have hkl := (List.getElem?_eq_some_iff.1 hc).1
    simp at hkl
    have hi : i = css.length := by omega
    rw [hi] at hc
    rw [hi, h.1] at hx'
    simp at hc hx'
    subst hc hx'
    exact hx
end
/-- a list of cuts by places, one's own -/
def ML (w : World) (B : Nat) (v : Value) (xs : List MC) : Prop := ∃ css, OwnK w B tMc 3 v css ∧ Mcs w B css xs
theorem ML.below {w w' : World} {B : Nat} {v : Value} {xs : List MC} (h : ML w B v xs) (hb : Below w.heap.size w w') : ML w' B v xs := by
  obtain ⟨css, h1, h2⟩ := h
  exact ⟨css, h1.below hb, h2.below hb⟩
theorem ML.kept {w w' : World} {B : Nat} {v : Value} {xs : List MC} {e : TypeId} {u : Value} (h : ML w B v xs) (hg : w.grownBy w' u.ownBlock) (hb : BT w e u) (h1 : tN ≠ e) (h2 : tMc ≠ e) : ML w' B v xs := by
  obtain ⟨css, h3, h4⟩ := h
  exact ⟨css, h3.kept hg (h3.bt.ne hb h2), h4.kept hg hb h1⟩
/-- a list of such lists: read only -/
def Mls (w : World) (B : Nat) (us : List Value) (xss : List (List MC)) : Prop := us.length = xss.length ∧ ∀ (i : Nat) (u : Value) (x : List MC), us[i]? = some u → xss[i]? = some x → ML w B u x
section
variable {w w' : World} {B : Nat} {us : List Value} {xss : List (List MC)}
theorem Mls.nil (w : World) (B : Nat) : Mls w B [] [] := ⟨rfl, fun i c x h => by simp at h⟩
theorem Mls.below (h : Mls w B us xss) (hb : Below w.heap.size w w') : Mls w' B us xss := ⟨h.1, fun i c x hc hx => (h.2 i c x hc hx).below hb⟩
theorem Mls.kept {v : Value} {e : TypeId} (h : Mls w B us xss) (hg : w.grownBy w' v.ownBlock) (hb : BT w e v) (h1 : tN ≠ e) (h2 : tMc ≠ e) : Mls w' B us xss := ⟨h.1, fun i c x hc hx => (h.2 i c x hc hx).kept hg hb h1 h2⟩
theorem Mls.snoc {u : Value} {x : List MC} (h : Mls w B us xss) (hx : ML w B u x) : Mls w B (us ++ [u]) (xss ++ [x]) := by
  refine ⟨by simp [h.1], fun i c' x' hc hx' => ?_⟩
  by_cases hlt : i < us.length
  · rw [List.getElem?_append_left hlt] at hc
    rw [List.getElem?_append_left (by rw [← h.1]; exact hlt)] at hx'
    exact h.2 i c' x' hc hx'
  · have hkl := (List.getElem?_eq_some_iff.1 hc).1
    simp at hkl
    have hi : i = us.length := by omega
    rw [hi] at hc
    rw [hi, h.1] at hx'
    simp at hc hx'
    subst hc hx'
    exact hx
end
def T6n : List (List Nat) := allG treesN 6
theorem T6n_len : T6n.length = 37 := by decide +kernel
theorem T6n_split {t : List Nat} (h : t ∈ T6n) : ∃ r, splV 9 t = some r ∧ okLs r = true := by
  obtain ⟨n, hn, ht⟩ := List.mem_flatMap.1 h
  have h1 := List.all_eq_true.1 (List.all_eq_true.1 splV_6 n hn) t ht
  cases hs : splV 9 t with
  | none => rw [hs] at h1; cases h1
  | some r => rw [hs] at h1; exact ⟨r, rfl, h1⟩
/-- what newForms returns -/
def Frm (w : World) (B : Nat) (v : Value) : Prop := ∃ x y us, v = .agg #[x, y] ∧ LA w B x (T6n.map up) ∧ Own w B tMl y us ∧ Mls w B us (T6n.map (cutsI T6n))
end Go.Proofs.YtdjhfeaimmpmhaaGreat

set_option maxRecDepth 100000
set_option linter.unusedVariables false
set_option linter.unusedSimpArgs false
namespace Go.Proofs.YtdjhfeaimmpmhaaGreat
open Go.RowKit

/-- the number of nodes of the tree at a place -/
def szN (k : Nat) : Nat := (0 :: T6n.map List.length).getD k 0
theorem szN_zero : szN 0 = 0 := rfl
theorem szN_succ {i : Nat} {t : List Nat} (h : T6n[i]? = some t) : szN (i + 1) = t.length := by
  unfold szN
  simp [List.getD, h]
theorem szN_le (k : Nat) : szN k ≤ 6 := by
  have h : (0 :: T6n.map List.length).all (fun n => Nat.ble n 6) = true := by decide +kernel
  rw [List.all_eq_true] at h
  unfold szN
  rw [List.getD_eq_getElem?_getD]
  cases hk : (0 :: T6n.map List.length)[k]? with
  | none => simp
  | some n => exact Nat.le_of_ble_eq_true (h n (List.mem_of_getElem? hk))
theorem szN_pos {i : Nat} (h : i < 37) : 1 ≤ szN (i + 1) := by
  have ha : T6n.all (fun t => Nat.ble 1 t.length) = true := by decide +kernel
  rw [List.all_eq_true] at ha
  have ht : T6n[i]? = some (T6n[i]'(by rw [T6n_len]; exact h)) := List.getElem?_eq_getElem _
  rw [szN_succ ht]
  exact Nat.le_of_ble_eq_true (ha _ (List.mem_of_getElem? ht))
/-! ### densities -/
def denL (D : List Nat → Option Nat) : List (List Nat) → Nat → Option Nat
  | [], a => some a
  | b :: bs, a => match D b with
    | none => none
    | some d => bif Nat.ble (a * d) 1000000 then denL D bs (a * d) else none
def denO : Nat → List Nat → Option Nat
  | 0, _ => none
  | f + 1, t => match brO t with
    | none => none
    | some bs => denL (denO f) bs t.length
/-! ### the exact map -/
def exV (t : List Nat) : Nat := match denO 9 t with
  | some d => d ^ 10005 % 10007
  | none => 0
def exN : List Nat := 1 :: T6n.map exV
def EX : List Int := up exN
theorem EX_len : EX.length = 38 := by
  unfold EX exN
  rw [up_len, List.length_cons, List.length_map, T6n_len]
theorem exV_le (t : List Nat) : exV t ≤ 10006 := by
  unfold exV
  cases denO 9 t with
  | none => simp
  | some d => have := Nat.mod_lt (d ^ 10005) (show 10007 > 0 by omega); simp only; omega
theorem EX_nums : ∀ z ∈ EX, 0 ≤ z ∧ z ≤ 10006 := by
  intro z hz
  unfold EX up exN at hz
  obtain ⟨n, hn, rfl⟩ := List.mem_map.1 hz
  rcases List.mem_cons.1 hn with rfl | hn
  · omega
  · obtain ⟨t, -, rfl⟩ := List.mem_map.1 hn
    have := exV_le t
    omega
/-! ### agreement -/
def agZ (a b : List Int) : Int := match (List.range 38).find? (fun k => a.getD k 0 != b.getD k 0) with
  | some k => (szN k : Int) - 1
  | none => 6
theorem agZ_hit {a b : List Int} {k : Nat} (h : ∀ i, i < k → a.getD i 0 = b.getD i 0) (hk : k < 38) (hne : a.getD k 0 ≠ b.getD k 0) : agZ a b = (szN k : Int) - 1 := by
  have : (List.range 38).find? (fun k => a.getD k 0 != b.getD k 0) = some k := by
    rw [List.find?_range_eq_some]
    refine ⟨by simpa using hne, by simpa using hk, fun j hj => by simpa using h j hj⟩
  unfold agZ
  rw [this]
theorem agZ_miss {a b : List Int} (h : ∀ i, i < 38 → a.getD i 0 = b.getD i 0) : agZ a b = 6 := by
  have : (List.range 38).find? (fun k => a.getD k 0 != b.getD k 0) = none := by
    rw [List.find?_range_eq_none]
    intro j hj
    simpa using h j hj
  unfold agZ
  rw [this]
theorem agZ_bd (a b : List Int) : -1 ≤ agZ a b ∧ agZ a b ≤ 6 := by
  unfold agZ
  cases h : (List.range 38).find? (fun k => a.getD k 0 != b.getD k 0) with
  | none => simp
  | some k => have := szN_le k; simp only; omega
/-- a character agrees with the exact map at the empty tree at least -/
theorem agZ_nonneg {a b : List Int} (h : a.getD 0 0 = b.getD 0 0) : 0 ≤ agZ a b := by
  unfold agZ
  cases hf : (List.range 38).find? (fun k => a.getD k 0 != b.getD k 0) with
  | none => simp
  | some k =>
    rw [List.find?_range_eq_some] at hf
    obtain ⟨h1, h2, -⟩ := hf
    simp only
    cases k with
    | zero => simp only [bne_iff_ne, ne_eq] at h1; exact absurd h h1
    | succ k =>
      have h2' : k + 1 < 38 := by simpa using h2
      have := szN_pos (i := k) (by omega)
      omega
end Go.Proofs.YtdjhfeaimmpmhaaGreat

set_option maxRecDepth 100000
set_option linter.unusedVariables false
set_option linter.unusedSimpArgs false
namespace Go.Proofs.YtdjhfeaimmpmhaaGreat

/-! ### smaller trees -/
/-- the numbers of nodes, written out -/
def SzT : List Nat := [0, 1, 2, 3, 3, 4, 4, 4, 4, 5, 5, 5, 5, 5, 5, 5, 5, 5, 6, 6, 6, 6, 6, 6, 6, 6, 6, 6, 6, 6, 6, 6, 6, 6, 6, 6, 6, 6]
def szT (k : Nat) : Nat := SzT.getD k 0
theorem szT_all : (List.range 38).all (fun k => Nat.beq (szT k) (szN k)) = true := by decide +kernel
theorem szT_is {k : Nat} (hk : k < 38) : szT k = szN k := by
  have h1 := szT_all
  rw [List.all_eq_true] at h1
  exact Nat.eq_of_beq_eq_true (h1 k (List.mem_range.2 hk))
/-! ### scaling -/
/-- a map scaled by k -/
def scV (k : Int) (x : Nat → Int) (p : Nat) : Int := x p * k ^ szT p
def wgt : List Nat → Nat
  | [] => 0
  | k :: ks => szT k + wgt ks
theorem pz_scV (k : Int) (x : Nat → Int) : ∀ ks : List Nat, pz (scV k x) ks = pz x ks * k ^ wgt ks
  | [] => by rw [pz_nil, pz_nil]; show (1 : Int) = 1 * k ^ 0; rw [Int.pow_zero, Int.mul_one]
  | q :: ks => by
    rw [pz_cons, pz_cons, pz_scV k x ks]
    unfold scV
    show x q * k ^ szT q * (pz x ks * k ^ wgt ks) = x q * pz x ks * k ^ (szT q + wgt ks)
    rw [Int.pow_add]
    simp only [Int.mul_assoc, Int.mul_left_comm, Int.mul_comm]
theorem eb3 : (List.range 38).all (fun p => (CP p).all fun c => Nat.beq (wgt c.1.1 + szT c.1.2) (szT p)) = true := by decide +kernel
/-- the convolution of scaled maps -/
theorem cv_scV (k : Int) (x y : Nat → Int) {p : Nat} (hp : p < 38) : cv (scV k x) (scV k y) p = scV k (cv x y) p := by
  have h1 := eb3
  rw [List.all_eq_true] at h1
  have h2 := h1 p (by simpa using hp)
  rw [List.all_eq_true] at h2
  show sumF (cvT (scV k x) (scV k y)) (CP p) = sumF (cvT x y) (CP p) * k ^ szT p
  rw [sumF_mulR]
  refine sumF_congr fun c hc => ?_
  have h3 := Nat.eq_of_beq_eq_true (h2 c hc)
  unfold cvT
  rw [pz_scV]
  unfold scV
  rw [← h3, Int.pow_add]
  simp only [Int.mul_assoc, Int.mul_left_comm, Int.mul_comm]
end Go.Proofs.YtdjhfeaimmpmhaaGreat

set_option maxRecDepth 100000
set_option linter.unusedVariables false
set_option linter.unusedSimpArgs false
namespace Go.Proofs.YtdjhfeaimmpmhaaGreat

/-! ### sums over stages -/
def sR (s : Nat) (f : Nat → Int) : Int := sumF f (List.range s)
theorem sR_zero (f : Nat → Int) : sR 0 f = 0 := rfl
theorem sR_succ (s : Nat) (f : Nat → Int) : sR (s + 1) f = sR s f + f s := by
  unfold sR
  rw [List.range_succ, sumF_append]
  simp [sumF]
theorem sR_congr {s : Nat} {f g : Nat → Int} (h : ∀ i, i < s → f i = g i) : sR s f = sR s g := sumF_congr fun i hi => h i (List.mem_range.1 hi)
theorem sR_add (s : Nat) (f g : Nat → Int) : sR s (fun i => f i + g i) = sR s f + sR s g := by
  induction s with
  | zero => rfl
  | succ s ih => rw [sR_succ, sR_succ, sR_succ, ih]; omega
theorem sR_mul (s : Nat) (f : Nat → Int) (k : Int) : k * sR s f = sR s (fun i => k * f i) := sumF_mul _ _ _
theorem sumR0 (s : Nat) : sR s (fun _ => 0) = 0 := by
  induction s with
  | zero => rfl
  | succ s ih => rw [sR_succ, ih]; rfl
theorem sR_swap (s : Nat) (f : Nat → Nat → Int) (l : List MCt) (g : Nat → MCt → Int) : sR s (fun i => sumF (g i) l) = sumF (fun c => sR s (fun i => g i c)) l := by
  induction l with
  | nil =>
    exact sumR0 s
  | cons c l ih =>
    simp only [sumF]
    rw [sR_add, ih]
/-! ### the weights of the stages -/
def bt (p : Nat) : List Nat := BTab.getD p []
theorem pz_congr {f g : Nat → Int} : ∀ {qs : List Nat}, (∀ q ∈ qs, f q = g q) → pz f qs = pz g qs
  | [], _ => rfl
  | q :: qs, h => by rw [pz_cons, pz_cons, h q (by simp), pz_congr fun r hr => h r (by simp [hr])]
/-- with values phi that come in: Phi_i of the tree at p, deep enough -/
def wV (s : Nat) (A : Nat → Nat → Int) (phi : Nat → Int) : Nat → Nat → Nat → Int
  | 0, _, _ => 1
  | f + 1, i, p => pz (fun q => phi q + sR s (fun k => A i k * wV s A phi f k q)) (bt p)
theorem tb1 : (List.range 38).all (fun p => (bt p).all fun q => Nat.blt 0 q && (Nat.blt q 38 && Nat.blt (szT q) (szT p))) = true := by decide +kernel
theorem bt_at {p q : Nat} (hp : p < 38) (hq : q ∈ bt p) : 0 < q ∧ q < 38 ∧ szT q < szT p := by
  have h1 := tb1
  rw [List.all_eq_true] at h1
  have h2 := h1 p (List.mem_range.2 hp)
  rw [List.all_eq_true] at h2
  have h3 := h2 q hq
  simp only [Bool.and_eq_true] at h3
  exact ⟨blt_lt h3.1, blt_lt h3.2.1, blt_lt h3.2.2⟩
theorem wV_deep (s : Nat) (A : Nat → Nat → Int) (phi : Nat → Int) : ∀ (f g i p : Nat), p < 38 → szT p ≤ f → szT p ≤ g → 0 < p → wV s A phi f i p = wV s A phi g i p
  | 0, g, i, p, hp, hf, hg, h0 => by have := szN_pos (i := p - 1) (by omega); rw [show p - 1 + 1 = p by omega, ← szT_is hp] at this; omega
  | f + 1, 0, i, p, hp, hf, hg, h0 => by have := szN_pos (i := p - 1) (by omega); rw [show p - 1 + 1 = p by omega, ← szT_is hp] at this; omega
  | f + 1, g + 1, i, p, hp, hf, hg, h0 => by
    unfold wV
    refine pz_congr fun q hq => ?_
    obtain ⟨q0, q1, q2⟩ := bt_at hp hq
    congr 1
    exact sR_congr fun k _ => by rw [wV_deep s A phi f g k q q1 (by omega) (by omega) q0]
/-- the weight of stage i at p -/
def wt (s : Nat) (A : Nat → Nat → Int) (phi : Nat → Int) (i p : Nat) : Int := wV s A phi 7 i p
theorem wV_succ (s : Nat) (A : Nat → Nat → Int) (phi : Nat → Int) (f i p : Nat) : wV s A phi (f + 1) i p = pz (fun q => phi q + sR s (fun k => A i k * wV s A phi f k q)) (bt p) := rfl
theorem wt_is (s : Nat) (A : Nat → Nat → Int) (phi : Nat → Int) (i : Nat) {p : Nat} (hp : p < 38) : wt s A phi i p = pz (fun q => phi q + sR s (fun k => A i k * wt s A phi k q)) (bt p) := by
  unfold wt
  rw [wV_succ (f := 6)]
  refine pz_congr fun q hq => ?_
  obtain ⟨q0, q1, q2⟩ := bt_at hp hq
  have h6 := szN_le q
  rw [← szT_is q1] at h6
  have e : sR s (fun k => A i k * wV s A phi 6 k q) = sR s (fun k => A i k * wV s A phi 7 k q) := sR_congr fun k _ => congrArg (A i k * ·) (wV_deep s A phi 6 7 k q q1 h6 (by omega) q0)
  rw [e]
abbrev zeroV : Nat → Int := fun _ => 0
/-- the weight of a tableau at p; 1 at the empty tree -/
def wgtT (s : Nat) (A : Nat → Nat → Int) (b : Nat → Int) (p : Nat) : Int := if p = 0 then 1 else sR s (fun i => b i * wt s A zeroV i p)
/-! ### composition -/
/-- what stage i of the second tableau sees of a tree: 1 for the empty one -/
def uV (s : Nat) (A : Nat → Nat → Int) (i q : Nat) : Int := if q = 0 then 1 else sR s (fun k => A i k * wt s A zeroV k q)
theorem wt_zero (s : Nat) (A : Nat → Nat → Int) (i : Nat) {p : Nat} (hp : p < 38) : wt s A zeroV i p = pz (uV s A i) (bt p) := by
  rw [wt_is s A zeroV i hp]
  refine pz_congr fun q hq => ?_
  obtain ⟨q0, q1, q2⟩ := bt_at hp hq
  show 0 + _ = _
  rw [Int.zero_add]
  unfold uV
  rw [if_neg (by omega)]
/-- the terms of the product over the branches, and of the cuts that leave a trunk -/
def lhB (p : Nat) : List TM := (exp2G CP (bt p)).map fun e => (((e.1.1, e.1.2), 0), e.2)
def rhB : List MCt → List TM
  | [] => []
  | c :: cs => bif Nat.beq c.1.2 0 then rhB cs else (((c.1.1, bt c.1.2), 0), c.2) :: rhB cs
theorem tb2 : (List.range 38).all (fun p => Nat.beq p 0 || eqTs (nrm (lhB p)) (nrm (rhB (CP p)))) = true := by decide +kernel
def ruT (phi u : Nat → Int) (c : MCt) : Int := if c.1.2 = 0 then 0 else (c.2 : Int) * (pz phi c.1.1 * pz u (bt c.1.2))
theorem rhB_is (phi u : Nat → Int) : ∀ l : List MCt, sumF (tmV phi u (fun _ => 1)) (rhB l) = sumF (ruT phi u) l
  | [] => rfl
  | c :: cs => by
    have ih := rhB_is phi u cs
    unfold rhB
    show _ = ruT phi u c + sumF (ruT phi u) cs
    cases hb : Nat.beq c.1.2 0 with
    | true =>
      have h0 := Nat.eq_of_beq_eq_true hb
      rw [cond_true, ih]
      unfold ruT
      rw [if_pos h0, Int.zero_add]
    | false =>
      have h0 : c.1.2 ≠ 0 := fun e => by rw [e] at hb; cases hb
      rw [cond_false]
      show tmV phi u (fun _ => 1) (((c.1.1, bt c.1.2), 0), c.2) + _ = _
      rw [ih]
      unfold ruT tmV
      rw [if_neg h0]
      simp only [Int.mul_one]
/-- the product over the branches of what cuts of them give is what the cuts that leave a trunk give -/
theorem branch_id (phi u : Nat → Int) (hu : u 0 = 1) {p : Nat} (h0 : 0 < p) (hp : p < 38) : pz (cv phi u) (bt p) = sumF (ruT phi u) (CP p) := by
  have h1 := tb2
  rw [List.all_eq_true] at h1
  have h2 := h1 p (List.mem_range.2 hp)
  rw [Bool.or_eq_true] at h2
  rcases h2 with h2 | h2
  · have := Nat.eq_of_beq_eq_true h2; omega
  · have e := eqTs_iff h2
    have e1 : pz (cv phi u) (bt p) = sumF (tmV phi u (fun _ => 1)) (lhB p) := by
      have e0 : pz (cv phi u) (bt p) = sumF (exV2 phi u) (exp2G CP (bt p)) := exp2G_is CP phi u (bt p)
      rw [e0]
      unfold lhB
      rw [sumF_map]
      refine sumF_congr fun x _ => ?_
      unfold exV2 tmV
      simp only [Int.mul_one]
    rw [e1, ← nrm_is phi u (fun _ => 1) hu, e, nrm_is phi u (fun _ => 1) hu, rhB_is]
/-- the cuts that leave a trunk, and the one that leaves none -/
theorem cv_split (phi u : Nat → Int) (h1 : u 0 = 1) {p : Nat} (h0 : 0 < p) (hp : p < 38) : cv phi u p = phi p + sumF (fun c => if c.1.2 = 0 then 0 else (c.2 : Int) * (pz phi c.1.1 * u c.1.2)) (CP p) := by
  rw [cv_pos phi u h0 hp, h1, Int.mul_one, Int.add_comm]
  congr 1
  refine sumF_congr fun c _ => ?_
  unfold posT cvT
  by_cases hc : c.1.2 = 0
  · rw [hc]; rfl
  · have : Nat.blt 0 c.1.2 = true := Nat.ble_eq_true_of_le (by omega)
    rw [this, cond_true, if_neg hc]
/-- the stages behind values that come in -/
theorem wt_comp (s : Nat) (A : Nat → Nat → Int) (phi : Nat → Int) : ∀ (n i p : Nat), 0 < p → p < 38 → szT p ≤ n → wt s A phi i p = sumF (ruT phi (uV s A i)) (CP p)
  | 0, i, p, h0, hp, hn => by have := szN_pos (i := p - 1) (by omega); rw [show p - 1 + 1 = p by omega, ← szT_is hp] at this; omega
  | n + 1, i, p, h0, hp, hn => by
    rw [wt_is s A phi i hp, ← branch_id phi (uV s A i) (if_pos rfl) h0 hp]
    refine pz_congr fun q hq => ?_
    obtain ⟨q0, q1, q2⟩ := bt_at hp hq
    rw [cv_split phi (uV s A i) (if_pos rfl) q0 q1]
    congr 1
    have e : sR s (fun k => A i k * wt s A phi k q) = sR s (fun k => sumF (fun c => A i k * ruT phi (uV s A k) c) (CP q)) := sR_congr fun k _ => by
      rw [wt_comp s A phi n k q q0 q1 (by omega), sumF_mul]
    rw [e, sR_swap s (fun _ _ => 0) (CP q) (fun k c => A i k * ruT phi (uV s A k) c)]
    refine sumF_congr fun c hc => ?_
    have hpc := pc_at q1 hc
    unfold ruT
    by_cases h : c.1.2 = 0
    · rw [if_pos h]
      have : sR s (fun k => A i k * (if c.1.2 = 0 then 0 else (c.2 : Int) * (pz phi c.1.1 * pz (uV s A k) (bt c.1.2)))) = sR s (fun _ => 0) := sR_congr fun k _ => by rw [if_pos h, Int.mul_zero]
      rw [this]
      exact sumR0 s
    · rw [if_neg h]
      have e2 : uV s A i c.1.2 = sR s (fun k => A i k * wt s A zeroV k c.1.2) := if_neg h
      rw [e2, ← Int.mul_assoc, sR_mul]
      refine sR_congr fun k _ => ?_
      rw [if_neg h, wt_zero s A k (show c.1.2 < 38 by have := hpc.2; omega)]
      simp only [Int.mul_assoc, Int.mul_left_comm, Int.mul_comm]
end Go.Proofs.YtdjhfeaimmpmhaaGreat

set_option maxRecDepth 100000
namespace Go.Proofs.YtdjhfeaimmpmhaaGreat

def HTab : List (Nat × Bool) := [(0, true), (1, true), (0, true), (2, true), (2, false), (0, false), (3, true), (0, true), (3, false), (4, true), (5, true), (5, false), (4, false), (6, true), (5, false), (4, true), (5, true), (6, false), (0, true), (7, true), (8, true), (7, true), (0, false), (9, true), (0, false), (7, false), (8, false), (9, false), (8, false), (0, true), (7, false), (10, true), (9, false), (7, true), (0, true), (8, true), (9, true), (10, false)]
def HCer : List (Nat × Nat × Nat) := [(4, 0, 1), (8, 0, 3), (12, 0, 4), (14, 0, 5), (17, 0, 7), (25, 0, 9), (28, 0, 10), (32, 0, 12), (37, 0, 16), (15, 1, 2), (16, 1, 3), (33, 1, 5), (35, 1, 6), (36, 1, 7), (30, 2, 3), (11, 6, 0), (21, 11, 0), (26, 14, 0), (27, 15, 0), (2, 0, 0), (7, 1, 1), (5, 0, 2), (29, 2, 2), (22, 1, 4), (18, 8, 0), (34, 3, 3), (24, 0, 13)]
def HBas : List Nat := [1, 3, 6, 9, 10, 13, 19, 20, 23, 31]
end Go.Proofs.YtdjhfeaimmpmhaaGreat

set_option maxRecDepth 100000
set_option linter.unusedVariables false
set_option linter.unusedSimpArgs false
namespace Go.Proofs.YtdjhfeaimmpmhaaGreat
open Go.RowKit

def gIdx (u v : List Nat) : Nat := match canO 9 (graL u 0 v) with
  | some r => fndN T6n r
  | none => 0
/-- the tree at an index -/
def tr (i : Nat) : List Nat := T6n.getD i []
theorem tr_at {i : Nat} {t : List Nat} (h : T6n[i]? = some t) : tr i = t := by unfold tr; rw [List.getD_eq_getElem?_getD, h]; rfl
theorem tr_get {i : Nat} (h : i < 37) : T6n[i]? = some (tr i) := by
  have ht : T6n[i]? = some (T6n[i]'(by rw [T6n_len]; exact h)) := List.getElem?_eq_getElem _
  rw [tr_at ht]; exact ht
theorem tr_mem {i : Nat} (h : i < 37) : tr i ∈ T6n := List.mem_of_getElem? (tr_get h)
/-- the condition at two trees -/
def prB (a : List Int) (c : Int) (i k : Nat) : Prop := (a.getD (gIdx (tr i) (tr k)) 0 + a.getD (gIdx (tr k) (tr i)) 0) % 10007 = c * (a.getD (i + 1) 0 * a.getD (k + 1) 0 % 10007) % 10007
instance (a : List Int) (c : Int) (i k : Nat) : Decidable (prB a c i k) := inferInstanceAs (Decidable (_ = _))
theorem prB_symm {a : List Int} {c : Int} {i k : Nat} (h : prB a c i k) : prB a c k i := by
  unfold prB at *
  rw [Int.add_comm, Int.mul_comm (a.getD (k + 1) 0)]
  exact h
/-- what r tells -/
structure ToR (a : List Int) (c : Int) (r : Nat) : Prop where
  le : r ≤ 6
  all : ∀ i k, i < 37 → k < 37 → (tr i).length + (tr k).length ≤ r → prB a c i k
  hit : r = 6 ∨ ∃ i k, i < 37 ∧ k < 37 ∧ (tr i).length + (tr k).length = r + 1 ∧ ¬ prB a c i k
theorem ToR.unique {a : List Int} {c : Int} {r s : Nat} (h : ToR a c r) (g : ToR a c s) : r = s := by
  rcases Nat.lt_trichotomy r s with hl | he | hl
  · rcases h.hit with h1 | ⟨i, k, hi, hk, hn, hp⟩
    · have := g.le; omega
    · exact absurd (g.all i k hi hk (by omega)) hp
  · exact he
  · rcases g.hit with h1 | ⟨i, k, hi, hk, hn, hp⟩
    · have := h.le; omega
    · exact absurd (h.all i k hi hk (by omega)) hp
/-- on the way through the pairs with k up to i, row by row: those ahead of (i, k) are done -/
structure ToM (a : List Int) (c : Int) (i k m : Nat) : Prop where
  le : m ≤ 6
  all : ∀ i' k', i' < 37 → k' ≤ i' → (i' < i ∨ (i' = i ∧ k' < k)) → (tr i').length + (tr k').length ≤ m → prB a c i' k'
  hit : m = 6 ∨ ∃ i k, i < 37 ∧ k < 37 ∧ (tr i).length + (tr k).length = m + 1 ∧ ¬ prB a c i k
theorem ToM.skip {a : List Int} {c : Int} {i k m : Nat} (h : ToM a c i k m) (hn : m < (tr i).length + (tr k).length) : ToM a c i (k + 1) m := by
  refine ⟨h.le, fun i' k' hi hk hd hm => ?_, h.hit⟩
  by_cases e : i' = i ∧ k' = k
  · obtain ⟨rfl, rfl⟩ := e; omega
  · exact h.all i' k' hi hk (by omega) hm
theorem ToM.row {a : List Int} {c : Int} {i m : Nat} (h : ToM a c i (i + 1) m) : ToM a c (i + 1) 0 m :=
  ⟨h.le, fun i' k' hi hk hd hm => h.all i' k' hi hk (by omega) hm, h.hit⟩
theorem ToM.fin {a : List Int} {c : Int} {m : Nat} (h : ToM a c 37 0 m) : ToR a c m := by
  refine ⟨h.le, fun i k hi hk hm => ?_, h.hit⟩
  by_cases hki : k ≤ i
  · exact h.all i k hi hki (by omega) hm
  · exact prB_symm (h.all k i hk (by omega) (by omega) (by omega))
/-- on the way of the reference: all pairs with fewer than n nodes, and those with n nodes ahead of (i, k) -/
structure ToS (a : List Int) (c : Int) (n i k : Nat) : Prop where
  low : ∀ i' k', i' < 37 → k' < 37 → (tr i').length + (tr k').length < n → prB a c i' k'
  all : ∀ i' k', i' < 37 → k' < 37 → (i' < i ∨ (i' = i ∧ k' < k)) → (tr i').length + (tr k').length = n → prB a c i' k'
theorem ToS.skip {a : List Int} {c : Int} {n i k : Nat} (h : ToS a c n i k) (hn : (tr i).length + (tr k).length ≠ n) : ToS a c n i (k + 1) := by
  refine ⟨h.low, fun i' k' hi hk hd hm => ?_⟩
  by_cases e : i' = i ∧ k' = k
  · obtain ⟨rfl, rfl⟩ := e; exact absurd hm hn
  · exact h.all i' k' hi hk (by omega) hm
theorem ToS.row {a : List Int} {c : Int} {n i : Nat} (h : ToS a c n i 37) : ToS a c n (i + 1) 0 :=
  ⟨h.low, fun i' k' hi hk hd hm => h.all i' k' hi hk (by omega) hm⟩
theorem ToS.next {a : List Int} {c : Int} {n : Nat} (h : ToS a c n 37 0) : ToS a c (n + 1) 0 0 := by
  refine ⟨fun i k hi hk hm => ?_, fun i' k' _ _ h _ => by omega⟩
  by_cases e : (tr i).length + (tr k).length = n
  · exact h.all i k hi hk (.inl hi) e
  · exact h.low i k hi hk (by omega)
theorem ToS.fin {a : List Int} {c : Int} (h : ToS a c 7 0 0) : ToR a c 6 :=
  ⟨Nat.le_refl _, fun i k hi hk hm => h.low i k hi hk (by omega), .inl rfl⟩
end Go.Proofs.YtdjhfeaimmpmhaaGreat

set_option maxRecDepth 100000
set_option linter.unusedVariables false
set_option linter.unusedSimpArgs false
namespace Go.Proofs.YtdjhfeaimmpmhaaGreat
open Go.RowKit

end Go.Proofs.YtdjhfeaimmpmhaaGreat

set_option linter.unusedVariables false
set_option linter.unusedSimpArgs false
set_option maxRecDepth 100000
namespace Go.Proofs.YtdjhfeaimmpmhaaGreat

abbrev CT := List Nat × Nat
end Go.Proofs.YtdjhfeaimmpmhaaGreat

set_option maxRecDepth 100000
set_option linter.unusedVariables false
set_option linter.unusedSimpArgs false
namespace Go.Proofs.YtdjhfeaimmpmhaaGreat
open Go.RowKit

abbrev tC : TypeId := 110
theorem keepCell {w w' : World} {ad : Addr} {v : Value} (hb : Below w.heap.size w w') (h : w.cell? ad = some v) : w'.cell? ad = some v := by rw [hb.cell (World.block_lt_of_cell? w _ h)]; exact h
/-- the cells of a sum: trees in blocks from B on, and counts -/
def CtE (w : World) (B : Nat) (css : List (List Value)) (xs : List CT) : Prop := css.length = xs.length ∧ ∀ (k : Nat) (c : List Value) (x : CT), css[k]? = some c → xs[k]? = some x → ∃ u, c = [u, .int .i64 (x.2 : Nat)] ∧ OwnInts w B tI u (up x.1)
section
variable {w w' : World} {B : Nat} {css : List (List Value)} {xs : List CT}
theorem CtE.nil (w : World) (B : Nat) : CtE w B [] [] := ⟨rfl, fun k c x h => by simp at h⟩
theorem CtE.below (h : CtE w B css xs) (hb : Below w.heap.size w w') : CtE w' B css xs := ⟨h.1, fun k c x hc hx => by obtain ⟨u, e, ho⟩ := h.2 k c x hc hx; exact ⟨u, e, ho.below hb⟩⟩
theorem CtE.mono {B' : Nat} (h : CtE w B css xs) (hB : B' ≤ B) : CtE w B' css xs := ⟨h.1, fun k c x hc hx => by obtain ⟨u, e, ho⟩ := h.2 k c x hc hx; exact ⟨u, e, ho.mono hB⟩⟩
theorem CtE.kept {v : Value} {e : TypeId} (h : CtE w B css xs) (hg : w.grownBy w' v.ownBlock) (hb : BT w e v) (hne : tI ≠ e) : CtE w' B css xs := ⟨h.1, fun k c x hc hx => by obtain ⟨u, e, ho⟩ := h.2 k c x hc hx; exact ⟨u, e, ho.kept hg (ho.1.bt.ne hb hne)⟩⟩
theorem CtE.snoc {u : Value} {t : List Nat} {n : Nat} (h : CtE w B css xs) (hu : OwnInts w B tI u (up t)) : CtE w B (css ++ [[u, .int .i64 (n : Nat)]]) (xs ++ [(t, n)]) := by
  refine ⟨by simp [h.1], fun k c x hk hx => ?_⟩
  by_cases hlt : k < css.length
  · rw [List.getElem?_append_left hlt] at hk
    rw [List.getElem?_append_left (by rw [← h.1]; exact hlt)] at hx
    exact h.2 k c x hk hx
  · have hkl := (List.getElem?_eq_some_iff.1 hk).1
    simp at hkl
    have : k = css.length := by omega
    subst this
    rw [List.getElem?_append_right (Nat.le_refl _)] at hk
    rw [List.getElem?_append_right (by rw [h.1]; exact Nat.le_refl _), h.1] at hx
    simp at hk hx
    subst hk; subst hx
    exact ⟨u, rfl, hu⟩
end
def CtR (w : World) (B : Nat) (v : Value) (xs : List CT) : Prop := ∃ css, OwnK w B tC 2 v css ∧ CtE w B css xs
section
variable {w w' : World} {B : Nat} {v : Value} {xs : List CT}
theorem CtR.below (h : CtR w B v xs) (hb : Below w.heap.size w w') : CtR w' B v xs := by obtain ⟨css, h1, h2⟩ := h; exact ⟨css, h1.below hb, h2.below hb⟩
theorem CtR.mono {B' : Nat} (h : CtR w B v xs) (hB : B' ≤ B) : CtR w B' v xs := by obtain ⟨css, h1, h2⟩ := h; exact ⟨css, h1.mono hB, h2.mono hB⟩
theorem CtR.open_ (h : CtR w B v xs) : ∃ A c, v = .slice A xs.length c ∧ xs.length ≤ c ∧ c ≤ 9223372036854775807 := by
  obtain ⟨css, h1, h2⟩ := h
  have := h1.open_
  rwa [h2.1] at this
/-- the element at a place -/
theorem CtR.at_ {k : Nat} {t : List Nat} {n : Nat} (h : CtR w B v xs) (hx : xs[k]? = some (t, n)) : ∃ g cap A c, v = .slice (some ⟨g, 0, none⟩) xs.length cap ∧ w.cell? ⟨g, k * 2, none⟩ = some (.slice A t.length c) ∧ w.cell? ⟨g, k * 2 + 1, none⟩ = some (.int .i64 (n : Nat)) ∧ OwnInts w B tI (.slice A t.length c) (up t) := by
  obtain ⟨css, h1, h2⟩ := h
  have hk : k < css.length := by rw [h2.1]; exact (List.getElem?_eq_some_iff.1 hx).1
  have hc : css[k]? = some (css[k]'hk) := List.getElem?_eq_getElem _
  obtain ⟨u, e, ho⟩ := h2.2 k _ _ hc hx
  rw [e] at hc
  obtain ⟨g, cap, hv, hc0⟩ := h1.cell (j := 0) hc rfl
  obtain ⟨A, c, hu, -, -, -⟩ := ho.ints.open_
  rw [up_len] at hu
  subst hv
  have hc1 := h1.cellAt (j := 1) hc rfl
  subst hu
  exact ⟨g, cap, A, c, by rw [h2.1], hc0, hc1, ho⟩
/-- one element more -/
theorem CtR.snoc {css : List (List Value)} {u v' : Value} {t : List Nat} {n : Nat} (h1 : OwnK w B tC 2 v css) (h2 : CtE w B css xs) (hu : OwnInts w B tI u (up t)) (ho : OwnK w' B tC 2 v' (css ++ [[u, .int .i64 (n : Nat)]])) (hg : Grow w w' v v') : CtR w' B v' (xs ++ [(t, n)]) :=
  ⟨_, ho, (h2.snoc hu).kept hg.1 h1.bt (by decide)⟩
end
end Go.Proofs.YtdjhfeaimmpmhaaGreat

