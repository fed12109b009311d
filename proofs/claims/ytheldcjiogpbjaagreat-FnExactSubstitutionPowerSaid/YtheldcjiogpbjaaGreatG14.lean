/- Walks: treesTo of the program; l03All of the reference. (printed by allgen.py) | What newForms of the program lays: the trees, and the cuts of each by places. No walk. | Plain: what maps reckon with: sizes and densities of the trees at the places, the exact map, agreement. No walk. | Plain: the two Butcher products of trees by places; up to where a map has the condition of symplectic or Hamiltonian ones. No walk. | Walk: l04Turn of the reference. | Plain: l04Put, l04Roots, l04Cut, l04Double of the reference, with every premise of the walks; what the kernel finds at the trees with at most 8 nodes. | Words of memory for sums of trees: lists of one's own of structs of a tree and a count. -/
import Derived.Test.YtheldcjiogpbjaaGreatG10
import Derived.Test.YtheldcjiogpbjaaGreatG13
import Derived.Test.YtheldcjiogpbjaaGreatG4
import Derived.Test.YtheldcjiogpbjaaGreatG7
set_option maxRecDepth 100000
set_option linter.unusedVariables false
set_option linter.unusedSimpArgs false
namespace Go.Proofs.YtheldcjiogpbjaaGreat
open Go.RowKit

/-- the lists for 1 to n, one after the other -/
def allG (G : Nat → List (List Nat)) (n : Nat) : List (List Nat) := (List.range n).flatMap fun k => G (k + 1)
theorem allG_succ (G : Nat → List (List Nat)) (k : Nat) : allG G (k + 1) = allG G k ++ G (k + 1) := by simp [allG, List.range_succ]
theorem allG_len {G : Nat → List (List Nat)} (hG : ∀ k, 1 ≤ k → k ≤ 8 → (G k).length ≤ 115) : ∀ n, n ≤ 8 → (allG G n).length ≤ 115 * n
  | 0, _ => by simp [allG]
  | n + 1, h => by
    rw [allG_succ, List.length_append]
    have h1 := allG_len hG n (by omega)
    have h2 := hG (n + 1) (by omega) h
    omega
theorem treesN_len {k : Nat} (h1 : 1 ≤ k) (h8 : k ≤ 8) : (treesN k).length ≤ 115 := (treesN_at h1 h8).1

theorem RR.keptAl {w w' : World} {B : Nat} {vs : List Value} {xss : List (List Int)} {v : Value} {e : TypeId} (h : RR w B vs xss) (hg : w.grownBy w' v.ownBlock) (hb : BT w e v) (hne : tI ≠ e) : RR w' B vs xss :=
  ⟨h.1, fun k u zs hu hz => (h.2 k u zs hu hz).kept hg ((h.2 k u zs hu hz).1.bt.ne hb hne)⟩
/-- a list of rows behind another one -/
theorem LA.app {w2 w' : World} {B C : Nat} {v v' : Value} {xs ys : List (List Int)} {us vs : List Value} (h1 : Own w2 B tL v us) (h2 : RR w2 B us xs) (h3 : us.Pairwise Apart) (hlt : ∀ u ∈ us, ∀ b, u.ownBlock = some b → b < C)
    (g1 : RR w2 C vs ys) (g2 : vs.Pairwise Apart) (hBC : B ≤ C) (ho : Own w' B tL v' (us ++ vs)) (hg : Grow w2 w' v v') : LA w' B v' (xs ++ ys) := by
  refine ⟨us ++ vs, ho, (h2.append (g1.mono hBC)).keptAl hg.1 h1.bt (by decide), List.pairwise_append.2 ⟨h3, g2, fun u hu x hx => ?_⟩⟩
  obtain ⟨k, hk, rfl⟩ := List.getElem_of_mem hx
  have hz : ys[k]? = some (ys[k]'(by rw [← g1.1]; exact hk)) := List.getElem?_eq_getElem _
  exact apart_of_lt (hlt u hu) (g1.2 k _ _ (List.getElem?_eq_getElem hk) hz).1.ge
theorem RR.lt {w : World} {B : Nat} {vs : List Value} {xss : List (List Int)} (h : RR w B vs xss) : ∀ u ∈ vs, ∀ b, u.ownBlock = some b → b < w.heap.size := by
  intro u hu
  obtain ⟨k, hk, rfl⟩ := List.getElem_of_mem hu
  have hz : xss[k]? = some (xss[k]'(by rw [← h.1]; exact hk)) := List.getElem?_eq_getElem _
  exact (h.2 k _ _ (List.getElem?_eq_getElem hk) hz).1.lt

set_option maxHeartbeats 4000000 in
theorem i_treesTo (w : World) (n : Nat) (h8 : n ≤ 8) :
    Calls Tryz.prog 96 #[.int .i64 n] w fun e w' => ∃ x, e = .returned x ∧ LA w' w.heap.size x ((allG treesN n).map up) ∧ Below w.heap.size w w' := by
  have HG := Lib.hid (fun k (h : k ≤ 8) => allG_len (G := treesN) (fun k h1 h2 => treesN_len h1 h2) k h)
  have HL := Lib.hid (fun k (h1 : 1 ≤ k) (h2 : k ≤ 8) => treesN_len h1 h2)
  have OL := Lib.hid (show LA (w.alloc (.cells #[] tL)) w.heap.size (.slice (some ⟨w.heap.size, 0, none⟩) 0 0) ((allG treesN 0).map up) from ⟨[], own_lit w tL [] (by simp [maxLen]), RR.nil _ _, List.Pairwise.nil⟩)
  go_enter Tryz.func96, Tryz.ntmps96
  go_wp2_with fail
  go_loopw [3, 4] (fun o x wr => ∃ k : Nat, 1 ≤ k ∧ k ≤ n + 1 ∧ x = .int .i64 k ∧ LA wr w.heap.size o ((allG treesN (k - 1)).map up) ∧ Below w.heap.size w wr) (fun _ x _ => n + 1 - (intOf x).toNat)
  case atStart => exact ⟨1, Nat.le_refl _, by omega, by go_num, OL.out, below1 _ _⟩
  case round =>
    obtain ⟨k, hk1, hk, rfl, ho, hb⟩ := hrel
    clear OL
    have HB := Lib.hid hb
    obtain ⟨us, hown, hrr, hap⟩ := ho
    have hul := hrr.1
    rw [List.length_map] at hul
    have HUL := Lib.hid (show us.length ≤ 1000 from by have := HG.out (k - 1) (by omega); omega)
    have HO := Lib.hid hown
    have HR := Lib.hid hrr
    have HAP := Lib.hid hap
    have HLT := Lib.hid hrr.lt
    obtain ⟨Ao, co, rfl, -, -⟩ := hown.cells.open_
    clear hb hown hrr hap hul
    by_cases hlt : k < n + 1
    · have hle : (k : Int) ≤ (n : Int) := by omega
      have HS := Lib.hid (show allG treesN (k + 1 - 1) = allG treesN (k - 1) ++ treesN k from by
        have h := allG_succ treesN (k - 1)
        rw [show k - 1 + 1 = k by omega] at h
        rw [Nat.add_sub_cancel]; exact h)
      have HLK := Lib.hid (HL.out k hk1 (by omega))
      have hk8 : k ≤ 8 := by omega
      go_wp2_with (first
        | (go_at_call 131; go_loud (refine (i_treesOf _ k hk1 hk8).mono ?_; rintro e w2 ⟨x2, rfl, hl2, hb2⟩; obtain ⟨vs, hown2, hrr2, hap2⟩ := hl2; have HV := Lib.hid hown2; have HR2 := Lib.hid hrr2; have HAP2 := Lib.hid hap2; have hvl := hrr2.1.trans (List.length_map ..); have HVL := Lib.hid hvl; have HB2 := Lib.hid hb2; have HO2 := Lib.hid (HO.out.below hb2); clear hown2 hrr2 hap2 hb2 hvl))
        | (at_builtin; go_loud (refine wpList_appN T_row HO2.out HV.out.cells (by have h1 := HUL.out; have h2 := HVL.out; have h3 := HLK.out; omega) (Nat.le_trans HB.out.size HB2.out.size) HR2.out.oneCell (by rfl) rfl (by rfl) (by rfl) ?_; intro v5 w5 hown5 hgr5; have HN := Lib.hid hown5; have HGR := Lib.hid hgr5; clear hown5 hgr5)))
      go_roundw
      case rel =>
        refine ⟨k + 1, by omega, by omega, by go_num, ?_, HGR.out.below (HB.out.trans (HB2.out.mono HB.out.size)) (Nat.le_trans HB.out.size HB2.out.size) HO2.out.ge⟩
        rw [HS.out, List.map_append]
        exact LA.app HO2.out (HR.out.below HB2.out) HAP.out HLT.out HR2.out HAP2.out HB.out.size HN.out HGR.out
      case measure => simp [intOf]; omega
    · have hkn : k = n + 1 := by omega
      subst hkn
      go_wp2_with fail
      go_ret
      exact ⟨_, rfl, ⟨us, HO.out, by simpa using HR.out, HAP.out⟩, HB.out⟩

set_option maxHeartbeats 4000000 in
theorem s_l03All (w : World) (n : Nat) (h8 : n ≤ 8) :
    Calls Tryz.prog 59 #[.int .i64 n] w fun e w' => ∃ x, e = .returned x ∧ LA w' w.heap.size x ((allG treesN n).map up) ∧ Below w.heap.size w w' := by
  have HG := Lib.hid (fun k (h : k ≤ 8) => allG_len (G := treesN) (fun k h1 h2 => treesN_len h1 h2) k h)
  have HL := Lib.hid (fun k (h1 : 1 ≤ k) (h2 : k ≤ 8) => treesN_len h1 h2)
  have OL := Lib.hid (show LA (w.alloc (.cells #[] tL)) w.heap.size (.slice (some ⟨w.heap.size, 0, none⟩) 0 0) ((allG treesN 0).map up) from ⟨[], own_lit w tL [] (by simp [maxLen]), RR.nil _ _, List.Pairwise.nil⟩)
  go_enter Tryz.func59, Tryz.ntmps59
  go_wp2_with fail
  go_loopw [3, 4] (fun o x wr => ∃ k : Nat, 1 ≤ k ∧ k ≤ n + 1 ∧ x = .int .i64 k ∧ LA wr w.heap.size o ((allG treesN (k - 1)).map up) ∧ Below w.heap.size w wr) (fun _ x _ => n + 1 - (intOf x).toNat)
  case atStart => exact ⟨1, Nat.le_refl _, by omega, by go_num, OL.out, below1 _ _⟩
  case round =>
    obtain ⟨k, hk1, hk, rfl, ho, hb⟩ := hrel
    clear OL
    have HB := Lib.hid hb
    obtain ⟨us, hown, hrr, hap⟩ := ho
    have hul := hrr.1
    rw [List.length_map] at hul
    have HUL := Lib.hid (show us.length ≤ 1000 from by have := HG.out (k - 1) (by omega); omega)
    have HO := Lib.hid hown
    have HR := Lib.hid hrr
    have HAP := Lib.hid hap
    have HLT := Lib.hid hrr.lt
    obtain ⟨Ao, co, rfl, -, -⟩ := hown.cells.open_
    clear hb hown hrr hap hul
    by_cases hlt : k < n + 1
    · have hle : (k : Int) ≤ (n : Int) := by omega
      have HS := Lib.hid (show allG treesN (k + 1 - 1) = allG treesN (k - 1) ++ treesN k from by
        have h := allG_succ treesN (k - 1)
        rw [show k - 1 + 1 = k by omega] at h
        rw [Nat.add_sub_cancel]; exact h)
      have HLK := Lib.hid (HL.out k hk1 (by omega))
      have hk8 : k ≤ 8 := by omega
      go_wp2_with (first
        | (go_at_call 103; go_loud (refine (s_l03Trees _ k hk1 hk8).mono ?_; rintro e w2 ⟨x2, rfl, hl2, hb2⟩; obtain ⟨vs, hown2, hrr2, hap2⟩ := hl2; have HV := Lib.hid hown2; have HR2 := Lib.hid hrr2; have HAP2 := Lib.hid hap2; have hvl := hrr2.1.trans (List.length_map ..); have HVL := Lib.hid hvl; have HB2 := Lib.hid hb2; have HO2 := Lib.hid (HO.out.below hb2); clear hown2 hrr2 hap2 hb2 hvl))
        | (at_builtin; go_loud (refine wpList_appN T_row HO2.out HV.out.cells (by have h1 := HUL.out; have h2 := HVL.out; have h3 := HLK.out; omega) (Nat.le_trans HB.out.size HB2.out.size) HR2.out.oneCell (by rfl) rfl (by rfl) (by rfl) ?_; intro v5 w5 hown5 hgr5; have HN := Lib.hid hown5; have HGR := Lib.hid hgr5; clear hown5 hgr5)))
      go_roundw
      case rel =>
        refine ⟨k + 1, by omega, by omega, by go_num, ?_, HGR.out.below (HB.out.trans (HB2.out.mono HB.out.size)) (Nat.le_trans HB.out.size HB2.out.size) HO2.out.ge⟩
        rw [HS.out, List.map_append]
        exact LA.app HO2.out (HR.out.below HB2.out) HAP.out HLT.out HR2.out HAP2.out HB.out.size HN.out HGR.out
      case measure => simp [intOf]; omega
    · have hkn : k = n + 1 := by omega
      subst hkn
      go_wp2_with fail
      go_ret
      exact ⟨_, rfl, ⟨us, HO.out, by simpa using HR.out, HAP.out⟩, HB.out⟩
end Go.Proofs.YtheldcjiogpbjaaGreat
set_option maxRecDepth 100000
set_option linter.unusedVariables false
set_option linter.unusedSimpArgs false
namespace Go.Proofs.YtheldcjiogpbjaaGreat
open Go.RowKit

abbrev tMc : TypeId := 87
abbrev tMl : TypeId := 81
abbrev MC := (List Nat × Nat) × Nat
/-- a cut by places -/
def mcU (xs : List (List Nat)) (c : CU) : MC := ((c.1.1.map (idxN xs), bif Nat.blt 0 c.1.2.length then idxN xs c.1.2 else 0), c.2)
/-- the cuts of a tree by places -/
def cutsI (xs : List (List Nat)) (t : List Nat) : List MC := match splV 9 t with
  | some r => (cutsU r).map (mcU xs)
  | none => []

def McD (w : World) (B : Nat) (c : List Value) (x : MC) : Prop := ∃ s, c = [.int .i64 (x.2 : Nat), s, .int .i64 (x.1.2 : Nat)] ∧ OwnInts w B tN s (up x.1.1)
def Mcs (w : World) (B : Nat) (css : List (List Value)) (xs : List MC) : Prop := css.length = xs.length ∧ ∀ (i : Nat) (c : List Value) (x : MC), css[i]? = some c → xs[i]? = some x → McD w B c x
theorem McD.below {w w' : World} {B : Nat} {c : List Value} {x : MC} (h : McD w B c x) (hb : Below w.heap.size w w') : McD w' B c x := by
  obtain ⟨s, rfl, h⟩ := h
  exact ⟨s, rfl, h.below hb⟩
theorem McD.mono {w : World} {B B' : Nat} {c : List Value} {x : MC} (h : McD w B c x) (hB : B' ≤ B) : McD w B' c x := by
  obtain ⟨s, rfl, h⟩ := h
  exact ⟨s, rfl, h.mono hB⟩
theorem McD.kept {w w' : World} {B : Nat} {c : List Value} {x : MC} {e : TypeId} {v : Value} (h : McD w B c x) (hg : w.grownBy w' v.ownBlock) (hb : BT w e v) (hne : tN ≠ e) : McD w' B c x := by
  obtain ⟨s, rfl, h⟩ := h
  exact ⟨s, rfl, h.kept hg (h.1.bt.ne hb hne)⟩
section
variable {w w' : World} {B : Nat} {css : List (List Value)} {xs : List MC}
theorem Mcs.nil (w : World) (B : Nat) : Mcs w B [] [] := ⟨rfl, fun i c x h => by simp at h⟩
theorem Mcs.below (h : Mcs w B css xs) (hb : Below w.heap.size w w') : Mcs w' B css xs := ⟨h.1, fun i c x hc hx => (h.2 i c x hc hx).below hb⟩
theorem Mcs.mono {B' : Nat} (h : Mcs w B css xs) (hB : B' ≤ B) : Mcs w B' css xs := ⟨h.1, fun i c x hc hx => (h.2 i c x hc hx).mono hB⟩
theorem Mcs.kept {v : Value} {e : TypeId} (h : Mcs w B css xs) (hg : w.grownBy w' v.ownBlock) (hb : BT w e v) (hne : tN ≠ e) : Mcs w' B css xs := ⟨h.1, fun i c x hc hx => (h.2 i c x hc hx).kept hg hb hne⟩
theorem Mcs.snoc {c : List Value} {x : MC} (h : Mcs w B css xs) (hx : McD w B c x) : Mcs w B (css ++ [c]) (xs ++ [x]) := by
  refine ⟨by simp [h.1], fun i c' x' hc hx' => ?_⟩
  by_cases hlt : i < css.length
  · rw [List.getElem?_append_left hlt] at hc
    rw [List.getElem?_append_left (by rw [← h.1]; exact hlt)] at hx'
    exact h.2 i c' x' hc hx'
  · have hkl := (List.getElem?_eq_some_iff.1 hc).1
    simp at hkl
    have hi : i = css.length := by omega
    rw [hi] at hc
    rw [hi, h.1] at hx'
    simp at hc hx'
    subst hc hx'
    exact hx
end
/-- a list of cuts by places, one's own -/
def ML (w : World) (B : Nat) (v : Value) (xs : List MC) : Prop := ∃ css, OwnK w B tMc 3 v css ∧ Mcs w B css xs
theorem ML.below {w w' : World} {B : Nat} {v : Value} {xs : List MC} (h : ML w B v xs) (hb : Below w.heap.size w w') : ML w' B v xs := by
  obtain ⟨css, h1, h2⟩ := h
  exact ⟨css, h1.below hb, h2.below hb⟩
theorem ML.kept {w w' : World} {B : Nat} {v : Value} {xs : List MC} {e : TypeId} {u : Value} (h : ML w B v xs) (hg : w.grownBy w' u.ownBlock) (hb : BT w e u) (h1 : tN ≠ e) (h2 : tMc ≠ e) : ML w' B v xs := by
  obtain ⟨css, h3, h4⟩ := h
  exact ⟨css, h3.kept hg (h3.bt.ne hb h2), h4.kept hg hb h1⟩
/-- a list of such lists: read only -/
def Mls (w : World) (B : Nat) (us : List Value) (xss : List (List MC)) : Prop := us.length = xss.length ∧ ∀ (i : Nat) (u : Value) (x : List MC), us[i]? = some u → xss[i]? = some x → ML w B u x
section
variable {w w' : World} {B : Nat} {us : List Value} {xss : List (List MC)}
theorem Mls.nil (w : World) (B : Nat) : Mls w B [] [] := ⟨rfl, fun i c x h => by simp at h⟩
theorem Mls.below (h : Mls w B us xss) (hb : Below w.heap.size w w') : Mls w' B us xss := ⟨h.1, fun i c x hc hx => (h.2 i c x hc hx).below hb⟩
theorem Mls.kept {v : Value} {e : TypeId} (h : Mls w B us xss) (hg : w.grownBy w' v.ownBlock) (hb : BT w e v) (h1 : tN ≠ e) (h2 : tMc ≠ e) : Mls w' B us xss := ⟨h.1, fun i c x hc hx => (h.2 i c x hc hx).kept hg hb h1 h2⟩
theorem Mls.snoc {u : Value} {x : List MC} (h : Mls w B us xss) (hx : ML w B u x) : Mls w B (us ++ [u]) (xss ++ [x]) := by
  refine ⟨by simp [h.1], fun i c' x' hc hx' => ?_⟩
  by_cases hlt : i < us.length
  · rw [List.getElem?_append_left hlt] at hc
    rw [List.getElem?_append_left (by rw [← h.1]; exact hlt)] at hx'
    exact h.2 i c' x' hc hx'
  · have hkl := (List.getElem?_eq_some_iff.1 hc).1
    simp at hkl
    have hi : i = us.length := by omega
    rw [hi] at hc
    rw [hi, h.1] at hx'
    simp at hc hx'
    subst hc hx'
    exact hx
end
def T6n : List (List Nat) := allG treesN 6
theorem T6n_len : T6n.length = 37 := by decide +kernel
theorem T6n_split {t : List Nat} (h : t ∈ T6n) : ∃ r, splV 9 t = some r ∧ okLs r = true := by
  obtain ⟨n, hn, ht⟩ := List.mem_flatMap.1 h
  have h1 := List.all_eq_true.1 (List.all_eq_true.1 splV_6 n hn) t ht
  cases hs : splV 9 t with
  | none => rw [hs] at h1; cases h1
  | some r => rw [hs] at h1; exact ⟨r, rfl, h1⟩
/-- what newForms returns -/
def Frm (w : World) (B : Nat) (v : Value) : Prop := ∃ x y us, v = .agg #[x, y] ∧ LA w B x (T6n.map up) ∧ Own w B tMl y us ∧ Mls w B us (T6n.map (cutsI T6n))
end Go.Proofs.YtheldcjiogpbjaaGreat
set_option maxRecDepth 100000
set_option linter.unusedVariables false
set_option linter.unusedSimpArgs false
namespace Go.Proofs.YtheldcjiogpbjaaGreat
open Go.RowKit

/-- the number of nodes of the tree at a place -/
def szN (k : Nat) : Nat := (0 :: T6n.map List.length).getD k 0
theorem szN_zero : szN 0 = 0 := rfl
theorem szN_succ {i : Nat} {t : List Nat} (h : T6n[i]? = some t) : szN (i + 1) = t.length := by
  unfold szN
  simp [List.getD, h]
theorem szN_le (k : Nat) : szN k ≤ 6 := by
  have h : (0 :: T6n.map List.length).all (fun n => Nat.ble n 6) = true := by decide +kernel
  rw [List.all_eq_true] at h
  unfold szN
  rw [List.getD_eq_getElem?_getD]
  cases hk : (0 :: T6n.map List.length)[k]? with
  | none => simp
  | some n => exact Nat.le_of_ble_eq_true (h n (List.mem_of_getElem? hk))
theorem szN_pos {i : Nat} (h : i < 37) : 1 ≤ szN (i + 1) := by
  have ha : T6n.all (fun t => Nat.ble 1 t.length) = true := by decide +kernel
  rw [List.all_eq_true] at ha
  have ht : T6n[i]? = some (T6n[i]'(by rw [T6n_len]; exact h)) := List.getElem?_eq_getElem _
  rw [szN_succ ht]
  exact Nat.le_of_ble_eq_true (ha _ (List.mem_of_getElem? ht))
/-- what is known of the trees -/
def okT6 (t : List Nat) : Bool := lvl t && (Nat.ble 1 t.length && Nat.ble t.length 6 && t.all fun l => Nat.ble l 6)
theorem okT6_all : T6n.all okT6 = true := by decide +kernel
theorem T6n_at {t : List Nat} (h : t ∈ T6n) : lvl t = true ∧ 1 ≤ t.length ∧ t.length ≤ 6 ∧ ∀ l ∈ t, l ≤ 6 := by
  have h1 := okT6_all
  rw [List.all_eq_true] at h1
  have h2 := h1 t h
  unfold okT6 at h2
  simp only [Bool.and_eq_true, List.all_eq_true] at h2
  exact ⟨h2.1, Nat.le_of_ble_eq_true h2.2.1.1, Nat.le_of_ble_eq_true h2.2.1.2, fun l hl => Nat.le_of_ble_eq_true (h2.2.2 l hl)⟩

/-! ### densities -/
def denL (D : List Nat → Option Nat) : List (List Nat) → Nat → Option Nat
  | [], a => some a
  | b :: bs, a => match D b with
    | none => none
    | some d => bif Nat.ble (a * d) 1000000 then denL D bs (a * d) else none
def denO : Nat → List Nat → Option Nat
  | 0, _ => none
  | f + 1, t => match brO t with
    | none => none
    | some bs => denL (denO f) bs t.length
theorem denL_cons {D : List Nat → Option Nat} {b : List Nat} {bs : List (List Nat)} {a r : Nat} (h : denL D (b :: bs) a = some r) : ∃ d, D b = some d ∧ a * d ≤ 1000000 ∧ denL D bs (a * d) = some r := by
  rw [denL] at h
  cases h1 : D b with
  | none => rw [h1] at h; cases h
  | some d =>
    rw [h1] at h
    simp only at h
    cases h2 : Nat.ble (a * d) 1000000 with
    | false => rw [h2] at h; cases h
    | true => rw [h2] at h; exact ⟨d, rfl, Nat.le_of_ble_eq_true h2, h⟩
theorem denO_succ {f : Nat} {t : List Nat} {r : Nat} (h : denO (f + 1) t = some r) : ∃ bs, brO t = some bs ∧ denL (denO f) bs t.length = some r := by
  rw [denO] at h
  cases h1 : brO t with
  | none => rw [h1] at h; cases h
  | some bs => rw [h1] at h; exact ⟨bs, rfl, h⟩
theorem denL_le {D : List Nat → Option Nat} : ∀ {bs : List (List Nat)} {a r : Nat}, denL D bs a = some r → a ≤ 1000000 → r ≤ 1000000
  | [], a, r, h, ha => by rw [denL] at h; injection h with h; omega
  | b :: bs, a, r, h, ha => by
    obtain ⟨d, -, h1, h2⟩ := denL_cons h
    exact denL_le h2 h1
theorem denO_le {f : Nat} {t : List Nat} {r : Nat} (h : denO f t = some r) (ht : t.length ≤ 1000000) : r ≤ 1000000 := by
  cases f with
  | zero => cases h
  | succ f =>
    obtain ⟨bs, -, h2⟩ := denO_succ h
    exact denL_le h2 ht

/-! ### the exact map -/
def exV (t : List Nat) : Nat := match denO 9 t with
  | some d => d ^ 10005 % 10007
  | none => 0
def exN : List Nat := 1 :: T6n.map exV
def EX : List Int := up exN
theorem EX_len : EX.length = 38 := by
  unfold EX exN
  rw [up_len, List.length_cons, List.length_map, T6n_len]
def denB (t : List Nat) : Bool := match denO 9 t with
  | some d => Nat.ble 1 d && Nat.ble d 720 && Nat.beq (d * exV t % 10007) 1
  | none => false
theorem denB_all : T6n.all denB = true := by decide +kernel
theorem T6n_den {t : List Nat} (h : t ∈ T6n) : ∃ d, denO 9 t = some d ∧ 1 ≤ d ∧ d ≤ 720 ∧ d * exV t % 10007 = 1 ∧ exV t = d ^ 10005 % 10007 := by
  have h1 := denB_all
  rw [List.all_eq_true] at h1
  have h2 := h1 t h
  unfold denB at h2
  cases hd : denO 9 t with
  | none => rw [hd] at h2; cases h2
  | some d =>
    rw [hd] at h2
    simp only [Bool.and_eq_true] at h2
    refine ⟨d, rfl, Nat.le_of_ble_eq_true h2.1.1, Nat.le_of_ble_eq_true h2.1.2, Nat.eq_of_beq_eq_true h2.2, ?_⟩
    unfold exV
    rw [hd]
theorem pw_nat (d k : Nat) : pw (d : Int) k = ((d ^ k % 10007 : Nat) : Int) := by
  unfold pw
  rw [Int.natCast_emod, Int.natCast_pow]
  rfl
theorem exV_pw {t : List Nat} {d : Nat} (h : denO 9 t = some d) : pw (d : Int) 10005 = (exV t : Nat) := by
  rw [pw_nat]
  unfold exV
  rw [h]
theorem exV_le (t : List Nat) : exV t ≤ 10006 := by
  unfold exV
  cases denO 9 t with
  | none => simp
  | some d => have := Nat.mod_lt (d ^ 10005) (show 10007 > 0 by omega); simp only; omega
theorem EX_nums : ∀ z ∈ EX, 0 ≤ z ∧ z ≤ 10006 := by
  intro z hz
  unfold EX up exN at hz
  obtain ⟨n, hn, rfl⟩ := List.mem_map.1 hz
  rcases List.mem_cons.1 hn with rfl | hn
  · omega
  · obtain ⟨t, -, rfl⟩ := List.mem_map.1 hn
    have := exV_le t
    omega
theorem EX_zero : EX[0]? = some 1 := rfl
theorem EX_succ {i : Nat} {t : List Nat} (h : T6n[i]? = some t) : EX[i + 1]? = some ((exV t : Nat) : Int) := by
  unfold EX exN
  simp [up, h]

/-! ### agreement -/
def agZ (a b : List Int) : Int := match (List.range 38).find? (fun k => a.getD k 0 != b.getD k 0) with
  | some k => (szN k : Int) - 1
  | none => 6
theorem agZ_hit {a b : List Int} {k : Nat} (h : ∀ i, i < k → a.getD i 0 = b.getD i 0) (hk : k < 38) (hne : a.getD k 0 ≠ b.getD k 0) : agZ a b = (szN k : Int) - 1 := by
  have : (List.range 38).find? (fun k => a.getD k 0 != b.getD k 0) = some k := by
    rw [List.find?_range_eq_some]
    refine ⟨by simpa using hne, by simpa using hk, fun j hj => by simpa using h j hj⟩
  unfold agZ
  rw [this]
theorem agZ_miss {a b : List Int} (h : ∀ i, i < 38 → a.getD i 0 = b.getD i 0) : agZ a b = 6 := by
  have : (List.range 38).find? (fun k => a.getD k 0 != b.getD k 0) = none := by
    rw [List.find?_range_eq_none]
    intro j hj
    simpa using h j hj
  unfold agZ
  rw [this]
theorem agZ_bd (a b : List Int) : -1 ≤ agZ a b ∧ agZ a b ≤ 6 := by
  unfold agZ
  cases h : (List.range 38).find? (fun k => a.getD k 0 != b.getD k 0) with
  | none => simp
  | some k => have := szN_le k; simp only; omega
/-- a character agrees with the exact map at the empty tree at least -/
theorem agZ_nonneg {a b : List Int} (h : a.getD 0 0 = b.getD 0 0) : 0 ≤ agZ a b := by
  unfold agZ
  cases hf : (List.range 38).find? (fun k => a.getD k 0 != b.getD k 0) with
  | none => simp
  | some k =>
    rw [List.find?_range_eq_some] at hf
    obtain ⟨h1, h2, -⟩ := hf
    simp only
    cases k with
    | zero => simp only [bne_iff_ne, ne_eq] at h1; exact absurd h h1
    | succ k =>
      have h2' : k + 1 < 38 := by simpa using h2
      have := szN_pos (i := k) (by omega)
      omega
/-- a map is cut down to some numbers of nodes -/
def kpZ (p : Nat → Bool) (a : List Int) : List Int := (List.range 38).map fun k => if p (szN k) then a.getD k 0 else 0
def kpT (p : Nat → Bool) (a : List Int) (j : Nat) : List Int := (List.range 38).map fun k => if k < j ∧ p (szN k) = true then a.getD k 0 else 0
theorem kpT_zero (p : Nat → Bool) (a : List Int) : kpT p a 0 = List.replicate 38 0 := by
  apply List.ext_getElem
  · simp [kpT]
  · intro i h1 h2
    rw [List.getElem_replicate]
    simp [kpT]
theorem kpT_full (p : Nat → Bool) (a : List Int) : kpT p a 38 = kpZ p a := by
  apply List.ext_getElem
  · simp [kpT, kpZ]
  · intro i h1 h2
    have : i < 38 := by simpa [kpT] using h1
    simp [kpT, kpZ, this]
theorem kpT_skip {p : Nat → Bool} {a : List Int} {j : Nat} (h : p (szN j) = false) : kpT p a (j + 1) = kpT p a j := by
  apply List.ext_getElem
  · simp [kpT]
  · intro i h1 h2
    simp only [kpT, List.getElem_map, List.getElem_range]
    by_cases e : i = j
    · subst e; simp [h]
    · have : (i < j + 1) ↔ (i < j) := by omega
      simp [this]
theorem kpT_take {p : Nat → Bool} {a : List Int} {j : Nat} (h : p (szN j) = true) : kpT p a (j + 1) = (kpT p a j).set j (a.getD j 0) := by
  apply List.ext_getElem
  · simp [kpT]
  · intro i h1 h2
    rw [List.getElem_set]
    simp only [kpT, List.getElem_map, List.getElem_range]
    by_cases e : i = j
    · subst e; simp [h]
    · have : (i < j + 1) ↔ (i < j) := by omega
      have e' : ¬ j = i := fun x => e x.symm
      simp [this, e']
theorem kpT_len (p : Nat → Bool) (a : List Int) (j : Nat) : (kpT p a j).length = 38 := by simp [kpT]
theorem kpZ_len (p : Nat → Bool) (a : List Int) : (kpZ p a).length = 38 := by simp [kpZ]
end Go.Proofs.YtheldcjiogpbjaaGreat
set_option maxRecDepth 100000
set_option linter.unusedVariables false
set_option linter.unusedSimpArgs false
namespace Go.Proofs.YtheldcjiogpbjaaGreat
open Go.RowKit

/-- the neighbours' lists of u with v grafted at its root -/
def grNear (u v : List Nat) : List (List Nat) :=
  ((nearN u).set 0 ((nearN u).getD 0 [] ++ [u.length])) ++ ((nearN v).zipIdx.map fun (os, k) => os.map (fun o => u.length + o) ++ (if k = 0 then [0] else []))
def gIdx (u v : List Nat) : Nat := match canO 9 (graL u 0 v) with
  | some r => fndN T6n r
  | none => 0
def gOk (u v : List Nat) : Bool := bif Nat.ble (u.length + v.length) 6 then (match canO 9 (graL u 0 v), tfO 9 (grNear u v) 0 0 with
    | some r, some s => eqN r s && (Nat.beq (idxN T6n r) (fndN T6n r) && (Nat.ble 1 (fndN T6n r) && (Nat.ble (fndN T6n r) 37 && Nat.ble r.length 6)))
    | _, _ => false)
  else true
theorem gOk_all : T6n.all (fun u => T6n.all (gOk u)) = true := by decide +kernel
theorem gOk_at {u v : List Nat} (hu : u ∈ T6n) (hv : v ∈ T6n) (hs : u.length + v.length ≤ 6) : ∃ r, canO 9 (graL u 0 v) = some r ∧ tfO 9 (grNear u v) 0 0 = some r ∧ idxN T6n r = gIdx u v ∧ fndN T6n r = gIdx u v ∧ 1 ≤ gIdx u v ∧ gIdx u v ≤ 37 ∧ r.length ≤ 6 := by
  have h := gOk_all
  rw [List.all_eq_true] at h
  have h1 := h u hu
  rw [List.all_eq_true] at h1
  have h2 := h1 v hv
  unfold gOk at h2
  have hb : Nat.ble (u.length + v.length) 6 = true := Nat.ble_eq_true_of_le hs
  rw [hb, cond_true] at h2
  cases hc : canO 9 (graL u 0 v) with
  | none => rw [hc] at h2; cases h2
  | some r =>
    cases ht : tfO 9 (grNear u v) 0 0 with
    | none => rw [hc, ht] at h2; cases h2
    | some s =>
      rw [hc, ht] at h2
      simp only [Bool.and_eq_true] at h2
      have e := eqN_iff.1 h2.1
      subst e
      have hg : gIdx u v = fndN T6n r := by unfold gIdx; rw [hc]
      rw [hg]
      exact ⟨r, rfl, rfl, Nat.eq_of_beq_eq_true h2.2.1, rfl, Nat.le_of_ble_eq_true h2.2.2.1, Nat.le_of_ble_eq_true h2.2.2.2.1, Nat.le_of_ble_eq_true h2.2.2.2.2⟩

/-- the tree at an index -/
def tr (i : Nat) : List Nat := T6n.getD i []
theorem tr_at {i : Nat} {t : List Nat} (h : T6n[i]? = some t) : tr i = t := by unfold tr; rw [List.getD_eq_getElem?_getD, h]; rfl
theorem tr_get {i : Nat} (h : i < 37) : T6n[i]? = some (tr i) := by
  have ht : T6n[i]? = some (T6n[i]'(by rw [T6n_len]; exact h)) := List.getElem?_eq_getElem _
  rw [tr_at ht]; exact ht
theorem tr_mem {i : Nat} (h : i < 37) : tr i ∈ T6n := List.mem_of_getElem? (tr_get h)
/-- the condition at two trees -/
def prB (a : List Int) (c : Int) (i k : Nat) : Prop := (a.getD (gIdx (tr i) (tr k)) 0 + a.getD (gIdx (tr k) (tr i)) 0) % 10007 = c * (a.getD (i + 1) 0 * a.getD (k + 1) 0 % 10007) % 10007
instance (a : List Int) (c : Int) (i k : Nat) : Decidable (prB a c i k) := inferInstanceAs (Decidable (_ = _))
theorem prB_symm {a : List Int} {c : Int} {i k : Nat} (h : prB a c i k) : prB a c k i := by
  unfold prB at *
  rw [Int.add_comm, Int.mul_comm (a.getD (k + 1) 0)]
  exact h
/-- what r tells -/
structure ToR (a : List Int) (c : Int) (r : Nat) : Prop where
  le : r ≤ 6
  all : ∀ i k, i < 37 → k < 37 → (tr i).length + (tr k).length ≤ r → prB a c i k
  hit : r = 6 ∨ ∃ i k, i < 37 ∧ k < 37 ∧ (tr i).length + (tr k).length = r + 1 ∧ ¬ prB a c i k
theorem ToR.unique {a : List Int} {c : Int} {r s : Nat} (h : ToR a c r) (g : ToR a c s) : r = s := by
  rcases Nat.lt_trichotomy r s with hl | he | hl
  · rcases h.hit with h1 | ⟨i, k, hi, hk, hn, hp⟩
    · have := g.le; omega
    · exact absurd (g.all i k hi hk (by omega)) hp
  · exact he
  · rcases g.hit with h1 | ⟨i, k, hi, hk, hn, hp⟩
    · have := h.le; omega
    · exact absurd (h.all i k hi hk (by omega)) hp
/-- on the way through the pairs with k up to i, row by row: those ahead of (i, k) are done -/
structure ToM (a : List Int) (c : Int) (i k m : Nat) : Prop where
  le : m ≤ 6
  all : ∀ i' k', i' < 37 → k' ≤ i' → (i' < i ∨ (i' = i ∧ k' < k)) → (tr i').length + (tr k').length ≤ m → prB a c i' k'
  hit : m = 6 ∨ ∃ i k, i < 37 ∧ k < 37 ∧ (tr i).length + (tr k).length = m + 1 ∧ ¬ prB a c i k
theorem ToM.start (a : List Int) (c : Int) : ToM a c 0 0 6 := ⟨Nat.le_refl _, fun i' k' _ _ h _ => by omega, .inl rfl⟩
theorem ToM.skip {a : List Int} {c : Int} {i k m : Nat} (h : ToM a c i k m) (hn : m < (tr i).length + (tr k).length) : ToM a c i (k + 1) m := by
  refine ⟨h.le, fun i' k' hi hk hd hm => ?_, h.hit⟩
  by_cases e : i' = i ∧ k' = k
  · obtain ⟨rfl, rfl⟩ := e; omega
  · exact h.all i' k' hi hk (by omega) hm
theorem ToM.good {a : List Int} {c : Int} {i k m : Nat} (h : ToM a c i k m) (hp : prB a c i k) : ToM a c i (k + 1) m := by
  refine ⟨h.le, fun i' k' hi hk hd hm => ?_, h.hit⟩
  by_cases e : i' = i ∧ k' = k
  · obtain ⟨rfl, rfl⟩ := e; exact hp
  · exact h.all i' k' hi hk (by omega) hm
theorem ToM.bad {a : List Int} {c : Int} {i k m : Nat} (h : ToM a c i k m) (hi : i < 37) (hk : k < 37) (hn : (tr i).length + (tr k).length ≤ m) (h1 : 1 ≤ (tr i).length + (tr k).length) (hp : ¬ prB a c i k) : ToM a c i (k + 1) ((tr i).length + (tr k).length - 1) := by
  have := h.le
  refine ⟨by omega, fun i' k' hi' hk' hd hm => ?_, .inr ⟨i, k, hi, hk, by omega, hp⟩⟩
  by_cases e : i' = i ∧ k' = k
  · obtain ⟨rfl, rfl⟩ := e; omega
  · exact h.all i' k' hi' hk' (by omega) (by omega)
theorem ToM.row {a : List Int} {c : Int} {i m : Nat} (h : ToM a c i (i + 1) m) : ToM a c (i + 1) 0 m :=
  ⟨h.le, fun i' k' hi hk hd hm => h.all i' k' hi hk (by omega) hm, h.hit⟩
theorem ToM.fin {a : List Int} {c : Int} {m : Nat} (h : ToM a c 37 0 m) : ToR a c m := by
  refine ⟨h.le, fun i k hi hk hm => ?_, h.hit⟩
  by_cases hki : k ≤ i
  · exact h.all i k hi hki (by omega) hm
  · exact prB_symm (h.all k i hk (by omega) (by omega) (by omega))
/-- on the way of the reference: all pairs with fewer than n nodes, and those with n nodes ahead of (i, k) -/
structure ToS (a : List Int) (c : Int) (n i k : Nat) : Prop where
  low : ∀ i' k', i' < 37 → k' < 37 → (tr i').length + (tr k').length < n → prB a c i' k'
  all : ∀ i' k', i' < 37 → k' < 37 → (i' < i ∨ (i' = i ∧ k' < k)) → (tr i').length + (tr k').length = n → prB a c i' k'
theorem tr_pos {i : Nat} (h : i < 37) : 1 ≤ (tr i).length := (T6n_at (tr_mem h)).2.1
theorem ToS.start (a : List Int) (c : Int) : ToS a c 2 0 0 :=
  ⟨fun i k hi hk h => by have := tr_pos hi; have := tr_pos hk; omega, fun i' k' _ _ h _ => by omega⟩
theorem ToS.skip {a : List Int} {c : Int} {n i k : Nat} (h : ToS a c n i k) (hn : (tr i).length + (tr k).length ≠ n) : ToS a c n i (k + 1) := by
  refine ⟨h.low, fun i' k' hi hk hd hm => ?_⟩
  by_cases e : i' = i ∧ k' = k
  · obtain ⟨rfl, rfl⟩ := e; exact absurd hm hn
  · exact h.all i' k' hi hk (by omega) hm
theorem ToS.good {a : List Int} {c : Int} {n i k : Nat} (h : ToS a c n i k) (hp : prB a c i k) : ToS a c n i (k + 1) := by
  refine ⟨h.low, fun i' k' hi hk hd hm => ?_⟩
  by_cases e : i' = i ∧ k' = k
  · obtain ⟨rfl, rfl⟩ := e; exact hp
  · exact h.all i' k' hi hk (by omega) hm
theorem ToS.row {a : List Int} {c : Int} {n i : Nat} (h : ToS a c n i 37) : ToS a c n (i + 1) 0 :=
  ⟨h.low, fun i' k' hi hk hd hm => h.all i' k' hi hk (by omega) hm⟩
theorem ToS.next {a : List Int} {c : Int} {n : Nat} (h : ToS a c n 37 0) : ToS a c (n + 1) 0 0 := by
  refine ⟨fun i k hi hk hm => ?_, fun i' k' _ _ h _ => by omega⟩
  by_cases e : (tr i).length + (tr k).length = n
  · exact h.all i k hi hk (.inl hi) e
  · exact h.low i k hi hk (by omega)
theorem ToS.bad {a : List Int} {c : Int} {n i k : Nat} (h : ToS a c n i k) (hi : i < 37) (hk : k < 37) (h1 : 1 ≤ n) (h6 : n ≤ 6) (hn : (tr i).length + (tr k).length = n) (hp : ¬ prB a c i k) : ToR a c (n - 1) :=
  ⟨by omega, fun i' k' hi' hk' hm => h.low i' k' hi' hk' (by omega), .inr ⟨i, k, hi, hk, by omega, hp⟩⟩
theorem ToS.fin {a : List Int} {c : Int} (h : ToS a c 7 0 0) : ToR a c 6 :=
  ⟨Nat.le_refl _, fun i k hi hk hm => h.low i k hi hk (by omega), .inl rfl⟩
end Go.Proofs.YtheldcjiogpbjaaGreat
set_option maxRecDepth 100000
set_option linter.unusedVariables false
set_option linter.unusedSimpArgs false
namespace Go.Proofs.YtheldcjiogpbjaaGreat
open Go.RowKit

/-- the nearest place ahead of one whose level is one less -/
def parV (t : List Nat) (a : Nat) : Nat → Option Nat
  | 0 => none
  | k + 1 => bif Nat.beq (t.getD k 0 + 1) a then some k else parV t a k
/-- the branch at a node -/
def braL (t : List Nat) (node : Nat) : List Nat := (t.take (endN t node)).drop node
def allLe (b : Nat) : List Nat → Bool
  | [] => true
  | l :: ls => bif Nat.ble l b then allLe b ls else false
def allGe (b : Nat) : List Nat → Bool
  | [] => true
  | l :: ls => bif Nat.ble b l then allGe b ls else false
theorem allLe_of {b : Nat} : ∀ {ls : List Nat}, allLe b ls = true → ∀ l ∈ ls, l ≤ b
  | [], _, _, hl => absurd hl (by simp)
  | x :: xs, h, l, hl => by
      rw [allLe] at h
      cases hx : Nat.ble x b with
      | false => rw [hx] at h; cases h
      | true =>
        rw [hx] at h
        rcases List.mem_cons.1 hl with rfl | hl
        · exact Nat.le_of_ble_eq_true hx
        · exact allLe_of h l hl
theorem allGe_of {b : Nat} : ∀ {ls : List Nat}, allGe b ls = true → ∀ l ∈ ls, b ≤ l
  | [], _, _, hl => absurd hl (by simp)
  | x :: xs, h, l, hl => by
      rw [allGe] at h
      cases hx : Nat.ble b x with
      | false => rw [hx] at h; cases h
      | true =>
        rw [hx] at h
        rcases List.mem_cons.1 hl with rfl | hl
        · exact Nat.le_of_ble_eq_true hx
        · exact allGe_of h l hl
def okL (t : List Nat) : Bool := bif Nat.ble t.length 100 then allLe 1000 t else false
theorem okL_of {t : List Nat} (h : okL t = true) : t.length ≤ 100 ∧ ∀ l ∈ t, l ≤ 1000 := by
  unfold okL at h
  cases hx : Nat.ble t.length 100 with
  | false => rw [hx] at h; cases h
  | true => rw [hx] at h; exact ⟨Nat.le_of_ble_eq_true hx, allLe_of h⟩
/-- the tree rerooted, with every premise of the walk -/
def turV : Nat → List Nat → Nat → Option (List Nat)
  | 0, _, _ => none
  | f + 1, t, 0 => bif okL t then canO 9 t else none
  | f + 1, t, node + 1 => bif okL t && Nat.blt (node + 1) t.length && allGe (t.getD (node + 1) 0) (braL t (node + 1)) then
      match parV t (t.getD (node + 1) 0) (node + 1) with
      | none => none
      | some p => match turV f (t.take (node + 1) ++ t.drop (endN t (node + 1))) p with
        | none => none
        | some r => bif okL r then canO 9 (graL ((braL t (node + 1)).map fun x => x - t.getD (node + 1) 0) 0 r) else none
    else none
theorem parV_lt {t : List Nat} {a : Nat} : ∀ {k p : Nat}, parV t a k = some p → p < k
  | 0, _, h => by cases h
  | k + 1, p, h => by
      rw [parV] at h
      cases hx : Nat.beq (t.getD k 0 + 1) a with
      | true => rw [hx] at h; cases h; omega
      | false => rw [hx] at h; have := parV_lt h; omega
theorem turV_succ {f : Nat} {t : List Nat} {node : Nat} {r : List Nat} (h : turV (f + 1) t (node + 1) = some r) :
    okL t = true ∧ node + 1 < t.length ∧ allGe (t.getD (node + 1) 0) (braL t (node + 1)) = true ∧
    ∃ p q, parV t (t.getD (node + 1) 0) (node + 1) = some p ∧ turV f (t.take (node + 1) ++ t.drop (endN t (node + 1))) p = some q ∧ okL q = true ∧
      canO 9 (graL ((braL t (node + 1)).map fun x => x - t.getD (node + 1) 0) 0 q) = some r := by
  rw [turV] at h
  cases h1 : okL t with
  | false => rw [h1] at h; cases h
  | true =>
    cases h2 : Nat.blt (node + 1) t.length with
    | false => rw [h1, h2] at h; cases h
    | true =>
      cases h3 : allGe (t.getD (node + 1) 0) (braL t (node + 1)) with
      | false => rw [h1, h2, h3] at h; cases h
      | true =>
        rw [h1, h2, h3] at h
        cases h4 : parV t (t.getD (node + 1) 0) (node + 1) with
        | none => rw [h4] at h; cases h
        | some p =>
          rw [h4] at h
          simp only [Bool.and_self, cond_true] at h
          cases h5 : turV f (t.take (node + 1) ++ t.drop (endN t (node + 1))) p with
          | none => rw [h5] at h; cases h
          | some q =>
            rw [h5] at h
            simp only at h
            cases h6 : okL q with
            | false => rw [h6] at h; cases h
            | true => rw [h6] at h; exact ⟨rfl, (blt_iff _ _).1 h2, rfl, p, q, rfl, h5, h6, h⟩
end Go.Proofs.YtheldcjiogpbjaaGreat
set_option linter.unusedVariables false
set_option linter.unusedSimpArgs false
set_option maxRecDepth 100000
namespace Go.Proofs.YtheldcjiogpbjaaGreat

abbrev CT := List Nat × Nat
/-- the place of a tree in a sum -/
def putA (t : List Nat) : List CT → Nat
  | [] => 0
  | x :: xs => bif befN x.1 t then putA t xs + 1 else 0
/-- what the round at place i adds -/
def putS (at_ : Nat) (t : List Nat) (i : Nat) (x : CT) : List CT := (bif Nat.beq i at_ && !eqN x.1 t then [(t, 1)] else []) ++ [(x.1, bif eqN x.1 t then x.2 + 1 else x.2)]
def putF (at_ : Nat) (t : List Nat) : Nat → List CT → List CT
  | _, [] => []
  | i, x :: xs => putS at_ t i x ++ putF at_ t (i + 1) xs
def putL (xs : List CT) (t : List Nat) : List CT := putF (putA t xs) t 0 xs ++ (bif Nat.beq (putA t xs) xs.length then [(t, 1)] else [])
def okC : List CT → Bool
  | [] => true
  | x :: xs => okL x.1 && Nat.ble x.2 100 && okC xs
/-- the sum of the trees that a tree is rerooted to at the nodes before n -/
def rooV (t : List Nat) : Nat → Option (List CT)
  | 0 => some []
  | n + 1 => match rooV t n with
    | none => none
    | some xs => match turV 9 t n with
      | none => none
      | some q => bif okC xs && Nat.ble xs.length 100 && okL q then some (putL xs q) else none
/-- what is left when a tree is cut above a node -/
def trkL (t : List Nat) (node : Nat) : List Nat := t.take node ++ t.drop (endN t node)
def braM (t : List Nat) (node : Nat) : List Nat := (braL t node).map fun x => x - t.getD node 0
/-- is the edge above a node one between halves that are equal? -/
def dblA (t : List Nat) (node : Nat) : Option Bool := bif okL t && Nat.blt node t.length && allGe (t.getD node 0) (braL t node) then
    match canO 9 (trkL t node), canO 9 (braM t node), parV t (t.getD node 0) node with
    | some a, some b, some p => bif Nat.beq a.length b.length then
        match turV 9 (trkL t node) p with
        | some q => bif okL q && okL b then some (eqN q b) else none
        | none => none
      else some false
    | _, _, _ => none
  else none
/-- the answer from a node on, with so much fuel -/
def dblV (t : List Nat) : Nat → Nat → Option Bool
  | 0, _ => some false
  | f + 1, node => match dblA t node with
    | none => none
    | some true => some true
    | some false => dblV t f (node + 1)
def headC : Option (List CT) → Option (List Nat)
  | some ((t, _) :: _) => some t
  | _ => none
def eqB : Option Bool → Bool → Bool
  | some true, true => true
  | some false, false => true
  | _, _ => false
/-- the reference's sums and the program's agree at a tree -/
def okRo (t : List Nat) : Bool := eqO (headC (rooV t t.length)) (freeO t) && eqB (dblV t (t.length - 1) 1) (supB t)
theorem okRo_8 : (List.range 8).all (fun n => (treesN (n + 1)).all okRo) = true := by decide +kernel
theorem okRo_at {n : Nat} (h1 : 1 ≤ n) (h8 : n ≤ 8) {t : List Nat} (ht : t ∈ treesN n) : ∃ r k xs, rooV t t.length = some ((r, k) :: xs) ∧ freeO t = some r ∧ dblV t (t.length - 1) 1 = some (supB t) := by
  have h := okRo_8
  rw [List.all_eq_true] at h
  have h2 := h (n - 1) (List.mem_range.2 (by omega))
  rw [show n - 1 + 1 = n by omega, List.all_eq_true] at h2
  have h3 := h2 t ht
  rw [okRo, Bool.and_eq_true] at h3
  obtain ⟨h4, h5⟩ := h3
  have h6 : dblV t (t.length - 1) 1 = some (supB t) := by
    cases hd : dblV t (t.length - 1) 1 with
    | none => rw [hd] at h5; cases h5
    | some b =>
      rw [hd] at h5
      cases hs : supB t <;> rw [hs] at h5 <;> cases b <;> first | rfl | cases h5
  cases hr : rooV t t.length with
  | none => rw [hr] at h4; cases h4
  | some ys =>
    rw [hr] at h4
    cases ys with
    | nil => cases h4
    | cons y ys =>
      cases hf : freeO t with
      | none => rw [hf] at h4; cases h4
      | some q =>
        rw [hf] at h4
        have := eqN_iff.1 (show eqN y.1 q = true from h4)
        exact ⟨y.1, y.2, ys, rfl, by rw [this], h6⟩

theorem putF_snoc (at_ : Nat) (t : List Nat) : ∀ (xs : List CT) (x : CT) (i : Nat), putF at_ t i (xs ++ [x]) = putF at_ t i xs ++ putS at_ t (i + xs.length) x
  | [], x, i => by simp [putF]
  | y :: ys, x, i => by
    rw [List.cons_append, putF, putF, putF_snoc at_ t ys x (i + 1), List.append_assoc, List.length_cons, Nat.add_assoc i 1, Nat.add_comm 1]
theorem putA_le (t : List Nat) : ∀ xs : List CT, putA t xs ≤ xs.length
  | [] => Nat.le_refl _
  | x :: xs => by
    rw [putA]
    cases befN x.1 t with
    | true => simpa using putA_le t xs
    | false => simp
theorem putA_bef {t : List Nat} : ∀ {xs : List CT} {k : Nat} {x : CT}, k < putA t xs → xs[k]? = some x → befN x.1 t = true
  | [], k, x, h, hx => by simp at hx
  | y :: ys, 0, x, h, hx => by
    simp at hx; subst hx
    rw [putA] at h
    cases hb : befN y.1 t with
    | true => rfl
    | false => rw [hb] at h; simp at h
  | y :: ys, k + 1, x, h, hx => by
    rw [putA] at h
    cases hb : befN y.1 t with
    | true => rw [hb] at h; simp at h; exact putA_bef (by omega) (by simpa using hx)
    | false => rw [hb] at h; simp at h
theorem putA_at {t : List Nat} : ∀ {xs : List CT} {x : CT}, xs[putA t xs]? = some x → befN x.1 t = false
  | [], x, hx => by simp at hx
  | y :: ys, x, hx => by
    rw [putA] at hx
    cases hb : befN y.1 t with
    | true => rw [hb] at hx; exact putA_at (xs := ys) (by simpa using hx)
    | false => rw [hb] at hx; simp at hx; subst hx; exact hb
theorem putF_len (at_ : Nat) (t : List Nat) : ∀ (xs : List CT) (i : Nat), (putF at_ t i xs).length ≤ 2 * xs.length
  | [], i => by simp [putF]
  | x :: xs, i => by
    rw [putF, List.length_append, putS, List.length_append, List.length_cons]
    have := putF_len at_ t xs (i + 1)
    cases (Nat.beq i at_ && !eqN x.1 t) <;> simp <;> omega
theorem okC_of : ∀ {xs : List CT}, okC xs = true → ∀ x ∈ xs, (x.1.length ≤ 100 ∧ ∀ l ∈ x.1, l ≤ 1000) ∧ x.2 ≤ 100
  | [], _, x, hx => absurd hx (by simp)
  | y :: ys, h, x, hx => by
    rw [okC, Bool.and_eq_true, Bool.and_eq_true] at h
    rcases List.mem_cons.1 hx with rfl | hx
    · exact ⟨okL_of h.1.1, Nat.le_of_ble_eq_true h.1.2⟩
    · exact okC_of h.2 x hx
theorem rooV_succ {t : List Nat} {n : Nat} {ys : List CT} (h : rooV t (n + 1) = some ys) : ∃ xs q, rooV t n = some xs ∧ turV 9 t n = some q ∧ okC xs = true ∧ xs.length ≤ 100 ∧ okL q = true ∧ ys = putL xs q := by
  rw [rooV] at h
  cases h1 : rooV t n with
  | none => rw [h1] at h; cases h
  | some xs =>
    rw [h1] at h
    simp only at h
    cases h2 : turV 9 t n with
    | none => rw [h2] at h; cases h
    | some q =>
      rw [h2] at h
      simp only at h
      cases h3 : okC xs with
      | false => rw [h3] at h; cases h
      | true =>
        cases h4 : Nat.ble xs.length 100 with
        | false => rw [h3, h4] at h; cases h
        | true =>
          cases h5 : okL q with
          | false => rw [h3, h4, h5] at h; cases h
          | true =>
            rw [h3, h4, h5] at h
            injection h with h
            exact ⟨xs, q, rfl, rfl, h3, Nat.le_of_ble_eq_true h4, h5, h.symm⟩
theorem rooV_some {t : List Nat} : ∀ {m n : Nat} {ys : List CT}, rooV t (n + m) = some ys → ∃ xs, rooV t n = some xs
  | 0, n, ys, h => ⟨ys, h⟩
  | m + 1, n, ys, h => by
    obtain ⟨xs, q, h1, -⟩ := rooV_succ (n := n + m) h
    exact rooV_some h1
/-- what the answer of l04Double at a node rests on -/
theorem dblA_some {t : List Nat} {node : Nat} {b : Bool} (h : dblA t node = some b) : okL t = true ∧ node < t.length ∧ allGe (t.getD node 0) (braL t node) = true ∧
    ∃ u v p, canO 9 (trkL t node) = some u ∧ canO 9 (braM t node) = some v ∧ parV t (t.getD node 0) node = some p ∧
      ((u.length ≠ v.length ∧ b = false) ∨ (u.length = v.length ∧ ∃ q, turV 9 (trkL t node) p = some q ∧ okL q = true ∧ okL v = true ∧ b = eqN q v)) := by
  unfold dblA at h
  cases h1 : okL t with
  | false => rw [h1] at h; cases h
  | true =>
    cases h2 : Nat.blt node t.length with
    | false => rw [h1, h2] at h; cases h
    | true =>
      cases h3 : allGe (t.getD node 0) (braL t node) with
      | false => rw [h1, h2, h3] at h; cases h
      | true =>
        rw [h1, h2, h3] at h
        simp only [Bool.and_self, cond_true] at h
        refine ⟨rfl, (blt_iff _ _).1 h2, rfl, ?_⟩
        cases h4 : canO 9 (trkL t node) with
        | none => rw [h4] at h; cases h
        | some u =>
          rw [h4] at h
          cases h5 : canO 9 (braM t node) with
          | none => rw [h5] at h; cases h
          | some v =>
            rw [h5] at h
            cases h6 : parV t (t.getD node 0) node with
            | none => rw [h6] at h; cases h
            | some p =>
              rw [h6] at h
              simp only at h
              refine ⟨u, v, p, rfl, rfl, rfl, ?_⟩
              cases h7 : Nat.beq u.length v.length with
              | false =>
                rw [h7] at h
                injection h with h
                exact .inl ⟨Nat.ne_of_beq_eq_false h7, h.symm⟩
              | true =>
                rw [h7] at h
                simp only [cond_true] at h
                refine .inr ⟨Nat.eq_of_beq_eq_true h7, ?_⟩
                cases h8 : turV 9 (trkL t node) p with
                | none => rw [h8] at h; cases h
                | some q =>
                  rw [h8] at h
                  simp only at h
                  cases h9 : okL q with
                  | false => rw [h9] at h; cases h
                  | true =>
                    cases h10 : okL v with
                    | false => rw [h9, h10] at h; cases h
                    | true =>
                      rw [h9, h10] at h
                      injection h with h
                      exact ⟨q, rfl, h9, rfl, h.symm⟩
end Go.Proofs.YtheldcjiogpbjaaGreat
set_option maxRecDepth 100000
set_option linter.unusedVariables false
set_option linter.unusedSimpArgs false
namespace Go.Proofs.YtheldcjiogpbjaaGreat
open Go.RowKit

abbrev tC : TypeId := 113
theorem T_cnt : ElemK Tryz.prog 114 113 (.agg #[.slice none 0 0, .int .i64 0]) 2 32 := ⟨Tryz.underlying114, by kernel_rfl, rfl, by omega, by omega⟩

theorem keepCell {w w' : World} {ad : Addr} {v : Value} (hb : Below w.heap.size w w') (h : w.cell? ad = some v) : w'.cell? ad = some v := by rw [hb.cell (World.block_lt_of_cell? w _ h)]; exact h
/-- the cells of a sum: trees in blocks from B on, and counts -/
def CtE (w : World) (B : Nat) (css : List (List Value)) (xs : List CT) : Prop := css.length = xs.length ∧ ∀ (k : Nat) (c : List Value) (x : CT), css[k]? = some c → xs[k]? = some x → ∃ u, c = [u, .int .i64 (x.2 : Nat)] ∧ OwnInts w B tI u (up x.1)
section
variable {w w' : World} {B : Nat} {css : List (List Value)} {xs : List CT}
theorem CtE.nil (w : World) (B : Nat) : CtE w B [] [] := ⟨rfl, fun k c x h => by simp at h⟩
theorem CtE.below (h : CtE w B css xs) (hb : Below w.heap.size w w') : CtE w' B css xs := ⟨h.1, fun k c x hc hx => by obtain ⟨u, e, ho⟩ := h.2 k c x hc hx; exact ⟨u, e, ho.below hb⟩⟩
theorem CtE.mono {B' : Nat} (h : CtE w B css xs) (hB : B' ≤ B) : CtE w B' css xs := ⟨h.1, fun k c x hc hx => by obtain ⟨u, e, ho⟩ := h.2 k c x hc hx; exact ⟨u, e, ho.mono hB⟩⟩
theorem CtE.kept {v : Value} {e : TypeId} (h : CtE w B css xs) (hg : w.grownBy w' v.ownBlock) (hb : BT w e v) (hne : tI ≠ e) : CtE w' B css xs := ⟨h.1, fun k c x hc hx => by obtain ⟨u, e, ho⟩ := h.2 k c x hc hx; exact ⟨u, e, ho.kept hg (ho.1.bt.ne hb hne)⟩⟩
theorem CtE.snoc {u : Value} {t : List Nat} {n : Nat} (h : CtE w B css xs) (hu : OwnInts w B tI u (up t)) : CtE w B (css ++ [[u, .int .i64 (n : Nat)]]) (xs ++ [(t, n)]) := by
  refine ⟨by simp [h.1], fun k c x hk hx => ?_⟩
  by_cases hlt : k < css.length
  · rw [List.getElem?_append_left hlt] at hk
    rw [List.getElem?_append_left (by rw [← h.1]; exact hlt)] at hx
    exact h.2 k c x hk hx
  · have hkl := (List.getElem?_eq_some_iff.1 hk).1
    simp at hkl
    have : k = css.length := by omega
    subst this
    rw [List.getElem?_append_right (Nat.le_refl _)] at hk
    rw [List.getElem?_append_right (by rw [h.1]; exact Nat.le_refl _), h.1] at hx
    simp at hk hx
    subst hk; subst hx
    exact ⟨u, rfl, hu⟩
end
def CtR (w : World) (B : Nat) (v : Value) (xs : List CT) : Prop := ∃ css, OwnK w B tC 2 v css ∧ CtE w B css xs
section
variable {w w' : World} {B : Nat} {v : Value} {xs : List CT}
theorem CtR.below (h : CtR w B v xs) (hb : Below w.heap.size w w') : CtR w' B v xs := by obtain ⟨css, h1, h2⟩ := h; exact ⟨css, h1.below hb, h2.below hb⟩
theorem CtR.mono {B' : Nat} (h : CtR w B v xs) (hB : B' ≤ B) : CtR w B' v xs := by obtain ⟨css, h1, h2⟩ := h; exact ⟨css, h1.mono hB, h2.mono hB⟩
theorem CtR.open_ (h : CtR w B v xs) : ∃ A c, v = .slice A xs.length c ∧ xs.length ≤ c ∧ c ≤ 9223372036854775807 := by
  obtain ⟨css, h1, h2⟩ := h
  have := h1.open_
  rwa [h2.1] at this
/-- the element at a place -/
theorem CtR.at_ {k : Nat} {t : List Nat} {n : Nat} (h : CtR w B v xs) (hx : xs[k]? = some (t, n)) : ∃ g cap A c, v = .slice (some ⟨g, 0, none⟩) xs.length cap ∧ w.cell? ⟨g, k * 2, none⟩ = some (.slice A t.length c) ∧ w.cell? ⟨g, k * 2 + 1, none⟩ = some (.int .i64 (n : Nat)) ∧ OwnInts w B tI (.slice A t.length c) (up t) := by
  obtain ⟨css, h1, h2⟩ := h
  have hk : k < css.length := by rw [h2.1]; exact (List.getElem?_eq_some_iff.1 hx).1
  have hc : css[k]? = some (css[k]'hk) := List.getElem?_eq_getElem _
  obtain ⟨u, e, ho⟩ := h2.2 k _ _ hc hx
  rw [e] at hc
  obtain ⟨g, cap, hv, hc0⟩ := h1.cell (j := 0) hc rfl
  obtain ⟨A, c, hu, -, -, -⟩ := ho.ints.open_
  rw [up_len] at hu
  subst hv
  have hc1 := h1.cellAt (j := 1) hc rfl
  subst hu
  exact ⟨g, cap, A, c, by rw [h2.1], hc0, hc1, ho⟩
/-- one element more -/
theorem CtR.snoc {css : List (List Value)} {u v' : Value} {t : List Nat} {n : Nat} (h1 : OwnK w B tC 2 v css) (h2 : CtE w B css xs) (hu : OwnInts w B tI u (up t)) (ho : OwnK w' B tC 2 v' (css ++ [[u, .int .i64 (n : Nat)]])) (hg : Grow w w' v v') : CtR w' B v' (xs ++ [(t, n)]) :=
  ⟨_, ho, (h2.snoc hu).kept hg.1 h1.bt (by decide)⟩
end
end Go.Proofs.YtheldcjiogpbjaaGreat
