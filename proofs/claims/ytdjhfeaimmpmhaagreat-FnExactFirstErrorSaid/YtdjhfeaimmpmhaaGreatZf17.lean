/- Walks: treesTo of the program; l03All of the reference. (printed by allgen.py) | What newForms of the program lays: the trees, and the cuts of each by places. No walk. | Plain: what maps reckon with: sizes and densities of the trees at the places, the exact map, agreement. No walk. | DROP Walks: density of the program and of the reference; nodes of forms. -/
import Derived.Test.YtdjhfeaimmpmhaaGreatZf12
import Derived.Test.YtdjhfeaimmpmhaaGreatZf16
import Derived.Test.YtdjhfeaimmpmhaaGreatZf5
import Derived.Test.YtdjhfeaimmpmhaaGreatZf4
set_option maxRecDepth 100000
set_option linter.unusedVariables false
set_option linter.unusedSimpArgs false
namespace Go.Proofs.YtdjhfeaimmpmhaaGreat
open Go.RowKit

/-- the lists for 1 to n, one after the other -/
def allG (G : Nat → List (List Nat)) (n : Nat) : List (List Nat) := (List.range n).flatMap fun k => G (k + 1)
theorem allG_succ (G : Nat → List (List Nat)) (k : Nat) : allG G (k + 1) = allG G k ++ G (k + 1) := by simp [allG, List.range_succ]
theorem allG_len {G : Nat → List (List Nat)} (hG : ∀ k, 1 ≤ k → k ≤ 8 → (G k).length ≤ 115) : ∀ n, n ≤ 8 → (allG G n).length ≤ 115 * n
  | 0, _ => by simp [allG]
  | n + 1, h => by
    rw [allG_succ, List.length_append]
    have h1 := allG_len hG n (by omega)
    have h2 := hG (n + 1) (by omega) h
    omega
theorem treesN_len {k : Nat} (h1 : 1 ≤ k) (h8 : k ≤ 8) : (treesN k).length ≤ 115 := (treesN_at h1 h8).1

theorem RR.keptAl {w w' : World} {B : Nat} {vs : List Value} {xss : List (List Int)} {v : Value} {e : TypeId} (h : RR w B vs xss) (hg : w.grownBy w' v.ownBlock) (hb : BT w e v) (hne : tI ≠ e) : RR w' B vs xss :=
  ⟨h.1, fun k u zs hu hz => (h.2 k u zs hu hz).kept hg ((h.2 k u zs hu hz).1.bt.ne hb hne)⟩
/-- a list of rows behind another one -/
theorem LA.app {w2 w' : World} {B C : Nat} {v v' : Value} {xs ys : List (List Int)} {us vs : List Value} (h1 : Own w2 B tL v us) (h2 : RR w2 B us xs) (h3 : us.Pairwise Apart) (hlt : ∀ u ∈ us, ∀ b, u.ownBlock = some b → b < C)
    (g1 : RR w2 C vs ys) (g2 : vs.Pairwise Apart) (hBC : B ≤ C) (ho : Own w' B tL v' (us ++ vs)) (hg : Grow w2 w' v v') : LA w' B v' (xs ++ ys) := by
  refine ⟨us ++ vs, ho, (h2.append (g1.mono hBC)).keptAl hg.1 h1.bt (by decide), List.pairwise_append.2 ⟨h3, g2, fun u hu x hx => ?_⟩⟩
  obtain ⟨k, hk, rfl⟩ := List.getElem_of_mem hx
  have hz : ys[k]? = some (ys[k]'(by rw [← g1.1]; exact hk)) := List.getElem?_eq_getElem _
  exact apart_of_lt (hlt u hu) (g1.2 k _ _ (List.getElem?_eq_getElem hk) hz).1.ge
theorem RR.lt {w : World} {B : Nat} {vs : List Value} {xss : List (List Int)} (h : RR w B vs xss) : ∀ u ∈ vs, ∀ b, u.ownBlock = some b → b < w.heap.size := by
  intro u hu
  obtain ⟨k, hk, rfl⟩ := List.getElem_of_mem hu
  have hz : xss[k]? = some (xss[k]'(by rw [← h.1]; exact hk)) := List.getElem?_eq_getElem _
  exact (h.2 k _ _ (List.getElem?_eq_getElem hk) hz).1.lt

set_option maxHeartbeats 4000000 in
theorem i_treesTo (w : World) (n : Nat) (h8 : n ≤ 8) :
    Calls Tryz.prog 56 #[.int .i64 n] w fun e w' => ∃ x, e = .returned x ∧ LA w' w.heap.size x ((allG treesN n).map up) ∧ Below w.heap.size w w' := by
  have HG := Lib.hid (fun k (h : k ≤ 8) => allG_len (G := treesN) (fun k h1 h2 => treesN_len h1 h2) k h)
  have HL := Lib.hid (fun k (h1 : 1 ≤ k) (h2 : k ≤ 8) => treesN_len h1 h2)
  have OL := Lib.hid (show LA (w.alloc (.cells #[] tL)) w.heap.size (.slice (some ⟨w.heap.size, 0, none⟩) 0 0) ((allG treesN 0).map up) from ⟨[], own_lit w tL [] (by simp [maxLen]), RR.nil _ _, List.Pairwise.nil⟩)
  go_enter Tryz.func56, Tryz.ntmps56
  go_wp2_with fail
  go_loopw [3, 4] (fun o x wr => ∃ k : Nat, 1 ≤ k ∧ k ≤ n + 1 ∧ x = .int .i64 k ∧ LA wr w.heap.size o ((allG treesN (k - 1)).map up) ∧ Below w.heap.size w wr) (fun _ x _ => n + 1 - (intOf x).toNat)
  case atStart => exact ⟨1, Nat.le_refl _, by omega, by go_num, OL.out, below1 _ _⟩
  case round =>
    obtain ⟨k, hk1, hk, rfl, ho, hb⟩ := hrel
    clear OL
    have HB := Lib.hid hb
    obtain ⟨us, hown, hrr, hap⟩ := ho
    have hul := hrr.1
    rw [List.length_map] at hul
    have HUL := Lib.hid (show us.length ≤ 1000 from by have := HG.out (k - 1) (by omega); omega)
    have HO := Lib.hid hown
    have HR := Lib.hid hrr
    have HAP := Lib.hid hap
    have HLT := Lib.hid hrr.lt
    obtain ⟨Ao, co, rfl, -, -⟩ := hown.cells.open_
    clear hb hown hrr hap hul
    by_cases hlt : k < n + 1
    · have hle : (k : Int) ≤ (n : Int) := by omega
      have HS := Lib.hid (show allG treesN (k + 1 - 1) = allG treesN (k - 1) ++ treesN k from by
        have h := allG_succ treesN (k - 1)
        rw [show k - 1 + 1 = k by omega] at h
        rw [Nat.add_sub_cancel]; exact h)
      have HLK := Lib.hid (HL.out k hk1 (by omega))
      have hk8 : k ≤ 8 := by omega
      go_wp2_with (first
        | (go_at_call 116; go_loud (refine (i_treesOf _ k hk1 hk8).mono ?_; rintro e w2 ⟨x2, rfl, hl2, hb2⟩; obtain ⟨vs, hown2, hrr2, hap2⟩ := hl2; have HV := Lib.hid hown2; have HR2 := Lib.hid hrr2; have HAP2 := Lib.hid hap2; have hvl := hrr2.1.trans (List.length_map ..); have HVL := Lib.hid hvl; have HB2 := Lib.hid hb2; have HO2 := Lib.hid (HO.out.below hb2); clear hown2 hrr2 hap2 hb2 hvl))
        | (at_builtin; go_loud (refine wpList_appN T_row HO2.out HV.out.cells (by have h1 := HUL.out; have h2 := HVL.out; have h3 := HLK.out; omega) (Nat.le_trans HB.out.size HB2.out.size) HR2.out.oneCell (by rfl) rfl (by rfl) (by rfl) ?_; intro v5 w5 hown5 hgr5; have HN := Lib.hid hown5; have HGR := Lib.hid hgr5; clear hown5 hgr5)))
      go_roundw
      case rel =>
        refine ⟨k + 1, by omega, by omega, by go_num, ?_, HGR.out.below (HB.out.trans (HB2.out.mono HB.out.size)) (Nat.le_trans HB.out.size HB2.out.size) HO2.out.ge⟩
        rw [HS.out, List.map_append]
        exact LA.app HO2.out (HR.out.below HB2.out) HAP.out HLT.out HR2.out HAP2.out HB.out.size HN.out HGR.out
      case measure => simp [intOf]; omega
    · have hkn : k = n + 1 := by omega
      subst hkn
      go_wp2_with fail
      go_ret
      exact ⟨_, rfl, ⟨us, HO.out, by simpa using HR.out, HAP.out⟩, HB.out⟩

set_option maxHeartbeats 4000000 in
theorem s_l03All (w : World) (n : Nat) (h8 : n ≤ 8) :
    Calls Tryz.prog 70 #[.int .i64 n] w fun e w' => ∃ x, e = .returned x ∧ LA w' w.heap.size x ((allG treesN n).map up) ∧ Below w.heap.size w w' := by
  have HG := Lib.hid (fun k (h : k ≤ 8) => allG_len (G := treesN) (fun k h1 h2 => treesN_len h1 h2) k h)
  have HL := Lib.hid (fun k (h1 : 1 ≤ k) (h2 : k ≤ 8) => treesN_len h1 h2)
  have OL := Lib.hid (show LA (w.alloc (.cells #[] tL)) w.heap.size (.slice (some ⟨w.heap.size, 0, none⟩) 0 0) ((allG treesN 0).map up) from ⟨[], own_lit w tL [] (by simp [maxLen]), RR.nil _ _, List.Pairwise.nil⟩)
  go_enter Tryz.func70, Tryz.ntmps70
  go_wp2_with fail
  go_loopw [3, 4] (fun o x wr => ∃ k : Nat, 1 ≤ k ∧ k ≤ n + 1 ∧ x = .int .i64 k ∧ LA wr w.heap.size o ((allG treesN (k - 1)).map up) ∧ Below w.heap.size w wr) (fun _ x _ => n + 1 - (intOf x).toNat)
  case atStart => exact ⟨1, Nat.le_refl _, by omega, by go_num, OL.out, below1 _ _⟩
  case round =>
    obtain ⟨k, hk1, hk, rfl, ho, hb⟩ := hrel
    clear OL
    have HB := Lib.hid hb
    obtain ⟨us, hown, hrr, hap⟩ := ho
    have hul := hrr.1
    rw [List.length_map] at hul
    have HUL := Lib.hid (show us.length ≤ 1000 from by have := HG.out (k - 1) (by omega); omega)
    have HO := Lib.hid hown
    have HR := Lib.hid hrr
    have HAP := Lib.hid hap
    have HLT := Lib.hid hrr.lt
    obtain ⟨Ao, co, rfl, -, -⟩ := hown.cells.open_
    clear hb hown hrr hap hul
    by_cases hlt : k < n + 1
    · have hle : (k : Int) ≤ (n : Int) := by omega
      have HS := Lib.hid (show allG treesN (k + 1 - 1) = allG treesN (k - 1) ++ treesN k from by
        have h := allG_succ treesN (k - 1)
        rw [show k - 1 + 1 = k by omega] at h
        rw [Nat.add_sub_cancel]; exact h)
      have HLK := Lib.hid (HL.out k hk1 (by omega))
      have hk8 : k ≤ 8 := by omega
      go_wp2_with (first
        | (go_at_call 133; go_loud (refine (s_l03Trees _ k hk1 hk8).mono ?_; rintro e w2 ⟨x2, rfl, hl2, hb2⟩; obtain ⟨vs, hown2, hrr2, hap2⟩ := hl2; have HV := Lib.hid hown2; have HR2 := Lib.hid hrr2; have HAP2 := Lib.hid hap2; have hvl := hrr2.1.trans (List.length_map ..); have HVL := Lib.hid hvl; have HB2 := Lib.hid hb2; have HO2 := Lib.hid (HO.out.below hb2); clear hown2 hrr2 hap2 hb2 hvl))
        | (at_builtin; go_loud (refine wpList_appN T_row HO2.out HV.out.cells (by have h1 := HUL.out; have h2 := HVL.out; have h3 := HLK.out; omega) (Nat.le_trans HB.out.size HB2.out.size) HR2.out.oneCell (by rfl) rfl (by rfl) (by rfl) ?_; intro v5 w5 hown5 hgr5; have HN := Lib.hid hown5; have HGR := Lib.hid hgr5; clear hown5 hgr5)))
      go_roundw
      case rel =>
        refine ⟨k + 1, by omega, by omega, by go_num, ?_, HGR.out.below (HB.out.trans (HB2.out.mono HB.out.size)) (Nat.le_trans HB.out.size HB2.out.size) HO2.out.ge⟩
        rw [HS.out, List.map_append]
        exact LA.app HO2.out (HR.out.below HB2.out) HAP.out HLT.out HR2.out HAP2.out HB.out.size HN.out HGR.out
      case measure => simp [intOf]; omega
    · have hkn : k = n + 1 := by omega
      subst hkn
      go_wp2_with fail
      go_ret
      exact ⟨_, rfl, ⟨us, HO.out, by simpa using HR.out, HAP.out⟩, HB.out⟩
end Go.Proofs.YtdjhfeaimmpmhaaGreat

set_option maxRecDepth 100000
set_option linter.unusedVariables false
set_option linter.unusedSimpArgs false
namespace Go.Proofs.YtdjhfeaimmpmhaaGreat
open Go.RowKit

abbrev tMc : TypeId := 121
abbrev tMl : TypeId := 114
abbrev MC := (List Nat × Nat) × Nat
/-- a cut by places -/
def mcU (xs : List (List Nat)) (c : CU) : MC := ((c.1.1.map (idxN xs), bif Nat.blt 0 c.1.2.length then idxN xs c.1.2 else 0), c.2)
/-- the cuts of a tree by places -/
def cutsI (xs : List (List Nat)) (t : List Nat) : List MC := match splV 9 t with
  | some r => (cutsU r).map (mcU xs)
  | none => []

def McD (w : World) (B : Nat) (c : List Value) (x : MC) : Prop := ∃ s, c = [.int .i64 (x.2 : Nat), s, .int .i64 (x.1.2 : Nat)] ∧ OwnInts w B tN s (up x.1.1)
def Mcs (w : World) (B : Nat) (css : List (List Value)) (xs : List MC) : Prop := css.length = xs.length ∧ ∀ (i : Nat) (c : List Value) (x : MC), css[i]? = some c → xs[i]? = some x → McD w B c x
theorem McD.below {w w' : World} {B : Nat} {c : List Value} {x : MC} (h : McD w B c x) (hb : Below w.heap.size w w') : McD w' B c x := by
  obtain ⟨s, rfl, h⟩ := h
  exact ⟨s, rfl, h.below hb⟩
theorem McD.mono {w : World} {B B' : Nat} {c : List Value} {x : MC} (h : McD w B c x) (hB : B' ≤ B) : McD w B' c x := by
  obtain ⟨s, rfl, h⟩ := h
  exact ⟨s, rfl, h.mono hB⟩
theorem McD.kept {w w' : World} {B : Nat} {c : List Value} {x : MC} {e : TypeId} {v : Value} (h : McD w B c x) (hg : w.grownBy w' v.ownBlock) (hb : BT w e v) (hne : tN ≠ e) : McD w' B c x := by
  obtain ⟨s, rfl, h⟩ := h
  exact ⟨s, rfl, h.kept hg (h.1.bt.ne hb hne)⟩
section
variable {w w' : World} {B : Nat} {css : List (List Value)} {xs : List MC}
theorem Mcs.nil (w : World) (B : Nat) : Mcs w B [] [] := ⟨rfl, fun i c x h => by simp at h⟩
theorem Mcs.below (h : Mcs w B css xs) (hb : Below w.heap.size w w') : Mcs w' B css xs := ⟨h.1, fun i c x hc hx => (h.2 i c x hc hx).below hb⟩
theorem Mcs.mono {B' : Nat} (h : Mcs w B css xs) (hB : B' ≤ B) : Mcs w B' css xs := ⟨h.1, fun i c x hc hx => (h.2 i c x hc hx).mono hB⟩
theorem Mcs.kept {v : Value} {e : TypeId} (h : Mcs w B css xs) (hg : w.grownBy w' v.ownBlock) (hb : BT w e v) (hne : tN ≠ e) : Mcs w' B css xs := ⟨h.1, fun i c x hc hx => (h.2 i c x hc hx).kept hg hb hne⟩
theorem Mcs.snoc {c : List Value} {x : MC} (h : Mcs w B css xs) (hx : McD w B c x) : Mcs w B (css ++ [c]) (xs ++ [x]) := by
  refine ⟨by simp [h.1], fun i c' x' hc hx' => ?_⟩
  by_cases hlt : i < css.length
  · rw [List.getElem?_append_left hlt] at hc
    rw [List.getElem?_append_left (by rw [← h.1]; exact hlt)] at hx'
    exact h.2 i c' x' hc hx'
  · have hkl := (List.getElem?_eq_some_iff.1 hc).1
    simp at hkl
    have hi : i = css.length := by omega
    rw [hi] at hc
    rw [hi, h.1] at hx'
    simp at hc hx'
    subst hc hx'
    exact hx
end
/-- a list of cuts by places, one's own -/
def ML (w : World) (B : Nat) (v : Value) (xs : List MC) : Prop := ∃ css, OwnK w B tMc 3 v css ∧ Mcs w B css xs
theorem ML.below {w w' : World} {B : Nat} {v : Value} {xs : List MC} (h : ML w B v xs) (hb : Below w.heap.size w w') : ML w' B v xs := by
  obtain ⟨css, h1, h2⟩ := h
  exact ⟨css, h1.below hb, h2.below hb⟩
theorem ML.kept {w w' : World} {B : Nat} {v : Value} {xs : List MC} {e : TypeId} {u : Value} (h : ML w B v xs) (hg : w.grownBy w' u.ownBlock) (hb : BT w e u) (h1 : tN ≠ e) (h2 : tMc ≠ e) : ML w' B v xs := by
  obtain ⟨css, h3, h4⟩ := h
  exact ⟨css, h3.kept hg (h3.bt.ne hb h2), h4.kept hg hb h1⟩
/-- a list of such lists: read only -/
def Mls (w : World) (B : Nat) (us : List Value) (xss : List (List MC)) : Prop := us.length = xss.length ∧ ∀ (i : Nat) (u : Value) (x : List MC), us[i]? = some u → xss[i]? = some x → ML w B u x
section
variable {w w' : World} {B : Nat} {us : List Value} {xss : List (List MC)}
theorem Mls.nil (w : World) (B : Nat) : Mls w B [] [] := ⟨rfl, fun i c x h => by simp at h⟩
theorem Mls.below (h : Mls w B us xss) (hb : Below w.heap.size w w') : Mls w' B us xss := ⟨h.1, fun i c x hc hx => (h.2 i c x hc hx).below hb⟩
theorem Mls.kept {v : Value} {e : TypeId} (h : Mls w B us xss) (hg : w.grownBy w' v.ownBlock) (hb : BT w e v) (h1 : tN ≠ e) (h2 : tMc ≠ e) : Mls w' B us xss := ⟨h.1, fun i c x hc hx => (h.2 i c x hc hx).kept hg hb h1 h2⟩
theorem Mls.snoc {u : Value} {x : List MC} (h : Mls w B us xss) (hx : ML w B u x) : Mls w B (us ++ [u]) (xss ++ [x]) := by
  refine ⟨by simp [h.1], fun i c' x' hc hx' => ?_⟩
  by_cases hlt : i < us.length
  · rw [List.getElem?_append_left hlt] at hc
    rw [List.getElem?_append_left (by rw [← h.1]; exact hlt)] at hx'
    exact h.2 i c' x' hc hx'
  · have hkl := (List.getElem?_eq_some_iff.1 hc).1
    simp at hkl
    have hi : i = us.length := by omega
    rw [hi] at hc
    rw [hi, h.1] at hx'
    simp at hc hx'
    subst hc hx'
    exact hx
end
def T6n : List (List Nat) := allG treesN 6
theorem T6n_len : T6n.length = 37 := by decide +kernel
theorem T6n_split {t : List Nat} (h : t ∈ T6n) : ∃ r, splV 9 t = some r ∧ okLs r = true := by
  obtain ⟨n, hn, ht⟩ := List.mem_flatMap.1 h
  have h1 := List.all_eq_true.1 (List.all_eq_true.1 splV_6 n hn) t ht
  cases hs : splV 9 t with
  | none => rw [hs] at h1; cases h1
  | some r => rw [hs] at h1; exact ⟨r, rfl, h1⟩
/-- what newForms returns -/
def Frm (w : World) (B : Nat) (v : Value) : Prop := ∃ x y us, v = .agg #[x, y] ∧ LA w B x (T6n.map up) ∧ Own w B tMl y us ∧ Mls w B us (T6n.map (cutsI T6n))
end Go.Proofs.YtdjhfeaimmpmhaaGreat

set_option maxRecDepth 100000
set_option linter.unusedVariables false
set_option linter.unusedSimpArgs false
namespace Go.Proofs.YtdjhfeaimmpmhaaGreat
open Go.RowKit

/-- the number of nodes of the tree at a place -/
def szN (k : Nat) : Nat := (0 :: T6n.map List.length).getD k 0
theorem szN_zero : szN 0 = 0 := rfl
theorem szN_succ {i : Nat} {t : List Nat} (h : T6n[i]? = some t) : szN (i + 1) = t.length := by
  unfold szN
  simp [List.getD, h]
theorem szN_le (k : Nat) : szN k ≤ 6 := by
  have h : (0 :: T6n.map List.length).all (fun n => Nat.ble n 6) = true := by decide +kernel
  rw [List.all_eq_true] at h
  unfold szN
  rw [List.getD_eq_getElem?_getD]
  cases hk : (0 :: T6n.map List.length)[k]? with
  | none => simp
  | some n => exact Nat.le_of_ble_eq_true (h n (List.mem_of_getElem? hk))
theorem szN_pos {i : Nat} (h : i < 37) : 1 ≤ szN (i + 1) := by
  have ha : T6n.all (fun t => Nat.ble 1 t.length) = true := by decide +kernel
  rw [List.all_eq_true] at ha
  have ht : T6n[i]? = some (T6n[i]'(by rw [T6n_len]; exact h)) := List.getElem?_eq_getElem _
  rw [szN_succ ht]
  exact Nat.le_of_ble_eq_true (ha _ (List.mem_of_getElem? ht))
/-- what is known of the trees -/
def okT6 (t : List Nat) : Bool := lvl t && (Nat.ble 1 t.length && Nat.ble t.length 6 && t.all fun l => Nat.ble l 6)
theorem okT6_all : T6n.all okT6 = true := by decide +kernel
theorem T6n_at {t : List Nat} (h : t ∈ T6n) : lvl t = true ∧ 1 ≤ t.length ∧ t.length ≤ 6 ∧ ∀ l ∈ t, l ≤ 6 := by
  have h1 := okT6_all
  rw [List.all_eq_true] at h1
  have h2 := h1 t h
  unfold okT6 at h2
  simp only [Bool.and_eq_true, List.all_eq_true] at h2
  exact ⟨h2.1, Nat.le_of_ble_eq_true h2.2.1.1, Nat.le_of_ble_eq_true h2.2.1.2, fun l hl => Nat.le_of_ble_eq_true (h2.2.2 l hl)⟩

/-! ### densities -/
def denL (D : List Nat → Option Nat) : List (List Nat) → Nat → Option Nat
  | [], a => some a
  | b :: bs, a => match D b with
    | none => none
    | some d => bif Nat.ble (a * d) 1000000 then denL D bs (a * d) else none
def denO : Nat → List Nat → Option Nat
  | 0, _ => none
  | f + 1, t => match brO t with
    | none => none
    | some bs => denL (denO f) bs t.length
theorem denL_cons {D : List Nat → Option Nat} {b : List Nat} {bs : List (List Nat)} {a r : Nat} (h : denL D (b :: bs) a = some r) : ∃ d, D b = some d ∧ a * d ≤ 1000000 ∧ denL D bs (a * d) = some r := by
  rw [denL] at h
  cases h1 : D b with
  | none => rw [h1] at h; cases h
  | some d =>
    rw [h1] at h
    simp only at h
    cases h2 : Nat.ble (a * d) 1000000 with
    | false => rw [h2] at h; cases h
    | true => rw [h2] at h; exact ⟨d, rfl, Nat.le_of_ble_eq_true h2, h⟩
theorem denO_succ {f : Nat} {t : List Nat} {r : Nat} (h : denO (f + 1) t = some r) : ∃ bs, brO t = some bs ∧ denL (denO f) bs t.length = some r := by
  rw [denO] at h
  cases h1 : brO t with
  | none => rw [h1] at h; cases h
  | some bs => rw [h1] at h; exact ⟨bs, rfl, h⟩
/-! ### the exact map -/
def exV (t : List Nat) : Nat := match denO 9 t with
  | some d => d ^ 10005 % 10007
  | none => 0
def exN : List Nat := 1 :: T6n.map exV
def EX : List Int := up exN
theorem EX_len : EX.length = 38 := by
  unfold EX exN
  rw [up_len, List.length_cons, List.length_map, T6n_len]
def denB (t : List Nat) : Bool := match denO 9 t with
  | some d => Nat.ble 1 d && Nat.ble d 720 && Nat.beq (d * exV t % 10007) 1
  | none => false
theorem denB_all : T6n.all denB = true := by decide +kernel
theorem T6n_den {t : List Nat} (h : t ∈ T6n) : ∃ d, denO 9 t = some d ∧ 1 ≤ d ∧ d ≤ 720 ∧ d * exV t % 10007 = 1 ∧ exV t = d ^ 10005 % 10007 := by
  have h1 := denB_all
  rw [List.all_eq_true] at h1
  have h2 := h1 t h
  unfold denB at h2
  cases hd : denO 9 t with
  | none => rw [hd] at h2; cases h2
  | some d =>
    rw [hd] at h2
    simp only [Bool.and_eq_true] at h2
    refine ⟨d, rfl, Nat.le_of_ble_eq_true h2.1.1, Nat.le_of_ble_eq_true h2.1.2, Nat.eq_of_beq_eq_true h2.2, ?_⟩
    unfold exV
    rw [hd]
theorem pw_nat (d k : Nat) : pw (d : Int) k = ((d ^ k % 10007 : Nat) : Int) := by
  unfold pw
  rw [Int.natCast_emod, Int.natCast_pow]
  rfl
theorem exV_pw {t : List Nat} {d : Nat} (h : denO 9 t = some d) : pw (d : Int) 10005 = (exV t : Nat) := by
  rw [pw_nat]
  unfold exV
  rw [h]
theorem exV_le (t : List Nat) : exV t ≤ 10006 := by
  unfold exV
  cases denO 9 t with
  | none => simp
  | some d => have := Nat.mod_lt (d ^ 10005) (show 10007 > 0 by omega); simp only; omega
theorem EX_nums : ∀ z ∈ EX, 0 ≤ z ∧ z ≤ 10006 := by
  intro z hz
  unfold EX up exN at hz
  obtain ⟨n, hn, rfl⟩ := List.mem_map.1 hz
  rcases List.mem_cons.1 hn with rfl | hn
  · omega
  · obtain ⟨t, -, rfl⟩ := List.mem_map.1 hn
    have := exV_le t
    omega
theorem EX_succ {i : Nat} {t : List Nat} (h : T6n[i]? = some t) : EX[i + 1]? = some ((exV t : Nat) : Int) := by
  unfold EX exN
  simp [up, h]

/-! ### agreement -/
def agZ (a b : List Int) : Int := match (List.range 38).find? (fun k => a.getD k 0 != b.getD k 0) with
  | some k => (szN k : Int) - 1
  | none => 6
theorem agZ_hit {a b : List Int} {k : Nat} (h : ∀ i, i < k → a.getD i 0 = b.getD i 0) (hk : k < 38) (hne : a.getD k 0 ≠ b.getD k 0) : agZ a b = (szN k : Int) - 1 := by
  have : (List.range 38).find? (fun k => a.getD k 0 != b.getD k 0) = some k := by
    rw [List.find?_range_eq_some]
    refine ⟨by simpa using hne, by simpa using hk, fun j hj => by simpa using h j hj⟩
  unfold agZ
  rw [this]
theorem agZ_miss {a b : List Int} (h : ∀ i, i < 38 → a.getD i 0 = b.getD i 0) : agZ a b = 6 := by
  have : (List.range 38).find? (fun k => a.getD k 0 != b.getD k 0) = none := by
    rw [List.find?_range_eq_none]
    intro j hj
    simpa using h j hj
  unfold agZ
  rw [this]
theorem agZ_bd (a b : List Int) : -1 ≤ agZ a b ∧ agZ a b ≤ 6 := by
  unfold agZ
  cases h : (List.range 38).find? (fun k => a.getD k 0 != b.getD k 0) with
  | none => simp
  | some k => have := szN_le k; simp only; omega
/-- a character agrees with the exact map at the empty tree at least -/
theorem agZ_nonneg {a b : List Int} (h : a.getD 0 0 = b.getD 0 0) : 0 ≤ agZ a b := by
  unfold agZ
  cases hf : (List.range 38).find? (fun k => a.getD k 0 != b.getD k 0) with
  | none => simp
  | some k =>
    rw [List.find?_range_eq_some] at hf
    obtain ⟨h1, h2, -⟩ := hf
    simp only
    cases k with
    | zero => simp only [bne_iff_ne, ne_eq] at h1; exact absurd h h1
    | succ k =>
      have h2' : k + 1 < 38 := by simpa using h2
      have := szN_pos (i := k) (by omega)
      omega
/-- a map is cut down to some numbers of nodes -/
def kpZ (p : Nat → Bool) (a : List Int) : List Int := (List.range 38).map fun k => if p (szN k) then a.getD k 0 else 0
def kpT (p : Nat → Bool) (a : List Int) (j : Nat) : List Int := (List.range 38).map fun k => if k < j ∧ p (szN k) = true then a.getD k 0 else 0
theorem kpT_zero (p : Nat → Bool) (a : List Int) : kpT p a 0 = List.replicate 38 0 := by
  apply List.ext_getElem
  · simp [kpT]
  · intro i h1 h2
    rw [List.getElem_replicate]
    simp [kpT]
theorem kpT_full (p : Nat → Bool) (a : List Int) : kpT p a 38 = kpZ p a := by
  apply List.ext_getElem
  · simp [kpT, kpZ]
  · intro i h1 h2
    have : i < 38 := by simpa [kpT] using h1
    simp [kpT, kpZ, this]
theorem kpT_skip {p : Nat → Bool} {a : List Int} {j : Nat} (h : p (szN j) = false) : kpT p a (j + 1) = kpT p a j := by
  apply List.ext_getElem
  · simp [kpT]
  · intro i h1 h2
    simp only [kpT, List.getElem_map, List.getElem_range]
    by_cases e : i = j
    · subst e; simp [h]
    · have : (i < j + 1) ↔ (i < j) := by omega
      simp [this]
theorem kpT_take {p : Nat → Bool} {a : List Int} {j : Nat} (h : p (szN j) = true) : kpT p a (j + 1) = (kpT p a j).set j (a.getD j 0) := by
  apply List.ext_getElem
  · simp [kpT]
  · intro i h1 h2
    rw [List.getElem_set]
    simp only [kpT, List.getElem_map, List.getElem_range]
    by_cases e : i = j
    · subst e; simp [h]
    · have : (i < j + 1) ↔ (i < j) := by omega
      have e' : ¬ j = i := fun x => e x.symm
      simp [this, e']
theorem kpT_len (p : Nat → Bool) (a : List Int) (j : Nat) : (kpT p a j).length = 38 := by simp [kpT]
theorem kpZ_len (p : Nat → Bool) (a : List Int) : (kpZ p a).length = 38 := by simp [kpZ]
end Go.Proofs.YtdjhfeaimmpmhaaGreat

set_option maxRecDepth 100000
set_option linter.unusedVariables false
set_option linter.unusedSimpArgs false
namespace Go.Proofs.YtdjhfeaimmpmhaaGreat
open Go.RowKit

theorem wr_mul {a d : Nat} (h : a * d ≤ 1000000) : wrap64 ((a : Int) * (d : Int)) = ((a * d : Nat) : Int) ∧ IntKind.i64.wrap ((a : Int) * (d : Int)) = ((a * d : Nat) : Int) := by
  have h0 : ((a : Int) * (d : Int)) = ((a * d : Nat) : Int) := (Int.natCast_mul a d).symm
  rw [h0]
  generalize a * d = x at h
  have hb : -9223372036854775808 ≤ (x : Int) ∧ (x : Int) ≤ 9223372036854775807 := by omega
  exact ⟨by unfold wrap64; omega, IntWalk.i64_in _ hb⟩

set_option maxHeartbeats 4000000 in
theorem i_density : ∀ (f : Nat) (w : World) (v : Value) (t : List Nat) (r : Nat), Ints w v (up t) → denO f t = some r → t.length ≤ 1000 → (∀ l ∈ t, l ≤ 1000000) →
    Calls Tryz.prog 152 #[v] w fun e w' => e = .returned (.int .i64 (r : Nat)) ∧ Below w.heap.size w w' := by
  intro f
  induction f with
  | zero => intro w v t r _ h; cases h
  | succ f ih =>
    intro w v t r ha hr hn hl
    obtain ⟨bs, hb, hd⟩ := denO_succ hr
    have hbl := brO_lens hb hn
    have hbm := brO_mem hb hl
    have IH := Lib.hid ih
    have HA := Lib.hid ha
    have HB := Lib.hid (i_branchesOf w v t bs ha hb hn hl)
    have HLN := Lib.hid (lib_lengthI w v _ ha)
    rw [up_len] at HLN
    have HD := Lib.hid hd
    have HBL := Lib.hid hbl
    have HBM := Lib.hid hbm
    have hbl1 := hbl.1
    obtain ⟨A, c, rfl, -, -, -⟩ := ha.open_
    rw [up_len] at HA HB HLN ⊢
    clear ih ha hr hb hd hbl hbm hl
    go_enter Tryz.func152, Tryz.ntmps152
    go_wp2_with (first
      | (go_at_call 154; refine HLN.out.mono ?_; rintro e w0 ⟨rfl, rfl⟩)
      | (go_at_call 193; refine HB.out.mono ?_; rintro e w1 ⟨x1, rfl, hx1, hb1⟩; obtain ⟨vs, hv, hrr⟩ := hx1; have hvl := hrr.1; rw [List.length_map] at hvl; obtain ⟨A1, c1, rfl, -, -⟩ := hv.cells.open_; have HV := Lib.hid hv; have HRR := Lib.hid hrr; have HB1 := Lib.hid hb1; have HVL := Lib.hid hvl; clear hv hrr hb1 hvl))
    go_loopw [3, 11] (fun o x wr => ∃ (k a : Nat), k ≤ vs.length ∧ a ≤ 1000000 ∧ x = .int .i64 k ∧ o = .int .i64 a ∧ Hid (denL (denO f) (bs.drop k) a = some r) ∧ Below w1.heap.size w1 wr) (fun _ x _ => vs.length - (intOf x).toNat)
    case atStart => exact ⟨0, t.length, Nat.zero_le _, by omega, rfl, rfl, HD.out, Below.refl _ _⟩
    case round =>
      obtain ⟨k, a, hk, ha6, rfl, rfl, hD, hb⟩ := hrel
      have HBK := Lib.hid hb
      have hvn : vs.length ≤ 1000 := by rw [HVL.out]; exact hbl1
      clear hb
      by_cases hlt : k < vs.length
      · obtain ⟨b, hbk⟩ : ∃ b, bs[k]? = some b := ⟨_, List.getElem?_eq_getElem (by rw [← HVL.out]; exact hlt)⟩
        have hdr : bs.drop k = b :: bs.drop (k + 1) := by
          obtain ⟨h1, h2⟩ := List.getElem?_eq_some_iff.1 hbk
          rw [List.drop_eq_getElem_cons h1, h2]
        have hD2 := hD.out
        rw [hdr] at hD2
        obtain ⟨d, hd1, hd2, hd3⟩ := denL_cons hD2
        obtain ⟨u, hu⟩ : ∃ u, vs[k]? = some u := ⟨_, List.getElem?_eq_getElem hlt⟩
        obtain ⟨ad, n', c', he, hcell⟩ := (HV.out.below HBK.out).cells.at_ hu
        simp only [Value.slice.injEq] at he
        obtain ⟨rfl, -, -⟩ := he
        have hrow := (HRR.out.below HBK.out).2 k u (up b) hu (by rw [List.getElem?_map, hbk]; rfl)
        have HRO := Lib.hid hrow
        have HC := Lib.hid (IH.out wr u b d hrow.ints hd1 (HBL.out.2 b (List.mem_of_getElem? hbk)) (HBM.out b (List.mem_of_getElem? hbk)))
        have HD3 := Lib.hid hd3
        obtain ⟨hw1, hw2⟩ := wr_mul hd2
        have hkk : (k : Int) < (vs.length : Int) := by omega
        clear hbk hdr hD hD2 hd1 hd3 hrow hu
        go_wp2_with (go_at_call 152; go_loud (refine HC.out.mono ?_; rintro e w2 ⟨rfl, hb2⟩; have HB2 := Lib.hid hb2; clear hb2))
        go_roundw
        case rel => exact ⟨k + 1, a * d, by omega, hd2, by go_num, rfl, HD3.out, HBK.out.trans (HB2.out.mono HBK.out.size)⟩
        case measure => simp [intOf]; omega
      · have hkl : k = bs.length := by rw [← HVL.out]; omega
        have hD2 := hD.out
        rw [hkl, List.drop_length, denL] at hD2
        injection hD2 with hD2
        subst hD2
        clear hkl
        go_wp2_with fail
        go_ret
        exact ⟨rfl, HB1.out.trans (HBK.out.mono HB1.out.size)⟩

set_option maxHeartbeats 4000000 in
theorem s_l03Density : ∀ (f : Nat) (w : World) (v : Value) (t : List Nat) (r : Nat), Ints w v (up t) → denO f t = some r → t.length ≤ 1000 → (∀ l ∈ t, l ≤ 1000000) →
    Calls Tryz.prog 150 #[v] w fun e w' => e = .returned (.int .i64 (r : Nat)) ∧ Below w.heap.size w w' := by
  intro f
  induction f with
  | zero => intro w v t r _ h; cases h
  | succ f ih =>
    intro w v t r ha hr hn hl
    obtain ⟨bs, hb, hd⟩ := denO_succ hr
    have hbl := brO_lens hb hn
    have hbm := brO_mem hb hl
    have IH := Lib.hid ih
    have HA := Lib.hid ha
    have HB := Lib.hid (s_l03Parts w v t bs ha hb hn hl)
    have HD := Lib.hid hd
    have HBL := Lib.hid hbl
    have HBM := Lib.hid hbm
    have hbl1 := hbl.1
    obtain ⟨A, c, rfl, -, -, -⟩ := ha.open_
    rw [up_len] at HA HB ⊢
    clear ih ha hr hb hd hbl hbm hl
    go_enter Tryz.func150, Tryz.ntmps150
    go_wp2_with (go_at_call 192; refine HB.out.mono ?_; rintro e w1 ⟨x1, rfl, hx1, hb1⟩; obtain ⟨vs, hv, hrr⟩ := hx1; have hvl := hrr.1; rw [List.length_map] at hvl; obtain ⟨A1, c1, rfl, -, -⟩ := hv.cells.open_; have HV := Lib.hid hv; have HRR := Lib.hid hrr; have HB1 := Lib.hid hb1; have HVL := Lib.hid hvl; clear hv hrr hb1 hvl)
    go_loopw [3, 5] (fun o x wr => ∃ (k a : Nat), k ≤ vs.length ∧ a ≤ 1000000 ∧ x = .int .i64 k ∧ o = .int .i64 a ∧ Hid (denL (denO f) (bs.drop k) a = some r) ∧ Below w1.heap.size w1 wr) (fun _ x _ => vs.length - (intOf x).toNat)
    case atStart => exact ⟨0, t.length, Nat.zero_le _, by omega, rfl, rfl, HD.out, Below.refl _ _⟩
    case round =>
      obtain ⟨k, a, hk, ha6, rfl, rfl, hD, hb⟩ := hrel
      have HBK := Lib.hid hb
      have hvn : vs.length ≤ 1000 := by rw [HVL.out]; exact hbl1
      clear hb
      by_cases hlt : k < vs.length
      · obtain ⟨b, hbk⟩ : ∃ b, bs[k]? = some b := ⟨_, List.getElem?_eq_getElem (by rw [← HVL.out]; exact hlt)⟩
        have hdr : bs.drop k = b :: bs.drop (k + 1) := by
          obtain ⟨h1, h2⟩ := List.getElem?_eq_some_iff.1 hbk
          rw [List.drop_eq_getElem_cons h1, h2]
        have hD2 := hD.out
        rw [hdr] at hD2
        obtain ⟨d, hd1, hd2, hd3⟩ := denL_cons hD2
        obtain ⟨u, hu⟩ : ∃ u, vs[k]? = some u := ⟨_, List.getElem?_eq_getElem hlt⟩
        obtain ⟨ad, n', c', he, hcell⟩ := (HV.out.below HBK.out).cells.at_ hu
        simp only [Value.slice.injEq] at he
        obtain ⟨rfl, -, -⟩ := he
        have hrow := (HRR.out.below HBK.out).2 k u (up b) hu (by rw [List.getElem?_map, hbk]; rfl)
        have HRO := Lib.hid hrow
        have HC := Lib.hid (IH.out wr u b d hrow.ints hd1 (HBL.out.2 b (List.mem_of_getElem? hbk)) (HBM.out b (List.mem_of_getElem? hbk)))
        have HD3 := Lib.hid hd3
        obtain ⟨hw1, hw2⟩ := wr_mul hd2
        have hkk : (k : Int) < (vs.length : Int) := by omega
        clear hbk hdr hD hD2 hd1 hd3 hrow hu
        go_wp2_with (go_at_call 150; go_loud (refine HC.out.mono ?_; rintro e w2 ⟨rfl, hb2⟩; have HB2 := Lib.hid hb2; clear hb2))
        go_roundw
        case rel => exact ⟨k + 1, a * d, by omega, hd2, by go_num, rfl, HD3.out, HBK.out.trans (HB2.out.mono HBK.out.size)⟩
        case measure => simp [intOf]; omega
      · have hkl : k = bs.length := by rw [← HVL.out]; omega
        have hD2 := hD.out
        rw [hkl, List.drop_length, denL] at hD2
        injection hD2 with hD2
        subst hD2
        clear hkl
        go_wp2_with fail
        go_ret
        exact ⟨rfl, HB1.out.trans (HBK.out.mono HB1.out.size)⟩

set_option maxHeartbeats 2000000 in
theorem im_fnodes (w : World) (v : Value) (B : Option Addr) (m d k : Nat) (ha : Rows w v (T6n.map up)) (hk : k ≤ 37) :
    Calls Tryz.prog 143 #[.agg #[v, .slice B m d], .int .i64 k] w fun e w' => e = .returned (.int .i64 (szN k : Nat)) ∧ w' = w.alloc (.cells #[v, .slice B m d] 71) := by
  obtain ⟨A, c, rfl, -, -, h3⟩ := ha.open_
  rw [List.length_map, T6n_len] at h3 ⊢
  have hbel : Below w.heap.size w (w.alloc (.cells #[.slice A 37 c, .slice B m d] 71)) := below1 w _
  have hq0 : (w.alloc (.cells #[.slice A 37 c, .slice B m d] 71)).cell? ⟨w.heap.size, 0, none⟩ = some (.slice A 37 c) := (Blk.new w _ _).cell 0
  cases k with
  | zero =>
    clear h3 hbel
    go_enter Tryz.func143, Tryz.ntmps143
    go_wp2_with fail
    go_ret
    exact ⟨rfl, rfl⟩
  | succ k =>
    have hk7 : k < 37 := by omega
    obtain ⟨ad, u, zs, rfl, hz, hu, hc⟩ := h3 k hk7
    have ht : T6n[k]? = some (T6n[k]'(by rw [T6n_len]; exact hk7)) := List.getElem?_eq_getElem _
    rw [List.getElem?_map, ht] at hz
    injection hz with hz
    subst hz
    rw [szN_succ ht]
    generalize T6n[k]'(by rw [T6n_len]; exact hk7) = t at *
    obtain ⟨Au, cu, rfl, -, -, -⟩ := hu.open_
    rw [up_len] at hu hc
    have HLN := Lib.hid (lib_lengthI _ _ _ (hu.below hbel))
    rw [up_len] at HLN
    have hc1 : (w.alloc (.cells #[.slice (some ad) 37 c, .slice B m d] 71)).cell? (ad.add k) = some (.slice Au t.length cu) := by
      rw [hbel.cell (by rw [block_add]; have := World.block_lt_of_cell? w _ hc; rwa [block_add] at this)]; exact hc
    have hkk : (k : Int) < 37 := by omega
    have hz0 : (((k + 1 : Nat) : Int) == 0) = false := by simp; omega
    have hz1 : ((k + 1 : Nat) : Int) - 1 = (k : Int) := by omega
    clear h3 ht hu hc hbel
    go_enter Tryz.func143, Tryz.ntmps143
    go_wp2_with (go_at_call 154; refine HLN.out.mono ?_; rintro e w0 ⟨rfl, rfl⟩)
    go_ret
    exact ⟨rfl, rfl⟩
end Go.Proofs.YtdjhfeaimmpmhaaGreat

