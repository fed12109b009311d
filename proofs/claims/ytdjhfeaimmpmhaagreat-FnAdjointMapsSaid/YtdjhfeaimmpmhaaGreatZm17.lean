/- Walks: treesTo of the program; l03All of the reference. (printed by allgen.py) | What newForms of the program lays: the trees, and the cuts of each by places. No walk. | Plain: what maps reckon with: sizes and densities of the trees at the places, the exact map, agreement. No walk. | Plain: the cuts of a tree as the reference reckons them, with every premise of the walk; they are the program's. -/
import Derived.Test.YtdjhfeaimmpmhaaGreatZm12
import Derived.Test.YtdjhfeaimmpmhaaGreatZm16
import Derived.Test.YtdjhfeaimmpmhaaGreatZm5
import Derived.Test.YtdjhfeaimmpmhaaGreatZm1
set_option maxRecDepth 100000
set_option linter.unusedVariables false
set_option linter.unusedSimpArgs false
namespace Go.Proofs.YtdjhfeaimmpmhaaGreat
open Go.RowKit

/-- the lists for 1 to n, one after the other -/
def allG (G : Nat → List (List Nat)) (n : Nat) : List (List Nat) := (List.range n).flatMap fun k => G (k + 1)
theorem allG_succ (G : Nat → List (List Nat)) (k : Nat) : allG G (k + 1) = allG G k ++ G (k + 1) := by simp [allG, List.range_succ]
theorem allG_len {G : Nat → List (List Nat)} (hG : ∀ k, 1 ≤ k → k ≤ 8 → (G k).length ≤ 115) : ∀ n, n ≤ 8 → (allG G n).length ≤ 115 * n
  | 0, _ => by simp [allG]
  | n + 1, h => by
    rw [allG_succ, List.length_append]
    have h1 := allG_len hG n (by omega)
    have h2 := hG (n + 1) (by omega) h
    omega
theorem treesN_len {k : Nat} (h1 : 1 ≤ k) (h8 : k ≤ 8) : (treesN k).length ≤ 115 := (treesN_at h1 h8).1

theorem RR.keptAl {w w' : World} {B : Nat} {vs : List Value} {xss : List (List Int)} {v : Value} {e : TypeId} (h : RR w B vs xss) (hg : w.grownBy w' v.ownBlock) (hb : BT w e v) (hne : tI ≠ e) : RR w' B vs xss :=
  ⟨h.1, fun k u zs hu hz => (h.2 k u zs hu hz).kept hg ((h.2 k u zs hu hz).1.bt.ne hb hne)⟩
/-- a list of rows behind another one -/
theorem LA.app {w2 w' : World} {B C : Nat} {v v' : Value} {xs ys : List (List Int)} {us vs : List Value} (h1 : Own w2 B tL v us) (h2 : RR w2 B us xs) (h3 : us.Pairwise Apart) (hlt : ∀ u ∈ us, ∀ b, u.ownBlock = some b → b < C)
    (g1 : RR w2 C vs ys) (g2 : vs.Pairwise Apart) (hBC : B ≤ C) (ho : Own w' B tL v' (us ++ vs)) (hg : Grow w2 w' v v') : LA w' B v' (xs ++ ys) := by
  refine ⟨us ++ vs, ho, (h2.append (g1.mono hBC)).keptAl hg.1 h1.bt (by decide), List.pairwise_append.2 ⟨h3, g2, fun u hu x hx => ?_⟩⟩
  obtain ⟨k, hk, rfl⟩ := List.getElem_of_mem hx
  have hz : ys[k]? = some (ys[k]'(by rw [← g1.1]; exact hk)) := List.getElem?_eq_getElem _
  exact apart_of_lt (hlt u hu) (g1.2 k _ _ (List.getElem?_eq_getElem hk) hz).1.ge
theorem RR.lt {w : World} {B : Nat} {vs : List Value} {xss : List (List Int)} (h : RR w B vs xss) : ∀ u ∈ vs, ∀ b, u.ownBlock = some b → b < w.heap.size := by
  intro u hu
  obtain ⟨k, hk, rfl⟩ := List.getElem_of_mem hu
  have hz : xss[k]? = some (xss[k]'(by rw [← h.1]; exact hk)) := List.getElem?_eq_getElem _
  exact (h.2 k _ _ (List.getElem?_eq_getElem hk) hz).1.lt

set_option maxHeartbeats 4000000 in
theorem i_treesTo (w : World) (n : Nat) (h8 : n ≤ 8) :
    Calls Tryz.prog 56 #[.int .i64 n] w fun e w' => ∃ x, e = .returned x ∧ LA w' w.heap.size x ((allG treesN n).map up) ∧ Below w.heap.size w w' := by
  have HG := Lib.hid (fun k (h : k ≤ 8) => allG_len (G := treesN) (fun k h1 h2 => treesN_len h1 h2) k h)
  have HL := Lib.hid (fun k (h1 : 1 ≤ k) (h2 : k ≤ 8) => treesN_len h1 h2)
  have OL := Lib.hid (show LA (w.alloc (.cells #[] tL)) w.heap.size (.slice (some ⟨w.heap.size, 0, none⟩) 0 0) ((allG treesN 0).map up) from ⟨[], own_lit w tL [] (by simp [maxLen]), RR.nil _ _, List.Pairwise.nil⟩)
  go_enter Tryz.func56, Tryz.ntmps56
  go_wp2_with fail
  go_loopw [3, 4] (fun o x wr => ∃ k : Nat, 1 ≤ k ∧ k ≤ n + 1 ∧ x = .int .i64 k ∧ LA wr w.heap.size o ((allG treesN (k - 1)).map up) ∧ Below w.heap.size w wr) (fun _ x _ => n + 1 - (intOf x).toNat)
  case atStart => exact ⟨1, Nat.le_refl _, by omega, by go_num, OL.out, below1 _ _⟩
  case round =>
    obtain ⟨k, hk1, hk, rfl, ho, hb⟩ := hrel
    clear OL
    have HB := Lib.hid hb
    obtain ⟨us, hown, hrr, hap⟩ := ho
    have hul := hrr.1
    rw [List.length_map] at hul
    have HUL := Lib.hid (show us.length ≤ 1000 from by have := HG.out (k - 1) (by omega); omega)
    have HO := Lib.hid hown
    have HR := Lib.hid hrr
    have HAP := Lib.hid hap
    have HLT := Lib.hid hrr.lt
    obtain ⟨Ao, co, rfl, -, -⟩ := hown.cells.open_
    clear hb hown hrr hap hul
    by_cases hlt : k < n + 1
    · have hle : (k : Int) ≤ (n : Int) := by omega
      have HS := Lib.hid (show allG treesN (k + 1 - 1) = allG treesN (k - 1) ++ treesN k from by
        have h := allG_succ treesN (k - 1)
        rw [show k - 1 + 1 = k by omega] at h
        rw [Nat.add_sub_cancel]; exact h)
      have HLK := Lib.hid (HL.out k hk1 (by omega))
      have hk8 : k ≤ 8 := by omega
      go_wp2_with (first
        | (go_at_call 116; go_loud (refine (i_treesOf _ k hk1 hk8).mono ?_; rintro e w2 ⟨x2, rfl, hl2, hb2⟩; obtain ⟨vs, hown2, hrr2, hap2⟩ := hl2; have HV := Lib.hid hown2; have HR2 := Lib.hid hrr2; have HAP2 := Lib.hid hap2; have hvl := hrr2.1.trans (List.length_map ..); have HVL := Lib.hid hvl; have HB2 := Lib.hid hb2; have HO2 := Lib.hid (HO.out.below hb2); clear hown2 hrr2 hap2 hb2 hvl))
        | (at_builtin; go_loud (refine wpList_appN T_row HO2.out HV.out.cells (by have h1 := HUL.out; have h2 := HVL.out; have h3 := HLK.out; omega) (Nat.le_trans HB.out.size HB2.out.size) HR2.out.oneCell (by rfl) rfl (by rfl) (by rfl) ?_; intro v5 w5 hown5 hgr5; have HN := Lib.hid hown5; have HGR := Lib.hid hgr5; clear hown5 hgr5)))
      go_roundw
      case rel =>
        refine ⟨k + 1, by omega, by omega, by go_num, ?_, HGR.out.below (HB.out.trans (HB2.out.mono HB.out.size)) (Nat.le_trans HB.out.size HB2.out.size) HO2.out.ge⟩
        rw [HS.out, List.map_append]
        exact LA.app HO2.out (HR.out.below HB2.out) HAP.out HLT.out HR2.out HAP2.out HB.out.size HN.out HGR.out
      case measure => simp [intOf]; omega
    · have hkn : k = n + 1 := by omega
      subst hkn
      go_wp2_with fail
      go_ret
      exact ⟨_, rfl, ⟨us, HO.out, by simpa using HR.out, HAP.out⟩, HB.out⟩

set_option maxHeartbeats 4000000 in
theorem s_l03All (w : World) (n : Nat) (h8 : n ≤ 8) :
    Calls Tryz.prog 70 #[.int .i64 n] w fun e w' => ∃ x, e = .returned x ∧ LA w' w.heap.size x ((allG treesN n).map up) ∧ Below w.heap.size w w' := by
  have HG := Lib.hid (fun k (h : k ≤ 8) => allG_len (G := treesN) (fun k h1 h2 => treesN_len h1 h2) k h)
  have HL := Lib.hid (fun k (h1 : 1 ≤ k) (h2 : k ≤ 8) => treesN_len h1 h2)
  have OL := Lib.hid (show LA (w.alloc (.cells #[] tL)) w.heap.size (.slice (some ⟨w.heap.size, 0, none⟩) 0 0) ((allG treesN 0).map up) from ⟨[], own_lit w tL [] (by simp [maxLen]), RR.nil _ _, List.Pairwise.nil⟩)
  go_enter Tryz.func70, Tryz.ntmps70
  go_wp2_with fail
  go_loopw [3, 4] (fun o x wr => ∃ k : Nat, 1 ≤ k ∧ k ≤ n + 1 ∧ x = .int .i64 k ∧ LA wr w.heap.size o ((allG treesN (k - 1)).map up) ∧ Below w.heap.size w wr) (fun _ x _ => n + 1 - (intOf x).toNat)
  case atStart => exact ⟨1, Nat.le_refl _, by omega, by go_num, OL.out, below1 _ _⟩
  case round =>
    obtain ⟨k, hk1, hk, rfl, ho, hb⟩ := hrel
    clear OL
    have HB := Lib.hid hb
    obtain ⟨us, hown, hrr, hap⟩ := ho
    have hul := hrr.1
    rw [List.length_map] at hul
    have HUL := Lib.hid (show us.length ≤ 1000 from by have := HG.out (k - 1) (by omega); omega)
    have HO := Lib.hid hown
    have HR := Lib.hid hrr
    have HAP := Lib.hid hap
    have HLT := Lib.hid hrr.lt
    obtain ⟨Ao, co, rfl, -, -⟩ := hown.cells.open_
    clear hb hown hrr hap hul
    by_cases hlt : k < n + 1
    · have hle : (k : Int) ≤ (n : Int) := by omega
      have HS := Lib.hid (show allG treesN (k + 1 - 1) = allG treesN (k - 1) ++ treesN k from by
        have h := allG_succ treesN (k - 1)
        rw [show k - 1 + 1 = k by omega] at h
        rw [Nat.add_sub_cancel]; exact h)
      have HLK := Lib.hid (HL.out k hk1 (by omega))
      have hk8 : k ≤ 8 := by omega
      go_wp2_with (first
        | (go_at_call 133; go_loud (refine (s_l03Trees _ k hk1 hk8).mono ?_; rintro e w2 ⟨x2, rfl, hl2, hb2⟩; obtain ⟨vs, hown2, hrr2, hap2⟩ := hl2; have HV := Lib.hid hown2; have HR2 := Lib.hid hrr2; have HAP2 := Lib.hid hap2; have hvl := hrr2.1.trans (List.length_map ..); have HVL := Lib.hid hvl; have HB2 := Lib.hid hb2; have HO2 := Lib.hid (HO.out.below hb2); clear hown2 hrr2 hap2 hb2 hvl))
        | (at_builtin; go_loud (refine wpList_appN T_row HO2.out HV.out.cells (by have h1 := HUL.out; have h2 := HVL.out; have h3 := HLK.out; omega) (Nat.le_trans HB.out.size HB2.out.size) HR2.out.oneCell (by rfl) rfl (by rfl) (by rfl) ?_; intro v5 w5 hown5 hgr5; have HN := Lib.hid hown5; have HGR := Lib.hid hgr5; clear hown5 hgr5)))
      go_roundw
      case rel =>
        refine ⟨k + 1, by omega, by omega, by go_num, ?_, HGR.out.below (HB.out.trans (HB2.out.mono HB.out.size)) (Nat.le_trans HB.out.size HB2.out.size) HO2.out.ge⟩
        rw [HS.out, List.map_append]
        exact LA.app HO2.out (HR.out.below HB2.out) HAP.out HLT.out HR2.out HAP2.out HB.out.size HN.out HGR.out
      case measure => simp [intOf]; omega
    · have hkn : k = n + 1 := by omega
      subst hkn
      go_wp2_with fail
      go_ret
      exact ⟨_, rfl, ⟨us, HO.out, by simpa using HR.out, HAP.out⟩, HB.out⟩
end Go.Proofs.YtdjhfeaimmpmhaaGreat

set_option maxRecDepth 100000
set_option linter.unusedVariables false
set_option linter.unusedSimpArgs false
namespace Go.Proofs.YtdjhfeaimmpmhaaGreat
open Go.RowKit

abbrev tMc : TypeId := 121
abbrev tMl : TypeId := 114
abbrev MC := (List Nat × Nat) × Nat
/-- a cut by places -/
def mcU (xs : List (List Nat)) (c : CU) : MC := ((c.1.1.map (idxN xs), bif Nat.blt 0 c.1.2.length then idxN xs c.1.2 else 0), c.2)
/-- the cuts of a tree by places -/
def cutsI (xs : List (List Nat)) (t : List Nat) : List MC := match splV 9 t with
  | some r => (cutsU r).map (mcU xs)
  | none => []

def McD (w : World) (B : Nat) (c : List Value) (x : MC) : Prop := ∃ s, c = [.int .i64 (x.2 : Nat), s, .int .i64 (x.1.2 : Nat)] ∧ OwnInts w B tN s (up x.1.1)
def Mcs (w : World) (B : Nat) (css : List (List Value)) (xs : List MC) : Prop := css.length = xs.length ∧ ∀ (i : Nat) (c : List Value) (x : MC), css[i]? = some c → xs[i]? = some x → McD w B c x
theorem McD.below {w w' : World} {B : Nat} {c : List Value} {x : MC} (h : McD w B c x) (hb : Below w.heap.size w w') : McD w' B c x := by
  obtain ⟨s, rfl, h⟩ := h
  exact ⟨s, rfl, h.below hb⟩
theorem McD.mono {w : World} {B B' : Nat} {c : List Value} {x : MC} (h : McD w B c x) (hB : B' ≤ B) : McD w B' c x := by
  obtain ⟨s, rfl, h⟩ := h
  exact ⟨s, rfl, h.mono hB⟩
theorem McD.kept {w w' : World} {B : Nat} {c : List Value} {x : MC} {e : TypeId} {v : Value} (h : McD w B c x) (hg : w.grownBy w' v.ownBlock) (hb : BT w e v) (hne : tN ≠ e) : McD w' B c x := by
  obtain ⟨s, rfl, h⟩ := h
  exact ⟨s, rfl, h.kept hg (h.1.bt.ne hb hne)⟩
section
variable {w w' : World} {B : Nat} {css : List (List Value)} {xs : List MC}
theorem Mcs.nil (w : World) (B : Nat) : Mcs w B [] [] := ⟨rfl, fun i c x h => by simp at h⟩
theorem Mcs.below (h : Mcs w B css xs) (hb : Below w.heap.size w w') : Mcs w' B css xs := ⟨h.1, fun i c x hc hx => (h.2 i c x hc hx).below hb⟩
theorem Mcs.mono {B' : Nat} (h : Mcs w B css xs) (hB : B' ≤ B) : Mcs w B' css xs := ⟨h.1, fun i c x hc hx => (h.2 i c x hc hx).mono hB⟩
theorem Mcs.kept {v : Value} {e : TypeId} (h : Mcs w B css xs) (hg : w.grownBy w' v.ownBlock) (hb : BT w e v) (hne : tN ≠ e) : Mcs w' B css xs := ⟨h.1, fun i c x hc hx => (h.2 i c x hc hx).kept hg hb hne⟩
theorem Mcs.snoc {c : List Value} {x : MC} (h : Mcs w B css xs) (hx : McD w B c x) : Mcs w B (css ++ [c]) (xs ++ [x]) := by
  refine ⟨by simp [h.1], fun i c' x' hc hx' => ?_⟩
  by_cases hlt : i < css.length
  · rw [List.getElem?_append_left hlt] at hc
    rw [List.getElem?_append_left (by rw [← h.1]; exact hlt)] at hx'
    exact h.2 i c' x' hc hx'
  · have hkl := (List.getElem?_eq_some_iff.1 hc).1
    simp at hkl
    have hi : i = css.length := by omega
    rw [hi] at hc
    rw [hi, h.1] at hx'
    simp at hc hx'
    subst hc hx'
    exact hx
end
/-- a list of cuts by places, one's own -/
def ML (w : World) (B : Nat) (v : Value) (xs : List MC) : Prop := ∃ css, OwnK w B tMc 3 v css ∧ Mcs w B css xs
theorem ML.below {w w' : World} {B : Nat} {v : Value} {xs : List MC} (h : ML w B v xs) (hb : Below w.heap.size w w') : ML w' B v xs := by
  obtain ⟨css, h1, h2⟩ := h
  exact ⟨css, h1.below hb, h2.below hb⟩
theorem ML.kept {w w' : World} {B : Nat} {v : Value} {xs : List MC} {e : TypeId} {u : Value} (h : ML w B v xs) (hg : w.grownBy w' u.ownBlock) (hb : BT w e u) (h1 : tN ≠ e) (h2 : tMc ≠ e) : ML w' B v xs := by
  obtain ⟨css, h3, h4⟩ := h
  exact ⟨css, h3.kept hg (h3.bt.ne hb h2), h4.kept hg hb h1⟩
/-- a list of such lists: read only -/
def Mls (w : World) (B : Nat) (us : List Value) (xss : List (List MC)) : Prop := us.length = xss.length ∧ ∀ (i : Nat) (u : Value) (x : List MC), us[i]? = some u → xss[i]? = some x → ML w B u x
section
variable {w w' : World} {B : Nat} {us : List Value} {xss : List (List MC)}
theorem Mls.nil (w : World) (B : Nat) : Mls w B [] [] := ⟨rfl, fun i c x h => by simp at h⟩
theorem Mls.below (h : Mls w B us xss) (hb : Below w.heap.size w w') : Mls w' B us xss := ⟨h.1, fun i c x hc hx => (h.2 i c x hc hx).below hb⟩
theorem Mls.kept {v : Value} {e : TypeId} (h : Mls w B us xss) (hg : w.grownBy w' v.ownBlock) (hb : BT w e v) (h1 : tN ≠ e) (h2 : tMc ≠ e) : Mls w' B us xss := ⟨h.1, fun i c x hc hx => (h.2 i c x hc hx).kept hg hb h1 h2⟩
theorem Mls.snoc {u : Value} {x : List MC} (h : Mls w B us xss) (hx : ML w B u x) : Mls w B (us ++ [u]) (xss ++ [x]) := by
  refine ⟨by simp [h.1], fun i c' x' hc hx' => ?_⟩
  by_cases hlt : i < us.length
  · rw [List.getElem?_append_left hlt] at hc
    rw [List.getElem?_append_left (by rw [← h.1]; exact hlt)] at hx'
    exact h.2 i c' x' hc hx'
  · have hkl := (List.getElem?_eq_some_iff.1 hc).1
    simp at hkl
    have hi : i = us.length := by omega
    rw [hi] at hc
    rw [hi, h.1] at hx'
    simp at hc hx'
    subst hc hx'
    exact hx
end
def T6n : List (List Nat) := allG treesN 6
theorem T6n_len : T6n.length = 37 := by decide +kernel
theorem T6n_split {t : List Nat} (h : t ∈ T6n) : ∃ r, splV 9 t = some r ∧ okLs r = true := by
  obtain ⟨n, hn, ht⟩ := List.mem_flatMap.1 h
  have h1 := List.all_eq_true.1 (List.all_eq_true.1 splV_6 n hn) t ht
  cases hs : splV 9 t with
  | none => rw [hs] at h1; cases h1
  | some r => rw [hs] at h1; exact ⟨r, rfl, h1⟩
/-- what newForms returns -/
def Frm (w : World) (B : Nat) (v : Value) : Prop := ∃ x y us, v = .agg #[x, y] ∧ LA w B x (T6n.map up) ∧ Own w B tMl y us ∧ Mls w B us (T6n.map (cutsI T6n))
end Go.Proofs.YtdjhfeaimmpmhaaGreat

set_option maxRecDepth 100000
set_option linter.unusedVariables false
set_option linter.unusedSimpArgs false
namespace Go.Proofs.YtdjhfeaimmpmhaaGreat
open Go.RowKit

/-- the number of nodes of the tree at a place -/
def szN (k : Nat) : Nat := (0 :: T6n.map List.length).getD k 0
theorem szN_zero : szN 0 = 0 := rfl
theorem szN_succ {i : Nat} {t : List Nat} (h : T6n[i]? = some t) : szN (i + 1) = t.length := by
  unfold szN
  simp [List.getD, h]
theorem szN_le (k : Nat) : szN k ≤ 6 := by
  have h : (0 :: T6n.map List.length).all (fun n => Nat.ble n 6) = true := by decide +kernel
  rw [List.all_eq_true] at h
  unfold szN
  rw [List.getD_eq_getElem?_getD]
  cases hk : (0 :: T6n.map List.length)[k]? with
  | none => simp
  | some n => exact Nat.le_of_ble_eq_true (h n (List.mem_of_getElem? hk))
theorem szN_pos {i : Nat} (h : i < 37) : 1 ≤ szN (i + 1) := by
  have ha : T6n.all (fun t => Nat.ble 1 t.length) = true := by decide +kernel
  rw [List.all_eq_true] at ha
  have ht : T6n[i]? = some (T6n[i]'(by rw [T6n_len]; exact h)) := List.getElem?_eq_getElem _
  rw [szN_succ ht]
  exact Nat.le_of_ble_eq_true (ha _ (List.mem_of_getElem? ht))
/-- what is known of the trees -/
def okT6 (t : List Nat) : Bool := lvl t && (Nat.ble 1 t.length && Nat.ble t.length 6 && t.all fun l => Nat.ble l 6)
theorem okT6_all : T6n.all okT6 = true := by decide +kernel
theorem T6n_at {t : List Nat} (h : t ∈ T6n) : lvl t = true ∧ 1 ≤ t.length ∧ t.length ≤ 6 ∧ ∀ l ∈ t, l ≤ 6 := by
  have h1 := okT6_all
  rw [List.all_eq_true] at h1
  have h2 := h1 t h
  unfold okT6 at h2
  simp only [Bool.and_eq_true, List.all_eq_true] at h2
  exact ⟨h2.1, Nat.le_of_ble_eq_true h2.2.1.1, Nat.le_of_ble_eq_true h2.2.1.2, fun l hl => Nat.le_of_ble_eq_true (h2.2.2 l hl)⟩

/-! ### densities -/
def denL (D : List Nat → Option Nat) : List (List Nat) → Nat → Option Nat
  | [], a => some a
  | b :: bs, a => match D b with
    | none => none
    | some d => bif Nat.ble (a * d) 1000000 then denL D bs (a * d) else none
def denO : Nat → List Nat → Option Nat
  | 0, _ => none
  | f + 1, t => match brO t with
    | none => none
    | some bs => denL (denO f) bs t.length
theorem denL_cons {D : List Nat → Option Nat} {b : List Nat} {bs : List (List Nat)} {a r : Nat} (h : denL D (b :: bs) a = some r) : ∃ d, D b = some d ∧ a * d ≤ 1000000 ∧ denL D bs (a * d) = some r := by
  rw [denL] at h
  cases h1 : D b with
  | none => rw [h1] at h; cases h
  | some d =>
    rw [h1] at h
    simp only at h
    cases h2 : Nat.ble (a * d) 1000000 with
    | false => rw [h2] at h; cases h
    | true => rw [h2] at h; exact ⟨d, rfl, Nat.le_of_ble_eq_true h2, h⟩
theorem denO_succ {f : Nat} {t : List Nat} {r : Nat} (h : denO (f + 1) t = some r) : ∃ bs, brO t = some bs ∧ denL (denO f) bs t.length = some r := by
  rw [denO] at h
  cases h1 : brO t with
  | none => rw [h1] at h; cases h
  | some bs => rw [h1] at h; exact ⟨bs, rfl, h⟩
/-! ### the exact map -/
def exV (t : List Nat) : Nat := match denO 9 t with
  | some d => d ^ 10005 % 10007
  | none => 0
def exN : List Nat := 1 :: T6n.map exV
def EX : List Int := up exN
theorem EX_len : EX.length = 38 := by
  unfold EX exN
  rw [up_len, List.length_cons, List.length_map, T6n_len]
def denB (t : List Nat) : Bool := match denO 9 t with
  | some d => Nat.ble 1 d && Nat.ble d 720 && Nat.beq (d * exV t % 10007) 1
  | none => false
theorem denB_all : T6n.all denB = true := by decide +kernel
theorem T6n_den {t : List Nat} (h : t ∈ T6n) : ∃ d, denO 9 t = some d ∧ 1 ≤ d ∧ d ≤ 720 ∧ d * exV t % 10007 = 1 ∧ exV t = d ^ 10005 % 10007 := by
  have h1 := denB_all
  rw [List.all_eq_true] at h1
  have h2 := h1 t h
  unfold denB at h2
  cases hd : denO 9 t with
  | none => rw [hd] at h2; cases h2
  | some d =>
    rw [hd] at h2
    simp only [Bool.and_eq_true] at h2
    refine ⟨d, rfl, Nat.le_of_ble_eq_true h2.1.1, Nat.le_of_ble_eq_true h2.1.2, Nat.eq_of_beq_eq_true h2.2, ?_⟩
    unfold exV
    rw [hd]
theorem pw_nat (d k : Nat) : pw (d : Int) k = ((d ^ k % 10007 : Nat) : Int) := by
  unfold pw
  rw [Int.natCast_emod, Int.natCast_pow]
  rfl
theorem exV_pw {t : List Nat} {d : Nat} (h : denO 9 t = some d) : pw (d : Int) 10005 = (exV t : Nat) := by
  rw [pw_nat]
  unfold exV
  rw [h]
theorem exV_le (t : List Nat) : exV t ≤ 10006 := by
  unfold exV
  cases denO 9 t with
  | none => simp
  | some d => have := Nat.mod_lt (d ^ 10005) (show 10007 > 0 by omega); simp only; omega
theorem EX_nums : ∀ z ∈ EX, 0 ≤ z ∧ z ≤ 10006 := by
  intro z hz
  unfold EX up exN at hz
  obtain ⟨n, hn, rfl⟩ := List.mem_map.1 hz
  rcases List.mem_cons.1 hn with rfl | hn
  · omega
  · obtain ⟨t, -, rfl⟩ := List.mem_map.1 hn
    have := exV_le t
    omega
theorem EX_succ {i : Nat} {t : List Nat} (h : T6n[i]? = some t) : EX[i + 1]? = some ((exV t : Nat) : Int) := by
  unfold EX exN
  simp [up, h]

/-! ### agreement -/
/-- a map is cut down to some numbers of nodes -/
def kpZ (p : Nat → Bool) (a : List Int) : List Int := (List.range 38).map fun k => if p (szN k) then a.getD k 0 else 0
def kpT (p : Nat → Bool) (a : List Int) (j : Nat) : List Int := (List.range 38).map fun k => if k < j ∧ p (szN k) = true then a.getD k 0 else 0
theorem kpT_zero (p : Nat → Bool) (a : List Int) : kpT p a 0 = List.replicate 38 0 := by
  apply List.ext_getElem
  · simp [kpT]
  · intro i h1 h2
    rw [List.getElem_replicate]
    simp [kpT]
theorem kpT_full (p : Nat → Bool) (a : List Int) : kpT p a 38 = kpZ p a := by
  apply List.ext_getElem
  · simp [kpT, kpZ]
  · intro i h1 h2
    have : i < 38 := by simpa [kpT] using h1
    simp [kpT, kpZ, this]
theorem kpT_skip {p : Nat → Bool} {a : List Int} {j : Nat} (h : p (szN j) = false) : kpT p a (j + 1) = kpT p a j := by
  apply List.ext_getElem
  · simp [kpT]
  · intro i h1 h2
    simp only [kpT, List.getElem_map, List.getElem_range]
    by_cases e : i = j
    · subst e; simp [h]
    · have : (i < j + 1) ↔ (i < j) := by omega
      simp [this]
theorem kpT_take {p : Nat → Bool} {a : List Int} {j : Nat} (h : p (szN j) = true) : kpT p a (j + 1) = (kpT p a j).set j (a.getD j 0) := by
  apply List.ext_getElem
  · simp [kpT]
  · intro i h1 h2
    rw [List.getElem_set]
    simp only [kpT, List.getElem_map, List.getElem_range]
    by_cases e : i = j
    · subst e; simp [h]
    · have : (i < j + 1) ↔ (i < j) := by omega
      have e' : ¬ j = i := fun x => e x.symm
      simp [this, e']
theorem kpT_len (p : Nat → Bool) (a : List Int) (j : Nat) : (kpT p a j).length = 38 := by simp [kpT]
theorem kpZ_len (p : Nat → Bool) (a : List Int) : (kpZ p a).length = 38 := by simp [kpZ]
end Go.Proofs.YtdjhfeaimmpmhaaGreat

set_option maxRecDepth 100000
set_option linter.unusedVariables false
set_option linter.unusedSimpArgs false
namespace Go.Proofs.YtdjhfeaimmpmhaaGreat
open Go.RowKit

abbrev SC := SP × Nat
/-! ### the order of cuts: 0 for equal ones, 1 for less, 2 for greater -/
def scan5 : List (List Nat) → List (List Nat) → Nat
  | x :: f, y :: g => bif befN x y then 1 else bif befN y x then 2 else scan5 f g
  | _, _ => 0
def cmp5 (f g : List (List Nat)) : Nat := bif Nat.beq f.length g.length then scan5 f g else bif Nat.blt f.length g.length then 1 else 2
def ord5 (a b : SP) : Nat := bif Nat.beq (ndN a.1) (ndN b.1) then (match cmp5 a.1 b.1 with
    | 0 => cmp5 a.2 b.2
    | k + 1 => k + 1)
  else bif Nat.blt (ndN a.1) (ndN b.1) then 1 else 2
def cod5 : Nat → Int
  | 0 => 0
  | 1 => -1
  | _ => 1
/-! ### one more cut -/
def step5 (cut : SC) (st : List SC × Bool) (own : SC) : List SC × Bool := match st.2 with
  | true => (st.1 ++ [own], true)
  | false => match ord5 cut.1 own.1 with
    | 0 => (st.1 ++ [(own.1, own.2 + cut.2)], true)
    | 1 => (st.1 ++ [cut] ++ [own], true)
    | _ => (st.1 ++ [own], false)
def put5S (cut : SC) (l : List SC) : List SC × Bool := l.foldl (step5 cut) ([], false)
def put5 (l : List SC) (cut : SC) : List SC := match (put5S cut l).2 with
  | true => (put5S cut l).1
  | false => (put5S cut l).1 ++ [cut]
def tim5 (x y : SC) : SC := ((srtB (x.1.1 ++ y.1.1), srtB (x.1.2 ++ y.1.2)), x.2 * y.2)
def row5 (b : List SC) (x : SC) (out : List SC) : List SC := b.foldl (fun out y => put5 out (tim5 x y)) out
def times5 (a b : List SC) : List SC := a.foldl (fun out x => row5 b x out) []
/-! ### premises -/
def okC5 (x : SC) : Bool := okS1 x.1 && Nat.ble x.2 100
def okL5 (l : List SC) : Bool := Nat.ble l.length 100 && l.all okC5
def loop5 (g : List Nat → Option (List SC)) : List (List Nat) → List SC → Option (List SC)
  | [], acc => some acc
  | b :: bs, acc => match g b with
    | none => none
    | some lb => bif okL5 acc && (okL5 lb && okL5 (times5 acc lb)) then loop5 g bs (times5 acc lb) else none
def root5 (x : SC) : Option SC := bif okT1 (rootN x.1.2) && Nat.ble (brLen x.1.2) 1000 then match canO 9 (rootN x.1.2) with
    | none => none
    | some r => bif okT1 r then some ((x.1.1, [r]), x.2) else none
  else none
def tree5 : Nat → List Nat → Option (List SC)
  | 0, _ => none
  | f + 1, t => bif okT1 t then match canO 9 t with
      | none => none
      | some c => bif okT1 c then match brO c with
        | none => none
        | some ps => bif Nat.ble ps.length 100 && ps.all okT1 then match loop5 (tree5 f) (srtB ps) [(([], []), 1)] with
          | none => none
          | some l => bif okL5 l then match mapO root5 l with
            | none => none
            | some l2 => bif okL5 l2 && okL5 (l2.foldl put5 [(([t], []), 1)]) then some (l2.foldl put5 [(([t], []), 1)]) else none
          else none
        else none
      else none
  else none
/-- the cuts of a tree -/
def cut5 (x : SC) : CU := ((x.1.1, x.1.2.headD []), x.2)
/-- by places -/
def mcR (c : CU) : MC := ((c.1.1.map (fndN T6n), fndN T6n c.1.2), c.2)
def eqMC (x y : MC) : Bool := eqN x.1.1 y.1.1 && (Nat.beq x.1.2 y.1.2 && Nat.beq x.2 y.2)
def eqML : List MC → List MC → Bool
  | [], [] => true
  | x :: xs, y :: ys => eqMC x y && eqML xs ys
  | _, _ => false
def okMC (n : Nat) (x : MC) : Bool := x.1.1.all (fun p => Nat.ble 1 p && Nat.ble p n) && (Nat.ble x.1.2 n && (Nat.ble x.1.1.length 100 && Nat.ble x.2 100))
/-- the places in the cuts of tree n: the crown's go up to its own, the trunk's too -/
def okCt (n : Nat) : Bool := match tree5 9 (T6n.getD n []) with
  | some l => eqML (cutsI T6n (T6n.getD n [])) (CTab.getD n []) && (eqML ((l.map cut5).map mcR) (CTab.getD n []) && (CTab.getD n []).all (okMC (n + 1)))
  | none => false
theorem okCt_all : (List.range 37).all okCt = true := by decide +kernel
theorem eqML_iff : ∀ {xs ys : List MC}, eqML xs ys = true → xs = ys
  | [], [], _ => rfl
  | [], _ :: _, h => by cases h
  | _ :: _, [], h => by cases h
  | ((a, b), c) :: xs, ((a', b'), c') :: ys, h => by
    unfold eqML eqMC at h
    simp only [Bool.and_eq_true] at h
    rw [eqML_iff h.2, eqN_iff.1 h.1.1, Nat.eq_of_beq_eq_true h.1.2.1, Nat.eq_of_beq_eq_true h.1.2.2]

theorem cut_at {n : Nat} (h : n < 37) : ∃ l, tree5 9 (T6n.getD n []) = some l ∧ cutsI T6n (T6n.getD n []) = CTab.getD n [] ∧ (l.map cut5).map mcR = CTab.getD n [] ∧ ∀ x ∈ CTab.getD n [], (∀ p ∈ x.1.1, 1 ≤ p ∧ p ≤ n + 1) ∧ x.1.2 ≤ n + 1 ∧ x.1.1.length ≤ 100 ∧ x.2 ≤ 100 := by
  have h1 := okCt_all
  rw [List.all_eq_true] at h1
  have h2 := h1 n (by simpa using h)
  unfold okCt at h2
  cases ht : tree5 9 (T6n.getD n []) with
  | none => rw [ht] at h2; cases h2
  | some l =>
    rw [ht] at h2
    simp only [Bool.and_eq_true, List.all_eq_true] at h2
    refine ⟨l, rfl, eqML_iff h2.1, eqML_iff h2.2.1, fun x hx => ?_⟩
    have h3 := h2.2.2 x hx
    unfold okMC at h3
    simp only [Bool.and_eq_true, List.all_eq_true] at h3
    exact ⟨fun p hp => ⟨Nat.le_of_ble_eq_true (h3.1 p hp).1, Nat.le_of_ble_eq_true (h3.1 p hp).2⟩, Nat.le_of_ble_eq_true h3.2.1, Nat.le_of_ble_eq_true h3.2.2.1, Nat.le_of_ble_eq_true h3.2.2.2⟩

/-! ### bounds on the way -/
def Bd5 (l : List SC) (n M : Nat) : Prop := l.length ≤ n ∧ ∀ x ∈ l, x.2 ≤ M
theorem step5_bd {cut own : SC} {st : List SC × Bool} {n M : Nat} (h : st.1.length ≤ n + (bif st.2 then 1 else 0)) (h2 : ∀ x ∈ st.1, x.2 ≤ M + cut.2) (ho : own.2 ≤ M) :
    (step5 cut st own).1.length ≤ n + 1 + (bif (step5 cut st own).2 then 1 else 0) ∧ ∀ x ∈ (step5 cut st own).1, x.2 ≤ M + cut.2 := by
  obtain ⟨out, d⟩ := st
  cases d with
  | true =>
    show (out ++ [own]).length ≤ n + 1 + 1 ∧ ∀ x ∈ out ++ [own], x.2 ≤ M + cut.2
    simp only [cond_true] at h
    refine ⟨by simp; omega, fun x hx => ?_⟩
    rcases List.mem_append.1 hx with hx | hx
    · exact h2 x hx
    · simp at hx; subst hx; omega
  | false =>
    simp only [cond_false] at h
    unfold step5
    simp only
    split
    · simp only [cond_true]
      refine ⟨by simp; omega, fun x hx => ?_⟩
      rcases List.mem_append.1 hx with hx | hx
      · exact h2 x hx
      · simp at hx; subst hx; simp only; omega
    · simp only [cond_true]
      refine ⟨by simp; omega, fun x hx => ?_⟩
      simp only [List.mem_append, List.mem_singleton] at hx
      rcases hx with (hx | rfl) | rfl
      · exact h2 x hx
      · omega
      · omega
    · simp only [cond_false]
      refine ⟨by simp; omega, fun x hx => ?_⟩
      rcases List.mem_append.1 hx with hx | hx
      · exact h2 x hx
      · simp at hx; subst hx; omega
theorem put5S_bd {cut : SC} {M : Nat} : ∀ (l : List SC) (st : List SC × Bool) (n : Nat), st.1.length ≤ n + (bif st.2 then 1 else 0) → (∀ x ∈ st.1, x.2 ≤ M + cut.2) → (∀ x ∈ l, x.2 ≤ M) →
    (l.foldl (step5 cut) st).1.length ≤ n + l.length + (bif (l.foldl (step5 cut) st).2 then 1 else 0) ∧ ∀ x ∈ (l.foldl (step5 cut) st).1, x.2 ≤ M + cut.2
  | [], st, n, h, h2, _ => ⟨by simpa using h, h2⟩
  | y :: l, st, n, h, h2, h3 => by
    obtain ⟨a, b⟩ := step5_bd (own := y) h h2 (h3 y (by simp))
    have := put5S_bd l (step5 cut st y) (n + 1) a b fun x hx => h3 x (by simp [hx])
    rw [List.foldl_cons, List.length_cons]
    exact ⟨by omega, this.2⟩
theorem put5S_bd0 {cut : SC} {M : Nat} {l : List SC} (h : ∀ x ∈ l, x.2 ≤ M) : (put5S cut l).1.length ≤ l.length + (bif (put5S cut l).2 then 1 else 0) ∧ ∀ x ∈ (put5S cut l).1, x.2 ≤ M + cut.2 := by
  have := put5S_bd (cut := cut) l ([], false) 0 (by simp) (by simp) h
  rw [Nat.zero_add] at this
  exact this
theorem put5_bd {cut : SC} {l : List SC} {n M : Nat} (h : Bd5 l n M) : Bd5 (put5 l cut) (n + 1) (M + cut.2) := by
  obtain ⟨a, b⟩ := put5S_bd0 (cut := cut) h.2
  have hl := h.1
  unfold put5
  split
  · next e => rw [e, cond_true] at a; exact ⟨by omega, b⟩
  · next e =>
    rw [e, cond_false] at a
    refine ⟨by simp; omega, fun x hx => ?_⟩
    rcases List.mem_append.1 hx with hx | hx
    · exact b x hx
    · simp at hx; subst hx; omega
theorem put5S_snoc (cut : SC) (l : List SC) (x : SC) : put5S cut (l ++ [x]) = step5 cut (put5S cut l) x := by simp [put5S]
theorem row5_snoc (b : List SC) (x y : SC) (out : List SC) : row5 (b ++ [y]) x out = put5 (row5 b x out) (tim5 x y) := by simp [row5]
theorem row5_bd {x : SC} {out : List SC} {n M K L : Nat} (ho : Bd5 out n M) (hx : x.2 ≤ K) : ∀ b : List SC, (∀ y ∈ b, y.2 ≤ L) → Bd5 (row5 b x out) (n + b.length) (M + b.length * (K * L)) := by
  intro b
  induction b generalizing out n M with
  | nil => intro _; simpa [row5] using ho
  | cons y b ih =>
    intro h
    have h1 : (tim5 x y).2 ≤ K * L := Nat.mul_le_mul hx (h y (by simp))
    have h2 := put5_bd (cut := tim5 x y) ho
    have h3 : Bd5 (put5 out (tim5 x y)) (n + 1) (M + K * L) := ⟨h2.1, fun z hz => by have := h2.2 z hz; omega⟩
    have h4 := ih h3 fun z hz => h z (by simp [hz])
    have e : row5 (y :: b) x out = row5 b x (put5 out (tim5 x y)) := rfl
    rw [e]
    refine ⟨by have := h4.1; rw [List.length_cons]; omega, fun z hz => ?_⟩
    have h5 := h4.2 z hz
    rw [List.length_cons, Nat.add_mul]
    omega
theorem times5_snoc (a b : List SC) (x : SC) : times5 (a ++ [x]) b = row5 b x (times5 a b) := by simp [times5]
theorem times5_bd {b : List SC} {K L : Nat} (hb : ∀ y ∈ b, y.2 ≤ L) : ∀ k (a : List SC), (∀ x ∈ a, x.2 ≤ K) → a.length = k → Bd5 (times5 a b) (k * b.length) (k * (b.length * (K * L))) := by
  intro k
  induction k with
  | zero => intro a _ h; have := List.eq_nil_of_length_eq_zero h; subst this; exact ⟨by simp [times5], by simp [times5]⟩
  | succ k ih =>
    intro a ha h
    obtain ⟨a', x, rfl⟩ : ∃ a' x, a = a' ++ [x] := by
      have hne : a ≠ [] := fun e => by rw [e] at h; cases h
      exact ⟨a.dropLast, a.getLast hne, (List.dropLast_concat_getLast hne).symm⟩
    have h1 := ih a' (fun z hz => ha z (by simp [hz])) (by simpa using h)
    rw [times5_snoc]
    have h2 := row5_bd h1 (ha x (by simp)) b hb
    refine ⟨by have := h2.1; rw [Nat.add_mul]; omega, fun z hz => ?_⟩
    have := h2.2 z hz
    rw [Nat.add_mul]
    omega
theorem okC5_of {x : SC} (h : okC5 x = true) : (SmallF x.1.1 ∧ SmallF x.1.2) ∧ (∀ b ∈ x.1.1, b.length ≤ 50 ∧ ∀ l ∈ b, l ≤ 1000) ∧ (∀ b ∈ x.1.2, b.length ≤ 50 ∧ ∀ l ∈ b, l ≤ 1000) ∧ x.2 ≤ 100 := by
  unfold okC5 okS1 at h
  simp only [Bool.and_eq_true] at h
  exact ⟨⟨(okF1_of h.1.1).1, (okF1_of h.1.2).1⟩, (okF1_of h.1.1).2, (okF1_of h.1.2).2, Nat.le_of_ble_eq_true h.2⟩
theorem okL5_of {l : List SC} (h : okL5 l = true) : l.length ≤ 100 ∧ ∀ x ∈ l, okC5 x = true := by
  unfold okL5 at h
  rw [Bool.and_eq_true, List.all_eq_true] at h
  exact ⟨Nat.le_of_ble_eq_true h.1, h.2⟩
theorem loop5_cons {g : List Nat → Option (List SC)} {b : List Nat} {bs : List (List Nat)} {acc r : List SC} (h : loop5 g (b :: bs) acc = some r) : ∃ lb, g b = some lb ∧ okL5 acc = true ∧ okL5 lb = true ∧ okL5 (times5 acc lb) = true ∧ loop5 g bs (times5 acc lb) = some r := by
  rw [loop5] at h
  cases h1 : g b with
  | none => rw [h1] at h; cases h
  | some lb =>
    rw [h1] at h
    simp only at h
    cases h2 : okL5 acc with
    | false => rw [h2] at h; cases h
    | true =>
      cases h3 : okL5 lb with
      | false => rw [h2, h3] at h; cases h
      | true =>
        cases h4 : okL5 (times5 acc lb) with
        | false => rw [h2, h3, h4] at h; cases h
        | true => rw [h2, h3, h4] at h; exact ⟨lb, rfl, rfl, h3, h4, h⟩
theorem root5_some {s s' : SC} (h : root5 s = some s') : okT1 (rootN s.1.2) = true ∧ brLen s.1.2 ≤ 1000 ∧ ∃ r, canO 9 (rootN s.1.2) = some r ∧ okT1 r = true ∧ s' = ((s.1.1, [r]), s.2) := by
  unfold root5 at h
  cases h1 : okT1 (rootN s.1.2) with
  | false => rw [h1] at h; cases h
  | true =>
    cases h2 : Nat.ble (brLen s.1.2) 1000 with
    | false => rw [h1, h2] at h; cases h
    | true =>
      rw [h1, h2] at h
      simp only [Bool.and_self, cond_true] at h
      refine ⟨rfl, Nat.le_of_ble_eq_true h2, ?_⟩
      cases h3 : canO 9 (rootN s.1.2) with
      | none => rw [h3] at h; cases h
      | some r =>
        rw [h3] at h
        simp only at h
        cases h4 : okT1 r with
        | false => rw [h4] at h; cases h
        | true => rw [h4] at h; injection h with h; exact ⟨r, rfl, h4, h.symm⟩
theorem tree5_succ {f : Nat} {t : List Nat} {r : List SC} (h : tree5 (f + 1) t = some r) : okT1 t = true ∧ ∃ c ps l l2, canO 9 t = some c ∧ okT1 c = true ∧ brO c = some ps ∧ ps.length ≤ 100 ∧ (∀ p ∈ ps, okT1 p = true) ∧ loop5 (tree5 f) (srtB ps) [(([], []), 1)] = some l ∧ okL5 l = true ∧ mapO root5 l = some l2 ∧ okL5 l2 = true ∧ okL5 r = true ∧ r = l2.foldl put5 [(([t], []), 1)] := by
  rw [tree5] at h
  cases h1 : okT1 t with
  | false => rw [h1] at h; cases h
  | true =>
    rw [h1] at h
    refine ⟨rfl, ?_⟩
    simp only [cond_true] at h
    cases h2 : canO 9 t with
    | none => rw [h2] at h; cases h
    | some c =>
      rw [h2] at h
      simp only at h
      cases h3 : okT1 c with
      | false => rw [h3] at h; cases h
      | true =>
        rw [h3] at h
        simp only [cond_true] at h
        cases h4 : brO c with
        | none => rw [h4] at h; cases h
        | some ps =>
          rw [h4] at h
          simp only at h
          cases h5 : Nat.ble ps.length 100 with
          | false => rw [h5] at h; cases h
          | true =>
            cases h6 : ps.all okT1 with
            | false => rw [h5, h6] at h; cases h
            | true =>
              rw [h5, h6] at h
              simp only [Bool.and_self, cond_true] at h
              cases h7 : loop5 (tree5 f) (srtB ps) [(([], []), 1)] with
              | none => rw [h7] at h; cases h
              | some l =>
                rw [h7] at h
                simp only at h
                cases h8 : okL5 l with
                | false => rw [h8] at h; cases h
                | true =>
                  rw [h8] at h
                  simp only [cond_true] at h
                  cases h9 : mapO root5 l with
                  | none => rw [h9] at h; cases h
                  | some l2 =>
                    rw [h9] at h
                    simp only at h
                    cases h10 : okL5 l2 with
                    | false => rw [h10] at h; cases h
                    | true =>
                      cases h11 : okL5 (l2.foldl put5 [(([t], []), 1)]) with
                      | false => rw [h10, h11] at h; cases h
                      | true =>
                        rw [h10, h11] at h
                        simp only [Bool.and_self, cond_true] at h
                        injection h with h
                        rw [List.all_eq_true] at h6
                        exact ⟨c, ps, l, l2, rfl, h3, h4, Nat.le_of_ble_eq_true h5, h6, h7, h8, h9, h10, by rw [← h]; exact h11, h.symm⟩
end Go.Proofs.YtdjhfeaimmpmhaaGreat

