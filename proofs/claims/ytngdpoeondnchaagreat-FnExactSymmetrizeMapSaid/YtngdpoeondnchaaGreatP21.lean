/- What newForms of the program lays: the trees, and the cuts of each by places. No walk. | Plain: what maps reckon with: sizes and densities of the trees at the places, the exact map, agreement. No walk. | Walks: the checks of maps, of the program and of the reference. | Walks: the codes of two characters, of the program and of the reference. (printed by codegen2.py) | Plain: products and sums of numbers. No walk. | The cuts of the trees of maps by places: the crown's, the trunk's (0 where there is none), how often. No walk. -/
import Derived.Test.YtngdpoeondnchaaGreatP19
import Derived.Test.YtngdpoeondnchaaGreatP20
import Derived.Test.YtngdpoeondnchaaGreatP6
import Derived.Test.YtngdpoeondnchaaGreatP3
import Derived.Test.YtngdpoeondnchaaGreatP2
import Derived.Test.YtngdpoeondnchaaGreatP11
set_option maxRecDepth 100000
set_option linter.unusedVariables false
set_option linter.unusedSimpArgs false
namespace Go.Proofs.YtngdpoeondnchaaGreat
open Go.RowKit

abbrev tMc : TypeId := 101
abbrev tMl : TypeId := 95
abbrev MC := (List Nat × Nat) × Nat
/-- a cut by places -/
def mcU (xs : List (List Nat)) (c : CU) : MC := ((c.1.1.map (idxN xs), bif Nat.blt 0 c.1.2.length then idxN xs c.1.2 else 0), c.2)
/-- the cuts of a tree by places -/
def cutsI (xs : List (List Nat)) (t : List Nat) : List MC := match splV 9 t with
  | some r => (cutsU r).map (mcU xs)
  | none => []

def McD (w : World) (B : Nat) (c : List Value) (x : MC) : Prop := ∃ s, c = [.int .i64 (x.2 : Nat), s, .int .i64 (x.1.2 : Nat)] ∧ OwnInts w B tN s (up x.1.1)
def Mcs (w : World) (B : Nat) (css : List (List Value)) (xs : List MC) : Prop := css.length = xs.length ∧ ∀ (i : Nat) (c : List Value) (x : MC), css[i]? = some c → xs[i]? = some x → McD w B c x
theorem McD.below {w w' : World} {B : Nat} {c : List Value} {x : MC} (h : McD w B c x) (hb : Below w.heap.size w w') : McD w' B c x := by
  obtain ⟨s, rfl, h⟩ := h
  exact ⟨s, rfl, h.below hb⟩
theorem McD.mono {w : World} {B B' : Nat} {c : List Value} {x : MC} (h : McD w B c x) (hB : B' ≤ B) : McD w B' c x := by
  obtain ⟨s, rfl, h⟩ := h
  exact ⟨s, rfl, h.mono hB⟩
theorem McD.kept {w w' : World} {B : Nat} {c : List Value} {x : MC} {e : TypeId} {v : Value} (h : McD w B c x) (hg : w.grownBy w' v.ownBlock) (hb : BT w e v) (hne : tN ≠ e) : McD w' B c x := by
  obtain ⟨s, rfl, h⟩ := h
  exact ⟨s, rfl, h.kept hg (h.1.bt.ne hb hne)⟩
section
variable {w w' : World} {B : Nat} {css : List (List Value)} {xs : List MC}
theorem Mcs.nil (w : World) (B : Nat) : Mcs w B [] [] := ⟨rfl, fun i c x h => by simp at h⟩
theorem Mcs.below (h : Mcs w B css xs) (hb : Below w.heap.size w w') : Mcs w' B css xs := ⟨h.1, fun i c x hc hx => (h.2 i c x hc hx).below hb⟩
theorem Mcs.mono {B' : Nat} (h : Mcs w B css xs) (hB : B' ≤ B) : Mcs w B' css xs := ⟨h.1, fun i c x hc hx => (h.2 i c x hc hx).mono hB⟩
theorem Mcs.kept {v : Value} {e : TypeId} (h : Mcs w B css xs) (hg : w.grownBy w' v.ownBlock) (hb : BT w e v) (hne : tN ≠ e) : Mcs w' B css xs := ⟨h.1, fun i c x hc hx => (h.2 i c x hc hx).kept hg hb hne⟩
theorem Mcs.snoc {c : List Value} {x : MC} (h : Mcs w B css xs) (hx : McD w B c x) : Mcs w B (css ++ [c]) (xs ++ [x]) := by
  refine ⟨by simp [h.1], fun i c' x' hc hx' => ?_⟩
  by_cases hlt : i < css.length
  · rw [List.getElem?_append_left hlt] at hc
    rw [List.getElem?_append_left (by rw [← h.1]; exact hlt)] at hx'
    exact h.2 i c' x' hc hx'
  · have hkl := (List.getElem?_eq_some_iff.1 hc).1
    simp at hkl
    have hi : i = css.length := by omega
    rw [hi] at hc
    rw [hi, h.1] at hx'
    simp at hc hx'
    subst hc hx'
    exact hx
end
/-- a list of cuts by places, one's own -/
def ML (w : World) (B : Nat) (v : Value) (xs : List MC) : Prop := ∃ css, OwnK w B tMc 3 v css ∧ Mcs w B css xs
theorem ML.below {w w' : World} {B : Nat} {v : Value} {xs : List MC} (h : ML w B v xs) (hb : Below w.heap.size w w') : ML w' B v xs := by
  obtain ⟨css, h1, h2⟩ := h
  exact ⟨css, h1.below hb, h2.below hb⟩
theorem ML.kept {w w' : World} {B : Nat} {v : Value} {xs : List MC} {e : TypeId} {u : Value} (h : ML w B v xs) (hg : w.grownBy w' u.ownBlock) (hb : BT w e u) (h1 : tN ≠ e) (h2 : tMc ≠ e) : ML w' B v xs := by
  obtain ⟨css, h3, h4⟩ := h
  exact ⟨css, h3.kept hg (h3.bt.ne hb h2), h4.kept hg hb h1⟩
/-- a list of such lists: read only -/
def Mls (w : World) (B : Nat) (us : List Value) (xss : List (List MC)) : Prop := us.length = xss.length ∧ ∀ (i : Nat) (u : Value) (x : List MC), us[i]? = some u → xss[i]? = some x → ML w B u x
section
variable {w w' : World} {B : Nat} {us : List Value} {xss : List (List MC)}
theorem Mls.nil (w : World) (B : Nat) : Mls w B [] [] := ⟨rfl, fun i c x h => by simp at h⟩
theorem Mls.below (h : Mls w B us xss) (hb : Below w.heap.size w w') : Mls w' B us xss := ⟨h.1, fun i c x hc hx => (h.2 i c x hc hx).below hb⟩
theorem Mls.kept {v : Value} {e : TypeId} (h : Mls w B us xss) (hg : w.grownBy w' v.ownBlock) (hb : BT w e v) (h1 : tN ≠ e) (h2 : tMc ≠ e) : Mls w' B us xss := ⟨h.1, fun i c x hc hx => (h.2 i c x hc hx).kept hg hb h1 h2⟩
theorem Mls.snoc {u : Value} {x : List MC} (h : Mls w B us xss) (hx : ML w B u x) : Mls w B (us ++ [u]) (xss ++ [x]) := by
  refine ⟨by simp [h.1], fun i c' x' hc hx' => ?_⟩
  by_cases hlt : i < us.length
  · rw [List.getElem?_append_left hlt] at hc
    rw [List.getElem?_append_left (by rw [← h.1]; exact hlt)] at hx'
    exact h.2 i c' x' hc hx'
  · have hkl := (List.getElem?_eq_some_iff.1 hc).1
    simp at hkl
    have hi : i = us.length := by omega
    rw [hi] at hc
    rw [hi, h.1] at hx'
    simp at hc hx'
    subst hc hx'
    exact hx
end
def T6n : List (List Nat) := allG treesN 6
theorem T6n_len : T6n.length = 37 := by decide +kernel
theorem T6n_split {t : List Nat} (h : t ∈ T6n) : ∃ r, splV 9 t = some r ∧ okLs r = true := by
  obtain ⟨n, hn, ht⟩ := List.mem_flatMap.1 h
  have h1 := List.all_eq_true.1 (List.all_eq_true.1 splV_6 n hn) t ht
  cases hs : splV 9 t with
  | none => rw [hs] at h1; cases h1
  | some r => rw [hs] at h1; exact ⟨r, rfl, h1⟩
/-- what newForms returns -/
def Frm (w : World) (B : Nat) (v : Value) : Prop := ∃ x y us, v = .agg #[x, y] ∧ LA w B x (T6n.map up) ∧ Own w B tMl y us ∧ Mls w B us (T6n.map (cutsI T6n))
end Go.Proofs.YtngdpoeondnchaaGreat

set_option maxRecDepth 100000
set_option linter.unusedVariables false
set_option linter.unusedSimpArgs false
namespace Go.Proofs.YtngdpoeondnchaaGreat
open Go.RowKit

/-- the number of nodes of the tree at a place -/
def szN (k : Nat) : Nat := (0 :: T6n.map List.length).getD k 0
theorem szN_zero : szN 0 = 0 := rfl
theorem szN_succ {i : Nat} {t : List Nat} (h : T6n[i]? = some t) : szN (i + 1) = t.length := by
  unfold szN
  simp [List.getD, h]
theorem szN_le (k : Nat) : szN k ≤ 6 := by
  have h : (0 :: T6n.map List.length).all (fun n => Nat.ble n 6) = true := by decide +kernel
  rw [List.all_eq_true] at h
  unfold szN
  rw [List.getD_eq_getElem?_getD]
  cases hk : (0 :: T6n.map List.length)[k]? with
  | none => simp
  | some n => exact Nat.le_of_ble_eq_true (h n (List.mem_of_getElem? hk))
/-- what is known of the trees -/
def okT6 (t : List Nat) : Bool := lvl t && (Nat.ble 1 t.length && Nat.ble t.length 6 && t.all fun l => Nat.ble l 6)
theorem okT6_all : T6n.all okT6 = true := by decide +kernel
theorem T6n_at {t : List Nat} (h : t ∈ T6n) : lvl t = true ∧ 1 ≤ t.length ∧ t.length ≤ 6 ∧ ∀ l ∈ t, l ≤ 6 := by
  have h1 := okT6_all
  rw [List.all_eq_true] at h1
  have h2 := h1 t h
  unfold okT6 at h2
  simp only [Bool.and_eq_true, List.all_eq_true] at h2
  exact ⟨h2.1, Nat.le_of_ble_eq_true h2.2.1.1, Nat.le_of_ble_eq_true h2.2.1.2, fun l hl => Nat.le_of_ble_eq_true (h2.2.2 l hl)⟩

/-! ### densities -/
def denL (D : List Nat → Option Nat) : List (List Nat) → Nat → Option Nat
  | [], a => some a
  | b :: bs, a => match D b with
    | none => none
    | some d => bif Nat.ble (a * d) 1000000 then denL D bs (a * d) else none
def denO : Nat → List Nat → Option Nat
  | 0, _ => none
  | f + 1, t => match brO t with
    | none => none
    | some bs => denL (denO f) bs t.length
/-! ### the exact map -/
def exV (t : List Nat) : Nat := match denO 9 t with
  | some d => d ^ 10005 % 10007
  | none => 0
def exN : List Nat := 1 :: T6n.map exV
def EX : List Int := up exN
theorem exV_le (t : List Nat) : exV t ≤ 10006 := by
  unfold exV
  cases denO 9 t with
  | none => simp
  | some d => have := Nat.mod_lt (d ^ 10005) (show 10007 > 0 by omega); simp only; omega
theorem EX_nums : ∀ z ∈ EX, 0 ≤ z ∧ z ≤ 10006 := by
  intro z hz
  unfold EX up exN at hz
  obtain ⟨n, hn, rfl⟩ := List.mem_map.1 hz
  rcases List.mem_cons.1 hn with rfl | hn
  · omega
  · obtain ⟨t, -, rfl⟩ := List.mem_map.1 hn
    have := exV_le t
    omega
/-! ### agreement -/
def agZ (a b : List Int) : Int := match (List.range 38).find? (fun k => a.getD k 0 != b.getD k 0) with
  | some k => (szN k : Int) - 1
  | none => 6
theorem agZ_hit {a b : List Int} {k : Nat} (h : ∀ i, i < k → a.getD i 0 = b.getD i 0) (hk : k < 38) (hne : a.getD k 0 ≠ b.getD k 0) : agZ a b = (szN k : Int) - 1 := by
  have : (List.range 38).find? (fun k => a.getD k 0 != b.getD k 0) = some k := by
    rw [List.find?_range_eq_some]
    refine ⟨by simpa using hne, by simpa using hk, fun j hj => by simpa using h j hj⟩
  unfold agZ
  rw [this]
theorem agZ_miss {a b : List Int} (h : ∀ i, i < 38 → a.getD i 0 = b.getD i 0) : agZ a b = 6 := by
  have : (List.range 38).find? (fun k => a.getD k 0 != b.getD k 0) = none := by
    rw [List.find?_range_eq_none]
    intro j hj
    simpa using h j hj
  unfold agZ
  rw [this]
end Go.Proofs.YtngdpoeondnchaaGreat

set_option maxRecDepth 100000
set_option linter.unusedVariables false
set_option linter.unusedSimpArgs false
namespace Go.Proofs.YtngdpoeondnchaaGreat
open Go.RowKit

def mapB (zs : List Int) : Bool := decide (zs.length = 38) && nums zs
def chrC (zs : List Int) : Int := if mapB zs then (if zs.getD 0 0 = 1 then 0 else 5) else 1
theorem mapB_true {zs : List Int} (h : mapB zs = true) : zs.length = 38 ∧ ∀ z ∈ zs, 0 ≤ z ∧ z ≤ 10006 := by
  unfold mapB at h
  rw [Bool.and_eq_true, nums_iff] at h
  exact ⟨by simpa using h.1, h.2⟩

set_option maxHeartbeats 400000 in
theorem i_IsMap (w : World) (v : Value) (zs : List Int) (ha : Ints w v zs) : Calls Tryz.prog 76 #[v] w fun e w' => e = .returned (.bool (mapB zs)) ∧ w = w' := by
  have HA := Lib.hid ha
  obtain ⟨A, c, rfl, -, -, -⟩ := ha.open_
  clear ha
  by_cases h : zs.length = 38
  · have HF := Lib.hid (show mapB zs = nums zs by simp [mapB, h])
    have hd : ((zs.length : Int) == 38) = true := by simp [h]
    clear h
    go_enter Tryz.func76, Tryz.ntmps76
    go_wp2_with (go_at_call 123; refine (i_areNumbers _ _ _ HA.out).mono ?_; rintro e w' ⟨rfl, rfl⟩)
    go_ret
    exact ⟨ret_bool HF.out.symm, rfl⟩
  · have HF := Lib.hid (show mapB zs = false by simp [mapB, h])
    have hd : ((zs.length : Int) == 38) = false := by simp; omega
    clear h
    go_enter Tryz.func76, Tryz.ntmps76
    go_wp2_with (go_at_call 123; refine (i_areNumbers _ _ _ HA.out).mono ?_; rintro e w' ⟨rfl, rfl⟩)
    go_ret
    exact ⟨ret_bool HF.out.symm, rfl⟩

set_option maxHeartbeats 400000 in
theorem s_l07Is (w : World) (v : Value) (zs : List Int) (ha : Ints w v zs) : Calls Tryz.prog 73 #[v] w fun e w' => e = .returned (.bool (mapB zs)) ∧ w = w' := by
  have HA := Lib.hid ha
  obtain ⟨A, c, rfl, -, -, -⟩ := ha.open_
  clear ha
  by_cases h : zs.length = 38
  · have HF := Lib.hid (show mapB zs = nums zs by simp [mapB, h])
    have hd : ((zs.length : Int) == 38) = true := by simp [h]
    clear h
    go_enter Tryz.func73, Tryz.ntmps73
    go_wp2_with (go_at_call 122; refine (s_l01Numbers _ _ _ HA.out).mono ?_; rintro e w' ⟨rfl, rfl⟩)
    go_ret
    exact ⟨ret_bool HF.out.symm, rfl⟩
  · have HF := Lib.hid (show mapB zs = false by simp [mapB, h])
    have hd : ((zs.length : Int) == 38) = false := by simp; omega
    clear h
    go_enter Tryz.func73, Tryz.ntmps73
    go_wp2_with (go_at_call 122; refine (s_l01Numbers _ _ _ HA.out).mono ?_; rintro e w' ⟨rfl, rfl⟩)
    go_ret
    exact ⟨ret_bool HF.out.symm, rfl⟩

/-- the head of a map -/
theorem map_head {w : World} {A : Option Addr} {c : Nat} {zs : List Int} (h : Ints w (.slice A zs.length c) zs) (hm : mapB zs = true) : ∃ ad, A = some ad ∧ w.cell? ad = some (.int .i64 (zs.getD 0 0)) := by
  obtain ⟨A', c', he, -, -, h3⟩ := h.open_
  injection he with h1 h2 h4
  subst h1
  obtain ⟨ad, z, rfl, hz, -, hc⟩ := h3 0 (by have := (mapB_true hm).1; omega)
  refine ⟨ad, rfl, ?_⟩
  rw [List.getD_eq_getElem?_getD, hz]
  simpa [Addr.add] using hc

set_option maxHeartbeats 800000 in
theorem i_checkCharacter (w : World) (v : Value) (zs : List Int) (ha : Ints w v zs) : Calls Tryz.prog 70 #[v] w fun e w' => e = .returned (.int .i64 (chrC zs)) ∧ w = w' := by
  have HM := Lib.hid (i_IsMap w v zs ha)
  obtain ⟨A, c, rfl, -, -, -⟩ := ha.open_
  cases hm : mapB zs with
  | false =>
    rw [hm] at HM
    rw [show chrC zs = 1 by simp [chrC, hm]]
    clear hm ha
    go_enter Tryz.func70, Tryz.ntmps70
    go_wp2_with (go_at_call 76; refine HM.out.mono ?_; rintro e w' ⟨rfl, rfl⟩)
    go_ret
    exact ⟨rfl, rfl⟩
  | true =>
    obtain ⟨ad, rfl, hc⟩ := map_head ha hm
    have hl := (mapB_true hm).1
    rw [hm] at HM
    have hpos : 0 < zs.length := by omega
    have hpi : (0 : Int) < (zs.length : Int) := by omega
    have HC := Lib.hid (show chrC zs = if zs.getD 0 0 = 1 then 0 else 5 by simp [chrC, hm])
    rw [HC.out]
    clear hm ha hl
    generalize zs.getD 0 0 = z at *
    by_cases hz : z = 1
    · have hd : (z != 1) = false := by simp [hz]
      rw [if_pos hz]
      clear hz HC
      go_enter Tryz.func70, Tryz.ntmps70
      go_wp2_with (go_at_call 76; refine HM.out.mono ?_; rintro e w' ⟨rfl, rfl⟩)
      go_ret
      exact ⟨rfl, rfl⟩
    · have hd : (z != 1) = true := by simp [hz]
      rw [if_neg hz]
      clear hz HC
      go_enter Tryz.func70, Tryz.ntmps70
      go_wp2_with (go_at_call 76; refine HM.out.mono ?_; rintro e w' ⟨rfl, rfl⟩)
      go_ret
      exact ⟨rfl, rfl⟩

set_option maxHeartbeats 800000 in
/-- the reference's check of one character -/
theorem s_l07Code1 (w : World) (v : Value) (zs : List Int) (ha : Ints w v zs) : Calls Tryz.prog 67 #[v, v] w fun e w' => e = .returned (.int .i64 (chrC zs)) ∧ w = w' := by
  have HM := Lib.hid (s_l07Is w v zs ha)
  obtain ⟨A, c, rfl, -, -, -⟩ := ha.open_
  cases hm : mapB zs with
  | false =>
    rw [hm] at HM
    rw [show chrC zs = 1 by simp [chrC, hm]]
    clear hm ha
    go_enter Tryz.func67, Tryz.ntmps67
    go_wp2_with (go_at_call 73; refine HM.out.mono ?_; rintro e w' ⟨rfl, rfl⟩)
    go_ret
    exact ⟨rfl, rfl⟩
  | true =>
    obtain ⟨ad, rfl, hc⟩ := map_head ha hm
    have hl := (mapB_true hm).1
    rw [hm] at HM
    have hpos : 0 < zs.length := by omega
    have hpi : (0 : Int) < (zs.length : Int) := by omega
    have HC := Lib.hid (show chrC zs = if zs.getD 0 0 = 1 then 0 else 5 by simp [chrC, hm])
    rw [HC.out]
    clear hm ha hl
    generalize zs.getD 0 0 = z at *
    by_cases hz : z = 1
    · have hd : (z != 1) = false := by simp [hz]
      rw [if_pos hz]
      clear hz HC
      go_enter Tryz.func67, Tryz.ntmps67
      go_wp2_with (go_at_call 73; refine HM.out.mono ?_; rintro e w' ⟨rfl, rfl⟩)
      go_ret
      exact ⟨rfl, rfl⟩
    · have hd : (z != 1) = true := by simp [hz]
      rw [if_neg hz]
      clear hz HC
      go_enter Tryz.func67, Tryz.ntmps67
      go_wp2_with (go_at_call 73; refine HM.out.mono ?_; rintro e w' ⟨rfl, rfl⟩)
      go_ret
      exact ⟨rfl, rfl⟩

end Go.Proofs.YtngdpoeondnchaaGreat

set_option maxRecDepth 100000
set_option linter.unusedVariables false
set_option linter.unusedSimpArgs false
namespace Go.Proofs.YtngdpoeondnchaaGreat
open Go.RowKit

/-- the code of two characters -/
def chr2 (a b : List Int) : Int := if mapB a then (if mapB b then (if a.getD 0 0 = 1 then (if b.getD 0 0 = 1 then 0 else 5) else 5) else 1) else 1
/-- the code of two maps the first of which has to be a character -/
def chr1 (a b : List Int) : Int := if mapB a then (if mapB b then (if a.getD 0 0 = 1 then 0 else 5) else 1) else 1
theorem chr2_both (a b : List Int) : chr2 a b = if chr1 a b = 0 then chr1 b a else chr1 a b := by
  unfold chr2 chr1
  generalize a.getD 0 0 = x
  generalize b.getD 0 0 = y
  cases mapB a <;> cases mapB b <;> by_cases h : x = 1 <;> by_cases h' : y = 1 <;> simp [h, h']
theorem chr2_of {a b : List Int} (h : chr2 a b = 0) : mapB a = true ∧ mapB b = true ∧ a.getD 0 0 = 1 ∧ b.getD 0 0 = 1 := by
  unfold chr2 at h
  generalize a.getD 0 0 = x at *
  generalize b.getD 0 0 = y at *
  cases h1 : mapB a <;> cases h2 : mapB b <;> by_cases h3 : x = 1 <;> by_cases h4 : y = 1 <;> simp [h1, h2, h3, h4] at h ⊢

set_option maxHeartbeats 3200000 in
theorem i_checkCharacters (w : World) (va vb : Value) (a b : List Int) (h1 : Ints w va a) (h2 : Ints w vb b) : Calls Tryz.prog 62 #[va, vb] w fun e w' => e = .returned (.int .i64 (chr2 a b)) ∧ w = w' := by
  have HM1 := Lib.hid (i_IsMap w va a h1)
  have HM2 := Lib.hid (i_IsMap w vb b h2)
  obtain ⟨Aa, ca, rfl, -, -, -⟩ := h1.open_
  obtain ⟨Ab, cb, rfl, -, -, -⟩ := h2.open_
  cases hm : mapB a with
  | false =>
    rw [hm] at HM1
    rw [show chr2 a b = 1 by simp [chr2, hm]]
    clear hm h1 h2
    go_enter Tryz.func62, Tryz.ntmps62
    go_wp2_with (go_at_call 76; refine HM1.out.mono ?_; rintro e w' ⟨rfl, rfl⟩)
    go_ret
    exact ⟨rfl, rfl⟩
  | true =>
    cases hm2 : mapB b with
    | false =>
      rw [hm] at HM1
      rw [hm2] at HM2
      rw [show chr2 a b = 1 by simp [chr2, hm, hm2]]
      clear hm hm2 h1 h2
      go_enter Tryz.func62, Tryz.ntmps62
      go_wp2_with (first
        | (go_at_call 76; (with_reducible refine HM1.out.mono ?_); rintro e w' ⟨rfl, rfl⟩)
        | (go_at_call 76; (with_reducible refine HM2.out.mono ?_); rintro e w' ⟨rfl, rfl⟩))
      go_ret
      exact ⟨rfl, rfl⟩
    | true =>
      obtain ⟨ad, rfl, hc⟩ := map_head h1 hm
      obtain ⟨bd, rfl, hcb⟩ := map_head h2 hm2
      have hl := (mapB_true hm).1
      have hlb := (mapB_true hm2).1
      have hpos : 0 < a.length := by omega
      have hpi : (0 : Int) < (a.length : Int) := by omega
      have hposb : 0 < b.length := by omega
      have hpib : (0 : Int) < (b.length : Int) := by omega
      have HC := Lib.hid (show chr2 a b = if a.getD 0 0 = 1 then (if b.getD 0 0 = 1 then 0 else 5) else 5 by unfold chr2; rw [hm, hm2]; rfl)
      rw [hm] at HM1
      rw [hm2] at HM2
      rw [HC.out]
      clear hm hm2 h1 h2 hl hlb
      generalize a.getD 0 0 = z at *
      generalize b.getD 0 0 = y at *
      by_cases hz : z = 1
      · have hd : (z != 1) = false := by simp [hz]
        rw [if_pos hz]
        by_cases hy : y = 1
        · have hdy : (y != 1) = false := by simp [hy]
          rw [if_pos hy]
          clear hz hy HC
          go_enter Tryz.func62, Tryz.ntmps62
          go_wp2_with (first
            | (go_at_call 76; (with_reducible refine HM1.out.mono ?_); rintro e w' ⟨rfl, rfl⟩)
            | (go_at_call 76; (with_reducible refine HM2.out.mono ?_); rintro e w' ⟨rfl, rfl⟩))
          go_ret
          exact ⟨rfl, rfl⟩
        · have hdy : (y != 1) = true := by simp [hy]
          rw [if_neg hy]
          clear hz hy HC
          go_enter Tryz.func62, Tryz.ntmps62
          go_wp2_with (first
            | (go_at_call 76; (with_reducible refine HM1.out.mono ?_); rintro e w' ⟨rfl, rfl⟩)
            | (go_at_call 76; (with_reducible refine HM2.out.mono ?_); rintro e w' ⟨rfl, rfl⟩))
          go_ret
          exact ⟨rfl, rfl⟩
      · have hd : (z != 1) = true := by simp [hz]
        rw [if_neg hz]
        clear hz HC
        go_enter Tryz.func62, Tryz.ntmps62
        go_wp2_with (first
          | (go_at_call 76; (with_reducible refine HM1.out.mono ?_); rintro e w' ⟨rfl, rfl⟩)
          | (go_at_call 76; (with_reducible refine HM2.out.mono ?_); rintro e w' ⟨rfl, rfl⟩))
        go_ret
        exact ⟨rfl, rfl⟩
set_option maxHeartbeats 3200000 in
theorem s_l07Code (w : World) (va vb : Value) (a b : List Int) (h1 : Ints w va a) (h2 : Ints w vb b) : Calls Tryz.prog 67 #[va, vb] w fun e w' => e = .returned (.int .i64 (chr1 a b)) ∧ w = w' := by
  have HM1 := Lib.hid (s_l07Is w va a h1)
  have HM2 := Lib.hid (s_l07Is w vb b h2)
  obtain ⟨Aa, ca, rfl, -, -, -⟩ := h1.open_
  obtain ⟨Ab, cb, rfl, -, -, -⟩ := h2.open_
  cases hm : mapB a with
  | false =>
    rw [hm] at HM1
    rw [show chr1 a b = 1 by simp [chr1, hm]]
    clear hm h1 h2
    go_enter Tryz.func67, Tryz.ntmps67
    go_wp2_with (go_at_call 73; refine HM1.out.mono ?_; rintro e w' ⟨rfl, rfl⟩)
    go_ret
    exact ⟨rfl, rfl⟩
  | true =>
    cases hm2 : mapB b with
    | false =>
      rw [hm] at HM1
      rw [hm2] at HM2
      rw [show chr1 a b = 1 by simp [chr1, hm, hm2]]
      clear hm hm2 h1 h2
      go_enter Tryz.func67, Tryz.ntmps67
      go_wp2_with (first
        | (go_at_call 73; (with_reducible refine HM1.out.mono ?_); rintro e w' ⟨rfl, rfl⟩)
        | (go_at_call 73; (with_reducible refine HM2.out.mono ?_); rintro e w' ⟨rfl, rfl⟩))
      go_ret
      exact ⟨rfl, rfl⟩
    | true =>
      obtain ⟨ad, rfl, hc⟩ := map_head h1 hm
      obtain ⟨bd, rfl, hcb⟩ := map_head h2 hm2
      have hl := (mapB_true hm).1
      have hlb := (mapB_true hm2).1
      have hpos : 0 < a.length := by omega
      have hpi : (0 : Int) < (a.length : Int) := by omega
      have hposb : 0 < b.length := by omega
      have hpib : (0 : Int) < (b.length : Int) := by omega
      have HC := Lib.hid (show chr1 a b = if a.getD 0 0 = 1 then 0 else 5 by unfold chr1; rw [hm, hm2]; rfl)
      rw [hm] at HM1
      rw [hm2] at HM2
      rw [HC.out]
      clear hm hm2 h1 h2 hl hlb
      generalize a.getD 0 0 = z at *
      generalize b.getD 0 0 = y at *
      by_cases hz : z = 1
      · have hd : (z != 1) = false := by simp [hz]
        rw [if_pos hz]
        clear hz HC
        go_enter Tryz.func67, Tryz.ntmps67
        go_wp2_with (first
          | (go_at_call 73; (with_reducible refine HM1.out.mono ?_); rintro e w' ⟨rfl, rfl⟩)
          | (go_at_call 73; (with_reducible refine HM2.out.mono ?_); rintro e w' ⟨rfl, rfl⟩))
        go_ret
        exact ⟨rfl, rfl⟩
      · have hd : (z != 1) = true := by simp [hz]
        rw [if_neg hz]
        clear hz HC
        go_enter Tryz.func67, Tryz.ntmps67
        go_wp2_with (first
          | (go_at_call 73; (with_reducible refine HM1.out.mono ?_); rintro e w' ⟨rfl, rfl⟩)
          | (go_at_call 73; (with_reducible refine HM2.out.mono ?_); rintro e w' ⟨rfl, rfl⟩))
        go_ret
        exact ⟨rfl, rfl⟩
set_option maxHeartbeats 1600000 in
theorem s_l18Both (w : World) (va vb : Value) (a b : List Int) (h1 : Ints w va a) (h2 : Ints w vb b) : Calls Tryz.prog 58 #[va, vb] w fun e w' => e = .returned (.int .i64 (chr2 a b)) ∧ w = w' := by
  have HM1 := Lib.hid (s_l07Code w va vb a b h1 h2)
  have HM2 := Lib.hid (s_l07Code w vb va b a h2 h1)
  obtain ⟨Aa, ca, rfl, -, -, -⟩ := h1.open_
  obtain ⟨Ab, cb, rfl, -, -, -⟩ := h2.open_
  have HC := Lib.hid (chr2_both a b)
  rw [HC.out]
  clear h1 h2
  by_cases hz : chr1 a b = 0
  · rw [if_pos hz]
    rw [hz] at HM1
    generalize chr1 b a = y at *
    clear hz HC
    go_enter Tryz.func58, Tryz.ntmps58
    go_wp2_with (first
      | (go_at_call 67; (with_reducible refine HM1.out.mono ?_); rintro e w' ⟨rfl, rfl⟩)
      | (go_at_call 67; (with_reducible refine HM2.out.mono ?_); rintro e w' ⟨rfl, rfl⟩))
    go_ret
    exact ⟨rfl, rfl⟩
  · rw [if_neg hz]
    have hd : (chr1 a b != 0) = true := by simp [hz]
    generalize chr1 a b = z at *
    clear hz HC HM2
    go_enter Tryz.func58, Tryz.ntmps58
    go_wp2_with (go_at_call 67; refine HM1.out.mono ?_; rintro e w' ⟨rfl, rfl⟩)
    go_ret
    exact ⟨rfl, rfl⟩
end Go.Proofs.YtngdpoeondnchaaGreat

set_option maxRecDepth 100000
set_option linter.unusedVariables false
set_option linter.unusedSimpArgs false
namespace Go.Proofs.YtngdpoeondnchaaGreat

/-! ### products -/
def prodZ : List Int → Int
  | [] => 1
  | x :: xs => x * prodZ xs
theorem prodZ_snoc (xs : List Int) (x : Int) : prodZ (xs ++ [x]) = prodZ xs * x := by
  induction xs with
  | nil => simp [prodZ]
  | cons y xs ih => simp only [List.cons_append, prodZ, ih]; rw [Int.mul_assoc]
theorem prodZ_append (xs ys : List Int) : prodZ (xs ++ ys) = prodZ xs * prodZ ys := by
  induction xs with
  | nil => simp [prodZ]
  | cons y xs ih => simp only [List.cons_append, prodZ, ih]; rw [Int.mul_assoc]
theorem mul_modR (x y : Int) : x * (y % 10007) % 10007 = x * y % 10007 := by
  rw [Int.mul_emod, Int.emod_emod_of_dvd _ (Int.dvd_refl _), ← Int.mul_emod]
theorem mul_modL (x y : Int) : x % 10007 * y % 10007 = x * y % 10007 := by
  rw [Int.mul_comm, mul_modR, Int.mul_comm]
/-- the values at places -/
def gat (a : List Int) (xs : List Nat) : List Int := xs.map fun k => a.getD k 0
def valZ (b : List Int) (ps : List Nat) : Int := prodZ (gat b ps) % 10007
theorem valZ_snoc (b : List Int) (ps : List Nat) (k : Nat) : valZ b (ps ++ [k]) = valZ b ps * b.getD k 0 % 10007 := by
  unfold valZ gat
  rw [List.map_append, List.map_singleton, prodZ_snoc, mul_modL]
theorem valZ_bd (b : List Int) (ps : List Nat) : 0 ≤ valZ b ps ∧ valZ b ps ≤ 10006 := by unfold valZ; omega

/-! ### sums -/
theorem sumF_append {α : Type} (g : α → Int) (l l' : List α) : sumF g (l ++ l') = sumF g l + sumF g l' := by
  induction l with
  | nil => simp [sumF]
  | cons x l ih => simp only [List.cons_append, sumF, ih]; omega
theorem sumF_map {α β : Type} (g : β → Int) (f : α → β) (l : List α) : sumF g (l.map f) = sumF (fun x => g (f x)) l := by
  induction l with
  | nil => rfl
  | cons x l ih => simp only [List.map_cons, sumF, ih]
theorem sumF_congr {α : Type} {g h : α → Int} : ∀ {l : List α}, (∀ x ∈ l, g x = h x) → sumF g l = sumF h l
  | [], _ => rfl
  | x :: l, e => by simp only [sumF]; rw [e x (by simp), sumF_congr fun y hy => e y (by simp [hy])]
end Go.Proofs.YtngdpoeondnchaaGreat

set_option maxRecDepth 100000
namespace Go.Proofs.YtngdpoeondnchaaGreat

def CTab : List (List ((List Nat × Nat) × Nat)) := [
  [(([], 1), 1), (([1], 0), 1)],
  [(([], 2), 1), (([1], 1), 1), (([2], 0), 1)],
  [(([], 3), 1), (([1], 2), 1), (([2], 1), 1), (([3], 0), 1)],
  [(([], 4), 1), (([1], 2), 2), (([1, 1], 1), 1), (([4], 0), 1)],
  [(([], 5), 1), (([1], 3), 1), (([2], 2), 1), (([3], 1), 1), (([5], 0), 1)],
  [(([], 6), 1), (([1], 3), 2), (([1, 1], 2), 1), (([4], 1), 1), (([6], 0), 1)],
  [(([], 7), 1), (([1], 3), 1), (([1], 4), 1), (([2], 2), 1), (([1, 1], 2), 1), (([1, 2], 1), 1), (([7], 0), 1)],
  [(([], 8), 1), (([1], 4), 3), (([1, 1], 2), 3), (([1, 1, 1], 1), 1), (([8], 0), 1)],
  [(([], 9), 1), (([1], 5), 1), (([2], 3), 1), (([3], 2), 1), (([5], 1), 1), (([9], 0), 1)],
  [(([], 10), 1), (([1], 5), 2), (([1, 1], 3), 1), (([4], 2), 1), (([6], 1), 1), (([10], 0), 1)],
  [(([], 11), 1), (([1], 5), 1), (([1], 6), 1), (([2], 3), 1), (([1, 1], 3), 1), (([1, 2], 2), 1), (([7], 1), 1), (([11], 0), 1)],
  [(([], 12), 1), (([1], 5), 1), (([1], 7), 1), (([2], 4), 1), (([1, 1], 3), 1), (([3], 2), 1), (([1, 2], 2), 1), (([1, 3], 1), 1), (([12], 0), 1)],
  [(([], 13), 1), (([1], 6), 3), (([1, 1], 3), 3), (([1, 1, 1], 2), 1), (([8], 1), 1), (([13], 0), 1)],
  [(([], 14), 1), (([1], 6), 1), (([1], 7), 2), (([1, 1], 3), 2), (([1, 1], 4), 1), (([4], 2), 1), (([1, 1, 1], 2), 1), (([1, 4], 1), 1), (([14], 0), 1)],
  [(([], 15), 1), (([1], 7), 2), (([2], 3), 2), (([1, 1], 4), 1), (([1, 2], 2), 2), (([2, 2], 1), 1), (([15], 0), 1)],
  [(([], 16), 1), (([1], 7), 2), (([1], 8), 1), (([2], 4), 1), (([1, 1], 3), 1), (([1, 1], 4), 2), (([1, 2], 2), 2), (([1, 1, 1], 2), 1), (([1, 1, 2], 1), 1), (([16], 0), 1)],
  [(([], 17), 1), (([1], 8), 4), (([1, 1], 4), 6), (([1, 1, 1], 2), 4), (([1, 1, 1, 1], 1), 1), (([17], 0), 1)],
  [(([], 18), 1), (([1], 9), 1), (([2], 5), 1), (([3], 3), 1), (([5], 2), 1), (([9], 1), 1), (([18], 0), 1)],
  [(([], 19), 1), (([1], 9), 2), (([1, 1], 5), 1), (([4], 3), 1), (([6], 2), 1), (([10], 1), 1), (([19], 0), 1)],
  [(([], 20), 1), (([1], 9), 1), (([1], 10), 1), (([2], 5), 1), (([1, 1], 5), 1), (([1, 2], 3), 1), (([7], 2), 1), (([11], 1), 1), (([20], 0), 1)],
  [(([], 21), 1), (([1], 9), 1), (([1], 11), 1), (([2], 6), 1), (([1, 1], 5), 1), (([3], 3), 1), (([1, 2], 3), 1), (([1, 3], 2), 1), (([12], 1), 1), (([21], 0), 1)],
  [(([], 22), 1), (([1], 9), 1), (([1], 12), 1), (([2], 7), 1), (([1, 1], 5), 1), (([3], 4), 1), (([1, 2], 3), 1), (([5], 2), 1), (([1, 3], 2), 1), (([1, 5], 1), 1), (([22], 0), 1)],
  [(([], 23), 1), (([1], 10), 3), (([1, 1], 5), 3), (([1, 1, 1], 3), 1), (([8], 2), 1), (([13], 1), 1), (([23], 0), 1)],
  [(([], 24), 1), (([1], 10), 1), (([1], 11), 2), (([1, 1], 5), 2), (([1, 1], 6), 1), (([4], 3), 1), (([1, 1, 1], 3), 1), (([1, 4], 2), 1), (([14], 1), 1), (([24], 0), 1)],
  [(([], 25), 1), (([1], 10), 1), (([1], 12), 2), (([1, 1], 5), 2), (([1, 1], 7), 1), (([4], 4), 1), (([1, 1, 1], 3), 1), (([6], 2), 1), (([1, 4], 2), 1), (([1, 6], 1), 1), (([25], 0), 1)],
  [(([], 26), 1), (([1], 11), 2), (([2], 5), 2), (([1, 1], 6), 1), (([1, 2], 3), 2), (([2, 2], 2), 1), (([15], 1), 1), (([26], 0), 1)],
  [(([], 27), 1), (([1], 11), 2), (([1], 13), 1), (([2], 6), 1), (([1, 1], 5), 1), (([1, 1], 6), 2), (([1, 2], 3), 2), (([1, 1, 1], 3), 1), (([1, 1, 2], 2), 1), (([16], 1), 1), (([27], 0), 1)],
  [(([], 28), 1), (([1], 11), 1), (([1], 12), 1), (([1], 14), 1), (([2], 7), 1), (([1, 1], 5), 1), (([1, 1], 6), 1), (([1, 1], 7), 1), (([1, 2], 3), 1), (([1, 2], 4), 1), (([1, 1, 1], 3), 1), (([7], 2), 1), (([1, 1, 2], 2), 1), (([1, 7], 1), 1), (([28], 0), 1)],
  [(([], 29), 1), (([1], 12), 1), (([1], 15), 1), (([2], 5), 1), (([2], 7), 1), (([1, 1], 7), 1), (([3], 3), 1), (([1, 2], 3), 1), (([1, 2], 4), 1), (([1, 3], 2), 1), (([2, 2], 2), 1), (([2, 3], 1), 1), (([29], 0), 1)],
  [(([], 30), 1), (([1], 12), 2), (([1], 16), 1), (([2], 8), 1), (([1, 1], 5), 1), (([1, 1], 7), 2), (([3], 4), 1), (([1, 2], 4), 2), (([1, 1, 1], 3), 1), (([1, 3], 2), 2), (([1, 1, 2], 2), 1), (([1, 1, 3], 1), 1), (([30], 0), 1)],
  [(([], 31), 1), (([1], 13), 4), (([1, 1], 6), 6), (([1, 1, 1], 3), 4), (([1, 1, 1, 1], 2), 1), (([17], 1), 1), (([31], 0), 1)],
  [(([], 32), 1), (([1], 13), 1), (([1], 14), 3), (([1, 1], 6), 3), (([1, 1], 7), 3), (([1, 1, 1], 3), 3), (([1, 1, 1], 4), 1), (([8], 2), 1), (([1, 1, 1, 1], 2), 1), (([1, 8], 1), 1), (([32], 0), 1)],
  [(([], 33), 1), (([1], 14), 1), (([1], 15), 2), (([2], 6), 1), (([1, 1], 7), 3), (([4], 3), 1), (([1, 2], 3), 2), (([1, 1, 1], 4), 1), (([1, 4], 2), 1), (([1, 1, 2], 2), 1), (([2, 4], 1), 1), (([33], 0), 1)],
  [(([], 34), 1), (([1], 14), 2), (([1], 16), 2), (([1, 1], 6), 1), (([1, 1], 7), 4), (([1, 1], 8), 1), (([4], 4), 1), (([1, 1, 1], 3), 2), (([1, 1, 1], 4), 2), (([1, 4], 2), 2), (([1, 1, 1, 1], 2), 1), (([1, 1, 4], 1), 1), (([34], 0), 1)],
  [(([], 35), 1), (([1], 15), 1), (([1], 16), 2), (([2], 7), 2), (([1, 1], 7), 2), (([1, 1], 8), 1), (([1, 2], 3), 2), (([1, 2], 4), 2), (([1, 1, 1], 4), 1), (([2, 2], 2), 1), (([1, 1, 2], 2), 2), (([1, 2, 2], 1), 1), (([35], 0), 1)],
  [(([], 36), 1), (([1], 16), 3), (([1], 17), 1), (([2], 8), 1), (([1, 1], 7), 3), (([1, 1], 8), 3), (([1, 2], 4), 3), (([1, 1, 1], 3), 1), (([1, 1, 1], 4), 3), (([1, 1, 2], 2), 3), (([1, 1, 1, 1], 2), 1), (([1, 1, 1, 2], 1), 1), (([36], 0), 1)],
  [(([], 37), 1), (([1], 17), 5), (([1, 1], 8), 10), (([1, 1, 1], 4), 10), (([1, 1, 1, 1], 2), 5), (([1, 1, 1, 1, 1], 1), 1), (([37], 0), 1)]]
end Go.Proofs.YtngdpoeondnchaaGreat

