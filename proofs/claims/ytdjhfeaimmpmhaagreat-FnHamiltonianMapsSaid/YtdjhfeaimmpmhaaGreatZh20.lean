/- What newForms of the program lays: the trees, and the cuts of each by places. No walk. | Plain: what maps reckon with: sizes and densities of the trees at the places, the exact map, agreement. No walk. | DROP Walks: density of the program and of the reference; nodes of forms. | DROP Walks: the unit, the exact map of the program and of the reference. | Plain: products and sums of numbers. No walk. | The cuts of the trees of maps by places: the crown's, the trunk's (0 where there is none), how often. No walk. | Plain: the convolution by a table of cuts; it is associative, and an inverse on one side is one on the other. No walk. | Plain: the cuts of a tree as the reference reckons them, with every premise of the walk; they are the program's. -/
import Derived.Test.YtdjhfeaimmpmhaaGreatZh18
import Derived.Test.YtdjhfeaimmpmhaaGreatZh19
import Derived.Test.YtdjhfeaimmpmhaaGreatZh5
import Derived.Test.YtdjhfeaimmpmhaaGreatZh4
import Derived.Test.YtdjhfeaimmpmhaaGreatZh2
set_option maxRecDepth 100000
set_option linter.unusedVariables false
set_option linter.unusedSimpArgs false
namespace Go.Proofs.YtdjhfeaimmpmhaaGreat
open Go.RowKit

abbrev tMc : TypeId := 121
abbrev tMl : TypeId := 114
abbrev MC := (List Nat × Nat) × Nat
/-- a cut by places -/
def mcU (xs : List (List Nat)) (c : CU) : MC := ((c.1.1.map (idxN xs), bif Nat.blt 0 c.1.2.length then idxN xs c.1.2 else 0), c.2)
/-- the cuts of a tree by places -/
def cutsI (xs : List (List Nat)) (t : List Nat) : List MC := match splV 9 t with
  | some r => (cutsU r).map (mcU xs)
  | none => []

def McD (w : World) (B : Nat) (c : List Value) (x : MC) : Prop := ∃ s, c = [.int .i64 (x.2 : Nat), s, .int .i64 (x.1.2 : Nat)] ∧ OwnInts w B tN s (up x.1.1)
def Mcs (w : World) (B : Nat) (css : List (List Value)) (xs : List MC) : Prop := css.length = xs.length ∧ ∀ (i : Nat) (c : List Value) (x : MC), css[i]? = some c → xs[i]? = some x → McD w B c x
theorem McD.below {w w' : World} {B : Nat} {c : List Value} {x : MC} (h : McD w B c x) (hb : Below w.heap.size w w') : McD w' B c x := by
  obtain ⟨s, rfl, h⟩ := h
  exact ⟨s, rfl, h.below hb⟩
theorem McD.mono {w : World} {B B' : Nat} {c : List Value} {x : MC} (h : McD w B c x) (hB : B' ≤ B) : McD w B' c x := by
  obtain ⟨s, rfl, h⟩ := h
  exact ⟨s, rfl, h.mono hB⟩
theorem McD.kept {w w' : World} {B : Nat} {c : List Value} {x : MC} {e : TypeId} {v : Value} (h : McD w B c x) (hg : w.grownBy w' v.ownBlock) (hb : BT w e v) (hne : tN ≠ e) : McD w' B c x := by
  obtain ⟨s, rfl, h⟩ := h
  exact ⟨s, rfl, h.kept hg (h.1.bt.ne hb hne)⟩
section
variable {w w' : World} {B : Nat} {css : List (List Value)} {xs : List MC}
theorem Mcs.nil (w : World) (B : Nat) : Mcs w B [] [] := ⟨rfl, fun i c x h => by simp at h⟩
theorem Mcs.below (h : Mcs w B css xs) (hb : Below w.heap.size w w') : Mcs w' B css xs := ⟨h.1, fun i c x hc hx => (h.2 i c x hc hx).below hb⟩
theorem Mcs.mono {B' : Nat} (h : Mcs w B css xs) (hB : B' ≤ B) : Mcs w B' css xs := ⟨h.1, fun i c x hc hx => (h.2 i c x hc hx).mono hB⟩
theorem Mcs.kept {v : Value} {e : TypeId} (h : Mcs w B css xs) (hg : w.grownBy w' v.ownBlock) (hb : BT w e v) (hne : tN ≠ e) : Mcs w' B css xs := ⟨h.1, fun i c x hc hx => (h.2 i c x hc hx).kept hg hb hne⟩
theorem Mcs.snoc {c : List Value} {x : MC} (h : Mcs w B css xs) (hx : McD w B c x) : Mcs w B (css ++ [c]) (xs ++ [x]) := by
  refine ⟨by simp [h.1], fun i c' x' hc hx' => ?_⟩
  by_cases hlt : i < css.length
  · rw [List.getElem?_append_left hlt] at hc
    rw [List.getElem?_append_left (by rw [← h.1]; exact hlt)] at hx'
    exact h.2 i c' x' hc hx'
  · have hkl := (List.getElem?_eq_some_iff.1 hc).1
    simp at hkl
    have hi : i = css.length := by omega
    rw [hi] at hc
    rw [hi, h.1] at hx'
    simp at hc hx'
    subst hc hx'
    exact hx
end
/-- a list of cuts by places, one's own -/
def ML (w : World) (B : Nat) (v : Value) (xs : List MC) : Prop := ∃ css, OwnK w B tMc 3 v css ∧ Mcs w B css xs
theorem ML.below {w w' : World} {B : Nat} {v : Value} {xs : List MC} (h : ML w B v xs) (hb : Below w.heap.size w w') : ML w' B v xs := by
  obtain ⟨css, h1, h2⟩ := h
  exact ⟨css, h1.below hb, h2.below hb⟩
theorem ML.kept {w w' : World} {B : Nat} {v : Value} {xs : List MC} {e : TypeId} {u : Value} (h : ML w B v xs) (hg : w.grownBy w' u.ownBlock) (hb : BT w e u) (h1 : tN ≠ e) (h2 : tMc ≠ e) : ML w' B v xs := by
  obtain ⟨css, h3, h4⟩ := h
  exact ⟨css, h3.kept hg (h3.bt.ne hb h2), h4.kept hg hb h1⟩
/-- a list of such lists: read only -/
def Mls (w : World) (B : Nat) (us : List Value) (xss : List (List MC)) : Prop := us.length = xss.length ∧ ∀ (i : Nat) (u : Value) (x : List MC), us[i]? = some u → xss[i]? = some x → ML w B u x
section
variable {w w' : World} {B : Nat} {us : List Value} {xss : List (List MC)}
theorem Mls.nil (w : World) (B : Nat) : Mls w B [] [] := ⟨rfl, fun i c x h => by simp at h⟩
theorem Mls.below (h : Mls w B us xss) (hb : Below w.heap.size w w') : Mls w' B us xss := ⟨h.1, fun i c x hc hx => (h.2 i c x hc hx).below hb⟩
theorem Mls.kept {v : Value} {e : TypeId} (h : Mls w B us xss) (hg : w.grownBy w' v.ownBlock) (hb : BT w e v) (h1 : tN ≠ e) (h2 : tMc ≠ e) : Mls w' B us xss := ⟨h.1, fun i c x hc hx => (h.2 i c x hc hx).kept hg hb h1 h2⟩
theorem Mls.snoc {u : Value} {x : List MC} (h : Mls w B us xss) (hx : ML w B u x) : Mls w B (us ++ [u]) (xss ++ [x]) := by
  refine ⟨by simp [h.1], fun i c' x' hc hx' => ?_⟩
  by_cases hlt : i < us.length
  · rw [List.getElem?_append_left hlt] at hc
    rw [List.getElem?_append_left (by rw [← h.1]; exact hlt)] at hx'
    exact h.2 i c' x' hc hx'
  · have hkl := (List.getElem?_eq_some_iff.1 hc).1
    simp at hkl
    have hi : i = us.length := by omega
    rw [hi] at hc
    rw [hi, h.1] at hx'
    simp at hc hx'
    subst hc hx'
    exact hx
end
def T6n : List (List Nat) := allG treesN 6
theorem T6n_len : T6n.length = 37 := by decide +kernel
theorem T6n_split {t : List Nat} (h : t ∈ T6n) : ∃ r, splV 9 t = some r ∧ okLs r = true := by
  obtain ⟨n, hn, ht⟩ := List.mem_flatMap.1 h
  have h1 := List.all_eq_true.1 (List.all_eq_true.1 splV_6 n hn) t ht
  cases hs : splV 9 t with
  | none => rw [hs] at h1; cases h1
  | some r => rw [hs] at h1; exact ⟨r, rfl, h1⟩
/-- what newForms returns -/
def Frm (w : World) (B : Nat) (v : Value) : Prop := ∃ x y us, v = .agg #[x, y] ∧ LA w B x (T6n.map up) ∧ Own w B tMl y us ∧ Mls w B us (T6n.map (cutsI T6n))
end Go.Proofs.YtdjhfeaimmpmhaaGreat

set_option maxRecDepth 100000
set_option linter.unusedVariables false
set_option linter.unusedSimpArgs false
namespace Go.Proofs.YtdjhfeaimmpmhaaGreat
open Go.RowKit

/-- the number of nodes of the tree at a place -/
def szN (k : Nat) : Nat := (0 :: T6n.map List.length).getD k 0
theorem szN_zero : szN 0 = 0 := rfl
theorem szN_succ {i : Nat} {t : List Nat} (h : T6n[i]? = some t) : szN (i + 1) = t.length := by
  unfold szN
  simp [List.getD, h]
theorem szN_pos {i : Nat} (h : i < 37) : 1 ≤ szN (i + 1) := by
  have ha : T6n.all (fun t => Nat.ble 1 t.length) = true := by decide +kernel
  rw [List.all_eq_true] at ha
  have ht : T6n[i]? = some (T6n[i]'(by rw [T6n_len]; exact h)) := List.getElem?_eq_getElem _
  rw [szN_succ ht]
  exact Nat.le_of_ble_eq_true (ha _ (List.mem_of_getElem? ht))
/-- what is known of the trees -/
def okT6 (t : List Nat) : Bool := lvl t && (Nat.ble 1 t.length && Nat.ble t.length 6 && t.all fun l => Nat.ble l 6)
theorem okT6_all : T6n.all okT6 = true := by decide +kernel
theorem T6n_at {t : List Nat} (h : t ∈ T6n) : lvl t = true ∧ 1 ≤ t.length ∧ t.length ≤ 6 ∧ ∀ l ∈ t, l ≤ 6 := by
  have h1 := okT6_all
  rw [List.all_eq_true] at h1
  have h2 := h1 t h
  unfold okT6 at h2
  simp only [Bool.and_eq_true, List.all_eq_true] at h2
  exact ⟨h2.1, Nat.le_of_ble_eq_true h2.2.1.1, Nat.le_of_ble_eq_true h2.2.1.2, fun l hl => Nat.le_of_ble_eq_true (h2.2.2 l hl)⟩

/-! ### densities -/
def denL (D : List Nat → Option Nat) : List (List Nat) → Nat → Option Nat
  | [], a => some a
  | b :: bs, a => match D b with
    | none => none
    | some d => bif Nat.ble (a * d) 1000000 then denL D bs (a * d) else none
def denO : Nat → List Nat → Option Nat
  | 0, _ => none
  | f + 1, t => match brO t with
    | none => none
    | some bs => denL (denO f) bs t.length
theorem denL_cons {D : List Nat → Option Nat} {b : List Nat} {bs : List (List Nat)} {a r : Nat} (h : denL D (b :: bs) a = some r) : ∃ d, D b = some d ∧ a * d ≤ 1000000 ∧ denL D bs (a * d) = some r := by
  rw [denL] at h
  cases h1 : D b with
  | none => rw [h1] at h; cases h
  | some d =>
    rw [h1] at h
    simp only at h
    cases h2 : Nat.ble (a * d) 1000000 with
    | false => rw [h2] at h; cases h
    | true => rw [h2] at h; exact ⟨d, rfl, Nat.le_of_ble_eq_true h2, h⟩
theorem denO_succ {f : Nat} {t : List Nat} {r : Nat} (h : denO (f + 1) t = some r) : ∃ bs, brO t = some bs ∧ denL (denO f) bs t.length = some r := by
  rw [denO] at h
  cases h1 : brO t with
  | none => rw [h1] at h; cases h
  | some bs => rw [h1] at h; exact ⟨bs, rfl, h⟩
/-! ### the exact map -/
def exV (t : List Nat) : Nat := match denO 9 t with
  | some d => d ^ 10005 % 10007
  | none => 0
def exN : List Nat := 1 :: T6n.map exV
def EX : List Int := up exN
theorem EX_len : EX.length = 38 := by
  unfold EX exN
  rw [up_len, List.length_cons, List.length_map, T6n_len]
def denB (t : List Nat) : Bool := match denO 9 t with
  | some d => Nat.ble 1 d && Nat.ble d 720 && Nat.beq (d * exV t % 10007) 1
  | none => false
theorem denB_all : T6n.all denB = true := by decide +kernel
theorem T6n_den {t : List Nat} (h : t ∈ T6n) : ∃ d, denO 9 t = some d ∧ 1 ≤ d ∧ d ≤ 720 ∧ d * exV t % 10007 = 1 ∧ exV t = d ^ 10005 % 10007 := by
  have h1 := denB_all
  rw [List.all_eq_true] at h1
  have h2 := h1 t h
  unfold denB at h2
  cases hd : denO 9 t with
  | none => rw [hd] at h2; cases h2
  | some d =>
    rw [hd] at h2
    simp only [Bool.and_eq_true] at h2
    refine ⟨d, rfl, Nat.le_of_ble_eq_true h2.1.1, Nat.le_of_ble_eq_true h2.1.2, Nat.eq_of_beq_eq_true h2.2, ?_⟩
    unfold exV
    rw [hd]
theorem pw_nat (d k : Nat) : pw (d : Int) k = ((d ^ k % 10007 : Nat) : Int) := by
  unfold pw
  rw [Int.natCast_emod, Int.natCast_pow]
  rfl
theorem exV_pw {t : List Nat} {d : Nat} (h : denO 9 t = some d) : pw (d : Int) 10005 = (exV t : Nat) := by
  rw [pw_nat]
  unfold exV
  rw [h]
theorem exV_le (t : List Nat) : exV t ≤ 10006 := by
  unfold exV
  cases denO 9 t with
  | none => simp
  | some d => have := Nat.mod_lt (d ^ 10005) (show 10007 > 0 by omega); simp only; omega
theorem EX_nums : ∀ z ∈ EX, 0 ≤ z ∧ z ≤ 10006 := by
  intro z hz
  unfold EX up exN at hz
  obtain ⟨n, hn, rfl⟩ := List.mem_map.1 hz
  rcases List.mem_cons.1 hn with rfl | hn
  · omega
  · obtain ⟨t, -, rfl⟩ := List.mem_map.1 hn
    have := exV_le t
    omega
theorem EX_succ {i : Nat} {t : List Nat} (h : T6n[i]? = some t) : EX[i + 1]? = some ((exV t : Nat) : Int) := by
  unfold EX exN
  simp [up, h]

/-! ### agreement -/
end Go.Proofs.YtdjhfeaimmpmhaaGreat

set_option maxRecDepth 100000
set_option linter.unusedVariables false
set_option linter.unusedSimpArgs false
namespace Go.Proofs.YtdjhfeaimmpmhaaGreat
open Go.RowKit

theorem wr_mul {a d : Nat} (h : a * d ≤ 1000000) : wrap64 ((a : Int) * (d : Int)) = ((a * d : Nat) : Int) ∧ IntKind.i64.wrap ((a : Int) * (d : Int)) = ((a * d : Nat) : Int) := by
  have h0 : ((a : Int) * (d : Int)) = ((a * d : Nat) : Int) := (Int.natCast_mul a d).symm
  rw [h0]
  generalize a * d = x at h
  have hb : -9223372036854775808 ≤ (x : Int) ∧ (x : Int) ≤ 9223372036854775807 := by omega
  exact ⟨by unfold wrap64; omega, IntWalk.i64_in _ hb⟩

set_option maxHeartbeats 4000000 in
theorem s_l03Density : ∀ (f : Nat) (w : World) (v : Value) (t : List Nat) (r : Nat), Ints w v (up t) → denO f t = some r → t.length ≤ 1000 → (∀ l ∈ t, l ≤ 1000000) →
    Calls Tryz.prog 150 #[v] w fun e w' => e = .returned (.int .i64 (r : Nat)) ∧ Below w.heap.size w w' := by
  intro f
  induction f with
  | zero => intro w v t r _ h; cases h
  | succ f ih =>
    intro w v t r ha hr hn hl
    obtain ⟨bs, hb, hd⟩ := denO_succ hr
    have hbl := brO_lens hb hn
    have hbm := brO_mem hb hl
    have IH := Lib.hid ih
    have HA := Lib.hid ha
    have HB := Lib.hid (s_l03Parts w v t bs ha hb hn hl)
    have HD := Lib.hid hd
    have HBL := Lib.hid hbl
    have HBM := Lib.hid hbm
    have hbl1 := hbl.1
    obtain ⟨A, c, rfl, -, -, -⟩ := ha.open_
    rw [up_len] at HA HB ⊢
    clear ih ha hr hb hd hbl hbm hl
    go_enter Tryz.func150, Tryz.ntmps150
    go_wp2_with (go_at_call 192; refine HB.out.mono ?_; rintro e w1 ⟨x1, rfl, hx1, hb1⟩; obtain ⟨vs, hv, hrr⟩ := hx1; have hvl := hrr.1; rw [List.length_map] at hvl; obtain ⟨A1, c1, rfl, -, -⟩ := hv.cells.open_; have HV := Lib.hid hv; have HRR := Lib.hid hrr; have HB1 := Lib.hid hb1; have HVL := Lib.hid hvl; clear hv hrr hb1 hvl)
    go_loopw [3, 5] (fun o x wr => ∃ (k a : Nat), k ≤ vs.length ∧ a ≤ 1000000 ∧ x = .int .i64 k ∧ o = .int .i64 a ∧ Hid (denL (denO f) (bs.drop k) a = some r) ∧ Below w1.heap.size w1 wr) (fun _ x _ => vs.length - (intOf x).toNat)
    case atStart => exact ⟨0, t.length, Nat.zero_le _, by omega, rfl, rfl, HD.out, Below.refl _ _⟩
    case round =>
      obtain ⟨k, a, hk, ha6, rfl, rfl, hD, hb⟩ := hrel
      have HBK := Lib.hid hb
      have hvn : vs.length ≤ 1000 := by rw [HVL.out]; exact hbl1
      clear hb
      by_cases hlt : k < vs.length
      · obtain ⟨b, hbk⟩ : ∃ b, bs[k]? = some b := ⟨_, List.getElem?_eq_getElem (by rw [← HVL.out]; exact hlt)⟩
        have hdr : bs.drop k = b :: bs.drop (k + 1) := by
          obtain ⟨h1, h2⟩ := List.getElem?_eq_some_iff.1 hbk
          rw [List.drop_eq_getElem_cons h1, h2]
        have hD2 := hD.out
        rw [hdr] at hD2
        obtain ⟨d, hd1, hd2, hd3⟩ := denL_cons hD2
        obtain ⟨u, hu⟩ : ∃ u, vs[k]? = some u := ⟨_, List.getElem?_eq_getElem hlt⟩
        obtain ⟨ad, n', c', he, hcell⟩ := (HV.out.below HBK.out).cells.at_ hu
        simp only [Value.slice.injEq] at he
        obtain ⟨rfl, -, -⟩ := he
        have hrow := (HRR.out.below HBK.out).2 k u (up b) hu (by rw [List.getElem?_map, hbk]; rfl)
        have HRO := Lib.hid hrow
        have HC := Lib.hid (IH.out wr u b d hrow.ints hd1 (HBL.out.2 b (List.mem_of_getElem? hbk)) (HBM.out b (List.mem_of_getElem? hbk)))
        have HD3 := Lib.hid hd3
        obtain ⟨hw1, hw2⟩ := wr_mul hd2
        have hkk : (k : Int) < (vs.length : Int) := by omega
        clear hbk hdr hD hD2 hd1 hd3 hrow hu
        go_wp2_with (go_at_call 150; go_loud (refine HC.out.mono ?_; rintro e w2 ⟨rfl, hb2⟩; have HB2 := Lib.hid hb2; clear hb2))
        go_roundw
        case rel => exact ⟨k + 1, a * d, by omega, hd2, by go_num, rfl, HD3.out, HBK.out.trans (HB2.out.mono HBK.out.size)⟩
        case measure => simp [intOf]; omega
      · have hkl : k = bs.length := by rw [← HVL.out]; omega
        have hD2 := hD.out
        rw [hkl, List.drop_length, denL] at hD2
        injection hD2 with hD2
        subst hD2
        clear hkl
        go_wp2_with fail
        go_ret
        exact ⟨rfl, HB1.out.trans (HBK.out.mono HB1.out.size)⟩

end Go.Proofs.YtdjhfeaimmpmhaaGreat

set_option maxRecDepth 100000
set_option linter.unusedVariables false
set_option linter.unusedSimpArgs false
namespace Go.Proofs.YtdjhfeaimmpmhaaGreat
open Go.RowKit

theorem ints_getD {zs : List Int} {k : Nat} {z : Int} (h : zs[k]? = some z) : zs.getD k 0 = z := by simp [List.getD, h]
theorem in64_num {z : Int} (h : 0 ≤ z ∧ z ≤ 10006) : In64 z := by unfold In64; omega

/-- what the walks of both need of a tree -/
theorem den_of {t : List Nat} (h : t ∈ T6n) : ∃ d : Nat, denO 9 t = some d ∧ 1 ≤ d ∧ d ≤ 720 ∧ pw (d : Int) 10005 = (exV t : Nat) ∧ t.length ≤ 1000 ∧ (∀ l ∈ t, l ≤ 1000000) := by
  obtain ⟨d, h1, h2, h3, -, -⟩ := T6n_den h
  obtain ⟨-, -, h5, h6⟩ := T6n_at h
  exact ⟨d, h1, h2, h3, exV_pw h1, by omega, fun l hl => by have := h6 l hl; omega⟩
/-- the row of a tree -/
theorem Rows.tree {w : World} {A : Option Addr} {c : Nat} (h : Rows w (.slice A 37 c) (T6n.map up)) {i : Nat} (hi : i < 37) :
    ∃ ad At ct t, A = some ad ∧ T6n[i]? = some t ∧ Ints w (.slice At t.length ct) (up t) ∧ w.cell? (ad.add i) = some (.slice At t.length ct) := by
  obtain ⟨A', c', he, -, -, h3⟩ := h.open_
  rw [List.length_map, T6n_len] at he h3
  simp only [Value.slice.injEq, true_and] at he
  obtain ⟨rfl, rfl⟩ := he
  obtain ⟨ad, u, zs, rfl, hz, hu, hc⟩ := h3 i hi
  have ht : T6n[i]? = some (T6n[i]'(by rw [T6n_len]; exact hi)) := List.getElem?_eq_getElem _
  rw [List.getElem?_map, ht] at hz
  injection hz with hz
  subst hz
  obtain ⟨Au, cu, rfl, -, -, -⟩ := hu.open_
  rw [up_len] at hu hc
  exact ⟨ad, Au, cu, _, rfl, ht, hu, hc⟩

set_option maxHeartbeats 1000000 in
theorem s_l01Frac (w : World) (p q : Int) (h0 : 0 ≤ p) (h1 : p ≤ 1000000) (g0 : 0 ≤ q) (g1 : q ≤ 1000000) :
    Calls Tryz.prog 149 #[.int .i64 p, .int .i64 q] w fun e w' => e = .returned (.int .i64 ((p % 10007) * pw (q % 10007) 10005 % 10007)) ∧ w = w' := by
  have hp := pw_bd (q % 10007) 10005
  have hq : 0 ≤ q % 10007 ∧ q % 10007 ≤ 10006 := by omega
  have hq2 : 0 ≤ p % 10007 ∧ p % 10007 ≤ 10006 := by omega
  go_enter Tryz.func149, Tryz.ntmps149
  go_wp2_with (first
    | (go_at_call 191; (with_reducible refine (s_l01Inv _ _ (by omega) (by omega)).mono ?_); rintro e w2 ⟨rfl, rfl⟩)
    | (go_at_call 131; (with_reducible refine (s_l01Mul _ _ _ (by omega) (by omega) (by omega) (by omega)).mono ?_); rintro e w2 ⟨rfl, rfl⟩)
    | (go_at_call 123; (with_reducible refine (s_l01Mod _ _ (by omega) (by omega)).mono ?_); rintro e w2 ⟨rfl, rfl⟩))
  go_ret
  exact ⟨rfl, rfl⟩

set_option maxHeartbeats 4000000 in
theorem s_l07Exact (w : World) :
    Calls Tryz.prog 91 #[] w fun e w' => ∃ x, e = .returned x ∧ OwnInts w' w.heap.size tI x EX ∧ Below w.heap.size w w' := by
  go_enter Tryz.func91, Tryz.ntmps91
  go_wp2_with (go_at_call 70; go_loud (refine (s_l03All _ 6 (by omega)).mono ?_; rintro e w1 ⟨x1, rfl, hx1, hb1⟩; rw [show allG treesN 6 = T6n from rfl] at hx1; obtain ⟨A1, c1, he1, -, -, -⟩ := hx1.rows.open_; rw [List.length_map, T6n_len] at he1; subst he1; have HX1 := Lib.hid hx1; have HB1 := Lib.hid hb1; clear hx1 hb1))
  have OL := Lib.hid (show Own (w1.alloc (.cells #[.int .i64 1] tI)) w1.heap.size tI (.slice (some ⟨w1.heap.size, 0, none⟩) 1 1) (ints (EX.take 1)) from own_lit w1 tI [.int .i64 1] (by simp [maxLen]))
  have HBB := Lib.hid (HB1.out.trans ((below1 w1 (.cells #[.int .i64 1] tI)).mono HB1.out.size))
  have HBZ := Lib.hid (below1 w1 (.cells #[.int .i64 1] tI))
  have HSZ := Lib.hid HB1.out.size
  clear HB1
  go_loopw [2, 3] (fun o x wr => ∃ i : Nat, i ≤ 37 ∧ x = .int .i64 i ∧ Own wr w1.heap.size tI o (ints (EX.take (i + 1))) ∧ Below w1.heap.size w1 wr ∧ Below w.heap.size w wr) (fun _ x _ => 37 - (intOf x).toNat)
  case atStart => exact ⟨0, Nat.zero_le _, rfl, OL.out, HBZ.out, HBB.out⟩
  case round =>
    obtain ⟨i, hi, rfl, ho, hb1, hb⟩ := hrel
    clear OL HBZ HBB
    have hrw := HX1.out.rows.below hb1
    have hol := ho.cells.open_
    have hel : (EX.take (i + 1)).length = i + 1 := by rw [List.length_take, EX_len]; omega
    rw [ints_len, hel] at hol
    obtain ⟨Ao, co, rfl, -, -⟩ := hol
    have HEL := Lib.hid hel
    have HO := Lib.hid ho
    have HB := Lib.hid hb
    have HB1 := Lib.hid hb1
    clear ho hb hb1 hel
    by_cases hlt : i < 37
    · obtain ⟨ad, At, ct, t, rfl, ht, hti, hcr⟩ := hrw.tree hlt
      obtain ⟨dn, hd1, hd2, hd3, hd4, hd5, hd6⟩ := den_of (List.mem_of_getElem? ht)
      have HDE := Lib.hid (s_l03Density 9 wr _ t dn hti hd1 hd5 hd6)
      have HFR := Lib.hid (fun W => show Calls Tryz.prog 149 #[.int .i64 1, .int .i64 (dn : Int)] W fun e w' => e = .returned (.int .i64 ((exV t : Nat) : Int)) ∧ W = w' from by
        have h := s_l01Frac W 1 (dn : Int) (by omega) (by omega) (by omega) (by omega)
        have hmod : (dn : Int) % 10007 = (dn : Int) := by omega
        have hz := exV_le t
        rw [hmod, hd4, show (1 : Int) % 10007 = 1 from rfl, show ((1 : Int) * ((exV t : Nat) : Int)) % 10007 = ((exV t : Nat) : Int) by omega] at h
        exact h)
      have HTS := Lib.hid (show ints (EX.take (i + 1 + 1)) = ints (EX.take (i + 1)) ++ [.int .i64 ((exV t : Nat) : Int)] from by rw [List.take_add_one, EX_succ ht, ints, ints, List.map_append]; rfl)
      have hii : (i : Int) < 37 := by omega
      clear ht hti hd1 hd4 hd5 hd6 hrw
      go_wp2_with (first
        | (go_at_call 150; go_loud (refine HDE.out.mono ?_; rintro e w2 ⟨rfl, hb2⟩; have HB2 := Lib.hid hb2; have HOX := Lib.hid (HO.out.below hb2); clear hb2))
        | (go_at_call 149; refine (HFR.out _).mono ?_; rintro e w3 ⟨rfl, rfl⟩)
        | (at_builtin; go_loud (refine wpList_app1 T_int HOX.out (by rw [ints_len, HEL.out]; omega) (Nat.le_trans HB1.out.size HB2.out.size) (by rfl) rfl (by rfl) (by rfl) (by rfl) ?_; intro v1 w6 hown1 hgr1; have HN := Lib.hid hown1; have HGR := Lib.hid hgr1; clear hown1 hgr1)))
      go_roundw
      case rel =>
        have hb6 : Below w1.heap.size w1 w6 := HGR.out.below (HB1.out.trans (HB2.out.mono HB1.out.size)) (Nat.le_trans HB1.out.size HB2.out.size) HO.out.ge
        have hge := HO.out.ge
        refine ⟨i + 1, by omega, by go_num, ?_, hb6, HGR.out.below (HB.out.trans (HB2.out.mono HB.out.size)) (Nat.le_trans HB.out.size HB2.out.size) (fun b hb => Nat.le_trans HSZ.out (hge b hb))⟩
        rw [HTS.out]; exact HN.out
      case measure => simp [intOf]; omega
    · have hil : i + 1 = EX.length := by rw [EX_len]; omega
      have HF := Lib.hid (show EX.take (i + 1) = EX from by rw [hil]; exact List.take_length)
      clear hil
      go_wp2_with fail
      go_ret
      refine ⟨_, rfl, ⟨?_, fun z hz => in64_num (EX_nums z hz)⟩, HB.out⟩
      have h := HO.out
      rw [HF.out] at h
      exact h.mono HSZ.out
end Go.Proofs.YtdjhfeaimmpmhaaGreat

set_option maxRecDepth 100000
set_option linter.unusedVariables false
set_option linter.unusedSimpArgs false
namespace Go.Proofs.YtdjhfeaimmpmhaaGreat

/-! ### products -/
def prodZ : List Int → Int
  | [] => 1
  | x :: xs => x * prodZ xs
/-! ### sums -/
end Go.Proofs.YtdjhfeaimmpmhaaGreat

set_option maxRecDepth 100000
namespace Go.Proofs.YtdjhfeaimmpmhaaGreat

def CTab : List (List ((List Nat × Nat) × Nat)) := [
  [(([], 1), 1), (([1], 0), 1)],
  [(([], 2), 1), (([1], 1), 1), (([2], 0), 1)],
  [(([], 3), 1), (([1], 2), 1), (([2], 1), 1), (([3], 0), 1)],
  [(([], 4), 1), (([1], 2), 2), (([1, 1], 1), 1), (([4], 0), 1)],
  [(([], 5), 1), (([1], 3), 1), (([2], 2), 1), (([3], 1), 1), (([5], 0), 1)],
  [(([], 6), 1), (([1], 3), 2), (([1, 1], 2), 1), (([4], 1), 1), (([6], 0), 1)],
  [(([], 7), 1), (([1], 3), 1), (([1], 4), 1), (([2], 2), 1), (([1, 1], 2), 1), (([1, 2], 1), 1), (([7], 0), 1)],
  [(([], 8), 1), (([1], 4), 3), (([1, 1], 2), 3), (([1, 1, 1], 1), 1), (([8], 0), 1)],
  [(([], 9), 1), (([1], 5), 1), (([2], 3), 1), (([3], 2), 1), (([5], 1), 1), (([9], 0), 1)],
  [(([], 10), 1), (([1], 5), 2), (([1, 1], 3), 1), (([4], 2), 1), (([6], 1), 1), (([10], 0), 1)],
  [(([], 11), 1), (([1], 5), 1), (([1], 6), 1), (([2], 3), 1), (([1, 1], 3), 1), (([1, 2], 2), 1), (([7], 1), 1), (([11], 0), 1)],
  [(([], 12), 1), (([1], 5), 1), (([1], 7), 1), (([2], 4), 1), (([1, 1], 3), 1), (([3], 2), 1), (([1, 2], 2), 1), (([1, 3], 1), 1), (([12], 0), 1)],
  [(([], 13), 1), (([1], 6), 3), (([1, 1], 3), 3), (([1, 1, 1], 2), 1), (([8], 1), 1), (([13], 0), 1)],
  [(([], 14), 1), (([1], 6), 1), (([1], 7), 2), (([1, 1], 3), 2), (([1, 1], 4), 1), (([4], 2), 1), (([1, 1, 1], 2), 1), (([1, 4], 1), 1), (([14], 0), 1)],
  [(([], 15), 1), (([1], 7), 2), (([2], 3), 2), (([1, 1], 4), 1), (([1, 2], 2), 2), (([2, 2], 1), 1), (([15], 0), 1)],
  [(([], 16), 1), (([1], 7), 2), (([1], 8), 1), (([2], 4), 1), (([1, 1], 3), 1), (([1, 1], 4), 2), (([1, 2], 2), 2), (([1, 1, 1], 2), 1), (([1, 1, 2], 1), 1), (([16], 0), 1)],
  [(([], 17), 1), (([1], 8), 4), (([1, 1], 4), 6), (([1, 1, 1], 2), 4), (([1, 1, 1, 1], 1), 1), (([17], 0), 1)],
  [(([], 18), 1), (([1], 9), 1), (([2], 5), 1), (([3], 3), 1), (([5], 2), 1), (([9], 1), 1), (([18], 0), 1)],
  [(([], 19), 1), (([1], 9), 2), (([1, 1], 5), 1), (([4], 3), 1), (([6], 2), 1), (([10], 1), 1), (([19], 0), 1)],
  [(([], 20), 1), (([1], 9), 1), (([1], 10), 1), (([2], 5), 1), (([1, 1], 5), 1), (([1, 2], 3), 1), (([7], 2), 1), (([11], 1), 1), (([20], 0), 1)],
  [(([], 21), 1), (([1], 9), 1), (([1], 11), 1), (([2], 6), 1), (([1, 1], 5), 1), (([3], 3), 1), (([1, 2], 3), 1), (([1, 3], 2), 1), (([12], 1), 1), (([21], 0), 1)],
  [(([], 22), 1), (([1], 9), 1), (([1], 12), 1), (([2], 7), 1), (([1, 1], 5), 1), (([3], 4), 1), (([1, 2], 3), 1), (([5], 2), 1), (([1, 3], 2), 1), (([1, 5], 1), 1), (([22], 0), 1)],
  [(([], 23), 1), (([1], 10), 3), (([1, 1], 5), 3), (([1, 1, 1], 3), 1), (([8], 2), 1), (([13], 1), 1), (([23], 0), 1)],
  [(([], 24), 1), (([1], 10), 1), (([1], 11), 2), (([1, 1], 5), 2), (([1, 1], 6), 1), (([4], 3), 1), (([1, 1, 1], 3), 1), (([1, 4], 2), 1), (([14], 1), 1), (([24], 0), 1)],
  [(([], 25), 1), (([1], 10), 1), (([1], 12), 2), (([1, 1], 5), 2), (([1, 1], 7), 1), (([4], 4), 1), (([1, 1, 1], 3), 1), (([6], 2), 1), (([1, 4], 2), 1), (([1, 6], 1), 1), (([25], 0), 1)],
  [(([], 26), 1), (([1], 11), 2), (([2], 5), 2), (([1, 1], 6), 1), (([1, 2], 3), 2), (([2, 2], 2), 1), (([15], 1), 1), (([26], 0), 1)],
  [(([], 27), 1), (([1], 11), 2), (([1], 13), 1), (([2], 6), 1), (([1, 1], 5), 1), (([1, 1], 6), 2), (([1, 2], 3), 2), (([1, 1, 1], 3), 1), (([1, 1, 2], 2), 1), (([16], 1), 1), (([27], 0), 1)],
  [(([], 28), 1), (([1], 11), 1), (([1], 12), 1), (([1], 14), 1), (([2], 7), 1), (([1, 1], 5), 1), (([1, 1], 6), 1), (([1, 1], 7), 1), (([1, 2], 3), 1), (([1, 2], 4), 1), (([1, 1, 1], 3), 1), (([7], 2), 1), (([1, 1, 2], 2), 1), (([1, 7], 1), 1), (([28], 0), 1)],
  [(([], 29), 1), (([1], 12), 1), (([1], 15), 1), (([2], 5), 1), (([2], 7), 1), (([1, 1], 7), 1), (([3], 3), 1), (([1, 2], 3), 1), (([1, 2], 4), 1), (([1, 3], 2), 1), (([2, 2], 2), 1), (([2, 3], 1), 1), (([29], 0), 1)],
  [(([], 30), 1), (([1], 12), 2), (([1], 16), 1), (([2], 8), 1), (([1, 1], 5), 1), (([1, 1], 7), 2), (([3], 4), 1), (([1, 2], 4), 2), (([1, 1, 1], 3), 1), (([1, 3], 2), 2), (([1, 1, 2], 2), 1), (([1, 1, 3], 1), 1), (([30], 0), 1)],
  [(([], 31), 1), (([1], 13), 4), (([1, 1], 6), 6), (([1, 1, 1], 3), 4), (([1, 1, 1, 1], 2), 1), (([17], 1), 1), (([31], 0), 1)],
  [(([], 32), 1), (([1], 13), 1), (([1], 14), 3), (([1, 1], 6), 3), (([1, 1], 7), 3), (([1, 1, 1], 3), 3), (([1, 1, 1], 4), 1), (([8], 2), 1), (([1, 1, 1, 1], 2), 1), (([1, 8], 1), 1), (([32], 0), 1)],
  [(([], 33), 1), (([1], 14), 1), (([1], 15), 2), (([2], 6), 1), (([1, 1], 7), 3), (([4], 3), 1), (([1, 2], 3), 2), (([1, 1, 1], 4), 1), (([1, 4], 2), 1), (([1, 1, 2], 2), 1), (([2, 4], 1), 1), (([33], 0), 1)],
  [(([], 34), 1), (([1], 14), 2), (([1], 16), 2), (([1, 1], 6), 1), (([1, 1], 7), 4), (([1, 1], 8), 1), (([4], 4), 1), (([1, 1, 1], 3), 2), (([1, 1, 1], 4), 2), (([1, 4], 2), 2), (([1, 1, 1, 1], 2), 1), (([1, 1, 4], 1), 1), (([34], 0), 1)],
  [(([], 35), 1), (([1], 15), 1), (([1], 16), 2), (([2], 7), 2), (([1, 1], 7), 2), (([1, 1], 8), 1), (([1, 2], 3), 2), (([1, 2], 4), 2), (([1, 1, 1], 4), 1), (([2, 2], 2), 1), (([1, 1, 2], 2), 2), (([1, 2, 2], 1), 1), (([35], 0), 1)],
  [(([], 36), 1), (([1], 16), 3), (([1], 17), 1), (([2], 8), 1), (([1, 1], 7), 3), (([1, 1], 8), 3), (([1, 2], 4), 3), (([1, 1, 1], 3), 1), (([1, 1, 1], 4), 3), (([1, 1, 2], 2), 3), (([1, 1, 1, 1], 2), 1), (([1, 1, 1, 2], 1), 1), (([36], 0), 1)],
  [(([], 37), 1), (([1], 17), 5), (([1, 1], 8), 10), (([1, 1, 1], 4), 10), (([1, 1, 1, 1], 2), 5), (([1, 1, 1, 1, 1], 1), 1), (([37], 0), 1)]]
end Go.Proofs.YtdjhfeaimmpmhaaGreat

set_option maxRecDepth 100000
set_option linter.unusedVariables false
set_option linter.unusedSimpArgs false
namespace Go.Proofs.YtdjhfeaimmpmhaaGreat

/-! ### the convolution over integers -/
theorem blt_lt {a b : Nat} (h : Nat.blt a b = true) : a < b := Nat.le_of_ble_eq_true h
abbrev MCt := (List Nat × Nat) × Nat
def pz (a : Nat → Int) (ps : List Nat) : Int := prodZ (ps.map a)
def CP (p : Nat) : List MCt := match p with
  | 0 => [(([], 0), 1)]
  | n + 1 => CTab.getD n []
def cvT (a b : Nat → Int) (x : MCt) : Int := (x.2 : Int) * (pz a x.1.1 * b x.1.2)
def cv (a b : Nat → Int) (p : Nat) : Int := sumF (cvT a b) (CP p)

/-! ### sums and products -/
/-! ### terms in three maps -/
/-! ### normal forms -/
def nz : List Nat → List Nat
  | [] => []
  | p :: ps => bif Nat.beq p 0 then nz ps else p :: nz ps
/-! ### units -/
/-! ### modulo the prime -/
end Go.Proofs.YtdjhfeaimmpmhaaGreat

set_option maxRecDepth 100000
set_option linter.unusedVariables false
set_option linter.unusedSimpArgs false
namespace Go.Proofs.YtdjhfeaimmpmhaaGreat
open Go.RowKit

abbrev SC := SP × Nat
/-! ### the order of cuts: 0 for equal ones, 1 for less, 2 for greater -/
def scan5 : List (List Nat) → List (List Nat) → Nat
  | x :: f, y :: g => bif befN x y then 1 else bif befN y x then 2 else scan5 f g
  | _, _ => 0
def cmp5 (f g : List (List Nat)) : Nat := bif Nat.beq f.length g.length then scan5 f g else bif Nat.blt f.length g.length then 1 else 2
def ord5 (a b : SP) : Nat := bif Nat.beq (ndN a.1) (ndN b.1) then (match cmp5 a.1 b.1 with
    | 0 => cmp5 a.2 b.2
    | k + 1 => k + 1)
  else bif Nat.blt (ndN a.1) (ndN b.1) then 1 else 2
/-! ### one more cut -/
def step5 (cut : SC) (st : List SC × Bool) (own : SC) : List SC × Bool := match st.2 with
  | true => (st.1 ++ [own], true)
  | false => match ord5 cut.1 own.1 with
    | 0 => (st.1 ++ [(own.1, own.2 + cut.2)], true)
    | 1 => (st.1 ++ [cut] ++ [own], true)
    | _ => (st.1 ++ [own], false)
def put5S (cut : SC) (l : List SC) : List SC × Bool := l.foldl (step5 cut) ([], false)
def put5 (l : List SC) (cut : SC) : List SC := match (put5S cut l).2 with
  | true => (put5S cut l).1
  | false => (put5S cut l).1 ++ [cut]
def tim5 (x y : SC) : SC := ((srtB (x.1.1 ++ y.1.1), srtB (x.1.2 ++ y.1.2)), x.2 * y.2)
def row5 (b : List SC) (x : SC) (out : List SC) : List SC := b.foldl (fun out y => put5 out (tim5 x y)) out
def times5 (a b : List SC) : List SC := a.foldl (fun out x => row5 b x out) []
/-! ### premises -/
def okC5 (x : SC) : Bool := okS1 x.1 && Nat.ble x.2 100
def okL5 (l : List SC) : Bool := Nat.ble l.length 100 && l.all okC5
def loop5 (g : List Nat → Option (List SC)) : List (List Nat) → List SC → Option (List SC)
  | [], acc => some acc
  | b :: bs, acc => match g b with
    | none => none
    | some lb => bif okL5 acc && (okL5 lb && okL5 (times5 acc lb)) then loop5 g bs (times5 acc lb) else none
def root5 (x : SC) : Option SC := bif okT1 (rootN x.1.2) && Nat.ble (brLen x.1.2) 1000 then match canO 9 (rootN x.1.2) with
    | none => none
    | some r => bif okT1 r then some ((x.1.1, [r]), x.2) else none
  else none
def tree5 : Nat → List Nat → Option (List SC)
  | 0, _ => none
  | f + 1, t => bif okT1 t then match canO 9 t with
      | none => none
      | some c => bif okT1 c then match brO c with
        | none => none
        | some ps => bif Nat.ble ps.length 100 && ps.all okT1 then match loop5 (tree5 f) (srtB ps) [(([], []), 1)] with
          | none => none
          | some l => bif okL5 l then match mapO root5 l with
            | none => none
            | some l2 => bif okL5 l2 && okL5 (l2.foldl put5 [(([t], []), 1)]) then some (l2.foldl put5 [(([t], []), 1)]) else none
          else none
        else none
      else none
  else none
/-- the cuts of a tree -/
def cut5 (x : SC) : CU := ((x.1.1, x.1.2.headD []), x.2)
/-- by places -/
def mcR (c : CU) : MC := ((c.1.1.map (fndN T6n), fndN T6n c.1.2), c.2)
def eqMC (x y : MC) : Bool := eqN x.1.1 y.1.1 && (Nat.beq x.1.2 y.1.2 && Nat.beq x.2 y.2)
def eqML : List MC → List MC → Bool
  | [], [] => true
  | x :: xs, y :: ys => eqMC x y && eqML xs ys
  | _, _ => false
def okMC (n : Nat) (x : MC) : Bool := x.1.1.all (fun p => Nat.ble 1 p && Nat.ble p n) && (Nat.ble x.1.2 n && (Nat.ble x.1.1.length 100 && Nat.ble x.2 100))
/-- the places in the cuts of tree n: the crown's go up to its own, the trunk's too -/
def okCt (n : Nat) : Bool := match tree5 9 (T6n.getD n []) with
  | some l => eqML (cutsI T6n (T6n.getD n [])) (CTab.getD n []) && (eqML ((l.map cut5).map mcR) (CTab.getD n []) && (CTab.getD n []).all (okMC (n + 1)))
  | none => false
theorem okCt_all : (List.range 37).all okCt = true := by decide +kernel
theorem eqML_iff : ∀ {xs ys : List MC}, eqML xs ys = true → xs = ys
  | [], [], _ => rfl
  | [], _ :: _, h => by cases h
  | _ :: _, [], h => by cases h
  | ((a, b), c) :: xs, ((a', b'), c') :: ys, h => by
    unfold eqML eqMC at h
    simp only [Bool.and_eq_true] at h
    rw [eqML_iff h.2, eqN_iff.1 h.1.1, Nat.eq_of_beq_eq_true h.1.2.1, Nat.eq_of_beq_eq_true h.1.2.2]

theorem cut_at {n : Nat} (h : n < 37) : ∃ l, tree5 9 (T6n.getD n []) = some l ∧ cutsI T6n (T6n.getD n []) = CTab.getD n [] ∧ (l.map cut5).map mcR = CTab.getD n [] ∧ ∀ x ∈ CTab.getD n [], (∀ p ∈ x.1.1, 1 ≤ p ∧ p ≤ n + 1) ∧ x.1.2 ≤ n + 1 ∧ x.1.1.length ≤ 100 ∧ x.2 ≤ 100 := by
  have h1 := okCt_all
  rw [List.all_eq_true] at h1
  have h2 := h1 n (by simpa using h)
  unfold okCt at h2
  cases ht : tree5 9 (T6n.getD n []) with
  | none => rw [ht] at h2; cases h2
  | some l =>
    rw [ht] at h2
    simp only [Bool.and_eq_true, List.all_eq_true] at h2
    refine ⟨l, rfl, eqML_iff h2.1, eqML_iff h2.2.1, fun x hx => ?_⟩
    have h3 := h2.2.2 x hx
    unfold okMC at h3
    simp only [Bool.and_eq_true, List.all_eq_true] at h3
    exact ⟨fun p hp => ⟨Nat.le_of_ble_eq_true (h3.1 p hp).1, Nat.le_of_ble_eq_true (h3.1 p hp).2⟩, Nat.le_of_ble_eq_true h3.2.1, Nat.le_of_ble_eq_true h3.2.2.1, Nat.le_of_ble_eq_true h3.2.2.2⟩

/-! ### bounds on the way -/
end Go.Proofs.YtdjhfeaimmpmhaaGreat

