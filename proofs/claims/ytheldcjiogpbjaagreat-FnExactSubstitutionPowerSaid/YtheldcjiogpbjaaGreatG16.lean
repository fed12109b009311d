/- DROP Walks: density of the program and of the reference; nodes of forms. | DROP Walks: the unit, the exact map of the program and of the reference. | DROP Walk: l12To of the reference. | Walks: agreement of maps, of the program and of the reference; maps cut down. -/
import Derived.Test.YtheldcjiogpbjaaGreatG14
import Derived.Test.YtheldcjiogpbjaaGreatG3
import Derived.Test.YtheldcjiogpbjaaGreatG4
import Derived.Test.YtheldcjiogpbjaaGreatG15
import Derived.Test.YtheldcjiogpbjaaGreatG10
set_option maxRecDepth 100000
set_option linter.unusedVariables false
set_option linter.unusedSimpArgs false
namespace Go.Proofs.YtheldcjiogpbjaaGreat
open Go.RowKit

theorem wr_mul {a d : Nat} (h : a * d ≤ 1000000) : wrap64 ((a : Int) * (d : Int)) = ((a * d : Nat) : Int) ∧ IntKind.i64.wrap ((a : Int) * (d : Int)) = ((a * d : Nat) : Int) := by
  have h0 : ((a : Int) * (d : Int)) = ((a * d : Nat) : Int) := (Int.natCast_mul a d).symm
  rw [h0]
  generalize a * d = x at h
  have hb : -9223372036854775808 ≤ (x : Int) ∧ (x : Int) ≤ 9223372036854775807 := by omega
  exact ⟨by unfold wrap64; omega, IntWalk.i64_in _ hb⟩

set_option maxHeartbeats 4000000 in
theorem i_density : ∀ (f : Nat) (w : World) (v : Value) (t : List Nat) (r : Nat), Ints w v (up t) → denO f t = some r → t.length ≤ 1000 → (∀ l ∈ t, l ≤ 1000000) →
    Calls Tryz.prog 67 #[v] w fun e w' => e = .returned (.int .i64 (r : Nat)) ∧ Below w.heap.size w w' := by
  intro f
  induction f with
  | zero => intro w v t r _ h; cases h
  | succ f ih =>
    intro w v t r ha hr hn hl
    obtain ⟨bs, hb, hd⟩ := denO_succ hr
    have hbl := brO_lens hb hn
    have hbm := brO_mem hb hl
    have IH := Lib.hid ih
    have HA := Lib.hid ha
    have HB := Lib.hid (i_branchesOf w v t bs ha hb hn hl)
    have HLN := Lib.hid (lib_lengthI w v _ ha)
    rw [up_len] at HLN
    have HD := Lib.hid hd
    have HBL := Lib.hid hbl
    have HBM := Lib.hid hbm
    have hbl1 := hbl.1
    obtain ⟨A, c, rfl, -, -, -⟩ := ha.open_
    rw [up_len] at HA HB HLN ⊢
    clear ih ha hr hb hd hbl hbm hl
    go_enter Tryz.func67, Tryz.ntmps67
    go_wp2_with (first
      | (go_at_call 68; refine HLN.out.mono ?_; rintro e w0 ⟨rfl, rfl⟩)
      | (go_at_call 109; refine HB.out.mono ?_; rintro e w1 ⟨x1, rfl, hx1, hb1⟩; obtain ⟨vs, hv, hrr⟩ := hx1; have hvl := hrr.1; rw [List.length_map] at hvl; obtain ⟨A1, c1, rfl, -, -⟩ := hv.cells.open_; have HV := Lib.hid hv; have HRR := Lib.hid hrr; have HB1 := Lib.hid hb1; have HVL := Lib.hid hvl; clear hv hrr hb1 hvl))
    go_loopw [3, 11] (fun o x wr => ∃ (k a : Nat), k ≤ vs.length ∧ a ≤ 1000000 ∧ x = .int .i64 k ∧ o = .int .i64 a ∧ Hid (denL (denO f) (bs.drop k) a = some r) ∧ Below w1.heap.size w1 wr) (fun _ x _ => vs.length - (intOf x).toNat)
    case atStart => exact ⟨0, t.length, Nat.zero_le _, by omega, rfl, rfl, HD.out, Below.refl _ _⟩
    case round =>
      obtain ⟨k, a, hk, ha6, rfl, rfl, hD, hb⟩ := hrel
      have HBK := Lib.hid hb
      have hvn : vs.length ≤ 1000 := by rw [HVL.out]; exact hbl1
      clear hb
      by_cases hlt : k < vs.length
      · obtain ⟨b, hbk⟩ : ∃ b, bs[k]? = some b := ⟨_, List.getElem?_eq_getElem (by rw [← HVL.out]; exact hlt)⟩
        have hdr : bs.drop k = b :: bs.drop (k + 1) := by
          obtain ⟨h1, h2⟩ := List.getElem?_eq_some_iff.1 hbk
          rw [List.drop_eq_getElem_cons h1, h2]
        have hD2 := hD.out
        rw [hdr] at hD2
        obtain ⟨d, hd1, hd2, hd3⟩ := denL_cons hD2
        obtain ⟨u, hu⟩ : ∃ u, vs[k]? = some u := ⟨_, List.getElem?_eq_getElem hlt⟩
        obtain ⟨ad, n', c', he, hcell⟩ := (HV.out.below HBK.out).cells.at_ hu
        simp only [Value.slice.injEq] at he
        obtain ⟨rfl, -, -⟩ := he
        have hrow := (HRR.out.below HBK.out).2 k u (up b) hu (by rw [List.getElem?_map, hbk]; rfl)
        have HRO := Lib.hid hrow
        have HC := Lib.hid (IH.out wr u b d hrow.ints hd1 (HBL.out.2 b (List.mem_of_getElem? hbk)) (HBM.out b (List.mem_of_getElem? hbk)))
        have HD3 := Lib.hid hd3
        obtain ⟨hw1, hw2⟩ := wr_mul hd2
        have hkk : (k : Int) < (vs.length : Int) := by omega
        clear hbk hdr hD hD2 hd1 hd3 hrow hu
        go_wp2_with (go_at_call 67; go_loud (refine HC.out.mono ?_; rintro e w2 ⟨rfl, hb2⟩; have HB2 := Lib.hid hb2; clear hb2))
        go_roundw
        case rel => exact ⟨k + 1, a * d, by omega, hd2, by go_num, rfl, HD3.out, HBK.out.trans (HB2.out.mono HBK.out.size)⟩
        case measure => simp [intOf]; omega
      · have hkl : k = bs.length := by rw [← HVL.out]; omega
        have hD2 := hD.out
        rw [hkl, List.drop_length, denL] at hD2
        injection hD2 with hD2
        subst hD2
        clear hkl
        go_wp2_with fail
        go_ret
        exact ⟨rfl, HB1.out.trans (HBK.out.mono HB1.out.size)⟩

set_option maxHeartbeats 4000000 in
theorem s_l03Density : ∀ (f : Nat) (w : World) (v : Value) (t : List Nat) (r : Nat), Ints w v (up t) → denO f t = some r → t.length ≤ 1000 → (∀ l ∈ t, l ≤ 1000000) →
    Calls Tryz.prog 105 #[v] w fun e w' => e = .returned (.int .i64 (r : Nat)) ∧ Below w.heap.size w w' := by
  intro f
  induction f with
  | zero => intro w v t r _ h; cases h
  | succ f ih =>
    intro w v t r ha hr hn hl
    obtain ⟨bs, hb, hd⟩ := denO_succ hr
    have hbl := brO_lens hb hn
    have hbm := brO_mem hb hl
    have IH := Lib.hid ih
    have HA := Lib.hid ha
    have HB := Lib.hid (s_l03Parts w v t bs ha hb hn hl)
    have HD := Lib.hid hd
    have HBL := Lib.hid hbl
    have HBM := Lib.hid hbm
    have hbl1 := hbl.1
    obtain ⟨A, c, rfl, -, -, -⟩ := ha.open_
    rw [up_len] at HA HB ⊢
    clear ih ha hr hb hd hbl hbm hl
    go_enter Tryz.func105, Tryz.ntmps105
    go_wp2_with (go_at_call 138; refine HB.out.mono ?_; rintro e w1 ⟨x1, rfl, hx1, hb1⟩; obtain ⟨vs, hv, hrr⟩ := hx1; have hvl := hrr.1; rw [List.length_map] at hvl; obtain ⟨A1, c1, rfl, -, -⟩ := hv.cells.open_; have HV := Lib.hid hv; have HRR := Lib.hid hrr; have HB1 := Lib.hid hb1; have HVL := Lib.hid hvl; clear hv hrr hb1 hvl)
    go_loopw [3, 5] (fun o x wr => ∃ (k a : Nat), k ≤ vs.length ∧ a ≤ 1000000 ∧ x = .int .i64 k ∧ o = .int .i64 a ∧ Hid (denL (denO f) (bs.drop k) a = some r) ∧ Below w1.heap.size w1 wr) (fun _ x _ => vs.length - (intOf x).toNat)
    case atStart => exact ⟨0, t.length, Nat.zero_le _, by omega, rfl, rfl, HD.out, Below.refl _ _⟩
    case round =>
      obtain ⟨k, a, hk, ha6, rfl, rfl, hD, hb⟩ := hrel
      have HBK := Lib.hid hb
      have hvn : vs.length ≤ 1000 := by rw [HVL.out]; exact hbl1
      clear hb
      by_cases hlt : k < vs.length
      · obtain ⟨b, hbk⟩ : ∃ b, bs[k]? = some b := ⟨_, List.getElem?_eq_getElem (by rw [← HVL.out]; exact hlt)⟩
        have hdr : bs.drop k = b :: bs.drop (k + 1) := by
          obtain ⟨h1, h2⟩ := List.getElem?_eq_some_iff.1 hbk
          rw [List.drop_eq_getElem_cons h1, h2]
        have hD2 := hD.out
        rw [hdr] at hD2
        obtain ⟨d, hd1, hd2, hd3⟩ := denL_cons hD2
        obtain ⟨u, hu⟩ : ∃ u, vs[k]? = some u := ⟨_, List.getElem?_eq_getElem hlt⟩
        obtain ⟨ad, n', c', he, hcell⟩ := (HV.out.below HBK.out).cells.at_ hu
        simp only [Value.slice.injEq] at he
        obtain ⟨rfl, -, -⟩ := he
        have hrow := (HRR.out.below HBK.out).2 k u (up b) hu (by rw [List.getElem?_map, hbk]; rfl)
        have HRO := Lib.hid hrow
        have HC := Lib.hid (IH.out wr u b d hrow.ints hd1 (HBL.out.2 b (List.mem_of_getElem? hbk)) (HBM.out b (List.mem_of_getElem? hbk)))
        have HD3 := Lib.hid hd3
        obtain ⟨hw1, hw2⟩ := wr_mul hd2
        have hkk : (k : Int) < (vs.length : Int) := by omega
        clear hbk hdr hD hD2 hd1 hd3 hrow hu
        go_wp2_with (go_at_call 105; go_loud (refine HC.out.mono ?_; rintro e w2 ⟨rfl, hb2⟩; have HB2 := Lib.hid hb2; clear hb2))
        go_roundw
        case rel => exact ⟨k + 1, a * d, by omega, hd2, by go_num, rfl, HD3.out, HBK.out.trans (HB2.out.mono HBK.out.size)⟩
        case measure => simp [intOf]; omega
      · have hkl : k = bs.length := by rw [← HVL.out]; omega
        have hD2 := hD.out
        rw [hkl, List.drop_length, denL] at hD2
        injection hD2 with hD2
        subst hD2
        clear hkl
        go_wp2_with fail
        go_ret
        exact ⟨rfl, HB1.out.trans (HBK.out.mono HB1.out.size)⟩

set_option maxHeartbeats 2000000 in
theorem im_nodes (w : World) (v : Value) (B : Option Addr) (m d k : Nat) (ha : Rows w v (T6n.map up)) (hk : k ≤ 37) :
    Calls Tryz.prog 100 #[.agg #[v, .slice B m d], .int .i64 k] w fun e w' => e = .returned (.int .i64 (szN k : Nat)) ∧ w' = w.alloc (.cells #[v, .slice B m d] 46) := by
  obtain ⟨A, c, rfl, -, -, h3⟩ := ha.open_
  rw [List.length_map, T6n_len] at h3 ⊢
  have hbel : Below w.heap.size w (w.alloc (.cells #[.slice A 37 c, .slice B m d] 46)) := below1 w _
  have hq0 : (w.alloc (.cells #[.slice A 37 c, .slice B m d] 46)).cell? ⟨w.heap.size, 0, none⟩ = some (.slice A 37 c) := (Blk.new w _ _).cell 0
  cases k with
  | zero =>
    clear h3 hbel
    go_enter Tryz.func100, Tryz.ntmps100
    go_wp2_with fail
    go_ret
    exact ⟨rfl, rfl⟩
  | succ k =>
    have hk7 : k < 37 := by omega
    obtain ⟨ad, u, zs, rfl, hz, hu, hc⟩ := h3 k hk7
    have ht : T6n[k]? = some (T6n[k]'(by rw [T6n_len]; exact hk7)) := List.getElem?_eq_getElem _
    rw [List.getElem?_map, ht] at hz
    injection hz with hz
    subst hz
    rw [szN_succ ht]
    generalize T6n[k]'(by rw [T6n_len]; exact hk7) = t at *
    obtain ⟨Au, cu, rfl, -, -, -⟩ := hu.open_
    rw [up_len] at hu hc
    have HLN := Lib.hid (lib_lengthI _ _ _ (hu.below hbel))
    rw [up_len] at HLN
    have hc1 : (w.alloc (.cells #[.slice (some ad) 37 c, .slice B m d] 46)).cell? (ad.add k) = some (.slice Au t.length cu) := by
      rw [hbel.cell (by rw [block_add]; have := World.block_lt_of_cell? w _ hc; rwa [block_add] at this)]; exact hc
    have hkk : (k : Int) < 37 := by omega
    have hz0 : (((k + 1 : Nat) : Int) == 0) = false := by simp; omega
    have hz1 : ((k + 1 : Nat) : Int) - 1 = (k : Int) := by omega
    clear h3 ht hu hc hbel
    go_enter Tryz.func100, Tryz.ntmps100
    go_wp2_with (go_at_call 68; refine HLN.out.mono ?_; rintro e w0 ⟨rfl, rfl⟩)
    go_ret
    exact ⟨rfl, rfl⟩
end Go.Proofs.YtheldcjiogpbjaaGreat
set_option maxRecDepth 100000
set_option linter.unusedVariables false
set_option linter.unusedSimpArgs false
namespace Go.Proofs.YtheldcjiogpbjaaGreat
open Go.RowKit

/-- a list that is filled from the front, the rest 0 -/
def filT (l : List Int) (i : Nat) : List Int := l.take i ++ List.replicate (l.length - i) 0
theorem filT_len (l : List Int) {i : Nat} (h : i ≤ l.length) : (filT l i).length = l.length := by simp [filT]; omega
theorem filT_set {l : List Int} {i : Nat} {x : Int} (h : l[i]? = some x) : (filT l i).set i x = filT l (i + 1) := by
  obtain ⟨hi, hx⟩ := List.getElem?_eq_some_iff.1 h
  unfold filT
  rw [List.set_append_right _ _ (by simp; omega)]
  have e : i - (l.take i).length = 0 := by simp; omega
  rw [e, List.take_add_one, h]
  rw [show l.length - i = l.length - (i + 1) + 1 by omega, List.replicate_succ, List.set_cons_zero]
  simp
theorem filT_full (l : List Int) : filT l l.length = l := by simp [filT]
theorem filT_in {l : List Int} (h : ∀ z ∈ l, In64 z) (i : Nat) : ∀ z ∈ filT l i, In64 z := by
  intro z hz
  rcases List.mem_append.1 hz with hz | hz
  · exact h z (List.mem_of_mem_take hz)
  · have := List.eq_of_mem_replicate hz
    subst this
    unfold In64; omega
theorem ints_set (zs : List Int) (k : Nat) (z : Int) : (ints zs).set k (.int .i64 z) = ints (zs.set k z) := by simp [ints, List.map_set]
theorem ints_getD {zs : List Int} {k : Nat} {z : Int} (h : zs[k]? = some z) : zs.getD k 0 = z := by simp [List.getD, h]
theorem in64_num {z : Int} (h : 0 ≤ z ∧ z ≤ 10006) : In64 z := by unfold In64; omega

set_option maxHeartbeats 400000 in
theorem i_UnitMap (w : World) : Calls Tryz.prog 118 #[] w fun e w' => ∃ x, e = .returned x ∧ OwnInts w' w.heap.size tI x (filT EX 1) ∧ Below w.heap.size w w' := by
  have hset : (List.replicate 38 (Value.int .i64 0)).set 0 (.int .i64 1) = ints (filT EX 1) := rfl
  go_enter Tryz.func118, Tryz.ntmps118
  go_wp2_with (at_make; refine wpList_mk rfl _ _ _ rfl _ _ _ T_int 38 _ rfl rfl rfl (by omega) _ ?_; intro w1 hown hb hs; obtain ⟨u0, hu0, hcg, hfg, hg2, hg1, hown', hgr⟩ := hown.storeAt (k := 0) (by simp) (.int .i64 1); rw [hset] at hown'; have HO := Lib.hid hown'; have HB := Lib.hid hb; clear hown hown' hgr hu0 hg1 hb)
  go_ret
  exact ⟨_, rfl, ⟨HO.out, filT_in (fun z hz => in64_num (EX_nums z hz)) 1⟩, HB.out.setCell (Nat.le_refl _) _⟩

/-- what the walks of both need of a tree -/
theorem den_of {t : List Nat} (h : t ∈ T6n) : ∃ d : Nat, denO 9 t = some d ∧ 1 ≤ d ∧ d ≤ 720 ∧ pw (d : Int) 10005 = (exV t : Nat) ∧ t.length ≤ 1000 ∧ (∀ l ∈ t, l ≤ 1000000) := by
  obtain ⟨d, h1, h2, h3, -, -⟩ := T6n_den h
  obtain ⟨-, -, h5, h6⟩ := T6n_at h
  exact ⟨d, h1, h2, h3, exV_pw h1, by omega, fun l hl => by have := h6 l hl; omega⟩
/-- the row of a tree -/
theorem Rows.tree {w : World} {A : Option Addr} {c : Nat} (h : Rows w (.slice A 37 c) (T6n.map up)) {i : Nat} (hi : i < 37) :
    ∃ ad At ct t, A = some ad ∧ T6n[i]? = some t ∧ Ints w (.slice At t.length ct) (up t) ∧ w.cell? (ad.add i) = some (.slice At t.length ct) := by
  obtain ⟨A', c', he, -, -, h3⟩ := h.open_
  rw [List.length_map, T6n_len] at he h3
  simp only [Value.slice.injEq, true_and] at he
  obtain ⟨rfl, rfl⟩ := he
  obtain ⟨ad, u, zs, rfl, hz, hu, hc⟩ := h3 i hi
  have ht : T6n[i]? = some (T6n[i]'(by rw [T6n_len]; exact hi)) := List.getElem?_eq_getElem _
  rw [List.getElem?_map, ht] at hz
  injection hz with hz
  subst hz
  obtain ⟨Au, cu, rfl, -, -, -⟩ := hu.open_
  rw [up_len] at hu hc
  exact ⟨ad, Au, cu, _, rfl, ht, hu, hc⟩

set_option maxHeartbeats 4000000 in
theorem i_exactMap (w : World) (v : Value) (B : Option Addr) (m d : Nat) (ha : Rows w v (T6n.map up)) :
    Calls Tryz.prog 84 #[.agg #[v, .slice B m d]] w fun e w' => ∃ x, e = .returned x ∧ OwnInts w' w.heap.size tI x EX ∧ Below w.heap.size w w' := by
  obtain ⟨A, c, he, -, -, -⟩ := ha.open_
  rw [List.length_map, T6n_len] at he
  subst he
  have hbel : Below w.heap.size w (w.alloc (.cells #[.slice A 37 c, .slice B m d] 46)) := below1 w _
  have HRA := Lib.hid (ha.below hbel)
  have HBX := Lib.hid (Blk.new w #[.slice A 37 c, .slice B m d] 46)
  have HBE := Lib.hid hbel
  clear ha hbel
  go_enter Tryz.func84, Tryz.ntmps84
  go_wp2_with (go_at_call 118; go_loud (refine (i_UnitMap _).mono ?_; rintro e w1 ⟨x1, rfl, ho1, hb1⟩; obtain ⟨A1, c1, he1, -, -, -⟩ := ho1.ints.open_; rw [show (filT EX 1).length = 38 from rfl] at he1; subst he1; have HO1 := Lib.hid ho1; have HB1 := Lib.hid hb1; have hx0 : w1.cell? ⟨w.heap.size, 0, none⟩ = some (.slice A 37 c) := (HBX.out.below hb1 HBX.out.lt).cell 0; clear ho1 hb1))
  rcases HO1.out.1.cases with ⟨he1, -⟩ | ⟨g, cap, cur, he1, hg1, hg2, -⟩
  · simp at he1
  rw [ints_len, show (filT EX 1).length = 38 from rfl] at he1
  simp only [Value.slice.injEq, true_and] at he1
  obtain ⟨rfl, rfl⟩ := he1
  have HG1 := Lib.hid hg1
  clear hg1 hg2 hx0
  go_loopw [10] (fun x wr => ∃ i : Nat, i ≤ 37 ∧ x = .int .i64 i ∧ OwnInts wr (w.alloc (.cells #[.slice A 37 c, .slice B m d] 46)).heap.size tI (.slice (some ⟨g, 0, none⟩) 38 c1) (filT EX (i + 1)) ∧ Below (w.alloc (.cells #[.slice A 37 c, .slice B m d] 46)).heap.size (w.alloc (.cells #[.slice A 37 c, .slice B m d] 46)) wr) (fun x _ => 37 - (intOf x).toNat)
  case atStart => exact ⟨0, Nat.zero_le _, rfl, HO1.out, HB1.out⟩
  case round =>
    obtain ⟨i, hi, rfl, ho, hb⟩ := hrel
    have HO := Lib.hid ho
    have HB := Lib.hid hb
    clear ho hb
    by_cases hlt : i < 37
    · obtain ⟨ad, At, ct, t, rfl, ht, hti, hcr⟩ := (HRA.out.below HB.out).tree hlt
      obtain ⟨dn, hd1, hd2, hd3, hd4, hd5, hd6⟩ := den_of (List.mem_of_getElem? ht)
      have HDE := Lib.hid (i_density 9 wr _ t dn hti hd1 hd5 hd6)
      have hmod : (dn : Int) % 10007 = (dn : Int) := by omega
      have HNU := Lib.hid (fun W => show Calls Tryz.prog 65 #[.int .i64 (dn : Int)] W fun e w' => e = .returned (.int .i64 (dn : Int)) ∧ W = w' from by have h := i_num (dn : Int) W (by omega) (by omega); rwa [hmod] at h)
      have HIN := Lib.hid (fun W => show Calls Tryz.prog 112 #[.int .i64 (dn : Int)] W fun e w' => e = .returned (.int .i64 ((exV t : Nat) : Int)) ∧ W = w' from by have h := i_inv (dn : Int) W (by omega) (by omega); rwa [hd4] at h)
      have HSE := Lib.hid (filT_set (EX_succ ht))
      have hii : (i : Int) < 37 := by omega
      clear ht hti hd1 hd4 hd5 hd6 hmod
      go_wp2_with (first
        | (go_at_call 67; go_loud (refine HDE.out.mono ?_; rintro e w2 ⟨rfl, hb2⟩; have HB2 := Lib.hid hb2; obtain ⟨u0, -, hcg, hfg, -, -, hown', hgr⟩ := (HO.out.1.below hb2).storeAt (k := i + 1) (by rw [ints_len, filT_len _ (by rw [EX_len]; omega), EX_len]; omega) (.int .i64 ((exV t : Nat) : Int)); rw [ints_set, HSE.out] at hown'; have HO2 := Lib.hid hown'; clear hown' hgr hb2))
        | (go_at_call 65; refine (HNU.out _).mono ?_; rintro e w3 ⟨rfl, rfl⟩)
        | (go_at_call 112; refine (HIN.out _).mono ?_; rintro e w3 ⟨rfl, rfl⟩))
      go_roundw
      case rel =>
        have hge := HO.out.1.ge g rfl
        exact ⟨i + 1, by omega, by go_num, ⟨HO2.out, filT_in (fun z hz => in64_num (EX_nums z hz)) _⟩, (HB.out.trans (HB2.out.mono HB.out.size)).setCell hge _⟩
      case measure => simp [intOf]; omega
    · have hil : i + 1 = EX.length := by rw [EX_len]; omega
      have HF := Lib.hid (show filT EX (i + 1) = EX from by rw [hil]; exact filT_full EX)
      clear hil
      go_wp2_with fail
      go_ret
      refine ⟨_, rfl, ?_, HBE.out.trans (HB.out.mono HBE.out.size)⟩
      have h := HO.out
      rw [HF.out] at h
      exact h.mono HBE.out.size

set_option maxHeartbeats 1000000 in
theorem s_l01Frac (w : World) (p q : Int) (h0 : 0 ≤ p) (h1 : p ≤ 1000000) (g0 : 0 ≤ q) (g1 : q ≤ 1000000) :
    Calls Tryz.prog 104 #[.int .i64 p, .int .i64 q] w fun e w' => e = .returned (.int .i64 ((p % 10007) * pw (q % 10007) 10005 % 10007)) ∧ w = w' := by
  have hp := pw_bd (q % 10007) 10005
  have hq : 0 ≤ q % 10007 ∧ q % 10007 ≤ 10006 := by omega
  have hq2 : 0 ≤ p % 10007 ∧ p % 10007 ≤ 10006 := by omega
  go_enter Tryz.func104, Tryz.ntmps104
  go_wp2_with (first
    | (go_at_call 110; (with_reducible refine (s_l01Inv _ _ (by omega) (by omega)).mono ?_); rintro e w2 ⟨rfl, rfl⟩)
    | (go_at_call 92; (with_reducible refine (s_l01Mul _ _ _ (by omega) (by omega) (by omega) (by omega)).mono ?_); rintro e w2 ⟨rfl, rfl⟩)
    | (go_at_call 99; (with_reducible refine (s_l01Mod _ _ (by omega) (by omega)).mono ?_); rintro e w2 ⟨rfl, rfl⟩))
  go_ret
  exact ⟨rfl, rfl⟩

set_option maxHeartbeats 4000000 in
theorem s_l07Exact (w : World) :
    Calls Tryz.prog 60 #[] w fun e w' => ∃ x, e = .returned x ∧ OwnInts w' w.heap.size tI x EX ∧ Below w.heap.size w w' := by
  go_enter Tryz.func60, Tryz.ntmps60
  go_wp2_with (go_at_call 59; go_loud (refine (s_l03All _ 6 (by omega)).mono ?_; rintro e w1 ⟨x1, rfl, hx1, hb1⟩; rw [show allG treesN 6 = T6n from rfl] at hx1; obtain ⟨A1, c1, he1, -, -, -⟩ := hx1.rows.open_; rw [List.length_map, T6n_len] at he1; subst he1; have HX1 := Lib.hid hx1; have HB1 := Lib.hid hb1; clear hx1 hb1))
  have OL := Lib.hid (show Own (w1.alloc (.cells #[.int .i64 1] tI)) w1.heap.size tI (.slice (some ⟨w1.heap.size, 0, none⟩) 1 1) (ints (EX.take 1)) from own_lit w1 tI [.int .i64 1] (by simp [maxLen]))
  have HBB := Lib.hid (HB1.out.trans ((below1 w1 (.cells #[.int .i64 1] tI)).mono HB1.out.size))
  have HBZ := Lib.hid (below1 w1 (.cells #[.int .i64 1] tI))
  have HSZ := Lib.hid HB1.out.size
  clear HB1
  go_loopw [2, 3] (fun o x wr => ∃ i : Nat, i ≤ 37 ∧ x = .int .i64 i ∧ Own wr w1.heap.size tI o (ints (EX.take (i + 1))) ∧ Below w1.heap.size w1 wr ∧ Below w.heap.size w wr) (fun _ x _ => 37 - (intOf x).toNat)
  case atStart => exact ⟨0, Nat.zero_le _, rfl, OL.out, HBZ.out, HBB.out⟩
  case round =>
    obtain ⟨i, hi, rfl, ho, hb1, hb⟩ := hrel
    clear OL HBZ HBB
    have hrw := HX1.out.rows.below hb1
    have hol := ho.cells.open_
    have hel : (EX.take (i + 1)).length = i + 1 := by rw [List.length_take, EX_len]; omega
    rw [ints_len, hel] at hol
    obtain ⟨Ao, co, rfl, -, -⟩ := hol
    have HEL := Lib.hid hel
    have HO := Lib.hid ho
    have HB := Lib.hid hb
    have HB1 := Lib.hid hb1
    clear ho hb hb1 hel
    by_cases hlt : i < 37
    · obtain ⟨ad, At, ct, t, rfl, ht, hti, hcr⟩ := hrw.tree hlt
      obtain ⟨dn, hd1, hd2, hd3, hd4, hd5, hd6⟩ := den_of (List.mem_of_getElem? ht)
      have HDE := Lib.hid (s_l03Density 9 wr _ t dn hti hd1 hd5 hd6)
      have HFR := Lib.hid (fun W => show Calls Tryz.prog 104 #[.int .i64 1, .int .i64 (dn : Int)] W fun e w' => e = .returned (.int .i64 ((exV t : Nat) : Int)) ∧ W = w' from by
        have h := s_l01Frac W 1 (dn : Int) (by omega) (by omega) (by omega) (by omega)
        have hmod : (dn : Int) % 10007 = (dn : Int) := by omega
        have hz := exV_le t
        rw [hmod, hd4, show (1 : Int) % 10007 = 1 from rfl, show ((1 : Int) * ((exV t : Nat) : Int)) % 10007 = ((exV t : Nat) : Int) by omega] at h
        exact h)
      have HTS := Lib.hid (show ints (EX.take (i + 1 + 1)) = ints (EX.take (i + 1)) ++ [.int .i64 ((exV t : Nat) : Int)] from by rw [List.take_add_one, EX_succ ht, ints, ints, List.map_append]; rfl)
      have hii : (i : Int) < 37 := by omega
      clear ht hti hd1 hd4 hd5 hd6 hrw
      go_wp2_with (first
        | (go_at_call 105; go_loud (refine HDE.out.mono ?_; rintro e w2 ⟨rfl, hb2⟩; have HB2 := Lib.hid hb2; have HOX := Lib.hid (HO.out.below hb2); clear hb2))
        | (go_at_call 104; refine (HFR.out _).mono ?_; rintro e w3 ⟨rfl, rfl⟩)
        | (at_builtin; go_loud (refine wpList_app1 T_int HOX.out (by rw [ints_len, HEL.out]; omega) (Nat.le_trans HB1.out.size HB2.out.size) (by rfl) rfl (by rfl) (by rfl) (by rfl) ?_; intro v1 w6 hown1 hgr1; have HN := Lib.hid hown1; have HGR := Lib.hid hgr1; clear hown1 hgr1)))
      go_roundw
      case rel =>
        have hb6 : Below w1.heap.size w1 w6 := HGR.out.below (HB1.out.trans (HB2.out.mono HB1.out.size)) (Nat.le_trans HB1.out.size HB2.out.size) HO.out.ge
        have hge := HO.out.ge
        refine ⟨i + 1, by omega, by go_num, ?_, hb6, HGR.out.below (HB.out.trans (HB2.out.mono HB.out.size)) (Nat.le_trans HB.out.size HB2.out.size) (fun b hb => Nat.le_trans HSZ.out (hge b hb))⟩
        rw [HTS.out]; exact HN.out
      case measure => simp [intOf]; omega
    · have hil : i + 1 = EX.length := by rw [EX_len]; omega
      have HF := Lib.hid (show EX.take (i + 1) = EX from by rw [hil]; exact List.take_length)
      clear hil
      go_wp2_with fail
      go_ret
      refine ⟨_, rfl, ⟨?_, fun z hz => in64_num (EX_nums z hz)⟩, HB.out⟩
      have h := HO.out
      rw [HF.out] at h
      exact h.mono HSZ.out
end Go.Proofs.YtheldcjiogpbjaaGreat
set_option maxRecDepth 100000
set_option linter.unusedVariables false
set_option linter.unusedSimpArgs false
namespace Go.Proofs.YtheldcjiogpbjaaGreat
open Go.RowKit

/-- a cell of a map -/
theorem map_cell {w : World} {A : Option Addr} {c : Nat} {a : List Int} (h : Ints w (.slice A 38 c) a) (hm : ∀ z ∈ a, 0 ≤ z ∧ z ≤ 10006) {k : Nat} (hk : k < 38) :
    ∃ ad, A = some ad ∧ w.cell? (ad.add k) = some (.int .i64 (a.getD k 0)) ∧ 0 ≤ a.getD k 0 ∧ a.getD k 0 ≤ 10006 := by
  obtain ⟨A', c', he, -, -, h3⟩ := h.open_
  simp only [Value.slice.injEq] at he
  obtain ⟨rfl, hl, rfl⟩ := he
  obtain ⟨ad, z, rfl, hz, -, hc⟩ := h3 k (by omega)
  rw [ints_getD hz]
  have := hm z (List.mem_of_getElem? hz)
  exact ⟨ad, rfl, hc, this.1, this.2⟩

set_option maxHeartbeats 16000000 in
theorem s_l12To (w : World) (va : Value) (a : List Int) (h1 : Ints w va a) (l1 : a.length = 38) (hN : ∀ z ∈ a, 0 ≤ z ∧ z ≤ 10006) :
    Calls Tryz.prog 86 #[va] w fun e w' => ∃ r : Nat, e = .returned (.int .i64 r) ∧ ToR a (a.getD 0 0) r ∧ Below w.heap.size w w' := by
  have HIA := Lib.hid h1
  obtain ⟨A1, c1, rfl, -, -, -⟩ := h1.open_
  rw [l1] at HIA ⊢
  have HNN := Lib.hid hN
  obtain ⟨a0, rfl, hz0, hz1, hz2⟩ := map_cell HIA.out hN (k := 0) (by omega)
  have hz0' : w.cell? a0 = some (.int .i64 (a.getD 0 0)) := by simpa [Addr.add] using hz0
  clear hz0 h1 l1 hN
  go_enter Tryz.func86, Tryz.ntmps86
  go_wp2_with (go_at_call 59; go_loud (refine (s_l03All _ 6 (by omega)).mono ?_; rintro e w1 ⟨x1, rfl, hx1, hb1⟩; rw [show allG treesN 6 = T6n from rfl] at hx1; obtain ⟨A3, c3, he1, -, -, -⟩ := hx1.rows.open_; rw [List.length_map, T6n_len] at he1; subst he1; have HX1 := Lib.hid hx1.rows; have HB1 := Lib.hid hb1; clear hx1 hb1))
  obtain ⟨ad0, -, -, -, rfl, -⟩ := HX1.out.tree (i := 0) (by omega)
  have HI1 := Lib.hid (HIA.out.below HB1.out)
  have HZ0 := Lib.hid (keepCell HB1.out hz0')
  clear hz0'
  go_loopw [4] (fun x wr => ∃ n : Nat, 2 ≤ n ∧ n ≤ 7 ∧ x = .int .i64 n ∧ Hid (ToS a (a.getD 0 0) n 0 0) ∧ Below w1.heap.size w1 wr) (fun x _ => 7 - (intOf x).toNat)
  case atStart => exact ⟨2, by omega, by omega, rfl, ToS.start a _, Below.refl _ _⟩
  case round =>
    obtain ⟨n, hn2, hn7, rfl, hT, hb⟩ := hrel
    rename World => wr
    have HB := Lib.hid hb
    clear hb
    by_cases hlt : n < 7
    · have hnn : (n : Int) ≤ 6 := by omega
      go_wp2_with fail
      go_loopw [5] (fun x wi => ∃ i : Nat, i ≤ 37 ∧ x = .int .i64 i ∧ Hid (ToS a (a.getD 0 0) n i 0) ∧ Below w1.heap.size w1 wi) (fun x _ => 37 - (intOf x).toNat)
      case atStart => exact ⟨0, Nat.zero_le _, rfl, hT, HB.out⟩
      case round =>
        obtain ⟨i, hi, rfl, hTi, hbi⟩ := hrel
        rename World => wi
        have HBI := Lib.hid hbi
        clear hbi
        by_cases hli : i < 37
        · have hii : (i : Int) < 37 := by omega
          go_wp2_with fail
          go_loopw [6] (fun x wk => ∃ k : Nat, k ≤ 37 ∧ x = .int .i64 k ∧ Hid (ToS a (a.getD 0 0) n i k) ∧ Below w1.heap.size w1 wk) (fun x _ => 37 - (intOf x).toNat)
          case atStart => exact ⟨0, Nat.zero_le _, rfl, hTi, HBI.out⟩
          case round =>
            obtain ⟨k, hk, rfl, hTk, hbk⟩ := hrel
            rename World => wk
            have HBK := Lib.hid hbk
            clear hbk
            by_cases hlk : k < 37
            · have hkk : (k : Int) < 37 := by omega
              obtain ⟨ad, Au, cu, u, hade, hu, hui, hcu⟩ := (HX1.out.below HBK.out).tree hli
              injection hade with hade
              subst hade
              obtain ⟨ad, Av, cv, v, hade, hv, hvi, hcv⟩ := (HX1.out.below HBK.out).tree hlk
              injection hade with hade
              subst hade
              have htu := tr_at hu
              have htv := tr_at hv
              obtain ⟨-, hu1, hu6, hul⟩ := T6n_at (List.mem_of_getElem? hu)
              obtain ⟨-, hv1, hv6, hvl⟩ := T6n_at (List.mem_of_getElem? hv)
              have HUM := Lib.hid (List.mem_of_getElem? hu)
              have HVM := Lib.hid (List.mem_of_getElem? hv)
              have HU := Lib.hid hui
              have HV := Lib.hid hvi
              have HTU := Lib.hid htu
              have HTV := Lib.hid htv
              have hw1 : wrap64 ((u.length : Int) + (v.length : Int)) = (u.length : Int) + (v.length : Int) := by unfold wrap64; omega
              have hw2 : IntKind.i64.wrap ((u.length : Int) + (v.length : Int)) = (u.length : Int) + (v.length : Int) := IntWalk.i64_in _ (by omega)
              clear hu hv hui hvi htu htv
              by_cases hs : u.length + v.length = n
              · have hne : ((u.length : Int) + (v.length : Int) != (n : Int)) = false := by simp; omega
                go_upto_region 11 with fail
                go_quiet (fail)
                obtain ⟨wz, hwz⟩ : ∃ wz, wz = wk.drewN nq := ⟨_, rfl⟩
                have HBW := Lib.hid (show Below wk.heap.size wk wz from by rw [hwz]; exact below_drewN (Below.refl _ _) _)
                rw [← hwz]
                clear hwz
                obtain ⟨r1, g1c, -, -, g1f, g11, g17, -⟩ := gOk_at HUM.out HVM.out (by omega)
                obtain ⟨r2, g2c, -, -, g2f, g21, g27, -⟩ := gOk_at HVM.out HUM.out (by omega)
                obtain ⟨p1, hp1⟩ : ∃ p : Nat, gIdx u v = p + 1 := ⟨gIdx u v - 1, by omega⟩
                obtain ⟨p2, hp2⟩ : ∃ p : Nat, gIdx v u = p + 1 := ⟨gIdx v u - 1, by omega⟩
                have HG1 := Lib.hid (fun W x y (h1 : Ints W x (up u)) (h2 : Ints W y (up v)) => show Calls Tryz.prog 119 #[x, .int .i64 0, y] W _ from s_l04Graft W x y u v r1 0 h1 h2 (by omega) (by omega) (by omega) (fun l hl => by have := hul l hl; omega) (fun l hl => by have := hvl l hl; omega) g1c)
                have HG2 := Lib.hid (fun W x y (h1 : Ints W x (up v)) (h2 : Ints W y (up u)) => show Calls Tryz.prog 119 #[x, .int .i64 0, y] W _ from s_l04Graft W x y v u r2 0 h1 h2 (by omega) (by omega) (by omega) (fun l hl => by have := hvl l hl; omega) (fun l hl => by have := hul l hl; omega) g2c)
                have HF1 := Lib.hid (fun W x y (h1 : Rows W x (T6n.map up)) (h2 : Ints W y (up r1)) => show Calls Tryz.prog 62 #[x, y] W fun e w' => e = .returned (.int .i64 (p1 : Nat)) ∧ ∃ n, w' = W.drewN n from by
                  have h := s_l03Find W x y T6n r1 h1 h2 (by rw [T6n_len]; omega)
                  rw [g1f, hp1, show (((p1 + 1 : Nat) : Int) - 1) = (p1 : Int) from by omega] at h
                  exact h)
                have HF2 := Lib.hid (fun W x y (h1 : Rows W x (T6n.map up)) (h2 : Ints W y (up r2)) => show Calls Tryz.prog 62 #[x, y] W fun e w' => e = .returned (.int .i64 (p2 : Nat)) ∧ ∃ n, w' = W.drewN n from by
                  have h := s_l03Find W x y T6n r2 h1 h2 (by rw [T6n_len]; omega)
                  rw [g2f, hp2, show (((p2 + 1 : Nat) : Int) - 1) = (p2 : Int) from by omega] at h
                  exact h)
                have HP1 := Lib.hid hp1
                have HP2 := Lib.hid hp2
                have hp17 : p1 < 37 := by omega
                have hp27 : p2 < 37 := by omega
                have hcu0 := keepCell HBW.out hcu
                have hcv0 := keepCell HBW.out hcv
                have HUZ := Lib.hid (HU.out.below HBW.out)
                have HVZ := Lib.hid (HV.out.below HBW.out)
                have HBZ := Lib.hid (HBK.out.trans (HBW.out.mono HBK.out.size))
                have HCU := Lib.hid hcu0
                have HCV := Lib.hid hcv0
                clear g1c g1f g11 g17 g2c g2f g21 g27 hp1 hp2 hcu hcv hul hvl
                go_upto_region 12 with fail
                go_region_law (first
                  | (go_simp; go_at_call 119; refine (HG1.out _ _ _ (by exact HUZ.out) (by exact HVZ.out)).mono ?_; rintro e w5 ⟨x5, rfl, ho5, hb5⟩; have HO5 := Lib.hid ho5; have HB5 := Lib.hid (show Below wz.heap.size wz w5 from below_of_drew hb5); clear ho5 hb5)
                  | (go_simp; go_at_call 62; refine (HF1.out _ _ _ (by exact (HX1.out.below (HBZ.out.trans (HB5.out.mono HBZ.out.size)))) (by exact HO5.out.ints)).mono ?_; rintro e w6 ⟨rfl, n6, rfl⟩))
                all_goals
                  obtain ⟨wy, hwy⟩ : ∃ wy, wy = w5.drewN n6 := ⟨_, rfl⟩
                  have HBY := Lib.hid (show Below wz.heap.size wz wy from by rw [hwy]; exact below_drewN HB5.out n6)
                  rw [← hwy]
                  clear hwy hcu0 hcv0
                  have hcu1 := keepCell HBY.out HCU.out
                  have hcv1 := keepCell HBY.out HCV.out
                  have HUY := Lib.hid (HUZ.out.below HBY.out)
                  have HVY := Lib.hid (HVZ.out.below HBY.out)
                  have HBYY := Lib.hid (HBZ.out.trans (HBY.out.mono HBZ.out.size))
                  go_upto_region 13 with fail
                  go_region_law (first
                    | (go_simp; go_at_call 119; refine (HG2.out _ _ _ (by exact HVY.out) (by exact HUY.out)).mono ?_; rintro e w7 ⟨x7, rfl, ho7, hb7⟩; have HO7 := Lib.hid ho7; have HB7 := Lib.hid (show Below wy.heap.size wy w7 from below_of_drew hb7); clear ho7 hb7)
                    | (go_simp; go_at_call 62; refine (HF2.out _ _ _ (by exact (HX1.out.below (HBYY.out.trans (HB7.out.mono HBYY.out.size)))) (by exact HO7.out.ints)).mono ?_; rintro e w8 ⟨rfl, n8, rfl⟩))
                  all_goals
                    obtain ⟨wx, hwx⟩ : ∃ wx, wx = w7.drewN n8 := ⟨_, rfl⟩
                    have HBX := Lib.hid (show Below w1.heap.size w1 wx from by rw [hwx]; exact below_drewN (HBYY.out.trans (HB7.out.mono HBYY.out.size)) n8)
                    rw [← hwx]
                    clear hwx hcu1 hcv1
                    have hia := HI1.out.below HBX.out
                    obtain ⟨_, he, hc1, hi0, hi1⟩ := map_cell hia HNN.out (k := i + 1) (by omega)
                    injection he with he
                    subst he
                    obtain ⟨_, he, hc2, hk0, hk1⟩ := map_cell hia HNN.out (k := k + 1) (by omega)
                    injection he with he
                    subst he
                    obtain ⟨_, he, hc3, hx0, hx1⟩ := map_cell hia HNN.out (k := p1 + 1) (by omega)
                    injection he with he
                    subst he
                    obtain ⟨_, he, hc4, hy0, hy1⟩ := map_cell hia HNN.out (k := p2 + 1) (by omega)
                    injection he with he
                    subst he
                    have hc0 := keepCell HBX.out HZ0.out
                    obtain ⟨P, hP⟩ : ∃ P : Prop, P = prB a (a.getD 0 0) i k := ⟨_, rfl⟩
                    have HPR := Lib.hid (show P ↔ (a.getD (p1 + 1) 0 + a.getD (p2 + 1) 0) % 10007 = a.getD 0 0 * (a.getD (i + 1) 0 * a.getD (k + 1) 0 % 10007) % 10007 from by rw [hP]; unfold prB; rw [HTU.out, HTV.out, HP1.out, HP2.out])
                    have hz1' := hz1
                    have hz2' := hz2
                    have HTG := Lib.hid (fun h : P => hTk.out.good (by rw [← hP]; exact h))
                    have HTB := Lib.hid (fun h : ¬ P => hTk.out.bad hli hlk (by omega) (by omega) (by rw [HTU.out, HTV.out]; exact hs) (by rw [← hP]; exact h))
                    clear hP
                    generalize a.getD 0 0 = z0 at hc0 hz1' hz2' HPR
                    generalize a.getD (i + 1) 0 = zi at hc1 hi0 hi1 HPR
                    generalize a.getD (k + 1) 0 = zk at hc2 hk0 hk1 HPR
                    generalize a.getD (p1 + 1) 0 = zx at hc3 hx0 hx1 HPR
                    generalize a.getD (p2 + 1) 0 = zy at hc4 hy0 hy1 HPR
                    obtain ⟨i1, hei⟩ : ∃ i1 : Nat, i1 = i + 1 := ⟨_, rfl⟩
                    obtain ⟨k1, hek⟩ : ∃ k1 : Nat, k1 = k + 1 := ⟨_, rfl⟩
                    obtain ⟨x1, hex⟩ : ∃ x1 : Nat, x1 = p1 + 1 := ⟨_, rfl⟩
                    obtain ⟨y1, hey⟩ : ∃ y1 : Nat, y1 = p2 + 1 := ⟨_, rfl⟩
                    have hwi : IntKind.i64.wrap ((i : Int) + 1) = (i1 : Int) := by rw [hei]; exact IntWalk.i64_in _ (by omega)
                    have hwk : IntKind.i64.wrap ((k : Int) + 1) = (k1 : Int) := by rw [hek]; exact IntWalk.i64_in _ (by omega)
                    have hwx : IntKind.i64.wrap ((p1 : Int) + 1) = (x1 : Int) := by rw [hex]; exact IntWalk.i64_in _ (by omega)
                    have hwy : IntKind.i64.wrap ((p2 : Int) + 1) = (y1 : Int) := by rw [hey]; exact IntWalk.i64_in _ (by omega)
                    have hbi : (i1 : Int) < 38 ∧ i1 < 38 := by omega
                    have hbk : (k1 : Int) < 38 ∧ k1 < 38 := by omega
                    have hbx : (x1 : Int) < 38 ∧ x1 < 38 := by omega
                    have hby : (y1 : Int) < 38 ∧ y1 < 38 := by omega
                    rw [← hei] at hc1
                    rw [← hek] at hc2
                    rw [← hex] at hc3
                    rw [← hey] at hc4
                    obtain ⟨hbi1, hbi2⟩ := hbi
                    obtain ⟨hbk1, hbk2⟩ := hbk
                    obtain ⟨hbx1, hbx2⟩ := hbx
                    obtain ⟨hby1, hby2⟩ := hby
                    have HEI := Lib.hid hei
                    have HEK := Lib.hid hek
                    clear hei hek hex hey hia
                    obtain ⟨m, hm⟩ : ∃ m, m = zi * zk % 10007 := ⟨_, rfl⟩
                    obtain ⟨q, hq⟩ : ∃ q, q = z0 * m % 10007 := ⟨_, rfl⟩
                    have hm0 : 0 ≤ m ∧ m ≤ 10006 := by omega
                    have HM1 := Lib.hid (fun W => show Calls Tryz.prog 92 #[.int .i64 zi, .int .i64 zk] W fun e w' => e = .returned (.int .i64 m) ∧ W = w' from by rw [hm]; exact s_l01Mul zi zk W (by omega) (by omega) (by omega) (by omega))
                    have HM2 := Lib.hid (fun W => show Calls Tryz.prog 92 #[.int .i64 z0, .int .i64 m] W fun e w' => e = .returned (.int .i64 q) ∧ W = w' from by rw [hq]; exact s_l01Mul z0 m W (by omega) (by omega) (by omega) (by omega))
                    have HAD := Lib.hid (fun W => s_l01Add zx zy W (by omega) (by omega) (by omega) (by omega))
                    have HQ := Lib.hid (show P ↔ (zx + zy) % 10007 = q from by rw [HPR.out, hq, hm])
                    clear hm hq HPR
                    go_upto_region 14 with fail
                    go_quiet ((first
                      | (go_at_call_of 92 m; first | exact quiet_same0 (HM2.out _) | exact quiet_same (HM2.out _))
                      | (go_at_call 92; first | exact quiet_same0 (HM1.out _) | exact quiet_same (HM1.out _))))
                    by_cases hpq : (zx + zy) % 10007 = q
                    · have hne2 : ((zx + zy) % 10007 != q) = false := by simp [hpq]
                      have HT2 := Lib.hid (HTG.out (HQ.out.2 hpq))
                      clear hpq
                      go_upto_region 15 with fail
                      go_quiet ((go_at_call 93; first | exact quiet_same0 (HAD.out _) | exact quiet_same (HAD.out _)))
                      go_wp2_with fail
                      go_roundw
                      case rel => exact ⟨k + 1, by omega, by first | rw [← HEK.out] | go_num, HT2.out, below_drewN HBX.out _⟩
                      case measure => have := HEK.out; simp [intOf]; omega
                    · have hne2 : ((zx + zy) % 10007 != q) = true := by simp [hpq]
                      have HT2 := Lib.hid (HTB.out (fun h => hpq (HQ.out.1 h)))
                      clear hpq
                      go_upto_region 15 with fail
                      go_quiet ((go_at_call 93; first | exact quiet_same0 (HAD.out _) | exact quiet_same (HAD.out _)))
                      go_wp2_with fail
                      go_ret
                      exact ⟨n - 1, ret_i64 (by omega), HT2.out, HB1.out.trans ((below_drewN HBX.out _).mono HB1.out.size)⟩
              · have hne : ((u.length : Int) + (v.length : Int) != (n : Int)) = true := by simp; omega
                have HT2 := Lib.hid (hTk.out.skip (by rw [HTU.out, HTV.out]; exact hs))
                clear hs
                go_upto_region 11 with fail
                go_quiet (fail)
                go_wp2_with fail
                go_roundw
                case rel => exact ⟨k + 1, by omega, by go_num, HT2.out, below_drewN HBK.out _⟩
                case measure => simp [intOf]; omega
            · have hkl : k = 37 := by omega
              subst hkl
              have HT2 := Lib.hid hTk.out.row
              go_wp2_with fail
              go_roundw
              case rel => exact ⟨i + 1, by omega, by go_num, HT2.out, HBK.out⟩
              case measure => simp [intOf]; omega
        · have hil : i = 37 := by omega
          subst hil
          have HT2 := Lib.hid hTi.out.next
          go_wp2_with fail
          go_roundw
          case rel => exact ⟨n + 1, by omega, by omega, by go_num, HT2.out, HBI.out⟩
          case measure => simp [intOf]; omega
    · have hnl : n = 7 := by omega
      subst hnl
      have HT2 := Lib.hid hT.out.fin
      go_wp2_with fail
      go_ret
      exact ⟨6, rfl, HT2.out, HB1.out.trans (HB.out.mono HB1.out.size)⟩
end Go.Proofs.YtheldcjiogpbjaaGreat
set_option maxRecDepth 100000
set_option linter.unusedVariables false
set_option linter.unusedSimpArgs false
namespace Go.Proofs.YtheldcjiogpbjaaGreat
open Go.RowKit

theorem neq_false {x y : Int} (h : x = y) : (x != y) = false := by simp [h]
theorem neq_true {x y : Int} (h : ¬ x = y) : (x != y) = true := by simp [h]

set_option maxHeartbeats 4000000 in
theorem i_agreeTo (w : World) (v va vb : Value) (B : Option Addr) (m d : Nat) (a b : List Int) (ha : Rows w v (T6n.map up)) (h1 : Ints w va a) (h2 : Ints w vb b) (l1 : a.length = 38) (l2 : b.length = 38) :
    Calls Tryz.prog 54 #[.agg #[v, .slice B m d], va, vb] w fun e w' => e = .returned (.int .i64 (agZ a b)) ∧ Below w.heap.size w w' := by
  obtain ⟨A, c, he, -, -, -⟩ := ha.open_
  rw [List.length_map, T6n_len] at he
  subst he
  have hbel : Below w.heap.size w (w.alloc (.cells #[.slice A 37 c, .slice B m d] 46)) := below1 w _
  have HRA := Lib.hid (ha.below hbel)
  obtain ⟨A1, c1, rfl, -, -, g1⟩ := (h1.below hbel).open_
  obtain ⟨A2, c2, rfl, -, -, g2⟩ := (h2.below hbel).open_
  rw [l1] at g1 ⊢
  rw [l2] at g2 ⊢
  have G1 := Lib.hid g1
  have G2 := Lib.hid g2
  have HBX := Lib.hid (Blk.new w #[.slice A 37 c, .slice B m d] 46)
  have HBE := Lib.hid hbel
  clear ha hbel h1 h2 l1 l2 g1 g2
  go_enter Tryz.func54, Tryz.ntmps54
  go_wp2_with fail
  generalize hwq : (w.alloc (.cells #[.slice A 37 c, .slice B m d] 46)) = wq at HRA G1 G2 HBX HBE ⊢
  clear hwq
  go_loopw [10] (fun x wr => ∃ k n : Nat, k ≤ 38 ∧ x = .int .i64 k ∧ Hid (∀ i, i < k → a.getD i 0 = b.getD i 0) ∧ wr = wq.drewN n) (fun x _ => 38 - (intOf x).toNat)
  case atStart => exact ⟨0, 0, Nat.zero_le _, rfl, fun i hi => by omega, rfl⟩
  case round =>
    obtain ⟨k, n, hk, rfl, hI, rfl⟩ := hrel
    by_cases hlt : k < 38
    · obtain ⟨a1, x, rfl, hx, -, hcx⟩ := G1.out k hlt
      obtain ⟨a2, y, rfl, hy, -, hcy⟩ := G2.out k hlt
      have hgx := ints_getD hx
      have hgy := ints_getD hy
      have hkk : (k : Int) < 38 := by omega
      by_cases hxy : x = y
      · have hne := neq_false hxy
        have HI2 := Lib.hid (show ∀ i, i < k + 1 → a.getD i 0 = b.getD i 0 from fun i hi => by
          by_cases e : i = k
          · subst e; rw [hgx, hgy]; exact hxy
          · exact hI i (by omega))
        clear hI hx hy hgx hgy hxy
        go_upto_region 4 with fail
        go_quiet (fail)
        go_wp2_with fail
        go_roundw
        case rel => exact ⟨k + 1, _, by omega, by go_num, HI2.out, by first | rfl | exact World.drewN_drewN ..⟩
        case measure => simp [intOf]; omega
      · have hne := neq_true hxy
        have HZ := Lib.hid (agZ_hit hI hlt (by rw [hgx, hgy]; exact hxy))
        have hs := szN_le k
        clear hI hx hy hgx hgy hxy
        go_upto_region 4 with fail
        go_quiet (fail)
        have hf0 : wq.cell? ⟨w.heap.size, 0, none⟩ = some (.slice A 37 c) := HBX.out.cell 0
        have hf1 : wq.cell? ⟨w.heap.size, 1, none⟩ = some (.slice B m d) := HBX.out.cell 1
        go_wp2_with (go_at_call 100; go_loud (refine (im_nodes _ _ B m d k (HRA.out.below (below_drewN (Below.refl _ _) _)) (by omega)).mono ?_; rintro e w2 ⟨rfl, hw2⟩; have HB2 := Lib.hid (show Below w.heap.size w w2 from by rw [hw2]; exact (below_drewN HBE.out _).trans ((below1 _ _).mono (by have := HBE.out.size; simpa using this))); clear hw2))
        go_ret
        exact ⟨ret_i64 HZ.out.symm, HB2.out⟩
    · have HZ := Lib.hid (agZ_miss (a := a) (b := b) (fun i hi => hI i (by omega)))
      clear hI
      go_wp2_with fail
      go_ret
      exact ⟨ret_i64 HZ.out.symm, below_drewN HBE.out _⟩

set_option maxHeartbeats 4000000 in
theorem s_l07Agree (w : World) (va vb : Value) (a b : List Int) (h1 : Ints w va a) (h2 : Ints w vb b) (l1 : a.length = 38) (l2 : b.length = 38) :
    Calls Tryz.prog 51 #[va, vb] w fun e w' => e = .returned (.int .i64 (agZ a b)) ∧ Below w.heap.size w w' := by
  have HA := Lib.hid h1
  have HB := Lib.hid h2
  obtain ⟨A1, c1, rfl, -, -, g1⟩ := h1.open_
  obtain ⟨A2, c2, rfl, -, -, g2⟩ := h2.open_
  rw [l1] at g1 HA ⊢
  rw [l2] at g2 HB ⊢
  obtain ⟨a1, x, rfl, hx, -, hcx⟩ := g1 0 (by omega)
  obtain ⟨a2, y, rfl, hy, -, hcy⟩ := g2 0 (by omega)
  have hcx0 : w.cell? a1 = some (.int .i64 x) := by simpa [Addr.add] using hcx
  have hcy0 : w.cell? a2 = some (.int .i64 y) := by simpa [Addr.add] using hcy
  have hgx := ints_getD hx
  have hgy := ints_getD hy
  have G1 := Lib.hid g1
  have G2 := Lib.hid g2
  clear h1 h2 l1 l2 g1 g2 hcx hcy hx hy
  by_cases hxy : x = y
  · have hne := neq_false hxy
    have HI0 := Lib.hid (show ∀ i, i < 0 + 1 → a.getD i 0 = b.getD i 0 from fun i hi => by
      have : i = 0 := by omega
      subst this; rw [hgx, hgy]; exact hxy)
    clear hgx hgy hxy
    go_enter Tryz.func51, Tryz.ntmps51
    go_upto_region 1 with fail
    go_quiet (fail)
    generalize hwq : w.drewN nq = wq
    have HBE := Lib.hid (show Below w.heap.size w wq from by rw [← hwq]; exact below_drewN (Below.refl _ _) _)
    clear hwq
    go_wp2_with (go_at_call 59; go_loud (refine (s_l03All _ 6 (by omega)).mono ?_; rintro e w1 ⟨x1, rfl, hx1, hb1⟩; rw [show allG treesN 6 = T6n from rfl] at hx1; obtain ⟨A3, c3, he1, -, -, -⟩ := hx1.rows.open_; rw [List.length_map, T6n_len] at he1; subst he1; have HX1 := Lib.hid hx1.rows; have HB1 := Lib.hid (HBE.out.trans (hb1.mono HBE.out.size)); clear hx1 hb1))
    go_loopw [6] (fun x wr => ∃ k n : Nat, k ≤ 37 ∧ x = .int .i64 k ∧ Hid (∀ i, i < k + 1 → a.getD i 0 = b.getD i 0) ∧ wr = w1.drewN n) (fun x _ => 37 - (intOf x).toNat)
    case atStart => exact ⟨0, 0, Nat.zero_le _, rfl, HI0.out, rfl⟩
    case round =>
      obtain ⟨k, n, hk, rfl, hI, rfl⟩ := hrel
      by_cases hlt : k < 37
      · obtain ⟨a1', x, he1, hx, -, hcx⟩ := G1.out (k + 1) (by omega)
        injection he1 with he1
        subst he1
        obtain ⟨a2', y, he2, hy, -, hcy⟩ := G2.out (k + 1) (by omega)
        injection he2 with he2
        subst he2
        have hcx1 := keepCellG HB1.out hcx
        have hcy1 := keepCellG HB1.out hcy
        have hgx := ints_getD hx
        have hgy := ints_getD hy
        have hkk : (k : Int) < 37 := by omega
        obtain ⟨k1, hk1⟩ : ∃ k1 : Nat, k1 = k + 1 := ⟨_, rfl⟩
        have hkk2 : (k1 : Int) < 38 := by omega
        have hkk3 : k1 < 38 := by omega
        have hkw : IntKind.i64.wrap ((k : Int) + 1) = (k1 : Int) := by rw [hk1]; exact IntWalk.i64_in _ (by omega)
        rw [← hk1] at hcx1 hcy1
        have HK1 := Lib.hid hk1
        clear hk1
        by_cases hxy : x = y
        · have hne := neq_false hxy
          have HI2 := Lib.hid (show ∀ i, i < k + 1 + 1 → a.getD i 0 = b.getD i 0 from fun i hi => by
            by_cases e : i = k + 1
            · subst e; rw [hgx, hgy]; exact hxy
            · exact hI i (by omega))
          clear hI hx hy hgx hgy hxy hcx hcy
          go_upto_region 7 with fail
          go_quiet (fail)
          go_wp2_with fail
          go_roundw
          case rel => exact ⟨k1, _, by omega, by first | rfl | go_num, by rw [HK1.out]; exact HI2.out, by first | rfl | exact World.drewN_drewN ..⟩
          case measure => have := HK1.out; simp [intOf]; omega
        · have hne := neq_true hxy
          obtain ⟨ad, At, ct, t, rfl, ht, hti, hcr⟩ := HX1.out.tree hlt
          have HZ := Lib.hid (show agZ a b = (t.length : Int) - 1 from by rw [agZ_hit hI (by omega) (by rw [hgx, hgy]; exact hxy), szN_succ ht])
          have hs := (T6n_at (List.mem_of_getElem? ht)).2.2.1
          clear hI hx hy hgx hgy hxy hcx hcy ht hti
          go_upto_region 7 with fail
          go_quiet (fail)
          go_wp2_with fail
          go_ret
          exact ⟨ret_i64 HZ.out.symm, below_drewN HB1.out _⟩
      · have HZ := Lib.hid (agZ_miss (a := a) (b := b) (fun i hi => hI i (by omega)))
        clear hI
        go_wp2_with fail
        go_ret
        exact ⟨ret_i64 HZ.out.symm, below_drewN HB1.out _⟩
  · have hne := neq_true hxy
    have HZ := Lib.hid (show agZ a b = -1 from by rw [agZ_hit (k := 0) (fun i hi => by omega) (by omega) (by rw [hgx, hgy]; exact hxy)]; rfl)
    clear hgx hgy hxy
    go_enter Tryz.func51, Tryz.ntmps51
    go_upto_region 1 with fail
    go_quiet (fail)
    go_wp2_with fail
    go_ret
    exact ⟨ret_i64 HZ.out.symm, below_drewN (Below.refl _ _) _⟩

end Go.Proofs.YtheldcjiogpbjaaGreat
