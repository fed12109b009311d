import Derived.Test.YtofabikjjkapmaaGreatSm18
import Derived.Test.YtofabikjjkapmaaGreatSm3
import Derived.Test.YtofabikjjkapmaaGreatSm4
import Derived.Test.YtofabikjjkapmaaGreatSm5
import Derived.Test.YtofabikjjkapmaaGreatSm19
import Derived.Test.YtofabikjjkapmaaGreatSm20
import Derived.Test.YtofabikjjkapmaaGreatSm13
import Derived.Test.YtofabikjjkapmaaGreatSm6
import Derived.Test.YtofabikjjkapmaaGreatSm11
import Derived.Test.YtofabikjjkapmaaGreatSm1
set_option maxRecDepth 100000
set_option linter.unusedVariables false
set_option linter.unusedSimpArgs false
namespace Go.Proofs.YtofabikjjkapmaaGreat
open Go.RowKit
theorem wr_mul {a d : Nat} (h : a * d <= 1000000) : wrap64 ((a : Int) * (d : Int)) = ((a * d : Nat) : Int) /\ IntKind.i64.wrap ((a : Int) * (d : Int)) = ((a * d : Nat) : Int) := by
 have h0 : ((a : Int) * (d : Int)) = ((a * d : Nat) : Int) := (Int.natCast_mul a d).symm
 rw [h0]
 generalize a * d = x at h
 have hb : -9223372036854775808 <= (x : Int) /\ (x : Int) <= 9223372036854775807 := by omega
 exact ⟨by unfold wrap64; omega, IntWalk.i64_in _ hb⟩
set_option maxHeartbeats 4000000 in
theorem i_density : ∀ (f : Nat) (w : World) (v : Value) (t : List Nat) (r : Nat), Ints w v (up t) -> denO f t = some r -> t.length <= 1000 -> (∀ l ∈ t, l <= 1000000) ->
  Calls Tryz.prog 58 #[v] w fun e w' => e = .returned (.int .i64 (r : Nat)) /\ Below w.heap.size w w' := by
 intro f
 induction f with
 | zero => intro w v t r _ h; cases h
 | succ f ih =>
  intro w v t r ha hr hn hl
  obtain ⟨bs, hb, hd⟩ := denO_succ hr
  have hbl := brO_lens hb hn
  have hbm := brO_mem hb hl
  have IH := Lib.hid ih
  have HA := Lib.hid ha
  have HB := Lib.hid (i_branchesOf w v t bs ha hb hn hl)
  have HLN := Lib.hid (lib_lengthI w v _ ha)
  rw [up_len] at HLN
  have HD := Lib.hid hd
  have HBL := Lib.hid hbl
  have HBM := Lib.hid hbm
  have hbl1 := hbl.1
  obtain ⟨A, c, rfl, -, -, -⟩ := ha.open_
  rw [up_len] at HA HB HLN ⊢
  clear ih ha hr hb hd hbl hbm hl
  go_enter Tryz.func58, Tryz.ntmps58
  go_wp2_with (first
   | (go_at_call 59; refine HLN.out.mono ?_; rintro e w0 ⟨rfl, rfl⟩)
   | (go_at_call 116; refine HB.out.mono ?_; rintro e w1 ⟨x1, rfl, hx1, hb1⟩; obtain ⟨vs, hv, hrr⟩ := hx1; have hvl := hrr.1; rw [List.length_map] at hvl; obtain ⟨A1, c1, rfl, -, -⟩ := hv.cells.open_; have HV := Lib.hid hv; have HRR := Lib.hid hrr; have HB1 := Lib.hid hb1; have HVL := Lib.hid hvl; clear hv hrr hb1 hvl))
  go_loopw [3, 11] (fun o x wr => ∃ (k a : Nat), k <= vs.length /\ a <= 1000000 /\ x = .int .i64 k /\ o = .int .i64 a /\ Hid (denL (denO f) (bs.drop k) a = some r) /\ Below w1.heap.size w1 wr) (fun _ x _ => vs.length - (intOf x).toNat)
  case atStart => exact ⟨0, t.length, Nat.zero_le _, by omega, rfl, rfl, HD.out, Below.refl _ _⟩
  case round =>
   obtain ⟨k, a, hk, ha6, rfl, rfl, hD, hb⟩ := hrel
   have HBK := Lib.hid hb
   have hvn : vs.length <= 1000 := by rw [HVL.out]; exact hbl1
   clear hb
   by_cases hlt : k < vs.length
   · obtain ⟨b, hbk⟩ : ∃ b, bs[k]? = some b := ⟨_, List.getElem?_eq_getElem (by rw [<- HVL.out]; exact hlt)⟩
     have hdr : bs.drop k = b :: bs.drop (k + 1) := by
      obtain ⟨h1, h2⟩ := List.getElem?_eq_some_iff.1 hbk
      rw [List.drop_eq_getElem_cons h1, h2]
     have hD2 := hD.out
     rw [hdr] at hD2
     obtain ⟨d, hd1, hd2, hd3⟩ := denL_cons hD2
     obtain ⟨u, hu⟩ : ∃ u, vs[k]? = some u := ⟨_, List.getElem?_eq_getElem hlt⟩
     obtain ⟨ad, n', c', he, hcell⟩ := (HV.out.below HBK.out).cells.at_ hu
     simp only [Value.slice.injEq] at he
     obtain ⟨rfl, -, -⟩ := he
     have hrow := (HRR.out.below HBK.out).2 k u (up b) hu (by rw [List.getElem?_map, hbk]; rfl)
     have HRO := Lib.hid hrow
     have HC := Lib.hid (IH.out wr u b d hrow.ints hd1 (HBL.out.2 b (List.mem_of_getElem? hbk)) (HBM.out b (List.mem_of_getElem? hbk)))
     have HD3 := Lib.hid hd3
     obtain ⟨hw1, hw2⟩ := wr_mul hd2
     have hkk : (k : Int) < (vs.length : Int) := by omega
     clear hbk hdr hD hD2 hd1 hd3 hrow hu
     go_wp2_with (go_at_call 58; go_loud (refine HC.out.mono ?_; rintro e w2 ⟨rfl, hb2⟩; have HB2 := Lib.hid hb2; clear hb2))
     go_roundw
     case rel => exact ⟨k + 1, a * d, by omega, hd2, by go_num, rfl, HD3.out, HBK.out.trans (HB2.out.mono HBK.out.size)⟩
     case measure => simp [intOf]; omega
   · have hkl : k = bs.length := by rw [<- HVL.out]; omega
     have hD2 := hD.out
     rw [hkl, List.drop_length, denL] at hD2
     injection hD2 with hD2
     subst hD2
     clear hkl
     go_wp2_with fail
     go_ret
     exact ⟨rfl, HB1.out.trans (HBK.out.mono HB1.out.size)⟩
set_option maxHeartbeats 4000000 in
theorem s_l03Density : ∀ (f : Nat) (w : World) (v : Value) (t : List Nat) (r : Nat), Ints w v (up t) -> denO f t = some r -> t.length <= 1000 -> (∀ l ∈ t, l <= 1000000) ->
  Calls Tryz.prog 120 #[v] w fun e w' => e = .returned (.int .i64 (r : Nat)) /\ Below w.heap.size w w' := by
 intro f
 induction f with
 | zero => intro w v t r _ h; cases h
 | succ f ih =>
  intro w v t r ha hr hn hl
  obtain ⟨bs, hb, hd⟩ := denO_succ hr
  have hbl := brO_lens hb hn
  have hbm := brO_mem hb hl
  have IH := Lib.hid ih
  have HA := Lib.hid ha
  have HB := Lib.hid (s_l03Parts w v t bs ha hb hn hl)
  have HD := Lib.hid hd
  have HBL := Lib.hid hbl
  have HBM := Lib.hid hbm
  have hbl1 := hbl.1
  obtain ⟨A, c, rfl, -, -, -⟩ := ha.open_
  rw [up_len] at HA HB ⊢
  clear ih ha hr hb hd hbl hbm hl
  go_enter Tryz.func120, Tryz.ntmps120
  go_wp2_with (go_at_call 179; refine HB.out.mono ?_; rintro e w1 ⟨x1, rfl, hx1, hb1⟩; obtain ⟨vs, hv, hrr⟩ := hx1; have hvl := hrr.1; rw [List.length_map] at hvl; obtain ⟨A1, c1, rfl, -, -⟩ := hv.cells.open_; have HV := Lib.hid hv; have HRR := Lib.hid hrr; have HB1 := Lib.hid hb1; have HVL := Lib.hid hvl; clear hv hrr hb1 hvl)
  go_loopw [3, 5] (fun o x wr => ∃ (k a : Nat), k <= vs.length /\ a <= 1000000 /\ x = .int .i64 k /\ o = .int .i64 a /\ Hid (denL (denO f) (bs.drop k) a = some r) /\ Below w1.heap.size w1 wr) (fun _ x _ => vs.length - (intOf x).toNat)
  case atStart => exact ⟨0, t.length, Nat.zero_le _, by omega, rfl, rfl, HD.out, Below.refl _ _⟩
  case round =>
   obtain ⟨k, a, hk, ha6, rfl, rfl, hD, hb⟩ := hrel
   have HBK := Lib.hid hb
   have hvn : vs.length <= 1000 := by rw [HVL.out]; exact hbl1
   clear hb
   by_cases hlt : k < vs.length
   · obtain ⟨b, hbk⟩ : ∃ b, bs[k]? = some b := ⟨_, List.getElem?_eq_getElem (by rw [<- HVL.out]; exact hlt)⟩
     have hdr : bs.drop k = b :: bs.drop (k + 1) := by
      obtain ⟨h1, h2⟩ := List.getElem?_eq_some_iff.1 hbk
      rw [List.drop_eq_getElem_cons h1, h2]
     have hD2 := hD.out
     rw [hdr] at hD2
     obtain ⟨d, hd1, hd2, hd3⟩ := denL_cons hD2
     obtain ⟨u, hu⟩ : ∃ u, vs[k]? = some u := ⟨_, List.getElem?_eq_getElem hlt⟩
     obtain ⟨ad, n', c', he, hcell⟩ := (HV.out.below HBK.out).cells.at_ hu
     simp only [Value.slice.injEq] at he
     obtain ⟨rfl, -, -⟩ := he
     have hrow := (HRR.out.below HBK.out).2 k u (up b) hu (by rw [List.getElem?_map, hbk]; rfl)
     have HRO := Lib.hid hrow
     have HC := Lib.hid (IH.out wr u b d hrow.ints hd1 (HBL.out.2 b (List.mem_of_getElem? hbk)) (HBM.out b (List.mem_of_getElem? hbk)))
     have HD3 := Lib.hid hd3
     obtain ⟨hw1, hw2⟩ := wr_mul hd2
     have hkk : (k : Int) < (vs.length : Int) := by omega
     clear hbk hdr hD hD2 hd1 hd3 hrow hu
     go_wp2_with (go_at_call 120; go_loud (refine HC.out.mono ?_; rintro e w2 ⟨rfl, hb2⟩; have HB2 := Lib.hid hb2; clear hb2))
     go_roundw
     case rel => exact ⟨k + 1, a * d, by omega, hd2, by go_num, rfl, HD3.out, HBK.out.trans (HB2.out.mono HBK.out.size)⟩
     case measure => simp [intOf]; omega
   · have hkl : k = bs.length := by rw [<- HVL.out]; omega
     have hD2 := hD.out
     rw [hkl, List.drop_length, denL] at hD2
     injection hD2 with hD2
     subst hD2
     clear hkl
     go_wp2_with fail
     go_ret
     exact ⟨rfl, HB1.out.trans (HBK.out.mono HB1.out.size)⟩
set_option maxHeartbeats 2000000 in
theorem im_fnodes (w : World) (v : Value) (B : Option Addr) (m d k : Nat) (ha : Rows w v (T6n.map up)) (hk : k <= 37) :
  Calls Tryz.prog 123 #[.agg #[v, .slice B m d], .int .i64 k] w fun e w' => e = .returned (.int .i64 (szN k : Nat)) /\ w' = w.alloc (.cells #[v, .slice B m d] 57) := by
 obtain ⟨A, c, rfl, -, -, h3⟩ := ha.open_
 rw [List.length_map, T6n_len] at h3 ⊢
 have hbel : Below w.heap.size w (w.alloc (.cells #[.slice A 37 c, .slice B m d] 57)) := below1 w _
 have hq0 : (w.alloc (.cells #[.slice A 37 c, .slice B m d] 57)).cell? ⟨w.heap.size, 0, none⟩ = some (.slice A 37 c) := (Blk.new w _ _).cell 0
 cases k with
 | zero =>
  clear h3 hbel
  go_enter Tryz.func123, Tryz.ntmps123
  go_wp2_with fail
  go_ret
  exact ⟨rfl, rfl⟩
 | succ k =>
  have hk7 : k < 37 := by omega
  obtain ⟨ad, u, zs, rfl, hz, hu, hc⟩ := h3 k hk7
  have ht : T6n[k]? = some (T6n[k]'(by rw [T6n_len]; exact hk7)) := List.getElem?_eq_getElem _
  rw [List.getElem?_map, ht] at hz
  injection hz with hz
  subst hz
  rw [szN_succ ht]
  generalize T6n[k]'(by rw [T6n_len]; exact hk7) = t at *
  obtain ⟨Au, cu, rfl, -, -, -⟩ := hu.open_
  rw [up_len] at hu hc
  have HLN := Lib.hid (lib_lengthI _ _ _ (hu.below hbel))
  rw [up_len] at HLN
  have hc1 : (w.alloc (.cells #[.slice (some ad) 37 c, .slice B m d] 57)).cell? (ad.add k) = some (.slice Au t.length cu) := by
   rw [hbel.cell (by rw [block_add]; have := World.block_lt_of_cell? w _ hc; rwa [block_add] at this)]; exact hc
  have hkk : (k : Int) < 37 := by omega
  have hz0 : (((k + 1 : Nat) : Int) == 0) = false := by simp; omega
  have hz1 : ((k + 1 : Nat) : Int) - 1 = (k : Int) := by omega
  clear h3 ht hu hc hbel
  go_enter Tryz.func123, Tryz.ntmps123
  go_wp2_with (go_at_call 59; refine HLN.out.mono ?_; rintro e w0 ⟨rfl, rfl⟩)
  go_ret
  exact ⟨rfl, rfl⟩
def filT (l : List Int) (i : Nat) : List Int := l.take i ++ List.replicate (l.length - i) 0
theorem filT_len (l : List Int) {i : Nat} (h : i <= l.length) : (filT l i).length = l.length := by simp [filT]; omega
theorem filT_set {l : List Int} {i : Nat} {x : Int} (h : l[i]? = some x) : (filT l i).set i x = filT l (i + 1) := by
 obtain ⟨hi, hx⟩ := List.getElem?_eq_some_iff.1 h
 unfold filT
 rw [List.set_append_right _ _ (by simp; omega)]
 have e : i - (l.take i).length = 0 := by simp; omega
 rw [e, List.take_add_one, h]
 rw [show l.length - i = l.length - (i + 1) + 1 by omega, List.replicate_succ, List.set_cons_zero]
 simp
theorem filT_full (l : List Int) : filT l l.length = l := by simp [filT]
theorem filT_in {l : List Int} (h : ∀ z ∈ l, In64 z) (i : Nat) : ∀ z ∈ filT l i, In64 z := by
 intro z hz
 rcases List.mem_append.1 hz with hz | hz
 · exact h z (List.mem_of_mem_take hz)
 · have := List.eq_of_mem_replicate hz
   subst this
   unfold In64; omega
theorem ints_set (zs : List Int) (k : Nat) (z : Int) : (ints zs).set k (.int .i64 z) = ints (zs.set k z) := by simp [ints, List.map_set]
theorem ints_getD {zs : List Int} {k : Nat} {z : Int} (h : zs[k]? = some z) : zs.getD k 0 = z := by simp [List.getD, h]
theorem in64_num {z : Int} (h : 0 <= z /\ z <= 10006) : In64 z := by unfold In64; omega
set_option maxHeartbeats 400000 in
theorem i_UnitMap (w : World) : Calls Tryz.prog 96 #[] w fun e w' => ∃ x, e = .returned x /\ OwnInts w' w.heap.size tI x (filT EX 1) /\ Below w.heap.size w w' := by
 have hset : (List.replicate 38 (Value.int .i64 0)).set 0 (.int .i64 1) = ints (filT EX 1) := rfl
 go_enter Tryz.func96, Tryz.ntmps96
 go_wp2_with (at_make; refine wpList_mk rfl _ _ _ rfl _ _ _ T_int 38 _ rfl rfl rfl (by omega) _ ?_; intro w1 hown hb hs; obtain ⟨u0, hu0, hcg, hfg, hg2, hg1, hown', hgr⟩ := hown.storeAt (k := 0) (by simp) (.int .i64 1); rw [hset] at hown'; have HO := Lib.hid hown'; have HB := Lib.hid hb; clear hown hown' hgr hu0 hg1 hb)
 go_ret
 exact ⟨_, rfl, ⟨HO.out, filT_in (fun z hz => in64_num (EX_nums z hz)) 1⟩, HB.out.setCell (Nat.le_refl _) _⟩
theorem den_of {t : List Nat} (h : t ∈ T6n) : ∃ d : Nat, denO 9 t = some d /\ 1 <= d /\ d <= 720 /\ pw (d : Int) 10005 = (exV t : Nat) /\ t.length <= 1000 /\ (∀ l ∈ t, l <= 1000000) := by
 obtain ⟨d, h1, h2, h3, -, -⟩ := T6n_den h
 obtain ⟨-, -, h5, h6⟩ := T6n_at h
 exact ⟨d, h1, h2, h3, exV_pw h1, by omega, fun l hl => by have := h6 l hl; omega⟩
theorem Rows.tree {w : World} {A : Option Addr} {c : Nat} (h : Rows w (.slice A 37 c) (T6n.map up)) {i : Nat} (hi : i < 37) :
  ∃ ad At ct t, A = some ad /\ T6n[i]? = some t /\ Ints w (.slice At t.length ct) (up t) /\ w.cell? (ad.add i) = some (.slice At t.length ct) := by
 obtain ⟨A', c', he, -, -, h3⟩ := h.open_
 rw [List.length_map, T6n_len] at he h3
 simp only [Value.slice.injEq, true_and] at he
 obtain ⟨rfl, rfl⟩ := he
 obtain ⟨ad, u, zs, rfl, hz, hu, hc⟩ := h3 i hi
 have ht : T6n[i]? = some (T6n[i]'(by rw [T6n_len]; exact hi)) := List.getElem?_eq_getElem _
 rw [List.getElem?_map, ht] at hz
 injection hz with hz
 subst hz
 obtain ⟨Au, cu, rfl, -, -, -⟩ := hu.open_
 rw [up_len] at hu hc
 exact ⟨ad, Au, cu, _, rfl, ht, hu, hc⟩
set_option maxHeartbeats 4000000 in
theorem i_exactMap (w : World) (v : Value) (B : Option Addr) (m d : Nat) (ha : Rows w v (T6n.map up)) :
  Calls Tryz.prog 66 #[.agg #[v, .slice B m d]] w fun e w' => ∃ x, e = .returned x /\ OwnInts w' w.heap.size tI x EX /\ Below w.heap.size w w' := by
 obtain ⟨A, c, he, -, -, -⟩ := ha.open_
 rw [List.length_map, T6n_len] at he
 subst he
 have hbel : Below w.heap.size w (w.alloc (.cells #[.slice A 37 c, .slice B m d] 57)) := below1 w _
 have HRA := Lib.hid (ha.below hbel)
 have HBX := Lib.hid (Blk.new w #[.slice A 37 c, .slice B m d] 57)
 have HBE := Lib.hid hbel
 clear ha hbel
 go_enter Tryz.func66, Tryz.ntmps66
 go_wp2_with (go_at_call 96; go_loud (refine (i_UnitMap _).mono ?_; rintro e w1 ⟨x1, rfl, ho1, hb1⟩; obtain ⟨A1, c1, he1, -, -, -⟩ := ho1.ints.open_; rw [show (filT EX 1).length = 38 from rfl] at he1; subst he1; have HO1 := Lib.hid ho1; have HB1 := Lib.hid hb1; have hx0 : w1.cell? ⟨w.heap.size, 0, none⟩ = some (.slice A 37 c) := (HBX.out.below hb1 HBX.out.lt).cell 0; clear ho1 hb1))
 rcases HO1.out.1.cases with ⟨he1, -⟩ | ⟨g, cap, cur, he1, hg1, hg2, -⟩
 · simp at he1
 rw [ints_len, show (filT EX 1).length = 38 from rfl] at he1
 simp only [Value.slice.injEq, true_and] at he1
 obtain ⟨rfl, rfl⟩ := he1
 have HG1 := Lib.hid hg1
 clear hg1 hg2 hx0
 go_loopw [10] (fun x wr => ∃ i : Nat, i <= 37 /\ x = .int .i64 i /\ OwnInts wr (w.alloc (.cells #[.slice A 37 c, .slice B m d] 57)).heap.size tI (.slice (some ⟨g, 0, none⟩) 38 c1) (filT EX (i + 1)) /\ Below (w.alloc (.cells #[.slice A 37 c, .slice B m d] 57)).heap.size (w.alloc (.cells #[.slice A 37 c, .slice B m d] 57)) wr) (fun x _ => 37 - (intOf x).toNat)
 case atStart => exact ⟨0, Nat.zero_le _, rfl, HO1.out, HB1.out⟩
 case round =>
  obtain ⟨i, hi, rfl, ho, hb⟩ := hrel
  have HO := Lib.hid ho
  have HB := Lib.hid hb
  clear ho hb
  by_cases hlt : i < 37
  · obtain ⟨ad, At, ct, t, rfl, ht, hti, hcr⟩ := (HRA.out.below HB.out).tree hlt
    obtain ⟨dn, hd1, hd2, hd3, hd4, hd5, hd6⟩ := den_of (List.mem_of_getElem? ht)
    have HDE := Lib.hid (i_density 9 wr _ t dn hti hd1 hd5 hd6)
    have hmod : (dn : Int) % 10007 = (dn : Int) := by omega
    have HNU := Lib.hid (fun W => show Calls Tryz.prog 56 #[.int .i64 (dn : Int)] W fun e w' => e = .returned (.int .i64 (dn : Int)) /\ W = w' from by have h := i_num (dn : Int) W (by omega) (by omega); rwa [hmod] at h)
    have HIN := Lib.hid (fun W => show Calls Tryz.prog 99 #[.int .i64 (dn : Int)] W fun e w' => e = .returned (.int .i64 ((exV t : Nat) : Int)) /\ W = w' from by have h := i_inv (dn : Int) W (by omega) (by omega); rwa [hd4] at h)
    have HSE := Lib.hid (filT_set (EX_succ ht))
    have hii : (i : Int) < 37 := by omega
    clear ht hti hd1 hd4 hd5 hd6 hmod
    go_wp2_with (first
     | (go_at_call 58; go_loud (refine HDE.out.mono ?_; rintro e w2 ⟨rfl, hb2⟩; have HB2 := Lib.hid hb2; obtain ⟨u0, -, hcg, hfg, -, -, hown', hgr⟩ := (HO.out.1.below hb2).storeAt (k := i + 1) (by rw [ints_len, filT_len _ (by rw [EX_len]; omega), EX_len]; omega) (.int .i64 ((exV t : Nat) : Int)); rw [ints_set, HSE.out] at hown'; have HO2 := Lib.hid hown'; clear hown' hgr hb2))
     | (go_at_call 56; refine (HNU.out _).mono ?_; rintro e w3 ⟨rfl, rfl⟩)
     | (go_at_call 99; refine (HIN.out _).mono ?_; rintro e w3 ⟨rfl, rfl⟩))
    go_roundw
    case rel =>
     have hge := HO.out.1.ge g rfl
     exact ⟨i + 1, by omega, by go_num, ⟨HO2.out, filT_in (fun z hz => in64_num (EX_nums z hz)) _⟩, (HB.out.trans (HB2.out.mono HB.out.size)).setCell hge _⟩
    case measure => simp [intOf]; omega
  · have hil : i + 1 = EX.length := by rw [EX_len]; omega
    have HF := Lib.hid (show filT EX (i + 1) = EX from by rw [hil]; exact filT_full EX)
    clear hil
    go_wp2_with fail
    go_ret
    refine ⟨_, rfl, ?_, HBE.out.trans (HB.out.mono HBE.out.size)⟩
    have h := HO.out
    rw [HF.out] at h
    exact h.mono HBE.out.size
set_option maxHeartbeats 1000000 in
theorem s_l01Frac (w : World) (p q : Int) (h0 : 0 <= p) (h1 : p <= 1000000) (g0 : 0 <= q) (g1 : q <= 1000000) :
  Calls Tryz.prog 119 #[.int .i64 p, .int .i64 q] w fun e w' => e = .returned (.int .i64 ((p % 10007) * pw (q % 10007) 10005 % 10007)) /\ w = w' := by
 have hp := pw_bd (q % 10007) 10005
 have hq : 0 <= q % 10007 /\ q % 10007 <= 10006 := by omega
 have hq2 : 0 <= p % 10007 /\ p % 10007 <= 10006 := by omega
 go_enter Tryz.func119, Tryz.ntmps119
 go_wp2_with (first
  | (go_at_call 178; (with_reducible refine (s_l01Inv _ _ (by omega) (by omega)).mono ?_); rintro e w2 ⟨rfl, rfl⟩)
  | (go_at_call 176; (with_reducible refine (s_l01Mul _ _ _ (by omega) (by omega) (by omega) (by omega)).mono ?_); rintro e w2 ⟨rfl, rfl⟩)
  | (go_at_call 177; (with_reducible refine (s_l01Mod _ _ (by omega) (by omega)).mono ?_); rintro e w2 ⟨rfl, rfl⟩))
 go_ret
 exact ⟨rfl, rfl⟩
set_option maxHeartbeats 4000000 in
theorem s_l07Exact (w : World) :
  Calls Tryz.prog 62 #[] w fun e w' => ∃ x, e = .returned x /\ OwnInts w' w.heap.size tI x EX /\ Below w.heap.size w w' := by
 go_enter Tryz.func62, Tryz.ntmps62
 go_wp2_with (go_at_call 61; go_loud (refine (s_l03All _ 6 (by omega)).mono ?_; rintro e w1 ⟨x1, rfl, hx1, hb1⟩; rw [show allG treesN 6 = T6n from rfl] at hx1; obtain ⟨A1, c1, he1, -, -, -⟩ := hx1.rows.open_; rw [List.length_map, T6n_len] at he1; subst he1; have HX1 := Lib.hid hx1; have HB1 := Lib.hid hb1; clear hx1 hb1))
 have OL := Lib.hid (show Own (w1.alloc (.cells #[.int .i64 1] tI)) w1.heap.size tI (.slice (some ⟨w1.heap.size, 0, none⟩) 1 1) (ints (EX.take 1)) from own_lit w1 tI [.int .i64 1] (by simp [maxLen]))
 have HBB := Lib.hid (HB1.out.trans ((below1 w1 (.cells #[.int .i64 1] tI)).mono HB1.out.size))
 have HBZ := Lib.hid (below1 w1 (.cells #[.int .i64 1] tI))
 have HSZ := Lib.hid HB1.out.size
 clear HB1
 go_loopw [2, 3] (fun o x wr => ∃ i : Nat, i <= 37 /\ x = .int .i64 i /\ Own wr w1.heap.size tI o (ints (EX.take (i + 1))) /\ Below w1.heap.size w1 wr /\ Below w.heap.size w wr) (fun _ x _ => 37 - (intOf x).toNat)
 case atStart => exact ⟨0, Nat.zero_le _, rfl, OL.out, HBZ.out, HBB.out⟩
 case round =>
  obtain ⟨i, hi, rfl, ho, hb1, hb⟩ := hrel
  clear OL HBZ HBB
  have hrw := HX1.out.rows.below hb1
  have hol := ho.cells.open_
  have hel : (EX.take (i + 1)).length = i + 1 := by rw [List.length_take, EX_len]; omega
  rw [ints_len, hel] at hol
  obtain ⟨Ao, co, rfl, -, -⟩ := hol
  have HEL := Lib.hid hel
  have HO := Lib.hid ho
  have HB := Lib.hid hb
  have HB1 := Lib.hid hb1
  clear ho hb hb1 hel
  by_cases hlt : i < 37
  · obtain ⟨ad, At, ct, t, rfl, ht, hti, hcr⟩ := hrw.tree hlt
    obtain ⟨dn, hd1, hd2, hd3, hd4, hd5, hd6⟩ := den_of (List.mem_of_getElem? ht)
    have HDE := Lib.hid (s_l03Density 9 wr _ t dn hti hd1 hd5 hd6)
    have HFR := Lib.hid (fun W => show Calls Tryz.prog 119 #[.int .i64 1, .int .i64 (dn : Int)] W fun e w' => e = .returned (.int .i64 ((exV t : Nat) : Int)) /\ W = w' from by
     have h := s_l01Frac W 1 (dn : Int) (by omega) (by omega) (by omega) (by omega)
     have hmod : (dn : Int) % 10007 = (dn : Int) := by omega
     have hz := exV_le t
     rw [hmod, hd4, show (1 : Int) % 10007 = 1 from rfl, show ((1 : Int) * ((exV t : Nat) : Int)) % 10007 = ((exV t : Nat) : Int) by omega] at h
     exact h)
    have HTS := Lib.hid (show ints (EX.take (i + 1 + 1)) = ints (EX.take (i + 1)) ++ [.int .i64 ((exV t : Nat) : Int)] from by rw [List.take_add_one, EX_succ ht, ints, ints, List.map_append]; rfl)
    have hii : (i : Int) < 37 := by omega
    clear ht hti hd1 hd4 hd5 hd6 hrw
    go_wp2_with (first
     | (go_at_call 120; go_loud (refine HDE.out.mono ?_; rintro e w2 ⟨rfl, hb2⟩; have HB2 := Lib.hid hb2; have HOX := Lib.hid (HO.out.below hb2); clear hb2))
     | (go_at_call 119; refine (HFR.out _).mono ?_; rintro e w3 ⟨rfl, rfl⟩)
     | (at_builtin; go_loud (refine wpList_app1 T_int HOX.out (by rw [ints_len, HEL.out]; omega) (Nat.le_trans HB1.out.size HB2.out.size) (by rfl) rfl (by rfl) (by rfl) (by rfl) ?_; intro v1 w6 hown1 hgr1; have HN := Lib.hid hown1; have HGR := Lib.hid hgr1; clear hown1 hgr1)))
    go_roundw
    case rel =>
     have hb6 : Below w1.heap.size w1 w6 := HGR.out.below (HB1.out.trans (HB2.out.mono HB1.out.size)) (Nat.le_trans HB1.out.size HB2.out.size) HO.out.ge
     have hge := HO.out.ge
     refine ⟨i + 1, by omega, by go_num, ?_, hb6, HGR.out.below (HB.out.trans (HB2.out.mono HB.out.size)) (Nat.le_trans HB.out.size HB2.out.size) (fun b hb => Nat.le_trans HSZ.out (hge b hb))⟩
     rw [HTS.out]; exact HN.out
    case measure => simp [intOf]; omega
  · have hil : i + 1 = EX.length := by rw [EX_len]; omega
    have HF := Lib.hid (show EX.take (i + 1) = EX from by rw [hil]; exact List.take_length)
    clear hil
    go_wp2_with fail
    go_ret
    refine ⟨_, rfl, ⟨?_, fun z hz => in64_num (EX_nums z hz)⟩, HB.out⟩
    have h := HO.out
    rw [HF.out] at h
    exact h.mono HSZ.out
theorem map_cell {w : World} {A : Option Addr} {c : Nat} {a : List Int} (h : Ints w (.slice A 38 c) a) (hm : ∀ z ∈ a, 0 <= z /\ z <= 10006) {k : Nat} (hk : k < 38) :
  ∃ ad, A = some ad /\ w.cell? (ad.add k) = some (.int .i64 (a.getD k 0)) /\ 0 <= a.getD k 0 /\ a.getD k 0 <= 10006 := by
 obtain ⟨A', c', he, -, -, h3⟩ := h.open_
 simp only [Value.slice.injEq] at he
 obtain ⟨rfl, hl, rfl⟩ := he
 obtain ⟨ad, z, rfl, hz, -, hc⟩ := h3 k (by omega)
 rw [ints_getD hz]
 have := hm z (List.mem_of_getElem? hz)
 exact ⟨ad, rfl, hc, this.1, this.2⟩
set_option maxHeartbeats 2000000 in
theorem i_valueOf (w : World) (va vp : Value) (a : List Int) (ps : List Nat) (h1 : Ints w va a) (l1 : a.length = 38) (hN : Nums a) (h2 : Ints w vp (up ps)) (hp : ∀ p ∈ ps, p < 38) :
  Calls Tryz.prog 103 #[va, vp] w fun e w' => e = .returned (.int .i64 (valZ a ps)) /\ w = w' := by
 obtain ⟨A, c, rfl, -, -, -⟩ := h1.open_
 rw [l1] at h1 ⊢
 have HA := Lib.hid h1
 have HN := Lib.hid hN
 have HP := Lib.hid hp
 obtain ⟨A2, c2, rfl, hc2, hc3, g2⟩ := h2.open_
 rw [up_len] at g2 hc2 ⊢
 have G2 := Lib.hid g2
 clear h1 h2 l1 hN hp g2
 go_enter Tryz.func103, Tryz.ntmps103
 go_wp2_with fail
 go_loop [5, 10] (fun x y => ∃ k : Nat, k <= ps.length /\ x = .int .i64 (valZ a (ps.take k)) /\ y = .int .i64 k) (fun _ y => ps.length - (intOf y).toNat)
 case atStart => exact ⟨0, Nat.zero_le _, rfl, rfl⟩
 case round =>
  obtain ⟨k, hk, rfl, rfl⟩ := hrel
  have hv := valZ_bd a (ps.take k)
  by_cases hlt : k < ps.length
  · obtain ⟨p, hpk⟩ : ∃ p, ps[k]? = some p := ⟨_, List.getElem?_eq_getElem hlt⟩
    have hp38 := HP.out p (List.mem_of_getElem? hpk)
    obtain ⟨a2, z, rfl, hz, -, hcz⟩ := G2.out k hlt
    have hze : z = (p : Int) := by
     unfold up at hz
     rw [List.getElem?_map, hpk] at hz
     injection hz with hz
     exact hz.symm
    subst hze
    obtain ⟨ad, rfl, hcx, hx0, hx1⟩ := map_cell HA.out HN.out hp38
    have HV := Lib.hid (show valZ a (ps.take (k + 1)) = valZ a (ps.take k) * a.getD p 0 % 10007 from by rw [List.take_add_one, hpk]; exact valZ_snoc a _ p)
    generalize a.getD p 0 = y at *
    generalize valZ a (ps.take k) = s at *
    obtain ⟨p1, p2⟩ := mul_bd 10006 10006 hv.1 hv.2 hx0 hx1
    have hkk : (k : Int) < (ps.length : Int) := by omega
    have hpp : (p : Int) < 38 := by omega
    clear hz hpk
    go_wp2_with (go_at_call 56; refine (i_num _ _ (by omega) (by omega)).mono ?_; rintro e w' ⟨rfl, rfl⟩)
    go_roundw
    case rel => exact ⟨k + 1, by omega, by rw [HV.out], by go_num⟩
    case measure => simp [intOf]; omega
  · have hkl : ps.take k = ps := List.take_of_length_le (by omega)
    rw [hkl]
    clear hkl
    go_wp2_with fail
    go_ret
    exact ⟨rfl, rfl⟩
theorem Mcs.at_ {w : World} {B : Nat} {css : List (List Value)} {xs : List MC} {i : Nat} {x : MC} (h : Mcs w B css xs) (hx : xs[i]? = some x) : ∃ c, css[i]? = some c /\ McD w B c x := by
 have hi := (List.getElem?_eq_some_iff.1 hx).1
 have hc : css[i]? = some (css[i]'(by rw [h.1]; exact hi)) := List.getElem?_eq_getElem _
 exact ⟨_, hc, h.2 i _ x hc hx⟩
theorem part_at {w : World} {B : Nat} {e : TypeId} {A2 : Option Addr} {c2 : Nat} {css : List (List Value)} {xs : List MC} {j : Nat} {x : MC} (h : OwnK w B e 3 (.slice A2 css.length c2) css) (hm : Mcs w B css xs) (hx : xs[j]? = some x) :
  ∃ go As cs, A2 = some ⟨go, 0, none⟩ /\ OwnInts w B tN (.slice As x.1.1.length cs) (up x.1.1) /\ w.cell? ⟨go, j * 3, none⟩ = some (.int .i64 (x.2 : Nat)) /\ w.cell? ⟨go, j * 3 + 1, none⟩ = some (.slice As x.1.1.length cs) /\ w.cell? ⟨go, j * 3 + 2, none⟩ = some (.int .i64 (x.1.2 : Nat)) := by
 obtain ⟨c, hc, s, rfl, hs⟩ := hm.at_ hx
 obtain ⟨As, cs, rfl, -, -, -⟩ := hs.ints.open_
 rw [up_len] at hs hc
 obtain ⟨go, cg, heo, hg0⟩ := h.cell (j := 0) hc rfl
 simp only [Value.slice.injEq] at heo
 obtain ⟨rfl, -, rfl⟩ := heo
 refine ⟨go, As, cs, rfl, hs, hg0, ?_, ?_⟩
 · obtain ⟨g', c', he', h'⟩ := h.cell (j := 1) hc rfl; simp only [Value.slice.injEq, Option.some.injEq, Addr.mk.injEq, and_true, true_and] at he'; rw [he'.1]; exact h'
 · obtain ⟨g', c', he', h'⟩ := h.cell (j := 2) hc rfl; simp only [Value.slice.injEq, Option.some.injEq, Addr.mk.injEq, and_true, true_and] at he'; rw [he'.1]; exact h'
end Go.Proofs.YtofabikjjkapmaaGreat
namespace Go.Proofs.YtofabikjjkapmaaGreat
abbrev Tb := Nat -> List MCt
def gv (T : Tb) (a b : Nat -> Int) (p : Nat) : Int := sumF (cvT a b) (T p)
end Go.Proofs.YtofabikjjkapmaaGreat
namespace Go.Proofs.YtofabikjjkapmaaGreat
abbrev Tm := List Nat × Nat
abbrev Pol := List Tm
def tmv (x : Nat -> Int) (t : Tm) : Int := (t.2 : Int) * pz x t.1
def pv (x : Nat -> Int) (P : Pol) : Int := sumF (tmv x) P
def insP (t : Tm) : Pol -> Pol
 | [] => [t]
 | u :: us => match cmpN t.1 u.1 with
  | 0 => (u.1, (u.2 + t.2) % 10007) :: us
  | 1 => t :: u :: us
  | _ => u :: insP t us
def addP : Pol -> Pol -> Pol
 | [], Q => Q
 | t :: P, Q => insP t (addP P Q)
def mulT (t : Tm) : Pol -> Pol -> Pol
 | [], R => R
 | u :: Q, R => insP (srtZ (t.1 ++ u.1), t.2 * u.2 % 10007) (mulT t Q R)
def mulP : Pol -> Pol -> Pol
 | [], _ => []
 | t :: P, Q => mulT t Q (mulP P Q)
def sclP (k : Nat) : Pol -> Pol
 | [] => []
 | t :: P => (t.1, t.2 * k % 10007) :: sclP k P
def dz : Pol -> Pol
 | [] => []
 | t :: P => bif Nat.beq (t.2 % 10007) 0 then dz P else t :: dz P
def eqPl : Pol -> Pol -> Bool
 | [], [] => true
 | t :: P, u :: Q => Nat.beq (cmpN t.1 u.1) 0 && (Nat.beq t.2 u.2 && eqPl P Q)
 | _, _ => false
theorem eqPl_iff : ∀ {P Q : Pol}, eqPl P Q = true -> P = Q
 | [], [], _ => rfl
 | [], _ :: _, h => by cases h
 | _ :: _, [], h => by cases h
 | (m, n) :: P, (m', n') :: Q, h => by
  unfold eqPl at h
  simp only [Bool.and_eq_true] at h
  rw [cmpN_zero (Nat.eq_of_beq_eq_true h.1), Nat.eq_of_beq_eq_true h.2.1, eqPl_iff h.2.2]
theorem modM (a b : Int) : (a % 10007 * b) % 10007 = a * b % 10007 := by rw [Int.mul_emod, Int.emod_emod_of_dvd _ (Int.dvd_refl _), <- Int.mul_emod]
theorem tmv_mod (x : Nat -> Int) (m : List Nat) (n : Nat) : tmv x (m, n % 10007) % 10007 = tmv x (m, n) % 10007 := by
 unfold tmv
 show ((n % 10007 : Nat) : Int) * pz x m % 10007 = (n : Int) * pz x m % 10007
 rw [Int.natCast_emod]
 exact modM _ _
theorem insP_pv (x : Nat -> Int) (t : Tm) : ∀ P : Pol, pv x (insP t P) % 10007 = (tmv x t + pv x P) % 10007
 | [] => rfl
 | u :: P => by
  have ih := insP_pv x t P
  unfold insP
  split
  · next h =>
    have h := cmpN_zero h
    show (tmv x (u.1, (u.2 + t.2) % 10007) + pv x P) % 10007 = (tmv x t + (tmv x u + pv x P)) % 10007
    have e := tmv_mod x u.1 (u.2 + t.2)
    have e2 : tmv x (u.1, u.2 + t.2) = tmv x u + tmv x t := by
     unfold tmv
     rw [h]
     show ((u.2 + t.2 : Nat) : Int) * pz x u.1 = _
     rw [Int.natCast_add, Int.add_mul]
    rw [e2] at e
    omega
  · rfl
  · show (tmv x u + pv x (insP t P)) % 10007 = (tmv x t + (tmv x u + pv x P)) % 10007
    omega
theorem addP_pv (x : Nat -> Int) (P Q : Pol) : pv x (addP P Q) % 10007 = (pv x P + pv x Q) % 10007 := by
 induction P with
 | nil => show _ = (0 + pv x Q) % 10007; rw [Int.zero_add]; rfl
 | cons t P ih =>
  show pv x (insP t (addP P Q)) % 10007 = (tmv x t + pv x P + pv x Q) % 10007
  rw [insP_pv]
  omega
theorem tmv_mul (x : Nat -> Int) (t u : Tm) : tmv x (srtZ (t.1 ++ u.1), t.2 * u.2) = tmv x t * tmv x u := by
 unfold tmv
 show ((t.2 * u.2 : Nat) : Int) * pz x (srtZ (t.1 ++ u.1)) = _
 rw [srtZ_pz, pz_append, Int.natCast_mul]
 simp only [Int.mul_assoc, Int.mul_left_comm, Int.mul_comm]
theorem mulT_pv (x : Nat -> Int) (t : Tm) (Q R : Pol) : pv x (mulT t Q R) % 10007 = (tmv x t * pv x Q + pv x R) % 10007 := by
 induction Q with
 | nil => show _ = (tmv x t * 0 + pv x R) % 10007; rw [Int.mul_zero, Int.zero_add]; rfl
 | cons u Q ih =>
  show pv x (insP (srtZ (t.1 ++ u.1), t.2 * u.2 % 10007) (mulT t Q R)) % 10007 = (tmv x t * (tmv x u + pv x Q) + pv x R) % 10007
  rw [insP_pv]
  have e := tmv_mod x (srtZ (t.1 ++ u.1)) (t.2 * u.2)
  rw [tmv_mul] at e
  rw [Int.mul_add]
  omega
theorem mulP_pv (x : Nat -> Int) (P Q : Pol) : pv x (mulP P Q) % 10007 = pv x P * pv x Q % 10007 := by
 induction P with
 | nil => show _ = 0 * pv x Q % 10007; rw [Int.zero_mul]; rfl
 | cons t P ih =>
  show pv x (mulT t Q (mulP P Q)) % 10007 = (tmv x t + pv x P) * pv x Q % 10007
  rw [mulT_pv, Int.add_mul]
  omega
theorem sclP_pv (x : Nat -> Int) (k : Nat) (P : Pol) : pv x (sclP k P) % 10007 = (k : Int) * pv x P % 10007 := by
 induction P with
 | nil => show _ = (k : Int) * 0 % 10007; rw [Int.mul_zero]; rfl
 | cons t P ih =>
  show (tmv x (t.1, t.2 * k % 10007) + pv x (sclP k P)) % 10007 = (k : Int) * (tmv x t + pv x P) % 10007
  have e := tmv_mod x t.1 (t.2 * k)
  have e2 : tmv x (t.1, t.2 * k) = (k : Int) * tmv x t := by
   unfold tmv
   show ((t.2 * k : Nat) : Int) * pz x t.1 = _
   rw [Int.natCast_mul]
   simp only [Int.mul_assoc, Int.mul_left_comm, Int.mul_comm]
  rw [e2] at e
  rw [Int.mul_add]
  omega
theorem dz_pv (x : Nat -> Int) (P : Pol) : pv x (dz P) % 10007 = pv x P % 10007 := by
 induction P with
 | nil => rfl
 | cons t P ih =>
  unfold dz
  show _ = (tmv x t + pv x P) % 10007
  cases hb : Nat.beq (t.2 % 10007) 0 with
  | true =>
   rw [cond_true]
   have h0 := Nat.eq_of_beq_eq_true hb
   have e := tmv_mod x t.1 t.2
   rw [h0] at e
   have e2 : tmv x (t.1, 0) = 0 := by unfold tmv; simp
   rw [e2] at e
   have e3 : tmv x (t.1, t.2) = tmv x t := rfl
   rw [e3] at e
   omega
  | false =>
   rw [cond_false]
   show (tmv x t + pv x (dz P)) % 10007 = _
   omega
theorem pv_eq {x : Nat -> Int} {P Q : Pol} (h : eqPl (dz P) (dz Q) = true) : pv x P % 10007 = pv x Q % 10007 := by
 rw [<- dz_pv x P, eqPl_iff h, dz_pv]
def subM (S : Nat -> Pol) : List Nat -> Pol
 | [] => [([], 1)]
 | k :: ks => mulP (S k) (subM S ks)
theorem subM_pv {x y : Nat -> Int} {S : Nat -> Pol} {ks : List Nat} (h : ∀ k ∈ ks, pv x (S k) % 10007 = y k % 10007) : pv x (subM S ks) % 10007 = pz y ks % 10007 := by
 induction ks with
 | nil => simp [subM, pv, sumF, tmv, pz_nil]
 | cons k ks ih =>
  have h1 := h k (by simp)
  have h2 := ih fun j hj => h j (by simp [hj])
  rw [subM, mulP_pv, pz_cons, Int.mul_emod, h1, h2, <- Int.mul_emod]
end Go.Proofs.YtofabikjjkapmaaGreat
