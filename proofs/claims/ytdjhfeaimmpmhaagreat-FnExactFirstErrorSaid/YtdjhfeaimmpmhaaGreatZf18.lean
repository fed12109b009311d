/- DROP Walks: the unit, the exact map of the program and of the reference. | DROP Walks: agreement of maps, of the program and of the reference; maps cut down. -/
import Derived.Test.YtdjhfeaimmpmhaaGreatZf17
set_option maxRecDepth 100000
set_option linter.unusedVariables false
set_option linter.unusedSimpArgs false
namespace Go.Proofs.YtdjhfeaimmpmhaaGreat
open Go.RowKit

/-- a list that is filled from the front, the rest 0 -/
def filT (l : List Int) (i : Nat) : List Int := l.take i ++ List.replicate (l.length - i) 0
theorem filT_len (l : List Int) {i : Nat} (h : i ≤ l.length) : (filT l i).length = l.length := by simp [filT]; omega
theorem filT_set {l : List Int} {i : Nat} {x : Int} (h : l[i]? = some x) : (filT l i).set i x = filT l (i + 1) := by
  obtain ⟨hi, hx⟩ := List.getElem?_eq_some_iff.1 h
  unfold filT
  rw [List.set_append_right _ _ (by simp; omega)]
  have e : i - (l.take i).length = 0 := by simp; omega
  rw [e, List.take_add_one, h]
  rw [show l.length - i = l.length - (i + 1) + 1 by omega, List.replicate_succ, List.set_cons_zero]
  simp
theorem filT_full (l : List Int) : filT l l.length = l := by simp [filT]
theorem filT_in {l : List Int} (h : ∀ z ∈ l, In64 z) (i : Nat) : ∀ z ∈ filT l i, In64 z := by
  intro z hz
  rcases List.mem_append.1 hz with hz | hz
  · exact h z (List.mem_of_mem_take hz)
  · have := List.eq_of_mem_replicate hz
    subst this
    unfold In64; omega
theorem ints_set (zs : List Int) (k : Nat) (z : Int) : (ints zs).set k (.int .i64 z) = ints (zs.set k z) := by simp [ints, List.map_set]
theorem ints_getD {zs : List Int} {k : Nat} {z : Int} (h : zs[k]? = some z) : zs.getD k 0 = z := by simp [List.getD, h]
theorem in64_num {z : Int} (h : 0 ≤ z ∧ z ≤ 10006) : In64 z := by unfold In64; omega

set_option maxHeartbeats 400000 in
theorem i_UnitMap (w : World) : Calls Tryz.prog 151 #[] w fun e w' => ∃ x, e = .returned x ∧ OwnInts w' w.heap.size tI x (filT EX 1) ∧ Below w.heap.size w w' := by
  have hset : (List.replicate 38 (Value.int .i64 0)).set 0 (.int .i64 1) = ints (filT EX 1) := rfl
  go_enter Tryz.func151, Tryz.ntmps151
  go_wp2_with (at_make; refine wpList_mk rfl _ _ _ rfl _ _ _ T_int 38 _ rfl rfl rfl (by omega) _ ?_; intro w1 hown hb hs; obtain ⟨u0, hu0, hcg, hfg, hg2, hg1, hown', hgr⟩ := hown.storeAt (k := 0) (by simp) (.int .i64 1); rw [hset] at hown'; have HO := Lib.hid hown'; have HB := Lib.hid hb; clear hown hown' hgr hu0 hg1 hb)
  go_ret
  exact ⟨_, rfl, ⟨HO.out, filT_in (fun z hz => in64_num (EX_nums z hz)) 1⟩, HB.out.setCell (Nat.le_refl _) _⟩

/-- what the walks of both need of a tree -/
theorem den_of {t : List Nat} (h : t ∈ T6n) : ∃ d : Nat, denO 9 t = some d ∧ 1 ≤ d ∧ d ≤ 720 ∧ pw (d : Int) 10005 = (exV t : Nat) ∧ t.length ≤ 1000 ∧ (∀ l ∈ t, l ≤ 1000000) := by
  obtain ⟨d, h1, h2, h3, -, -⟩ := T6n_den h
  obtain ⟨-, -, h5, h6⟩ := T6n_at h
  exact ⟨d, h1, h2, h3, exV_pw h1, by omega, fun l hl => by have := h6 l hl; omega⟩
/-- the row of a tree -/
theorem Rows.tree {w : World} {A : Option Addr} {c : Nat} (h : Rows w (.slice A 37 c) (T6n.map up)) {i : Nat} (hi : i < 37) :
    ∃ ad At ct t, A = some ad ∧ T6n[i]? = some t ∧ Ints w (.slice At t.length ct) (up t) ∧ w.cell? (ad.add i) = some (.slice At t.length ct) := by
  obtain ⟨A', c', he, -, -, h3⟩ := h.open_
  rw [List.length_map, T6n_len] at he h3
  simp only [Value.slice.injEq, true_and] at he
  obtain ⟨rfl, rfl⟩ := he
  obtain ⟨ad, u, zs, rfl, hz, hu, hc⟩ := h3 i hi
  have ht : T6n[i]? = some (T6n[i]'(by rw [T6n_len]; exact hi)) := List.getElem?_eq_getElem _
  rw [List.getElem?_map, ht] at hz
  injection hz with hz
  subst hz
  obtain ⟨Au, cu, rfl, -, -, -⟩ := hu.open_
  rw [up_len] at hu hc
  exact ⟨ad, Au, cu, _, rfl, ht, hu, hc⟩

set_option maxHeartbeats 4000000 in
theorem i_exactMap (w : World) (v : Value) (B : Option Addr) (m d : Nat) (ha : Rows w v (T6n.map up)) :
    Calls Tryz.prog 94 #[.agg #[v, .slice B m d]] w fun e w' => ∃ x, e = .returned x ∧ OwnInts w' w.heap.size tI x EX ∧ Below w.heap.size w w' := by
  obtain ⟨A, c, he, -, -, -⟩ := ha.open_
  rw [List.length_map, T6n_len] at he
  subst he
  have hbel : Below w.heap.size w (w.alloc (.cells #[.slice A 37 c, .slice B m d] 71)) := below1 w _
  have HRA := Lib.hid (ha.below hbel)
  have HBX := Lib.hid (Blk.new w #[.slice A 37 c, .slice B m d] 71)
  have HBE := Lib.hid hbel
  clear ha hbel
  go_enter Tryz.func94, Tryz.ntmps94
  go_wp2_with (go_at_call 151; go_loud (refine (i_UnitMap _).mono ?_; rintro e w1 ⟨x1, rfl, ho1, hb1⟩; obtain ⟨A1, c1, he1, -, -, -⟩ := ho1.ints.open_; rw [show (filT EX 1).length = 38 from rfl] at he1; subst he1; have HO1 := Lib.hid ho1; have HB1 := Lib.hid hb1; have hx0 : w1.cell? ⟨w.heap.size, 0, none⟩ = some (.slice A 37 c) := (HBX.out.below hb1 HBX.out.lt).cell 0; clear ho1 hb1))
  rcases HO1.out.1.cases with ⟨he1, -⟩ | ⟨g, cap, cur, he1, hg1, hg2, -⟩
  · simp at he1
  rw [ints_len, show (filT EX 1).length = 38 from rfl] at he1
  simp only [Value.slice.injEq, true_and] at he1
  obtain ⟨rfl, rfl⟩ := he1
  have HG1 := Lib.hid hg1
  clear hg1 hg2 hx0
  go_loopw [10] (fun x wr => ∃ i : Nat, i ≤ 37 ∧ x = .int .i64 i ∧ OwnInts wr (w.alloc (.cells #[.slice A 37 c, .slice B m d] 71)).heap.size tI (.slice (some ⟨g, 0, none⟩) 38 c1) (filT EX (i + 1)) ∧ Below (w.alloc (.cells #[.slice A 37 c, .slice B m d] 71)).heap.size (w.alloc (.cells #[.slice A 37 c, .slice B m d] 71)) wr) (fun x _ => 37 - (intOf x).toNat)
  case atStart => exact ⟨0, Nat.zero_le _, rfl, HO1.out, HB1.out⟩
  case round =>
    obtain ⟨i, hi, rfl, ho, hb⟩ := hrel
    have HO := Lib.hid ho
    have HB := Lib.hid hb
    clear ho hb
    by_cases hlt : i < 37
    · obtain ⟨ad, At, ct, t, rfl, ht, hti, hcr⟩ := (HRA.out.below HB.out).tree hlt
      obtain ⟨dn, hd1, hd2, hd3, hd4, hd5, hd6⟩ := den_of (List.mem_of_getElem? ht)
      have HDE := Lib.hid (i_density 9 wr _ t dn hti hd1 hd5 hd6)
      have hmod : (dn : Int) % 10007 = (dn : Int) := by omega
      have HNU := Lib.hid (fun W => show Calls Tryz.prog 60 #[.int .i64 (dn : Int)] W fun e w' => e = .returned (.int .i64 (dn : Int)) ∧ W = w' from by have h := i_num (dn : Int) W (by omega) (by omega); rwa [hmod] at h)
      have HIN := Lib.hid (fun W => show Calls Tryz.prog 79 #[.int .i64 (dn : Int)] W fun e w' => e = .returned (.int .i64 ((exV t : Nat) : Int)) ∧ W = w' from by have h := i_inv (dn : Int) W (by omega) (by omega); rwa [hd4] at h)
      have HSE := Lib.hid (filT_set (EX_succ ht))
      have hii : (i : Int) < 37 := by omega
      clear ht hti hd1 hd4 hd5 hd6 hmod
      go_wp2_with (first
        | (go_at_call 152; go_loud (refine HDE.out.mono ?_; rintro e w2 ⟨rfl, hb2⟩; have HB2 := Lib.hid hb2; obtain ⟨u0, -, hcg, hfg, -, -, hown', hgr⟩ := (HO.out.1.below hb2).storeAt (k := i + 1) (by rw [ints_len, filT_len _ (by rw [EX_len]; omega), EX_len]; omega) (.int .i64 ((exV t : Nat) : Int)); rw [ints_set, HSE.out] at hown'; have HO2 := Lib.hid hown'; clear hown' hgr hb2))
        | (go_at_call 60; refine (HNU.out _).mono ?_; rintro e w3 ⟨rfl, rfl⟩)
        | (go_at_call 79; refine (HIN.out _).mono ?_; rintro e w3 ⟨rfl, rfl⟩))
      go_roundw
      case rel =>
        have hge := HO.out.1.ge g rfl
        exact ⟨i + 1, by omega, by go_num, ⟨HO2.out, filT_in (fun z hz => in64_num (EX_nums z hz)) _⟩, (HB.out.trans (HB2.out.mono HB.out.size)).setCell hge _⟩
      case measure => simp [intOf]; omega
    · have hil : i + 1 = EX.length := by rw [EX_len]; omega
      have HF := Lib.hid (show filT EX (i + 1) = EX from by rw [hil]; exact filT_full EX)
      clear hil
      go_wp2_with fail
      go_ret
      refine ⟨_, rfl, ?_, HBE.out.trans (HB.out.mono HBE.out.size)⟩
      have h := HO.out
      rw [HF.out] at h
      exact h.mono HBE.out.size

set_option maxHeartbeats 1000000 in
theorem s_l01Frac (w : World) (p q : Int) (h0 : 0 ≤ p) (h1 : p ≤ 1000000) (g0 : 0 ≤ q) (g1 : q ≤ 1000000) :
    Calls Tryz.prog 149 #[.int .i64 p, .int .i64 q] w fun e w' => e = .returned (.int .i64 ((p % 10007) * pw (q % 10007) 10005 % 10007)) ∧ w = w' := by
  have hp := pw_bd (q % 10007) 10005
  have hq : 0 ≤ q % 10007 ∧ q % 10007 ≤ 10006 := by omega
  have hq2 : 0 ≤ p % 10007 ∧ p % 10007 ≤ 10006 := by omega
  go_enter Tryz.func149, Tryz.ntmps149
  go_wp2_with (first
    | (go_at_call 191; (with_reducible refine (s_l01Inv _ _ (by omega) (by omega)).mono ?_); rintro e w2 ⟨rfl, rfl⟩)
    | (go_at_call 131; (with_reducible refine (s_l01Mul _ _ _ (by omega) (by omega) (by omega) (by omega)).mono ?_); rintro e w2 ⟨rfl, rfl⟩)
    | (go_at_call 123; (with_reducible refine (s_l01Mod _ _ (by omega) (by omega)).mono ?_); rintro e w2 ⟨rfl, rfl⟩))
  go_ret
  exact ⟨rfl, rfl⟩

set_option maxHeartbeats 4000000 in
theorem s_l07Exact (w : World) :
    Calls Tryz.prog 91 #[] w fun e w' => ∃ x, e = .returned x ∧ OwnInts w' w.heap.size tI x EX ∧ Below w.heap.size w w' := by
  go_enter Tryz.func91, Tryz.ntmps91
  go_wp2_with (go_at_call 70; go_loud (refine (s_l03All _ 6 (by omega)).mono ?_; rintro e w1 ⟨x1, rfl, hx1, hb1⟩; rw [show allG treesN 6 = T6n from rfl] at hx1; obtain ⟨A1, c1, he1, -, -, -⟩ := hx1.rows.open_; rw [List.length_map, T6n_len] at he1; subst he1; have HX1 := Lib.hid hx1; have HB1 := Lib.hid hb1; clear hx1 hb1))
  have OL := Lib.hid (show Own (w1.alloc (.cells #[.int .i64 1] tI)) w1.heap.size tI (.slice (some ⟨w1.heap.size, 0, none⟩) 1 1) (ints (EX.take 1)) from own_lit w1 tI [.int .i64 1] (by simp [maxLen]))
  have HBB := Lib.hid (HB1.out.trans ((below1 w1 (.cells #[.int .i64 1] tI)).mono HB1.out.size))
  have HBZ := Lib.hid (below1 w1 (.cells #[.int .i64 1] tI))
  have HSZ := Lib.hid HB1.out.size
  clear HB1
  go_loopw [2, 3] (fun o x wr => ∃ i : Nat, i ≤ 37 ∧ x = .int .i64 i ∧ Own wr w1.heap.size tI o (ints (EX.take (i + 1))) ∧ Below w1.heap.size w1 wr ∧ Below w.heap.size w wr) (fun _ x _ => 37 - (intOf x).toNat)
  case atStart => exact ⟨0, Nat.zero_le _, rfl, OL.out, HBZ.out, HBB.out⟩
  case round =>
    obtain ⟨i, hi, rfl, ho, hb1, hb⟩ := hrel
    clear OL HBZ HBB
    have hrw := HX1.out.rows.below hb1
    have hol := ho.cells.open_
    have hel : (EX.take (i + 1)).length = i + 1 := by rw [List.length_take, EX_len]; omega
    rw [ints_len, hel] at hol
    obtain ⟨Ao, co, rfl, -, -⟩ := hol
    have HEL := Lib.hid hel
    have HO := Lib.hid ho
    have HB := Lib.hid hb
    have HB1 := Lib.hid hb1
    clear ho hb hb1 hel
    by_cases hlt : i < 37
    · obtain ⟨ad, At, ct, t, rfl, ht, hti, hcr⟩ := hrw.tree hlt
      obtain ⟨dn, hd1, hd2, hd3, hd4, hd5, hd6⟩ := den_of (List.mem_of_getElem? ht)
      have HDE := Lib.hid (s_l03Density 9 wr _ t dn hti hd1 hd5 hd6)
      have HFR := Lib.hid (fun W => show Calls Tryz.prog 149 #[.int .i64 1, .int .i64 (dn : Int)] W fun e w' => e = .returned (.int .i64 ((exV t : Nat) : Int)) ∧ W = w' from by
        have h := s_l01Frac W 1 (dn : Int) (by omega) (by omega) (by omega) (by omega)
        have hmod : (dn : Int) % 10007 = (dn : Int) := by omega
        have hz := exV_le t
        rw [hmod, hd4, show (1 : Int) % 10007 = 1 from rfl, show ((1 : Int) * ((exV t : Nat) : Int)) % 10007 = ((exV t : Nat) : Int) by omega] at h
        exact h)
      have HTS := Lib.hid (show ints (EX.take (i + 1 + 1)) = ints (EX.take (i + 1)) ++ [.int .i64 ((exV t : Nat) : Int)] from by rw [List.take_add_one, EX_succ ht, ints, ints, List.map_append]; rfl)
      have hii : (i : Int) < 37 := by omega
      clear ht hti hd1 hd4 hd5 hd6 hrw
      go_wp2_with (first
        | (go_at_call 150; go_loud (refine HDE.out.mono ?_; rintro e w2 ⟨rfl, hb2⟩; have HB2 := Lib.hid hb2; have HOX := Lib.hid (HO.out.below hb2); clear hb2))
        | (go_at_call 149; refine (HFR.out _).mono ?_; rintro e w3 ⟨rfl, rfl⟩)
        | (at_builtin; go_loud (refine wpList_app1 T_int HOX.out (by rw [ints_len, HEL.out]; omega) (Nat.le_trans HB1.out.size HB2.out.size) (by rfl) rfl (by rfl) (by rfl) (by rfl) ?_; intro v1 w6 hown1 hgr1; have HN := Lib.hid hown1; have HGR := Lib.hid hgr1; clear hown1 hgr1)))
      go_roundw
      case rel =>
        have hb6 : Below w1.heap.size w1 w6 := HGR.out.below (HB1.out.trans (HB2.out.mono HB1.out.size)) (Nat.le_trans HB1.out.size HB2.out.size) HO.out.ge
        have hge := HO.out.ge
        refine ⟨i + 1, by omega, by go_num, ?_, hb6, HGR.out.below (HB.out.trans (HB2.out.mono HB.out.size)) (Nat.le_trans HB.out.size HB2.out.size) (fun b hb => Nat.le_trans HSZ.out (hge b hb))⟩
        rw [HTS.out]; exact HN.out
      case measure => simp [intOf]; omega
    · have hil : i + 1 = EX.length := by rw [EX_len]; omega
      have HF := Lib.hid (show EX.take (i + 1) = EX from by rw [hil]; exact List.take_length)
      clear hil
      go_wp2_with fail
      go_ret
      refine ⟨_, rfl, ⟨?_, fun z hz => in64_num (EX_nums z hz)⟩, HB.out⟩
      have h := HO.out
      rw [HF.out] at h
      exact h.mono HSZ.out
end Go.Proofs.YtdjhfeaimmpmhaaGreat

set_option maxRecDepth 100000
set_option linter.unusedVariables false
set_option linter.unusedSimpArgs false
namespace Go.Proofs.YtdjhfeaimmpmhaaGreat
open Go.RowKit

theorem neq_false {x y : Int} (h : x = y) : (x != y) = false := by simp [h]
theorem neq_true {x y : Int} (h : ¬ x = y) : (x != y) = true := by simp [h]

set_option maxHeartbeats 4000000 in
theorem i_agreeTo (w : World) (v va vb : Value) (B : Option Addr) (m d : Nat) (a b : List Int) (ha : Rows w v (T6n.map up)) (h1 : Ints w va a) (h2 : Ints w vb b) (l1 : a.length = 38) (l2 : b.length = 38) :
    Calls Tryz.prog 95 #[.agg #[v, .slice B m d], va, vb] w fun e w' => e = .returned (.int .i64 (agZ a b)) ∧ Below w.heap.size w w' := by
  obtain ⟨A, c, he, -, -, -⟩ := ha.open_
  rw [List.length_map, T6n_len] at he
  subst he
  have hbel : Below w.heap.size w (w.alloc (.cells #[.slice A 37 c, .slice B m d] 71)) := below1 w _
  have HRA := Lib.hid (ha.below hbel)
  obtain ⟨A1, c1, rfl, -, -, g1⟩ := (h1.below hbel).open_
  obtain ⟨A2, c2, rfl, -, -, g2⟩ := (h2.below hbel).open_
  rw [l1] at g1 ⊢
  rw [l2] at g2 ⊢
  have G1 := Lib.hid g1
  have G2 := Lib.hid g2
  have HBX := Lib.hid (Blk.new w #[.slice A 37 c, .slice B m d] 71)
  have HBE := Lib.hid hbel
  clear ha hbel h1 h2 l1 l2 g1 g2
  go_enter Tryz.func95, Tryz.ntmps95
  go_wp2_with fail
  generalize hwq : (w.alloc (.cells #[.slice A 37 c, .slice B m d] 71)) = wq at HRA G1 G2 HBX HBE ⊢
  clear hwq
  go_loopw [10] (fun x wr => ∃ k n : Nat, k ≤ 38 ∧ x = .int .i64 k ∧ Hid (∀ i, i < k → a.getD i 0 = b.getD i 0) ∧ wr = wq.drewN n) (fun x _ => 38 - (intOf x).toNat)
  case atStart => exact ⟨0, 0, Nat.zero_le _, rfl, fun i hi => by omega, rfl⟩
  case round =>
    obtain ⟨k, n, hk, rfl, hI, rfl⟩ := hrel
    by_cases hlt : k < 38
    · obtain ⟨a1, x, rfl, hx, -, hcx⟩ := G1.out k hlt
      obtain ⟨a2, y, rfl, hy, -, hcy⟩ := G2.out k hlt
      have hgx := ints_getD hx
      have hgy := ints_getD hy
      have hkk : (k : Int) < 38 := by omega
      by_cases hxy : x = y
      · have hne := neq_false hxy
        have HI2 := Lib.hid (show ∀ i, i < k + 1 → a.getD i 0 = b.getD i 0 from fun i hi => by
          by_cases e : i = k
          · subst e; rw [hgx, hgy]; exact hxy
          · exact hI i (by omega))
        clear hI hx hy hgx hgy hxy
        go_upto_region 4 with fail
        go_quiet (fail)
        go_wp2_with fail
        go_roundw
        case rel => exact ⟨k + 1, _, by omega, by go_num, HI2.out, by first | rfl | exact World.drewN_drewN ..⟩
        case measure => simp [intOf]; omega
      · have hne := neq_true hxy
        have HZ := Lib.hid (agZ_hit hI hlt (by rw [hgx, hgy]; exact hxy))
        have hs := szN_le k
        clear hI hx hy hgx hgy hxy
        go_upto_region 4 with fail
        go_quiet (fail)
        have hf0 : wq.cell? ⟨w.heap.size, 0, none⟩ = some (.slice A 37 c) := HBX.out.cell 0
        have hf1 : wq.cell? ⟨w.heap.size, 1, none⟩ = some (.slice B m d) := HBX.out.cell 1
        go_wp2_with (go_at_call 143; go_loud (refine (im_fnodes _ _ B m d k (HRA.out.below (below_drewN (Below.refl _ _) _)) (by omega)).mono ?_; rintro e w2 ⟨rfl, hw2⟩; have HB2 := Lib.hid (show Below w.heap.size w w2 from by rw [hw2]; exact (below_drewN HBE.out _).trans ((below1 _ _).mono (by have := HBE.out.size; simpa using this))); clear hw2))
        go_ret
        exact ⟨ret_i64 HZ.out.symm, HB2.out⟩
    · have HZ := Lib.hid (agZ_miss (a := a) (b := b) (fun i hi => hI i (by omega)))
      clear hI
      go_wp2_with fail
      go_ret
      exact ⟨ret_i64 HZ.out.symm, below_drewN HBE.out _⟩

set_option maxHeartbeats 4000000 in
theorem s_l07Agree (w : World) (va vb : Value) (a b : List Int) (h1 : Ints w va a) (h2 : Ints w vb b) (l1 : a.length = 38) (l2 : b.length = 38) :
    Calls Tryz.prog 92 #[va, vb] w fun e w' => e = .returned (.int .i64 (agZ a b)) ∧ Below w.heap.size w w' := by
  have HA := Lib.hid h1
  have HB := Lib.hid h2
  obtain ⟨A1, c1, rfl, -, -, g1⟩ := h1.open_
  obtain ⟨A2, c2, rfl, -, -, g2⟩ := h2.open_
  rw [l1] at g1 HA ⊢
  rw [l2] at g2 HB ⊢
  obtain ⟨a1, x, rfl, hx, -, hcx⟩ := g1 0 (by omega)
  obtain ⟨a2, y, rfl, hy, -, hcy⟩ := g2 0 (by omega)
  have hcx0 : w.cell? a1 = some (.int .i64 x) := by simpa [Addr.add] using hcx
  have hcy0 : w.cell? a2 = some (.int .i64 y) := by simpa [Addr.add] using hcy
  have hgx := ints_getD hx
  have hgy := ints_getD hy
  have G1 := Lib.hid g1
  have G2 := Lib.hid g2
  clear h1 h2 l1 l2 g1 g2 hcx hcy hx hy
  by_cases hxy : x = y
  · have hne := neq_false hxy
    have HI0 := Lib.hid (show ∀ i, i < 0 + 1 → a.getD i 0 = b.getD i 0 from fun i hi => by
      have : i = 0 := by omega
      subst this; rw [hgx, hgy]; exact hxy)
    clear hgx hgy hxy
    go_enter Tryz.func92, Tryz.ntmps92
    go_upto_region 1 with fail
    go_quiet (fail)
    generalize hwq : w.drewN nq = wq
    have HBE := Lib.hid (show Below w.heap.size w wq from by rw [← hwq]; exact below_drewN (Below.refl _ _) _)
    clear hwq
    go_wp2_with (go_at_call 70; go_loud (refine (s_l03All _ 6 (by omega)).mono ?_; rintro e w1 ⟨x1, rfl, hx1, hb1⟩; rw [show allG treesN 6 = T6n from rfl] at hx1; obtain ⟨A3, c3, he1, -, -, -⟩ := hx1.rows.open_; rw [List.length_map, T6n_len] at he1; subst he1; have HX1 := Lib.hid hx1.rows; have HB1 := Lib.hid (HBE.out.trans (hb1.mono HBE.out.size)); clear hx1 hb1))
    go_loopw [6] (fun x wr => ∃ k n : Nat, k ≤ 37 ∧ x = .int .i64 k ∧ Hid (∀ i, i < k + 1 → a.getD i 0 = b.getD i 0) ∧ wr = w1.drewN n) (fun x _ => 37 - (intOf x).toNat)
    case atStart => exact ⟨0, 0, Nat.zero_le _, rfl, HI0.out, rfl⟩
    case round =>
      obtain ⟨k, n, hk, rfl, hI, rfl⟩ := hrel
      by_cases hlt : k < 37
      · obtain ⟨a1', x, he1, hx, -, hcx⟩ := G1.out (k + 1) (by omega)
        injection he1 with he1
        subst he1
        obtain ⟨a2', y, he2, hy, -, hcy⟩ := G2.out (k + 1) (by omega)
        injection he2 with he2
        subst he2
        have hcx1 := keepCellG HB1.out hcx
        have hcy1 := keepCellG HB1.out hcy
        have hgx := ints_getD hx
        have hgy := ints_getD hy
        have hkk : (k : Int) < 37 := by omega
        obtain ⟨k1, hk1⟩ : ∃ k1 : Nat, k1 = k + 1 := ⟨_, rfl⟩
        have hkk2 : (k1 : Int) < 38 := by omega
        have hkk3 : k1 < 38 := by omega
        have hkw : IntKind.i64.wrap ((k : Int) + 1) = (k1 : Int) := by rw [hk1]; exact IntWalk.i64_in _ (by omega)
        rw [← hk1] at hcx1 hcy1
        have HK1 := Lib.hid hk1
        clear hk1
        by_cases hxy : x = y
        · have hne := neq_false hxy
          have HI2 := Lib.hid (show ∀ i, i < k + 1 + 1 → a.getD i 0 = b.getD i 0 from fun i hi => by
            by_cases e : i = k + 1
            · subst e; rw [hgx, hgy]; exact hxy
            · exact hI i (by omega))
          clear hI hx hy hgx hgy hxy hcx hcy
          go_upto_region 7 with fail
          go_quiet (fail)
          go_wp2_with fail
          go_roundw
          case rel => exact ⟨k1, _, by omega, by first | rfl | go_num, by rw [HK1.out]; exact HI2.out, by first | rfl | exact World.drewN_drewN ..⟩
          case measure => have := HK1.out; simp [intOf]; omega
        · have hne := neq_true hxy
          obtain ⟨ad, At, ct, t, rfl, ht, hti, hcr⟩ := HX1.out.tree hlt
          have HZ := Lib.hid (show agZ a b = (t.length : Int) - 1 from by rw [agZ_hit hI (by omega) (by rw [hgx, hgy]; exact hxy), szN_succ ht])
          have hs := (T6n_at (List.mem_of_getElem? ht)).2.2.1
          clear hI hx hy hgx hgy hxy hcx hcy ht hti
          go_upto_region 7 with fail
          go_quiet (fail)
          go_wp2_with fail
          go_ret
          exact ⟨ret_i64 HZ.out.symm, below_drewN HB1.out _⟩
      · have HZ := Lib.hid (agZ_miss (a := a) (b := b) (fun i hi => hI i (by omega)))
        clear hI
        go_wp2_with fail
        go_ret
        exact ⟨ret_i64 HZ.out.symm, below_drewN HB1.out _⟩
  · have hne := neq_true hxy
    have HZ := Lib.hid (show agZ a b = -1 from by rw [agZ_hit (k := 0) (fun i hi => by omega) (by omega) (by rw [hgx, hgy]; exact hxy)]; rfl)
    clear hgx hgy hxy
    go_enter Tryz.func92, Tryz.ntmps92
    go_upto_region 1 with fail
    go_quiet (fail)
    go_wp2_with fail
    go_ret
    exact ⟨ret_i64 HZ.out.symm, below_drewN (Below.refl _ _) _⟩

set_option maxHeartbeats 4000000 in
theorem i_keep (w : World) (v va : Value) (B : Option Addr) (m d g : Nat) (c0 : Value) (p : Nat → Bool) (a : List Int) (ha : Rows w v (T6n.map up)) (h1 : Ints w va a) (l1 : a.length = 38)
    (hcf : ∀ (args : Array Value) (w : World), Sem.run Tryz.prog (callFunc g args) w = .ok (.enter g args) w)
    (hp : ∀ (W : World) (n : Nat), Below w.heap.size w W → Calls Tryz.prog g #[.int .i64 n, c0] W fun e w' => e = .returned (.bool (p n)) ∧ W = w') :
    Calls Tryz.prog 96 #[.agg #[v, .slice B m d], va, .func (.func g) #[] #[c0]] w fun e w' => ∃ x, e = .returned x ∧ OwnInts w' w.heap.size tI x (kpZ p a) ∧ Below w.heap.size w w' := by
  obtain ⟨A, c, he, -, -, -⟩ := ha.open_
  rw [List.length_map, T6n_len] at he
  subst he
  have hbel : Below w.heap.size w (w.alloc (.cells #[.slice A 37 c, .slice B m d] 71)) := below1 w _
  have HRA := Lib.hid (ha.below hbel)
  have HIA := Lib.hid (h1.below hbel)
  obtain ⟨A1, c1, rfl, -, -, -⟩ := h1.open_
  rw [l1] at HIA ⊢
  have HLA := Lib.hid l1
  have HP := Lib.hid hp
  have HBX := Lib.hid (Blk.new w #[.slice A 37 c, .slice B m d] 71)
  have HBE := Lib.hid hbel
  clear ha hbel h1 l1 hp
  go_enter Tryz.func96, Tryz.ntmps96
  go_wp2_with (at_make; refine wpList_mk rfl _ _ _ rfl _ _ _ T_int 38 _ rfl rfl rfl (by omega) _ ?_; intro w1 hown hb hs1; rw [size_alloc'] at hown hb; have HOWN := Lib.hid hown; have HB1 := Lib.hid hb; clear hown hb)
  have HO0 := Lib.hid (show OwnInts w1 (w.heap.size + 1) tI (.slice (some ⟨(w.heap.size + 1), 0, none⟩) 38 38) (kpT p a 0) from by
    rw [kpT_zero]
    exact ⟨by simpa [ints] using HOWN.out, fun z hz => by have := List.eq_of_mem_replicate hz; subst this; unfold In64; omega⟩)
  clear HOWN hs1
  go_loopw [15] (fun x wr => ∃ i : Nat, i ≤ 38 ∧ x = .int .i64 i ∧ OwnInts wr (w.heap.size + 1) tI (.slice (some ⟨(w.heap.size + 1), 0, none⟩) 38 38) (kpT p a i) ∧ Below (w.heap.size + 1) (w.alloc (.cells #[.slice A 37 c, .slice B m d] 71)) wr) (fun x _ => 38 - (intOf x).toNat)
  case atStart => exact ⟨0, Nat.zero_le _, rfl, HO0.out, HB1.out⟩
  case round =>
    obtain ⟨i, hi, rfl, ho, hb⟩ := hrel
    have HO := Lib.hid ho
    have HB := Lib.hid hb
    clear ho hb
    by_cases hlt : i < 38
    · have hbq : Below (w.alloc (.cells #[.slice A 37 c, .slice B m d] 71)).heap.size (w.alloc (.cells #[.slice A 37 c, .slice B m d] 71)) wr := by rw [size_alloc']; exact HB.out
      obtain ⟨A1', c1', he, -, -, g1⟩ := (HIA.out.below hbq).open_
      rw [HLA.out] at he g1
      simp only [Value.slice.injEq, true_and] at he
      obtain ⟨rfl, rfl⟩ := he
      obtain ⟨a1, x, rfl, hx, hx64, hcx⟩ := g1 i hlt
      have hgx := ints_getD hx
      have hii : (i : Int) < 38 := by omega
      have HRW := Lib.hid (HRA.out.below hbq)
      have hbk := HBX.out.below HB.out (Nat.lt_succ_self _)
      have hf0 : wr.cell? ⟨w.heap.size, 0, none⟩ = some (.slice A 37 c) := hbk.cell 0
      have hf1 : wr.cell? ⟨w.heap.size, 1, none⟩ = some (.slice B m d) := hbk.cell 1
      have HX := Lib.hid hx64
      have HKS := Lib.hid (fun h : p (szN i) = true => show (kpT p a i).set i x = kpT p a (i + 1) from by rw [← hgx]; exact (kpT_take h).symm)
      have HKN := Lib.hid (fun h : p (szN i) = false => show kpT p a (i + 1) = kpT p a i from kpT_skip h)
      clear g1 hx hgx hx64 hbk hbq
      go_wp2_with (go_at_call 143; go_loud (refine (im_fnodes _ _ B m d i HRW.out (by omega)).mono ?_; rintro e w2 ⟨rfl, hw2⟩; have hb2 : Below wr.heap.size wr w2 := (by rw [hw2]; exact below1 _ _); have HB2 := Lib.hid hb2; clear hw2))
      have HPP := Lib.hid (HP.out w2 (szN i) ((HBE.out.trans (HB.out.mono (Nat.le_succ _))).trans (HB2.out.mono (by have h2 := HB.out.size; rw [size_alloc'] at h2; omega))))
      obtain ⟨u0, -, hcg, hfg, -, -, hown', hgr⟩ := (HO.out.1.below HB2.out).storeAt (k := i) (by rw [ints_len, kpT_len]; exact hlt) (.int .i64 x)
      rw [ints_set] at hown'
      have HST := Lib.hid hown'
      have hge := HO.out.1.ge (w.heap.size + 1) rfl
      clear hown' hgr
      cases hpi : p (szN i) with
      | true =>
        rw [hpi] at HPP
        have HKK := Lib.hid (HKS.out hpi)
        clear hpi
        refine HPP.out.mono ?_
        rintro e w3 ⟨rfl, rfl⟩
        go_wp2_with fail
        go_roundw
        case rel =>
          refine ⟨i + 1, by omega, by go_num, ⟨?_, ?_⟩, (HB.out.trans (HB2.out.mono (by have h2 := HB.out.size; simpa using h2))).setCell hge _⟩
          · rw [← HKK.out]; exact HST.out
          · intro z hz
            rw [← HKK.out] at hz
            rcases List.mem_or_eq_of_mem_set hz with hz | hz
            · exact HO.out.2 z hz
            · rw [hz]; exact HX.out
        case measure => simp [intOf]; omega
      | false =>
        rw [hpi] at HPP
        have HKK := Lib.hid (HKN.out hpi)
        clear hpi
        refine HPP.out.mono ?_
        rintro e w3 ⟨rfl, rfl⟩
        go_wp2_with fail
        go_roundw
        case rel =>
          refine ⟨i + 1, by omega, by go_num, ?_, HB.out.trans (HB2.out.mono (by have h2 := HB.out.size; simpa using h2))⟩
          rw [HKK.out]; exact HO.out.below HB2.out
        case measure => simp [intOf]; omega
    · have hil : i = 38 := by omega
      have HF := Lib.hid (show kpT p a i = kpZ p a from by rw [hil]; exact kpT_full p a)
      clear hil
      go_wp2_with fail
      go_ret
      refine ⟨_, rfl, ?_, HBE.out.trans (HB.out.mono (Nat.le_succ _))⟩
      have h := HO.out
      rw [HF.out] at h
      exact h.mono (Nat.le_succ _)
end Go.Proofs.YtdjhfeaimmpmhaaGreat

