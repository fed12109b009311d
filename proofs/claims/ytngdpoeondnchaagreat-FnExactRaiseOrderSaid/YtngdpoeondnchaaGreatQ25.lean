/- DROP Walks: the unit, the exact map of the program and of the reference. | Plain: the inverse of a character as the program reckons it (a list that grows) and as the reference does (stores into a unit); they are equal. Scaled maps. No walk. | Plain: repeated convolutions with scaled maps. No walk. | Walks: the checks of maps, of the program and of the reference. | Walks: the codes of two characters, of the program and of the reference. (printed by codegen2.py) -/
import Derived.Test.YtngdpoeondnchaaGreatQ24
import Derived.Test.YtngdpoeondnchaaGreatQ22
import Derived.Test.YtngdpoeondnchaaGreatQ4
import Derived.Test.YtngdpoeondnchaaGreatQ2
import Derived.Test.YtngdpoeondnchaaGreatQ12
set_option maxRecDepth 100000
set_option linter.unusedVariables false
set_option linter.unusedSimpArgs false
namespace Go.Proofs.YtngdpoeondnchaaGreat
open Go.RowKit

/-- a list that is filled from the front, the rest 0 -/
def filT (l : List Int) (i : Nat) : List Int := l.take i ++ List.replicate (l.length - i) 0
theorem filT_len (l : List Int) {i : Nat} (h : i ≤ l.length) : (filT l i).length = l.length := by simp [filT]; omega
theorem filT_set {l : List Int} {i : Nat} {x : Int} (h : l[i]? = some x) : (filT l i).set i x = filT l (i + 1) := by
  obtain ⟨hi, hx⟩ := List.getElem?_eq_some_iff.1 h
  unfold filT
  rw [List.set_append_right _ _ (by simp; omega)]
  have e : i - (l.take i).length = 0 := by simp; omega
  rw [e, List.take_add_one, h]
  rw [show l.length - i = l.length - (i + 1) + 1 by omega, List.replicate_succ, List.set_cons_zero]
  simp
theorem filT_full (l : List Int) : filT l l.length = l := by simp [filT]
theorem filT_in {l : List Int} (h : ∀ z ∈ l, In64 z) (i : Nat) : ∀ z ∈ filT l i, In64 z := by
  intro z hz
  rcases List.mem_append.1 hz with hz | hz
  · exact h z (List.mem_of_mem_take hz)
  · have := List.eq_of_mem_replicate hz
    subst this
    unfold In64; omega
theorem ints_set (zs : List Int) (k : Nat) (z : Int) : (ints zs).set k (.int .i64 z) = ints (zs.set k z) := by simp [ints, List.map_set]
theorem ints_getD {zs : List Int} {k : Nat} {z : Int} (h : zs[k]? = some z) : zs.getD k 0 = z := by simp [List.getD, h]
theorem in64_num {z : Int} (h : 0 ≤ z ∧ z ≤ 10006) : In64 z := by unfold In64; omega

set_option maxHeartbeats 400000 in
theorem i_UnitMap (w : World) : Calls Tryz.prog 125 #[] w fun e w' => ∃ x, e = .returned x ∧ OwnInts w' w.heap.size tI x (filT EX 1) ∧ Below w.heap.size w w' := by
  have hset : (List.replicate 38 (Value.int .i64 0)).set 0 (.int .i64 1) = ints (filT EX 1) := rfl
  go_enter Tryz.func125, Tryz.ntmps125
  go_wp2_with (at_make; refine wpList_mk rfl _ _ _ rfl _ _ _ T_int 38 _ rfl rfl rfl (by omega) _ ?_; intro w1 hown hb hs; obtain ⟨u0, hu0, hcg, hfg, hg2, hg1, hown', hgr⟩ := hown.storeAt (k := 0) (by simp) (.int .i64 1); rw [hset] at hown'; have HO := Lib.hid hown'; have HB := Lib.hid hb; clear hown hown' hgr hu0 hg1 hb)
  go_ret
  exact ⟨_, rfl, ⟨HO.out, filT_in (fun z hz => in64_num (EX_nums z hz)) 1⟩, HB.out.setCell (Nat.le_refl _) _⟩

/-- what the walks of both need of a tree -/
theorem den_of {t : List Nat} (h : t ∈ T6n) : ∃ d : Nat, denO 9 t = some d ∧ 1 ≤ d ∧ d ≤ 720 ∧ pw (d : Int) 10005 = (exV t : Nat) ∧ t.length ≤ 1000 ∧ (∀ l ∈ t, l ≤ 1000000) := by
  obtain ⟨d, h1, h2, h3, -, -⟩ := T6n_den h
  obtain ⟨-, -, h5, h6⟩ := T6n_at h
  exact ⟨d, h1, h2, h3, exV_pw h1, by omega, fun l hl => by have := h6 l hl; omega⟩
/-- the row of a tree -/
theorem Rows.tree {w : World} {A : Option Addr} {c : Nat} (h : Rows w (.slice A 37 c) (T6n.map up)) {i : Nat} (hi : i < 37) :
    ∃ ad At ct t, A = some ad ∧ T6n[i]? = some t ∧ Ints w (.slice At t.length ct) (up t) ∧ w.cell? (ad.add i) = some (.slice At t.length ct) := by
  obtain ⟨A', c', he, -, -, h3⟩ := h.open_
  rw [List.length_map, T6n_len] at he h3
  simp only [Value.slice.injEq, true_and] at he
  obtain ⟨rfl, rfl⟩ := he
  obtain ⟨ad, u, zs, rfl, hz, hu, hc⟩ := h3 i hi
  have ht : T6n[i]? = some (T6n[i]'(by rw [T6n_len]; exact hi)) := List.getElem?_eq_getElem _
  rw [List.getElem?_map, ht] at hz
  injection hz with hz
  subst hz
  obtain ⟨Au, cu, rfl, -, -, -⟩ := hu.open_
  rw [up_len] at hu hc
  exact ⟨ad, Au, cu, _, rfl, ht, hu, hc⟩

set_option maxHeartbeats 4000000 in
theorem i_exactMap (w : World) (v : Value) (B : Option Addr) (m d : Nat) (ha : Rows w v (T6n.map up)) :
    Calls Tryz.prog 99 #[.agg #[v, .slice B m d]] w fun e w' => ∃ x, e = .returned x ∧ OwnInts w' w.heap.size tI x EX ∧ Below w.heap.size w w' := by
  obtain ⟨A, c, he, -, -, -⟩ := ha.open_
  rw [List.length_map, T6n_len] at he
  subst he
  have hbel : Below w.heap.size w (w.alloc (.cells #[.slice A 37 c, .slice B m d] 57)) := below1 w _
  have HRA := Lib.hid (ha.below hbel)
  have HBX := Lib.hid (Blk.new w #[.slice A 37 c, .slice B m d] 57)
  have HBE := Lib.hid hbel
  clear ha hbel
  go_enter Tryz.func99, Tryz.ntmps99
  go_wp2_with (go_at_call 125; go_loud (refine (i_UnitMap _).mono ?_; rintro e w1 ⟨x1, rfl, ho1, hb1⟩; obtain ⟨A1, c1, he1, -, -, -⟩ := ho1.ints.open_; rw [show (filT EX 1).length = 38 from rfl] at he1; subst he1; have HO1 := Lib.hid ho1; have HB1 := Lib.hid hb1; have hx0 : w1.cell? ⟨w.heap.size, 0, none⟩ = some (.slice A 37 c) := (HBX.out.below hb1 HBX.out.lt).cell 0; clear ho1 hb1))
  rcases HO1.out.1.cases with ⟨he1, -⟩ | ⟨g, cap, cur, he1, hg1, hg2, -⟩
  · simp at he1
  rw [ints_len, show (filT EX 1).length = 38 from rfl] at he1
  simp only [Value.slice.injEq, true_and] at he1
  obtain ⟨rfl, rfl⟩ := he1
  have HG1 := Lib.hid hg1
  clear hg1 hg2 hx0
  go_loopw [10] (fun x wr => ∃ i : Nat, i ≤ 37 ∧ x = .int .i64 i ∧ OwnInts wr (w.alloc (.cells #[.slice A 37 c, .slice B m d] 57)).heap.size tI (.slice (some ⟨g, 0, none⟩) 38 c1) (filT EX (i + 1)) ∧ Below (w.alloc (.cells #[.slice A 37 c, .slice B m d] 57)).heap.size (w.alloc (.cells #[.slice A 37 c, .slice B m d] 57)) wr) (fun x _ => 37 - (intOf x).toNat)
  case atStart => exact ⟨0, Nat.zero_le _, rfl, HO1.out, HB1.out⟩
  case round =>
    obtain ⟨i, hi, rfl, ho, hb⟩ := hrel
    have HO := Lib.hid ho
    have HB := Lib.hid hb
    clear ho hb
    by_cases hlt : i < 37
    · obtain ⟨ad, At, ct, t, rfl, ht, hti, hcr⟩ := (HRA.out.below HB.out).tree hlt
      obtain ⟨dn, hd1, hd2, hd3, hd4, hd5, hd6⟩ := den_of (List.mem_of_getElem? ht)
      have HDE := Lib.hid (i_density 9 wr _ t dn hti hd1 hd5 hd6)
      have hmod : (dn : Int) % 10007 = (dn : Int) := by omega
      have HNU := Lib.hid (fun W => show Calls Tryz.prog 103 #[.int .i64 (dn : Int)] W fun e w' => e = .returned (.int .i64 (dn : Int)) ∧ W = w' from by have h := i_num (dn : Int) W (by omega) (by omega); rwa [hmod] at h)
      have HIN := Lib.hid (fun W => show Calls Tryz.prog 81 #[.int .i64 (dn : Int)] W fun e w' => e = .returned (.int .i64 ((exV t : Nat) : Int)) ∧ W = w' from by have h := i_inv (dn : Int) W (by omega) (by omega); rwa [hd4] at h)
      have HSE := Lib.hid (filT_set (EX_succ ht))
      have hii : (i : Int) < 37 := by omega
      clear ht hti hd1 hd4 hd5 hd6 hmod
      go_wp2_with (first
        | (go_at_call 134; go_loud (refine HDE.out.mono ?_; rintro e w2 ⟨rfl, hb2⟩; have HB2 := Lib.hid hb2; obtain ⟨u0, -, hcg, hfg, -, -, hown', hgr⟩ := (HO.out.1.below hb2).storeAt (k := i + 1) (by rw [ints_len, filT_len _ (by rw [EX_len]; omega), EX_len]; omega) (.int .i64 ((exV t : Nat) : Int)); rw [ints_set, HSE.out] at hown'; have HO2 := Lib.hid hown'; clear hown' hgr hb2))
        | (go_at_call 103; refine (HNU.out _).mono ?_; rintro e w3 ⟨rfl, rfl⟩)
        | (go_at_call 81; refine (HIN.out _).mono ?_; rintro e w3 ⟨rfl, rfl⟩))
      go_roundw
      case rel =>
        have hge := HO.out.1.ge g rfl
        exact ⟨i + 1, by omega, by go_num, ⟨HO2.out, filT_in (fun z hz => in64_num (EX_nums z hz)) _⟩, (HB.out.trans (HB2.out.mono HB.out.size)).setCell hge _⟩
      case measure => simp [intOf]; omega
    · have hil : i + 1 = EX.length := by rw [EX_len]; omega
      have HF := Lib.hid (show filT EX (i + 1) = EX from by rw [hil]; exact filT_full EX)
      clear hil
      go_wp2_with fail
      go_ret
      refine ⟨_, rfl, ?_, HBE.out.trans (HB.out.mono HBE.out.size)⟩
      have h := HO.out
      rw [HF.out] at h
      exact h.mono HBE.out.size

set_option maxHeartbeats 1000000 in
theorem s_l01Frac (w : World) (p q : Int) (h0 : 0 ≤ p) (h1 : p ≤ 1000000) (g0 : 0 ≤ q) (g1 : q ≤ 1000000) :
    Calls Tryz.prog 79 #[.int .i64 p, .int .i64 q] w fun e w' => e = .returned (.int .i64 ((p % 10007) * pw (q % 10007) 10005 % 10007)) ∧ w = w' := by
  have hp := pw_bd (q % 10007) 10005
  have hq : 0 ≤ q % 10007 ∧ q % 10007 ≤ 10006 := by omega
  have hq2 : 0 ≤ p % 10007 ∧ p % 10007 ≤ 10006 := by omega
  go_enter Tryz.func79, Tryz.ntmps79
  go_wp2_with (first
    | (go_at_call 98; (with_reducible refine (s_l01Inv _ _ (by omega) (by omega)).mono ?_); rintro e w2 ⟨rfl, rfl⟩)
    | (go_at_call 96; (with_reducible refine (s_l01Mul _ _ _ (by omega) (by omega) (by omega) (by omega)).mono ?_); rintro e w2 ⟨rfl, rfl⟩)
    | (go_at_call 117; (with_reducible refine (s_l01Mod _ _ (by omega) (by omega)).mono ?_); rintro e w2 ⟨rfl, rfl⟩))
  go_ret
  exact ⟨rfl, rfl⟩

set_option maxHeartbeats 4000000 in
theorem s_l07Exact (w : World) :
    Calls Tryz.prog 94 #[] w fun e w' => ∃ x, e = .returned x ∧ OwnInts w' w.heap.size tI x EX ∧ Below w.heap.size w w' := by
  go_enter Tryz.func94, Tryz.ntmps94
  go_wp2_with (go_at_call 115; go_loud (refine (s_l03All _ 6 (by omega)).mono ?_; rintro e w1 ⟨x1, rfl, hx1, hb1⟩; rw [show allG treesN 6 = T6n from rfl] at hx1; obtain ⟨A1, c1, he1, -, -, -⟩ := hx1.rows.open_; rw [List.length_map, T6n_len] at he1; subst he1; have HX1 := Lib.hid hx1; have HB1 := Lib.hid hb1; clear hx1 hb1))
  have OL := Lib.hid (show Own (w1.alloc (.cells #[.int .i64 1] tI)) w1.heap.size tI (.slice (some ⟨w1.heap.size, 0, none⟩) 1 1) (ints (EX.take 1)) from own_lit w1 tI [.int .i64 1] (by simp [maxLen]))
  have HBB := Lib.hid (HB1.out.trans ((below1 w1 (.cells #[.int .i64 1] tI)).mono HB1.out.size))
  have HBZ := Lib.hid (below1 w1 (.cells #[.int .i64 1] tI))
  have HSZ := Lib.hid HB1.out.size
  clear HB1
  go_loopw [2, 3] (fun o x wr => ∃ i : Nat, i ≤ 37 ∧ x = .int .i64 i ∧ Own wr w1.heap.size tI o (ints (EX.take (i + 1))) ∧ Below w1.heap.size w1 wr ∧ Below w.heap.size w wr) (fun _ x _ => 37 - (intOf x).toNat)
  case atStart => exact ⟨0, Nat.zero_le _, rfl, OL.out, HBZ.out, HBB.out⟩
  case round =>
    obtain ⟨i, hi, rfl, ho, hb1, hb⟩ := hrel
    clear OL HBZ HBB
    have hrw := HX1.out.rows.below hb1
    have hol := ho.cells.open_
    have hel : (EX.take (i + 1)).length = i + 1 := by rw [List.length_take, EX_len]; omega
    rw [ints_len, hel] at hol
    obtain ⟨Ao, co, rfl, -, -⟩ := hol
    have HEL := Lib.hid hel
    have HO := Lib.hid ho
    have HB := Lib.hid hb
    have HB1 := Lib.hid hb1
    clear ho hb hb1 hel
    by_cases hlt : i < 37
    · obtain ⟨ad, At, ct, t, rfl, ht, hti, hcr⟩ := hrw.tree hlt
      obtain ⟨dn, hd1, hd2, hd3, hd4, hd5, hd6⟩ := den_of (List.mem_of_getElem? ht)
      have HDE := Lib.hid (s_l03Density 9 wr _ t dn hti hd1 hd5 hd6)
      have HFR := Lib.hid (fun W => show Calls Tryz.prog 79 #[.int .i64 1, .int .i64 (dn : Int)] W fun e w' => e = .returned (.int .i64 ((exV t : Nat) : Int)) ∧ W = w' from by
        have h := s_l01Frac W 1 (dn : Int) (by omega) (by omega) (by omega) (by omega)
        have hmod : (dn : Int) % 10007 = (dn : Int) := by omega
        have hz := exV_le t
        rw [hmod, hd4, show (1 : Int) % 10007 = 1 from rfl, show ((1 : Int) * ((exV t : Nat) : Int)) % 10007 = ((exV t : Nat) : Int) by omega] at h
        exact h)
      have HTS := Lib.hid (show ints (EX.take (i + 1 + 1)) = ints (EX.take (i + 1)) ++ [.int .i64 ((exV t : Nat) : Int)] from by rw [List.take_add_one, EX_succ ht, ints, ints, List.map_append]; rfl)
      have hii : (i : Int) < 37 := by omega
      clear ht hti hd1 hd4 hd5 hd6 hrw
      go_wp2_with (first
        | (go_at_call 133; go_loud (refine HDE.out.mono ?_; rintro e w2 ⟨rfl, hb2⟩; have HB2 := Lib.hid hb2; have HOX := Lib.hid (HO.out.below hb2); clear hb2))
        | (go_at_call 79; refine (HFR.out _).mono ?_; rintro e w3 ⟨rfl, rfl⟩)
        | (at_builtin; go_loud (refine wpList_app1 T_int HOX.out (by rw [ints_len, HEL.out]; omega) (Nat.le_trans HB1.out.size HB2.out.size) (by rfl) rfl (by rfl) (by rfl) (by rfl) ?_; intro v1 w6 hown1 hgr1; have HN := Lib.hid hown1; have HGR := Lib.hid hgr1; clear hown1 hgr1)))
      go_roundw
      case rel =>
        have hb6 : Below w1.heap.size w1 w6 := HGR.out.below (HB1.out.trans (HB2.out.mono HB1.out.size)) (Nat.le_trans HB1.out.size HB2.out.size) HO.out.ge
        have hge := HO.out.ge
        refine ⟨i + 1, by omega, by go_num, ?_, hb6, HGR.out.below (HB.out.trans (HB2.out.mono HB.out.size)) (Nat.le_trans HB.out.size HB2.out.size) (fun b hb => Nat.le_trans HSZ.out (hge b hb))⟩
        rw [HTS.out]; exact HN.out
      case measure => simp [intOf]; omega
    · have hil : i + 1 = EX.length := by rw [EX_len]; omega
      have HF := Lib.hid (show EX.take (i + 1) = EX from by rw [hil]; exact List.take_length)
      clear hil
      go_wp2_with fail
      go_ret
      refine ⟨_, rfl, ⟨?_, fun z hz => in64_num (EX_nums z hz)⟩, HB.out⟩
      have h := HO.out
      rw [HF.out] at h
      exact h.mono HSZ.out
end Go.Proofs.YtngdpoeondnchaaGreat

set_option maxRecDepth 100000
set_option linter.unusedVariables false
set_option linter.unusedSimpArgs false
namespace Go.Proofs.YtngdpoeondnchaaGreat
open Go.RowKit

/-! ### what the kernel finds of the places in cuts -/
def okTp (p : Nat) (x : MCt) : Bool := (bif Nat.blt 0 x.1.2 then x.1.1.all (fun k => Nat.blt k p || Nat.beq p 0) else true) && (match x.1.1 with | [] => true | _ :: _ => Nat.blt x.1.2 p)
theorem tp3 : (List.range 38).all (fun p => (CP p).all (okTp p)) = true := by decide +kernel
theorem tp_at {p : Nat} (hp : p < 38) (h0 : 0 < p) {x : MCt} (hx : x ∈ CP p) : (0 < x.1.2 → ∀ k ∈ x.1.1, k < p) ∧ (x.1.1 ≠ [] → x.1.2 < p) := by
  have h1 := tp3
  rw [List.all_eq_true] at h1
  have h2 := h1 p (by simpa using hp)
  rw [List.all_eq_true] at h2
  have h3 := h2 x hx
  unfold okTp at h3
  rw [Bool.and_eq_true] at h3
  refine ⟨fun h k hk => ?_, fun h => ?_⟩
  · have e : Nat.blt 0 x.1.2 = true := Nat.ble_eq_true_of_le h
    have h4 := h3.1
    rw [e, cond_true, List.all_eq_true] at h4
    have h5 := h4 k hk
    rw [Bool.or_eq_true] at h5
    rcases h5 with h5 | h5
    · exact blt_lt h5
    · have := Nat.eq_of_beq_eq_true h5; omega
  · cases he : x.1.1 with
    | nil => exact absurd he h
    | cons a l =>
      have h4 := h3.2
      rw [he] at h4
      exact blt_lt h4

/-! ### the program's inverse -/
def tpI (b a : List Int) (x : MC) : Int := bif Nat.blt 0 x.1.2 then tcI b a x else 0
theorem tpI_bd (b a : List Int) (x : MC) : 0 ≤ tpI b a x ∧ tpI b a x ≤ 10006 := by
  unfold tpI
  cases Nat.blt 0 x.1.2 with
  | true => exact tcI_bd b a x
  | false => simp
def invL (a : List Int) : Nat → List Int
  | 0 => [1]
  | n + 1 => invL a n ++ [(-(sumF (tpI (invL a n) a) (CTab.getD n []))) % 10007]
theorem invL_len (a : List Int) (n : Nat) : (invL a n).length = n + 1 := by
  induction n with
  | zero => rfl
  | succ n ih => simp only [invL, List.length_append, List.length_singleton, ih]
theorem invL_nums (a : List Int) (n : Nat) : Nums (invL a n) := by
  induction n with
  | zero => intro z hz; simp only [invL, List.mem_singleton] at hz; omega
  | succ n ih =>
    intro z hz
    simp only [invL] at hz
    rcases List.mem_append.1 hz with h | h
    · exact ih z h
    · have := List.mem_singleton.1 h
      omega
theorem invL_get (a : List Int) {n m k : Nat} (hk : k ≤ n) (hm : n ≤ m) : (invL a m).getD k 0 = (invL a n).getD k 0 := by
  obtain ⟨d, rfl⟩ := Nat.exists_eq_add_of_le hm
  clear hm
  induction d with
  | zero => rfl
  | succ d ih =>
    rw [← ih]
    show (invL a (n + d + 1)).getD k 0 = _
    rw [invL, List.getD_eq_getElem?_getD, List.getElem?_append_left (by rw [invL_len]; omega), ← List.getD_eq_getElem?_getD]
theorem invL_new (a : List Int) {n m : Nat} (hm : n + 1 ≤ m) : (invL a m).getD (n + 1) 0 = (-(sumF (tpI (invL a n) a) (CTab.getD n []))) % 10007 := by
  rw [invL_get a (Nat.le_refl _) hm, invL, List.getD_eq_getElem?_getD, List.getElem?_append_right (by rw [invL_len]; omega), invL_len, Nat.sub_self]
  rfl
theorem cvT_zero (x y : Nat → Int) : cv x y 0 = y 0 := by
  show sumF (cvT x y) [(([], 0), 1)] = _
  simp [sumF, cvT, pz_nil]
theorem inv_left {a : List Int} (h0 : a.getD 0 0 = 1) : ∀ p, p < 38 → cv (gz (invL a 37)) (gz a) p % 10007 = un p % 10007 := by
  intro p hp
  cases p with
  | zero => rw [cvT_zero]; show a.getD 0 0 % 10007 = _; rw [h0]; rfl
  | succ n =>
    rw [cv_pos _ _ (by omega) hp]
    have e1 : gz a 0 = 1 := h0
    have e2 : gz (invL a 37) (n + 1) = (-(sumF (tpI (invL a n) a) (CTab.getD n []))) % 10007 := invL_new a (by omega)
    have e3 : sumF (posT (gz (invL a 37)) (gz a)) (CP (n + 1)) % 10007 = sumF (tpI (invL a n) a) (CTab.getD n []) % 10007 := by
      refine sumF_modc fun x hx => ?_
      unfold posT tpI
      cases hb : Nat.blt 0 x.1.2 with
      | false => rfl
      | true =>
        rw [cond_true, cond_true, tcI_is, Int.emod_emod_of_dvd _ (Int.dvd_refl _)]
        refine cvT_mod (fun k hk => ?_) rfl
        have := (tp_at hp (by omega) hx).1 (blt_lt hb) k hk
        show (invL a 37).getD k 0 % 10007 = (invL a n).getD k 0 % 10007
        rw [invL_get a (show k ≤ n by omega) (by omega)]
    have e4 : un (n + 1) = 0 := if_neg (by omega)
    rw [e1, e2, e4, Int.mul_one]
    omega

/-! ### the reference's inverse -/
def unM : List Int := filT EX 1
theorem unM_is : unM = 1 :: List.replicate 37 0 := rfl
def refL (a : List Int) : Nat → List Int
  | 0 => unM
  | n + 1 => (refL a n).set (n + 1) ((0 - (cvZ a (refL a n)).getD (n + 1) 0) % 10007)
theorem refL_len (a : List Int) (n : Nat) : (refL a n).length = 38 := by
  induction n with
  | zero => rfl
  | succ n ih => rw [refL, List.length_set, ih]
theorem refL_nums (a : List Int) (n : Nat) : Nums (refL a n) := by
  induction n with
  | zero =>
    intro z hz
    change z ∈ unM at hz
    rw [unM_is] at hz
    rcases List.mem_cons.1 hz with rfl | hz
    · omega
    · have := List.eq_of_mem_replicate hz
      omega
  | succ n ih =>
    intro z hz
    rw [refL] at hz
    rcases List.mem_or_eq_of_mem_set hz with h | h
    · exact ih z h
    · omega
theorem refL_same (a : List Int) {n k : Nat} (h : k ≠ n + 1) : (refL a (n + 1)).getD k 0 = (refL a n).getD k 0 := by
  rw [refL, List.getD_eq_getElem?_getD, List.getElem?_set_ne (by omega), ← List.getD_eq_getElem?_getD]
theorem refL_get (a : List Int) {n m k : Nat} (hk : k ≤ n) (hm : n ≤ m) : (refL a m).getD k 0 = (refL a n).getD k 0 := by
  obtain ⟨d, rfl⟩ := Nat.exists_eq_add_of_le hm
  clear hm
  induction d with
  | zero => rfl
  | succ d ih =>
    rw [← ih]
    exact refL_same a (show k ≠ n + d + 1 by omega)
theorem refL_zero (a : List Int) {n k : Nat} (hk : n < k) : (refL a n).getD k 0 = 0 := by
  induction n with
  | zero =>
    show unM.getD k 0 = 0
    rw [unM_is]
    obtain ⟨j, rfl⟩ : ∃ j, k = j + 1 := ⟨k - 1, by omega⟩
    rw [List.getD_cons_succ, List.getD_eq_getElem?_getD, List.getElem?_replicate]
    split <;> rfl
  | succ n ih => rw [refL_same a (by omega)]; exact ih (by omega)
theorem refL_head (a : List Int) (n : Nat) : (refL a n).getD 0 0 = 1 := refL_get a (Nat.le_refl 0) (Nat.zero_le n)
theorem refL_new (a : List Int) {n m : Nat} (h : n < 37) (hm : n + 1 ≤ m) : (refL a m).getD (n + 1) 0 = (0 - (cvZ a (refL a n)).getD (n + 1) 0) % 10007 := by
  rw [refL_get a (Nat.le_refl _) hm, refL, List.getD_eq_getElem?_getD, List.getElem?_set_self (by rw [refL_len]; omega)]
  rfl
theorem inv_right (a : List Int) : ∀ p, p < 38 → cv (gz a) (gz (refL a 37)) p % 10007 = un p % 10007 := by
  intro p hp
  cases p with
  | zero => rw [cvT_zero]; show (refL a 37).getD 0 0 % 10007 = _; rw [refL_head]; rfl
  | succ n =>
    rw [cv_rest _ _ hp]
    have e1 : (cvZ a (refL a n)).getD (n + 1) 0 = sumF (tcI a (refL a n)) (CTab.getD n []) % 10007 := by
      rw [List.getD_eq_getElem?_getD, cvZ_get a _ (by omega)]; rfl
    have e2 : gz (refL a 37) (n + 1) = (0 - (cvZ a (refL a n)).getD (n + 1) 0) % 10007 := refL_new a (by omega) (by omega)
    have e3 : sumF (tcI a (refL a n)) (CTab.getD n []) % 10007 = cv (gz a) (gz (refL a n)) (n + 1) % 10007 := by
      show _ = sumF (cvT (gz a) (gz (refL a n))) (CTab.getD n []) % 10007
      refine sumF_modc fun x hx => ?_
      rw [tcI_is, Int.emod_emod_of_dvd _ (Int.dvd_refl _)]
    have e4 : gz (refL a n) (n + 1) = 0 := refL_zero a (by omega)
    rw [cv_rest _ _ hp, e4] at e3
    have e5 : sumF (posE (gz a) (gz (refL a 37))) (CP (n + 1)) % 10007 = sumF (posE (gz a) (gz (refL a n))) (CP (n + 1)) % 10007 := by
      refine sumF_modc fun x hx => ?_
      unfold posE
      cases hcr : x.1.1 with
      | nil => rfl
      | cons u us =>
        refine cvT_mod (fun k _ => rfl) ?_
        have := (tp_at hp (by omega) hx).2 (by rw [hcr]; simp)
        show (refL a 37).getD x.1.2 0 % 10007 = (refL a n).getD x.1.2 0 % 10007
        rw [refL_get a (show x.1.2 ≤ n by omega) (by omega)]
    have e6 : un (n + 1) = 0 := if_neg (by omega)
    rw [e2, e1, e6]
    omega
theorem nums_getD {zs : List Int} (h : Nums zs) (k : Nat) : 0 ≤ zs.getD k 0 ∧ zs.getD k 0 ≤ 10006 := by
  rw [List.getD_eq_getElem?_getD]
  cases hk : zs[k]? with
  | none => simp
  | some z => exact h z (List.mem_of_getElem? hk)
/-- both inverses are one -/
theorem inv_eq {a : List Int} (h0 : a.getD 0 0 = 1) : invL a 37 = refL a 37 := by
  have h := inv_both (a := gz a) (x := gz (invL a 37)) (y := gz (refL a 37)) h0 (by show (invL a 37).getD 0 0 = 1; rw [invL_get a (Nat.le_refl 0) (by omega)]; rfl) (inv_left h0) (inv_right a)
  refine List.ext_getElem? fun k => ?_
  by_cases hk : k < 38
  · have h1 := h k hk
    have b1 := nums_getD (invL_nums a 37) k
    have b2 := nums_getD (refL_nums a 37) k
    have h2 : (invL a 37).getD k 0 = (refL a 37).getD k 0 := by
      have h3 : (invL a 37).getD k 0 % 10007 = (refL a 37).getD k 0 % 10007 := h1
      omega
    rw [List.getD_eq_getElem?_getD, List.getD_eq_getElem?_getD] at h2
    have hk1 : k < (invL a 37).length := by rw [invL_len]; exact hk
    have hk2 : k < (refL a 37).length := by rw [refL_len]; exact hk
    rw [List.getElem?_eq_getElem hk1, List.getElem?_eq_getElem hk2] at h2 ⊢
    simpa using h2
  · rw [List.getElem?_eq_none (by rw [invL_len]; omega), List.getElem?_eq_none (by rw [refL_len]; omega)]

/-! ### scaled maps -/
def scZ (a : List Int) (k : Int) : List Int := (List.range 38).map fun j => a.getD j 0 * pw k (szN j) % 10007
theorem scZ_len (a : List Int) (k : Int) : (scZ a k).length = 38 := by simp [scZ]
theorem scZ_nums (a : List Int) (k : Int) : Nums (scZ a k) := by
  intro z hz
  obtain ⟨j, -, rfl⟩ := List.mem_map.1 hz
  omega
theorem scZ_get (a : List Int) (k : Int) {i : Nat} (h : i < 38) : (scZ a k)[i]? = some (a.getD i 0 * pw k (szN i) % 10007) := by
  unfold scZ
  simp [h]
theorem scZ_head {a : List Int} (h : Nums a) (k : Int) : (scZ a k).getD 0 0 = a.getD 0 0 := by
  have := nums_getD h 0
  have hp : pw k (szN 0) = 1 := by rw [szN_zero]; simp [pw]
  rw [List.getD_eq_getElem?_getD, scZ_get a k (by omega), hp, Int.mul_one]
  show a.getD 0 0 % 10007 = _
  omega
end Go.Proofs.YtngdpoeondnchaaGreat

set_option maxRecDepth 100000
set_option linter.unusedVariables false
set_option linter.unusedSimpArgs false
namespace Go.Proofs.YtngdpoeondnchaaGreat
open Go.RowKit

theorem unM_nums : Nums unM := refL_nums [] 0
/-- the part, convolved k times -/
def itC (p : List Int) : Nat → List Int
  | 0 => unM
  | n + 1 => cvZ (itC p n) p
theorem itC_len (p : List Int) (n : Nat) : (itC p n).length = 38 := by
  cases n with
  | zero => rfl
  | succ n => exact cvZ_len _ _
theorem itC_nums {p : List Int} (h : Nums p) (n : Nat) : Nums (itC p n) := by
  cases n with
  | zero => exact unM_nums
  | succ n => exact cvZ_nums h
theorem itC_head {p : List Int} (h : p.getD 0 0 = 1) (n : Nat) : (itC p n).getD 0 0 = 1 := by
  cases n with
  | zero => rfl
  | succ n => exact h
/-- the map, scaled by each step and convolved -/
def cmS (a steps : List Int) : Nat → List Int
  | 0 => unM
  | n + 1 => cvZ (cmS a steps n) (scZ a (steps.getD n 0))
theorem cmS_len (a steps : List Int) (n : Nat) : (cmS a steps n).length = 38 := by
  cases n with
  | zero => rfl
  | succ n => exact cvZ_len _ _
theorem cmS_nums (a steps : List Int) (n : Nat) : Nums (cmS a steps n) := by
  cases n with
  | zero => exact unM_nums
  | succ n => exact cvZ_nums (scZ_nums _ _)
theorem cmS_head {a : List Int} (hN : Nums a) (h : a.getD 0 0 = 1) (steps : List Int) (n : Nat) : (cmS a steps n).getD 0 0 = 1 := by
  cases n with
  | zero => rfl
  | succ n => show (scZ a (steps.getD n 0)).getD 0 0 = 1; rw [scZ_head hN, h]
end Go.Proofs.YtngdpoeondnchaaGreat

set_option maxRecDepth 100000
set_option linter.unusedVariables false
set_option linter.unusedSimpArgs false
namespace Go.Proofs.YtngdpoeondnchaaGreat
open Go.RowKit

def mapB (zs : List Int) : Bool := decide (zs.length = 38) && nums zs
def chrC (zs : List Int) : Int := if mapB zs then (if zs.getD 0 0 = 1 then 0 else 5) else 1
theorem mapB_true {zs : List Int} (h : mapB zs = true) : zs.length = 38 ∧ ∀ z ∈ zs, 0 ≤ z ∧ z ≤ 10006 := by
  unfold mapB at h
  rw [Bool.and_eq_true, nums_iff] at h
  exact ⟨by simpa using h.1, h.2⟩

set_option maxHeartbeats 400000 in
theorem i_IsMap (w : World) (v : Value) (zs : List Int) (ha : Ints w v zs) : Calls Tryz.prog 76 #[v] w fun e w' => e = .returned (.bool (mapB zs)) ∧ w = w' := by
  have HA := Lib.hid ha
  obtain ⟨A, c, rfl, -, -, -⟩ := ha.open_
  clear ha
  by_cases h : zs.length = 38
  · have HF := Lib.hid (show mapB zs = nums zs by simp [mapB, h])
    have hd : ((zs.length : Int) == 38) = true := by simp [h]
    clear h
    go_enter Tryz.func76, Tryz.ntmps76
    go_wp2_with (go_at_call 123; refine (i_areNumbers _ _ _ HA.out).mono ?_; rintro e w' ⟨rfl, rfl⟩)
    go_ret
    exact ⟨ret_bool HF.out.symm, rfl⟩
  · have HF := Lib.hid (show mapB zs = false by simp [mapB, h])
    have hd : ((zs.length : Int) == 38) = false := by simp; omega
    clear h
    go_enter Tryz.func76, Tryz.ntmps76
    go_wp2_with (go_at_call 123; refine (i_areNumbers _ _ _ HA.out).mono ?_; rintro e w' ⟨rfl, rfl⟩)
    go_ret
    exact ⟨ret_bool HF.out.symm, rfl⟩

set_option maxHeartbeats 400000 in
theorem s_l07Is (w : World) (v : Value) (zs : List Int) (ha : Ints w v zs) : Calls Tryz.prog 73 #[v] w fun e w' => e = .returned (.bool (mapB zs)) ∧ w = w' := by
  have HA := Lib.hid ha
  obtain ⟨A, c, rfl, -, -, -⟩ := ha.open_
  clear ha
  by_cases h : zs.length = 38
  · have HF := Lib.hid (show mapB zs = nums zs by simp [mapB, h])
    have hd : ((zs.length : Int) == 38) = true := by simp [h]
    clear h
    go_enter Tryz.func73, Tryz.ntmps73
    go_wp2_with (go_at_call 122; refine (s_l01Numbers _ _ _ HA.out).mono ?_; rintro e w' ⟨rfl, rfl⟩)
    go_ret
    exact ⟨ret_bool HF.out.symm, rfl⟩
  · have HF := Lib.hid (show mapB zs = false by simp [mapB, h])
    have hd : ((zs.length : Int) == 38) = false := by simp; omega
    clear h
    go_enter Tryz.func73, Tryz.ntmps73
    go_wp2_with (go_at_call 122; refine (s_l01Numbers _ _ _ HA.out).mono ?_; rintro e w' ⟨rfl, rfl⟩)
    go_ret
    exact ⟨ret_bool HF.out.symm, rfl⟩

/-- the head of a map -/
theorem map_head {w : World} {A : Option Addr} {c : Nat} {zs : List Int} (h : Ints w (.slice A zs.length c) zs) (hm : mapB zs = true) : ∃ ad, A = some ad ∧ w.cell? ad = some (.int .i64 (zs.getD 0 0)) := by
  obtain ⟨A', c', he, -, -, h3⟩ := h.open_
  injection he with h1 h2 h4
  subst h1
  obtain ⟨ad, z, rfl, hz, -, hc⟩ := h3 0 (by have := (mapB_true hm).1; omega)
  refine ⟨ad, rfl, ?_⟩
  rw [List.getD_eq_getElem?_getD, hz]
  simpa [Addr.add] using hc

set_option maxHeartbeats 800000 in
theorem i_checkCharacter (w : World) (v : Value) (zs : List Int) (ha : Ints w v zs) : Calls Tryz.prog 70 #[v] w fun e w' => e = .returned (.int .i64 (chrC zs)) ∧ w = w' := by
  have HM := Lib.hid (i_IsMap w v zs ha)
  obtain ⟨A, c, rfl, -, -, -⟩ := ha.open_
  cases hm : mapB zs with
  | false =>
    rw [hm] at HM
    rw [show chrC zs = 1 by simp [chrC, hm]]
    clear hm ha
    go_enter Tryz.func70, Tryz.ntmps70
    go_wp2_with (go_at_call 76; refine HM.out.mono ?_; rintro e w' ⟨rfl, rfl⟩)
    go_ret
    exact ⟨rfl, rfl⟩
  | true =>
    obtain ⟨ad, rfl, hc⟩ := map_head ha hm
    have hl := (mapB_true hm).1
    rw [hm] at HM
    have hpos : 0 < zs.length := by omega
    have hpi : (0 : Int) < (zs.length : Int) := by omega
    have HC := Lib.hid (show chrC zs = if zs.getD 0 0 = 1 then 0 else 5 by simp [chrC, hm])
    rw [HC.out]
    clear hm ha hl
    generalize zs.getD 0 0 = z at *
    by_cases hz : z = 1
    · have hd : (z != 1) = false := by simp [hz]
      rw [if_pos hz]
      clear hz HC
      go_enter Tryz.func70, Tryz.ntmps70
      go_wp2_with (go_at_call 76; refine HM.out.mono ?_; rintro e w' ⟨rfl, rfl⟩)
      go_ret
      exact ⟨rfl, rfl⟩
    · have hd : (z != 1) = true := by simp [hz]
      rw [if_neg hz]
      clear hz HC
      go_enter Tryz.func70, Tryz.ntmps70
      go_wp2_with (go_at_call 76; refine HM.out.mono ?_; rintro e w' ⟨rfl, rfl⟩)
      go_ret
      exact ⟨rfl, rfl⟩

set_option maxHeartbeats 800000 in
/-- the reference's check of one character -/
theorem s_l07Code1 (w : World) (v : Value) (zs : List Int) (ha : Ints w v zs) : Calls Tryz.prog 67 #[v, v] w fun e w' => e = .returned (.int .i64 (chrC zs)) ∧ w = w' := by
  have HM := Lib.hid (s_l07Is w v zs ha)
  obtain ⟨A, c, rfl, -, -, -⟩ := ha.open_
  cases hm : mapB zs with
  | false =>
    rw [hm] at HM
    rw [show chrC zs = 1 by simp [chrC, hm]]
    clear hm ha
    go_enter Tryz.func67, Tryz.ntmps67
    go_wp2_with (go_at_call 73; refine HM.out.mono ?_; rintro e w' ⟨rfl, rfl⟩)
    go_ret
    exact ⟨rfl, rfl⟩
  | true =>
    obtain ⟨ad, rfl, hc⟩ := map_head ha hm
    have hl := (mapB_true hm).1
    rw [hm] at HM
    have hpos : 0 < zs.length := by omega
    have hpi : (0 : Int) < (zs.length : Int) := by omega
    have HC := Lib.hid (show chrC zs = if zs.getD 0 0 = 1 then 0 else 5 by simp [chrC, hm])
    rw [HC.out]
    clear hm ha hl
    generalize zs.getD 0 0 = z at *
    by_cases hz : z = 1
    · have hd : (z != 1) = false := by simp [hz]
      rw [if_pos hz]
      clear hz HC
      go_enter Tryz.func67, Tryz.ntmps67
      go_wp2_with (go_at_call 73; refine HM.out.mono ?_; rintro e w' ⟨rfl, rfl⟩)
      go_ret
      exact ⟨rfl, rfl⟩
    · have hd : (z != 1) = true := by simp [hz]
      rw [if_neg hz]
      clear hz HC
      go_enter Tryz.func67, Tryz.ntmps67
      go_wp2_with (go_at_call 73; refine HM.out.mono ?_; rintro e w' ⟨rfl, rfl⟩)
      go_ret
      exact ⟨rfl, rfl⟩

end Go.Proofs.YtngdpoeondnchaaGreat

set_option maxRecDepth 100000
set_option linter.unusedVariables false
set_option linter.unusedSimpArgs false
namespace Go.Proofs.YtngdpoeondnchaaGreat
open Go.RowKit

end Go.Proofs.YtngdpoeondnchaaGreat

