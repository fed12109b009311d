/- Walks: the conditions of the simplifying assumptions, of the program. -/
import Derived.Test.YtbjeibcombjfgaaQt32
import Derived.Test.YtbjeibcombjfgaaQt5
import Derived.Test.YtbjeibcombjfgaaQt13
import Derived.BigQuiet
import Derived.Deep.QuietTactic
import Derived.Test.YtbjeibcombjfgaaQt7
set_option maxRecDepth 100000
set_option linter.unusedVariables false
set_option linter.unusedSimpArgs false
namespace Go.Proofs.Ytbjeibcombjfgaa
open Go.RowKit

abbrev tTbA : TypeId := 27
/-- a tableau in a box of its own -/
theorem boxA {w : World} {A1 A2 : Option Addr} {c1 c2 : Nat} {A : List (List Int)} {Bs : List Int} (ha1 : Rows w (.slice A1 A.length c1) A) (ha2 : Ints w (.slice A2 Bs.length c2) Bs) {W : World} (hW : W = w.alloc (.cells #[.slice A1 A.length c1, .slice A2 Bs.length c2] tTbA)) :
    Below w.heap.size w W ∧ Blk W w.heap.size tTbA #[.slice A1 A.length c1, .slice A2 Bs.length c2] ∧ TabArg W (.agg #[.slice A1 A.length c1, .slice A2 Bs.length c2]) A Bs ∧ Rows W (.slice A1 A.length c1) A ∧ Ints W (.slice A2 Bs.length c2) Bs := by
  have hbw : Below w.heap.size w W := by rw [hW]; exact below1 w _
  exact ⟨hbw, by rw [hW]; exact Blk.new _ _ _, ⟨_, _, rfl, ha1.below hbw, ha2.below hbw⟩, ha1.below hbw, ha2.below hbw⟩
theorem nodes_at {w : World} {v : Value} {A : List (List Int)} (h : Ints w v (nodesOf A)) : ∃ An cn, v = .slice An A.length cn ∧ ∀ i, i < A.length → ∃ ad, An = some ad ∧ w.cell? (ad.add i) = some (.int .i64 (cN A i)) := by
  obtain ⟨An, cn, rfl, -, -, h3⟩ := h.open_
  rw [nodesOf_len]
  refine ⟨An, cn, rfl, fun i hi => ?_⟩
  obtain ⟨ad, z, hA, hz, -, hc⟩ := h3 i (by rw [nodesOf_len]; exact hi)
  have e : cN A i = z := by unfold cN; rw [List.getD_eq_getElem?_getD, hz]; rfl
  exact ⟨ad, hA, by rw [e]; exact hc⟩
theorem ints_at {w : World} {A : Option Addr} {n c : Nat} {zs : List Int} (h : Ints w (.slice A n c) zs) {i : Nat} (hi : i < zs.length) : ∃ ad, A = some ad ∧ w.cell? (ad.add i) = some (.int .i64 (zs.getD i 0)) := by
  obtain ⟨A', c', he, -, -, h3⟩ := h.open_
  obtain ⟨ad, z, hA, hz, -, hc⟩ := h3 i hi
  injection he with e1 e2 e3
  have e : zs.getD i 0 = z := by rw [List.getD_eq_getElem?_getD, hz]; rfl
  exact ⟨ad, by rw [e1]; exact hA, by rw [e]; exact hc⟩
theorem rows_at {w : World} {A1 : Option Addr} {n c : Nat} {A : List (List Int)} (h : Rows w (.slice A1 n c) A) {i : Nat} (hi : i < A.length) : ∃ ad Ar cr, A1 = some ad ∧ w.cell? (ad.add i) = some (.slice Ar (A.getD i []).length cr) ∧ Ints w (.slice Ar (A.getD i []).length cr) (A.getD i []) := by
  obtain ⟨A', c', he, -, -, h3⟩ := h.open_
  obtain ⟨ad, u, zs, hA, hz, hu, hc⟩ := h3 i hi
  have e : A.getD i [] = zs := by rw [List.getD_eq_getElem?_getD, hz]; rfl
  rw [e]
  obtain ⟨Ar, cr, rfl, -, -, -⟩ := hu.open_
  injection he with e1 e2 e3
  exact ⟨ad, Ar, cr, by rw [e1]; exact hA, hc, hu⟩

set_option maxHeartbeats 8000000 in
theorem im_meetsWeights {A : List (List Int)} {Bs : List Int} (hI : IsTab A Bs) (k : Nat) (k1 : 1 ≤ k) (k16 : k ≤ 16) (w : World) (va : Value) (ha : TabArg w va A Bs) :
    Calls Try.prog 195 #[va, .int .i64 (k : Nat)] w fun e w' => e = .returned (.bool (asB A Bs k)) ∧ Below w.heap.size w w' := by
  obtain ⟨va1, vb1, rfl, ha1, ha2⟩ := ha
  obtain ⟨A1, c1, rfl, -, -, -⟩ := ha1.open_
  obtain ⟨A2, c2, rfl, -, -, -⟩ := ha2.open_
  obtain ⟨W, hW⟩ : ∃ W, W = w.alloc (.cells #[.slice A1 A.length c1, .slice A2 Bs.length c2] tTbA) := ⟨_, rfl⟩
  obtain ⟨hbw, hk, hta, -, hbi⟩ := boxA ha1 ha2 hW
  have HBW := Lib.hid hbw
  have HKF := Lib.hid hk
  have HTA := Lib.hid hta
  have HBI := Lib.hid hbi
  have HLA := Lib.hid (show A.length = Bs.length from hI.len)
  have hb8 := hI.hi
  have HNB := Lib.hid (nums_iff.1 hI.num)
  have HNO := Lib.hid (im_nodes W _ A Bs hta hI.numTab)
  have HR := Lib.hid (show asB A Bs k = decide (sR Bs.length (wE A Bs k) * (k : Int) % 10007 = 1) from rfl)
  have hk0 : ((k : Int) - 1).toNat = k - 1 := by omega
  have hw0 : wrap64 ((k : Int) - 1) = (k : Int) - 1 := w64_in' _ (by omega)
  have hw0' : IntKind.i64.wrap ((k : Int) - 1) = (k : Int) - 1 := IntWalk.i64_in _ (by omega)
  have q0 : W.cell? ⟨w.heap.size, 0, none⟩ = some (.slice A1 A.length c1) := HKF.out.cell 0
  have q1 : W.cell? ⟨w.heap.size, 1, none⟩ = some (.slice A2 Bs.length c2) := HKF.out.cell 1
  generalize asB A Bs k = rr at HR ⊢
  clear ha1 ha2 hbw hk hta hbi hI
  go_enter Try.func195, Try.ntmps195
  go_upto_region 1 with fail
  rw [← hW]
  clear hW
  go_upto_region 3 with (go_at_call 217; go_loud (refine HNO.out.mono ?_; rintro e w3 ⟨x3, rfl, ho3, hb3⟩; obtain ⟨An, cn, hx3, hn3⟩ := nodes_at ho3.ints; subst hx3; have HN3 := Lib.hid hn3; have HB3 := Lib.hid hb3; have HBJ := Lib.hid (HBI.out.below hb3); have q2 : w3.cell? ⟨w.heap.size, 1, none⟩ = some (.slice A2 Bs.length c2) := (HKF.out.below hb3 HKF.out.lt).cell 1; clear hn3 ho3 hb3))
  rw [HLA.out] at HN3 ⊢
  go_loopw [5, 11] (fun s x wr => ∃ i q : Nat, i ≤ Bs.length ∧ x = .int .i64 i ∧ s = .int .i64 (sR i (wE A Bs k)) ∧ wr = w3.drewN q) (fun _ x _ => Bs.length - (intOf x).toNat)
  case atStart => exact ⟨0, 0, Nat.zero_le _, rfl, rfl, rfl⟩
  case round =>
    obtain ⟨i, q, hi, rfl, rfl, rfl⟩ := hrel
    have hsb := sR_bd (s := i) (f := wE A Bs k) (M := 10006) (fun j _ => wE_bd A Bs k j)
    by_cases hlt : i < Bs.length
    · obtain ⟨ad, rfl, hc⟩ := HN3.out i hlt
      obtain ⟨ad', rfl, hc'⟩ := ints_at HBJ.out hlt
      have hbz := getD_bd HNB.out i
      have hcz := cN_bd A i
      have HS := Lib.hid (show sR (i + 1) (wE A Bs k) = sR i (wE A Bs k) + Bs.getD i 0 * pw (cN A i) (k - 1) % 10007 from sR_succ i _)
      have hpb := pw_bd (cN A i) (k - 1)
      have hii : (i : Int) < (Bs.length : Int) := by omega
      generalize sR i (wE A Bs k) = sm at *
      generalize Bs.getD i 0 = bz at *
      generalize cN A i = cz at *
      obtain ⟨p1, p2⟩ := mul_bd 10006 10006 hbz.1 hbz.2 hpb.1 hpb.2
      obtain ⟨m, hm⟩ : ∃ m, m = bz * pw cz (k - 1) := ⟨_, rfl⟩
      have HM := Lib.hid hm
      rw [← hm] at p1 p2 HS
      have hw1 : wrap64 (bz * pw cz (k - 1)) = m := by rw [← hm]; exact w64_in' _ (by omega)
      have hw2 : IntKind.i64.wrap (bz * pw cz (k - 1)) = m := by rw [← hm]; exact IntWalk.i64_in _ (by omega)
      have hw3 : wrap64 (sm + m % 10007) = sm + m % 10007 := w64_in' _ (by omega)
      have hw4 : IntKind.i64.wrap (sm + m % 10007) = sm + m % 10007 := IntWalk.i64_in _ (by omega)
      have HP := Lib.hid (fun X => show Calls Try.prog 119 #[.int .i64 cz, .int .i64 ((k : Int) - 1)] X fun e w' => e = .returned (.int .i64 (pw cz (k - 1))) ∧ X = w' from by
        have h := i_pow cz ((k : Int) - 1) X (by omega) (by omega) (by omega) (by omega)
        rwa [hk0] at h)
      clear hm hpb
      go_wp2_with fail
      go_quiet ((first | (go_at_call 119; exact quiet_same (HP.out _)) | (go_at_call 108; exact quiet_same (i_num m _ (by omega) (by omega)))))
      go_wp2_with fail
      go_roundw
      case rel => exact ⟨i + 1, _, by omega, by go_num, by rw [HS.out], rfl⟩
      case measure => simp [intOf]; omega
    · have hil : i = Bs.length := by omega
      subst hil
      generalize sR Bs.length (wE A Bs k) = sm at *
      obtain ⟨p1, p2⟩ := mul_bd (8 * 10006) 16 hsb.1 (by omega) (show (0 : Int) ≤ (k : Int) by omega) (show (k : Int) ≤ 16 by omega)
      have hw1 : wrap64 (sm * (k : Int)) = sm * (k : Int) := w64_in' _ (by omega)
      have hw2 : IntKind.i64.wrap (sm * (k : Int)) = sm * (k : Int) := IntWalk.i64_in _ (by omega)
      go_wp2_with (go_at_call 108; refine (i_num (sm * (k : Int)) _ (by omega) (by omega)).mono ?_; rintro e w' ⟨rfl, rfl⟩)
      go_ret
      refine ⟨ret_bl ?_, HBW.out.trans ((below_drewN HB3.out _).mono HBW.out.size)⟩
      rw [HR.out]
      rfl
theorem pwL_take {A : List (List Int)} {i : Nat} (e : Nat) (hi : i < A.length) : (pwL A e).take (i + 1) = (pwL A e).take i ++ [pw (cN A i) e] := by
  have h : (pwL A e).length = A.length := pwL_len A e
  have h2 := pwL_get hi e
  rw [List.getD_eq_getElem?_getD, List.getElem?_eq_getElem (by omega)] at h2
  rw [List.take_add_one, List.getElem?_eq_getElem (by omega)]
  simp only [Option.getD_some] at h2
  rw [h2]; rfl
theorem asCs_true {A : List (List Int)} {s k : Nat} (h : ∀ i, i < s → asC A k i = true) : asCs A s k = true := List.all_eq_true.2 fun i hi => h i (List.mem_range.1 hi)
theorem asCs_false {A : List (List Int)} {s k i : Nat} (hi : i < s) (h : asC A k i = false) : asCs A s k = false := by
  cases e : asCs A s k with
  | false => rfl
  | true => have := (List.all_eq_true.1 e) i (List.mem_range.2 hi); rw [h] at this; cases this
set_option maxHeartbeats 16000000 in
theorem im_meetsStages {A : List (List Int)} {Bs : List Int} (hI : IsTab A Bs) (k : Nat) (k1 : 1 ≤ k) (k16 : k ≤ 16) (w : World) (va : Value) (ha : TabArg w va A Bs) :
    Calls Try.prog 196 #[va, .int .i64 (k : Nat)] w fun e w' => e = .returned (.bool (asCs A Bs.length k)) ∧ Below w.heap.size w w' := by
  obtain ⟨va1, vb1, rfl, ha1, ha2⟩ := ha
  obtain ⟨A1, c1, rfl, -, -, -⟩ := ha1.open_
  obtain ⟨A2, c2, rfl, -, -, -⟩ := ha2.open_
  obtain ⟨W, hW⟩ : ∃ W, W = w.alloc (.cells #[.slice A1 A.length c1, .slice A2 Bs.length c2] tTbA) := ⟨_, rfl⟩
  obtain ⟨hbw, hk, hta, hro, -⟩ := boxA ha1 ha2 hW
  have HBW := Lib.hid hbw
  have HKF := Lib.hid hk
  have HTA := Lib.hid hta
  have HRO := Lib.hid hro
  have HLA := Lib.hid (show A.length = Bs.length from hI.len)
  have hb8 := hI.hi
  have HI := Lib.hid hI
  have HSQ := Lib.hid (SqT.of hI)
  have HNO := Lib.hid (fun X (hX : Below W.heap.size W X) => im_nodes X _ A Bs (hta.below hX) hI.numTab)
  have OL := Lib.hid (show Own (W.alloc (.cells #[] tI)) W.heap.size tI (.slice (some ⟨W.heap.size, 0, none⟩) 0 0) (ints ((pwL A (k - 1)).take 0)) from own_lit W tI [] (by simp [maxLen]))
  have HB0 := Lib.hid (below1 W (.cells #[] tI))
  have k0 : ∀ o, (W.alloc o).cell? ⟨w.heap.size, 0, none⟩ = some (.slice A1 A.length c1) := fun o => (HKF.out.alloc o).cell 0
  have k0b : ∀ o, (W.alloc o).cell? ⟨w.heap.size, 1, none⟩ = some (.slice A2 Bs.length c2) := fun o => (HKF.out.alloc o).cell 1
  have hk0 : ((k : Int) - 1).toNat = k - 1 := by omega
  have hw0 : wrap64 ((k : Int) - 1) = (k : Int) - 1 := w64_in' _ (by omega)
  have hw0' : IntKind.i64.wrap ((k : Int) - 1) = (k : Int) - 1 := IntWalk.i64_in _ (by omega)
  clear ha1 ha2 hbw hk hta hro hI
  go_enter Try.func196, Try.ntmps196
  go_upto_region 1 with fail
  rw [← hW]
  clear hW
  go_upto_region 3 with (go_at_call 217; go_loud (refine (HNO.out _ HB0.out).mono ?_; rintro e w3 ⟨x3, rfl, ho3, hb3⟩; obtain ⟨An, cn, hx3, -⟩ := nodes_at ho3.ints; subst hx3; have HN3 := Lib.hid ho3; have HB3 := Lib.hid (HB0.out.trans (hb3.mono HB0.out.size)); have HO3 := Lib.hid (OL.out.below hb3); have HGS := Lib.hid (show W.heap.size < (W.alloc (.cells #[] tI)).heap.size from by simp); clear ho3 hb3))
  clear OL k0 k0b
  rw [HLA.out] at HN3 ⊢
  go_loopw [5, 14] (fun o x wr => ∃ i : Nat, i ≤ Bs.length ∧ x = .int .i64 i ∧ Own wr W.heap.size tI o (ints ((pwL A (k - 1)).take i)) ∧ Below W.heap.size W wr ∧ Apd w3 wr W.heap.size o) (fun _ x _ => Bs.length - (intOf x).toNat)
  case atStart => exact ⟨0, Nat.zero_le _, rfl, HO3.out, HB3.out, Apd.refl rfl⟩
  case round =>
    obtain ⟨i, hi, rfl, ho, hb, hb3⟩ := hrel
    rename World => wq
    have hel : ((pwL A (k - 1)).take i).length = i := by rw [List.length_take, pwL_len, HLA.out]; omega
    have hol := ho.cells.open_
    rw [ints_len, hel] at hol
    obtain ⟨Ao, co, rfl, -, -⟩ := hol
    have HEL := Lib.hid hel
    have HO := Lib.hid ho
    have HBQ := Lib.hid hb
    have HB3Q := Lib.hid hb3
    clear ho hb hb3 hel HO3
    by_cases hlt : i < Bs.length
    · obtain ⟨An', cn', he, hn3⟩ := nodes_at (HB3Q.out.ints HN3.out HGS.out).ints
      simp only [Value.slice.injEq] at he
      obtain ⟨rfl, -, rfl⟩ := he
      obtain ⟨ad, rfl, hc⟩ := hn3 i (by have := HLA.out; omega)
      have hcz := cN_bd A i
      have HTS := Lib.hid (show ints ((pwL A (k - 1)).take (i + 1)) = ints ((pwL A (k - 1)).take i) ++ [.int .i64 (pw (cN A i) (k - 1))] from by rw [pwL_take _ (by have := HLA.out; omega), ints, ints, List.map_append]; rfl)
      have hii : (i : Int) < (Bs.length : Int) := by omega
      generalize cN A i = cz at *
      have HP := Lib.hid (fun X => show Calls Try.prog 119 #[.int .i64 cz, .int .i64 ((k : Int) - 1)] X fun e w' => e = .returned (.int .i64 (pw cz (k - 1))) ∧ X = w' from by
        have h := i_pow cz ((k : Int) - 1) X (by omega) (by omega) (by omega) (by omega)
        rwa [hk0] at h)
      generalize pw cz (k - 1) = pz at HP HTS
      clear hn3
      go_wp2_with (first
        | (go_at_call 119; refine (HP.out _).mono ?_; rintro e w5 ⟨rfl, rfl⟩)
        | (at_builtin; go_loud (refine wpList_app1 T_int HO.out (by rw [ints_len, HEL.out]; omega) HBQ.out.size (by rfl) rfl (by rfl) (by rfl) (by rfl) ?_; intro v1 w6 hown1 hgr1; have HNN := Lib.hid hown1; have HGR := Lib.hid hgr1; clear hown1 hgr1)))
      go_roundw
      case rel => exact ⟨i + 1, by omega, by go_num, by rw [HTS.out]; exact HNN.out, HGR.out.below HBQ.out HBQ.out.size HO.out.ge, HB3Q.out.app HGR.out⟩
      case measure => simp [intOf]; omega
    · have hil : (pwL A (k - 1)).take i = pwL A (k - 1) := List.take_of_length_le (by rw [pwL_len, HLA.out]; omega)
      have hie : i = Bs.length := by omega
      rw [hil] at HO HEL
      subst hie
      have HOI := Lib.hid (show OwnInts wq W.heap.size tI (.slice Ao Bs.length co) (pwL A (k - 1)) from ⟨HO.out, fun z hz => in64_num (pwL_nums A _ z hz)⟩)
      clear hil HO HB3Q HN3 HB3 HEL
      have u0 : wq.cell? ⟨w.heap.size, 0, none⟩ = some (.slice A1 A.length c1) := (HKF.out.below HBQ.out HKF.out.lt).cell 0
      have u1 : wq.cell? ⟨w.heap.size, 1, none⟩ = some (.slice A2 Bs.length c2) := (HKF.out.below HBQ.out HKF.out.lt).cell 1
      go_upto_region 8 with (go_at_call 217; go_loud (refine (HNO.out _ HBQ.out).mono ?_; rintro e w4 ⟨x4, rfl, ho4, hb4⟩; obtain ⟨Am, cm, hx4, hn4⟩ := nodes_at ho4.ints; subst hx4; have HN4 := Lib.hid hn4; have HB4 := Lib.hid (HBQ.out.trans (hb4.mono HBQ.out.size)); have HO4 := Lib.hid (HOI.out.below hb4); clear ho4 hb4 hn4))
      rw [HLA.out] at HN4 ⊢
      have HK4 := Lib.hid (HKF.out.below HB4.out HKF.out.lt)
      have HR4 := Lib.hid (HRO.out.below HB4.out)
      have q0 : w4.cell? ⟨w.heap.size, 0, none⟩ = some (.slice A1 Bs.length c1) := by rw [← HLA.out]; exact HK4.out.cell 0
      clear HOI HBQ
      go_loopw [29] (fun x wr => ∃ i : Nat, i ≤ Bs.length ∧ x = .int .i64 i ∧ Hid (∀ j, j < i → asC A k j = true) ∧ wr = w4) (fun x _ => Bs.length - (intOf x).toNat)
      case atStart => exact ⟨0, Nat.zero_le _, rfl, fun j hj => absurd hj (Nat.not_lt_zero j), rfl⟩
      case round =>
        obtain ⟨i, hi, rfl, HI, rfl⟩ := hrel
        by_cases hlt2 : i < Bs.length
        · obtain ⟨ad, rfl, hc⟩ := HN4.out i hlt2
          obtain ⟨ad1, Ar, cr, rfl, hcr, hir⟩ := rows_at HR4.out (i := i) (by have := HLA.out; omega)
          have hrl := (HSQ.out.row hlt2).2
          have hrn := (HSQ.out.row hlt2).1
          have HT := Lib.hid (show asC A k i = decide (dtZ (A.getD i []) (pwL A (k - 1)) * (k : Int) % 10007 = pw (cN A i) k) from rfl)
          have HD := Lib.hid (i_dot wr _ _ _ _ hir HO4.out.ints hrn (pwL_nums A _) (by rw [hrl, pwL_len, HLA.out]; exact Nat.le_refl _) (by omega))
          rw [hrl] at HD
          rw [hrl] at hcr
          have hdb := dtZ_num (A.getD i []) (pwL A (k - 1))
          have hcz := cN_bd A i
          have hii : (i : Int) < (Bs.length : Int) := by omega
          generalize dtZ (A.getD i []) (pwL A (k - 1)) = dd at *
          generalize cN A i = cz at *
          have HP := Lib.hid (fun X => show Calls Try.prog 119 #[.int .i64 cz, .int .i64 (k : Int)] X fun e w' => e = .returned (.int .i64 (pw cz k)) ∧ X = w' from by
            have h := i_pow cz (k : Int) X (by omega) (by omega) (by omega) (by omega)
            rwa [Int.toNat_natCast] at h)
          obtain ⟨p1, p2⟩ := mul_bd 10006 16 hdb.1 hdb.2 (show (0 : Int) ≤ (k : Int) by omega) (show (k : Int) ≤ 16 by omega)
          have hw1 : wrap64 (dd * (k : Int)) = dd * (k : Int) := w64_in' _ (by omega)
          have hw2 : IntKind.i64.wrap (dd * (k : Int)) = dd * (k : Int) := IntWalk.i64_in _ (by omega)
          clear hir hrn hrl
          by_cases hgo : asC A k i = true
          · have he : dd * (k : Int) % 10007 = pw cz k := by rw [HT.out] at hgo; exact of_decide_eq_true hgo
            have HI2 := Lib.hid (show ∀ j, j < i + 1 → asC A k j = true from fun j hj => by
              by_cases e : j < i
              · exact HI.out j e
              · rw [show j = i by omega]; exact hgo)
            have hbb : (pw cz k != pw cz k) = false := by simp
            have HN := Lib.hid (fun X => show Calls Try.prog 108 #[.int .i64 (dd * (k : Int))] X fun e w' => e = .returned (.int .i64 (pw cz k)) ∧ X = w' from by
              have h := i_num (dd * (k : Int)) X (by omega) (by omega)
              rwa [he] at h)
            generalize pw cz k = pz at *
            clear he hgo p1 p2
            go_wp2_with (first
              | (go_at_call 212; refine HD.out.mono ?_; rintro e w5 ⟨rfl, rfl⟩)
              | (go_at_call 108; refine (HN.out _).mono ?_; rintro e w5 ⟨rfl, rfl⟩)
              | (go_at_call 119; refine (HP.out _).mono ?_; rintro e w5 ⟨rfl, rfl⟩))
            go_roundw
            case rel => exact ⟨i + 1, by omega, by go_num, HI2.out, by first | rfl | trivial⟩
            case measure => simp [intOf]; omega
          · have hgf : asC A k i = false := by simpa using hgo
            have HF := Lib.hid (asCs_false hlt2 hgf)
            have he : dd * (k : Int) % 10007 ≠ pw cz k := by rw [HT.out] at hgf; exact of_decide_eq_false hgf
            have hbb : (dd * (k : Int) % 10007 != pw cz k) = true := by simp [he]
            clear he hgo hgf
            go_wp2_with (first
              | (go_at_call 212; refine HD.out.mono ?_; rintro e w5 ⟨rfl, rfl⟩)
              | (go_at_call 108; refine (i_num (dd * (k : Int)) _ (by omega) (by omega)).mono ?_; rintro e w5 ⟨rfl, rfl⟩)
              | (go_at_call 119; refine (HP.out _).mono ?_; rintro e w5 ⟨rfl, rfl⟩))
            go_ret
            exact ⟨ret_bl HF.out.symm, HBW.out.trans (HB4.out.mono HBW.out.size)⟩
        · have hie : i = Bs.length := by omega
          subst hie
          have HF := Lib.hid (asCs_true HI.out)
          go_wp2_with fail
          go_ret
          exact ⟨ret_bl HF.out.symm, HBW.out.trans (HB4.out.mono HBW.out.size)⟩
theorem asDs_true {A : List (List Int)} {Bs : List Int} {k : Nat} (h : ∀ i, i < Bs.length → asD A Bs k i = true) : asDs A Bs k = true := List.all_eq_true.2 fun i hi => h i (List.mem_range.1 hi)
theorem asDs_false {A : List (List Int)} {Bs : List Int} {k i : Nat} (hi : i < Bs.length) (h : asD A Bs k i = false) : asDs A Bs k = false := by
  cases e : asDs A Bs k with
  | false => rfl
  | true => have := (List.all_eq_true.1 e) i (List.mem_range.2 hi); rw [h] at this; cases this
set_option maxHeartbeats 16000000 in
theorem im_meetsColumns {A : List (List Int)} {Bs : List Int} (hI : IsTab A Bs) (k : Nat) (k1 : 1 ≤ k) (k16 : k ≤ 16) (w : World) (va : Value) (ha : TabArg w va A Bs) :
    Calls Try.prog 197 #[va, .int .i64 (k : Nat)] w fun e w' => e = .returned (.bool (asDs A Bs k)) ∧ Below w.heap.size w w' := by
  obtain ⟨va1, vb1, rfl, ha1, ha2⟩ := ha
  obtain ⟨A1, c1, rfl, -, -, -⟩ := ha1.open_
  obtain ⟨A2, c2, rfl, -, -, -⟩ := ha2.open_
  obtain ⟨W, hW⟩ : ∃ W, W = w.alloc (.cells #[.slice A1 A.length c1, .slice A2 Bs.length c2] tTbA) := ⟨_, rfl⟩
  obtain ⟨hbw, hk, hta, hro, hbi⟩ := boxA ha1 ha2 hW
  have HBW := Lib.hid hbw
  have HKF := Lib.hid hk
  have HTA := Lib.hid hta
  have HRO := Lib.hid hro
  have HBI := Lib.hid hbi
  have HLA := Lib.hid (show A.length = Bs.length from hI.len)
  have hb8 := hI.hi
  have HNB := Lib.hid (nums_iff.1 hI.num)
  have HSQ := Lib.hid (SqT.of hI)
  have HNO := Lib.hid (im_nodes W _ A Bs hta hI.numTab)
  have hk0 : ((k : Int) - 1).toNat = k - 1 := by omega
  have hw0 : wrap64 ((k : Int) - 1) = (k : Int) - 1 := w64_in' _ (by omega)
  have hw0' : IntKind.i64.wrap ((k : Int) - 1) = (k : Int) - 1 := IntWalk.i64_in _ (by omega)
  clear ha1 ha2 hbw hk hta hbi hro hI
  go_enter Try.func197, Try.ntmps197
  go_upto_region 1 with fail
  rw [← hW]
  clear hW
  have q0' : W.cell? ⟨w.heap.size, 0, none⟩ = some (.slice A1 A.length c1) := HKF.out.cell 0
  have q1' : W.cell? ⟨w.heap.size, 1, none⟩ = some (.slice A2 Bs.length c2) := HKF.out.cell 1
  go_upto_region 3 with (go_at_call 217; go_loud (refine HNO.out.mono ?_; rintro e w3 ⟨x3, rfl, ho3, hb3⟩; obtain ⟨An, cn, hx3, hn3⟩ := nodes_at ho3.ints; subst hx3; have HN3 := Lib.hid hn3; have HB3 := Lib.hid hb3; have HBJ := Lib.hid (HBI.out.below hb3); have HR3 := Lib.hid (HRO.out.below hb3); have HK3 := Lib.hid (HKF.out.below hb3 HKF.out.lt); clear hn3 ho3 hb3))
  clear q0' q1'
  rw [HLA.out] at HN3 ⊢
  have q0 : w3.cell? ⟨w.heap.size, 0, none⟩ = some (.slice A1 Bs.length c1) := by rw [← HLA.out]; exact HK3.out.cell 0
  have q1 : w3.cell? ⟨w.heap.size, 1, none⟩ = some (.slice A2 Bs.length c2) := HK3.out.cell 1
  have HR3 := Lib.hid (show Rows w3 (.slice A1 Bs.length c1) A from by rw [← HLA.out]; exact HR3.out)
  go_loopw [15] (fun x wr => ∃ j q : Nat, j ≤ Bs.length ∧ x = .int .i64 j ∧ Hid (∀ i, i < j → asD A Bs k i = true) ∧ wr = w3.drewN q) (fun x _ => Bs.length - (intOf x).toNat)
  case atStart => exact ⟨0, 0, Nat.zero_le _, rfl, fun j hj => absurd hj (Nat.not_lt_zero j), rfl⟩
  case round =>
    obtain ⟨j, q, hj, rfl, HI, rfl⟩ := hrel
    by_cases hlt : j < Bs.length
    · obtain ⟨adn, rfl, hcj⟩ := HN3.out j hlt
      obtain ⟨adb, rfl, hbj⟩ := ints_at HBJ.out hlt
      have HT := Lib.hid (show asD A Bs k j = decide (sR Bs.length (dE A Bs k j) * (k : Int) % 10007 = Bs.getD j 0 * ((1 - pw (cN A j) k) % 10007) % 10007) from rfl)
      have hjj : (j : Int) < (Bs.length : Int) := by omega
      go_wp2_with fail
      go_loopw [8, 22] (fun s x wr => ∃ i q : Nat, i ≤ Bs.length ∧ x = .int .i64 i ∧ s = .int .i64 (sR i (dE A Bs k j)) ∧ wr = w3.drewN q) (fun _ x _ => Bs.length - (intOf x).toNat)
      case atStart => exact ⟨0, q, Nat.zero_le _, rfl, rfl, rfl⟩
      case round =>
        obtain ⟨i, q2, hi, rfl, rfl, rfl⟩ := hrel
        have hsb := sR_bd (s := i) (f := dE A Bs k j) (M := 10006) (fun l _ => dE_bd A Bs k j l)
        by_cases hlt2 : i < Bs.length
        · obtain ⟨_, he, hci⟩ := HN3.out i hlt2
          simp only [Option.some.injEq] at he
          subst he
          obtain ⟨_, he, hbi⟩ := ints_at HBJ.out hlt2
          simp only [Option.some.injEq] at he
          subst he
          obtain ⟨ad1, Ar, cr, rfl, hcr, hir⟩ := rows_at HR3.out (i := i) (by have := HLA.out; omega)
          have hrl := (HSQ.out.row hlt2).2
          obtain ⟨adr, rfl, hrj⟩ := ints_at hir (i := j) (by omega)
          have hab := HSQ.out.bd hlt2 hlt
          rw [hrl] at hcr
          have HS := Lib.hid (show sR (i + 1) (dE A Bs k j) = sR i (dE A Bs k j) + (Bs.getD i 0 * pw (cN A i) (k - 1) % 10007) * ((A.getD i []).getD j 0) % 10007 from sR_succ i _)
          have hab : 0 ≤ (A.getD i []).getD j 0 ∧ (A.getD i []).getD j 0 ≤ 10006 := hab
          have hbz := getD_bd HNB.out i
          have hcz := cN_bd A i
          have hpb := pw_bd (cN A i) (k - 1)
          have hii : (i : Int) < (Bs.length : Int) := by omega
          generalize sR i (dE A Bs k j) = sm at *
          generalize (A.getD i []).getD j 0 = az at *
          generalize Bs.getD i 0 = bz at *
          generalize cN A i = cz at *
          obtain ⟨p1, p2⟩ := mul_bd 10006 10006 hbz.1 hbz.2 hpb.1 hpb.2
          obtain ⟨m, hm⟩ : ∃ m, m = bz * pw cz (k - 1) := ⟨_, rfl⟩
          rw [← hm] at p1 p2 HS
          have hw1 : wrap64 (bz * pw cz (k - 1)) = m := by rw [← hm]; exact w64_in' _ (by omega)
          have hw2 : IntKind.i64.wrap (bz * pw cz (k - 1)) = m := by rw [← hm]; exact IntWalk.i64_in _ (by omega)
          have hmb : 0 ≤ m % 10007 ∧ m % 10007 ≤ 10006 := by omega
          obtain ⟨p3, p4⟩ := mul_bd 10006 10006 hmb.1 hmb.2 hab.1 hab.2
          have HMN := Lib.hid (fun X => i_num m X (by omega) (by omega))
          generalize m % 10007 = m1 at *
          obtain ⟨m2, hm2⟩ : ∃ m2, m2 = m1 * az := ⟨_, rfl⟩
          rw [← hm2] at p3 p4 HS
          have hw5 : wrap64 (m1 * az) = m2 := by rw [← hm2]; exact w64_in' _ (by omega)
          have hw6 : IntKind.i64.wrap (m1 * az) = m2 := by rw [← hm2]; exact IntWalk.i64_in _ (by omega)
          have hw3 : wrap64 (sm + m2 % 10007) = sm + m2 % 10007 := w64_in' _ (by omega)
          have hw4 : IntKind.i64.wrap (sm + m2 % 10007) = sm + m2 % 10007 := IntWalk.i64_in _ (by omega)
          have HMM := Lib.hid (fun X => i_num m2 X (by omega) (by omega))
          have HP := Lib.hid (fun X => show Calls Try.prog 119 #[.int .i64 cz, .int .i64 ((k : Int) - 1)] X fun e w' => e = .returned (.int .i64 (pw cz (k - 1))) ∧ X = w' from by
            have h := i_pow cz ((k : Int) - 1) X (by omega) (by omega) (by omega) (by omega)
            rwa [hk0] at h)
          clear hm hm2 hpb hir hrl hab hbz hcz hmb hsb
          go_wp2_with fail
          go_quiet ((first | (go_at_call 119; exact quiet_same (HP.out _)) | (go_at_call 108; (with_reducible exact quiet_same (HMN.out _))) | (go_at_call 108; (with_reducible exact quiet_same (HMM.out _)))))
          go_wp2_with fail
          go_roundw
          case rel => exact ⟨i + 1, _, by omega, by go_num, by rw [HS.out], rfl⟩
          case measure => simp [intOf]; omega
        · have hil : i = Bs.length := by omega
          subst hil
          have hbz := getD_bd HNB.out j
          have hcz := cN_bd A j
          have hpb := pw_bd (cN A j) k
          generalize sR Bs.length (dE A Bs k j) = sm at *
          generalize Bs.getD j 0 = bz at *
          generalize cN A j = cz at *
          have HP := Lib.hid (fun X => show Calls Try.prog 119 #[.int .i64 cz, .int .i64 (k : Int)] X fun e w' => e = .returned (.int .i64 (pw cz k)) ∧ X = w' from by
            have h := i_pow cz (k : Int) X (by omega) (by omega) (by omega) (by omega)
            rwa [Int.toNat_natCast] at h)
          generalize pw cz k = pz at *
          obtain ⟨p1, p2⟩ := mul_bd (8 * 10006) 16 hsb.1 (by omega) (show (0 : Int) ≤ (k : Int) by omega) (show (k : Int) ≤ 16 by omega)
          have hw1 : wrap64 (sm * (k : Int)) = sm * (k : Int) := w64_in' _ (by omega)
          have hw2 : IntKind.i64.wrap (sm * (k : Int)) = sm * (k : Int) := IntWalk.i64_in _ (by omega)
          have hw3 : wrap64 (1 - pz) = 1 - pz := w64_in' _ (by omega)
          have hw4 : IntKind.i64.wrap (1 - pz) = 1 - pz := IntWalk.i64_in _ (by omega)
          have HM1 := Lib.hid (fun X => i_num (sm * (k : Int)) X (by omega) (by omega))
          have HM2 := Lib.hid (fun X => i_num (1 - pz) X (by omega) (by omega))
          have hm2 : 0 ≤ (1 - pz) % 10007 ∧ (1 - pz) % 10007 ≤ 10006 := by omega
          generalize (1 - pz) % 10007 = z1 at *
          obtain ⟨p3, p4⟩ := mul_bd 10006 10006 hbz.1 hbz.2 hm2.1 hm2.2
          have hw5 : wrap64 (bz * z1) = bz * z1 := w64_in' _ (by omega)
          have hw6 : IntKind.i64.wrap (bz * z1) = bz * z1 := IntWalk.i64_in _ (by omega)
          have HM3 := Lib.hid (fun X => i_num (bz * z1) X (by omega) (by omega))
          clear p1 p2 p3 p4 hpb hsb hbz hcz hm2
          go_wp2_with fail
          go_quiet ((first | (go_at_call 119; exact quiet_same (HP.out _)) | (go_at_call 108; (with_reducible exact quiet_same (HM1.out _))) | (go_at_call 108; (with_reducible exact quiet_same (HM2.out _))) | (go_at_call 108; (with_reducible exact quiet_same (HM3.out _)))))
          by_cases he : sm * (k : Int) % 10007 = bz * z1 % 10007
          · have hgo : asD A Bs k j = true := by rw [HT.out]; exact decide_eq_true he
            have hbb : (sm * (k : Int) % 10007 != bz * z1 % 10007) = false := by simp [he]
            have HI2 := Lib.hid (show ∀ i, i < j + 1 → asD A Bs k i = true from fun i hi => by
              by_cases e : i < j
              · exact HI.out i e
              · rw [show i = j by omega]; exact hgo)
            clear he hgo
            go_wp2_with fail
            go_roundw
            case rel => exact ⟨j + 1, _, by omega, by go_num, HI2.out, rfl⟩
            case measure => simp [intOf]; omega
          · have hgf : asD A Bs k j = false := by rw [HT.out]; exact decide_eq_false he
            have HF := Lib.hid (asDs_false hlt hgf)
            have hbb : (sm * (k : Int) % 10007 != bz * z1 % 10007) = true := by simp [he]
            clear he hgf
            go_wp2_with fail
            go_ret
            exact ⟨ret_bl HF.out.symm, HBW.out.trans ((below_drewN (below_drewN HB3.out _) _).mono HBW.out.size)⟩
    · have hie : j = Bs.length := by omega
      subst hie
      have HF := Lib.hid (asDs_true HI.out)
      go_wp2_with fail
      go_ret
      exact ⟨ret_bl HF.out.symm, HBW.out.trans ((below_drewN HB3.out _).mono HBW.out.size)⟩
set_option maxHeartbeats 4000000 in
theorem im_meets {A : List (List Int)} {Bs : List Int} (hI : IsTab A Bs) (kind : Int) (k0 : 0 ≤ kind) (k2 : kind ≤ 2) (k : Nat) (k1 : 1 ≤ k) (k16 : k ≤ 16) (w : World) (va : Value) (ha : TabArg w va A Bs) :
    Calls Try.prog 136 #[va, .int .i64 kind, .int .i64 (k : Nat)] w fun e w' => e = .returned (.bool (asM A Bs kind k)) ∧ Below w.heap.size w w' := by
  obtain ⟨va1, vb1, rfl, ha1, ha2⟩ := ha
  obtain ⟨A1, c1, rfl, -, -, -⟩ := ha1.open_
  obtain ⟨A2, c2, rfl, -, -, -⟩ := ha2.open_
  obtain ⟨W, hW⟩ : ∃ W, W = w.alloc (.cells #[.slice A1 A.length c1, .slice A2 Bs.length c2] tTbA) := ⟨_, rfl⟩
  obtain ⟨hbw, hk, hta, hro, hbi⟩ := boxA ha1 ha2 hW
  have HBW := Lib.hid hbw
  have H0 := Lib.hid (im_meetsWeights hI k k1 k16 W _ hta)
  have H1 := Lib.hid (im_meetsStages hI k k1 k16 W _ hta)
  have H2 := Lib.hid (im_meetsColumns hI k k1 k16 W _ hta)
  have q0 : W.cell? ⟨w.heap.size, 0, none⟩ = some (.slice A1 A.length c1) := hk.cell 0
  have q1 : W.cell? ⟨w.heap.size, 1, none⟩ = some (.slice A2 Bs.length c2) := hk.cell 1
  clear ha1 ha2 hbw hk hta hbi hro hI
  go_enter Try.func136, Try.ntmps136
  go_upto_region 1 with fail
  rw [← hW]
  clear hW
  by_cases e0 : kind = 0
  · subst e0
    have HR := Lib.hid (show asM A Bs 0 k = asB A Bs k from if_pos rfl)
    go_wp2_with (go_at_call 195; go_loud (refine H0.out.mono ?_; rintro e w3 ⟨rfl, hb3⟩; have HB3 := Lib.hid hb3; clear hb3))
    go_ret
    exact ⟨ret_bl HR.out.symm, HBW.out.trans (HB3.out.mono HBW.out.size)⟩
  · have hd0 : (kind == 0) = false := by simp [e0]
    by_cases e1 : kind = 1
    · subst e1
      have HR := Lib.hid (show asM A Bs 1 k = asCs A Bs.length k from by unfold asM; rw [if_neg (by decide), if_pos rfl])
      go_wp2_with (go_at_call 196; go_loud (refine H1.out.mono ?_; rintro e w3 ⟨rfl, hb3⟩; have HB3 := Lib.hid hb3; clear hb3))
      go_ret
      exact ⟨ret_bl HR.out.symm, HBW.out.trans (HB3.out.mono HBW.out.size)⟩
    · have hd1 : (kind == 1) = false := by simp [e1]
      have HR := Lib.hid (show asM A Bs kind k = asDs A Bs k from by unfold asM; rw [if_neg e0, if_neg e1])
      go_wp2_with (go_at_call 197; go_loud (refine H2.out.mono ?_; rintro e w3 ⟨rfl, hb3⟩; have HB3 := Lib.hid hb3; clear hb3))
      go_ret
      exact ⟨ret_bl HR.out.symm, HBW.out.trans (HB3.out.mono HBW.out.size)⟩
set_option maxHeartbeats 4000000 in
theorem im_conditionOrder {A : List (List Int)} {Bs : List Int} (hI : IsTab A Bs) (kind : Int) (k0 : 0 ≤ kind) (k2 : kind ≤ 2) (w : World) (va : Value) (ha : TabArg w va A Bs) :
    Calls Try.prog 80 #[va, .int .i64 kind] w fun e w' => e = .returned (.int .i64 (oM A Bs kind : Nat)) ∧ Below w.heap.size w w' := by
  obtain ⟨va1, vb1, rfl, ha1, ha2⟩ := ha
  obtain ⟨A1, c1, rfl, -, -, -⟩ := ha1.open_
  obtain ⟨A2, c2, rfl, -, -, -⟩ := ha2.open_
  obtain ⟨W, hW⟩ : ∃ W, W = w.alloc (.cells #[.slice A1 A.length c1, .slice A2 Bs.length c2] tTbA) := ⟨_, rfl⟩
  obtain ⟨hbw, hk, hta, hro, hbi⟩ := boxA ha1 ha2 hW
  have HBW := Lib.hid hbw
  have HK := Lib.hid hk
  have HM := Lib.hid (fun k k1 k16 X (hX : Below W.heap.size W X) => im_meets hI kind k0 k2 k k1 k16 X _ (hta.below hX))
  clear ha1 ha2 hbw hk hta hbi hro hI
  go_enter Try.func80, Try.ntmps80
  go_upto_region 1 with fail
  rw [← hW]
  clear hW
  go_wp2_with fail
  go_loopw [5] (fun x wr => ∃ k : Nat, 1 ≤ k ∧ k ≤ 17 ∧ x = .int .i64 k ∧ Hid (∀ j, 0 < j → j < k → asM A Bs kind j = true) ∧ Below W.heap.size W wr) (fun x _ => 17 - (intOf x).toNat)
  case atStart => exact ⟨1, by omega, by omega, rfl, fun j h0 h1 => by omega, Below.refl _ _⟩
  case round =>
    obtain ⟨k, hk1, hk17, rfl, HI, hb⟩ := hrel
    rename World => wq
    have HB := Lib.hid hb
    clear hb
    by_cases hlt : k ≤ 16
    · have hki : (k : Int) ≤ 16 := by omega
      have q0 : wq.cell? ⟨w.heap.size, 0, none⟩ = some (.slice A1 A.length c1) := (HK.out.below HB.out HK.out.lt).cell 0
      have q1 : wq.cell? ⟨w.heap.size, 1, none⟩ = some (.slice A2 Bs.length c2) := (HK.out.below HB.out HK.out.lt).cell 1
      have HC := Lib.hid (HM.out k hk1 hlt wq HB.out)
      have hw1 : wrap64 ((k : Int) - 1) = (k : Int) - 1 := w64_in' _ (by omega)
      have hw2 : IntKind.i64.wrap ((k : Int) - 1) = (k : Int) - 1 := IntWalk.i64_in _ (by omega)
      cases hm : asM A Bs kind k with
      | true =>
        have HI2 := Lib.hid (show ∀ j, 0 < j → j < k + 1 → asM A Bs kind j = true from fun j h0 h1 => by
          by_cases e : j < k
          · exact HI.out j h0 e
          · rw [show j = k by omega]; exact hm)
        rw [hm] at HC
        clear hm
        go_wp2_with (go_at_call 136; go_loud (refine HC.out.mono ?_; rintro e w3 ⟨rfl, hb3⟩; have HB3 := Lib.hid (HB.out.trans (hb3.mono HB.out.size)); clear hb3))
        go_roundw
        case rel => exact ⟨k + 1, by omega, by omega, by go_num, HI2.out, HB3.out⟩
        case measure => simp [intOf]; omega
      | false =>
        have HR := Lib.hid (show ((oM A Bs kind : Nat) : Int) = (k : Int) - 1 from by rw [oM_hit hk1 HI.out hlt hm]; omega)
        rw [hm] at HC
        clear hm
        go_wp2_with (go_at_call 136; go_loud (refine HC.out.mono ?_; rintro e w3 ⟨rfl, hb3⟩; have HB3 := Lib.hid (HB.out.trans (hb3.mono HB.out.size)); clear hb3))
        go_ret
        exact ⟨ret_i64 HR.out.symm, HBW.out.trans (HB3.out.mono HBW.out.size)⟩
    · have hki : ¬ (k : Int) ≤ 16 := by omega
      have hke : k = 17 := by omega
      subst hke
      have HR := Lib.hid (show ((oM A Bs kind : Nat) : Int) = 16 from by rw [oM_miss HI.out]; rfl)
      go_wp2_with fail
      go_ret
      exact ⟨ret_i64 HR.out.symm, HBW.out.trans (HB.out.mono HBW.out.size)⟩
end Go.Proofs.Ytbjeibcombjfgaa

