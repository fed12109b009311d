/- Walks: weight, lacking, order of tableaus, OrderOf. | Plain: what the law of repeated tableaus says. No walk. | Walk: slices.Reverse at a list of numbers. | Walks: l10Scale of the reference. -/
import Derived.Test.YtnlaoainhlfemaaAj15
import Derived.Test.YtnlaoainhlfemaaAj8
import Derived.Test.YtnlaoainhlfemaaAj7
import Derived.Test.YtnlaoainhlfemaaAj10
import Derived.Test.YtnlaoainhlfemaaAj14
import Derived.Test.YtnlaoainhlfemaaAj9
import Derived.Test.YtnlaoainhlfemaaAj11
set_option maxRecDepth 100000
set_option linter.unusedVariables false
set_option linter.unusedSimpArgs false
namespace Go.Proofs.Ytnlaoainhlfemaa
open Go.RowKit

theorem chT_at (A : List (List Int)) (B : List Int) {p : Nat} (hp : p < 38) : (chT A B).getD p 0 = wgtT B.length (fT A) (fB B) p % 10007 := chF_at _ _ _ hp
theorem chT_bd (A : List (List Int)) (B : List Int) {p : Nat} (hp : p < 38) : 0 ≤ (chT A B).getD p 0 ∧ (chT A B).getD p 0 ≤ 10006 := by
  rw [chT_at A B hp]; omega
theorem chT_zero (A : List (List Int)) (B : List Int) : (chT A B).getD 0 0 = 1 := by
  rw [chT_at A B (by omega)]
  unfold wgtT
  rw [if_pos rfl]
  rfl
theorem EX_at' {n : Nat} (h : n < 37) : EX.getD (n + 1) 0 = ((exV (tr n) : Nat) : Int) := by
  rw [List.getD_eq_getElem?_getD, EX_succ (tr_get h)]
  rfl
set_option maxHeartbeats 4000000 in
theorem im_weight {A : List (List Int)} {Bs : List Int} (hT : SqT A Bs Bs.length) (h1 : 1 ≤ Bs.length) (h8 : Bs.length ≤ 8) (n : Nat) (hn : n < 37) (w : World) (va vt : Value) (ha : TabArg w va A Bs) (ht : Ints w vt (up (tr n))) :
    Calls Try.prog 150 #[va, vt] w fun e w' => e = .returned (.int .i64 ((chT A Bs).getD (n + 1) 0)) ∧ Below w.heap.size w w' := by
  obtain ⟨va1, vb1, rfl, ha1, ha2⟩ := ha
  obtain ⟨A1, c1, rfl, -, -, -⟩ := ha1.open_
  obtain ⟨A2, c2, rfl, -, -, -⟩ := ha2.open_
  obtain ⟨At, ct, rfl, -, -, -⟩ := ht.open_
  rw [up_len] at ht ⊢
  have HZ := Lib.hid (show dtZ Bs (stL A Bs.length (n + 1)) = (chT A Bs).getD (n + 1) 0 from by
    rw [chT_at A Bs (by omega), ← b_st A Bs (Nat.succ_pos n)]
    rfl)
  obtain ⟨W, hW⟩ : ∃ W, W = w.alloc (.cells #[.slice A1 A.length c1, .slice A2 Bs.length c2] 27) := ⟨_, rfl⟩
  have hbw : Below w.heap.size w W := by rw [hW]; exact below1 w _
  have HBW := Lib.hid hbw
  have HKF := Lib.hid (show Blk W w.heap.size 27 #[.slice A1 A.length c1, .slice A2 Bs.length c2] from by rw [hW]; exact Blk.new _ _ _)
  have HTA := Lib.hid (show TabArg W (.agg #[.slice A1 A.length c1, .slice A2 Bs.length c2]) A Bs from ⟨_, _, rfl, ha1.below hbw, ha2.below hbw⟩)
  have HBI := Lib.hid (ha2.below hbw)
  have HTR := Lib.hid (ht.below hbw)
  have HNB := Lib.hid hT.ws
  have HC1 := Lib.hid (show ∀ X, Below W.heap.size W X → Calls Try.prog 188 #[.agg #[.slice A1 A.length c1, .slice A2 Bs.length c2], .slice At (tr n).length ct] X (fun e w' => ∃ x, e = .returned x ∧ OwnInts w' W.heap.size tI x (stL A Bs.length (n + 1)) ∧ Below W.heap.size W w') from fun X hX => by
    have h := im_stageWeights hT h1 h8 (n + 1) n (by omega) hn X _ _ (HTA.out.below hX) (HTR.out.below hX)
    refine h.mono ?_
    rintro e w5 ⟨r5, rfl, ho5, hb5⟩
    exact ⟨r5, rfl, ho5.mono hX.size, hX.trans (hb5.mono hX.size)⟩)
  have HC2 := Lib.hid (show ∀ X r, Below W.heap.size W X → Ints X r (stL A Bs.length (n + 1)) → Calls Try.prog 187 #[.slice A2 Bs.length c2, r] X (fun e w' => e = .returned (.int .i64 ((chT A Bs).getD (n + 1) 0)) ∧ Below W.heap.size W w') from fun X r hX hr => by
    have h := i_dot X (.slice A2 Bs.length c2) r Bs _ (HBI.out.below hX) hr HNB.out (stL_nums _ _ _) (by rw [stL_len]; exact Nat.le_refl _) (by omega)
    rw [HZ.out] at h
    refine h.mono ?_
    rintro e w5 ⟨rfl, rfl⟩
    exact ⟨rfl, hX⟩)
  clear ha1 ha2 ht hT hbw
  generalize (chT A Bs).getD (n + 1) 0 = cc at *
  go_enter Try.func150, Try.ntmps150
  go_upto_region 1 with fail
  rw [← hW]
  clear hW
  have q0 : W.cell? ⟨w.heap.size, 0, none⟩ = some (.slice A1 A.length c1) := HKF.out.cell 0
  have q1 : W.cell? ⟨w.heap.size, 1, none⟩ = some (.slice A2 Bs.length c2) := HKF.out.cell 1
  go_region_law (first
    | (go_simp; go_at_call 188; (with_reducible refine ((HC1.out _ ?_).mono ?_)); (first | exact Below.refl _ _ | exact (Below.refl _ _).drew); go_loud (rintro e w5 ⟨r5, rfl, ho5, hb5⟩; have HO5 := Lib.hid ho5; have HB5 := Lib.hid hb5; have m1 : w5.cell? ⟨w.heap.size, 0, none⟩ = some (.slice A1 A.length c1) := (HKF.out.below hb5 HKF.out.lt).cell 0; have m2 : w5.cell? ⟨w.heap.size, 1, none⟩ = some (.slice A2 Bs.length c2) := (HKF.out.below hb5 HKF.out.lt).cell 1; clear ho5 hb5))
    | (go_simp; go_at_call 187; (with_reducible refine ((HC2.out _ _ ?_ ?_).mono ?_)); (first | exact HB5.out | exact HB5.out.drew); (exact HO5.out.ints); go_loud (rintro e w6 ⟨rfl, hb6⟩; have HB6 := Lib.hid hb6; clear hb6)))
  all_goals
    go_wp2_with fail
    go_ret
    exact ⟨rfl, HBW.out.trans (HB6.out.mono HBW.out.size)⟩
set_option maxHeartbeats 4000000 in
theorem im_lacking {A : List (List Int)} {Bs : List Int} (hT : SqT A Bs Bs.length) (h1 : 1 ≤ Bs.length) (h8 : Bs.length ≤ 8) (n : Nat) (hn : n < 37) (w : World) (va vt : Value) (ha : TabArg w va A Bs) (ht : Ints w vt (up (tr n))) :
    Calls Try.prog 104 #[va, vt] w fun e w' => e = .returned (.int .i64 (((chT A Bs).getD (n + 1) 0 - EX.getD (n + 1) 0) % 10007)) ∧ Below w.heap.size w w' := by
  obtain ⟨va1, vb1, rfl, ha1, ha2⟩ := ha
  obtain ⟨A1, c1, rfl, -, -, -⟩ := ha1.open_
  obtain ⟨A2, c2, rfl, -, -, -⟩ := ha2.open_
  obtain ⟨At, ct, rfl, -, -, -⟩ := ht.open_
  rw [up_len] at ht ⊢
  obtain ⟨dn, hd1, hd2, hd3, -, hd4⟩ := T6n_den (tr_mem hn)
  obtain ⟨htl, hlv⟩ := tl_at hn
  have hdp : pw (dn : Int) 10005 = EX.getD (n + 1) 0 := by rw [EX_at' hn]; exact exV_pw hd1
  have HTA := Lib.hid (show TabArg (w.alloc (.cells #[.slice A1 A.length c1, .slice A2 Bs.length c2] 27)) (.agg #[.slice A1 A.length c1, .slice A2 Bs.length c2]) A Bs from ⟨_, _, rfl, ha1.below (below1 w _), ha2.below (below1 w _)⟩)
  have HTR := Lib.hid (ht.below (below1 w (.cells #[.slice A1 A.length c1, .slice A2 Bs.length c2] 27)))
  have HB1 := Lib.hid (below1 w (.cells #[.slice A1 A.length c1, .slice A2 Bs.length c2] 27))
  have HW := Lib.hid (im_weight hT h1 h8 n hn _ _ _ HTA.out HTR.out)
  have HDE := Lib.hid (fun X (hX : Ints X (.slice At (tr n).length ct) (up (tr n))) => i_density 9 X _ (tr n) dn hX hd1 (by omega) hlv)
  have hcb := chT_bd A Bs (p := n + 1) (by omega)
  have hE1 : 0 ≤ EX.getD (n + 1) 0 ∧ EX.getD (n + 1) 0 ≤ 10006 := by rw [← hdp]; exact pw_bd _ _
  have HDP := Lib.hid hdp
  have hdm : (dn : Int) % 10007 = (dn : Int) := by omega
  generalize (chT A Bs).getD (n + 1) 0 = cc at *
  generalize EX.getD (n + 1) 0 = ee at *
  have HIV := Lib.hid (fun X => show Calls Try.prog 151 #[.int .i64 (dn : Int)] X fun e w' => e = .returned (.int .i64 ee) ∧ X = w' from by
    have h := i_inv (dn : Int) X (by omega) (by omega)
    rwa [HDP.out] at h)
  have HNM := Lib.hid (fun X => show Calls Try.prog 148 #[.int .i64 (dn : Int)] X fun e w' => e = .returned (.int .i64 (dn : Int)) ∧ X = w' from by
    have h := i_num (dn : Int) X (by omega) (by omega)
    rwa [hdm] at h)
  have hw1 : wrap64 (cc - ee) = cc - ee := w64_in' _ (by omega)
  have hw2 : IntKind.i64.wrap (cc - ee) = cc - ee := IntWalk.i64_in _ (by omega)
  have hcb' : -4000000000000000000 ≤ cc - ee ∧ cc - ee ≤ 4000000000000000000 := by omega
  clear ha1 ha2 ht hd1 hdp hd4 hcb hE1
  go_enter Try.func104, Try.ntmps104
  go_wp2_with (first
    | (go_at_call 150; go_loud (refine HW.out.mono ?_; rintro e w2 ⟨rfl, hb2⟩; have HB2 := Lib.hid (HB1.out.trans (hb2.mono HB1.out.size)); have HTR2 := Lib.hid (HTR.out.below hb2); clear hb2))
    | (go_at_call 152; go_loud (refine (HDE.out _ HTR2.out).mono ?_; rintro e w3 ⟨rfl, hb3⟩; have HB3 := Lib.hid (HB2.out.trans (hb3.mono HB2.out.size)); clear hb3))
    | (go_at_call 151; refine (HIV.out _).mono ?_; rintro e w4 ⟨rfl, rfl⟩)
    | (go_at_call 148; (with_reducible refine (HNM.out _).mono ?_); rintro e w4 ⟨rfl, rfl⟩)
    | (go_at_call 148; refine (i_num (cc - ee) _ hcb'.1 hcb'.2).mono ?_; rintro e w4 ⟨rfl, rfl⟩))
  go_ret
  exact ⟨rfl, HB3.out⟩
set_option maxHeartbeats 8000000 in
theorem im_order {A : List (List Int)} {Bs : List Int} (hT : SqT A Bs Bs.length) (h1 : 1 ≤ Bs.length) (h8 : Bs.length ≤ 8) (w : World) (va : Value) (ha : TabArg w va A Bs) :
    Calls Try.prog 57 #[va] w fun e w' => e = .returned (.int .i64 (agZ (chT A Bs) EX)) ∧ Below w.heap.size w w' := by
  obtain ⟨va1, vb1, rfl, ha1, ha2⟩ := ha
  obtain ⟨A1, c1, rfl, -, -, -⟩ := ha1.open_
  obtain ⟨A2, c2, rfl, -, -, -⟩ := ha2.open_
  obtain ⟨W, hW⟩ : ∃ W, W = w.alloc (.cells #[.slice A1 A.length c1, .slice A2 Bs.length c2] 27) := ⟨_, rfl⟩
  have hbw : Below w.heap.size w W := by rw [hW]; exact below1 w _
  have HBW := Lib.hid hbw
  have HKF := Lib.hid (show Blk W w.heap.size 27 #[.slice A1 A.length c1, .slice A2 Bs.length c2] from by rw [hW]; exact Blk.new _ _ _)
  have HTA := Lib.hid (show TabArg W (.agg #[.slice A1 A.length c1, .slice A2 Bs.length c2]) A Bs from ⟨_, _, rfl, ha1.below hbw, ha2.below hbw⟩)
  have HLK := Lib.hid (fun n (hn : n < 37) => im_lacking hT h1 h8 n hn)
  have HI0 := Lib.hid (show ∀ i, i < 0 + 1 → (chT A Bs).getD i 0 = EX.getD i 0 from fun i hi => by
    have : i = 0 := by omega
    subst this
    exact chT_zero A Bs)
  clear ha1 ha2 hbw
  go_enter Try.func57, Try.ntmps57
  go_upto_region 1 with fail
  rw [← hW]
  clear hW
  go_wp2_with (go_at_call 103; go_loud (refine (i_treesTo _ 6 (by omega)).mono ?_; rintro e w3 ⟨x3, rfl, hl3, hb3⟩; rw [show allG treesN 6 = T6n from rfl] at hl3; obtain ⟨A3, c3, he3, -, -, -⟩ := hl3.rows.open_; rw [List.length_map, T6n_len] at he3; subst he3; have HX3 := Lib.hid hl3.rows; have HB3 := Lib.hid hb3; clear hl3 hb3))
  go_loopw [7] (fun x wr => ∃ i : Nat, i ≤ 37 ∧ x = .int .i64 i ∧ Hid (∀ k, k < i + 1 → (chT A Bs).getD k 0 = EX.getD k 0) ∧ Below w3.heap.size w3 wr) (fun x _ => 37 - (intOf x).toNat)
  case atStart => exact ⟨0, Nat.zero_le _, rfl, HI0.out, Below.refl _ _⟩
  case round =>
    obtain ⟨i, hi, rfl, HI, hb⟩ := hrel
    rename World => wq
    have HB := Lib.hid hb
    clear hb
    by_cases hlt : i < 37
    · obtain ⟨ad, At, ct, t, rfl, ht, hti, hcr⟩ := (HX3.out.below HB.out).treeB hlt
      have htr := tr_at ht
      subst htr
      have HTI := Lib.hid hti
      have HBQ := Lib.hid (HB3.out.trans (HB.out.mono HB3.out.size))
      have HKQ := Lib.hid (HKF.out.below HBQ.out HKF.out.lt)
      have q0 : wq.cell? ⟨w.heap.size, 0, none⟩ = some (.slice A1 A.length c1) := HKQ.out.cell 0
      have q1 : wq.cell? ⟨w.heap.size, 1, none⟩ = some (.slice A2 Bs.length c2) := HKQ.out.cell 1
      have HLC := Lib.hid (HLK.out i hlt wq _ _ (HTA.out.below HBQ.out) hti)
      have hSZ := tl_at hlt
      have HSN := Lib.hid (sz_tr hlt)
      have hcb := chT_bd A Bs (p := i + 1) (by omega)
      have hE1 : 0 ≤ EX.getD (i + 1) 0 ∧ EX.getD (i + 1) 0 ≤ 10006 := by rw [EX_at' hlt]; have := exV_le (tr i); omega
      have hii : (i : Int) < 37 := by omega
      have hln := hSZ.1
      clear hti ht hSZ
      by_cases hne : (chT A Bs).getD (i + 1) 0 = EX.getD (i + 1) 0
      · have HI2 := Lib.hid (show ∀ k, k < i + 1 + 1 → (chT A Bs).getD k 0 = EX.getD k 0 from fun k hk => by
          by_cases e : k < i + 1
          · exact HI.out k e
          · have : k = i + 1 := by omega
            subst this; exact hne)
        rw [show ((chT A Bs).getD (i + 1) 0 - EX.getD (i + 1) 0) % 10007 = 0 from by omega] at HLC
        clear hne hcb hE1
        go_wp2_with (go_at_call 104; go_loud (refine HLC.out.mono ?_; rintro e w5 ⟨rfl, hb5⟩; have HB5 := Lib.hid (HB.out.trans (hb5.mono HB.out.size)); clear hb5))
        go_roundw
        case rel => exact ⟨i + 1, by omega, by go_num, HI2.out, HB5.out⟩
        case measure => simp [intOf]; omega
      · have HR := Lib.hid (agZ_hit HI.out (by omega) hne)
        rw [HSN.out] at HR
        obtain ⟨dd, hdd⟩ : ∃ dd, dd = ((chT A Bs).getD (i + 1) 0 - EX.getD (i + 1) 0) % 10007 := ⟨_, rfl⟩
        have hdn : (dd != 0) = true := by
          have : dd ≠ 0 := by rw [hdd]; omega
          simp [this]
        rw [← hdd] at HLC
        have hw1 : wrap64 (((tr i).length : Int) - 1) = ((tr i).length : Int) - 1 := w64_in' _ (by omega)
        have hw2 : IntKind.i64.wrap (((tr i).length : Int) - 1) = ((tr i).length : Int) - 1 := IntWalk.i64_in _ (by omega)
        clear hne hcb hE1 hdd
        go_wp2_with (first
          | (go_at_call 104; go_loud (refine HLC.out.mono ?_; rintro e w5 ⟨rfl, hb5⟩; have HB5 := Lib.hid (HBQ.out.trans (hb5.mono HBQ.out.size)); have HT5 := Lib.hid (HTI.out.below hb5); clear hb5))
          | (go_at_call 90; (refine (lib_lengthI _ _ (up (tr i)) HT5.out).mono ?_); rw [up_len]; rintro e w6 ⟨rfl, rfl⟩))
        go_ret
        exact ⟨ret_i64 HR.out.symm, HBW.out.trans (HB5.out.mono HBW.out.size)⟩
    · have hil : i = 37 := by omega
      subst hil
      have HR := Lib.hid (agZ_miss (show ∀ k, k < 38 → (chT A Bs).getD k 0 = EX.getD k 0 from HI.out))
      go_wp2_with fail
      go_ret
      exact ⟨ret_i64 HR.out.symm, HBW.out.trans ((HB3.out.trans (HB.out.mono HB3.out.size)).mono HBW.out.size)⟩
/-- what OrderOf answers -/
def ordR (A : List (List Int)) (Bs : List Int) : Int := if tabB A Bs then agZ (chT A Bs) EX else 0
set_option maxHeartbeats 2000000 in
theorem i_OrderOf (w : World) (v : Value) (A : List (List Int)) (Bs : List Int) (ha : TabArg w v A Bs) :
    Calls Try.prog 14 #[v] w fun e w' => e = .returned (.tuple #[.int .i64 (ordR A Bs), .int .i64 (tabC A Bs)]) ∧ Below w.heap.size w w' := by
  obtain ⟨va1, vb1, rfl, ha1, ha2⟩ := ha
  obtain ⟨A1, c1, rfl, -, -, -⟩ := ha1.open_
  obtain ⟨A2, c2, rfl, -, -, -⟩ := ha2.open_
  obtain ⟨W, hW⟩ : ∃ W, W = w.alloc (.cells #[.slice A1 A.length c1, .slice A2 Bs.length c2] 27) := ⟨_, rfl⟩
  have hbw : Below w.heap.size w W := by rw [hW]; exact below1 w _
  have HBW := Lib.hid hbw
  have HKF := Lib.hid (show Blk W w.heap.size 27 #[.slice A1 A.length c1, .slice A2 Bs.length c2] from by rw [hW]; exact Blk.new _ _ _)
  have HTA := Lib.hid (show TabArg W (.agg #[.slice A1 A.length c1, .slice A2 Bs.length c2]) A Bs from ⟨_, _, rfl, ha1.below hbw, ha2.below hbw⟩)
  have HIT := Lib.hid (i_IsTableau W _ A Bs HTA.out)
  clear ha1 ha2 hbw
  have q0 : W.cell? ⟨w.heap.size, 0, none⟩ = some (.slice A1 A.length c1) := HKF.out.cell 0
  have q1 : W.cell? ⟨w.heap.size, 1, none⟩ = some (.slice A2 Bs.length c2) := HKF.out.cell 1
  go_enter Try.func14, Try.ntmps14
  go_upto_region 1 with fail
  rw [← hW]
  clear hW
  cases hb : tabB A Bs with
  | false =>
    have HR := Lib.hid (show ordR A Bs = 0 by simp [ordR, hb])
    have HC := Lib.hid (show tabC A Bs = 1 by simp [tabC, hb])
    rw [hb] at HIT
    clear hb
    go_wp2_with (go_at_call 49; go_loud (refine HIT.out.mono ?_; rintro e w2 ⟨rfl, hb2⟩; have HB2 := Lib.hid hb2; clear hb2))
    go_ret2
    rw [HR.out, HC.out]
    exact ⟨rfl, HBW.out.trans (HB2.out.mono HBW.out.size)⟩
  | true =>
    have hI := isTab_of hb
    have HR := Lib.hid (show ordR A Bs = agZ (chT A Bs) EX by simp [ordR, hb])
    have HC := Lib.hid (show tabC A Bs = 0 by simp [tabC, hb])
    have HO := Lib.hid (fun X (hX : TabArg X (.agg #[.slice A1 A.length c1, .slice A2 Bs.length c2]) A Bs) => im_order (SqT.of hI) hI.lo hI.hi X _ hX)
    rw [hb] at HIT
    clear hb hI
    go_wp2_with (first
      | (go_at_call 49; go_loud (refine HIT.out.mono ?_; rintro e w2 ⟨rfl, hb2⟩; have HB2 := Lib.hid hb2; have m1 : w2.cell? ⟨w.heap.size, 0, none⟩ = some (.slice A1 A.length c1) := (HKF.out.below hb2 HKF.out.lt).cell 0; have m2 : w2.cell? ⟨w.heap.size, 1, none⟩ = some (.slice A2 Bs.length c2) := (HKF.out.below hb2 HKF.out.lt).cell 1; clear hb2))
      | (go_at_call 57; go_loud (refine (HO.out _ (HTA.out.below HB2.out)).mono ?_; rintro e w3 ⟨rfl, hb3⟩; have HB3 := Lib.hid (HB2.out.trans (hb3.mono HB2.out.size)); clear hb3)))
    go_ret2
    rw [HR.out, HC.out]
    exact ⟨rfl, HBW.out.trans (HB3.out.mono HBW.out.size)⟩
end Go.Proofs.Ytnlaoainhlfemaa

set_option linter.unusedVariables false
set_option linter.unusedSimpArgs false
namespace Go.Proofs.Ytnlaoainhlfemaa
open Go.RowKit

theorem tabB_sq {A : List (List Int)} {B : List Int} {s : Nat} (h : SqT A B s) (h1 : 1 ≤ s) (h8 : s ≤ 8) : tabB A B = true := by
  have hb := h.lb
  have ha := h.la
  simp only [tabB, Bool.and_eq_true, decide_eq_true_eq, List.all_eq_true, inR_iff]
  refine ⟨⟨⟨⟨by omega, by omega⟩, by omega⟩, nums_iff.2 h.ws⟩, fun r hr => ?_⟩
  unfold rowB
  rw [Bool.and_eq_true, decide_eq_true_eq, hb]
  exact ⟨(h.rows r hr).2, nums_iff.2 (h.rows r hr).1⟩
end Go.Proofs.Ytnlaoainhlfemaa

set_option linter.unusedVariables false
set_option linter.unusedSimpArgs false
namespace Go.Proofs.Ytnlaoainhlfemaa
open Go.RowKit

/-- the list with its first i and its last i places turned -/
def revTo (zs : List Int) (i : Nat) : List Int := (List.range zs.length).map fun (p : Nat) => if p < i ∨ zs.length ≤ p + i then zs.getD (zs.length - 1 - p) 0 else zs.getD p 0
theorem revTo_len (zs : List Int) (i : Nat) : (revTo zs i).length = zs.length := by simp [revTo]
theorem revTo_get {zs : List Int} {i p : Nat} (h : p < zs.length) : (revTo zs i)[p]? = some (if p < i ∨ zs.length ≤ p + i then zs.getD (zs.length - 1 - p) 0 else zs.getD p 0) := by
  simp [revTo, h]
theorem revTo_zero (zs : List Int) : revTo zs 0 = zs := by
  refine List.ext_getElem? fun p => ?_
  by_cases h : p < zs.length
  · rw [revTo_get h, if_neg (by omega)]
    simp [List.getD, h]
  · rw [List.getElem?_eq_none (by rw [revTo_len]; omega), List.getElem?_eq_none (by omega)]
theorem revTo_swap {zs : List Int} {i m : Nat} (h : i + m + 1 = zs.length) (hi : i < m) : ((revTo zs i).set i (zs.getD m 0)).set m (zs.getD i 0) = revTo zs (i + 1) := by
  refine List.ext_getElem? fun p => ?_
  by_cases hp : p < zs.length
  · rw [revTo_get hp]
    by_cases h1 : p = m
    · subst h1
      rw [List.getElem?_set_self (by simp [revTo_len]; omega), if_pos (by omega)]
      congr 2
      omega
    · rw [List.getElem?_set_ne (by omega)]
      by_cases h2 : p = i
      · subst h2
        rw [List.getElem?_set_self (by simp [revTo_len]; omega), if_pos (by omega)]
        congr 2
        omega
      · rw [List.getElem?_set_ne (by omega), revTo_get hp]
        congr 1
        by_cases h3 : p < i ∨ zs.length ≤ p + i
        · rw [if_pos h3, if_pos (by omega)]
        · rw [if_neg h3, if_neg (by omega)]
  · rw [List.getElem?_eq_none (by simp [revTo_len]; omega), List.getElem?_eq_none (by rw [revTo_len]; omega)]
theorem revTo_end {zs : List Int} {i m : Nat} (h : i + m + 1 = zs.length) (hi : m ≤ i) : revTo zs i = zs.reverse := by
  refine List.ext_getElem? fun p => ?_
  by_cases hp : p < zs.length
  · rw [revTo_get hp, List.getElem?_reverse hp]
    have hq : zs.length - 1 - p < zs.length := by omega
    rw [List.getElem?_eq_getElem hq]
    congr 1
    by_cases h3 : p < i ∨ zs.length ≤ p + i
    · rw [if_pos h3]; simp [List.getD, hq]
    · rw [if_neg h3]
      have e : zs.length - 1 - p = p := by omega
      simp only [List.getD, e, List.getElem?_eq_getElem hp]
      rfl
  · rw [List.getElem?_eq_none (by rw [revTo_len]; omega), List.getElem?_eq_none (by simp; omega)]

theorem revTo_mid {zs : List Int} {i p : Nat} (h : p < zs.length) (h1 : i ≤ p) (h2 : p + i < zs.length) : (revTo zs i)[p]? = some (zs.getD p 0) := by
  rw [revTo_get h, if_neg (by omega)]

set_option maxRecDepth 100000 in
set_option maxHeartbeats 1000000 in
theorem lib_Reverse (w : World) (B : Nat) (v : Value) (zs : List Int) (ho : OwnInts w B tI v zs) (h1 : 1 ≤ zs.length) (hn : zs.length ≤ 1000) :
    Calls Try.prog 95 #[v] w fun e w' => (∃ x, e = .returned x) ∧ OwnInts w' B tI v zs.reverse ∧ w.grownBy w' v.ownBlock := by
  obtain ⟨ho1, ho2⟩ := ho
  have HIN := Lib.hid ho2
  rcases ho1.cases with ⟨rfl, hz⟩ | ⟨g, cap, cur, rfl, hB, hg, _, hcap, hcm, _⟩
  · have := congrArg List.length hz
    simp [ints] at this
    subst this
    simp at h1
  · rw [ints_len] at ho1 hcap
    have hcap2 : cap ≤ 9223372036854775807 := by simpa [maxLen] using hcm
    have HO1 := Lib.hid ho1
    clear ho1 ho2 hcm
    simp only [ints_len]
    go_enter Try.func95, Try.ntmps95
    go_wp2_with fail
    go_loopw [2, 3] (fun x y wr => ∃ i m : Nat, i + m + 1 = zs.length ∧ x = .int .i64 i ∧ y = .int .i64 m ∧ Own wr B tI (.slice (some ⟨g, 0, none⟩) zs.length cap) (ints (revTo zs i)) ∧ w.grownBy wr (some g)) (fun _ y _ => (intOf y).toNat)
    case atStart => exact ⟨0, zs.length - 1, by omega, rfl, by congr 1; omega, by rw [revTo_zero]; exact HO1.out, World.grownBy.refl _ _⟩
    case round =>
      obtain ⟨i, m, him, rfl, rfl, hown, hgr⟩ := hrel
      by_cases hlt : i < m
      · have e1 := ints_get (revTo_mid (zs := zs) (i := i) (p := m) (by omega) (by omega) (by omega))
        have e2 := ints_get (revTo_mid (zs := zs) (i := i) (p := i) (by omega) (by omega) (by omega))
        obtain ⟨u0, hu0, hcg, hfg, hg2, hg1, hown', hgr'⟩ := hown.storeAt (k := i) (by simp [ints, revTo_len]; omega) (.int .i64 (zs.getD m 0))
        obtain ⟨u1, hu1, hcm, hfm, -, -, -, -⟩ := hown.storeAt (k := m) (by simp [ints, revTo_len]; omega) (.int .i64 (zs.getD m 0))
        obtain rfl : Value.int .i64 (zs.getD i 0) = u0 := by rw [e2] at hu0; simpa using hu0
        obtain rfl : Value.int .i64 (zs.getD m 0) = u1 := by rw [e1] at hu1; simpa using hu1
        obtain ⟨u2, hu2, hc2, hf2, -, -, hown2, hgr2⟩ := hown'.storeAt (k := m) (by simp [ints, revTo_len]; omega) (.int .i64 (zs.getD i 0))
        have hi1 : (i : Int) < (zs.length : Int) := by omega
        have hm1 : (m : Int) < (zs.length : Int) := by omega
        have hi2 : i < zs.length := by omega
        have hm2 : m < zs.length := by omega
        have hne : ¬ i = m := by omega
        have HO := Lib.hid hown2
        have HG := Lib.hid hgr
        have HG1 := Lib.hid hgr'
        have HG2 := Lib.hid hgr2
        have HSW := Lib.hid (revTo_swap him hlt)
        have hc3 : (wr.drew.setCell ⟨g, i, none⟩ (.int .i64 (zs.getD m 0))).cell? ⟨g, m, none⟩ = some u2 := hc2
        have hf3 : (wr.drew.setCell ⟨g, i, none⟩ (.int .i64 (zs.getD m 0))).frozen? ⟨g, m, none⟩ = false := hf2
        clear hc2 hf2
        clear hown hown' hown2 hgr hgr' hgr2 hu0 hu1 hu2 e1 e2
        generalize zs.getD m 0 = x at hcm hc3 hf3 HO HG1 HG2 HSW
        generalize zs.getD i 0 = y at hcg HO HG2 HSW
        go_wp2_with fail
        go_region
        all_goals
          go_wp2_with fail
          go_roundw
          case rel =>
            refine ⟨i + 1, m - 1, by omega, by go_num, by congr 1; omega, ?_, ?_⟩
            · rw [← HSW.out]
              have h := HO.out
              simp only [ints, List.map_set] at h ⊢
              exact h
            · exact ⟨HG2.out.os.trans (HG1.out.os.trans HG.out.os), HG2.out.tape.trans (HG1.out.tape.trans HG.out.tape), HG2.out.output.trans (HG1.out.output.trans HG.out.output), Nat.le_trans HG.out.size (Nat.le_trans HG1.out.size HG2.out.size), fun k hk hne => (HG2.out.block k (Nat.lt_of_lt_of_le hk (Nat.le_trans HG.out.size HG1.out.size)) hne).trans ((HG1.out.block k (Nat.lt_of_lt_of_le hk HG.out.size) hne).trans (HG.out.block k hk hne))⟩
          case measure => simp [intOf]; omega
      · have HO := Lib.hid hown
        have HG := Lib.hid hgr
        have HE := Lib.hid (revTo_end him (by omega))
        clear hown hgr
        go_wp2_with fail
        refine bodyPost_end (v := .tuple #[]) (by simp [results, Try.results95, go_sem]) rfl ⟨⟨_, rfl⟩, ⟨?_, fun z hz => HIN.out z (List.mem_reverse.1 hz)⟩, HG.out⟩
        rw [← HE.out]
        exact HO.out

theorem upTo_reverse (n : Nat) : (upTo n).reverse = downTo n n := by
  refine List.ext_getElem? fun p => ?_
  by_cases hp : p < n
  · rw [List.getElem?_reverse (by rw [upTo_len]; exact hp), upTo_len]
    have hq : n - 1 - p < n := by omega
    simp [upTo, downTo, hp, hq]
  · rw [List.getElem?_eq_none (by simp [upTo_len]; omega), List.getElem?_eq_none (by rw [downTo_len]; omega)]
end Go.Proofs.Ytnlaoainhlfemaa

set_option linter.unusedVariables false
set_option linter.unusedSimpArgs false
namespace Go.Proofs.Ytnlaoainhlfemaa
open Go.RowKit

set_option maxRecDepth 100000 in
set_option maxHeartbeats 2000000 in
theorem s_l10Scale (w : World) (v : Value) (A : List (List Int)) (Bs : List Int) (k : Int) (ha : TabArg w v A Bs) (hT : NumTab A Bs) (h0 : 0 ≤ k) (h1 : k ≤ 10006) :
    Calls Try.prog 53 #[v, .int .i64 k] w fun e w' => ∃ r, e = .returned r ∧ OT w' w.heap.size w'.heap.size r (A.map (scl k)) (scl k Bs) ∧ Below w.heap.size w w' := by
  obtain ⟨va, vb, rfl, hA, hB⟩ := ha
  have HB := Lib.hid hB
  have HA := Lib.hid hA
  obtain ⟨A1, c1, rfl, l1, l2, h3⟩ := hA.open_
  obtain ⟨A2, c2, rfl, -, -, -⟩ := hB.open_
  have H3 := Lib.hid h3
  have hal := hT.la
  have hbl := hT.lb
  have HT := Lib.hid hT
  clear hA hB h3 hT
  go_enter Try.func53, Try.ntmps53
  go_wp2_with fail
  refine (s_l02Times _ _ Bs k (HB.out.below (below2 w _ _)) HT.out.ws (by omega) h0 h1).mono ?_
  rintro e w3 ⟨v3, rfl, ho, hb3⟩
  simp only [size_alloc'] at ho hb3
  obtain ⟨A3, c3, hv, -, -, -⟩ := ho.ints.open_
  rw [scl_len] at hv
  subst hv
  have hs3 := hb3.size
  simp only [size_alloc'] at hs3
  have k0 : Blk w3 w.heap.size 27 #[.slice A1 A.length c1, .slice A2 Bs.length c2] := ((Blk.new w _ _).alloc _).below hb3 (by omega)
  have k1 : Blk w3 (w.heap.size + 1) 27 #[.slice none 0 0, .slice none 0 0] := (Blk.new1 w _ _ _).below hb3 (by omega)
  have g0 : (w3.alloc (.cells #[.slice none 0 0, .slice A3 Bs.length c3] 27)).cell? ⟨w.heap.size, 0, none⟩ = some (.slice A1 A.length c1) := (k0.alloc _).cell 0
  have HF := Lib.hid (show Fill w (w3.alloc (.cells #[.slice none 0 0, .slice A3 Bs.length c3] 27)) w3.heap.size (.slice none 0 0) (.slice A3 Bs.length c3) [] (w.heap.size + 1 + 1) [] (scl k Bs) from
    ⟨Blk.new _ _ _, Own.nil _ _ _, RowsOwn.nil _ _ _ _, (OI.of ho).below (below1 _ _), by omega, ((below2 w _ _).trans (hb3.mono (by omega))).alloc (by omega) _⟩)
  have K1 := Lib.hid (k1.alloc (.cells #[.slice none 0 0, .slice A3 Bs.length c3] 27))
  have X1 := Lib.hid (k0.alloc (.cells #[.slice none 0 0, .slice A3 Bs.length c3] 27))
  have HP := Lib.hid hs3
  clear k0 k1 ho hb3 hs3
  go_wp2_with fail
  clear g0
  generalize hw4 : (w3.alloc (.cells #[.slice none 0 0, .slice A3 Bs.length c3] 27)) = w4 at HF K1 X1
  have HBelow4 := Lib.hid HF.out.below
  clear hw4
  generalize hp : w3.heap.size = p at HF HP ⊢
  clear hp
  go_loopw [6] (fun i wr => ∃ (j : Nat) (va : Value) (vs : List Value), j ≤ A.length ∧ i = .int .i64 j ∧ Fill w wr p va (.slice A3 Bs.length c3) vs (w.heap.size + 1 + 1) ((A.take j).map (scl k)) (scl k Bs) ∧ Blk wr (w.heap.size + 1) 27 #[.slice none 0 0, .slice none 0 0] ∧ Blk wr w.heap.size 27 #[.slice A1 A.length c1, .slice A2 Bs.length c2]) (fun i _ => A.length - (intOf i).toNat)
  case atStart => exact ⟨0, _, [], Nat.zero_le _, rfl, HF.out, K1.out, X1.out⟩
  case round =>
    obtain ⟨j, va, vs, hj, rfl, hfill, hk1, hx1⟩ := hrel
    clear HF K1 X1
    have X1 := Lib.hid hx1
    have x0 : wr.cell? ⟨w.heap.size, 0, none⟩ = some (.slice A1 A.length c1) := X1.out.cell 0
    clear hx1
    have HF := Lib.hid hfill
    have K1 := Lib.hid hk1
    have hvl : vs.length ≤ 1000 := by have := hfill.rows.1; simp at this; omega
    have HV := Lib.hid hvl
    clear hfill hk1 hvl
    by_cases hlt : j < A.length
    · obtain ⟨ad, u, zs, rfl, hz, hu, hc0⟩ := H3.out j hlt
      have hc : wr.cell? (ad.add j) = some u := by
        rw [HF.out.below.cell (by rw [block_add]; have := World.block_lt_of_cell? w _ hc0; rwa [block_add] at this)]; exact hc0
      have HU := Lib.hid (hu.below HF.out.below)
      have HZN := Lib.hid (HT.out.rows zs (List.mem_of_getElem? hz))
      have HZ := Lib.hid hz
      clear hz hu hc0
      have q0 := (HF.out.blk.both (u := va) rfl).1
      have q1 := (HF.out.blk.both (u := va) rfl).2
      go_wp2_with fail
      go_region_law (first | (refine step_app1 T_row (B := p + 1) (v := va) (vs := vs) (HF.out.own.below (below_of_drew hb5)) (by have := HV.out; omega) (by have h1 := HF.out.lt; have h2 := hb5.size; simp at h2; omega) (by rfl) rfl (by rfl) (by rfl) (by rfl) ?_; intro v6 w6 hown6 hgr6; obtain ⟨A6, c6, hv6, -, -⟩ := hown6.cells.open_; subst hv6; have q6 := (((HF.out.after (below_of_drew hb5)).grow hgr6 HF.out.np).both (u := va) rfl).1; have q7 := (((HF.out.after (below_of_drew hb5)).grow hgr6 HF.out.np).both (u := va) rfl).2) | (go_simp; go_at_call 99; refine (s_l02Times _ _ zs k (by exact HU.out) HZN.out.1 (by have := HZN.out.2; omega) h0 h1).mono ?_; rintro e w5 ⟨r5, rfl, ho5, hb5⟩; obtain ⟨A5, c5, hv5, -, -, -⟩ := ho5.ints.open_; rw [scl_len] at hv5; subst hv5; have q5 := ((HF.out.after (below_of_drew hb5)).both (u := va) rfl).1; have q5a : ∀ o, (w5.alloc o).cell? ⟨p, 0, none⟩ = some va := fun o => ((HF.out.after (below_of_drew hb5)).alloc o).cell 0))
      all_goals
        have HN := Lib.hid (HF.out.next (zs := scl k zs) (r := Value.slice A5 zs.length c5) (by have := HP.out; omega) (below_of_drew hb5) ho5 hown6 hgr6)
        have KN := Lib.hid ((((K1.out.below (below_of_drew hb5) K1.out.lt).grow hgr6 (fun e => by have h1 := HF.out.own.ge _ e; have h2 := HP.out; omega))).far (p := ⟨p, 0, none⟩) (by have h2 := HP.out; simp; omega) (Value.slice A6 (vs ++ [Value.slice A5 zs.length c5]).length c6))
        have XN := Lib.hid ((((X1.out.below (below_of_drew hb5) X1.out.lt).grow hgr6 (fun e => by have h1 := HF.out.own.ge _ e; have h2 := HP.out; omega))).far (p := ⟨p, 0, none⟩) (by have h2 := HP.out; simp; omega) (Value.slice A6 (vs ++ [Value.slice A5 zs.length c5]).length c6))
        have HZT := Lib.hid (show (A.take (j + 1)).map (scl k) = (A.take j).map (scl k) ++ [scl k zs] by rw [List.take_add_one, HZ.out]; simp)
        simp only [List.length_append, List.length_singleton] at HN KN XN
        clear hown6 hgr6 ho5 hb5 q0 q1 q5 q5a q6 q7 hc x0
        go_wp2_with fail
        go_roundw
        case rel =>
          refine ⟨j + 1, .slice A6 (vs.length + 1) c6, vs ++ [.slice A5 zs.length c5], by omega, by go_num, ?_, KN.out, XN.out⟩
          rw [HZT.out]
          exact HN.out
        case measure => simp [intOf]; omega
    · have : j = A.length := by omega
      subst this
      rw [List.take_length] at HF
      obtain ⟨A7, c7, hv7, -, -⟩ := HF.out.own.cells.open_
      have hvl : vs.length = A.length := by have := HF.out.rows.1; simp at this; omega
      rw [hvl] at hv7
      subst hv7
      have e0 : wr.cell? ⟨p, 0, none⟩ = some (.slice A7 A.length c7) := HF.out.blk.cell 0
      have e1 : wr.cell? ⟨p, 1, none⟩ = some (.slice A3 Bs.length c3) := HF.out.blk.cell 1
      have f0 : wr.cell? ⟨w.heap.size + 1, 0, none⟩ = some (.slice none 0 0) := K1.out.cell 0
      have f1 : wr.cell? ⟨w.heap.size + 1, 1, none⟩ = some (.slice none 0 0) := K1.out.cell 1
      have f2 := K1.out.frozen 0
      have f3 := K1.out.frozen 1
      have HTAB := Lib.hid (HF.out.tab (by have := HP.out; omega))
      clear hvl
      go_wp2_with fail
      have c0 := Chg.refl (w.heap.size + 1) (w.heap.size + 1 + 1) wr
      have c1' := c0.setCell (p := ⟨w.heap.size + 1, 0, none⟩) (Nat.le_refl _) (by simp) (.slice A7 A.length c7)
      have c2' := c1'.setCell (p := ⟨w.heap.size + 1, 1, none⟩) (Nat.le_refl _) (by simp) (.slice A3 Bs.length c3)
      have hsb := HF.out.below.size
      refine bodyPost_ret (v := .agg #[.slice A7 A.length c7, .slice A3 Bs.length c3]) (by simp [results, Try.results53, go_sem, f0, f1]) rfl ⟨_, rfl, (HTAB.out.kept c2' (.inr (Nat.le_refl _))).mono (by omega) c2'.size, c2'.below HF.out.below (by omega) hsb⟩
end Go.Proofs.Ytnlaoainhlfemaa

