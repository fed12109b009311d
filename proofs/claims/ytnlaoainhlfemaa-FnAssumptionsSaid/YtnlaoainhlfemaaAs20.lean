/- Walks: weight, lacking, order of tableaus, OrderOf. | Walks of helpers of the laws: likeInts, whole9, big. | The law FnAssumptions, walked. Printed by lasgen.py. | Arguments that came in, opened to the words of the Mem text. | Byte slices that came in, opened. -/
import Derived.Test.YtnlaoainhlfemaaAs19
import Derived.Test.YtnlaoainhlfemaaAs7
import Derived.Test.YtnlaoainhlfemaaAs3
import Derived.Test.YtnlaoainhlfemaaAs15
import Derived.Test.YtnlaoainhlfemaaAs14
import Derived.Test.YtnlaoainhlfemaaRows
import Derived.Test.YtnlaoainhlfemaaAs2
import Derived.WalkKit
import Derived.ProofKit
import Derived.OpenShut
set_option maxRecDepth 100000
set_option linter.unusedVariables false
set_option linter.unusedSimpArgs false
namespace Go.Proofs.Ytnlaoainhlfemaa
open Go.RowKit

theorem chT_at (A : List (List Int)) (B : List Int) {p : Nat} (hp : p < 38) : (chT A B).getD p 0 = wgtT B.length (fT A) (fB B) p % 10007 := chF_at _ _ _ hp
theorem chT_bd (A : List (List Int)) (B : List Int) {p : Nat} (hp : p < 38) : 0 ≤ (chT A B).getD p 0 ∧ (chT A B).getD p 0 ≤ 10006 := by
  rw [chT_at A B hp]; omega
theorem chT_zero (A : List (List Int)) (B : List Int) : (chT A B).getD 0 0 = 1 := by
  rw [chT_at A B (by omega)]
  unfold wgtT
  rw [if_pos rfl]
  rfl
theorem EX_at' {n : Nat} (h : n < 37) : EX.getD (n + 1) 0 = ((exV (tr n) : Nat) : Int) := by
  rw [List.getD_eq_getElem?_getD, EX_succ (tr_get h)]
  rfl
set_option maxHeartbeats 4000000 in
theorem im_weight {A : List (List Int)} {Bs : List Int} (hT : SqT A Bs Bs.length) (h1 : 1 ≤ Bs.length) (h8 : Bs.length ≤ 8) (n : Nat) (hn : n < 37) (w : World) (va vt : Value) (ha : TabArg w va A Bs) (ht : Ints w vt (up (tr n))) :
    Calls Try.prog 150 #[va, vt] w fun e w' => e = .returned (.int .i64 ((chT A Bs).getD (n + 1) 0)) ∧ Below w.heap.size w w' := by
  obtain ⟨va1, vb1, rfl, ha1, ha2⟩ := ha
  obtain ⟨A1, c1, rfl, -, -, -⟩ := ha1.open_
  obtain ⟨A2, c2, rfl, -, -, -⟩ := ha2.open_
  obtain ⟨At, ct, rfl, -, -, -⟩ := ht.open_
  rw [up_len] at ht ⊢
  have HZ := Lib.hid (show dtZ Bs (stL A Bs.length (n + 1)) = (chT A Bs).getD (n + 1) 0 from by
    rw [chT_at A Bs (by omega), ← b_st A Bs (Nat.succ_pos n)]
    rfl)
  obtain ⟨W, hW⟩ : ∃ W, W = w.alloc (.cells #[.slice A1 A.length c1, .slice A2 Bs.length c2] 27) := ⟨_, rfl⟩
  have hbw : Below w.heap.size w W := by rw [hW]; exact below1 w _
  have HBW := Lib.hid hbw
  have HKF := Lib.hid (show Blk W w.heap.size 27 #[.slice A1 A.length c1, .slice A2 Bs.length c2] from by rw [hW]; exact Blk.new _ _ _)
  have HTA := Lib.hid (show TabArg W (.agg #[.slice A1 A.length c1, .slice A2 Bs.length c2]) A Bs from ⟨_, _, rfl, ha1.below hbw, ha2.below hbw⟩)
  have HBI := Lib.hid (ha2.below hbw)
  have HTR := Lib.hid (ht.below hbw)
  have HNB := Lib.hid hT.ws
  have HC1 := Lib.hid (show ∀ X, Below W.heap.size W X → Calls Try.prog 188 #[.agg #[.slice A1 A.length c1, .slice A2 Bs.length c2], .slice At (tr n).length ct] X (fun e w' => ∃ x, e = .returned x ∧ OwnInts w' W.heap.size tI x (stL A Bs.length (n + 1)) ∧ Below W.heap.size W w') from fun X hX => by
    have h := im_stageWeights hT h1 h8 (n + 1) n (by omega) hn X _ _ (HTA.out.below hX) (HTR.out.below hX)
    refine h.mono ?_
    rintro e w5 ⟨r5, rfl, ho5, hb5⟩
    exact ⟨r5, rfl, ho5.mono hX.size, hX.trans (hb5.mono hX.size)⟩)
  have HC2 := Lib.hid (show ∀ X r, Below W.heap.size W X → Ints X r (stL A Bs.length (n + 1)) → Calls Try.prog 187 #[.slice A2 Bs.length c2, r] X (fun e w' => e = .returned (.int .i64 ((chT A Bs).getD (n + 1) 0)) ∧ Below W.heap.size W w') from fun X r hX hr => by
    have h := i_dot X (.slice A2 Bs.length c2) r Bs _ (HBI.out.below hX) hr HNB.out (stL_nums _ _ _) (by rw [stL_len]; exact Nat.le_refl _) (by omega)
    rw [HZ.out] at h
    refine h.mono ?_
    rintro e w5 ⟨rfl, rfl⟩
    exact ⟨rfl, hX⟩)
  clear ha1 ha2 ht hT hbw
  generalize (chT A Bs).getD (n + 1) 0 = cc at *
  go_enter Try.func150, Try.ntmps150
  go_upto_region 1 with fail
  rw [← hW]
  clear hW
  have q0 : W.cell? ⟨w.heap.size, 0, none⟩ = some (.slice A1 A.length c1) := HKF.out.cell 0
  have q1 : W.cell? ⟨w.heap.size, 1, none⟩ = some (.slice A2 Bs.length c2) := HKF.out.cell 1
  go_region_law (first
    | (go_simp; go_at_call 188; (with_reducible refine ((HC1.out _ ?_).mono ?_)); (first | exact Below.refl _ _ | exact (Below.refl _ _).drew); go_loud (rintro e w5 ⟨r5, rfl, ho5, hb5⟩; have HO5 := Lib.hid ho5; have HB5 := Lib.hid hb5; have m1 : w5.cell? ⟨w.heap.size, 0, none⟩ = some (.slice A1 A.length c1) := (HKF.out.below hb5 HKF.out.lt).cell 0; have m2 : w5.cell? ⟨w.heap.size, 1, none⟩ = some (.slice A2 Bs.length c2) := (HKF.out.below hb5 HKF.out.lt).cell 1; clear ho5 hb5))
    | (go_simp; go_at_call 187; (with_reducible refine ((HC2.out _ _ ?_ ?_).mono ?_)); (first | exact HB5.out | exact HB5.out.drew); (exact HO5.out.ints); go_loud (rintro e w6 ⟨rfl, hb6⟩; have HB6 := Lib.hid hb6; clear hb6)))
  all_goals
    go_wp2_with fail
    go_ret
    exact ⟨rfl, HBW.out.trans (HB6.out.mono HBW.out.size)⟩
set_option maxHeartbeats 4000000 in
theorem im_lacking {A : List (List Int)} {Bs : List Int} (hT : SqT A Bs Bs.length) (h1 : 1 ≤ Bs.length) (h8 : Bs.length ≤ 8) (n : Nat) (hn : n < 37) (w : World) (va vt : Value) (ha : TabArg w va A Bs) (ht : Ints w vt (up (tr n))) :
    Calls Try.prog 104 #[va, vt] w fun e w' => e = .returned (.int .i64 (((chT A Bs).getD (n + 1) 0 - EX.getD (n + 1) 0) % 10007)) ∧ Below w.heap.size w w' := by
  obtain ⟨va1, vb1, rfl, ha1, ha2⟩ := ha
  obtain ⟨A1, c1, rfl, -, -, -⟩ := ha1.open_
  obtain ⟨A2, c2, rfl, -, -, -⟩ := ha2.open_
  obtain ⟨At, ct, rfl, -, -, -⟩ := ht.open_
  rw [up_len] at ht ⊢
  obtain ⟨dn, hd1, hd2, hd3, -, hd4⟩ := T6n_den (tr_mem hn)
  obtain ⟨htl, hlv⟩ := tl_at hn
  have hdp : pw (dn : Int) 10005 = EX.getD (n + 1) 0 := by rw [EX_at' hn]; exact exV_pw hd1
  have HTA := Lib.hid (show TabArg (w.alloc (.cells #[.slice A1 A.length c1, .slice A2 Bs.length c2] 27)) (.agg #[.slice A1 A.length c1, .slice A2 Bs.length c2]) A Bs from ⟨_, _, rfl, ha1.below (below1 w _), ha2.below (below1 w _)⟩)
  have HTR := Lib.hid (ht.below (below1 w (.cells #[.slice A1 A.length c1, .slice A2 Bs.length c2] 27)))
  have HB1 := Lib.hid (below1 w (.cells #[.slice A1 A.length c1, .slice A2 Bs.length c2] 27))
  have HW := Lib.hid (im_weight hT h1 h8 n hn _ _ _ HTA.out HTR.out)
  have HDE := Lib.hid (fun X (hX : Ints X (.slice At (tr n).length ct) (up (tr n))) => i_density 9 X _ (tr n) dn hX hd1 (by omega) hlv)
  have hcb := chT_bd A Bs (p := n + 1) (by omega)
  have hE1 : 0 ≤ EX.getD (n + 1) 0 ∧ EX.getD (n + 1) 0 ≤ 10006 := by rw [← hdp]; exact pw_bd _ _
  have HDP := Lib.hid hdp
  have hdm : (dn : Int) % 10007 = (dn : Int) := by omega
  generalize (chT A Bs).getD (n + 1) 0 = cc at *
  generalize EX.getD (n + 1) 0 = ee at *
  have HIV := Lib.hid (fun X => show Calls Try.prog 151 #[.int .i64 (dn : Int)] X fun e w' => e = .returned (.int .i64 ee) ∧ X = w' from by
    have h := i_inv (dn : Int) X (by omega) (by omega)
    rwa [HDP.out] at h)
  have HNM := Lib.hid (fun X => show Calls Try.prog 148 #[.int .i64 (dn : Int)] X fun e w' => e = .returned (.int .i64 (dn : Int)) ∧ X = w' from by
    have h := i_num (dn : Int) X (by omega) (by omega)
    rwa [hdm] at h)
  have hw1 : wrap64 (cc - ee) = cc - ee := w64_in' _ (by omega)
  have hw2 : IntKind.i64.wrap (cc - ee) = cc - ee := IntWalk.i64_in _ (by omega)
  have hcb' : -4000000000000000000 ≤ cc - ee ∧ cc - ee ≤ 4000000000000000000 := by omega
  clear ha1 ha2 ht hd1 hdp hd4 hcb hE1
  go_enter Try.func104, Try.ntmps104
  go_wp2_with (first
    | (go_at_call 150; go_loud (refine HW.out.mono ?_; rintro e w2 ⟨rfl, hb2⟩; have HB2 := Lib.hid (HB1.out.trans (hb2.mono HB1.out.size)); have HTR2 := Lib.hid (HTR.out.below hb2); clear hb2))
    | (go_at_call 152; go_loud (refine (HDE.out _ HTR2.out).mono ?_; rintro e w3 ⟨rfl, hb3⟩; have HB3 := Lib.hid (HB2.out.trans (hb3.mono HB2.out.size)); clear hb3))
    | (go_at_call 151; refine (HIV.out _).mono ?_; rintro e w4 ⟨rfl, rfl⟩)
    | (go_at_call 148; (with_reducible refine (HNM.out _).mono ?_); rintro e w4 ⟨rfl, rfl⟩)
    | (go_at_call 148; refine (i_num (cc - ee) _ hcb'.1 hcb'.2).mono ?_; rintro e w4 ⟨rfl, rfl⟩))
  go_ret
  exact ⟨rfl, HB3.out⟩
set_option maxHeartbeats 8000000 in
theorem im_order {A : List (List Int)} {Bs : List Int} (hT : SqT A Bs Bs.length) (h1 : 1 ≤ Bs.length) (h8 : Bs.length ≤ 8) (w : World) (va : Value) (ha : TabArg w va A Bs) :
    Calls Try.prog 57 #[va] w fun e w' => e = .returned (.int .i64 (agZ (chT A Bs) EX)) ∧ Below w.heap.size w w' := by
  obtain ⟨va1, vb1, rfl, ha1, ha2⟩ := ha
  obtain ⟨A1, c1, rfl, -, -, -⟩ := ha1.open_
  obtain ⟨A2, c2, rfl, -, -, -⟩ := ha2.open_
  obtain ⟨W, hW⟩ : ∃ W, W = w.alloc (.cells #[.slice A1 A.length c1, .slice A2 Bs.length c2] 27) := ⟨_, rfl⟩
  have hbw : Below w.heap.size w W := by rw [hW]; exact below1 w _
  have HBW := Lib.hid hbw
  have HKF := Lib.hid (show Blk W w.heap.size 27 #[.slice A1 A.length c1, .slice A2 Bs.length c2] from by rw [hW]; exact Blk.new _ _ _)
  have HTA := Lib.hid (show TabArg W (.agg #[.slice A1 A.length c1, .slice A2 Bs.length c2]) A Bs from ⟨_, _, rfl, ha1.below hbw, ha2.below hbw⟩)
  have HLK := Lib.hid (fun n (hn : n < 37) => im_lacking hT h1 h8 n hn)
  have HI0 := Lib.hid (show ∀ i, i < 0 + 1 → (chT A Bs).getD i 0 = EX.getD i 0 from fun i hi => by
    have : i = 0 := by omega
    subst this
    exact chT_zero A Bs)
  clear ha1 ha2 hbw
  go_enter Try.func57, Try.ntmps57
  go_upto_region 1 with fail
  rw [← hW]
  clear hW
  go_wp2_with (go_at_call 103; go_loud (refine (i_treesTo _ 6 (by omega)).mono ?_; rintro e w3 ⟨x3, rfl, hl3, hb3⟩; rw [show allG treesN 6 = T6n from rfl] at hl3; obtain ⟨A3, c3, he3, -, -, -⟩ := hl3.rows.open_; rw [List.length_map, T6n_len] at he3; subst he3; have HX3 := Lib.hid hl3.rows; have HB3 := Lib.hid hb3; clear hl3 hb3))
  go_loopw [7] (fun x wr => ∃ i : Nat, i ≤ 37 ∧ x = .int .i64 i ∧ Hid (∀ k, k < i + 1 → (chT A Bs).getD k 0 = EX.getD k 0) ∧ Below w3.heap.size w3 wr) (fun x _ => 37 - (intOf x).toNat)
  case atStart => exact ⟨0, Nat.zero_le _, rfl, HI0.out, Below.refl _ _⟩
  case round =>
    obtain ⟨i, hi, rfl, HI, hb⟩ := hrel
    rename World => wq
    have HB := Lib.hid hb
    clear hb
    by_cases hlt : i < 37
    · obtain ⟨ad, At, ct, t, rfl, ht, hti, hcr⟩ := (HX3.out.below HB.out).treeB hlt
      have htr := tr_at ht
      subst htr
      have HTI := Lib.hid hti
      have HBQ := Lib.hid (HB3.out.trans (HB.out.mono HB3.out.size))
      have HKQ := Lib.hid (HKF.out.below HBQ.out HKF.out.lt)
      have q0 : wq.cell? ⟨w.heap.size, 0, none⟩ = some (.slice A1 A.length c1) := HKQ.out.cell 0
      have q1 : wq.cell? ⟨w.heap.size, 1, none⟩ = some (.slice A2 Bs.length c2) := HKQ.out.cell 1
      have HLC := Lib.hid (HLK.out i hlt wq _ _ (HTA.out.below HBQ.out) hti)
      have hSZ := tl_at hlt
      have HSN := Lib.hid (sz_tr hlt)
      have hcb := chT_bd A Bs (p := i + 1) (by omega)
      have hE1 : 0 ≤ EX.getD (i + 1) 0 ∧ EX.getD (i + 1) 0 ≤ 10006 := by rw [EX_at' hlt]; have := exV_le (tr i); omega
      have hii : (i : Int) < 37 := by omega
      have hln := hSZ.1
      clear hti ht hSZ
      by_cases hne : (chT A Bs).getD (i + 1) 0 = EX.getD (i + 1) 0
      · have HI2 := Lib.hid (show ∀ k, k < i + 1 + 1 → (chT A Bs).getD k 0 = EX.getD k 0 from fun k hk => by
          by_cases e : k < i + 1
          · exact HI.out k e
          · have : k = i + 1 := by omega
            subst this; exact hne)
        rw [show ((chT A Bs).getD (i + 1) 0 - EX.getD (i + 1) 0) % 10007 = 0 from by omega] at HLC
        clear hne hcb hE1
        go_wp2_with (go_at_call 104; go_loud (refine HLC.out.mono ?_; rintro e w5 ⟨rfl, hb5⟩; have HB5 := Lib.hid (HB.out.trans (hb5.mono HB.out.size)); clear hb5))
        go_roundw
        case rel => exact ⟨i + 1, by omega, by go_num, HI2.out, HB5.out⟩
        case measure => simp [intOf]; omega
      · have HR := Lib.hid (agZ_hit HI.out (by omega) hne)
        rw [HSN.out] at HR
        obtain ⟨dd, hdd⟩ : ∃ dd, dd = ((chT A Bs).getD (i + 1) 0 - EX.getD (i + 1) 0) % 10007 := ⟨_, rfl⟩
        have hdn : (dd != 0) = true := by
          have : dd ≠ 0 := by rw [hdd]; omega
          simp [this]
        rw [← hdd] at HLC
        have hw1 : wrap64 (((tr i).length : Int) - 1) = ((tr i).length : Int) - 1 := w64_in' _ (by omega)
        have hw2 : IntKind.i64.wrap (((tr i).length : Int) - 1) = ((tr i).length : Int) - 1 := IntWalk.i64_in _ (by omega)
        clear hne hcb hE1 hdd
        go_wp2_with (first
          | (go_at_call 104; go_loud (refine HLC.out.mono ?_; rintro e w5 ⟨rfl, hb5⟩; have HB5 := Lib.hid (HBQ.out.trans (hb5.mono HBQ.out.size)); have HT5 := Lib.hid (HTI.out.below hb5); clear hb5))
          | (go_at_call 90; (refine (lib_lengthI _ _ (up (tr i)) HT5.out).mono ?_); rw [up_len]; rintro e w6 ⟨rfl, rfl⟩))
        go_ret
        exact ⟨ret_i64 HR.out.symm, HBW.out.trans (HB5.out.mono HBW.out.size)⟩
    · have hil : i = 37 := by omega
      subst hil
      have HR := Lib.hid (agZ_miss (show ∀ k, k < 38 → (chT A Bs).getD k 0 = EX.getD k 0 from HI.out))
      go_wp2_with fail
      go_ret
      exact ⟨ret_i64 HR.out.symm, HBW.out.trans ((HB3.out.trans (HB.out.mono HB3.out.size)).mono HBW.out.size)⟩
/-- what OrderOf answers -/
def ordR (A : List (List Int)) (Bs : List Int) : Int := if tabB A Bs then agZ (chT A Bs) EX else 0
set_option maxHeartbeats 2000000 in
theorem i_OrderOf (w : World) (v : Value) (A : List (List Int)) (Bs : List Int) (ha : TabArg w v A Bs) :
    Calls Try.prog 14 #[v] w fun e w' => e = .returned (.tuple #[.int .i64 (ordR A Bs), .int .i64 (tabC A Bs)]) ∧ Below w.heap.size w w' := by
  obtain ⟨va1, vb1, rfl, ha1, ha2⟩ := ha
  obtain ⟨A1, c1, rfl, -, -, -⟩ := ha1.open_
  obtain ⟨A2, c2, rfl, -, -, -⟩ := ha2.open_
  obtain ⟨W, hW⟩ : ∃ W, W = w.alloc (.cells #[.slice A1 A.length c1, .slice A2 Bs.length c2] 27) := ⟨_, rfl⟩
  have hbw : Below w.heap.size w W := by rw [hW]; exact below1 w _
  have HBW := Lib.hid hbw
  have HKF := Lib.hid (show Blk W w.heap.size 27 #[.slice A1 A.length c1, .slice A2 Bs.length c2] from by rw [hW]; exact Blk.new _ _ _)
  have HTA := Lib.hid (show TabArg W (.agg #[.slice A1 A.length c1, .slice A2 Bs.length c2]) A Bs from ⟨_, _, rfl, ha1.below hbw, ha2.below hbw⟩)
  have HIT := Lib.hid (i_IsTableau W _ A Bs HTA.out)
  clear ha1 ha2 hbw
  have q0 : W.cell? ⟨w.heap.size, 0, none⟩ = some (.slice A1 A.length c1) := HKF.out.cell 0
  have q1 : W.cell? ⟨w.heap.size, 1, none⟩ = some (.slice A2 Bs.length c2) := HKF.out.cell 1
  go_enter Try.func14, Try.ntmps14
  go_upto_region 1 with fail
  rw [← hW]
  clear hW
  cases hb : tabB A Bs with
  | false =>
    have HR := Lib.hid (show ordR A Bs = 0 by simp [ordR, hb])
    have HC := Lib.hid (show tabC A Bs = 1 by simp [tabC, hb])
    rw [hb] at HIT
    clear hb
    go_wp2_with (go_at_call 49; go_loud (refine HIT.out.mono ?_; rintro e w2 ⟨rfl, hb2⟩; have HB2 := Lib.hid hb2; clear hb2))
    go_ret2
    rw [HR.out, HC.out]
    exact ⟨rfl, HBW.out.trans (HB2.out.mono HBW.out.size)⟩
  | true =>
    have hI := isTab_of hb
    have HR := Lib.hid (show ordR A Bs = agZ (chT A Bs) EX by simp [ordR, hb])
    have HC := Lib.hid (show tabC A Bs = 0 by simp [tabC, hb])
    have HO := Lib.hid (fun X (hX : TabArg X (.agg #[.slice A1 A.length c1, .slice A2 Bs.length c2]) A Bs) => im_order (SqT.of hI) hI.lo hI.hi X _ hX)
    rw [hb] at HIT
    clear hb hI
    go_wp2_with (first
      | (go_at_call 49; go_loud (refine HIT.out.mono ?_; rintro e w2 ⟨rfl, hb2⟩; have HB2 := Lib.hid hb2; have m1 : w2.cell? ⟨w.heap.size, 0, none⟩ = some (.slice A1 A.length c1) := (HKF.out.below hb2 HKF.out.lt).cell 0; have m2 : w2.cell? ⟨w.heap.size, 1, none⟩ = some (.slice A2 Bs.length c2) := (HKF.out.below hb2 HKF.out.lt).cell 1; clear hb2))
      | (go_at_call 57; go_loud (refine (HO.out _ (HTA.out.below HB2.out)).mono ?_; rintro e w3 ⟨rfl, hb3⟩; have HB3 := Lib.hid (HB2.out.trans (hb3.mono HB2.out.size)); clear hb3)))
    go_ret2
    rw [HR.out, HC.out]
    exact ⟨rfl, HBW.out.trans (HB3.out.mono HBW.out.size)⟩
end Go.Proofs.Ytnlaoainhlfemaa

set_option maxRecDepth 100000
set_option linter.unusedVariables false
set_option linter.unusedSimpArgs false
namespace Go.Proofs.Ytnlaoainhlfemaa
open Go.RowKit

set_option maxHeartbeats 400000 in
theorem l_big (w : World) (A : Option Addr) (n c : Nat) :
    Calls Try.prog 8 #[.slice A n c] w fun e w' => e = .returned (.bool (decide (4096 < n))) ∧ w = w' := by
  by_cases h : 4096 < n
  · have hd : (4096 : Int) < (n : Int) := by omega
    have HD := Lib.hid (show decide (4096 < n) = true by simp [h])
    clear h
    go_enter Try.func8, Try.ntmps8
    go_wp2_with fail
    go_ret
    exact ⟨ret_bool HD.out.symm, rfl⟩
  · have hd : ¬ ((4096 : Int) < (n : Int)) := by omega
    have HD := Lib.hid (show decide (4096 < n) = false by simp [h])
    clear h
    go_enter Try.func8, Try.ntmps8
    go_wp2_with fail
    go_ret
    exact ⟨ret_bool HD.out.symm, rfl⟩
end Go.Proofs.Ytnlaoainhlfemaa

set_option maxRecDepth 100000
set_option linter.unusedVariables false
set_option linter.unusedSimpArgs false
namespace Go.Proofs.Ytnlaoainhlfemaa
open Go.RowKit

theorem wrap_both {x : Int} (h : -9000000000000000000 ≤ x ∧ x ≤ 9000000000000000000) : wrap64 x = x ∧ IntKind.i64.wrap x = x := ⟨w64_in' _ (by omega), IntWalk.i64_in _ (by omega)⟩
theorem imp_le (p q r : Nat) : impO p q r ≤ p ∧ impO p q r ≤ 2 * q + 2 ∧ impO p q r ≤ q + r + 1 := by unfold impO; omega
def topN (p q r k : Nat) : Nat := if k = 0 then p else if k = 1 then q else r
theorem topN_at (p q r : Nat) {k : Nat} (hk : k < 3) : ([(p : Int), (q : Int), (r : Int)]).getD k 0 = ((topN p q r k : Nat) : Int) := by
  rcases (show k = 0 ∨ k = 1 ∨ k = 2 by omega) with rfl | rfl | rfl <;> rfl
theorem topN_oM (A : List (List Int)) (B : List Int) {k : Nat} (hk : k < 3) : oM A B (k : Int) = topN (oM A B 0) (oM A B 1) (oM A B 2) k := by
  rcases (show k = 0 ∨ k = 1 ∨ k = 2 by omega) with rfl | rfl | rfl <;> rfl
set_option maxHeartbeats 64000000 in
theorem law_Assumptions (w : World) (v : Value) (n : Nat) (h : Bts w v n) :
    Calls Try.prog 4 #[v] w fun e w' => e = .returned (.bool true) ∧ Below w.heap.size w w' := by
  obtain ⟨A, c, rfl, hb⟩ := h
  have HBG := Lib.hid (l_big w A n c)
  by_cases h4 : 4096 < n
  · have hd : decide (4096 < n) = true := by simp [h4]
    rw [hd] at HBG
    clear hd h4 hb
    go_enter Try.func4, Try.ntmps4
    go_wp2_with (go_at_call 8; refine HBG.out.mono ?_; rintro e w0 ⟨rfl, rfl⟩)
    go_ret
    exact ⟨rfl, Below.refl _ _⟩
  · have hd : decide (4096 < n) = false := by simp [h4]
    rw [hd] at HBG
    have HDR := Lib.hid (s_DrawImpliedOrder w A n c hb (by omega))
    clear hd h4 hb
    go_enter Try.func4, Try.ntmps4
    go_upto_region 4 with (first
      | (go_at_call 8; refine HBG.out.mono ?_; rintro e w0 ⟨rfl, rfl⟩)
      | (go_at_call 16; go_loud (refine HDR.out.mono ?_; rintro e w1 ⟨x, rfl, ⟨X, Bs, hx⟩, hb1⟩; obtain ⟨Aa, ca, Ab, cb, rfl⟩ := hx.open_; have HX1 := Lib.hid hx; have HB1 := Lib.hid hb1; clear hx hb1)))
    clear HBG HDR
    obtain ⟨qx, hqx⟩ : ∃ q, q = w1.heap.size := ⟨_, rfl⟩
    obtain ⟨W0, hW0⟩ : ∃ W0, W0 = w1.alloc (.cells #[.slice Aa X.length ca, .slice Ab Bs.length cb] tTb) := ⟨_, rfl⟩
    have HX80 := Lib.hid (show TabArg W0 (.agg #[.slice Aa X.length ca, .slice Ab Bs.length cb]) X Bs from by rw [hW0]; exact HX1.out.below (below1 _ _))
    have HBW := Lib.hid (show Below w.heap.size w W0 from by rw [hW0]; exact HB1.out.trans ((below1 w1 _).mono HB1.out.size))
    have HK80 := Lib.hid (show Blk W0 qx tTb #[.slice Aa X.length ca, .slice Ab Bs.length cb] from by rw [hW0, hqx]; exact Blk.new _ _ _)
    rw [← hW0, ← hqx]
    clear hW0 hqx HX1 HB1
    cases htx : tabB X Bs with
    | false =>
      have HT := Lib.hid (show (tabC X Bs = 1 ∧ impR X Bs = 0) ∧ ∀ k, oMR X Bs k = 0 from ⟨⟨by simp [tabC, htx], by simp [impR, htx]⟩, fun k => by simp [oMR, htx]⟩)
      clear htx
      have HC := Lib.hid (i_ImpliedOrder W0 _ X Bs HX80.out)
      simp only [HT.out.1.1, HT.out.1.2, HT.out.2] at HC
      have c80a : W0.cell? ⟨qx, 0, none⟩ = some (.slice Aa X.length ca) := HK80.out.cell 0
      have c80b : W0.cell? ⟨qx, 1, none⟩ = some (.slice Ab Bs.length cb) := HK80.out.cell 1
      go_upto_region 5 with (go_at_call 17; go_loud (refine HC.out.mono ?_; rintro e w1 ⟨rfl, hb⟩; have HBs := Lib.hid (hb); clear hb))
      clear HC
      clear c80a c80b
      have HX80 := Lib.hid (HX80.out.below HBs.out)
      have HK80 := Lib.hid (HK80.out.below HBs.out HK80.out.lt)
      have HBW := Lib.hid (HBW.out.trans (HBs.out.mono HBW.out.size))
      clear HBs
      have HC := Lib.hid (s_ImpliedOrder w1 _ X Bs HX80.out)
      simp only [HT.out.1.1, HT.out.1.2, HT.out.2] at HC
      have c80a : w1.cell? ⟨qx, 0, none⟩ = some (.slice Aa X.length ca) := HK80.out.cell 0
      have c80b : w1.cell? ⟨qx, 1, none⟩ = some (.slice Ab Bs.length cb) := HK80.out.cell 1
      go_upto_region 6 with (go_at_call 18; go_loud (refine HC.out.mono ?_; rintro e w2 ⟨rfl, hb⟩; have HBs := Lib.hid (hb); clear hb))
      clear HC
      clear c80a c80b
      have HX80 := Lib.hid (HX80.out.below HBs.out)
      have HK80 := Lib.hid (HK80.out.below HBs.out HK80.out.lt)
      have HBW := Lib.hid (HBW.out.trans (HBs.out.mono HBW.out.size))
      clear HBs
      have HC := Lib.hid (i_QuadratureOrder w2 _ X Bs HX80.out)
      simp only [HT.out.1.1, HT.out.1.2, HT.out.2] at HC
      have c80a : w2.cell? ⟨qx, 0, none⟩ = some (.slice Aa X.length ca) := HK80.out.cell 0
      have c80b : w2.cell? ⟨qx, 1, none⟩ = some (.slice Ab Bs.length cb) := HK80.out.cell 1
      go_upto_region 9 with (go_at_call 19; go_loud (refine HC.out.mono ?_; rintro e w3 ⟨rfl, hb⟩; have HBs := Lib.hid (hb); clear hb))
      clear HC
      clear c80a c80b
      have HX80 := Lib.hid (HX80.out.below HBs.out)
      have HK80 := Lib.hid (HK80.out.below HBs.out HK80.out.lt)
      have HBW := Lib.hid (HBW.out.trans (HBs.out.mono HBW.out.size))
      clear HBs
      have HC := Lib.hid (i_StageOrderOf w3 _ X Bs HX80.out)
      simp only [HT.out.1.1, HT.out.1.2, HT.out.2] at HC
      have c80a : w3.cell? ⟨qx, 0, none⟩ = some (.slice Aa X.length ca) := HK80.out.cell 0
      have c80b : w3.cell? ⟨qx, 1, none⟩ = some (.slice Ab Bs.length cb) := HK80.out.cell 1
      go_upto_region 10 with (go_at_call 20; go_loud (refine HC.out.mono ?_; rintro e w4 ⟨rfl, hb⟩; have HBs := Lib.hid (hb); clear hb))
      clear HC
      clear c80a c80b
      have HX80 := Lib.hid (HX80.out.below HBs.out)
      have HK80 := Lib.hid (HK80.out.below HBs.out HK80.out.lt)
      have HBW := Lib.hid (HBW.out.trans (HBs.out.mono HBW.out.size))
      clear HBs
      have HC := Lib.hid (i_ColumnOrder w4 _ X Bs HX80.out)
      simp only [HT.out.1.1, HT.out.1.2, HT.out.2] at HC
      have c80a : w4.cell? ⟨qx, 0, none⟩ = some (.slice Aa X.length ca) := HK80.out.cell 0
      have c80b : w4.cell? ⟨qx, 1, none⟩ = some (.slice Ab Bs.length cb) := HK80.out.cell 1
      go_upto_region 11 with (go_at_call 21; go_loud (refine HC.out.mono ?_; rintro e w5 ⟨rfl, hb⟩; have HBs := Lib.hid (hb); clear hb))
      clear HC
      clear c80a c80b
      have HX80 := Lib.hid (HX80.out.below HBs.out)
      have HK80 := Lib.hid (HK80.out.below HBs.out HK80.out.lt)
      have HBW := Lib.hid (HBW.out.trans (HBs.out.mono HBW.out.size))
      clear HBs
      go_wp2_with fail
      go_ret
      exact ⟨rfl, HBW.out⟩
    | true =>
      have hI := isTab_of htx
      have HI := Lib.hid hI
      have hAS := assum_T (SqT.of hI)
      have HAS := Lib.hid hAS
      have HTX := Lib.hid htx
      have HT := Lib.hid (show ((tabC X Bs = 0 ∧ impR X Bs = ((impO (oM X Bs 0) (oM X Bs 1) (oM X Bs 2) : Nat) : Int)) ∧ ordR X Bs = agZ (chT X Bs) EX) ∧ ∀ k, oMR X Bs k = ((oM X Bs k : Nat) : Int) from ⟨⟨⟨by simp [tabC, htx], by simp [impR, impM, htx]⟩, by simp [ordR, htx]⟩, fun k => by simp [oMR, htx]⟩)
      have hb0 := oM_le X Bs 0
      have hb1 := oM_le X Bs 1
      have hb2 := oM_le X Bs 2
      have HMA := Lib.hid (fun (k : Nat) (hk : k < 3) (n : Int) (n0 : 0 ≤ n) (n1 : n ≤ 16) X0 va ha => i_MeetsAssumption HTX.out ((k : Nat) : Int) n (by omega) (by omega) n0 n1 X0 va ha)
      have HTO := Lib.hid (fun (k : Nat) (hk : k < 3) => topN_oM X Bs hk)
      have hag := agZ_bd (chT X Bs) EX
      have hAS1 := HAS.out.1
      have hAS2 := HAS.out.2
      unfold impM at hAS1
      clear htx hI hAS
      obtain ⟨p, hp⟩ : ∃ p, p = oM X Bs 0 := ⟨_, rfl⟩
      obtain ⟨q, hq⟩ : ∃ q, q = oM X Bs 1 := ⟨_, rfl⟩
      obtain ⟨r, hr⟩ : ∃ r, r = oM X Bs 2 := ⟨_, rfl⟩
      obtain ⟨o, ho⟩ : ∃ o, o = agZ (chT X Bs) EX := ⟨_, rfl⟩
      rw [← hp, ← hq, ← hr, ← ho] at hAS1
      rw [← hp, ← ho] at hAS2
      rw [← hp] at hb0
      rw [← hq] at hb1
      rw [← hr] at hb2
      rw [← ho] at hag
      have HE := Lib.hid (And.intro (And.intro hp hq) (And.intro hr ho))
      have HTO := Lib.hid (show ∀ k : Nat, k < 3 → oM X Bs (k : Int) = topN p q r k from fun k hk => by rw [HTO.out k hk, hp, hq, hr])
      obtain ⟨i1, i2, i3⟩ := imp_le p q r
      obtain ⟨im, him⟩ : ∃ im, im = impO p q r := ⟨_, rfl⟩
      rw [← him] at hAS1 i1 i2 i3
      have HIM := Lib.hid him
      clear hp hq hr ho him
      have HC := Lib.hid (i_ImpliedOrder W0 _ X Bs HX80.out)
      simp only [HT.out.1.1.1, HT.out.1.1.2, HT.out.2, ← HE.out.1.1, ← HE.out.1.2, ← HE.out.2.1, ← HIM.out] at HC
      have c80a : W0.cell? ⟨qx, 0, none⟩ = some (.slice Aa X.length ca) := HK80.out.cell 0
      have c80b : W0.cell? ⟨qx, 1, none⟩ = some (.slice Ab Bs.length cb) := HK80.out.cell 1
      go_upto_region 5 with (go_at_call 17; go_loud (refine HC.out.mono ?_; rintro e w6 ⟨rfl, hb⟩; have HBs := Lib.hid (hb); clear hb))
      clear HC
      clear c80a c80b
      have HX80 := Lib.hid (HX80.out.below HBs.out)
      have HK80 := Lib.hid (HK80.out.below HBs.out HK80.out.lt)
      have HBW := Lib.hid (HBW.out.trans (HBs.out.mono HBW.out.size))
      clear HBs
      have HC := Lib.hid (s_ImpliedOrder w6 _ X Bs HX80.out)
      simp only [HT.out.1.1.1, HT.out.1.1.2, HT.out.2, ← HE.out.1.1, ← HE.out.1.2, ← HE.out.2.1, ← HIM.out] at HC
      have c80a : w6.cell? ⟨qx, 0, none⟩ = some (.slice Aa X.length ca) := HK80.out.cell 0
      have c80b : w6.cell? ⟨qx, 1, none⟩ = some (.slice Ab Bs.length cb) := HK80.out.cell 1
      go_upto_region 6 with (go_at_call 18; go_loud (refine HC.out.mono ?_; rintro e w7 ⟨rfl, hb⟩; have HBs := Lib.hid (hb); clear hb))
      clear HC
      clear c80a c80b
      have HX80 := Lib.hid (HX80.out.below HBs.out)
      have HK80 := Lib.hid (HK80.out.below HBs.out HK80.out.lt)
      have HBW := Lib.hid (HBW.out.trans (HBs.out.mono HBW.out.size))
      clear HBs
      have HC := Lib.hid (i_QuadratureOrder w7 _ X Bs HX80.out)
      simp only [HT.out.1.1.1, HT.out.1.1.2, HT.out.2, ← HE.out.1.1, ← HE.out.1.2, ← HE.out.2.1, ← HIM.out] at HC
      have c80a : w7.cell? ⟨qx, 0, none⟩ = some (.slice Aa X.length ca) := HK80.out.cell 0
      have c80b : w7.cell? ⟨qx, 1, none⟩ = some (.slice Ab Bs.length cb) := HK80.out.cell 1
      go_upto_region 9 with (go_at_call 19; go_loud (refine HC.out.mono ?_; rintro e w8 ⟨rfl, hb⟩; have HBs := Lib.hid (hb); clear hb))
      clear HC
      clear c80a c80b
      have HX80 := Lib.hid (HX80.out.below HBs.out)
      have HK80 := Lib.hid (HK80.out.below HBs.out HK80.out.lt)
      have HBW := Lib.hid (HBW.out.trans (HBs.out.mono HBW.out.size))
      clear HBs
      have HC := Lib.hid (i_StageOrderOf w8 _ X Bs HX80.out)
      simp only [HT.out.1.1.1, HT.out.1.1.2, HT.out.2, ← HE.out.1.1, ← HE.out.1.2, ← HE.out.2.1, ← HIM.out] at HC
      have c80a : w8.cell? ⟨qx, 0, none⟩ = some (.slice Aa X.length ca) := HK80.out.cell 0
      have c80b : w8.cell? ⟨qx, 1, none⟩ = some (.slice Ab Bs.length cb) := HK80.out.cell 1
      go_upto_region 10 with (go_at_call 20; go_loud (refine HC.out.mono ?_; rintro e w9 ⟨rfl, hb⟩; have HBs := Lib.hid (hb); clear hb))
      clear HC
      clear c80a c80b
      have HX80 := Lib.hid (HX80.out.below HBs.out)
      have HK80 := Lib.hid (HK80.out.below HBs.out HK80.out.lt)
      have HBW := Lib.hid (HBW.out.trans (HBs.out.mono HBW.out.size))
      clear HBs
      have HC := Lib.hid (i_ColumnOrder w9 _ X Bs HX80.out)
      simp only [HT.out.1.1.1, HT.out.1.1.2, HT.out.2, ← HE.out.1.1, ← HE.out.1.2, ← HE.out.2.1, ← HIM.out] at HC
      have c80a : w9.cell? ⟨qx, 0, none⟩ = some (.slice Aa X.length ca) := HK80.out.cell 0
      have c80b : w9.cell? ⟨qx, 1, none⟩ = some (.slice Ab Bs.length cb) := HK80.out.cell 1
      go_upto_region 11 with (go_at_call 21; go_loud (refine HC.out.mono ?_; rintro e w10 ⟨rfl, hb⟩; have HBs := Lib.hid (hb); clear hb))
      clear HC
      clear c80a c80b
      have HX80 := Lib.hid (HX80.out.below HBs.out)
      have HK80 := Lib.hid (HK80.out.below HBs.out HK80.out.lt)
      have HBW := Lib.hid (HBW.out.trans (HBs.out.mono HBW.out.size))
      clear HBs
      have HC := Lib.hid (i_OrderOf w10 _ X Bs HX80.out)
      rw [HT.out.1.1.1, HT.out.1.2, ← HE.out.2.2] at HC
      have c80a : w10.cell? ⟨qx, 0, none⟩ = some (.slice Aa X.length ca) := HK80.out.cell 0
      have c80b : w10.cell? ⟨qx, 1, none⟩ = some (.slice Ab Bs.length cb) := HK80.out.cell 1
      go_upto_region 14 with (go_at_call 14; go_loud (refine HC.out.mono ?_; rintro e w11 ⟨rfl, hb⟩; have HBs := Lib.hid (hb); clear hb))
      clear HC
      clear c80a c80b
      have HX80 := Lib.hid (HX80.out.below HBs.out)
      have HK80 := Lib.hid (HK80.out.below HBs.out HK80.out.lt)
      have HBW := Lib.hid (HBW.out.trans (HBs.out.mono HBW.out.size))
      clear HBs
      have e1 : ¬ (o < (im : Int)) := by omega
      have e2 : ¬ ((p : Int) < o) := by omega
      have e3 : ¬ ((p : Int) < (im : Int)) := by omega
      have e4 : ¬ (2 * (q : Int) + 2 < (im : Int)) := by omega
      have e5 : ¬ ((q : Int) + (r : Int) + 1 < (im : Int)) := by omega
      have t1 : -9000000000000000000 ≤ 2 * (q : Int) ∧ 2 * (q : Int) ≤ 9000000000000000000 := by omega
      have t2 : -9000000000000000000 ≤ 2 * (q : Int) + 2 ∧ 2 * (q : Int) + 2 ≤ 9000000000000000000 := by omega
      have t3 : -9000000000000000000 ≤ (q : Int) + (r : Int) ∧ (q : Int) + (r : Int) ≤ 9000000000000000000 := by omega
      have t4 : -9000000000000000000 ≤ (q : Int) + (r : Int) + 1 ∧ (q : Int) + (r : Int) + 1 ≤ 9000000000000000000 := by omega
      obtain ⟨hw1, hw2⟩ := wrap_both t1
      obtain ⟨hw3, hw4⟩ := wrap_both t2
      obtain ⟨hw5, hw6⟩ := wrap_both t3
      obtain ⟨hw7, hw8⟩ := wrap_both t4
      clear t1 t2 t3 t4
      go_upto_region 17 with fail
      clear e1 e2 e3 e4 e5 hw1 hw2 hw3 hw4 hw5 hw6 hw7 hw8 hAS1 hAS2 i1 i2 i3 hag
      obtain ⟨W9, hW9⟩ : ∃ W9, W9 = w11.alloc (.cells #[.int .i64 (p : Int), .int .i64 (q : Int), .int .i64 (r : Int)] tI) := ⟨_, rfl⟩
      have HBs := Lib.hid (show Below w11.heap.size w11 W9 from by rw [hW9]; exact below1 _ _)
      have HTP := Lib.hid (show OwnInts W9 w11.heap.size tI (.slice (some ⟨w11.heap.size, 0, none⟩) 3 3) [(p : Int), (q : Int), (r : Int)] from by
        rw [hW9]
        refine ⟨own_lit w11 tI [.int .i64 (p : Int), .int .i64 (q : Int), .int .i64 (r : Int)] (by simp [maxLen]), fun z hz => ?_⟩
        simp only [List.mem_cons, List.not_mem_nil, or_false] at hz
        unfold In64
        rcases hz with rfl | rfl | rfl <;> omega)
      obtain ⟨qt, hqt⟩ : ∃ qt, qt = w11.heap.size := ⟨_, rfl⟩
      have HQT := Lib.hid hqt
      rw [← hW9, ← hqt]
      rw [← hqt] at HTP
      clear hW9 hqt
      have HX80 := Lib.hid (HX80.out.below HBs.out)
      have HK80 := Lib.hid (HK80.out.below HBs.out HK80.out.lt)
      have HBW := Lib.hid (HBW.out.trans (HBs.out.mono HBW.out.size))
      clear HBs
      have HTC := Lib.hid (show ∀ k, k < 3 → W9.cell? ⟨qt, k, none⟩ = some (.int .i64 ((topN p q r k : Nat) : Int)) from fun k hk => by
        obtain ⟨ad, he, hc⟩ := ints_at HTP.out.ints (i := k) hk
        injection he with he
        rw [← he, addr_addT, topN_at p q r hk] at hc
        exact hc)
      clear HTP
      have HTB := Lib.hid (show ∀ k, topN p q r k ≤ 16 from fun k => by unfold topN; split; exact hb0; split; exact hb1; exact hb2)
      clear hb0 hb1 hb2
      go_wp2_with fail
      go_loopw [17] (fun x wr => ∃ k : Nat, k ≤ 3 ∧ x = .int .i64 k ∧ Below W9.heap.size W9 wr) (fun x _ => 3 - (intOf x).toNat)
      case atStart => exact ⟨0, Nat.zero_le _, rfl, Below.refl _ _⟩
      case round =>
        obtain ⟨k, hk, rfl, hb⟩ := hrel
        rename World => wq
        have HB := Lib.hid hb
        clear hb
        by_cases hlt : k < 3
        · have hki : (k : Int) < 3 := by omega
          have hc := keepCell HB.out (HTC.out k hlt)
          have htb := HTB.out k
          have HOM := Lib.hid (HTO.out k hlt)
          obtain ⟨t, ht⟩ : ∃ t, t = topN p q r k := ⟨_, rfl⟩
          rw [← ht] at hc htb HOM
          have HAX := Lib.hid (HX80.out.below HB.out)
          have HKX := Lib.hid (HK80.out.below HB.out HK80.out.lt)
          have q0 : wq.cell? ⟨qx, 0, none⟩ = some (.slice Aa X.length ca) := HKX.out.cell 0
          have q1 : wq.cell? ⟨qx, 1, none⟩ = some (.slice Ab Bs.length cb) := HKX.out.cell 1
          have HM1 := Lib.hid (fun Y (hY : Below wq.heap.size wq Y) => HMA.out k hlt (t : Int) (by omega) (by omega) Y _ (HAX.out.below hY))
          simp only [HOM.out, show decide ((t : Int) ≤ ((t : Nat) : Int)) = true from by simp] at HM1
          clear ht
          go_wp2_with fail
          go_region_law (go_simp; go_at_call 22; (with_reducible refine ((HM1.out _ ?_).mono ?_)); (first | exact Below.refl _ _ | exact (Below.refl _ _).drew); go_loud (rintro e w5 ⟨rfl, hb5⟩; have hb5 := below_of_drew hb5; have HB5 := Lib.hid hb5; have hc5 := keepCell hb5 hc; clear hb5))
          all_goals
            by_cases ht16 : t < 16
            · have hti : (t : Int) < 16 := by omega
              have HK5 := Lib.hid (HKX.out.below HB5.out HKX.out.lt)
              have r0 : w5.cell? ⟨qx, 0, none⟩ = some (.slice Aa X.length ca) := HK5.out.cell 0
              have r1 : w5.cell? ⟨qx, 1, none⟩ = some (.slice Ab Bs.length cb) := HK5.out.cell 1
              obtain ⟨hw1, hw2⟩ := wrap_both (x := (t : Int) + 1) (by omega)
              have HM2 := Lib.hid (fun Y (hY : Below wq.heap.size wq Y) => HMA.out k hlt ((t : Int) + 1) (by omega) (by omega) Y _ (HAX.out.below hY))
              simp only [HOM.out, show decide ((t : Int) + 1 ≤ ((t : Nat) : Int)) = false from decide_eq_false (by omega)] at HM2
              go_wp2_with fail
              go_region_law (go_simp; go_at_call 22; (with_reducible refine ((HM2.out _ ?_).mono ?_)); (first | exact HB5.out | exact HB5.out.drew); go_loud (rintro e w6 ⟨rfl, hb6⟩; have HB6 := Lib.hid (HB5.out.trans ((by first | exact hb6 | exact below_of_drew hb6 : Below w5.heap.size w5 w6).mono HB5.out.size)); clear hb6))
              all_goals
                go_wp2_with fail
                go_roundw
                case rel => exact ⟨k + 1, by omega, by go_num, HB.out.trans (HB6.out.mono HB.out.size)⟩
                case measure => simp [intOf]; omega
            · have hti : ¬ (t : Int) < 16 := by omega
              go_wp2_with fail
              go_roundw
              case rel => exact ⟨k + 1, by omega, by go_num, HB.out.trans (HB5.out.mono HB.out.size)⟩
              case measure => simp [intOf]; omega
        · have hke : k = 3 := by omega
          subst hke
          go_wp2_with fail
          go_ret
          exact ⟨rfl, HBW.out.trans (HB.out.mono HBW.out.size)⟩
end Go.Proofs.Ytnlaoainhlfemaa

set_option maxRecDepth 100000
set_option linter.unusedVariables false
set_option linter.unusedSimpArgs false
namespace Go.Proofs.Ytnlaoainhlfemaa
open Go.ChangeShapes Go.WideShapes Go.ChangeAt Go.RowKit

end Go.Proofs.Ytnlaoainhlfemaa

set_option maxRecDepth 100000
set_option linter.unusedVariables false
set_option linter.unusedSimpArgs false
namespace Go.Proofs.Ytnlaoainhlfemaa
open Go.ChangeShapes Go.WideShapes Go.ChangeAt Go.RowKit

theorem u8_of_wf {z : Int} (h : (Lit.int .u8 z).wf = true) : 0 ≤ z ∧ z ≤ 255 := by
  simp [Lit.wf, IntKind.min, IntKind.max, IntKind.signed, IntKind.bits] at h
  omega
theorem open_bytes {H : Type} {enc : TypeId × Value → H} {W : World} {base : Nat} {v : Value} {d : DataW H} {p : List MemPlace}
    (hv : Value.okWide Try.prog W .any base 22 v) (h : DataW.Trod enc Try.prog W 0 (fun _ => true) true 22 v d p) : ∃ n, Bts W v n := by
  obtain ⟨a, len, cap, rfl⟩ := okWide_slice Try.underlying22 hv
  obtain ⟨fuel, hf⟩ := h
  rcases open_ints Try.underlying22 Try.underlying5 (by kernel_rfl) hf with ⟨hcs, _⟩ | ⟨x, l, c, zs, hcs, _, hl, hm, hz, _, hcell, hwz⟩
  · simp [Value.cells] at hcs
    obtain ⟨rfl, rfl, rfl⟩ := hcs
    exact ⟨0, none, 0, rfl, fun k hk => by omega⟩
  · simp [Value.cells] at hcs
    obtain ⟨rfl, rfl, rfl⟩ := hcs
    have hz' : zs.length = cap := by simpa using hz
    refine ⟨len, some x, cap, rfl, fun k hk => ?_⟩
    have hk2 : k < zs.length := by omega
    have hc := hcell k (by omega)
    have hw := u8_of_wf (hwz _ (List.getElem_mem hk2))
    have e : zs.getD k 0 = zs[k] := by simp [List.getD, hk2]
    rw [e] at hc
    have hb := World.block_lt_of_cell? W _ hc
    rw [block_add] at hb
    exact ⟨x, zs[k], rfl, hb, hb, hw.1, hw.2, hc⟩
end Go.Proofs.Ytnlaoainhlfemaa

