/- Walks: weight, lacking, order of tableaus, OrderOf. | Plain: what the law of repeated tableaus says. No walk. | Walk: slices.Reverse at a list of numbers. | Walks: l10Scale of the reference. | Walks: inverse of the program, l10Inverse of the reference. | Walk: adjoint of the program. | Walks: AdjointTableau of the program and of the reference. | Walk: InverseTableau of the program. -/
import Derived.Test.YtdjhfeaimmpmhaaGreatZc25
import Derived.Test.YtdjhfeaimmpmhaaGreatZc16
import Derived.Test.YtdjhfeaimmpmhaaGreatZc15
import Derived.Test.YtdjhfeaimmpmhaaGreatZc20
import Derived.Test.YtdjhfeaimmpmhaaGreatZc24
import Derived.Test.YtdjhfeaimmpmhaaGreatZc18
import Derived.Test.YtdjhfeaimmpmhaaGreatZc21
import Derived.Test.YtdjhfeaimmpmhaaGreatZc19
import Derived.Test.YtdjhfeaimmpmhaaGreatZc22
set_option maxRecDepth 100000
set_option linter.unusedVariables false
set_option linter.unusedSimpArgs false
namespace Go.Proofs.YtdjhfeaimmpmhaaGreat
open Go.RowKit

theorem chT_at (A : List (List Int)) (B : List Int) {p : Nat} (hp : p < 38) : (chT A B).getD p 0 = wgtT B.length (fT A) (fB B) p % 10007 := chF_at _ _ _ hp
theorem chT_len (A : List (List Int)) (B : List Int) : (chT A B).length = 38 := chF_len _ _ _
set_option maxHeartbeats 4000000 in
theorem im_weight {A : List (List Int)} {Bs : List Int} (hT : SqT A Bs Bs.length) (h1 : 1 ≤ Bs.length) (h8 : Bs.length ≤ 8) (n : Nat) (hn : n < 37) (w : World) (va vt : Value) (ha : TabArg w va A Bs) (ht : Ints w vt (up (tr n))) :
    Calls Tryz.prog 159 #[va, vt] w fun e w' => e = .returned (.int .i64 ((chT A Bs).getD (n + 1) 0)) ∧ Below w.heap.size w w' := by
  obtain ⟨va1, vb1, rfl, ha1, ha2⟩ := ha
  obtain ⟨A1, c1, rfl, -, -, -⟩ := ha1.open_
  obtain ⟨A2, c2, rfl, -, -, -⟩ := ha2.open_
  obtain ⟨At, ct, rfl, -, -, -⟩ := ht.open_
  rw [up_len] at ht ⊢
  have HZ := Lib.hid (show dtZ Bs (stL A Bs.length (n + 1)) = (chT A Bs).getD (n + 1) 0 from by
    rw [chT_at A Bs (by omega), ← b_st A Bs (Nat.succ_pos n)]
    rfl)
  obtain ⟨W, hW⟩ : ∃ W, W = w.alloc (.cells #[.slice A1 A.length c1, .slice A2 Bs.length c2] 45) := ⟨_, rfl⟩
  have hbw : Below w.heap.size w W := by rw [hW]; exact below1 w _
  have HBW := Lib.hid hbw
  have HKF := Lib.hid (show Blk W w.heap.size 45 #[.slice A1 A.length c1, .slice A2 Bs.length c2] from by rw [hW]; exact Blk.new _ _ _)
  have HTA := Lib.hid (show TabArg W (.agg #[.slice A1 A.length c1, .slice A2 Bs.length c2]) A Bs from ⟨_, _, rfl, ha1.below hbw, ha2.below hbw⟩)
  have HBI := Lib.hid (ha2.below hbw)
  have HTR := Lib.hid (ht.below hbw)
  have HNB := Lib.hid hT.ws
  have HC1 := Lib.hid (show ∀ X, Below W.heap.size W X → Calls Tryz.prog 199 #[.agg #[.slice A1 A.length c1, .slice A2 Bs.length c2], .slice At (tr n).length ct] X (fun e w' => ∃ x, e = .returned x ∧ OwnInts w' W.heap.size tI x (stL A Bs.length (n + 1)) ∧ Below W.heap.size W w') from fun X hX => by
    have h := im_stageWeights hT h1 h8 (n + 1) n (by omega) hn X _ _ (HTA.out.below hX) (HTR.out.below hX)
    refine h.mono ?_
    rintro e w5 ⟨r5, rfl, ho5, hb5⟩
    exact ⟨r5, rfl, ho5.mono hX.size, hX.trans (hb5.mono hX.size)⟩)
  have HC2 := Lib.hid (show ∀ X r, Below W.heap.size W X → Ints X r (stL A Bs.length (n + 1)) → Calls Tryz.prog 198 #[.slice A2 Bs.length c2, r] X (fun e w' => e = .returned (.int .i64 ((chT A Bs).getD (n + 1) 0)) ∧ Below W.heap.size W w') from fun X r hX hr => by
    have h := i_dot X (.slice A2 Bs.length c2) r Bs _ (HBI.out.below hX) hr HNB.out (stL_nums _ _ _) (by rw [stL_len]; exact Nat.le_refl _) (by omega)
    rw [HZ.out] at h
    refine h.mono ?_
    rintro e w5 ⟨rfl, rfl⟩
    exact ⟨rfl, hX⟩)
  clear ha1 ha2 ht hT hbw
  generalize (chT A Bs).getD (n + 1) 0 = cc at *
  go_enter Tryz.func159, Tryz.ntmps159
  go_upto_region 1 with fail
  rw [← hW]
  clear hW
  have q0 : W.cell? ⟨w.heap.size, 0, none⟩ = some (.slice A1 A.length c1) := HKF.out.cell 0
  have q1 : W.cell? ⟨w.heap.size, 1, none⟩ = some (.slice A2 Bs.length c2) := HKF.out.cell 1
  go_region_law (first
    | (go_simp; go_at_call 199; (with_reducible refine ((HC1.out _ ?_).mono ?_)); (first | exact Below.refl _ _ | exact (Below.refl _ _).drew); go_loud (rintro e w5 ⟨r5, rfl, ho5, hb5⟩; have HO5 := Lib.hid ho5; have HB5 := Lib.hid hb5; have m1 : w5.cell? ⟨w.heap.size, 0, none⟩ = some (.slice A1 A.length c1) := (HKF.out.below hb5 HKF.out.lt).cell 0; have m2 : w5.cell? ⟨w.heap.size, 1, none⟩ = some (.slice A2 Bs.length c2) := (HKF.out.below hb5 HKF.out.lt).cell 1; clear ho5 hb5))
    | (go_simp; go_at_call 198; (with_reducible refine ((HC2.out _ _ ?_ ?_).mono ?_)); (first | exact HB5.out | exact HB5.out.drew); (exact HO5.out.ints); go_loud (rintro e w6 ⟨rfl, hb6⟩; have HB6 := Lib.hid hb6; clear hb6)))
  all_goals
    go_wp2_with fail
    go_ret
    exact ⟨rfl, HBW.out.trans (HB6.out.mono HBW.out.size)⟩
/-- what OrderOf answers -/
def ordR (A : List (List Int)) (Bs : List Int) : Int := if tabB A Bs then agZ (chT A Bs) EX else 0
end Go.Proofs.YtdjhfeaimmpmhaaGreat

set_option linter.unusedVariables false
set_option linter.unusedSimpArgs false
namespace Go.Proofs.YtdjhfeaimmpmhaaGreat
open Go.RowKit

theorem tabB_sq {A : List (List Int)} {B : List Int} {s : Nat} (h : SqT A B s) (h1 : 1 ≤ s) (h8 : s ≤ 8) : tabB A B = true := by
  have hb := h.lb
  have ha := h.la
  simp only [tabB, Bool.and_eq_true, decide_eq_true_eq, List.all_eq_true, inR_iff]
  refine ⟨⟨⟨⟨by omega, by omega⟩, by omega⟩, nums_iff.2 h.ws⟩, fun r hr => ?_⟩
  unfold rowB
  rw [Bool.and_eq_true, decide_eq_true_eq, hb]
  exact ⟨(h.rows r hr).2, nums_iff.2 (h.rows r hr).1⟩
end Go.Proofs.YtdjhfeaimmpmhaaGreat

set_option linter.unusedVariables false
set_option linter.unusedSimpArgs false
namespace Go.Proofs.YtdjhfeaimmpmhaaGreat
open Go.RowKit

/-- the list with its first i and its last i places turned -/
def revTo (zs : List Int) (i : Nat) : List Int := (List.range zs.length).map fun (p : Nat) => if p < i ∨ zs.length ≤ p + i then zs.getD (zs.length - 1 - p) 0 else zs.getD p 0
theorem revTo_len (zs : List Int) (i : Nat) : (revTo zs i).length = zs.length := by simp [revTo]
theorem revTo_get {zs : List Int} {i p : Nat} (h : p < zs.length) : (revTo zs i)[p]? = some (if p < i ∨ zs.length ≤ p + i then zs.getD (zs.length - 1 - p) 0 else zs.getD p 0) := by
  simp [revTo, h]
theorem revTo_zero (zs : List Int) : revTo zs 0 = zs := by
  refine List.ext_getElem? fun p => ?_
  by_cases h : p < zs.length
  · rw [revTo_get h, if_neg (by omega)]
    simp [List.getD, h]
  · rw [List.getElem?_eq_none (by rw [revTo_len]; omega), List.getElem?_eq_none (by omega)]
theorem revTo_swap {zs : List Int} {i m : Nat} (h : i + m + 1 = zs.length) (hi : i < m) : ((revTo zs i).set i (zs.getD m 0)).set m (zs.getD i 0) = revTo zs (i + 1) := by
  refine List.ext_getElem? fun p => ?_
  by_cases hp : p < zs.length
  · rw [revTo_get hp]
    by_cases h1 : p = m
    · subst h1
      rw [List.getElem?_set_self (by simp [revTo_len]; omega), if_pos (by omega)]
      congr 2
      omega
    · rw [List.getElem?_set_ne (by omega)]
      by_cases h2 : p = i
      · subst h2
        rw [List.getElem?_set_self (by simp [revTo_len]; omega), if_pos (by omega)]
        congr 2
        omega
      · rw [List.getElem?_set_ne (by omega), revTo_get hp]
        congr 1
        by_cases h3 : p < i ∨ zs.length ≤ p + i
        · rw [if_pos h3, if_pos (by omega)]
        · rw [if_neg h3, if_neg (by omega)]
  · rw [List.getElem?_eq_none (by simp [revTo_len]; omega), List.getElem?_eq_none (by rw [revTo_len]; omega)]
theorem revTo_end {zs : List Int} {i m : Nat} (h : i + m + 1 = zs.length) (hi : m ≤ i) : revTo zs i = zs.reverse := by
  refine List.ext_getElem? fun p => ?_
  by_cases hp : p < zs.length
  · rw [revTo_get hp, List.getElem?_reverse hp]
    have hq : zs.length - 1 - p < zs.length := by omega
    rw [List.getElem?_eq_getElem hq]
    congr 1
    by_cases h3 : p < i ∨ zs.length ≤ p + i
    · rw [if_pos h3]; simp [List.getD, hq]
    · rw [if_neg h3]
      have e : zs.length - 1 - p = p := by omega
      simp only [List.getD, e, List.getElem?_eq_getElem hp]
      rfl
  · rw [List.getElem?_eq_none (by rw [revTo_len]; omega), List.getElem?_eq_none (by simp; omega)]

theorem revTo_mid {zs : List Int} {i p : Nat} (h : p < zs.length) (h1 : i ≤ p) (h2 : p + i < zs.length) : (revTo zs i)[p]? = some (zs.getD p 0) := by
  rw [revTo_get h, if_neg (by omega)]

set_option maxRecDepth 100000 in
set_option maxHeartbeats 1000000 in
theorem lib_Reverse (w : World) (B : Nat) (v : Value) (zs : List Int) (ho : OwnInts w B tI v zs) (h1 : 1 ≤ zs.length) (hn : zs.length ≤ 1000) :
    Calls Tryz.prog 161 #[v] w fun e w' => (∃ x, e = .returned x) ∧ OwnInts w' B tI v zs.reverse ∧ w.grownBy w' v.ownBlock := by
  obtain ⟨ho1, ho2⟩ := ho
  have HIN := Lib.hid ho2
  rcases ho1.cases with ⟨rfl, hz⟩ | ⟨g, cap, cur, rfl, hB, hg, _, hcap, hcm, _⟩
  · have := congrArg List.length hz
    simp [ints] at this
    subst this
    simp at h1
  · rw [ints_len] at ho1 hcap
    have hcap2 : cap ≤ 9223372036854775807 := by simpa [maxLen] using hcm
    have HO1 := Lib.hid ho1
    clear ho1 ho2 hcm
    simp only [ints_len]
    go_enter Tryz.func161, Tryz.ntmps161
    go_wp2_with fail
    go_loopw [2, 3] (fun x y wr => ∃ i m : Nat, i + m + 1 = zs.length ∧ x = .int .i64 i ∧ y = .int .i64 m ∧ Own wr B tI (.slice (some ⟨g, 0, none⟩) zs.length cap) (ints (revTo zs i)) ∧ w.grownBy wr (some g)) (fun _ y _ => (intOf y).toNat)
    case atStart => exact ⟨0, zs.length - 1, by omega, rfl, by congr 1; omega, by rw [revTo_zero]; exact HO1.out, World.grownBy.refl _ _⟩
    case round =>
      obtain ⟨i, m, him, rfl, rfl, hown, hgr⟩ := hrel
      by_cases hlt : i < m
      · have e1 := ints_get (revTo_mid (zs := zs) (i := i) (p := m) (by omega) (by omega) (by omega))
        have e2 := ints_get (revTo_mid (zs := zs) (i := i) (p := i) (by omega) (by omega) (by omega))
        obtain ⟨u0, hu0, hcg, hfg, hg2, hg1, hown', hgr'⟩ := hown.storeAt (k := i) (by simp [ints, revTo_len]; omega) (.int .i64 (zs.getD m 0))
        obtain ⟨u1, hu1, hcm, hfm, -, -, -, -⟩ := hown.storeAt (k := m) (by simp [ints, revTo_len]; omega) (.int .i64 (zs.getD m 0))
        obtain rfl : Value.int .i64 (zs.getD i 0) = u0 := by rw [e2] at hu0; simpa using hu0
        obtain rfl : Value.int .i64 (zs.getD m 0) = u1 := by rw [e1] at hu1; simpa using hu1
        obtain ⟨u2, hu2, hc2, hf2, -, -, hown2, hgr2⟩ := hown'.storeAt (k := m) (by simp [ints, revTo_len]; omega) (.int .i64 (zs.getD i 0))
        have hi1 : (i : Int) < (zs.length : Int) := by omega
        have hm1 : (m : Int) < (zs.length : Int) := by omega
        have hi2 : i < zs.length := by omega
        have hm2 : m < zs.length := by omega
        have hne : ¬ i = m := by omega
        have HO := Lib.hid hown2
        have HG := Lib.hid hgr
        have HG1 := Lib.hid hgr'
        have HG2 := Lib.hid hgr2
        have HSW := Lib.hid (revTo_swap him hlt)
        have hc3 : (wr.drew.setCell ⟨g, i, none⟩ (.int .i64 (zs.getD m 0))).cell? ⟨g, m, none⟩ = some u2 := hc2
        have hf3 : (wr.drew.setCell ⟨g, i, none⟩ (.int .i64 (zs.getD m 0))).frozen? ⟨g, m, none⟩ = false := hf2
        clear hc2 hf2
        clear hown hown' hown2 hgr hgr' hgr2 hu0 hu1 hu2 e1 e2
        generalize zs.getD m 0 = x at hcm hc3 hf3 HO HG1 HG2 HSW
        generalize zs.getD i 0 = y at hcg HO HG2 HSW
        go_wp2_with fail
        go_region
        all_goals
          go_wp2_with fail
          go_roundw
          case rel =>
            refine ⟨i + 1, m - 1, by omega, by go_num, by congr 1; omega, ?_, ?_⟩
            · rw [← HSW.out]
              have h := HO.out
              simp only [ints, List.map_set] at h ⊢
              exact h
            · exact ⟨HG2.out.os.trans (HG1.out.os.trans HG.out.os), HG2.out.tape.trans (HG1.out.tape.trans HG.out.tape), HG2.out.output.trans (HG1.out.output.trans HG.out.output), Nat.le_trans HG.out.size (Nat.le_trans HG1.out.size HG2.out.size), fun k hk hne => (HG2.out.block k (Nat.lt_of_lt_of_le hk (Nat.le_trans HG.out.size HG1.out.size)) hne).trans ((HG1.out.block k (Nat.lt_of_lt_of_le hk HG.out.size) hne).trans (HG.out.block k hk hne))⟩
          case measure => simp [intOf]; omega
      · have HO := Lib.hid hown
        have HG := Lib.hid hgr
        have HE := Lib.hid (revTo_end him (by omega))
        clear hown hgr
        go_wp2_with fail
        refine bodyPost_end (v := .tuple #[]) (by simp [results, Tryz.results161, go_sem]) rfl ⟨⟨_, rfl⟩, ⟨?_, fun z hz => HIN.out z (List.mem_reverse.1 hz)⟩, HG.out⟩
        rw [← HE.out]
        exact HO.out

theorem upTo_reverse (n : Nat) : (upTo n).reverse = downTo n n := by
  refine List.ext_getElem? fun p => ?_
  by_cases hp : p < n
  · rw [List.getElem?_reverse (by rw [upTo_len]; exact hp), upTo_len]
    have hq : n - 1 - p < n := by omega
    simp [upTo, downTo, hp, hq]
  · rw [List.getElem?_eq_none (by simp [upTo_len]; omega), List.getElem?_eq_none (by rw [downTo_len]; omega)]
end Go.Proofs.YtdjhfeaimmpmhaaGreat

set_option linter.unusedVariables false
set_option linter.unusedSimpArgs false
namespace Go.Proofs.YtdjhfeaimmpmhaaGreat
open Go.RowKit

end Go.Proofs.YtdjhfeaimmpmhaaGreat

set_option linter.unusedVariables false
set_option linter.unusedSimpArgs false
namespace Go.Proofs.YtdjhfeaimmpmhaaGreat
open Go.RowKit

theorem addk_len (k : Int) (a b : List Int) : (addk k a b).length = a.length := addTo_len _ _ _ _
theorem i_scaledM (w : World) (v : Value) (zs : List Int) (ha : Ints w v zs) (hN : Nums zs) (hn : zs.length ≤ 4294967296) :
    Calls Tryz.prog 147 #[v, .int .i64 (-1)] w fun e w' => ∃ r, e = .returned r ∧ OwnInts w' w.heap.size tI r (scl 10006 zs) ∧ Below w.heap.size w w' := by
  have h := i_scaled w v zs (-1) ha hN hn (by omega) (by omega)
  rwa [show (-1 : Int) % 10007 = 10006 from by decide] at h
theorem i_plusM (w : World) (v v' : Value) (a b : List Int) (ha : Ints w v a) (hb : Ints w v' b) (hA : Nums a) (hB : Nums b) (hl : a.length ≤ b.length) (hn : a.length ≤ 4294967296) :
    Calls Tryz.prog 97 #[v, v', .int .i64 (-1)] w fun e w' => ∃ r, e = .returned r ∧ OwnInts w' w.heap.size tI r (addk 10006 a b) ∧ Below w.heap.size w w' := by
  have h := i_plus w v v' a b (-1) ha hb hA hB hl hn (by omega) (by omega)
  rwa [show (-1 : Int) % 10007 = 10006 from by decide] at h
set_option maxRecDepth 100000 in
set_option maxHeartbeats 2000000 in
theorem im_inverse (w : World) (v : Value) (A : List (List Int)) (Bs : List Int) (ha : TabArg w v A Bs) (hT : NumTab A Bs) (hsq : ∀ zs ∈ A, zs.length ≤ Bs.length) :
    Calls Tryz.prog 108 #[v] w fun e w' => ∃ r, e = .returned r ∧ OT w' w.heap.size w'.heap.size r (A.map (fun r => addk 10006 r Bs)) (scl 10006 Bs) ∧ Below w.heap.size w w' := by
  obtain ⟨va, vb, rfl, hA, hB⟩ := ha
  have HB := Lib.hid hB
  have HA := Lib.hid hA
  obtain ⟨A1, c1, rfl, l1, l2, h3⟩ := hA.open_
  obtain ⟨A2, c2, rfl, -, -, -⟩ := hB.open_
  have H3 := Lib.hid h3
  have hal := hT.la
  have hbl := hT.lb
  have HT := Lib.hid hT
  have HSQ := Lib.hid hsq
  clear hsq
  clear hA hB h3 hT
  go_enter Tryz.func108, Tryz.ntmps108
  go_wp2_with fail
  refine (i_scaledM _ _ Bs (HB.out.below (below2 w _ _)) HT.out.ws (by omega)).mono ?_
  rintro e w3 ⟨v3, rfl, ho, hb3⟩
  simp only [size_alloc'] at ho hb3
  obtain ⟨A3, c3, hv, -, -, -⟩ := ho.ints.open_
  rw [scl_len] at hv
  subst hv
  have hs3 := hb3.size
  simp only [size_alloc'] at hs3
  have k0 : Blk w3 w.heap.size 45 #[.slice A1 A.length c1, .slice A2 Bs.length c2] := ((Blk.new w _ _).alloc _).below hb3 (by omega)
  have k1 : Blk w3 (w.heap.size + 1) 45 #[.slice none 0 0, .slice none 0 0] := (Blk.new1 w _ _ _).below hb3 (by omega)
  have g0 : (w3.alloc (.cells #[.slice none 0 0, .slice A3 Bs.length c3] 45)).cell? ⟨w.heap.size, 0, none⟩ = some (.slice A1 A.length c1) := (k0.alloc _).cell 0
  have HF := Lib.hid (show Fill w (w3.alloc (.cells #[.slice none 0 0, .slice A3 Bs.length c3] 45)) w3.heap.size (.slice none 0 0) (.slice A3 Bs.length c3) [] (w.heap.size + 1 + 1) [] (scl 10006 Bs) from
    ⟨Blk.new _ _ _, Own.nil _ _ _, RowsOwn.nil _ _ _ _, (OI.of ho).below (below1 _ _), by omega, ((below2 w _ _).trans (hb3.mono (by omega))).alloc (by omega) _⟩)
  have K1 := Lib.hid (k1.alloc (.cells #[.slice none 0 0, .slice A3 Bs.length c3] 45))
  have X1 := Lib.hid (k0.alloc (.cells #[.slice none 0 0, .slice A3 Bs.length c3] 45))
  have HP := Lib.hid hs3
  clear k0 k1 ho hb3 hs3
  go_wp2_with fail
  clear g0
  generalize hw4 : (w3.alloc (.cells #[.slice none 0 0, .slice A3 Bs.length c3] 45)) = w4 at HF K1 X1
  have HBelow4 := Lib.hid HF.out.below
  clear hw4
  generalize hp : w3.heap.size = p at HF HP ⊢
  clear hp
  go_loopw [13] (fun i wr => ∃ (j : Nat) (va : Value) (vs : List Value), j ≤ A.length ∧ i = .int .i64 j ∧ Fill w wr p va (.slice A3 Bs.length c3) vs (w.heap.size + 1 + 1) ((A.take j).map (fun r => addk 10006 r Bs)) (scl 10006 Bs) ∧ Blk wr (w.heap.size + 1) 45 #[.slice none 0 0, .slice none 0 0] ∧ Blk wr w.heap.size 45 #[.slice A1 A.length c1, .slice A2 Bs.length c2]) (fun i _ => A.length - (intOf i).toNat)
  case atStart => exact ⟨0, _, [], Nat.zero_le _, rfl, HF.out, K1.out, X1.out⟩
  case round =>
    obtain ⟨j, va, vs, hj, rfl, hfill, hk1, hx1⟩ := hrel
    clear HF K1 X1
    have X1 := Lib.hid hx1
    have x0 : wr.cell? ⟨w.heap.size, 1, none⟩ = some (.slice A2 Bs.length c2) := X1.out.cell 1
    clear hx1
    have HF := Lib.hid hfill
    have K1 := Lib.hid hk1
    have hvl : vs.length ≤ 1000 := by have := hfill.rows.1; simp at this; omega
    have HV := Lib.hid hvl
    clear hfill hk1 hvl
    by_cases hlt : j < A.length
    · obtain ⟨ad, u, zs, rfl, hz, hu, hc0⟩ := H3.out j hlt
      have hc : wr.cell? (ad.add j) = some u := by
        rw [HF.out.below.cell (by rw [block_add]; have := World.block_lt_of_cell? w _ hc0; rwa [block_add] at this)]; exact hc0
      have HU := Lib.hid (hu.below HF.out.below)
      have HZN := Lib.hid (HT.out.rows zs (List.mem_of_getElem? hz))
      have HZL := Lib.hid (HSQ.out zs (List.mem_of_getElem? hz))
      have HZ := Lib.hid hz
      clear hz hu hc0
      have q0 := (HF.out.blk.both (u := va) rfl).1
      have q1 := (HF.out.blk.both (u := va) rfl).2
      go_wp2_with fail
      go_region_law (first | (refine step_app1 T_row (B := p + 1) (v := va) (vs := vs) (HF.out.own.below (below_of_drew hb5)) (by have := HV.out; omega) (by have h1 := HF.out.lt; have h2 := hb5.size; simp at h2; omega) (by rfl) rfl (by rfl) (by rfl) (by rfl) ?_; intro v6 w6 hown6 hgr6; obtain ⟨A6, c6, hv6, -, -⟩ := hown6.cells.open_; subst hv6; have q6 := (((HF.out.after (below_of_drew hb5)).grow hgr6 HF.out.np).both (u := va) rfl).1; have q7 := (((HF.out.after (below_of_drew hb5)).grow hgr6 HF.out.np).both (u := va) rfl).2) | (go_simp; go_at_call 97; refine (i_plusM _ _ _ zs Bs (by exact HU.out) (by exact HB.out.below HF.out.below.drew) HZN.out.1 HT.out.ws HZL.out (by have := HZN.out.2; omega)).mono ?_; rintro e w5 ⟨r5, rfl, ho5, hb5⟩; obtain ⟨A5, c5, hv5, -, -, -⟩ := ho5.ints.open_; rw [addk_len] at hv5; subst hv5; have q5 := ((HF.out.after (below_of_drew hb5)).both (u := va) rfl).1; have q5a : ∀ o, (w5.alloc o).cell? ⟨p, 0, none⟩ = some va := fun o => ((HF.out.after (below_of_drew hb5)).alloc o).cell 0))
      all_goals
        have HN := Lib.hid (HF.out.next (zs := addk 10006 zs Bs) (r := Value.slice A5 zs.length c5) (by have := HP.out; omega) (below_of_drew hb5) ho5 hown6 hgr6)
        have KN := Lib.hid ((((K1.out.below (below_of_drew hb5) K1.out.lt).grow hgr6 (fun e => by have h1 := HF.out.own.ge _ e; have h2 := HP.out; omega))).far (p := ⟨p, 0, none⟩) (by have h2 := HP.out; simp; omega) (Value.slice A6 (vs ++ [Value.slice A5 zs.length c5]).length c6))
        have XN := Lib.hid ((((X1.out.below (below_of_drew hb5) X1.out.lt).grow hgr6 (fun e => by have h1 := HF.out.own.ge _ e; have h2 := HP.out; omega))).far (p := ⟨p, 0, none⟩) (by have h2 := HP.out; simp; omega) (Value.slice A6 (vs ++ [Value.slice A5 zs.length c5]).length c6))
        have HZT := Lib.hid (show (A.take (j + 1)).map (fun r => addk 10006 r Bs) = (A.take j).map (fun r => addk 10006 r Bs) ++ [addk 10006 zs Bs] by rw [List.take_add_one, HZ.out]; simp)
        simp only [List.length_append, List.length_singleton] at HN KN XN
        clear hown6 hgr6 ho5 hb5 q0 q1 q5 q5a q6 q7 hc x0
        go_wp2_with fail
        go_roundw
        case rel =>
          refine ⟨j + 1, .slice A6 (vs.length + 1) c6, vs ++ [.slice A5 zs.length c5], by omega, by go_num, ?_, KN.out, XN.out⟩
          rw [HZT.out]
          exact HN.out
        case measure => simp [intOf]; omega
    · have : j = A.length := by omega
      subst this
      rw [List.take_length] at HF
      obtain ⟨A7, c7, hv7, -, -⟩ := HF.out.own.cells.open_
      have hvl : vs.length = A.length := by have := HF.out.rows.1; simp at this; omega
      rw [hvl] at hv7
      subst hv7
      have e0 : wr.cell? ⟨p, 0, none⟩ = some (.slice A7 A.length c7) := HF.out.blk.cell 0
      have e1 : wr.cell? ⟨p, 1, none⟩ = some (.slice A3 Bs.length c3) := HF.out.blk.cell 1
      have f0 : wr.cell? ⟨w.heap.size + 1, 0, none⟩ = some (.slice none 0 0) := K1.out.cell 0
      have f1 : wr.cell? ⟨w.heap.size + 1, 1, none⟩ = some (.slice none 0 0) := K1.out.cell 1
      have f2 := K1.out.frozen 0
      have f3 := K1.out.frozen 1
      have HTAB := Lib.hid (HF.out.tab (by have := HP.out; omega))
      clear hvl
      go_wp2_with fail
      have c0 := Chg.refl (w.heap.size + 1) (w.heap.size + 1 + 1) wr
      have c1' := c0.setCell (p := ⟨w.heap.size + 1, 0, none⟩) (Nat.le_refl _) (by simp) (.slice A7 A.length c7)
      have c2' := c1'.setCell (p := ⟨w.heap.size + 1, 1, none⟩) (Nat.le_refl _) (by simp) (.slice A3 Bs.length c3)
      have hsb := HF.out.below.size
      refine bodyPost_ret (v := .agg #[.slice A7 A.length c7, .slice A3 Bs.length c3]) (by simp [results, Tryz.results108, go_sem, f0, f1]) rfl ⟨_, rfl, (HTAB.out.kept c2' (.inr (Nat.le_refl _))).mono (by omega) c2'.size, c2'.below HF.out.below (by omega) hsb⟩

end Go.Proofs.YtdjhfeaimmpmhaaGreat

set_option linter.unusedVariables false
set_option linter.unusedSimpArgs false
namespace Go.Proofs.YtdjhfeaimmpmhaaGreat
open Go.RowKit

def dn (n : Nat) : List Nat := (List.range n).map fun i => n - 1 - i
theorem dn_len (n : Nat) : (dn n).length = n := by simp [dn]
theorem dn_casts (n : Nat) : downTo n n = casts (dn n) := by simp [casts, dn, downTo, List.map_map]
theorem dn_lt {n a : Nat} (h : a ∈ dn n) : a < n := by
  obtain ⟨i, hi, rfl⟩ := List.mem_map.1 h
  have := List.mem_range.1 hi
  omega
/-- the rows ahead of the reordering -/
def adjM (A : List (List Int)) (Bs : List Int) : List (List Int) := (A.map fun r => addk 10006 r Bs).map (scl 10006)
def adjW (Bs : List Int) : List Int := scl 10006 (scl 10006 Bs)
def adjA (A : List (List Int)) (Bs : List Int) : List (List Int) := pRows (adjM A Bs) (dn Bs.length) (dn Bs.length)
def adjB (Bs : List Int) : List Int := pWs (adjW Bs) (dn Bs.length)
theorem adjM_len (A : List (List Int)) (Bs : List Int) : (adjM A Bs).length = A.length := by simp [adjM]
theorem adjW_len (Bs : List Int) : (adjW Bs).length = Bs.length := by simp [adjW, scl_len]
theorem adjA_len (A : List (List Int)) (Bs : List Int) : (adjA A Bs).length = Bs.length := by simp [adjA, pRows, dn_len]
theorem adjB_len (Bs : List Int) : (adjB Bs).length = Bs.length := by simp [adjB, pWs, dn_len]
theorem adjM_row {A : List (List Int)} {Bs : List Int} (hI : IsTab A Bs) : ∀ zs ∈ adjM A Bs, zs.length = (adjM A Bs).length := by
  intro zs hz
  obtain ⟨ys, hy, rfl⟩ := List.mem_map.1 hz
  obtain ⟨xs, hx, rfl⟩ := List.mem_map.1 hy
  rw [scl_len, addk_len, adjM_len, (hI.row xs hx).1, hI.len]
theorem inv_numTab {A : List (List Int)} {Bs : List Int} (hI : IsTab A Bs) : NumTab (A.map fun r => addk 10006 r Bs) (scl 10006 Bs) := by
  have h1 := hI.len
  have h2 := hI.hi
  refine ⟨by simp; omega, by rw [scl_len]; omega, fun zs hz => ?_, scl_nums _ _⟩
  obtain ⟨xs, hx, rfl⟩ := List.mem_map.1 hz
  refine ⟨addTo_nums _ _ _ _, ?_⟩
  rw [addk_len, (hI.row xs hx).1]
  omega

set_option maxRecDepth 100000 in
set_option maxHeartbeats 2000000 in
theorem im_adjoint (w : World) (v : Value) (A : List (List Int)) (Bs : List Int) (ha : TabArg w v A Bs) (hI : IsTab A Bs) :
    Calls Tryz.prog 111 #[v] w fun e w' => ∃ r, e = .returned r ∧ OT w' w.heap.size w'.heap.size r (adjA A Bs) (adjB Bs) ∧ Below w.heap.size w w' := by
  have HT := Lib.hid ha
  obtain ⟨Aa, ca, Ab, cb, rfl⟩ := ha.open_
  have B0 := Lib.hid (below2 w (.cells #[.slice Aa A.length ca, .slice Ab Bs.length cb] 45) (.cells #[.slice none 0 0, .slice none 0 0] 45))
  have K0 := Lib.hid ((Blk.new w #[.slice Aa A.length ca, .slice Ab Bs.length cb] 45).alloc (.cells #[.slice none 0 0, .slice none 0 0] 45))
  have K1 := Lib.hid (Blk.new1 w (.cells #[.slice Aa A.length ca, .slice Ab Bs.length cb] 45) #[.slice none 0 0, .slice none 0 0] 45)
  have HI := Lib.hid hI
  have hlo := hI.lo
  have hhi := hI.hi
  clear ha hI
  go_enter Tryz.func111, Tryz.ntmps111
  go_wp2_with fail
  refine (im_allStages _ _ A Bs (HT.out.below B0.out) (by omega)).mono ?_
  rintro e w3 ⟨v3, rfl, ho3, hb3⟩
  obtain ⟨A3, c3, hv3, -, -, -⟩ := ho3.ints.open_
  rw [upTo_len] at hv3
  subst hv3
  have B3 := Lib.hid (B0.out.trans (hb3.mono B0.out.size))
  have X0 := Lib.hid (K0.out.below hb3 K0.out.lt)
  have X1 := Lib.hid (K1.out.below hb3 K1.out.lt)
  have HO3 := Lib.hid (ho3.mono (B' := w.heap.size + 1 + 1) (by simp))
  have hs3 := hb3.size
  simp only [size_alloc'] at hs3
  have HS3 := Lib.hid hs3
  clear ho3 hb3 hs3 K0 K1
  go_wp2_with fail
  refine (lib_Reverse _ (w.heap.size + 1 + 1) _ _ HO3.out (by rw [upTo_len]; omega) (by rw [upTo_len]; omega)).mono ?_
  rintro e w4 ⟨⟨x, rfl⟩, ho4, hg4⟩
  rw [upTo_reverse, dn_casts] at ho4
  have hge : ∀ b, (Value.slice A3 Bs.length c3).ownBlock = some b → w.heap.size + 1 + 1 ≤ b := HO3.out.1.ge
  have C4 : Chg (w.heap.size + 1 + 1) w3.heap.size w3 w4 := Chg.of_grown hg4 (fun b hb => ⟨hge b hb, HO3.out.1.lt b hb⟩)
  have B4 := Lib.hid (C4.below B3.out (by omega) B3.out.size)
  have Y0 := Lib.hid (X0.out.chg C4 (.inl (by omega)))
  have Y1 := Lib.hid (X1.out.chg C4 (.inl (by omega)))
  have HO4 := Lib.hid ho4
  have HS4 := Lib.hid C4.size
  have g0 : w4.cell? ⟨w.heap.size, 0, none⟩ = some (.slice Aa A.length ca) := Y0.out.cell 0
  have g1 : w4.cell? ⟨w.heap.size, 1, none⟩ = some (.slice Ab Bs.length cb) := Y0.out.cell 1
  clear ho4 hg4 hge X0 X1 C4
  go_wp2_with fail
  refine (im_inverse _ _ A Bs (HT.out.below B4.out) HI.out.numTab (fun zs hz => by rw [(HI.out.row zs hz).1]; omega)).mono ?_
  rintro e w5 ⟨v5, rfl, ho5, hb5⟩
  obtain ⟨A5, c5, A5b, c5b, rfl⟩ := ho5.open_
  rw [List.length_map, scl_len] at ho5 ⊢
  have HO5 := Lib.hid ho5
  have B5 := Lib.hid (B4.out.trans (hb5.mono B4.out.size))
  have HB5 := Lib.hid hb5
  clear ho5 hb5 g0 g1
  go_wp2_with fail
  refine (im_times _ _ _ _ (-1) HO5.out.arg (inv_numTab HI.out) (by omega) (by omega)).mono ?_
  rintro e w6 ⟨v6, rfl, ho6, hb6⟩
  obtain ⟨A6, c6, A6b, c6b, rfl⟩ := ho6.open_
  rw [show (-1 : Int) % 10007 = 10006 from by decide] at ho6 ⊢
  have ho6' : OT w6 w5.heap.size w6.heap.size _ (adjM A Bs) (adjW Bs) := ho6
  simp only [List.length_map, scl_len] at ho6' ⊢
  have HO6 := Lib.hid ho6'
  have B6 := Lib.hid (B5.out.trans (hb6.mono B5.out.size))
  have HB6 := Lib.hid (HB5.out.trans (hb6.mono HB5.out.size))
  clear ho6 ho6' hb6
  go_wp2_with fail
  refine (im_reordered _ _ _ _ _ (dn Bs.length) HO6.out.arg (HO4.out.below HB6.out).ints (by rw [dn_len]; omega) (fun a h => by have := dn_lt h; have := HI.out.len; rw [adjM_len, adjW_len]; omega) (adjM_row HI.out)).mono ?_
  rintro e w7 ⟨v7, rfl, ho7, hb7⟩
  have ho7' : OT w7 w6.heap.size w7.heap.size v7 (adjA A Bs) (adjB Bs) := ho7
  obtain ⟨A7, c7, A7b, c7b, rfl⟩ := ho7'.open_
  rw [adjA_len, adjB_len] at ho7' ⊢
  have HO7 := Lib.hid ho7'
  have B7 := Lib.hid (B6.out.trans (hb7.mono B6.out.size))
  have Z1 := Lib.hid (Y1.out.below (HB6.out.trans (hb7.mono HB6.out.size)) Y1.out.lt)
  have f0 : w7.cell? ⟨w.heap.size + 1, 0, none⟩ = some (.slice none 0 0) := Z1.out.cell 0
  have f1 : w7.cell? ⟨w.heap.size + 1, 1, none⟩ = some (.slice none 0 0) := Z1.out.cell 1
  have f2 := Z1.out.frozen 0
  have f3 := Z1.out.frozen 1
  have HSZ := Lib.hid (show w.heap.size + 1 + 1 ≤ w6.heap.size from Nat.le_trans (Nat.le_trans HS3.out HS4.out) HB6.out.size)
  clear ho7 ho7' hb7
  go_wp2_with fail
  have c0 := Chg.refl (w.heap.size + 1) (w.heap.size + 1 + 1) w7
  have c1' := c0.setCell (p := ⟨w.heap.size + 1, 0, none⟩) (Nat.le_refl _) (by simp) (.slice A7 Bs.length c7)
  have c2' := c1'.setCell (p := ⟨w.heap.size + 1, 1, none⟩) (Nat.le_refl _) (by simp) (.slice A7b Bs.length c7b)
  refine bodyPost_ret (v := .agg #[.slice A7 Bs.length c7, .slice A7b Bs.length c7b]) (by simp [results, Tryz.results111, go_sem, f0, f1]) rfl ⟨_, rfl, (HO7.out.kept c2' (.inr HSZ.out)).mono (by have := HSZ.out; omega) c2'.size, c2'.below B7.out (by omega) B7.out.size⟩
end Go.Proofs.YtdjhfeaimmpmhaaGreat

set_option linter.unusedVariables false
set_option linter.unusedSimpArgs false
namespace Go.Proofs.YtdjhfeaimmpmhaaGreat
open Go.RowKit

def adjTA (A : List (List Int)) (Bs : List Int) : List (List Int) := if tabB A Bs then adjA A Bs else []
def adjTB (A : List (List Int)) (Bs : List Int) : List Int := if tabB A Bs then adjB Bs else []
def adjTC (A : List (List Int)) (Bs : List Int) : Int := if tabB A Bs then 0 else 1
def IsAdj (A : List (List Int)) (Bs : List Int) (RA : List (List Int)) (RB : List Int) (c : Int) : Prop := RA = adjTA A Bs ∧ RB = adjTB A Bs ∧ c = adjTC A Bs
theorem IsAdj.unique {A : List (List Int)} {Bs : List Int} {RA RA' : List (List Int)} {RB RB' : List Int} {c c' : Int} (h : IsAdj A Bs RA RB c) (h' : IsAdj A Bs RA' RB' c') : RA = RA' ∧ RB = RB' ∧ c = c' := by
  obtain ⟨rfl, rfl, rfl⟩ := h
  obtain ⟨rfl, rfl, rfl⟩ := h'
  exact ⟨rfl, rfl, rfl⟩
theorem IsAdj.short {A : List (List Int)} {Bs : List Int} {RA : List (List Int)} {RB : List Int} {c : Int} (h : IsAdj A Bs RA RB c) : tot RA ≤ 1000 ∧ RB.length ≤ 1000 := by
  obtain ⟨rfl, rfl, rfl⟩ := h
  unfold adjTA adjTB
  cases ht : tabB A Bs with
  | false => simp [tot]
  | true =>
    have hI := isTab_of ht
    have h1 : tot (adjA A Bs) ≤ (adjA A Bs).length * 8 := tot_le fun zs hz => by
      obtain ⟨a, ha, rfl⟩ := List.mem_map.1 hz
      have := hI.hi
      simp [pRow, dn_len]
      omega
    have := hI.hi
    rw [adjA_len] at h1
    simp only [if_true]
    rw [adjB_len]
    omega

set_option maxRecDepth 100000 in
set_option maxHeartbeats 2000000 in
theorem i_AdjointTableau (w : World) (v : Value) (A : List (List Int)) (Bs : List Int) (ha : TabArg w v A Bs) :
    Calls Tryz.prog 48 #[v] w fun e w' => ∃ RA RB v' c, e = .returned (.tuple #[v', .int .i64 c]) ∧ IsAdj A Bs RA RB c ∧ OT w' w.heap.size w'.heap.size v' RA RB ∧ Below w.heap.size w w' := by
  have HT := Lib.hid ha
  obtain ⟨Aa, ca, Ab, cb, rfl⟩ := ha.open_
  have B0 := Lib.hid (below2 w (.cells #[.slice Aa A.length ca, .slice Ab Bs.length cb] 45) (.cells #[.slice none 0 0, .slice none 0 0] 45))
  have K0 := Lib.hid ((Blk.new w #[.slice Aa A.length ca, .slice Ab Bs.length cb] 45).alloc (.cells #[.slice none 0 0, .slice none 0 0] 45))
  have K1 := Lib.hid (Blk.new1 w (.cells #[.slice Aa A.length ca, .slice Ab Bs.length cb] 45) #[.slice none 0 0, .slice none 0 0] 45)
  clear ha
  go_enter Tryz.func48, Tryz.ntmps48
  go_wp2_with fail
  refine (i_IsTableau _ _ _ _ (HT.out.below B0.out)).mono ?_
  rintro e w1 ⟨rfl, hb1⟩
  have B1 := Lib.hid (B0.out.trans (hb1.mono B0.out.size))
  have X0 := Lib.hid (K0.out.below hb1 K0.out.lt)
  have X1 := Lib.hid (K1.out.below hb1 K1.out.lt)
  have hs1 := hb1.size
  simp only [size_alloc'] at hs1
  have HS1 := Lib.hid hs1
  have g0 : w1.cell? ⟨w.heap.size, 0, none⟩ = some (.slice Aa A.length ca) := X0.out.cell 0
  have g1 : w1.cell? ⟨w.heap.size, 1, none⟩ = some (.slice Ab Bs.length cb) := X0.out.cell 1
  have f0 : w1.cell? ⟨w.heap.size + 1, 0, none⟩ = some (.slice none 0 0) := X1.out.cell 0
  have f1 : w1.cell? ⟨w.heap.size + 1, 1, none⟩ = some (.slice none 0 0) := X1.out.cell 1
  have f2 := X1.out.frozen 0
  have f3 := X1.out.frozen 1
  clear hb1 K0 K1 hs1
  cases ht : tabB A Bs with
  | false =>
    have HQ := Lib.hid ht
    go_wp2_with fail
    have c0 := Chg.refl (w.heap.size + 1) (w.heap.size + 1 + 1) w1
    have c1' := c0.setCell (p := ⟨w.heap.size + 1, 0, none⟩) (Nat.le_refl _) (by simp) (.slice none 0 0)
    have c2' := c1'.setCell (p := ⟨w.heap.size + 1, 1, none⟩) (Nat.le_refl _) (by simp) (.slice none 0 0)
    refine bodyPost_ret (v := .tuple #[.agg #[.slice none 0 0, .slice none 0 0], .int .i64 1]) (by simp [results, Tryz.results48, go_sem, f0, f1]) rfl ⟨[], [], _, _, rfl, ⟨by simp [adjTA, HQ.out], by simp [adjTB, HQ.out], by simp [adjTC, HQ.out]⟩, OT.nil _ _ _, c2'.below B1.out (by omega) B1.out.size⟩
  | true =>
    have HQ := Lib.hid ht
    have HI := Lib.hid (isTab_of ht)
    go_wp2_with fail
    refine (im_adjoint _ _ A Bs (HT.out.below B1.out) HI.out).mono ?_
    rintro e w2 ⟨r, rfl, hot, hb2⟩
    obtain ⟨A3, c3, A4, c4, rfl⟩ := hot.open_
    rw [adjA_len, adjB_len] at hot ⊢
    have HO := Lib.hid hot
    have B2 := Lib.hid (B1.out.trans (hb2.mono B1.out.size))
    have X2 := Lib.hid (X1.out.below hb2 X1.out.lt)
    clear g0 g1 f0 f1 f2 f3 hot hb2
    have f0 : w2.cell? ⟨w.heap.size + 1, 0, none⟩ = some (.slice none 0 0) := X2.out.cell 0
    have f1 : w2.cell? ⟨w.heap.size + 1, 1, none⟩ = some (.slice none 0 0) := X2.out.cell 1
    have f2 := X2.out.frozen 0
    have f3 := X2.out.frozen 1
    go_wp2_with fail
    have c0 := Chg.refl (w.heap.size + 1) (w.heap.size + 1 + 1) w2
    have c1' := c0.setCell (p := ⟨w.heap.size + 1, 0, none⟩) (Nat.le_refl _) (by simp) (.slice A3 Bs.length c3)
    have c2' := c1'.setCell (p := ⟨w.heap.size + 1, 1, none⟩) (Nat.le_refl _) (by simp) (.slice A4 Bs.length c4)
    refine bodyPost_ret (v := .tuple #[.agg #[.slice A3 Bs.length c3, .slice A4 Bs.length c4], .int .i64 0]) (by simp [results, Tryz.results48, go_sem, f0, f1]) rfl ⟨_, _, _, _, rfl, ⟨by simp [adjTA, HQ.out], by simp [adjTB, HQ.out], by simp [adjTC, HQ.out]⟩, (HO.out.kept c2' (.inr HS1.out)).mono B1.out.size c2'.size, c2'.below B2.out (by omega) B2.out.size⟩

end Go.Proofs.YtdjhfeaimmpmhaaGreat

set_option linter.unusedVariables false
set_option linter.unusedSimpArgs false
namespace Go.Proofs.YtdjhfeaimmpmhaaGreat
open Go.RowKit

def invTA (A : List (List Int)) (Bs : List Int) : List (List Int) := if tabB A Bs then A.map (fun r => addk 10006 r Bs) else []
def invTB (A : List (List Int)) (Bs : List Int) : List Int := if tabB A Bs then scl 10006 Bs else []
def IsInv (A : List (List Int)) (Bs : List Int) (RA : List (List Int)) (RB : List Int) (c : Int) : Prop := RA = invTA A Bs ∧ RB = invTB A Bs ∧ c = tabC A Bs
set_option maxRecDepth 100000 in
set_option maxHeartbeats 2000000 in
theorem i_InverseTableau (w : World) (v : Value) (A : List (List Int)) (Bs : List Int) (ha : TabArg w v A Bs) :
    Calls Tryz.prog 45 #[v] w fun e w' => ∃ RA RB v' c, e = .returned (.tuple #[v', .int .i64 c]) ∧ IsInv A Bs RA RB c ∧ OT w' w.heap.size w'.heap.size v' RA RB ∧ Below w.heap.size w w' := by
  have HT := Lib.hid ha
  obtain ⟨Aa, ca, Ab, cb, rfl⟩ := ha.open_
  have B0 := Lib.hid (below2 w (.cells #[.slice Aa A.length ca, .slice Ab Bs.length cb] 45) (.cells #[.slice none 0 0, .slice none 0 0] 45))
  have K0 := Lib.hid ((Blk.new w #[.slice Aa A.length ca, .slice Ab Bs.length cb] 45).alloc (.cells #[.slice none 0 0, .slice none 0 0] 45))
  have K1 := Lib.hid (Blk.new1 w (.cells #[.slice Aa A.length ca, .slice Ab Bs.length cb] 45) #[.slice none 0 0, .slice none 0 0] 45)
  clear ha
  go_enter Tryz.func45, Tryz.ntmps45
  go_wp2_with fail
  refine (i_IsTableau _ _ _ _ (HT.out.below B0.out)).mono ?_
  rintro e w1 ⟨rfl, hb1⟩
  have B1 := Lib.hid (B0.out.trans (hb1.mono B0.out.size))
  have X0 := Lib.hid (K0.out.below hb1 K0.out.lt)
  have X1 := Lib.hid (K1.out.below hb1 K1.out.lt)
  have hs1 := hb1.size
  simp only [size_alloc'] at hs1
  have HS1 := Lib.hid hs1
  have g0 : w1.cell? ⟨w.heap.size, 0, none⟩ = some (.slice Aa A.length ca) := X0.out.cell 0
  have g1 : w1.cell? ⟨w.heap.size, 1, none⟩ = some (.slice Ab Bs.length cb) := X0.out.cell 1
  have f0 : w1.cell? ⟨w.heap.size + 1, 0, none⟩ = some (.slice none 0 0) := X1.out.cell 0
  have f1 : w1.cell? ⟨w.heap.size + 1, 1, none⟩ = some (.slice none 0 0) := X1.out.cell 1
  have f2 := X1.out.frozen 0
  have f3 := X1.out.frozen 1
  clear hb1 K0 K1 hs1
  cases ht : tabB A Bs with
  | false =>
    have HQ := Lib.hid ht
    go_wp2_with fail
    have c0 := Chg.refl (w.heap.size + 1) (w.heap.size + 1 + 1) w1
    have c1' := c0.setCell (p := ⟨w.heap.size + 1, 0, none⟩) (Nat.le_refl _) (by simp) (.slice none 0 0)
    have c2' := c1'.setCell (p := ⟨w.heap.size + 1, 1, none⟩) (Nat.le_refl _) (by simp) (.slice none 0 0)
    refine bodyPost_ret (v := .tuple #[.agg #[.slice none 0 0, .slice none 0 0], .int .i64 1]) (by simp [results, Tryz.results45, go_sem, f0, f1]) rfl ⟨[], [], _, _, rfl, ⟨by simp [invTA, HQ.out], by simp [invTB, HQ.out], by simp [tabC, HQ.out]⟩, OT.nil _ _ _, c2'.below B1.out (by omega) B1.out.size⟩
  | true =>
    have HQ := Lib.hid ht
    have HI := Lib.hid (isTab_of ht)
    go_wp2_with fail
    refine (im_inverse _ _ A Bs (HT.out.below B1.out) HI.out.numTab (fun zs hz => Nat.le_of_eq (HI.out.row zs hz).1)).mono ?_
    rintro e w2 ⟨r, rfl, hot, hb2⟩
    obtain ⟨A3, c3, A4, c4, rfl⟩ := hot.open_
    rw [List.length_map, scl_len, HI.out.len] at hot ⊢
    have HO := Lib.hid hot
    have B2 := Lib.hid (B1.out.trans (hb2.mono B1.out.size))
    have X2 := Lib.hid (X1.out.below hb2 X1.out.lt)
    clear g0 g1 f0 f1 f2 f3 hot hb2
    have f0 : w2.cell? ⟨w.heap.size + 1, 0, none⟩ = some (.slice none 0 0) := X2.out.cell 0
    have f1 : w2.cell? ⟨w.heap.size + 1, 1, none⟩ = some (.slice none 0 0) := X2.out.cell 1
    have f2 := X2.out.frozen 0
    have f3 := X2.out.frozen 1
    go_wp2_with fail
    have c0 := Chg.refl (w.heap.size + 1) (w.heap.size + 1 + 1) w2
    have c1' := c0.setCell (p := ⟨w.heap.size + 1, 0, none⟩) (Nat.le_refl _) (by simp) (.slice A3 Bs.length c3)
    have c2' := c1'.setCell (p := ⟨w.heap.size + 1, 1, none⟩) (Nat.le_refl _) (by simp) (.slice A4 Bs.length c4)
    refine bodyPost_ret (v := .tuple #[.agg #[.slice A3 Bs.length c3, .slice A4 Bs.length c4], .int .i64 0]) (by simp [results, Tryz.results45, go_sem, f0, f1]) rfl ⟨_, _, _, _, rfl, ⟨by simp [invTA, HQ.out], by simp [invTB, HQ.out], by simp [tabC, HQ.out]⟩, (HO.out.kept c2' (.inr HS1.out)).mono B1.out.size c2'.size, c2'.below B2.out (by omega) B2.out.size⟩
end Go.Proofs.YtdjhfeaimmpmhaaGreat

