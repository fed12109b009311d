/- Walk: ComposeTableaus of the program. | Plain: what the law of adjoint tableaus says. No walk. | Walks: numbers that are drawn (spec.l01Source). (printed by drwgen.py) | Walks: what is drawn out of the source: picks, numbers, lists. -/
import Derived.Test.YtdjhfeaimmpmhaaGreatZc27
import Derived.Test.YtdjhfeaimmpmhaaGreatZc24
import Derived.Test.YtdjhfeaimmpmhaaGreatZc26
import Derived.Test.YtdjhfeaimmpmhaaGreatZc4
set_option maxRecDepth 100000
set_option linter.unusedVariables false
set_option linter.unusedSimpArgs false
namespace Go.Proofs.YtdjhfeaimmpmhaaGreat
open Go.RowKit

def cmpC (A1 : List (List Int)) (B1 : List Int) (A2 : List (List Int)) (B2 : List Int) : Int := if tabB A1 B1 then (if tabB A2 B2 then (if B1.length + B2.length ≤ 8 then 0 else 3) else 1) else 1
def IsCmp (A1 : List (List Int)) (B1 : List Int) (A2 : List (List Int)) (B2 : List Int) (RA : List (List Int)) (RB : List Int) (c : Int) : Prop := c = cmpC A1 B1 A2 B2 ∧ (c = 0 → RA = compA A1 B1 A2 B2 ∧ RB = B1 ++ B2) ∧ (c ≠ 0 → RA = [] ∧ RB = [])
set_option maxHeartbeats 8000000 in
theorem i_ComposeTableaus (w : World) (v v' : Value) (A1 : List (List Int)) (B1 : List Int) (A2 : List (List Int)) (B2 : List Int) (ha : TabArg w v A1 B1) (hb : TabArg w v' A2 B2) :
    Calls Tryz.prog 39 #[v, v'] w fun e w' => ∃ RA RB r c, e = .returned (.tuple #[r, .int .i64 c]) ∧ IsCmp A1 B1 A2 B2 RA RB c ∧ OT w' w.heap.size w'.heap.size r RA RB ∧ Below w.heap.size w w' := by
  obtain ⟨A1a, c1, B1a, d1, rfl⟩ := ha.open_
  obtain ⟨A2a, c2, B2a, d2, rfl⟩ := hb.open_
  obtain ⟨W, hW⟩ : ∃ W, W = ((w.alloc (.cells #[.slice A1a A1.length c1, .slice B1a B1.length d1] 45)).alloc (.cells #[.slice A2a A2.length c2, .slice B2a B2.length d2] 45)).alloc (.cells #[.slice none 0 0, .slice none 0 0] 45) := ⟨_, rfl⟩
  have hb0 : Below w.heap.size w W := by rw [hW]; exact below3 w _ _ _
  have B0 := Lib.hid hb0
  have HSW := Lib.hid (show W.heap.size = w.heap.size + 1 + 1 + 1 from by rw [hW]; simp)
  have K0 := Lib.hid (show Blk W w.heap.size 45 #[.slice A1a A1.length c1, .slice B1a B1.length d1] from by rw [hW]; exact ((Blk.new w #[.slice A1a A1.length c1, .slice B1a B1.length d1] 45).alloc _).alloc _)
  have K1 := Lib.hid (show Blk W (w.heap.size + 1) 45 #[.slice A2a A2.length c2, .slice B2a B2.length d2] from by rw [hW]; exact (Blk.new1 w _ #[.slice A2a A2.length c2, .slice B2a B2.length d2] 45).alloc _)
  have K2 := Lib.hid (show Blk W (w.heap.size + 1 + 1) 45 #[.slice none 0 0, .slice none 0 0] from by rw [hW]; exact Blk.new2 w _ _ #[.slice none 0 0, .slice none 0 0] 45)
  have HA := Lib.hid (ha.below hb0)
  have HB := Lib.hid (hb.below hb0)
  have HI1 := Lib.hid (i_IsTableau W _ _ _ HA.out)
  have HI2 := Lib.hid (fun Y (hY : Below W.heap.size W Y) => i_IsTableau Y _ _ _ (HB.out.below hY))
  clear ha hb hb0
  have g0 : W.cell? ⟨w.heap.size, 0, none⟩ = some (.slice A1a A1.length c1) := K0.out.cell 0
  have g1 : W.cell? ⟨w.heap.size, 1, none⟩ = some (.slice B1a B1.length d1) := K0.out.cell 1
  go_enter Tryz.func39, Tryz.ntmps39
  go_upto_region 1 with fail
  rw [← hW]
  clear hW
  cases ht1 : tabB A1 B1 with
  | false =>
    have HIC := Lib.hid (show IsCmp A1 B1 A2 B2 [] [] 1 from ⟨by simp [cmpC, ht1], fun h => absurd h (by decide), fun _ => ⟨rfl, rfl⟩⟩)
    rw [ht1] at HI1
    clear ht1
    go_upto_region 2 with (go_at_call 100; (with_reducible refine HI1.out.mono ?_); go_loud (rintro e w1 ⟨rfl, hb1⟩; have HB1 := Lib.hid hb1; clear hb1))
    have HBW := Lib.hid (B0.out.trans (HB1.out.mono B0.out.size))
    have Z := K2.out.below HB1.out K2.out.lt
    have f0 : w1.cell? ⟨w.heap.size + 1 + 1, 0, none⟩ = some (.slice none 0 0) := Z.cell 0
    have f1 : w1.cell? ⟨w.heap.size + 1 + 1, 1, none⟩ = some (.slice none 0 0) := Z.cell 1
    have f2 := Z.frozen 0
    have f3 := Z.frozen 1
    go_wp2_with fail
    have c0 := Chg.refl (w.heap.size + 1 + 1) (w.heap.size + 1 + 1 + 1) w1
    have c1' := c0.setCell (p := ⟨w.heap.size + 1 + 1, 0, none⟩) (Nat.le_refl _) (by simp) (.slice none 0 0)
    have c2' := c1'.setCell (p := ⟨w.heap.size + 1 + 1, 1, none⟩) (Nat.le_refl _) (by simp) (.slice none 0 0)
    refine bodyPost_ret (v := .tuple #[.agg #[.slice none 0 0, .slice none 0 0], .int .i64 1]) (by simp [results, Tryz.results39, go_sem, f0, f1]) rfl ⟨_, _, _, _, rfl, HIC.out, OT.nil _ _ _, c2'.below HBW.out (by omega) HBW.out.size⟩
  | true =>
    have HT1 := Lib.hid ht1
    rw [ht1] at HI1
    clear ht1
    cases ht2 : tabB A2 B2 with
    | false =>
      have HIC := Lib.hid (show IsCmp A1 B1 A2 B2 [] [] 1 from ⟨by simp [cmpC, ht2], fun h => absurd h (by decide), fun _ => ⟨rfl, rfl⟩⟩)
      simp only [ht2] at HI2
      clear ht2
      go_upto_region 2 with (first
        | (go_at_call 100; (with_reducible refine HI1.out.mono ?_); go_loud (rintro e w1 ⟨rfl, hb1⟩; have HB1 := Lib.hid hb1; have g2 : w1.cell? ⟨w.heap.size + 1, 0, none⟩ = some (.slice A2a A2.length c2) := (K1.out.below hb1 K1.out.lt).cell 0; have g3 : w1.cell? ⟨w.heap.size + 1, 1, none⟩ = some (.slice B2a B2.length d2) := (K1.out.below hb1 K1.out.lt).cell 1; clear hb1))
        | (go_at_call 100; (with_reducible refine (HI2.out _ HB1.out).mono ?_); go_loud (rintro e w2 ⟨rfl, hb2⟩; have HB2 := Lib.hid (HB1.out.trans (hb2.mono HB1.out.size)); clear hb2)))
      have HBW := Lib.hid (B0.out.trans (HB2.out.mono B0.out.size))
      have Z := K2.out.below HB2.out K2.out.lt
      have f0 : w2.cell? ⟨w.heap.size + 1 + 1, 0, none⟩ = some (.slice none 0 0) := Z.cell 0
      have f1 : w2.cell? ⟨w.heap.size + 1 + 1, 1, none⟩ = some (.slice none 0 0) := Z.cell 1
      have f2 := Z.frozen 0
      have f3 := Z.frozen 1
      go_wp2_with fail
      have c0 := Chg.refl (w.heap.size + 1 + 1) (w.heap.size + 1 + 1 + 1) w2
      have c1' := c0.setCell (p := ⟨w.heap.size + 1 + 1, 0, none⟩) (Nat.le_refl _) (by simp) (.slice none 0 0)
      have c2' := c1'.setCell (p := ⟨w.heap.size + 1 + 1, 1, none⟩) (Nat.le_refl _) (by simp) (.slice none 0 0)
      refine bodyPost_ret (v := .tuple #[.agg #[.slice none 0 0, .slice none 0 0], .int .i64 1]) (by simp [results, Tryz.results39, go_sem, f0, f1]) rfl ⟨_, _, _, _, rfl, HIC.out, OT.nil _ _ _, c2'.below HBW.out (by omega) HBW.out.size⟩
    | true =>
      have HT2 := Lib.hid ht2
      simp only [ht2] at HI2
      clear ht2
      go_upto_region 3 with (first
        | (go_at_call 100; (with_reducible refine HI1.out.mono ?_); go_loud (rintro e w1 ⟨rfl, hb1⟩; have HB1 := Lib.hid hb1; have g2 : w1.cell? ⟨w.heap.size + 1, 0, none⟩ = some (.slice A2a A2.length c2) := (K1.out.below hb1 K1.out.lt).cell 0; have g3 : w1.cell? ⟨w.heap.size + 1, 1, none⟩ = some (.slice B2a B2.length d2) := (K1.out.below hb1 K1.out.lt).cell 1; clear hb1))
        | (go_at_call 100; (with_reducible refine (HI2.out _ HB1.out).mono ?_); go_loud (rintro e w2 ⟨rfl, hb2⟩; have HB2 := Lib.hid (HB1.out.trans (hb2.mono HB1.out.size)); clear hb2)))
      have HS1 := Lib.hid (show ∀ Y, Below w2.heap.size w2 Y → Calls Tryz.prog 101 #[.agg #[.slice A1a A1.length c1, .slice B1a B1.length d1]] Y (fun e w' => e = .returned (.int .i64 B1.length) ∧ Below w2.heap.size w2 w') from fun Y hY => (im_stages Y _ _ _ ((HA.out.below HB2.out).below hY)).mono (by rintro e w5 ⟨rfl, hb5⟩; exact ⟨rfl, hY.trans (hb5.mono hY.size)⟩))
      have HS2 := Lib.hid (show ∀ Y, Below w2.heap.size w2 Y → Calls Tryz.prog 101 #[.agg #[.slice A2a A2.length c2, .slice B2a B2.length d2]] Y (fun e w' => e = .returned (.int .i64 B2.length) ∧ Below w2.heap.size w2 w') from fun Y hY => (im_stages Y _ _ _ ((HB.out.below HB2.out).below hY)).mono (by rintro e w5 ⟨rfl, hb5⟩; exact ⟨rfl, hY.trans (hb5.mono hY.size)⟩))
      have L0 := Lib.hid (K0.out.below HB2.out K0.out.lt)
      have L1 := Lib.hid (K1.out.below HB2.out K1.out.lt)
      have HM := Lib.hid (show ∀ Y, Below w2.heap.size w2 Y → (Y.cell? ⟨w.heap.size, 0, none⟩ = some (.slice A1a A1.length c1) ∧ Y.cell? ⟨w.heap.size, 1, none⟩ = some (.slice B1a B1.length d1)) ∧ Y.cell? ⟨w.heap.size + 1, 0, none⟩ = some (.slice A2a A2.length c2) ∧ Y.cell? ⟨w.heap.size + 1, 1, none⟩ = some (.slice B2a B2.length d2) from fun Y hY => ⟨⟨(L0.out.below hY L0.out.lt).cell 0, (L0.out.below hY L0.out.lt).cell 1⟩, (L1.out.below hY L1.out.lt).cell 0, (L1.out.below hY L1.out.lt).cell 1⟩)
      obtain ⟨⟨a1, a2⟩, a3, a4⟩ := HM.out w2 (Below.refl _ _)
      have hz1 := (isTab_of HT1.out).hi
      have hz2 := (isTab_of HT2.out).hi
      clear g0 g1 g2 g3
      go_cut [16] (fun v wx => v = .bool (decide (8 < B1.length + B2.length)) ∧ Below w2.heap.size w2 wx)
      case first =>
        by_cases hle : 8 < B1.length + B2.length
        · have hli : (8 : Int) < (B1.length : Int) + (B2.length : Int) := by omega
          have hd : decide (8 < B1.length + B2.length) = true := decide_eq_true hle
          have hw : IntKind.i64.wrap ((B1.length : Int) + (B2.length : Int)) = (B1.length : Int) + (B2.length : Int) := IntWalk.i64_in _ (by omega)
          go_region_law (first
            | (go_simp; go_at_call 101; (with_reducible refine ((HS1.out _ ?_).mono ?_)); (first | exact HB5.out | exact HB5.out.drew | exact Below.refl _ _ | exact (Below.refl _ _).drew); go_loud (rintro e w5 ⟨rfl, hb5⟩; obtain ⟨⟨m1, m2⟩, m3, m4⟩ := HM.out w5 hb5; have HB5 := Lib.hid hb5; clear hb5))
            | (go_simp; go_at_call 101; (with_reducible refine ((HS2.out _ ?_).mono ?_)); (first | exact HB5.out | exact HB5.out.drew | exact Below.refl _ _ | exact (Below.refl _ _).drew); go_loud (rintro e w5 ⟨rfl, hb5⟩; obtain ⟨⟨m1, m2⟩, m3, m4⟩ := HM.out w5 hb5; have HB5 := Lib.hid hb5; clear hb5)))
          all_goals
            go_wp2_with fail
            go_meet
            exact ⟨by rw [hd], HB5.out⟩
        · have hli : ¬ (8 : Int) < (B1.length : Int) + (B2.length : Int) := by omega
          have hd : decide (8 < B1.length + B2.length) = false := decide_eq_false hle
          have hw : IntKind.i64.wrap ((B1.length : Int) + (B2.length : Int)) = (B1.length : Int) + (B2.length : Int) := IntWalk.i64_in _ (by omega)
          go_region_law (first
            | (go_simp; go_at_call 101; (with_reducible refine ((HS1.out _ ?_).mono ?_)); (first | exact HB5.out | exact HB5.out.drew | exact Below.refl _ _ | exact (Below.refl _ _).drew); go_loud (rintro e w5 ⟨rfl, hb5⟩; obtain ⟨⟨m1, m2⟩, m3, m4⟩ := HM.out w5 hb5; have HB5 := Lib.hid hb5; clear hb5))
            | (go_simp; go_at_call 101; (with_reducible refine ((HS2.out _ ?_).mono ?_)); (first | exact HB5.out | exact HB5.out.drew | exact Below.refl _ _ | exact (Below.refl _ _).drew); go_loud (rintro e w5 ⟨rfl, hb5⟩; obtain ⟨⟨m1, m2⟩, m3, m4⟩ := HM.out w5 hb5; have HB5 := Lib.hid hb5; clear hb5)))
          all_goals
            go_wp2_with fail
            go_meet
            exact ⟨by rw [hd], HB5.out⟩
      case rest =>
        obtain ⟨rfl, hb6⟩ := hcut
        rename World => w6
        have HB6 := Lib.hid (HB2.out.trans (hb6.mono HB2.out.size))
        obtain ⟨⟨a1, a2⟩, a3, a4⟩ := HM.out w6 hb6
        clear hb6
        have HBW := Lib.hid (B0.out.trans (HB6.out.mono B0.out.size))
        by_cases hle : 8 < B1.length + B2.length
        · have hd : decide (8 < B1.length + B2.length) = true := decide_eq_true hle
          have HIC := Lib.hid (show IsCmp A1 B1 A2 B2 [] [] 3 from ⟨by simp [cmpC, HT1.out, HT2.out]; omega, fun h => absurd h (by decide), fun _ => ⟨rfl, rfl⟩⟩)
          rw [hd]
          go_upto_region 4 with fail
          have Z := K2.out.below HB6.out K2.out.lt
          have f0 : w6.cell? ⟨w.heap.size + 1 + 1, 0, none⟩ = some (.slice none 0 0) := Z.cell 0
          have f1 : w6.cell? ⟨w.heap.size + 1 + 1, 1, none⟩ = some (.slice none 0 0) := Z.cell 1
          have f2 := Z.frozen 0
          have f3 := Z.frozen 1
          go_wp2_with fail
          have c0 := Chg.refl (w.heap.size + 1 + 1) (w.heap.size + 1 + 1 + 1) w6
          have c1' := c0.setCell (p := ⟨w.heap.size + 1 + 1, 0, none⟩) (Nat.le_refl _) (by simp) (.slice none 0 0)
          have c2' := c1'.setCell (p := ⟨w.heap.size + 1 + 1, 1, none⟩) (Nat.le_refl _) (by simp) (.slice none 0 0)
          refine bodyPost_ret (v := .tuple #[.agg #[.slice none 0 0, .slice none 0 0], .int .i64 3]) (by simp [results, Tryz.results39, go_sem, f0, f1]) rfl ⟨_, _, _, _, rfl, HIC.out, OT.nil _ _ _, c2'.below HBW.out (by omega) HBW.out.size⟩
        · have hd : decide (8 < B1.length + B2.length) = false := decide_eq_false hle
          have HIC := Lib.hid (show IsCmp A1 B1 A2 B2 (compA A1 B1 A2 B2) (B1 ++ B2) 0 from ⟨by simp [cmpC, HT1.out, HT2.out]; omega, fun _ => ⟨rfl, rfl⟩, fun h => absurd rfl h⟩)
          rw [hd]
          have HCO := Lib.hid (im_composed w6 _ _ A1 A2 B1 B2 (HA.out.below HB6.out) (HB.out.below HB6.out) (isTab_of HT1.out).numTab (isTab_of HT2.out).numTab)
          go_wp2_with (go_at_call 102; go_loud (refine HCO.out.mono ?_; rintro e w7 ⟨r7, rfl, ho, hb7⟩; obtain ⟨A7, c7, B7, d7, rfl⟩ := ho.open_; rw [List.length_append] at ho; have HO := Lib.hid ho; have HB7 := Lib.hid (HB6.out.trans (hb7.mono HB6.out.size)); have f0 : w7.cell? ⟨w.heap.size + 1 + 1, 0, none⟩ = some (.slice none 0 0) := (K2.out.below HB7.out K2.out.lt).cell 0; have f1 : w7.cell? ⟨w.heap.size + 1 + 1, 1, none⟩ = some (.slice none 0 0) := (K2.out.below HB7.out K2.out.lt).cell 1; have f2 := (K2.out.below HB7.out K2.out.lt).frozen 0; have f3 := (K2.out.below HB7.out K2.out.lt).frozen 1; clear ho hb7))
          have HOI := Lib.hid HO.out
          have hsz := HB6.out.size
          have hsw := HSW.out
          have c0 := Chg.refl (w.heap.size + 1 + 1) (w.heap.size + 1 + 1 + 1) w7
          have c1' := c0.setCell (p := ⟨w.heap.size + 1 + 1, 0, none⟩) (Nat.le_refl _) (by simp) (.slice A7 (compA A1 B1 A2 B2).length c7)
          have c2' := c1'.setCell (p := ⟨w.heap.size + 1 + 1, 1, none⟩) (Nat.le_refl _) (by simp) (.slice B7 (B1.length + B2.length) d7)
          have HBV := B0.out.trans (HB7.out.mono B0.out.size)
          refine bodyPost_ret (v := .tuple #[.agg #[.slice A7 (compA A1 B1 A2 B2).length c7, .slice B7 (B1.length + B2.length) d7], .int .i64 0]) (by simp [results, Tryz.results39, go_sem, f0, f1]) rfl ⟨_, _, _, _, rfl, HIC.out, (HO.out.kept c2' (.inr (by omega))).mono (by omega) c2'.size, c2'.below HBV (by omega) HBV.size⟩
end Go.Proofs.YtdjhfeaimmpmhaaGreat

set_option linter.unusedVariables false
set_option linter.unusedSimpArgs false
namespace Go.Proofs.YtdjhfeaimmpmhaaGreat
open Go.RowKit

theorem adjA_ad (A : List (List Int)) (Bs : List Int) : adjA A Bs = adA A Bs := rfl
theorem adjB_ad (Bs : List Int) : adjB Bs = adB Bs := rfl
theorem adj_ok {A : List (List Int)} {Bs : List Int} (h : tabB A Bs = true) :
    tabB (adA A Bs) (adB Bs) = true ∧ adA (adA A Bs) (adB Bs) = A ∧ adB (adB Bs) = Bs ∧ tabB (invT A Bs) (scl 10006 Bs) = true ∧ invT (invT A Bs) (scl 10006 Bs) = A ∧ scl 10006 (scl 10006 Bs) = Bs ∧ ordR (adA A Bs) (adB Bs) = ordR A Bs ∧ (adB Bs).length = Bs.length := by
  have hI := isTab_of h
  have hS := SqT.of hI
  have t1 := tabB_sq hS.ad hI.lo hI.hi
  obtain ⟨a1, a2⟩ := ad_ad hS
  obtain ⟨b1, b2⟩ := inv_inv hS
  refine ⟨t1, a1, a2, tabB_sq hS.inv hI.lo hI.hi, b1, b2, ?_, hS.ad.lb⟩
  unfold ordR
  rw [if_pos h, if_pos t1]
  exact ad_order hS
/-- the adjoint: what IsAdj says of a tableau -/
theorem isAdj_ok {A RA : List (List Int)} {Bs RB : List Int} {c : Int} (h : tabB A Bs = true) (hr : IsAdj A Bs RA RB c) : RA = adA A Bs ∧ RB = adB Bs ∧ c = 0 := by
  obtain ⟨rfl, rfl, rfl⟩ := hr
  exact ⟨by simp [adjTA, h, adjA_ad], by simp [adjTB, h, adjB_ad], by simp [adjTC, h]⟩
theorem isInv_ok {A RA : List (List Int)} {Bs RB : List Int} {c : Int} (h : tabB A Bs = true) (hr : IsInv A Bs RA RB c) : RA = invT A Bs ∧ RB = scl 10006 Bs ∧ c = 0 := by
  obtain ⟨rfl, rfl, rfl⟩ := hr
  exact ⟨by simp [invTA, h]; rfl, by simp [invTB, h], by simp [tabC, h]⟩
/-- the adjoint of a composition -/
theorem adj_cmp {A1 A2 : List (List Int)} {B1 B2 : List Int} (h1 : tabB A1 B1 = true) (h2 : tabB A2 B2 = true) (hl : B1.length + B2.length ≤ 8) :
    tabB (compA A1 B1 A2 B2) (B1 ++ B2) = true ∧ adA (compA A1 B1 A2 B2) (B1 ++ B2) = compA (adA A2 B2) (adB B2) (adA A1 B1) (adB B1) ∧ adB (B1 ++ B2) = adB B2 ++ adB B1 := by
  have hI1 := isTab_of h1
  have hI2 := isTab_of h2
  have hS1 := SqT.of hI1
  have hS2 := SqT.of hI2
  have hc := hS1.cmp hS2
  obtain ⟨a1, a2⟩ := ad_cmp hS1 hS2
  exact ⟨tabB_sq hc (by have := hI1.lo; omega) hl, a1, a2⟩
theorem isCmp_ok {A1 A2 RA : List (List Int)} {B1 B2 RB : List Int} {c : Int} (h1 : tabB A1 B1 = true) (h2 : tabB A2 B2 = true) (hl : B1.length + B2.length ≤ 8) (hr : IsCmp A1 B1 A2 B2 RA RB c) : RA = compA A1 B1 A2 B2 ∧ RB = B1 ++ B2 ∧ c = 0 := by
  obtain ⟨hc, r1, -⟩ := hr
  have h0 : c = 0 := by rw [hc]; simp [cmpC, h1, h2, hl]
  exact ⟨(r1 h0).1, (r1 h0).2, h0⟩
end Go.Proofs.YtdjhfeaimmpmhaaGreat

set_option maxRecDepth 100000
set_option linter.unusedVariables false
set_option linter.unusedSimpArgs false
namespace Go.Proofs.YtdjhfeaimmpmhaaGreat
open Go.RowKit

abbrev tSc : TypeId := 101
set_option maxHeartbeats 4000000 in
theorem s_l01Next (w : World) (B p : Nat) (n : Int) (h : Src w B tSc p) (hn : n ≤ 4611686018427387904) (hn0 : 1 ≤ n) :
    Calls Tryz.prog 50 #[at0 p, .int .i64 n] w fun e w' => ∃ x, e = .returned (.int .i64 x) ∧ 0 ≤ x ∧ x < n ∧ w.grownBy w' (some p) ∧ Src w' B tSc p := by
  obtain ⟨A, m, c, k, hs, hk, hB, hby, hkm, hm, h0, h1⟩ := h
  have HK := Lib.hid hk
  have HBY := Lib.hid hby
  have k2 : w.cell? ⟨p, 2, none⟩ = some (.int .u64 hs) := hk.cell 2
  have f2 : w.frozen? ⟨p, 2, none⟩ = false := hk.frozen 2
  clear hk hby
  go_enter Tryz.func50, Tryz.ntmps50
  go_upto_region 5 with fail
  obtain ⟨x, y, hx, x0, x1, hy, hw, y0, y1⟩ := hash_bd (IntKind.u64.wrap (hs * 6364136223846793005) + 1442695040888963407)
  rw [← hx, hw, ← hy]
  clear hx hy hw h0 h1 f2 k2
  have HK1 := Lib.hid (HK.out.set_ 2 (.int .u64 x))
  have HG1 := Lib.hid (gset w p 2 (.int .u64 x))
  generalize w.setCell ⟨p, 2, none⟩ (.int .u64 x) = w1 at HK1 HG1 ⊢
  generalize x / 8589934592 = x9
  generalize IntKind.u64.wrap (hs * 6364136223846793005) = x8
  have HBY1 := Lib.hid (HBY.out.grown HG1.out hB)
  have HK1 := Lib.hid (show Blk w1 p tSc #[.slice A m c, .int .i64 k, .int .u64 x] from HK1.out)
  have k0 : w1.cell? ⟨p, 0, none⟩ = some (.slice A m c) := HK1.out.cell 0
  have k1 : w1.cell? ⟨p, 1, none⟩ = some (.int .i64 k) := HK1.out.cell 1
  have f1 : w1.frozen? ⟨p, 1, none⟩ = false := HK1.out.frozen 1
  clear HK HBY
  by_cases hlt : k < m
  · obtain ⟨ad, z, rfl, a1, a2, z0, z1, hc⟩ := HBY1.out k hlt
    have hkk : (k : Int) < (m : Int) := by omega
    have hw1 : wrap64 (y + z) = y + z := w64_dr _ (by omega)
    have hwk : wrap64 ((k : Int) + 1) = (k : Int) + 1 := w64_dr _ (by omega)
    clear a1 a2
    go_quiet (fail)
    go_upto_region 6 with fail
    rename Nat => nq0
    have k0' : (w1.drewN nq0).cell? ⟨p, 0, none⟩ = some (.slice (some ad) m c) := k0
    have k1' : (w1.drewN nq0).cell? ⟨p, 1, none⟩ = some (.int .i64 k) := k1
    have hc' : (w1.drewN nq0).cell? (ad.add k) = some (.int .u8 z) := hc
    go_quiet (fail)
    go_wp2_with fail
    go_ret
    obtain ⟨r0, r1⟩ := rem_bd (x := y + z) (n := n) (by omega) hn0
    have HB2 : w1.grownBy ((w1.drewN (nq0 + nq)).setCell ⟨p, 1, none⟩ (.int .i64 ((k : Int) + 1))) (some p) := gtrans (gof (below_drewN (Below.refl _ _) _)) (gset _ _ _ _)
    exact ⟨_, rfl, r0, r1, gtrans HG1.out HB2, some ad, m, c, k + 1, x, by simpa using (HK1.out.drewN _).set_ 1 (.int .i64 ((k : Int) + 1)), hB, HBY1.out.grown HB2 hB, hlt, hm, x0, x1⟩
  · have hkk : ¬ ((k : Int) < (m : Int)) := by omega
    go_quiet (fail)
    go_wp2_with fail
    go_ret
    obtain ⟨r0, r1⟩ := rem_bd (x := y) (n := n) (by omega) hn0
    rename Nat => nq0
    have HB2 : w1.grownBy (w1.drewN nq0) (some p) := gof (below_drewN (Below.refl _ _) _)
    exact ⟨_, rfl, r0, r1, gtrans HG1.out HB2, A, m, c, k, x, HK1.out.drewN _, hB, HBY1.out.grown HB2 hB, hkm, hm, x0, x1⟩
set_option maxHeartbeats 4000000 in
theorem s_l01From (w : World) (A : Option Addr) (n c : Nat) (hb : ByB w w.heap.size A n) (hn : n ≤ 4096) :
    Calls Tryz.prog 49 #[.slice A n c] w fun e w' => ∃ p, e = .returned (at0 p) ∧ Src w' w.heap.size tSc p ∧ Below w.heap.size w w' := by
  have HBY := Lib.hid hb
  have hs2 : 0 ≤ 5381 + (n : Int) ∧ 5381 + (n : Int) < 18446744073709551616 := by omega
  clear hb
  go_enter Tryz.func49, Tryz.ntmps49
  go_wp2_with fail
  obtain ⟨h0, hh0⟩ : ∃ h0, h0 = 5381 + (n : Int) := ⟨_, rfl⟩
  rw [← hh0] at hs2 ⊢
  obtain ⟨W, hW⟩ : ∃ W, W = w.alloc (Obj.cells #[Value.slice A n c, Value.int IntKind.i64 0, Value.int IntKind.u64 h0] tSc) := ⟨_, rfl⟩
  have HBW := Lib.hid (show Below w.heap.size w W from by rw [hW]; exact below1 w _)
  have HK := Lib.hid (show Blk W w.heap.size tSc #[Value.slice A n c, Value.int IntKind.i64 0, Value.int IntKind.u64 h0] from by rw [hW]; exact Blk.new _ _ _)
  rw [← hW]
  clear hW hh0
  obtain ⟨g0, g1⟩ := hs2
  go_loopw [4] (fun x wr => ∃ (j : Nat) (h : Int), j ≤ n ∧ x = .int .i64 j ∧ 0 ≤ h ∧ h < 18446744073709551616 ∧ Blk wr w.heap.size tSc #[Value.slice A n c, Value.int IntKind.i64 0, Value.int IntKind.u64 h] ∧ Below w.heap.size w wr) (fun x _ => n - (intOf x).toNat)
  case atStart => exact ⟨0, h0, Nat.zero_le _, rfl, g0, g1, HK.out, HBW.out⟩
  case round =>
    obtain ⟨j, h, hj, rfl, q0, q1, hk, hb⟩ := hrel
    rename World => wq
    clear HK HBW
    have HK := Lib.hid hk
    have HB := Lib.hid hb
    have k2 : wq.cell? ⟨w.heap.size, 2, none⟩ = some (.int .u64 h) := hk.cell 2
    have f2 : wq.frozen? ⟨w.heap.size, 2, none⟩ = false := hk.frozen 2
    clear hk hb
    by_cases hlt : j < n
    · have hj4 : (j : Int) < 4096 := by omega
      have hjj : (j : Int) < (n : Int) := by omega
      obtain ⟨ad, z, rfl, a1, a2, z0, z1, hc⟩ := HBY.out j hlt
      have hc1 : wq.cell? (ad.add j) = some (.int .u8 z) := by rw [HB.out.cell (by rw [block_add]; exact a1)]; exact hc
      have hjk : wrap64 ((j : Int) + 1) = (j : Int) + 1 := w64_dr _ (by omega)
      clear a1 a2 hc
      go_upto_region 5 with fail
      go_region_law (fail)
      all_goals
        obtain ⟨y, hy⟩ : ∃ y, y = IntKind.u64.wrap (IntKind.u64.wrap (IntKind.u64.wrap (h * 1099511628211) + IntKind.u64.wrap z) + 11) := ⟨_, rfl⟩
        obtain ⟨b0, b1⟩ : 0 ≤ y ∧ y < 18446744073709551616 := by rw [hy]; exact u64_bd _
        rw [← hy]
        clear hy
        go_wp2_with fail
        go_roundw
        case rel =>
          exact ⟨j + 1, _, by omega, by go_num, b0, b1, (HK.out.set_ 2 _).drewN 1, (HB.out.setCell (Nat.le_refl _) _).drew⟩
        case measure => simp [intOf]; omega
    · have hjn : j = n := by omega
      subst hjn
      go_wp2_with fail
      go_ret
      exact ⟨_, rfl, ⟨A, j, c, 0, h, HK.out, Nat.le_refl _, fun k hk => by obtain ⟨ad, z, e, a1, a2, z0, z1, hc⟩ := HBY.out k hk; exact ⟨ad, z, e, a1, Nat.lt_of_lt_of_le a1 HB.out.size, z0, z1, by rw [HB.out.cell (by rw [block_add]; exact a1)]; exact hc⟩, Nat.zero_le _, (by omega), q0, q1⟩, HB.out⟩
end Go.Proofs.YtdjhfeaimmpmhaaGreat

set_option maxRecDepth 100000
set_option linter.unusedVariables false
set_option linter.unusedSimpArgs false
namespace Go.Proofs.YtdjhfeaimmpmhaaGreat
open Go.RowKit

theorem wrap_i64 (x : Int) (h : -9223372036854775808 ≤ x ∧ x ≤ 9223372036854775807) : IntKind.i64.wrap x = x := IntWalk.i64_in _ (by omega)
/-- a literal list of numbers is kept where the source changes -/
theorem lit_keep (w : World) (p : Nat) (zs : List Int) (hz : ∀ z ∈ zs, In64 z) (hl : zs.length ≤ 1000) (hp : p < w.heap.size) :
    ∀ W, (w.alloc (.cells (ints zs).toArray tI)).grownBy W (some p) → Ints W (.slice (some ⟨w.heap.size, 0, none⟩) zs.length zs.length) zs := fun W hg => by
  have h := own_lit w tI (ints zs) (by rw [ints_len]; simp [maxLen]; omega)
  rw [ints_len] at h
  exact ⟨(h.kept hg (.inr (fun e => by simp [Value.ownBlock] at e; omega))).cells, hz⟩
set_option maxHeartbeats 4000000 in
theorem s_l01Pick (w : World) (B p : Nat) (v : Value) (zs : List Int) (h : Src w B tSc p) (hv : ∀ W, w.grownBy W (some p) → Ints W v zs) (h1 : 1 ≤ zs.length) (h2 : zs.length ≤ 1000) :
    Calls Tryz.prog 52 #[at0 p, v] w fun e w' => ∃ z, e = .returned (.int .i64 z) ∧ z ∈ zs ∧ w.grownBy w' (some p) ∧ Src w' B tSc p := by
  obtain ⟨A, c, rfl, g1, g2, g3⟩ := (hv w (World.grownBy.refl _ _)).open_
  have HV := Lib.hid hv
  have HN := Lib.hid (s_l01Next w B p (zs.length : Nat) h (by omega) (by omega))
  clear g3 h hv
  go_enter Tryz.func52, Tryz.ntmps52
  go_wp2_with (go_at_call 50; go_loud (refine HN.out.mono ?_; rintro e w1 ⟨x, rfl, x0, x1, hg, hs⟩; obtain ⟨k, rfl⟩ : ∃ k : Nat, x = k := ⟨x.toNat, by omega⟩; obtain ⟨A', c', he, -, -, g3⟩ := (HV.out w1 hg).open_; (simp only [Value.slice.injEq] at he); obtain ⟨rfl, -, rfl⟩ := he; obtain ⟨ad, z, rfl, hz, hz2, hc⟩ := g3 k (by omega); have HZ := Lib.hid (List.mem_of_getElem? hz); have HG := Lib.hid hg; have HS := Lib.hid hs; have hkl : k < zs.length := (by omega); clear g3 hz hz2 hg hs x0 x1))
  go_ret
  exact ⟨_, rfl, HZ.out, HG.out, HS.out⟩
theorem nume_bd (x : Int) : 0 ≤ x % 10007 ∧ x % 10007 ≤ 10006 := by omega
set_option maxHeartbeats 1000000 in
theorem s_l01FracZ (w : World) (p q : Int) (h0 : -1000000 ≤ p) (h1 : p ≤ 1000000) (g0 : 0 ≤ q) (g1 : q ≤ 1000000) :
    Calls Tryz.prog 149 #[.int .i64 p, .int .i64 q] w fun e w' => ∃ z, e = .returned (.int .i64 z) ∧ (0 ≤ z ∧ z ≤ 10006) ∧ w = w' := by
  have hp := pw_bd (q % 10007) 10005
  have hq : 0 ≤ q % 10007 ∧ q % 10007 ≤ 10006 := by omega
  have hq2 : 0 ≤ p % 10007 ∧ p % 10007 ≤ 10006 := by omega
  go_enter Tryz.func149, Tryz.ntmps149
  go_wp2_with (first
    | (go_at_call 191; (with_reducible refine (s_l01Inv _ _ (by omega) (by omega)).mono ?_); rintro e w2 ⟨rfl, rfl⟩)
    | (go_at_call 131; (with_reducible refine (s_l01Mul _ _ _ (by omega) (by omega) (by omega) (by omega)).mono ?_); rintro e w2 ⟨rfl, rfl⟩)
    | (go_at_call 123; (with_reducible refine (s_l01Mod _ _ (by omega) (by omega)).mono ?_); rintro e w2 ⟨rfl, rfl⟩))
  go_ret
  exact ⟨_, rfl, nume_bd _, rfl⟩
set_option maxHeartbeats 4000000 in
theorem s_l01Number (w : World) (B p : Nat) (h : Src w B tSc p) :
    Calls Tryz.prog 112 #[at0 p] w fun e w' => ∃ z, e = .returned (.int .i64 z) ∧ (0 ≤ z ∧ z ≤ 10006) ∧ w.grownBy w' (some p) ∧ Src w' B tSc p := by
  have HN := Lib.hid (s_l01Next w B p 5 h (by omega) (by omega))
  have hpl := h.lt
  clear h
  go_enter Tryz.func112, Tryz.ntmps112
  go_upto_region 2 with (go_at_call 50; go_loud (refine HN.out.mono ?_; rintro e w1 ⟨x, rfl, x0, x1, hg, hs⟩; have HG := Lib.hid hg; have HS := Lib.hid hs; clear hg hs))
  have hpl1 : p < w1.heap.size := Nat.lt_of_lt_of_le hpl HG.out.size
  by_cases hx0 : x = 0
  · have hd0 : (x == 0) = true := by simp [hx0]
    have HN1 := Lib.hid (s_l01Next w1 B p 10007 HS.out (by omega) (by omega))
    clear hx0 x0 x1
    go_wp2_with (go_at_call 50; go_loud (refine HN1.out.mono ?_; rintro e w2 ⟨y, rfl, y0, y1, hg, hs⟩; have HG2 := Lib.hid (gtrans HG.out hg); have HS2 := Lib.hid hs; clear hg hs))
    go_ret
    exact ⟨_, rfl, ⟨y0, by omega⟩, HG2.out, HS2.out⟩
  · have hd0 : (x == 0) = false := by simp [hx0]
    by_cases hx1 : x = 1
    · have hd1 : (x == 1) = true := by simp [hx1]
      have HL := Lib.hid (lit_keep w1 p [0, 1, 0, 1, 10006, 2] (by intro z hz; simp at hz; unfold In64; omega) (by simp) hpl1)
      have HSL := Lib.hid (HS.out.below (below1 w1 (.cells (ints [0, 1, 0, 1, 10006, 2]).toArray tI)))
      have HPK := Lib.hid (s_l01Pick _ B p _ [0, 1, 0, 1, 10006, 2] HSL.out HL.out (by simp) (by simp))
      clear hx0 hx1 x0 x1
      go_wp2_with (go_at_call 52; go_loud (refine HPK.out.mono ?_; rintro e w2 ⟨y, rfl, hy, hg, hs⟩; have HG2 := Lib.hid (gtrans (gtrans HG.out (gof (below1 w1 _))) hg); have HS2 := Lib.hid hs; have HY := Lib.hid hy; clear hg hs hy))
      go_ret
      exact ⟨_, rfl, by have := HY.out; simp at this; omega, HG2.out, HS2.out⟩
    · have hd1 : (x == 1) = false := by simp [hx1]
      have HN1 := Lib.hid (s_l01Next w1 B p 15 HS.out (by omega) (by omega))
      have hw := fun y (h : 0 ≤ y ∧ y < 15) => wrap_i64 (y - 7) (by omega)
      have hw2 := fun y (h : 0 ≤ y ∧ y < 12) => w64_dr (1 + y) (by omega)
      clear hx0 hx1 x0 x1
      go_wp2_with (first
        | (go_at_call 50; (with_reducible refine HN1.out.mono ?_); go_loud (rintro e w2 ⟨y, rfl, y0, y1, hg, hs⟩; have HG2 := Lib.hid (gtrans HG.out hg); have HS2 := Lib.hid hs; have hwy := hw y ⟨y0, y1⟩; clear hg hs))
        | (go_at_call 50; (with_reducible refine (s_l01Next w2 B p 12 HS2.out (by omega) (by omega)).mono ?_); go_loud (rintro e w3 ⟨u, rfl, u0, u1, hg, hs⟩; have HG3 := Lib.hid (gtrans HG2.out hg); have HS3 := Lib.hid hs; have hwu := hw2 u ⟨u0, u1⟩; clear hg hs))
        | (go_at_call 149; go_loud (refine (s_l01FracZ _ _ _ (by omega) (by omega) (by omega) (by omega)).mono ?_; rintro e w4 ⟨z, rfl, hz, rfl⟩; have HZ := Lib.hid hz; clear hz)))
      go_ret
      exact ⟨_, rfl, HZ.out, HG3.out, HS3.out⟩
end Go.Proofs.YtdjhfeaimmpmhaaGreat

