/- Walk: ComposeTableaus of the program. | Plain: what the law of adjoint tableaus says. No walk. | DROPWalks: the faults of tableaus, IsSymplectic of the program and of the reference. | DROPWalks: the reference's list of a fault; IsSymplectic of the program and of the reference. | Walks: SymplecticFault of the program and of the reference. | Walks: the codes of two characters, of the program and of the reference. (printed by codegen2.py) | Walk: valueOf of the program. -/
import Derived.Test.YtofabikjjkapmaaGreatSt23
import Derived.Test.YtofabikjjkapmaaGreatSt21
import Derived.Test.YtofabikjjkapmaaGreatSt22
import Derived.Test.YtofabikjjkapmaaGreatRows
import Derived.Test.YtofabikjjkapmaaGreatSt2
import Derived.Test.YtofabikjjkapmaaGreatSt3
import Derived.Test.YtofabikjjkapmaaGreatSt1
import Derived.Test.YtofabikjjkapmaaGreatSt5
import Derived.Test.YtofabikjjkapmaaGreatSt20
import Derived.WalkLawsBesides
import Derived.WalkSpells
import Derived.BigGuardPart
import Derived.Deep.QuietTactic
import Derived.BigQuiet
import Derived.Test.YtofabikjjkapmaaGreatSt15
import Derived.Test.YtofabikjjkapmaaGreatSt18
import Derived.Test.YtofabikjjkapmaaGreatSt6
set_option maxRecDepth 100000
set_option linter.unusedVariables false
set_option linter.unusedSimpArgs false
namespace Go.Proofs.YtofabikjjkapmaaGreat
open Go.RowKit

def cmpC (A1 : List (List Int)) (B1 : List Int) (A2 : List (List Int)) (B2 : List Int) : Int := if tabB A1 B1 then (if tabB A2 B2 then (if B1.length + B2.length ≤ 8 then 0 else 3) else 1) else 1
def IsCmp (A1 : List (List Int)) (B1 : List Int) (A2 : List (List Int)) (B2 : List Int) (RA : List (List Int)) (RB : List Int) (c : Int) : Prop := c = cmpC A1 B1 A2 B2 ∧ (c = 0 → RA = compA A1 B1 A2 B2 ∧ RB = B1 ++ B2) ∧ (c ≠ 0 → RA = [] ∧ RB = [])
set_option maxHeartbeats 8000000 in
theorem i_ComposeTableaus (w : World) (v v' : Value) (A1 : List (List Int)) (B1 : List Int) (A2 : List (List Int)) (B2 : List Int) (ha : TabArg w v A1 B1) (hb : TabArg w v' A2 B2) :
    Calls Tryz.prog 41 #[v, v'] w fun e w' => ∃ RA RB r c, e = .returned (.tuple #[r, .int .i64 c]) ∧ IsCmp A1 B1 A2 B2 RA RB c ∧ OT w' w.heap.size w'.heap.size r RA RB ∧ Below w.heap.size w w' := by
  obtain ⟨A1a, c1, B1a, d1, rfl⟩ := ha.open_
  obtain ⟨A2a, c2, B2a, d2, rfl⟩ := hb.open_
  obtain ⟨W, hW⟩ : ∃ W, W = ((w.alloc (.cells #[.slice A1a A1.length c1, .slice B1a B1.length d1] 37)).alloc (.cells #[.slice A2a A2.length c2, .slice B2a B2.length d2] 37)).alloc (.cells #[.slice none 0 0, .slice none 0 0] 37) := ⟨_, rfl⟩
  have hb0 : Below w.heap.size w W := by rw [hW]; exact below3 w _ _ _
  have B0 := Lib.hid hb0
  have HSW := Lib.hid (show W.heap.size = w.heap.size + 1 + 1 + 1 from by rw [hW]; simp)
  have K0 := Lib.hid (show Blk W w.heap.size 37 #[.slice A1a A1.length c1, .slice B1a B1.length d1] from by rw [hW]; exact ((Blk.new w #[.slice A1a A1.length c1, .slice B1a B1.length d1] 37).alloc _).alloc _)
  have K1 := Lib.hid (show Blk W (w.heap.size + 1) 37 #[.slice A2a A2.length c2, .slice B2a B2.length d2] from by rw [hW]; exact (Blk.new1 w _ #[.slice A2a A2.length c2, .slice B2a B2.length d2] 37).alloc _)
  have K2 := Lib.hid (show Blk W (w.heap.size + 1 + 1) 37 #[.slice none 0 0, .slice none 0 0] from by rw [hW]; exact Blk.new2 w _ _ #[.slice none 0 0, .slice none 0 0] 37)
  have HA := Lib.hid (ha.below hb0)
  have HB := Lib.hid (hb.below hb0)
  have HI1 := Lib.hid (i_IsTableau W _ _ _ HA.out)
  have HI2 := Lib.hid (fun Y (hY : Below W.heap.size W Y) => i_IsTableau Y _ _ _ (HB.out.below hY))
  clear ha hb hb0
  have g0 : W.cell? ⟨w.heap.size, 0, none⟩ = some (.slice A1a A1.length c1) := K0.out.cell 0
  have g1 : W.cell? ⟨w.heap.size, 1, none⟩ = some (.slice B1a B1.length d1) := K0.out.cell 1
  go_enter Tryz.func41, Tryz.ntmps41
  go_upto_region 1 with fail
  rw [← hW]
  clear hW
  cases ht1 : tabB A1 B1 with
  | false =>
    have HIC := Lib.hid (show IsCmp A1 B1 A2 B2 [] [] 1 from ⟨by simp [cmpC, ht1], fun h => absurd h (by decide), fun _ => ⟨rfl, rfl⟩⟩)
    rw [ht1] at HI1
    clear ht1
    go_upto_region 2 with (go_at_call 73; (with_reducible refine HI1.out.mono ?_); go_loud (rintro e w1 ⟨rfl, hb1⟩; have HB1 := Lib.hid hb1; clear hb1))
    have HBW := Lib.hid (B0.out.trans (HB1.out.mono B0.out.size))
    have Z := K2.out.below HB1.out K2.out.lt
    have f0 : w1.cell? ⟨w.heap.size + 1 + 1, 0, none⟩ = some (.slice none 0 0) := Z.cell 0
    have f1 : w1.cell? ⟨w.heap.size + 1 + 1, 1, none⟩ = some (.slice none 0 0) := Z.cell 1
    have f2 := Z.frozen 0
    have f3 := Z.frozen 1
    go_wp2_with fail
    have c0 := Chg.refl (w.heap.size + 1 + 1) (w.heap.size + 1 + 1 + 1) w1
    have c1' := c0.setCell (p := ⟨w.heap.size + 1 + 1, 0, none⟩) (Nat.le_refl _) (by simp) (.slice none 0 0)
    have c2' := c1'.setCell (p := ⟨w.heap.size + 1 + 1, 1, none⟩) (Nat.le_refl _) (by simp) (.slice none 0 0)
    refine bodyPost_ret (v := .tuple #[.agg #[.slice none 0 0, .slice none 0 0], .int .i64 1]) (by simp [results, Tryz.results41, go_sem, f0, f1]) rfl ⟨_, _, _, _, rfl, HIC.out, OT.nil _ _ _, c2'.below HBW.out (by omega) HBW.out.size⟩
  | true =>
    have HT1 := Lib.hid ht1
    rw [ht1] at HI1
    clear ht1
    cases ht2 : tabB A2 B2 with
    | false =>
      have HIC := Lib.hid (show IsCmp A1 B1 A2 B2 [] [] 1 from ⟨by simp [cmpC, ht2], fun h => absurd h (by decide), fun _ => ⟨rfl, rfl⟩⟩)
      simp only [ht2] at HI2
      clear ht2
      go_upto_region 2 with (first
        | (go_at_call 73; (with_reducible refine HI1.out.mono ?_); go_loud (rintro e w1 ⟨rfl, hb1⟩; have HB1 := Lib.hid hb1; have g2 : w1.cell? ⟨w.heap.size + 1, 0, none⟩ = some (.slice A2a A2.length c2) := (K1.out.below hb1 K1.out.lt).cell 0; have g3 : w1.cell? ⟨w.heap.size + 1, 1, none⟩ = some (.slice B2a B2.length d2) := (K1.out.below hb1 K1.out.lt).cell 1; clear hb1))
        | (go_at_call 73; (with_reducible refine (HI2.out _ HB1.out).mono ?_); go_loud (rintro e w2 ⟨rfl, hb2⟩; have HB2 := Lib.hid (HB1.out.trans (hb2.mono HB1.out.size)); clear hb2)))
      have HBW := Lib.hid (B0.out.trans (HB2.out.mono B0.out.size))
      have Z := K2.out.below HB2.out K2.out.lt
      have f0 : w2.cell? ⟨w.heap.size + 1 + 1, 0, none⟩ = some (.slice none 0 0) := Z.cell 0
      have f1 : w2.cell? ⟨w.heap.size + 1 + 1, 1, none⟩ = some (.slice none 0 0) := Z.cell 1
      have f2 := Z.frozen 0
      have f3 := Z.frozen 1
      go_wp2_with fail
      have c0 := Chg.refl (w.heap.size + 1 + 1) (w.heap.size + 1 + 1 + 1) w2
      have c1' := c0.setCell (p := ⟨w.heap.size + 1 + 1, 0, none⟩) (Nat.le_refl _) (by simp) (.slice none 0 0)
      have c2' := c1'.setCell (p := ⟨w.heap.size + 1 + 1, 1, none⟩) (Nat.le_refl _) (by simp) (.slice none 0 0)
      refine bodyPost_ret (v := .tuple #[.agg #[.slice none 0 0, .slice none 0 0], .int .i64 1]) (by simp [results, Tryz.results41, go_sem, f0, f1]) rfl ⟨_, _, _, _, rfl, HIC.out, OT.nil _ _ _, c2'.below HBW.out (by omega) HBW.out.size⟩
    | true =>
      have HT2 := Lib.hid ht2
      simp only [ht2] at HI2
      clear ht2
      go_upto_region 3 with (first
        | (go_at_call 73; (with_reducible refine HI1.out.mono ?_); go_loud (rintro e w1 ⟨rfl, hb1⟩; have HB1 := Lib.hid hb1; have g2 : w1.cell? ⟨w.heap.size + 1, 0, none⟩ = some (.slice A2a A2.length c2) := (K1.out.below hb1 K1.out.lt).cell 0; have g3 : w1.cell? ⟨w.heap.size + 1, 1, none⟩ = some (.slice B2a B2.length d2) := (K1.out.below hb1 K1.out.lt).cell 1; clear hb1))
        | (go_at_call 73; (with_reducible refine (HI2.out _ HB1.out).mono ?_); go_loud (rintro e w2 ⟨rfl, hb2⟩; have HB2 := Lib.hid (HB1.out.trans (hb2.mono HB1.out.size)); clear hb2)))
      have HS1 := Lib.hid (show ∀ Y, Below w2.heap.size w2 Y → Calls Tryz.prog 86 #[.agg #[.slice A1a A1.length c1, .slice B1a B1.length d1]] Y (fun e w' => e = .returned (.int .i64 B1.length) ∧ Below w2.heap.size w2 w') from fun Y hY => (im_stages Y _ _ _ ((HA.out.below HB2.out).below hY)).mono (by rintro e w5 ⟨rfl, hb5⟩; exact ⟨rfl, hY.trans (hb5.mono hY.size)⟩))
      have HS2 := Lib.hid (show ∀ Y, Below w2.heap.size w2 Y → Calls Tryz.prog 86 #[.agg #[.slice A2a A2.length c2, .slice B2a B2.length d2]] Y (fun e w' => e = .returned (.int .i64 B2.length) ∧ Below w2.heap.size w2 w') from fun Y hY => (im_stages Y _ _ _ ((HB.out.below HB2.out).below hY)).mono (by rintro e w5 ⟨rfl, hb5⟩; exact ⟨rfl, hY.trans (hb5.mono hY.size)⟩))
      have L0 := Lib.hid (K0.out.below HB2.out K0.out.lt)
      have L1 := Lib.hid (K1.out.below HB2.out K1.out.lt)
      have HM := Lib.hid (show ∀ Y, Below w2.heap.size w2 Y → (Y.cell? ⟨w.heap.size, 0, none⟩ = some (.slice A1a A1.length c1) ∧ Y.cell? ⟨w.heap.size, 1, none⟩ = some (.slice B1a B1.length d1)) ∧ Y.cell? ⟨w.heap.size + 1, 0, none⟩ = some (.slice A2a A2.length c2) ∧ Y.cell? ⟨w.heap.size + 1, 1, none⟩ = some (.slice B2a B2.length d2) from fun Y hY => ⟨⟨(L0.out.below hY L0.out.lt).cell 0, (L0.out.below hY L0.out.lt).cell 1⟩, (L1.out.below hY L1.out.lt).cell 0, (L1.out.below hY L1.out.lt).cell 1⟩)
      obtain ⟨⟨a1, a2⟩, a3, a4⟩ := HM.out w2 (Below.refl _ _)
      have hz1 := (isTab_of HT1.out).hi
      have hz2 := (isTab_of HT2.out).hi
      clear g0 g1 g2 g3
      go_cut [16] (fun v wx => v = .bool (decide (8 < B1.length + B2.length)) ∧ Below w2.heap.size w2 wx)
      case first =>
        by_cases hle : 8 < B1.length + B2.length
        · have hli : (8 : Int) < (B1.length : Int) + (B2.length : Int) := by omega
          have hd : decide (8 < B1.length + B2.length) = true := decide_eq_true hle
          have hw : IntKind.i64.wrap ((B1.length : Int) + (B2.length : Int)) = (B1.length : Int) + (B2.length : Int) := IntWalk.i64_in _ (by omega)
          go_region_law (first
            | (go_simp; go_at_call 86; (with_reducible refine ((HS1.out _ ?_).mono ?_)); (first | exact HB5.out | exact HB5.out.drew | exact Below.refl _ _ | exact (Below.refl _ _).drew); go_loud (rintro e w5 ⟨rfl, hb5⟩; obtain ⟨⟨m1, m2⟩, m3, m4⟩ := HM.out w5 hb5; have HB5 := Lib.hid hb5; clear hb5))
            | (go_simp; go_at_call 86; (with_reducible refine ((HS2.out _ ?_).mono ?_)); (first | exact HB5.out | exact HB5.out.drew | exact Below.refl _ _ | exact (Below.refl _ _).drew); go_loud (rintro e w5 ⟨rfl, hb5⟩; obtain ⟨⟨m1, m2⟩, m3, m4⟩ := HM.out w5 hb5; have HB5 := Lib.hid hb5; clear hb5)))
          all_goals
            go_wp2_with fail
            go_meet
            exact ⟨by rw [hd], HB5.out⟩
        · have hli : ¬ (8 : Int) < (B1.length : Int) + (B2.length : Int) := by omega
          have hd : decide (8 < B1.length + B2.length) = false := decide_eq_false hle
          have hw : IntKind.i64.wrap ((B1.length : Int) + (B2.length : Int)) = (B1.length : Int) + (B2.length : Int) := IntWalk.i64_in _ (by omega)
          go_region_law (first
            | (go_simp; go_at_call 86; (with_reducible refine ((HS1.out _ ?_).mono ?_)); (first | exact HB5.out | exact HB5.out.drew | exact Below.refl _ _ | exact (Below.refl _ _).drew); go_loud (rintro e w5 ⟨rfl, hb5⟩; obtain ⟨⟨m1, m2⟩, m3, m4⟩ := HM.out w5 hb5; have HB5 := Lib.hid hb5; clear hb5))
            | (go_simp; go_at_call 86; (with_reducible refine ((HS2.out _ ?_).mono ?_)); (first | exact HB5.out | exact HB5.out.drew | exact Below.refl _ _ | exact (Below.refl _ _).drew); go_loud (rintro e w5 ⟨rfl, hb5⟩; obtain ⟨⟨m1, m2⟩, m3, m4⟩ := HM.out w5 hb5; have HB5 := Lib.hid hb5; clear hb5)))
          all_goals
            go_wp2_with fail
            go_meet
            exact ⟨by rw [hd], HB5.out⟩
      case rest =>
        obtain ⟨rfl, hb6⟩ := hcut
        rename World => w6
        have HB6 := Lib.hid (HB2.out.trans (hb6.mono HB2.out.size))
        obtain ⟨⟨a1, a2⟩, a3, a4⟩ := HM.out w6 hb6
        clear hb6
        have HBW := Lib.hid (B0.out.trans (HB6.out.mono B0.out.size))
        by_cases hle : 8 < B1.length + B2.length
        · have hd : decide (8 < B1.length + B2.length) = true := decide_eq_true hle
          have HIC := Lib.hid (show IsCmp A1 B1 A2 B2 [] [] 3 from ⟨by simp [cmpC, HT1.out, HT2.out]; omega, fun h => absurd h (by decide), fun _ => ⟨rfl, rfl⟩⟩)
          rw [hd]
          go_upto_region 4 with fail
          have Z := K2.out.below HB6.out K2.out.lt
          have f0 : w6.cell? ⟨w.heap.size + 1 + 1, 0, none⟩ = some (.slice none 0 0) := Z.cell 0
          have f1 : w6.cell? ⟨w.heap.size + 1 + 1, 1, none⟩ = some (.slice none 0 0) := Z.cell 1
          have f2 := Z.frozen 0
          have f3 := Z.frozen 1
          go_wp2_with fail
          have c0 := Chg.refl (w.heap.size + 1 + 1) (w.heap.size + 1 + 1 + 1) w6
          have c1' := c0.setCell (p := ⟨w.heap.size + 1 + 1, 0, none⟩) (Nat.le_refl _) (by simp) (.slice none 0 0)
          have c2' := c1'.setCell (p := ⟨w.heap.size + 1 + 1, 1, none⟩) (Nat.le_refl _) (by simp) (.slice none 0 0)
          refine bodyPost_ret (v := .tuple #[.agg #[.slice none 0 0, .slice none 0 0], .int .i64 3]) (by simp [results, Tryz.results41, go_sem, f0, f1]) rfl ⟨_, _, _, _, rfl, HIC.out, OT.nil _ _ _, c2'.below HBW.out (by omega) HBW.out.size⟩
        · have hd : decide (8 < B1.length + B2.length) = false := decide_eq_false hle
          have HIC := Lib.hid (show IsCmp A1 B1 A2 B2 (compA A1 B1 A2 B2) (B1 ++ B2) 0 from ⟨by simp [cmpC, HT1.out, HT2.out]; omega, fun _ => ⟨rfl, rfl⟩, fun h => absurd rfl h⟩)
          rw [hd]
          have HCO := Lib.hid (im_composed w6 _ _ A1 A2 B1 B2 (HA.out.below HB6.out) (HB.out.below HB6.out) (isTab_of HT1.out).numTab (isTab_of HT2.out).numTab)
          go_wp2_with (go_at_call 89; go_loud (refine HCO.out.mono ?_; rintro e w7 ⟨r7, rfl, ho, hb7⟩; obtain ⟨A7, c7, B7, d7, rfl⟩ := ho.open_; rw [List.length_append] at ho; have HO := Lib.hid ho; have HB7 := Lib.hid (HB6.out.trans (hb7.mono HB6.out.size)); have f0 : w7.cell? ⟨w.heap.size + 1 + 1, 0, none⟩ = some (.slice none 0 0) := (K2.out.below HB7.out K2.out.lt).cell 0; have f1 : w7.cell? ⟨w.heap.size + 1 + 1, 1, none⟩ = some (.slice none 0 0) := (K2.out.below HB7.out K2.out.lt).cell 1; have f2 := (K2.out.below HB7.out K2.out.lt).frozen 0; have f3 := (K2.out.below HB7.out K2.out.lt).frozen 1; clear ho hb7))
          have HOI := Lib.hid HO.out
          have hsz := HB6.out.size
          have hsw := HSW.out
          have c0 := Chg.refl (w.heap.size + 1 + 1) (w.heap.size + 1 + 1 + 1) w7
          have c1' := c0.setCell (p := ⟨w.heap.size + 1 + 1, 0, none⟩) (Nat.le_refl _) (by simp) (.slice A7 (compA A1 B1 A2 B2).length c7)
          have c2' := c1'.setCell (p := ⟨w.heap.size + 1 + 1, 1, none⟩) (Nat.le_refl _) (by simp) (.slice B7 (B1.length + B2.length) d7)
          have HBV := B0.out.trans (HB7.out.mono B0.out.size)
          refine bodyPost_ret (v := .tuple #[.agg #[.slice A7 (compA A1 B1 A2 B2).length c7, .slice B7 (B1.length + B2.length) d7], .int .i64 0]) (by simp [results, Tryz.results41, go_sem, f0, f1]) rfl ⟨_, _, _, _, rfl, HIC.out, (HO.out.kept c2' (.inr (by omega))).mono (by omega) c2'.size, c2'.below HBV (by omega) HBV.size⟩
end Go.Proofs.YtofabikjjkapmaaGreat

set_option linter.unusedVariables false
set_option linter.unusedSimpArgs false
namespace Go.Proofs.YtofabikjjkapmaaGreat
open Go.RowKit

/-- the adjoint of a composition -/
theorem adj_cmp {A1 A2 : List (List Int)} {B1 B2 : List Int} (h1 : tabB A1 B1 = true) (h2 : tabB A2 B2 = true) (hl : B1.length + B2.length ≤ 8) :
    tabB (compA A1 B1 A2 B2) (B1 ++ B2) = true ∧ adA (compA A1 B1 A2 B2) (B1 ++ B2) = compA (adA A2 B2) (adB B2) (adA A1 B1) (adB B1) ∧ adB (B1 ++ B2) = adB B2 ++ adB B1 := by
  have hI1 := isTab_of h1
  have hI2 := isTab_of h2
  have hS1 := SqT.of hI1
  have hS2 := SqT.of hI2
  have hc := hS1.cmp hS2
  obtain ⟨a1, a2⟩ := ad_cmp hS1 hS2
  exact ⟨tabB_sq hc (by have := hI1.lo; omega) hl, a1, a2⟩
theorem isCmp_ok {A1 A2 RA : List (List Int)} {B1 B2 RB : List Int} {c : Int} (h1 : tabB A1 B1 = true) (h2 : tabB A2 B2 = true) (hl : B1.length + B2.length ≤ 8) (hr : IsCmp A1 B1 A2 B2 RA RB c) : RA = compA A1 B1 A2 B2 ∧ RB = B1 ++ B2 ∧ c = 0 := by
  obtain ⟨hc, r1, -⟩ := hr
  have h0 : c = 0 := by rw [hc]; simp [cmpC, h1, h2, hl]
  exact ⟨(r1 h0).1, (r1 h0).2, h0⟩
theorem isCmp_far {A1 A2 RA : List (List Int)} {B1 B2 RB : List Int} {c : Int} (h1 : tabB A1 B1 = true) (h2 : tabB A2 B2 = true) (hl : ¬ B1.length + B2.length ≤ 8) (hr : IsCmp A1 B1 A2 B2 RA RB c) : RA = [] ∧ RB = [] ∧ c = 3 := by
  obtain ⟨hc, -, r2⟩ := hr
  have h0 : c = 3 := by rw [hc]; simp [cmpC, h1, h2, hl]
  exact ⟨(r2 (by omega)).1, (r2 (by omega)).2, h0⟩
end Go.Proofs.YtofabikjjkapmaaGreat

set_option linter.unusedVariables false
set_option linter.unusedSimpArgs false
namespace Go.Proofs.YtofabikjjkapmaaGreat
open Go.RowKit

/-- left side less right side -/
def cnd (A : List (List Int)) (Bs : List Int) (i k : Nat) : Int := (Bs.getD i 0 * ent A i k + Bs.getD k 0 * ent A k i - Bs.getD i 0 * Bs.getD k 0) % 10007

/-- r is the first fault, or empty -/
def IsFault (A : List (List Int)) (Bs : List Int) (r : List Int) : Prop :=
  (r = [] ∧ ∀ i k, i ≤ k → k < Bs.length → cnd A Bs i k = 0) ∨
  ∃ i k : Nat, i ≤ k ∧ k < Bs.length ∧ r = [(i : Int), (k : Int)] ∧ cnd A Bs i k ≠ 0 ∧ ∀ a b, a ≤ b → b < Bs.length → (a < i ∨ a = i ∧ b < k) → cnd A Bs a b = 0

theorem IsFault.unique {A : List (List Int)} {Bs r r' : List Int} (h : IsFault A Bs r) (h' : IsFault A Bs r') : r = r' := by
  rcases h with ⟨rfl, h⟩ | ⟨i, k, h1, h2, rfl, h3, h4⟩
  · rcases h' with ⟨rfl, _⟩ | ⟨i', k', g1, g2, rfl, g3, g4⟩
    · rfl
    · exact absurd (h i' k' g1 g2) g3
  · rcases h' with ⟨rfl, h'⟩ | ⟨i', k', g1, g2, rfl, g3, g4⟩
    · exact absurd (h' i k h1 h2) h3
    · rcases Nat.lt_trichotomy i i' with h5 | h5 | h5
      · exact absurd (g4 i k h1 h2 (.inl h5)) h3
      · subst h5
        rcases Nat.lt_trichotomy k k' with h6 | h6 | h6
        · exact absurd (g4 i k h1 h2 (.inr ⟨rfl, h6⟩)) h3
        · subst h6; rfl
        · exact absurd (h4 i k' g1 g2 (.inr ⟨rfl, h6⟩)) g3
      · exact absurd (h4 i' k' g1 g2 (.inl h5)) g3

theorem IsFault.short {A : List (List Int)} {Bs r : List Int} (h : IsFault A Bs r) : r.length ≤ 2 := by
  rcases h with ⟨rfl, _⟩ | ⟨i, k, _, _, rfl, _⟩ <;> simp

/-- what the region's arithmetic needs -/
theorem prod_bd {a b c d e f : Int} (ha : 0 ≤ a ∧ a ≤ 10006) (hb : 0 ≤ b ∧ b ≤ 10006) : 0 ≤ a * b ∧ a * b ≤ 100120036 := by
  have := mul_bd 10006 10006 ha.1 ha.2 hb.1 hb.2
  omega

/-- the four numbers, in memory -/
theorem four {w : World} {A1 A2 : Option Addr} {c1 c2 : Nat} {A : List (List Int)} {Bs : List Int} (hI : IsTab A Bs)
    (hr : Rows w (.slice A1 A.length c1) A) (hb : Ints w (.slice A2 Bs.length c2) Bs) {i k : Nat} (hi : i < Bs.length) (hk : k < Bs.length) :
    ∃ ad ad1 ad2 ad3 d1 d2 bi bk, A1 = some ad ∧ A2 = some ad3 ∧
      w.cell? (ad.add i) = some (.slice (some ad1) Bs.length d1) ∧ w.cell? (ad1.add k) = some (.int .i64 (ent A i k)) ∧
      w.cell? (ad.add k) = some (.slice (some ad2) Bs.length d2) ∧ w.cell? (ad2.add i) = some (.int .i64 (ent A k i)) ∧
      w.cell? (ad3.add i) = some (.int .i64 bi) ∧ w.cell? (ad3.add k) = some (.int .i64 bk) ∧
      Hid (Bs.getD i 0 = bi) ∧ Hid (Bs.getD k 0 = bk) ∧ (0 ≤ bi ∧ bi ≤ 10006) ∧ (0 ≤ bk ∧ bk ≤ 10006) ∧ (0 ≤ ent A i k ∧ ent A i k ≤ 10006) ∧ (0 ≤ ent A k i ∧ ent A k i ≤ 10006) := by
  obtain ⟨ad, ad1, d1, rfl, p1, p2, _, _, p5, p6⟩ := hr.ent hI.row (i := i) (k := k) (by rw [hI.len]; exact hi) hk
  obtain ⟨ad', ad2, d2, e1, q1, q2, _, _, q5, q6⟩ := hr.ent hI.row (i := k) (k := i) (by rw [hI.len]; exact hk) hi
  cases e1
  obtain ⟨_, _, e2, _, _, h3⟩ := hb.open_
  simp only [Value.slice.injEq] at e2
  obtain ⟨rfl, _, rfl⟩ := e2
  obtain ⟨ad3, z, rfl, hz, _, r1⟩ := h3 i hi
  obtain ⟨ad4, y, e3, hy, _, r2⟩ := h3 k hk
  cases e3
  have hn := nums_iff.1 hI.num
  exact ⟨ad, ad1, ad2, ad3, d1, d2, z, y, rfl, rfl, p1, p2, q1, q2, r1, r2, by unfold Hid; simp [List.getD, hz], by unfold Hid; simp [List.getD, hy], hn z (List.mem_of_getElem? hz), hn y (List.mem_of_getElem? hy), ⟨p5, p6⟩, ⟨q5, q6⟩⟩

/-- the list of two, owned -/
theorem own_two (W : World) (i k : Nat) (hi : i ≤ 8) (hk : k ≤ 8) : OwnInts (W.alloc (.cells #[.int .i64 (i : Int), .int .i64 (k : Int)] tI)) W.heap.size tI (.slice (some ⟨W.heap.size, 0, none⟩) 2 2) [(i : Int), (k : Int)] := by
  refine ⟨own_lit W tI [.int .i64 (i : Int), .int .i64 (k : Int)] (by simp [maxLen]), fun z hz => ?_⟩
  simp at hz
  unfold In64
  omega

set_option maxHeartbeats 2000000 in
theorem im_symplecticFault (w : World) (v : Value) (A : List (List Int)) (Bs : List Int) (ha : TabArg w v A Bs) (hI : IsTab A Bs) :
    Calls Tryz.prog 83 #[v] w fun e w' => ∃ r v', e = .returned v' ∧ IsFault A Bs r ∧ OwnInts w' w.heap.size tI v' r ∧ (r = [] → v' = .slice none 0 0) ∧ Below w.heap.size w w' := by
  obtain ⟨va, vb, rfl, ha1, ha2⟩ := ha
  obtain ⟨A1, c1, hva, y1, y2, -⟩ := ha1.open_
  obtain ⟨A2, c2, hvb, y3, y4, -⟩ := ha2.open_
  subst hva
  subst hvb
  have BB := Lib.hid (below1 w (.cells #[.slice A1 A.length c1, .slice A2 Bs.length c2] 37))
  have H1 := Lib.hid (ha1.below BB.out)
  have H2 := Lib.hid (ha2.below BB.out)
  have HI := Lib.hid hI
  have hn8 := hI.hi
  clear ha1 ha2 hI
  go_enter Tryz.func83, Tryz.ntmps83
  go_wp2_with fail
  generalize hW : w.alloc (.cells #[.slice A1 A.length c1, .slice A2 Bs.length c2] 37) = wb at BB H1 H2 ⊢
  have g0 : wb.cell? ⟨w.heap.size, 0, none⟩ = some (.slice A1 A.length c1) := by rw [← hW]; exact (Blk.new w _ _).cell 0
  have g1 : wb.cell? ⟨w.heap.size, 1, none⟩ = some (.slice A2 Bs.length c2) := by rw [← hW]; exact (Blk.new w _ _).cell 1
  clear hW
  go_loopw [8] (fun i wr => ∃ j n : Nat, j ≤ Bs.length ∧ i = .int .i64 j ∧ wr = wb.drewN n ∧ Hid (∀ a b, a < j → a ≤ b → b < Bs.length → cnd A Bs a b = 0)) (fun i _ => Bs.length - (intOf i).toNat)
  case atStart => exact ⟨0, 0, Nat.zero_le _, rfl, rfl, fun a b h => by omega⟩
  case round =>
    obtain ⟨j, n, hj, rfl, rfl, hP⟩ := hrel
    by_cases hlt : j < Bs.length
    · have hlt' : (j : Int) < (Bs.length : Int) := by omega
      go_wp2_with fail
      go_loopw [4] (fun i wr => ∃ k m : Nat, j ≤ k ∧ k ≤ Bs.length ∧ i = .int .i64 k ∧ wr = wb.drewN m ∧ Hid (∀ b, j ≤ b → b < k → cnd A Bs j b = 0)) (fun i _ => Bs.length - (intOf i).toNat)
      case atStart => exact ⟨j, n, Nat.le_refl _, hj, rfl, rfl, fun b h => by omega⟩
      case round =>
        obtain ⟨k, m, hjk, hk, rfl, rfl, hQ⟩ := hrel
        by_cases hlt2 : k < Bs.length
        · obtain ⟨ad, ad1, ad2, ad3, d1, d2, bi, bk, rfl, rfl, p1, p2, p3, p4, p5, p6, HZ1, HZ2, b1, b2, b3, b4⟩ := four HI.out H1.out H2.out hlt hlt2
          have HL := Lib.hid HI.out.len
          have hla : A.length ≤ Bs.length := by rw [HL.out]; omega
          have hlb : Bs.length ≤ A.length := by rw [HL.out]; omega
          have i3 : (j : Int) < (A.length : Int) := by omega
          have i4 : (k : Int) < (A.length : Int) := by omega
          have i5 : (k : Int) < (Bs.length : Int) := by omega
          obtain ⟨u1, u2⟩ := prod_bd (c := 0) (d := 0) (e := 0) (f := 0) b1 b3
          obtain ⟨u3, u4⟩ := prod_bd (c := 0) (d := 0) (e := 0) (f := 0) b2 b4
          obtain ⟨u5, u6⟩ := prod_bd (c := 0) (d := 0) (e := 0) (f := 0) b1 b2
          have w1' : IntKind.i64.wrap (bi * ent A j k) = bi * ent A j k := IntWalk.i64_in _ (by omega)
          have w2' : IntKind.i64.wrap (bk * ent A k j) = bk * ent A k j := IntWalk.i64_in _ (by omega)
          have w3' : IntKind.i64.wrap (bi * bk) = bi * bk := IntWalk.i64_in _ (by omega)
          have w4' : IntKind.i64.wrap (bi * ent A j k + bk * ent A k j) = bi * ent A j k + bk * ent A k j := IntWalk.i64_in _ (by omega)
          have w5' : IntKind.i64.wrap (bi * ent A j k + bk * ent A k j - bi * bk) = bi * ent A j k + bk * ent A k j - bi * bk := IntWalk.i64_in _ (by omega)
          have HC := Lib.hid (show cnd A Bs j k = (bi * ent A j k + bk * ent A k j - bi * bk) % 10007 by unfold cnd; rw [HZ1.out, HZ2.out])
          clear b1 b2 b3 b4 HL
          go_wp2_with fail
          go_quiet ((go_at_call 56; exact quiet_same (i_num _ _ (by omega) (by omega))))
          clear w1' w2' w3' w4' w5'
          go_wp2_with fail
          · have hne : ((bi * ent A j k + bk * ent A k j - bi * bk) % 10007 != 0) = true := by assumption
            go_ret
            refine ⟨_, _, rfl, .inr ⟨j, k, hjk, hlt2, rfl, ?_, fun a b hab hb hlt => ?_⟩, ?_, ?_, ?_⟩
            · rw [HC.out]; simpa using hne
            · rcases hlt with h | ⟨h, h'⟩
              · exact hP.out a b h hab hb
              · subst h; exact hQ.out b hab h'
            · exact (own_two _ j k (by omega) (by omega)).mono BB.out.size
            · intro h; cases h
            · exact (below_drewN BB.out _).alloc BB.out.size _
          · have hne : ((bi * ent A j k + bk * ent A k j - bi * bk) % 10007 != 0) = false := by assumption
            go_roundw
            case rel =>
              refine ⟨k + 1, _, by omega, by omega, by go_num, rfl, fun b hb1 hb2 => ?_⟩
              by_cases e : b = k
              · subst e
                rw [HC.out]
                simpa using hne
              · exact hQ.out b hb1 (by omega)
            case measure => simp [intOf]; omega
        · have : k = Bs.length := by omega
          subst this
          go_wp2_with fail
          go_roundw
          case rel =>
            refine ⟨j + 1, _, by omega, by go_num, rfl, fun a b ha hab hb => ?_⟩
            by_cases e : a = j
            · subst e
              exact hQ.out b hab hb
            · exact hP.out a b (by omega) hab hb
          case measure => simp [intOf]; omega
    · have : j = Bs.length := by omega
      subst this
      go_wp2_with fail
      go_ret
      refine ⟨[], _, rfl, .inl ⟨rfl, fun i k hik hk => hP.out i k (by omega) hik hk⟩, OwnInts.nil _ _ _, fun _ => rfl, below_drewN BB.out _⟩

set_option maxHeartbeats 2000000 in
theorem s_l12Condition (w : World) (v : Value) (A : List (List Int)) (Bs : List Int) (i k : Nat) (ha : TabArg w v A Bs) (hI : IsTab A Bs) (hi : i < Bs.length) (hk : k < Bs.length) :
    Calls Tryz.prog 153 #[v, .int .i64 (i : Int), .int .i64 (k : Int)] w fun e w' => e = .returned (.int .i64 (cnd A Bs i k)) ∧ Below w.heap.size w w' := by
  obtain ⟨va, vb, rfl, ha1, ha2⟩ := ha
  obtain ⟨A1, c1, hva, y1, y2, -⟩ := ha1.open_
  obtain ⟨A2, c2, hvb, y3, y4, -⟩ := ha2.open_
  subst hva
  subst hvb
  have hn8 := hI.hi
  obtain ⟨ad, ad1, ad2, ad3, d1, d2, bi, bk, rfl, rfl, p1, p2, p3, p4, p5, p6, HZ1, HZ2, b1, b2, b3, b4⟩ := four hI ha1 ha2 hi hk
  have hlen := hI.len
  have HL := Lib.hid hI.len
  have HC := Lib.hid (show cnd A Bs i k = (bi * ent A i k + bk * ent A k i - bi * bk) % 10007 by unfold cnd; rw [HZ1.out, HZ2.out])
  rw [HC.out]
  have BB := Lib.hid (below1 w (.cells #[.slice (some ad) A.length c1, .slice (some ad3) Bs.length c2] 37))
  have K0 := Lib.hid (Blk.new w #[.slice (some ad) A.length c1, .slice (some ad3) Bs.length c2] 37)
  have hla : A.length ≤ Bs.length := by omega
  have hlb : Bs.length ≤ A.length := by omega
  have i1 : (i : Int) < (A.length : Int) := by omega
  have i2 : (k : Int) < (A.length : Int) := by omega
  have i3 : (i : Int) < (Bs.length : Int) := by omega
  have i4 : (k : Int) < (Bs.length : Int) := by omega
  obtain ⟨u1, u2⟩ := prod_bd (c := 0) (d := 0) (e := 0) (f := 0) b1 b3
  obtain ⟨u3, u4⟩ := prod_bd (c := 0) (d := 0) (e := 0) (f := 0) b2 b4
  obtain ⟨u5, u6⟩ := prod_bd (c := 0) (d := 0) (e := 0) (f := 0) b1 b2
  obtain ⟨b11, b12⟩ := b1
  obtain ⟨b21, b22⟩ := b2
  obtain ⟨b31, b32⟩ := b3
  obtain ⟨b41, b42⟩ := b4
  clear hlen ha1 ha2 hI HL HZ1 HZ2 HC hi hk
  have lt1 : ad.block < w.heap.size := by have := World.block_lt_of_cell? w _ p1; rwa [block_add] at this
  have lt2 : ad1.block < w.heap.size := by have := World.block_lt_of_cell? w _ p2; rwa [block_add] at this
  have lt3 : ad2.block < w.heap.size := by have := World.block_lt_of_cell? w _ p4; rwa [block_add] at this
  have lt4 : ad3.block < w.heap.size := by have := World.block_lt_of_cell? w _ p5; rwa [block_add] at this
  have P1 := Lib.hid ((BB.out.cell (p := ad.add i) (by rw [block_add]; exact lt1)).trans p1)
  have P2 := Lib.hid ((BB.out.cell (p := ad1.add k) (by rw [block_add]; exact lt2)).trans p2)
  have P3 := Lib.hid ((BB.out.cell (p := ad.add k) (by rw [block_add]; exact lt1)).trans p3)
  have P4 := Lib.hid ((BB.out.cell (p := ad2.add i) (by rw [block_add]; exact lt3)).trans p4)
  have P5 := Lib.hid ((BB.out.cell (p := ad3.add i) (by rw [block_add]; exact lt4)).trans p5)
  have P6 := Lib.hid ((BB.out.cell (p := ad3.add k) (by rw [block_add]; exact lt4)).trans p6)
  clear p1 p2 p3 p4 p5 p6 lt1 lt2 lt3 lt4
  go_enter Tryz.func153, Tryz.ntmps153
  go_wp2_with fail
  generalize hW : w.alloc (.cells #[.slice (some ad) A.length c1, .slice (some ad3) Bs.length c2] 37) = wb at BB K0 P1 P2 P3 P4 P5 P6 ⊢
  clear hW
  have p1 := P1.out
  have p2 := P2.out
  have p3 := P3.out
  have p4 := P4.out
  have p5 := P5.out
  have p6 := P6.out
  have g0 : wb.cell? ⟨w.heap.size, 0, none⟩ = some (.slice (some ad) A.length c1) := K0.out.cell 0
  have g1 : wb.cell? ⟨w.heap.size, 1, none⟩ = some (.slice (some ad3) Bs.length c2) := K0.out.cell 1
  go_quiet ((first | (go_at_call 176; exact quiet_same0 (s_l01Mul _ _ _ (by omega) (by omega) (by omega) (by omega))) | (go_at_call 189; exact quiet_same0 (s_l01Add _ _ _ (by omega) (by omega) (by omega) (by omega)))))
  go_wp2_with fail
  go_quiet ((first | (go_at_call 176; exact quiet_same (s_l01Mul _ _ _ (by omega) (by omega) (by omega) (by omega))) | (go_at_call 184; exact quiet_same (s_l01Sub _ _ _ (by omega) (by omega) (by omega) (by omega)))))
  go_wp2_with fail
  go_ret
  refine ⟨ret_int ?_, below_drewN (below_drewN BB.out _) _⟩
  omega
end Go.Proofs.YtofabikjjkapmaaGreat

set_option linter.unusedVariables false
set_option linter.unusedSimpArgs false
namespace Go.Proofs.YtofabikjjkapmaaGreat
open Go.RowKit

set_option maxHeartbeats 2000000 in
theorem s_l12Fault (w : World) (v : Value) (A : List (List Int)) (Bs : List Int) (ha : TabArg w v A Bs) (hI : IsTab A Bs) :
    Calls Tryz.prog 85 #[v] w fun e w' => ∃ r v', e = .returned v' ∧ IsFault A Bs r ∧ OwnInts w' w.heap.size tI v' r ∧ Below w.heap.size w w' := by
  have HT := Lib.hid ha
  obtain ⟨Aa, ca, Ab, cb, rfl⟩ := ha.open_
  have B0 := Lib.hid (below1 w (.cells #[.slice Aa A.length ca, .slice Ab Bs.length cb] 37))
  have K0 := Lib.hid (Blk.new w #[.slice Aa A.length ca, .slice Ab Bs.length cb] 37)
  have HI := Lib.hid hI
  have hn8 := hI.hi
  clear ha hI
  go_enter Tryz.func85, Tryz.ntmps85
  go_wp2_with fail
  go_loopw [3] (fun i wr => ∃ j : Nat, j ≤ Bs.length ∧ i = .int .i64 j ∧ Below w.heap.size w wr ∧ Blk wr w.heap.size 37 #[.slice Aa A.length ca, .slice Ab Bs.length cb] ∧ Hid (∀ a b, a < j → a ≤ b → b < Bs.length → cnd A Bs a b = 0)) (fun i _ => Bs.length - (intOf i).toNat)
  case atStart => exact ⟨0, Nat.zero_le _, rfl, B0.out, K0.out, fun a b h => by omega⟩
  case round =>
    obtain ⟨j, hj, rfl, hb, hk, hP⟩ := hrel
    have g0 : wr.cell? ⟨w.heap.size, 0, none⟩ = some (.slice Aa A.length ca) := hk.cell 0
    have g1 : wr.cell? ⟨w.heap.size, 1, none⟩ = some (.slice Ab Bs.length cb) := hk.cell 1
    have HB := Lib.hid hb
    have HK := Lib.hid hk
    clear hb hk
    by_cases hlt : j < Bs.length
    · have hlt' : (j : Int) < (Bs.length : Int) := by omega
      go_wp2_with fail
      clear g0 g1
      obtain ⟨wo, rfl⟩ : ∃ wo : World, wo = wr := ⟨_, rfl⟩
      go_loopw [4] (fun i wr => ∃ k : Nat, j ≤ k ∧ k ≤ Bs.length ∧ i = .int .i64 k ∧ Below w.heap.size w wr ∧ Blk wr w.heap.size 37 #[.slice Aa A.length ca, .slice Ab Bs.length cb] ∧ Hid (∀ b, j ≤ b → b < k → cnd A Bs j b = 0)) (fun i _ => Bs.length - (intOf i).toNat)
      case atStart => exact ⟨j, Nat.le_refl _, hj, rfl, HB.out, HK.out, fun b h => by omega⟩
      case round =>
        obtain ⟨k, hjk, hkk, rfl, hb, hk, hQ⟩ := hrel
        have g0 : wr.cell? ⟨w.heap.size, 0, none⟩ = some (.slice Aa A.length ca) := hk.cell 0
        have g1 : wr.cell? ⟨w.heap.size, 1, none⟩ = some (.slice Ab Bs.length cb) := hk.cell 1
        have GB := Lib.hid hb
        have GK := Lib.hid hk
        clear hb hk HB HK
        by_cases hlt2 : k < Bs.length
        · have hlt2' : (k : Int) < (Bs.length : Int) := by omega
          go_wp2_with fail
          refine (s_l12Condition _ _ _ _ _ _ (HT.out.below GB.out) HI.out hlt hlt2).mono ?_
          rintro e w1 ⟨rfl, hb1⟩
          have B1 := Lib.hid (GB.out.trans (hb1.mono GB.out.size))
          have K1 := Lib.hid (GK.out.below hb1 GK.out.lt)
          clear hb1 g0 g1
          go_wp2_with fail
          · have hne : (cnd A Bs j k != 0) = true := by assumption
            go_ret
            refine ⟨_, _, rfl, .inr ⟨j, k, hjk, hlt2, rfl, by simpa using hne, fun a b hab hb hlt => ?_⟩, ?_, ?_⟩
            · rcases hlt with h | ⟨h, h'⟩
              · exact hP.out a b h hab hb
              · subst h; exact hQ.out b hab h'
            · exact (own_two _ j k (by omega) (by omega)).mono B1.out.size
            · exact B1.out.alloc B1.out.size _
          · have hne : (cnd A Bs j k != 0) = false := by assumption
            go_roundw
            case rel =>
              refine ⟨k + 1, by omega, by omega, by go_num, B1.out, K1.out, fun b hb1 hb2 => ?_⟩
              by_cases e : b = k
              · subst e
                simpa using hne
              · exact hQ.out b hb1 (by omega)
            case measure => simp [intOf]; omega
        · have : k = Bs.length := by omega
          subst this
          go_wp2_with fail
          go_roundw
          case rel =>
            refine ⟨j + 1, by omega, by go_num, GB.out, GK.out, fun a b ha hab hb => ?_⟩
            by_cases e : a = j
            · subst e
              exact hQ.out b hab hb
            · exact hP.out a b (by omega) hab hb
          case measure => simp [intOf]; omega
    · have : j = Bs.length := by omega
      subst this
      go_wp2_with fail
      go_ret
      exact ⟨[], _, rfl, .inl ⟨rfl, fun i k hik hk => hP.out i k (by omega) hik hk⟩, OwnInts.nil _ _ _, HB.out⟩

/-- the answer, with the fault r -/
def IsSp (A : List (List Int)) (Bs : List Int) (b : Bool) (c : Int) : Prop := (tabB A Bs = false ∧ b = false ∧ c = 1) ∨ (tabB A Bs = true ∧ c = 0 ∧ ∃ r, IsFault A Bs r ∧ b = decide (r = []))
theorem IsSp.unique {A : List (List Int)} {Bs : List Int} {b b' : Bool} {c c' : Int} (h : IsSp A Bs b c) (h' : IsSp A Bs b' c') : b = b' ∧ c = c' := by
  rcases h with ⟨h1, rfl, rfl⟩ | ⟨h1, rfl, r, h2, rfl⟩
  · rcases h' with ⟨_, rfl, rfl⟩ | ⟨h3, _⟩
    · exact ⟨rfl, rfl⟩
    · rw [h1] at h3; cases h3
  · rcases h' with ⟨h3, _⟩ | ⟨_, rfl, r', h4, rfl⟩
    · rw [h1] at h3; cases h3
    · rw [h2.unique h4]; exact ⟨rfl, rfl⟩

set_option maxHeartbeats 1000000 in
theorem s_IsSymplectic (w : World) (v : Value) (A : List (List Int)) (Bs : List Int) (ha : TabArg w v A Bs) :
    Calls Tryz.prog 37 #[v] w fun e w' => ∃ b c, e = .returned (.tuple #[.bool b, .int .i64 c]) ∧ IsSp A Bs b c ∧ Below w.heap.size w w' := by
  have HT := Lib.hid ha
  obtain ⟨Aa, ca, Ab, cb, rfl⟩ := ha.open_
  have B0 := Lib.hid (below1 w (.cells #[.slice Aa A.length ca, .slice Ab Bs.length cb] 37))
  have K0 := Lib.hid (Blk.new w #[.slice Aa A.length ca, .slice Ab Bs.length cb] 37)
  clear ha
  cases ht : tabB A Bs with
  | false =>
    go_enter Tryz.func37, Tryz.ntmps37
    go_wp2_with fail
    refine (s_l09Is _ _ _ _ (HT.out.below B0.out)).mono ?_
    rintro e w1 ⟨rfl, hb1⟩
    have B1 := Lib.hid (B0.out.trans (hb1.mono B0.out.size))
    clear hb1
    go_wp2_with fail
    go_ret2
    exact ⟨_, _, rfl, .inl ⟨ht, rfl, rfl⟩, B1.out⟩
  | true =>
    have HI := Lib.hid (isTab_of ht)
    go_enter Tryz.func37, Tryz.ntmps37
    go_wp2_with fail
    refine (s_l09Is _ _ _ _ (HT.out.below B0.out)).mono ?_
    rintro e w1 ⟨rfl, hb1⟩
    have B1 := Lib.hid (B0.out.trans (hb1.mono B0.out.size))
    have K1 := Lib.hid (K0.out.below hb1 K0.out.lt)
    have g0 : w1.cell? ⟨w.heap.size, 0, none⟩ = some (.slice Aa A.length ca) := K1.out.cell 0
    have g1 : w1.cell? ⟨w.heap.size, 1, none⟩ = some (.slice Ab Bs.length cb) := K1.out.cell 1
    clear hb1
    go_wp2_with fail
    refine (s_l12Fault _ _ _ _ (HT.out.below B1.out) HI.out).mono ?_
    rintro e w2 ⟨r, v2, rfl, hr, ho2, hb2⟩
    obtain ⟨A2, c2, rfl, _, _, -⟩ := ho2.ints.open_
    have B2 := Lib.hid (B1.out.trans (hb2.mono B1.out.size))
    have HR := Lib.hid hr
    clear hb2 ho2 hr
    by_cases hr0 : r = []
    · subst hr0
      go_wp2_with fail
      go_ret2
      exact ⟨_, _, rfl, .inr ⟨ht, rfl, _, HR.out, by simp⟩, B2.out⟩
    · have hl : ((r.length : Int) == 0) = false := by
        have : r.length ≠ 0 := fun h => hr0 (List.eq_nil_of_length_eq_zero h)
        simp; omega
      have HR0 := Lib.hid hr0
      clear hr0
      go_wp2_with fail
      go_ret2
      exact ⟨_, _, rfl, .inr ⟨ht, rfl, _, HR.out, by simp [HR0.out]⟩, B2.out⟩

set_option maxHeartbeats 1000000 in
theorem i_IsSymplectic (w : World) (v : Value) (A : List (List Int)) (Bs : List Int) (ha : TabArg w v A Bs) :
    Calls Tryz.prog 36 #[v] w fun e w' => ∃ b c, e = .returned (.tuple #[.bool b, .int .i64 c]) ∧ IsSp A Bs b c ∧ Below w.heap.size w w' := by
  have HT := Lib.hid ha
  obtain ⟨Aa, ca, Ab, cb, rfl⟩ := ha.open_
  have B0 := Lib.hid (below1 w (.cells #[.slice Aa A.length ca, .slice Ab Bs.length cb] 37))
  have K0 := Lib.hid (Blk.new w #[.slice Aa A.length ca, .slice Ab Bs.length cb] 37)
  clear ha
  cases ht : tabB A Bs with
  | false =>
    go_enter Tryz.func36, Tryz.ntmps36
    go_wp2_with fail
    refine (i_IsTableau _ _ _ _ (HT.out.below B0.out)).mono ?_
    rintro e w1 ⟨rfl, hb1⟩
    have B1 := Lib.hid (B0.out.trans (hb1.mono B0.out.size))
    clear hb1
    go_wp2_with fail
    go_ret2
    exact ⟨_, _, rfl, .inl ⟨ht, rfl, rfl⟩, B1.out⟩
  | true =>
    have HI := Lib.hid (isTab_of ht)
    go_enter Tryz.func36, Tryz.ntmps36
    go_wp2_with fail
    refine (i_IsTableau _ _ _ _ (HT.out.below B0.out)).mono ?_
    rintro e w1 ⟨rfl, hb1⟩
    have B1 := Lib.hid (B0.out.trans (hb1.mono B0.out.size))
    have K1 := Lib.hid (K0.out.below hb1 K0.out.lt)
    have g0 : w1.cell? ⟨w.heap.size, 0, none⟩ = some (.slice Aa A.length ca) := K1.out.cell 0
    have g1 : w1.cell? ⟨w.heap.size, 1, none⟩ = some (.slice Ab Bs.length cb) := K1.out.cell 1
    clear hb1
    have en := fun (W : World) (a : Option Addr) (n c : Nat) => Lib.run_eql_slice_nil (P := Tryz.prog) W 27 2 a n c 0 0 Tryz.underlying27
    go_wp2_with fail
    refine (im_symplecticFault _ _ _ _ (HT.out.below B1.out) HI.out).mono ?_
    rintro e w2 ⟨r, v2, rfl, hr, ho2, hv2, hb2⟩
    have B2 := Lib.hid (B1.out.trans (hb2.mono B1.out.size))
    have HR := Lib.hid hr
    clear hb2 hr g0 g1
    by_cases hr0 : r = []
    · obtain rfl := hv2 hr0
      subst hr0
      clear ho2 hv2
      go_wp2_with fail
      go_ret2
      exact ⟨_, _, rfl, .inr ⟨ht, rfl, _, HR.out, by simp⟩, B2.out⟩
    · rcases ho2.1.cases with ⟨_, h⟩ | ⟨g, cap, cur, rfl, _⟩
      · exact absurd (by simpa [ints] using h) hr0
      · have HR0 := Lib.hid hr0
        clear hr0 ho2 hv2
        go_wp2_with fail
        go_ret2
        exact ⟨_, _, rfl, .inr ⟨ht, rfl, _, HR.out, by simp [HR0.out]⟩, B2.out⟩
end Go.Proofs.YtofabikjjkapmaaGreat

set_option linter.unusedVariables false
set_option linter.unusedSimpArgs false
namespace Go.Proofs.YtofabikjjkapmaaGreat
open Go.RowKit

/-- what SymplecticFault answers -/
def IsSf (A : List (List Int)) (Bs : List Int) (r : List Int) (c : Int) : Prop := (tabB A Bs = false ∧ r = [] ∧ c = 1) ∨ (tabB A Bs = true ∧ IsFault A Bs r ∧ c = if r = [] then 4 else 0)
theorem IsSf.unique {A : List (List Int)} {Bs : List Int} {r r' : List Int} {c c' : Int} (h : IsSf A Bs r c) (h' : IsSf A Bs r' c') : r = r' ∧ c = c' := by
  rcases h with ⟨h1, rfl, rfl⟩ | ⟨h1, h2, rfl⟩
  · rcases h' with ⟨_, rfl, rfl⟩ | ⟨h3, _⟩
    · exact ⟨rfl, rfl⟩
    · rw [h1] at h3; cases h3
  · rcases h' with ⟨h3, _⟩ | ⟨_, h4, rfl⟩
    · rw [h1] at h3; cases h3
    · obtain rfl := h2.unique h4
      exact ⟨rfl, rfl⟩
theorem IsSf.short {A : List (List Int)} {Bs : List Int} {r : List Int} {c : Int} (h : IsSf A Bs r c) : r.length ≤ 2 := by
  rcases h with ⟨_, rfl, _⟩ | ⟨_, h, _⟩
  · simp
  · exact h.short

set_option maxHeartbeats 1000000 in
theorem i_SymplecticFault (w : World) (v : Value) (A : List (List Int)) (Bs : List Int) (ha : TabArg w v A Bs) :
    Calls Tryz.prog 38 #[v] w fun e w' => ∃ r v' c, e = .returned (.tuple #[v', .int .i64 c]) ∧ IsSf A Bs r c ∧ OwnInts w' w.heap.size tI v' r ∧ Below w.heap.size w w' := by
  have HT := Lib.hid ha
  obtain ⟨Aa, ca, Ab, cb, rfl⟩ := ha.open_
  have B0 := Lib.hid (below1 w (.cells #[.slice Aa A.length ca, .slice Ab Bs.length cb] 37))
  have K0 := Lib.hid (Blk.new w #[.slice Aa A.length ca, .slice Ab Bs.length cb] 37)
  clear ha
  cases ht : tabB A Bs with
  | false =>
    go_enter Tryz.func38, Tryz.ntmps38
    go_wp2_with fail
    refine (i_IsTableau _ _ _ _ (HT.out.below B0.out)).mono ?_
    rintro e w1 ⟨rfl, hb1⟩
    have B1 := Lib.hid (B0.out.trans (hb1.mono B0.out.size))
    clear hb1
    go_wp2_with fail
    go_ret2
    exact ⟨_, _, _, rfl, .inl ⟨ht, rfl, rfl⟩, OwnInts.nil _ _ _, B1.out⟩
  | true =>
    have HI := Lib.hid (isTab_of ht)
    go_enter Tryz.func38, Tryz.ntmps38
    go_wp2_with fail
    refine (i_IsTableau _ _ _ _ (HT.out.below B0.out)).mono ?_
    rintro e w1 ⟨rfl, hb1⟩
    have B1 := Lib.hid (B0.out.trans (hb1.mono B0.out.size))
    have K1 := Lib.hid (K0.out.below hb1 K0.out.lt)
    have g0 : w1.cell? ⟨w.heap.size, 0, none⟩ = some (.slice Aa A.length ca) := K1.out.cell 0
    have g1 : w1.cell? ⟨w.heap.size, 1, none⟩ = some (.slice Ab Bs.length cb) := K1.out.cell 1
    clear hb1
    have en := fun (W : World) (a : Option Addr) (n c : Nat) => Lib.run_eql_slice_nil (P := Tryz.prog) W 27 2 a n c 0 0 Tryz.underlying27
    go_wp2_with fail
    refine (im_symplecticFault _ _ _ _ (HT.out.below B1.out) HI.out).mono ?_
    rintro e w2 ⟨r, v2, rfl, hr, ho2, hv2, hb2⟩
    have B2 := Lib.hid (B1.out.trans (hb2.mono B1.out.size))
    have HR := Lib.hid hr
    clear hb2 hr g0 g1
    by_cases hr0 : r = []
    · obtain rfl := hv2 hr0
      subst hr0
      clear ho2 hv2
      go_wp2_with fail
      go_ret2
      exact ⟨_, _, _, rfl, .inr ⟨ht, HR.out, by simp⟩, OwnInts.nil _ _ _, B2.out⟩
    · have HO2 := Lib.hid (ho2.mono B1.out.size)
      rcases ho2.1.cases with ⟨_, h⟩ | ⟨g, cap, cur, rfl, _⟩
      · exact absurd (by simpa [ints] using h) hr0
      · have HR0 := Lib.hid hr0
        clear hr0 ho2 hv2
        go_wp2_with fail
        go_ret2
        exact ⟨_, _, _, rfl, .inr ⟨ht, HR.out, by rw [if_neg HR0.out]⟩, HO2.out, B2.out⟩
end Go.Proofs.YtofabikjjkapmaaGreat

set_option maxRecDepth 100000
set_option linter.unusedVariables false
set_option linter.unusedSimpArgs false
namespace Go.Proofs.YtofabikjjkapmaaGreat
open Go.RowKit

end Go.Proofs.YtofabikjjkapmaaGreat

set_option maxRecDepth 100000
set_option linter.unusedVariables false
set_option linter.unusedSimpArgs false
namespace Go.Proofs.YtofabikjjkapmaaGreat
open Go.RowKit

end Go.Proofs.YtofabikjjkapmaaGreat

