/- Walks: ComposeTableaus of the reference, InverseMap. | Walks: factorial and actOn of the program. | Walk: scaleMap of the program. | Walks: expMap, logMap, LogMap, ScaleMap, AddMaps, MultiplyMap of the program, plus9 of the laws. | Walks: ReducedOrder, FreeNumbersOf of the program. | Walks: l16Piece, l16Pieces of the reference. | Walk: l16Pieces of the reference. | Walk: the reference's substitution. | Walk: mapPartitions of the program. | DROP Walks: FirstError of the program and of the reference. | Walks: the codes of two maps the first of which has to be infinitesimal, of the program and of the reference; SubstituteMap of both. | Walks: Convolve of the program at a character and a map, conv9 of the laws, and the law FnSubstitutedProducts. | Walks: ScaleTableau of the program and of the reference. -/
import Derived.Test.YtdjhfeaimmpmhaaGreatZc28
import Derived.Test.YtdjhfeaimmpmhaaGreatZc23
import Derived.Test.YtdjhfeaimmpmhaaGreatZc33
import Derived.Test.YtdjhfeaimmpmhaaGreatZc17
import Derived.Test.YtdjhfeaimmpmhaaGreatZc19
import Derived.Test.YtdjhfeaimmpmhaaGreatZc16
import Derived.Test.YtdjhfeaimmpmhaaGreatZc18
import Derived.Test.YtdjhfeaimmpmhaaGreatZc10
import Derived.Test.YtdjhfeaimmpmhaaGreatZc4
import Derived.Test.YtdjhfeaimmpmhaaGreatZc6
import Derived.Test.YtdjhfeaimmpmhaaGreatZc15
import Derived.Deep.CutRange
import Derived.Deep.CutBlock
import Derived.Deep.DeepCutAuto
import Derived.Test.YtdjhfeaimmpmhaaGreatZc1
import Derived.Test.YtdjhfeaimmpmhaaGreatZc32
import Derived.Test.YtdjhfeaimmpmhaaGreatZc26
import Derived.Test.YtdjhfeaimmpmhaaGreatZc24
set_option maxRecDepth 100000
set_option linter.unusedVariables false
set_option linter.unusedSimpArgs false
namespace Go.Proofs.YtdjhfeaimmpmhaaGreat
open Go.RowKit

set_option maxHeartbeats 8000000 in
theorem s_ComposeTableaus (w : World) (v v' : Value) (A1 : List (List Int)) (B1 : List Int) (A2 : List (List Int)) (B2 : List Int) (ha : TabArg w v A1 B1) (hb : TabArg w v' A2 B2) :
    Calls Tryz.prog 40 #[v, v'] w fun e w' => ∃ RA RB r c, e = .returned (.tuple #[r, .int .i64 c]) ∧ IsCmp A1 B1 A2 B2 RA RB c ∧ OT w' w.heap.size w'.heap.size r RA RB ∧ Below w.heap.size w w' := by
  obtain ⟨A1a, c1, B1a, d1, rfl⟩ := ha.open_
  obtain ⟨A2a, c2, B2a, d2, rfl⟩ := hb.open_
  obtain ⟨W, hW⟩ : ∃ W, W = ((w.alloc (.cells #[.slice A1a A1.length c1, .slice B1a B1.length d1] 45)).alloc (.cells #[.slice A2a A2.length c2, .slice B2a B2.length d2] 45)).alloc (.cells #[.slice none 0 0, .slice none 0 0] 45) := ⟨_, rfl⟩
  have hb0 : Below w.heap.size w W := by rw [hW]; exact below3 w _ _ _
  have B0 := Lib.hid hb0
  have HSW := Lib.hid (show W.heap.size = w.heap.size + 1 + 1 + 1 from by rw [hW]; simp)
  have K0 := Lib.hid (show Blk W w.heap.size 45 #[.slice A1a A1.length c1, .slice B1a B1.length d1] from by rw [hW]; exact ((Blk.new w #[.slice A1a A1.length c1, .slice B1a B1.length d1] 45).alloc _).alloc _)
  have K1 := Lib.hid (show Blk W (w.heap.size + 1) 45 #[.slice A2a A2.length c2, .slice B2a B2.length d2] from by rw [hW]; exact (Blk.new1 w _ #[.slice A2a A2.length c2, .slice B2a B2.length d2] 45).alloc _)
  have K2 := Lib.hid (show Blk W (w.heap.size + 1 + 1) 45 #[.slice none 0 0, .slice none 0 0] from by rw [hW]; exact Blk.new2 w _ _ #[.slice none 0 0, .slice none 0 0] 45)
  have HA := Lib.hid (ha.below hb0)
  have HB := Lib.hid (hb.below hb0)
  have HI1 := Lib.hid (s_l09Is W _ _ _ HA.out)
  have HI2 := Lib.hid (fun Y (hY : Below W.heap.size W Y) => s_l09Is Y _ _ _ (HB.out.below hY))
  clear ha hb hb0
  have g0 : W.cell? ⟨w.heap.size, 0, none⟩ = some (.slice A1a A1.length c1) := K0.out.cell 0
  have g1 : W.cell? ⟨w.heap.size, 1, none⟩ = some (.slice B1a B1.length d1) := K0.out.cell 1
  go_enter Tryz.func40, Tryz.ntmps40
  go_upto_region 1 with fail
  rw [← hW]
  clear hW
  cases ht1 : tabB A1 B1 with
  | false =>
    have HIC := Lib.hid (show IsCmp A1 B1 A2 B2 [] [] 1 from ⟨by simp [cmpC, ht1], fun h => absurd h (by decide), fun _ => ⟨rfl, rfl⟩⟩)
    rw [ht1] at HI1
    clear ht1
    go_upto_region 2 with (go_at_call 103; (with_reducible refine HI1.out.mono ?_); go_loud (rintro e w1 ⟨rfl, hb1⟩; have HB1 := Lib.hid hb1; clear hb1))
    have HBW := Lib.hid (B0.out.trans (HB1.out.mono B0.out.size))
    have Z := K2.out.below HB1.out K2.out.lt
    have f0 : w1.cell? ⟨w.heap.size + 1 + 1, 0, none⟩ = some (.slice none 0 0) := Z.cell 0
    have f1 : w1.cell? ⟨w.heap.size + 1 + 1, 1, none⟩ = some (.slice none 0 0) := Z.cell 1
    have f2 := Z.frozen 0
    have f3 := Z.frozen 1
    go_wp2_with fail
    have c0 := Chg.refl (w.heap.size + 1 + 1) (w.heap.size + 1 + 1 + 1) w1
    have c1' := c0.setCell (p := ⟨w.heap.size + 1 + 1, 0, none⟩) (Nat.le_refl _) (by simp) (.slice none 0 0)
    have c2' := c1'.setCell (p := ⟨w.heap.size + 1 + 1, 1, none⟩) (Nat.le_refl _) (by simp) (.slice none 0 0)
    refine bodyPost_ret (v := .tuple #[.agg #[.slice none 0 0, .slice none 0 0], .int .i64 1]) (by simp [results, Tryz.results40, go_sem, f0, f1]) rfl ⟨_, _, _, _, rfl, HIC.out, OT.nil _ _ _, c2'.below HBW.out (by omega) HBW.out.size⟩
  | true =>
    have HT1 := Lib.hid ht1
    rw [ht1] at HI1
    clear ht1
    cases ht2 : tabB A2 B2 with
    | false =>
      have HIC := Lib.hid (show IsCmp A1 B1 A2 B2 [] [] 1 from ⟨by simp [cmpC, ht2], fun h => absurd h (by decide), fun _ => ⟨rfl, rfl⟩⟩)
      simp only [ht2] at HI2
      clear ht2
      go_upto_region 2 with (first
        | (go_at_call 103; (with_reducible refine HI1.out.mono ?_); go_loud (rintro e w1 ⟨rfl, hb1⟩; have HB1 := Lib.hid hb1; have g2 : w1.cell? ⟨w.heap.size + 1, 0, none⟩ = some (.slice A2a A2.length c2) := (K1.out.below hb1 K1.out.lt).cell 0; have g3 : w1.cell? ⟨w.heap.size + 1, 1, none⟩ = some (.slice B2a B2.length d2) := (K1.out.below hb1 K1.out.lt).cell 1; clear hb1))
        | (go_at_call 103; (with_reducible refine (HI2.out _ HB1.out).mono ?_); go_loud (rintro e w2 ⟨rfl, hb2⟩; have HB2 := Lib.hid (HB1.out.trans (hb2.mono HB1.out.size)); clear hb2)))
      have HBW := Lib.hid (B0.out.trans (HB2.out.mono B0.out.size))
      have Z := K2.out.below HB2.out K2.out.lt
      have f0 : w2.cell? ⟨w.heap.size + 1 + 1, 0, none⟩ = some (.slice none 0 0) := Z.cell 0
      have f1 : w2.cell? ⟨w.heap.size + 1 + 1, 1, none⟩ = some (.slice none 0 0) := Z.cell 1
      have f2 := Z.frozen 0
      have f3 := Z.frozen 1
      go_wp2_with fail
      have c0 := Chg.refl (w.heap.size + 1 + 1) (w.heap.size + 1 + 1 + 1) w2
      have c1' := c0.setCell (p := ⟨w.heap.size + 1 + 1, 0, none⟩) (Nat.le_refl _) (by simp) (.slice none 0 0)
      have c2' := c1'.setCell (p := ⟨w.heap.size + 1 + 1, 1, none⟩) (Nat.le_refl _) (by simp) (.slice none 0 0)
      refine bodyPost_ret (v := .tuple #[.agg #[.slice none 0 0, .slice none 0 0], .int .i64 1]) (by simp [results, Tryz.results40, go_sem, f0, f1]) rfl ⟨_, _, _, _, rfl, HIC.out, OT.nil _ _ _, c2'.below HBW.out (by omega) HBW.out.size⟩
    | true =>
      have HT2 := Lib.hid ht2
      simp only [ht2] at HI2
      clear ht2
      go_upto_region 3 with (first
        | (go_at_call 103; (with_reducible refine HI1.out.mono ?_); go_loud (rintro e w1 ⟨rfl, hb1⟩; have HB1 := Lib.hid hb1; have g2 : w1.cell? ⟨w.heap.size + 1, 0, none⟩ = some (.slice A2a A2.length c2) := (K1.out.below hb1 K1.out.lt).cell 0; have g3 : w1.cell? ⟨w.heap.size + 1, 1, none⟩ = some (.slice B2a B2.length d2) := (K1.out.below hb1 K1.out.lt).cell 1; clear hb1))
        | (go_at_call 103; (with_reducible refine (HI2.out _ HB1.out).mono ?_); go_loud (rintro e w2 ⟨rfl, hb2⟩; have HB2 := Lib.hid (HB1.out.trans (hb2.mono HB1.out.size)); clear hb2)))
      have L0 := Lib.hid (K0.out.below HB2.out K0.out.lt)
      have L1 := Lib.hid (K1.out.below HB2.out K1.out.lt)
      have HM := Lib.hid (show ∀ Y, Below w2.heap.size w2 Y → (Y.cell? ⟨w.heap.size, 0, none⟩ = some (.slice A1a A1.length c1) ∧ Y.cell? ⟨w.heap.size, 1, none⟩ = some (.slice B1a B1.length d1)) ∧ Y.cell? ⟨w.heap.size + 1, 0, none⟩ = some (.slice A2a A2.length c2) ∧ Y.cell? ⟨w.heap.size + 1, 1, none⟩ = some (.slice B2a B2.length d2) from fun Y hY => ⟨⟨(L0.out.below hY L0.out.lt).cell 0, (L0.out.below hY L0.out.lt).cell 1⟩, (L1.out.below hY L1.out.lt).cell 0, (L1.out.below hY L1.out.lt).cell 1⟩)
      obtain ⟨⟨a1, a2⟩, a3, a4⟩ := HM.out w2 (Below.refl _ _)
      have hz1 := (isTab_of HT1.out).hi
      have hz2 := (isTab_of HT2.out).hi
      clear g0 g1 g2 g3
      go_cut [22] (fun v wx => v = .bool (decide (8 < B1.length + B2.length)) ∧ Below w2.heap.size w2 wx)
      case first =>
        by_cases hle : 8 < B1.length + B2.length
        · have hli : (8 : Int) < (B1.length : Int) + (B2.length : Int) := by omega
          have hd : decide (8 < B1.length + B2.length) = true := decide_eq_true hle
          have hw : IntKind.i64.wrap ((B1.length : Int) + (B2.length : Int)) = (B1.length : Int) + (B2.length : Int) := IntWalk.i64_in _ (by omega)
          go_wp2_with fail
          go_meet
          exact ⟨by rw [hd], Below.refl _ _⟩
        · have hli : ¬ (8 : Int) < (B1.length : Int) + (B2.length : Int) := by omega
          have hd : decide (8 < B1.length + B2.length) = false := decide_eq_false hle
          have hw : IntKind.i64.wrap ((B1.length : Int) + (B2.length : Int)) = (B1.length : Int) + (B2.length : Int) := IntWalk.i64_in _ (by omega)
          go_wp2_with fail
          go_meet
          exact ⟨by rw [hd], Below.refl _ _⟩
      case rest =>
        obtain ⟨rfl, hb6⟩ := hcut
        rename World => w6
        have HB6 := Lib.hid (HB2.out.trans (hb6.mono HB2.out.size))
        obtain ⟨⟨a1, a2⟩, a3, a4⟩ := HM.out w6 hb6
        clear hb6
        have HBW := Lib.hid (B0.out.trans (HB6.out.mono B0.out.size))
        by_cases hle : 8 < B1.length + B2.length
        · have hd : decide (8 < B1.length + B2.length) = true := decide_eq_true hle
          have HIC := Lib.hid (show IsCmp A1 B1 A2 B2 [] [] 3 from ⟨by simp [cmpC, HT1.out, HT2.out]; omega, fun h => absurd h (by decide), fun _ => ⟨rfl, rfl⟩⟩)
          rw [hd]
          go_upto_region 4 with fail
          have Z := K2.out.below HB6.out K2.out.lt
          have f0 : w6.cell? ⟨w.heap.size + 1 + 1, 0, none⟩ = some (.slice none 0 0) := Z.cell 0
          have f1 : w6.cell? ⟨w.heap.size + 1 + 1, 1, none⟩ = some (.slice none 0 0) := Z.cell 1
          have f2 := Z.frozen 0
          have f3 := Z.frozen 1
          go_wp2_with fail
          have c0 := Chg.refl (w.heap.size + 1 + 1) (w.heap.size + 1 + 1 + 1) w6
          have c1' := c0.setCell (p := ⟨w.heap.size + 1 + 1, 0, none⟩) (Nat.le_refl _) (by simp) (.slice none 0 0)
          have c2' := c1'.setCell (p := ⟨w.heap.size + 1 + 1, 1, none⟩) (Nat.le_refl _) (by simp) (.slice none 0 0)
          refine bodyPost_ret (v := .tuple #[.agg #[.slice none 0 0, .slice none 0 0], .int .i64 3]) (by simp [results, Tryz.results40, go_sem, f0, f1]) rfl ⟨_, _, _, _, rfl, HIC.out, OT.nil _ _ _, c2'.below HBW.out (by omega) HBW.out.size⟩
        · have hd : decide (8 < B1.length + B2.length) = false := decide_eq_false hle
          have HIC := Lib.hid (show IsCmp A1 B1 A2 B2 (compA A1 B1 A2 B2) (B1 ++ B2) 0 from ⟨by simp [cmpC, HT1.out, HT2.out]; omega, fun _ => ⟨rfl, rfl⟩, fun h => absurd rfl h⟩)
          rw [hd]
          have HCO := Lib.hid (s_l10Compose w6 _ _ A1 A2 B1 B2 (HA.out.below HB6.out) (HB.out.below HB6.out) (isTab_of HT1.out).numTab (isTab_of HT2.out).numTab (isTab_of HT2.out).lo)
          go_wp2_with (go_at_call 104; go_loud (refine HCO.out.mono ?_; rintro e w7 ⟨r7, rfl, ho, hb7⟩; obtain ⟨A7, c7, B7, d7, rfl⟩ := ho.open_; rw [List.length_append] at ho; have HO := Lib.hid ho; have HB7 := Lib.hid (HB6.out.trans (hb7.mono HB6.out.size)); have f0 : w7.cell? ⟨w.heap.size + 1 + 1, 0, none⟩ = some (.slice none 0 0) := (K2.out.below HB7.out K2.out.lt).cell 0; have f1 : w7.cell? ⟨w.heap.size + 1 + 1, 1, none⟩ = some (.slice none 0 0) := (K2.out.below HB7.out K2.out.lt).cell 1; have f2 := (K2.out.below HB7.out K2.out.lt).frozen 0; have f3 := (K2.out.below HB7.out K2.out.lt).frozen 1; clear ho hb7))
          have HOI := Lib.hid HO.out
          have hsz := HB6.out.size
          have hsw := HSW.out
          have c0 := Chg.refl (w.heap.size + 1 + 1) (w.heap.size + 1 + 1 + 1) w7
          have c1' := c0.setCell (p := ⟨w.heap.size + 1 + 1, 0, none⟩) (Nat.le_refl _) (by simp) (.slice A7 (compA A1 B1 A2 B2).length c7)
          have c2' := c1'.setCell (p := ⟨w.heap.size + 1 + 1, 1, none⟩) (Nat.le_refl _) (by simp) (.slice B7 (B1.length + B2.length) d7)
          have HBV := B0.out.trans (HB7.out.mono B0.out.size)
          refine bodyPost_ret (v := .tuple #[.agg #[.slice A7 (compA A1 B1 A2 B2).length c7, .slice B7 (B1.length + B2.length) d7], .int .i64 0]) (by simp [results, Tryz.results40, go_sem, f0, f1]) rfl ⟨_, _, _, _, rfl, HIC.out, (HO.out.kept c2' (.inr (by omega))).mono (by omega) c2'.size, c2'.below HBV (by omega) HBV.size⟩
set_option maxHeartbeats 2000000 in
theorem i_InverseMap0 (w : World) (v : Value) (a : List Int) (h1 : Ints w v a) (l1 : a.length = 38) (n1 : Nums a) (a0 : a.getD 0 0 = 1) :
    Calls Tryz.prog 46 #[v] w fun e w' => ∃ x, e = .returned (.tuple #[x, .int .i64 0]) ∧ OwnInts w' w.heap.size tI x (iv a) ∧ Below w.heap.size w w' := by
  have hc : chrC a = 0 := by
    unfold chrC
    rw [if_pos (show mapB a = true from by unfold mapB; rw [Bool.and_eq_true]; exact ⟨by simp [l1], nums_iff.2 n1⟩), if_pos a0]
  have HCH := Lib.hid (i_checkCharacter w v a h1)
  rw [hc] at HCH
  have HA := Lib.hid h1
  obtain ⟨A, c, rfl, -, -, -⟩ := h1.open_
  have HMM := Lib.hid (fun W Af cf Bp vp (hP : FrC W Bp vp) (g : Ints W (.slice A a.length c) a) => i_inverseMap W vp _ Af cf Bp a hP g l1 n1)
  clear h1 hc l1 n1 a0
  go_enter Tryz.func46, Tryz.ntmps46
  go_wp2_with (first
    | (go_at_call 74; refine HCH.out.mono ?_; rintro e w0 ⟨rfl, rfl⟩)
    | (go_at_call 65; go_loud (refine (i_newForms _).mono ?_; rintro e w1 ⟨f, rfl, hf, hb1⟩; obtain ⟨Af, cf, Ay, cy, rfl, hrf, hfc⟩ := hf.openC; have HFC := Lib.hid hfc; have HB1 := Lib.hid hb1; clear hf hrf hfc hb1))
    | (go_at_call 109; go_loud (refine (HMM.out _ _ _ _ _ HFC.out (HA.out.below HB1.out)).mono ?_; rintro e w3 ⟨x3, rfl, ho3, hb3⟩; have HO3 := Lib.hid ho3; have HB3 := Lib.hid hb3; clear ho3 hb3)))
  go_ret2
  exact ⟨_, rfl, HO3.out.mono HB1.out.size, HB1.out.trans (HB3.out.mono HB1.out.size)⟩
end Go.Proofs.YtdjhfeaimmpmhaaGreat

set_option maxRecDepth 100000
set_option linter.unusedVariables false
set_option linter.unusedSimpArgs false
namespace Go.Proofs.YtdjhfeaimmpmhaaGreat
open Go.RowKit

end Go.Proofs.YtdjhfeaimmpmhaaGreat

set_option maxRecDepth 100000
set_option linter.unusedVariables false
set_option linter.unusedSimpArgs false
namespace Go.Proofs.YtdjhfeaimmpmhaaGreat
open Go.RowKit

theorem scZ_step (a : List Int) (k : Int) {i : Nat} (h : i < 38) : ints ((scZ a k).take (i + 1)) = ints ((scZ a k).take i) ++ [.int .i64 (a.getD i 0 * pw k (szN i) % 10007)] := by
  rw [List.take_add_one, scZ_get a k h, ints, ints, List.map_append]; rfl
set_option maxHeartbeats 8000000 in
theorem i_scaleMap (w : World) (v va : Value) (B : Option Addr) (m d : Nat) (a : List Int) (k : Int) (ha : Rows w v (T6n.map up)) (h1 : Ints w va a) (l1 : a.length = 38) (hN1 : Nums a) (hk0 : 0 ≤ k) (hk1 : k ≤ 10006) :
    Calls Tryz.prog 81 #[.agg #[v, .slice B m d], va, .int .i64 k] w fun e w' => ∃ x, e = .returned x ∧ OwnInts w' w.heap.size tI x (scZ a k) ∧ Below w.heap.size w w' := by
  obtain ⟨A, c, he, -, -, -⟩ := ha.open_
  rw [List.length_map, T6n_len] at he
  subst he
  obtain ⟨Aa, ca, rfl, -, -, -⟩ := h1.open_
  rw [l1] at h1 ⊢
  obtain ⟨ada, rfl, -, -, -⟩ := map_cell h1 hN1 (k := 0) (by omega)
  obtain ⟨wb, hwb⟩ : ∃ wb, wb = w.alloc (.cells #[.slice A 37 c, .slice B m d] 71) := ⟨_, rfl⟩
  have hbb : Below w.heap.size w wb := by rw [hwb]; exact below1 w _
  have HBX := Lib.hid hbb
  have HF := Lib.hid (show Blk wb w.heap.size 71 #[.slice A 37 c, .slice B m d] from by rw [hwb]; exact Blk.new _ _ _)
  have HR := Lib.hid (ha.below hbb)
  have HA := Lib.hid (h1.below hbb)
  have HNA := Lib.hid hN1
  have HSZ := Lib.hid (scZ_len a k)
  have OL := Lib.hid (show Own (wb.alloc (.cells #[] tI)) wb.heap.size tI (.slice (some ⟨wb.heap.size, 0, none⟩) 0 0) (ints ((scZ a k).take 0)) from own_lit wb tI [] (by simp [maxLen]))
  clear ha h1 l1 hN1 hbb
  go_enter Tryz.func81, Tryz.ntmps81
  go_upto_region 1 with fail
  rw [← hwb]
  clear hwb
  go_wp2_with fail
  go_loopw [7, 13] (fun o x wr => ∃ i : Nat, i ≤ 38 ∧ x = .int .i64 i ∧ Own wr wb.heap.size tI o (ints ((scZ a k).take i)) ∧ Below wb.heap.size wb wr) (fun _ x _ => 38 - (intOf x).toNat)
  case atStart => exact ⟨0, Nat.zero_le _, rfl, OL.out, below1 wb _⟩
  case round =>
    obtain ⟨i, hi, rfl, ho, hb⟩ := hrel
    rename World => wq
    clear OL
    have hel : ((scZ a k).take i).length = i := by rw [List.length_take, HSZ.out]; omega
    have hol := ho.cells.open_
    rw [ints_len, hel] at hol
    obtain ⟨Ao, co, rfl, -, -⟩ := hol
    have HEL := Lib.hid hel
    have HO := Lib.hid ho
    have HBQ := Lib.hid hb
    have hq0 : wq.cell? ⟨w.heap.size, 0, none⟩ = some (.slice A 37 c) := (HF.out.below hb HF.out.lt).cell 0
    have hq1 : wq.cell? ⟨w.heap.size, 1, none⟩ = some (.slice B m d) := (HF.out.below hb HF.out.lt).cell 1
    clear ho hel
    by_cases hlt : i < 38
    · obtain ⟨_, he, hcx, hx0, hx1⟩ := map_cell (HA.out.below hb) HNA.out (k := i) hlt
      simp only [Option.some.injEq] at he
      subst he
      have HTS := Lib.hid (scZ_step a k hlt)
      have HIN := Lib.hid (im_fnodes wq (.slice A 37 c) B m d i (HR.out.below hb) (by omega))
      have hsz := szN_le i
      have hpb := pw_bd k (szN i)
      have HPW := Lib.hid (fun W => show Calls Tryz.prog 141 #[.int .i64 k, .int .i64 (szN i : Nat)] W fun e w' => e = .returned (.int .i64 (pw k (szN i))) ∧ W = w' from by
        have h := i_pow k (szN i : Nat) W hk0 (by omega) (by omega) (by omega)
        rwa [Int.toNat_natCast] at h)
      obtain ⟨P, hP⟩ : ∃ P, P = pw k (szN i) := ⟨_, rfl⟩
      rw [← hP] at hpb HPW HTS
      generalize a.getD i 0 = y at *
      generalize szN i = s at *
      obtain ⟨p1, p2⟩ := mul_bd 10006 10006 hx0 hx1 hpb.1 hpb.2
      have hii : (i : Int) < 38 := by omega
      clear hb hP
      go_wp2_with (first
        | (go_at_call 143; go_loud (refine HIN.out.mono ?_; rintro e w2 ⟨rfl, hw2⟩; have HB2 := Lib.hid (show Below wb.heap.size wb w2 from by rw [hw2]; exact HBQ.out.trans ((below1 _ _).mono HBQ.out.size)); have HOX := Lib.hid (show Own w2 wb.heap.size tI (.slice Ao i co) (ints ((scZ a k).take i)) from HO.out.below (by rw [hw2]; exact below1 _ _)); clear hw2))
        | (go_at_call 141; refine (HPW.out _).mono ?_; rintro e w3 ⟨rfl, rfl⟩)
        | (go_at_call 60; refine (i_num (y * P) _ (by omega) (by omega)).mono ?_; rintro e w3 ⟨rfl, rfl⟩)
        | (at_builtin; go_loud (refine wpList_app1 T_int HOX.out (by rw [ints_len, HEL.out]; omega) HB2.out.size (by rfl) rfl (by rfl) (by rfl) (by rfl) ?_; intro v1 w6 hown1 hgr1; have HN := Lib.hid hown1; have HGR := Lib.hid hgr1; clear hown1 hgr1)))
      go_roundw
      case rel =>
        refine ⟨i + 1, by omega, by go_num, ?_, HGR.out.below HB2.out HB2.out.size HO.out.ge⟩
        rw [HTS.out]; exact HN.out
      case measure => simp [intOf]; omega
    · have hil : (scZ a k).take i = scZ a k := List.take_of_length_le (by rw [HSZ.out]; omega)
      have HFF := Lib.hid hil
      clear hil
      go_wp2_with fail
      go_ret
      refine ⟨_, rfl, ⟨?_, fun z hz => in64_num (scZ_nums a k z hz)⟩, HBX.out.trans (HBQ.out.mono HBX.out.size)⟩
      have h := HO.out
      rw [HFF.out] at h
      exact h.mono HBX.out.size
end Go.Proofs.YtdjhfeaimmpmhaaGreat

set_option maxRecDepth 100000
set_option linter.unusedVariables false
set_option linter.unusedSimpArgs false
namespace Go.Proofs.YtdjhfeaimmpmhaaGreat
open Go.RowKit

def e5 : Nat := 10005
set_option maxHeartbeats 2000000 in
theorem i_ScaleMap0 (w : World) (v : Value) (a : List Int) (k : Int) (h1 : Ints w v a) (l1 : a.length = 38) (n1 : Nums a) (k0 : 0 ≤ k) (k1 : k ≤ 10006) :
    Calls Tryz.prog 27 #[v, .int .i64 k] w fun e w' => ∃ x, e = .returned (.tuple #[x, .int .i64 0]) ∧ OwnInts w' w.heap.size tI x (scZ a k) ∧ Below w.heap.size w w' := by
  have hm : mapB a = true := by unfold mapB; rw [Bool.and_eq_true]; exact ⟨by simp [l1], nums_iff.2 n1⟩
  have HM := Lib.hid (i_IsMap w v a h1)
  rw [hm] at HM
  have HNK := Lib.hid (fun X => i_IsNumber k X)
  have hn : isNum k = true := by unfold isNum; rw [inR_iff]; omega
  simp only [hn] at HNK
  have HA := Lib.hid h1
  obtain ⟨A, c, rfl, -, -, -⟩ := h1.open_
  have HMM := Lib.hid (fun W Af cf Bm m d (hR : Rows W (.slice Af 37 cf) (T6n.map up)) (g : Ints W (.slice A a.length c) a) => i_scaleMap W (.slice Af 37 cf) _ Bm m d a k hR g l1 n1 k0 k1)
  clear h1 hm l1 n1 hn
  go_enter Tryz.func27, Tryz.ntmps27
  go_wp2_with (first
    | (go_at_call 85; refine HM.out.mono ?_; rintro e w0 ⟨rfl, rfl⟩)
    | (go_at_call 86; refine (HNK.out _).mono ?_; rintro e w0 ⟨rfl, rfl⟩)
    | (go_at_call 65; go_loud (refine (i_newForms _).mono ?_; rintro e w1 ⟨f, rfl, hf, hb1⟩; obtain ⟨Af, cf, Ay, cy, rfl, hrf, hfc⟩ := hf.openC; have HRF := Lib.hid hrf; have HB1 := Lib.hid hb1; clear hf hrf hfc hb1))
    | (go_at_call 81; go_loud (refine (HMM.out _ _ _ _ _ _ HRF.out (HA.out.below HB1.out)).mono ?_; rintro e w3 ⟨x3, rfl, ho3, hb3⟩; have HO3 := Lib.hid ho3; have HB3 := Lib.hid hb3; clear ho3 hb3)))
  go_ret2
  exact ⟨_, rfl, HO3.out.mono HB1.out.size, HB1.out.trans (HB3.out.mono HB1.out.size)⟩
end Go.Proofs.YtdjhfeaimmpmhaaGreat

set_option maxRecDepth 100000
set_option linter.unusedVariables false
set_option linter.unusedSimpArgs false
namespace Go.Proofs.YtdjhfeaimmpmhaaGreat
open Go.RowKit

end Go.Proofs.YtdjhfeaimmpmhaaGreat

set_option maxRecDepth 100000
set_option linter.unusedVariables false
set_option linter.unusedSimpArgs false
namespace Go.Proofs.YtdjhfeaimmpmhaaGreat
open Go.RowKit

end Go.Proofs.YtdjhfeaimmpmhaaGreat

set_option maxRecDepth 100000
set_option linter.unusedVariables false
set_option linter.unusedSimpArgs false
namespace Go.Proofs.YtdjhfeaimmpmhaaGreat
open Go.RowKit

end Go.Proofs.YtdjhfeaimmpmhaaGreat

set_option maxRecDepth 100000
set_option linter.unusedVariables false
set_option linter.unusedSimpArgs false
namespace Go.Proofs.YtdjhfeaimmpmhaaGreat
open Go.RowKit

end Go.Proofs.YtdjhfeaimmpmhaaGreat

set_option maxRecDepth 100000
set_option linter.unusedVariables false
set_option linter.unusedSimpArgs false
namespace Go.Proofs.YtdjhfeaimmpmhaaGreat
open Go.RowKit

end Go.Proofs.YtdjhfeaimmpmhaaGreat

set_option maxRecDepth 100000
set_option linter.unusedVariables false
set_option linter.unusedSimpArgs false
namespace Go.Proofs.YtdjhfeaimmpmhaaGreat
open Go.RowKit

end Go.Proofs.YtdjhfeaimmpmhaaGreat

set_option maxRecDepth 100000
set_option linter.unusedVariables false
set_option linter.unusedSimpArgs false
namespace Go.Proofs.YtdjhfeaimmpmhaaGreat
open Go.RowKit

end Go.Proofs.YtdjhfeaimmpmhaaGreat

set_option maxRecDepth 100000
set_option linter.unusedVariables false
set_option linter.unusedSimpArgs false
namespace Go.Proofs.YtdjhfeaimmpmhaaGreat
open Go.RowKit

theorem mapB_of {a : List Int} (l : a.length = 38) (n : Nums a) : mapB a = true := by
  unfold mapB
  rw [Bool.and_eq_true]
  exact ⟨by simp [l], nums_iff.2 n⟩
set_option maxHeartbeats 4000000 in
theorem i_Convolve0 (w : World) (va vb : Value) (a b : List Int) (h1 : Ints w va a) (h2 : Ints w vb b) (l1 : a.length = 38) (n1 : Nums a) (a0 : a.getD 0 0 = 1) (l2 : b.length = 38) (n2 : Nums b) :
    Calls Tryz.prog 43 #[va, vb] w fun e w' => ∃ x, e = .returned (.tuple #[x, .int .i64 0]) ∧ OwnInts w' w.heap.size tI x (cvZ a b) ∧ Below w.heap.size w w' := by
  have HM1 := Lib.hid (i_IsMap w va a h1)
  have HM2 := Lib.hid (i_IsMap w vb b h2)
  rw [mapB_of l1 n1] at HM1
  rw [mapB_of l2 n2] at HM2
  have HA := Lib.hid h1
  have HB := Lib.hid h2
  obtain ⟨ad, ca, rfl, hc⟩ : ∃ ad ca, va = .slice (some ad) 38 ca ∧ w.cell? ad = some (.int .i64 1) := by
    obtain ⟨Aa, ca, rfl, -, -, -⟩ := h1.open_
    obtain ⟨ad, rfl, hc⟩ := map_head h1 (mapB_of l1 n1)
    rw [a0] at hc
    exact ⟨ad, ca, by rw [l1], hc⟩
  obtain ⟨Ab, cb, rfl, -, -, -⟩ := h2.open_
  rw [l2] at h2 HB HM2 ⊢
  have HMM := Lib.hid (fun W Af cf Bp vp (hP : FrC W Bp vp) (g : Ints W (.slice (some ad) 38 ca) a) (g2 : Ints W (.slice Ab 38 cb) b) => i_convolve W vp _ _ Af cf Bp a b hP g l1 n1 g2 l2 n2)
  clear h1 h2 l1 n1 a0 l2 n2
  go_enter Tryz.func43, Tryz.ntmps43
  go_wp2_with (first
    | (go_at_call 85; (with_reducible refine HM1.out.mono ?_); rintro e w' ⟨rfl, rfl⟩)
    | (go_at_call 85; (with_reducible refine HM2.out.mono ?_); rintro e w' ⟨rfl, rfl⟩)
    | (go_at_call 65; go_loud (refine (i_newForms _).mono ?_; rintro e w1 ⟨f, rfl, hf, hb1⟩; obtain ⟨Af, cf, Ay, cy, rfl, hrf, hfc⟩ := hf.openC; have HRF := Lib.hid hrf; have HFC := Lib.hid hfc; have HB1 := Lib.hid hb1; clear hf hrf hfc hb1))
    | (go_at_call 80; go_loud (refine (HMM.out _ _ _ _ _ HFC.out (HA.out.below HB1.out) (HB.out.below HB1.out)).mono ?_; rintro e w3 ⟨x3, rfl, ho3, hb3⟩; have HO3 := Lib.hid ho3; have HB3 := Lib.hid hb3; clear ho3 hb3)))
  go_ret2
  exact ⟨_, rfl, HO3.out.mono HB1.out.size, HB1.out.trans (HB3.out.mono HB1.out.size)⟩
end Go.Proofs.YtdjhfeaimmpmhaaGreat

set_option linter.unusedVariables false
set_option linter.unusedSimpArgs false
namespace Go.Proofs.YtdjhfeaimmpmhaaGreat
open Go.RowKit

def scaleOk (A : List (List Int)) (Bs : List Int) (k : Int) : Bool := tabB A Bs && isNum k
def scaleC (A : List (List Int)) (Bs : List Int) (k : Int) : Int := if tabB A Bs then (if isNum k then 0 else 2) else 1
def scaleA (A : List (List Int)) (Bs : List Int) (k : Int) : List (List Int) := if scaleOk A Bs k then A.map (scl k) else []
def scaleB (A : List (List Int)) (Bs : List Int) (k : Int) : List Int := if scaleOk A Bs k then scl k Bs else []
def IsSc (A : List (List Int)) (Bs : List Int) (k : Int) (RA : List (List Int)) (RB : List Int) (c : Int) : Prop := RA = scaleA A Bs k ∧ RB = scaleB A Bs k ∧ c = scaleC A Bs k
theorem IsSc.unique {A : List (List Int)} {Bs : List Int} {k : Int} {RA RA' : List (List Int)} {RB RB' : List Int} {c c' : Int} (h : IsSc A Bs k RA RB c) (h' : IsSc A Bs k RA' RB' c') : RA = RA' ∧ RB = RB' ∧ c = c' := by
  obtain ⟨rfl, rfl, rfl⟩ := h
  obtain ⟨rfl, rfl, rfl⟩ := h'
  exact ⟨rfl, rfl, rfl⟩
theorem IsSc.short {A : List (List Int)} {Bs : List Int} {k : Int} {RA : List (List Int)} {RB : List Int} {c : Int} (h : IsSc A Bs k RA RB c) : tot RA ≤ 1000 ∧ RB.length ≤ 1000 := by
  obtain ⟨rfl, rfl, rfl⟩ := h
  unfold scaleA scaleB scaleOk
  cases ht : tabB A Bs with
  | false => simp [tot]
  | true =>
    cases isNum k with
    | false => simp [tot]
    | true =>
      have hI := isTab_of ht
      have h1 : tot (A.map (scl k)) ≤ (A.map (scl k)).length * 8 := tot_le fun zs hz => by
        obtain ⟨ys, hy, rfl⟩ := List.mem_map.1 hz
        rw [scl_len]
        have := (hI.row ys hy).1
        have := hI.hi
        omega
      have := hI.len
      have := hI.hi
      simp only [List.length_map] at h1
      simp [scl_len]
      omega
set_option maxRecDepth 100000 in
set_option maxHeartbeats 2000000 in
theorem i_ScaleTableau (w : World) (v : Value) (A : List (List Int)) (Bs : List Int) (ha : TabArg w v A Bs) (k : Int) (hk : In64 k) :
    Calls Tryz.prog 47 #[v, .int .i64 k] w fun e w' => ∃ RA RB v' c, e = .returned (.tuple #[v', .int .i64 c]) ∧ IsSc A Bs k RA RB c ∧ OT w' w.heap.size w'.heap.size v' RA RB ∧ Below w.heap.size w w' := by
  have HT := Lib.hid ha
  obtain ⟨Aa, ca, Ab, cb, rfl⟩ := ha.open_
  have B0 := Lib.hid (below2 w (.cells #[.slice Aa A.length ca, .slice Ab Bs.length cb] 45) (.cells #[.slice none 0 0, .slice none 0 0] 45))
  have K0 := Lib.hid ((Blk.new w #[.slice Aa A.length ca, .slice Ab Bs.length cb] 45).alloc (.cells #[.slice none 0 0, .slice none 0 0] 45))
  have K1 := Lib.hid (Blk.new1 w (.cells #[.slice Aa A.length ca, .slice Ab Bs.length cb] 45) #[.slice none 0 0, .slice none 0 0] 45)
  clear ha hk
  go_enter Tryz.func47, Tryz.ntmps47
  go_wp2_with fail
  refine (i_IsTableau _ _ _ _ (HT.out.below B0.out)).mono ?_
  rintro e w1 ⟨rfl, hb1⟩
  have B1 := Lib.hid (B0.out.trans (hb1.mono B0.out.size))
  have X0 := Lib.hid (K0.out.below hb1 K0.out.lt)
  have X1 := Lib.hid (K1.out.below hb1 K1.out.lt)
  have hs1 := hb1.size
  simp only [size_alloc'] at hs1
  have HS1 := Lib.hid hs1
  have g0 : w1.cell? ⟨w.heap.size, 0, none⟩ = some (.slice Aa A.length ca) := X0.out.cell 0
  have g1 : w1.cell? ⟨w.heap.size, 1, none⟩ = some (.slice Ab Bs.length cb) := X0.out.cell 1
  have f0 : w1.cell? ⟨w.heap.size + 1, 0, none⟩ = some (.slice none 0 0) := X1.out.cell 0
  have f1 : w1.cell? ⟨w.heap.size + 1, 1, none⟩ = some (.slice none 0 0) := X1.out.cell 1
  have f2 := X1.out.frozen 0
  have f3 := X1.out.frozen 1
  clear hb1 K0 K1 hs1
  cases ht : tabB A Bs with
  | false =>
    have HQ := Lib.hid ht
    go_wp2_with fail
    have c0 := Chg.refl (w.heap.size + 1) (w.heap.size + 1 + 1) w1
    have c1' := c0.setCell (p := ⟨w.heap.size + 1, 0, none⟩) (Nat.le_refl _) (by simp) (.slice none 0 0)
    have c2' := c1'.setCell (p := ⟨w.heap.size + 1, 1, none⟩) (Nat.le_refl _) (by simp) (.slice none 0 0)
    refine bodyPost_ret (v := .tuple #[.agg #[.slice none 0 0, .slice none 0 0], .int .i64 1]) (by simp [results, Tryz.results47, go_sem, f0, f1]) rfl ⟨[], [], _, _, rfl, ⟨by simp [scaleA, scaleOk, HQ.out], by simp [scaleB, scaleOk, HQ.out], by simp [scaleC, HQ.out]⟩, OT.nil _ _ _, c2'.below B1.out (by omega) B1.out.size⟩
  | true =>
    have HI := Lib.hid (isTab_of ht)
    go_wp2_with fail
    refine (i_IsNumber _ _).mono ?_
    rintro e w2 ⟨rfl, rfl⟩
    cases hn : isNum k with
    | false =>
      have HQ := Lib.hid (show tabB A Bs = true ∧ isNum k = false from ⟨ht, hn⟩)
      go_wp2_with fail
      have c0 := Chg.refl (w.heap.size + 1) (w.heap.size + 1 + 1) w1
      have c1' := c0.setCell (p := ⟨w.heap.size + 1, 0, none⟩) (Nat.le_refl _) (by simp) (.slice none 0 0)
      have c2' := c1'.setCell (p := ⟨w.heap.size + 1, 1, none⟩) (Nat.le_refl _) (by simp) (.slice none 0 0)
      refine bodyPost_ret (v := .tuple #[.agg #[.slice none 0 0, .slice none 0 0], .int .i64 2]) (by simp [results, Tryz.results47, go_sem, f0, f1]) rfl ⟨[], [], _, _, rfl, ⟨by simp [scaleA, scaleOk, HQ.out], by simp [scaleB, scaleOk, HQ.out], by simp [scaleC, HQ.out]⟩, OT.nil _ _ _, c2'.below B1.out (by omega) B1.out.size⟩
    | true =>
      have HQ := Lib.hid (show tabB A Bs = true ∧ isNum k = true from ⟨ht, hn⟩)
      have HM := Lib.hid (isNum_mod hn)
      go_wp2_with fail
      refine (im_times _ _ A Bs k (HT.out.below B1.out) HI.out.numTab (by have := HM.out; omega) (by have := HM.out; omega)).mono ?_
      rintro e w2 ⟨r, rfl, hot, hb2⟩
      obtain ⟨A3, c3, A4, c4, rfl⟩ := hot.open_
      rw [List.length_map, scl_len] at hot ⊢
      rw [HM.out.1] at hot
      have HO := Lib.hid hot
      have B2 := Lib.hid (B1.out.trans (hb2.mono B1.out.size))
      have X2 := Lib.hid (X1.out.below hb2 X1.out.lt)
      have HS2 := Lib.hid hb2.size
      clear g0 g1 f0 f1 f2 f3 hot hb2
      have f0 : w2.cell? ⟨w.heap.size + 1, 0, none⟩ = some (.slice none 0 0) := X2.out.cell 0
      have f1 : w2.cell? ⟨w.heap.size + 1, 1, none⟩ = some (.slice none 0 0) := X2.out.cell 1
      have f2 := X2.out.frozen 0
      have f3 := X2.out.frozen 1
      go_wp2_with fail
      have c0 := Chg.refl (w.heap.size + 1) (w.heap.size + 1 + 1) w2
      have c1' := c0.setCell (p := ⟨w.heap.size + 1, 0, none⟩) (Nat.le_refl _) (by simp) (.slice A3 A.length c3)
      have c2' := c1'.setCell (p := ⟨w.heap.size + 1, 1, none⟩) (Nat.le_refl _) (by simp) (.slice A4 Bs.length c4)
      refine bodyPost_ret (v := .tuple #[.agg #[.slice A3 A.length c3, .slice A4 Bs.length c4], .int .i64 0]) (by simp [results, Tryz.results47, go_sem, f0, f1]) rfl ⟨_, _, _, _, rfl, ⟨by simp [scaleA, scaleOk, HQ.out.1, HQ.out.2], by simp [scaleB, scaleOk, HQ.out.1, HQ.out.2], by simp [scaleC, HQ.out.1, HQ.out.2]⟩, (HO.out.kept c2' (.inr HS1.out)).mono B1.out.size c2'.size, c2'.below B2.out (by omega) B2.out.size⟩

end Go.Proofs.YtdjhfeaimmpmhaaGreat

