/- The laws' helpers: equality of lists of lists of monomials, and of fields. -/
import Derived.Test.YtgnmnpjbmdifbaaFld9
import Derived.Test.YtgnmnpjbmdifbaaFld7
set_option maxRecDepth 100000
set_option linter.unusedVariables false
set_option linter.unusedSimpArgs false
namespace Go.Proofs.Ytgnmnpjbmdifbaa
open Go.RowKit

set_option maxHeartbeats 2000000 in
theorem l_eqMonomialSS (w : World) (a b : Value) (xs ys : List (List Mono)) (ha : MRows w a xs) (hb : MRows w b ys) :
    Calls Try.prog 65 #[a, b] w fun e w' => e = .returned (.bool (decide (xs = ys))) ∧ Below w.heap.size w w' := by
  obtain ⟨A, c, rfl, h1, h2, h3⟩ := ha.open_
  obtain ⟨B, d, rfl, g1, g2, g3⟩ := hb.open_
  clear ha hb
  have H3 := Lib.hid h3
  have G3 := Lib.hid g3
  clear h3 g3
  by_cases hl : xs.length = ys.length
  · have hl' : (((xs.length : Nat) : Int) != ((ys.length : Nat) : Int)) = false := by simp [hl]
    have HL := Lib.hid hl
    clear hl
    have g4 : ys.length ≤ xs.length := by rw [HL.out]; omega
    have g5 : xs.length ≤ ys.length := by rw [HL.out]; omega
    go_enter Try.func65, Try.ntmps65
    go_wp2
    go_loopw [5] (fun i wr => ∃ k : Nat, k ≤ xs.length ∧ i = .int .i64 k ∧ Hid (xs.take k = ys.take k) ∧ Below w.heap.size w wr) (fun i _ => xs.length - (intOf i).toNat)
    case atStart => exact ⟨0, Nat.zero_le _, rfl, rfl, Below.refl _ _⟩
    case round =>
      obtain ⟨k, hk, rfl, HT, hbw⟩ := hrel
      have HB := Lib.hid hbw
      clear hbw
      by_cases hlt : k < xs.length
      · obtain ⟨ad1, u1, m1, rfl, hx, hu1, hc1⟩ := H3.out k hlt
        obtain ⟨ad2, u2, m2, rfl, hy, hu2, hc2⟩ := G3.out k (by omega)
        have q1 : wr.cell? (ad1.add k) = some u1 := by rw [HB.out.cell (by rw [block_add]; have := World.block_lt_of_cell? w _ hc1; rwa [block_add] at this)]; exact hc1
        have q2 : wr.cell? (ad2.add k) = some u2 := by rw [HB.out.cell (by rw [block_add]; have := World.block_lt_of_cell? w _ hc2; rwa [block_add] at this)]; exact hc2
        have M1 := Lib.hid (hu1.below HB.out)
        have M2 := Lib.hid (hu2.below HB.out)
        have HX := Lib.hid hx
        have HY := Lib.hid hy
        have hki : (k : Int) < (xs.length : Int) := by omega
        have hki2 : (k : Int) < (ys.length : Int) := by omega
        have hkn2 : k < ys.length := by omega
        clear hx hy hu1 hu2 hc1 hc2
        by_cases he : m1 = m2
        · have hd : decide (m1 = m2) = true := decide_eq_true he
          have HE := Lib.hid he
          clear he
          go_wp2_with fail
          go_region_law (go_simp; go_at_call 116; refine (l_eqMonomialS _ _ _ m1 m2 (by exact M1.out.below (Below.refl _ _).drew) (by exact M2.out.below (Below.refl _ _).drew)).mono ?_; rintro e w5 ⟨rfl, hb5⟩; rw [hd])
          all_goals
            have HB5 := Lib.hid (HB.out.trans ((below_of_drew hb5).mono HB.out.size))
            clear hb5 q1 q2
            go_wp2_with fail
            go_roundw
            case rel => exact ⟨k + 1, by omega, by go_num, mtake_succ HT.out HX.out HY.out HE.out, HB5.out⟩
            case measure => simp [intOf]; omega
        · have hd : decide (m1 = m2) = false := decide_eq_false he
          have HE := Lib.hid he
          clear he
          go_wp2_with fail
          go_region_law (go_simp; go_at_call 116; refine (l_eqMonomialS _ _ _ m1 m2 (by exact M1.out.below (Below.refl _ _).drew) (by exact M2.out.below (Below.refl _ _).drew)).mono ?_; rintro e w5 ⟨rfl, hb5⟩; rw [hd])
          all_goals
            have HB5 := Lib.hid (HB.out.trans ((below_of_drew hb5).mono HB.out.size))
            clear hb5 q1 q2
            go_wp2_with fail
            go_ret
            refine ⟨ret_bool ?_, HB5.out⟩
            symm
            simp only [decide_eq_false_iff_not]
            rintro rfl
            have := HX.out.symm.trans HY.out
            simp only [Option.some.injEq] at this
            exact HE.out this
      · have : k = xs.length := by omega
        subst this
        go_wp2_with fail
        go_ret
        refine ⟨ret_bool ?_, HB.out⟩
        have e := HT.out
        rw [List.take_length, List.take_of_length_le (by omega)] at e
        simp [e]
  · have hl' : (((xs.length : Nat) : Int) != ((ys.length : Nat) : Int)) = true := by simp; omega
    have HL := Lib.hid hl
    clear hl
    go_enter Try.func65, Try.ntmps65
    go_wp2
    go_ret
    refine ⟨ret_bool ?_, Below.refl _ _⟩
    have := HL.out
    symm
    simp only [decide_eq_false_iff_not]
    rintro rfl
    exact this rfl

set_option maxHeartbeats 1000000 in
theorem l_eqField (w : World) (v v' : Value) (n n' : Int) (pss pss' : List (List Mono)) (ha : FieldArg w v n pss) (hb : FieldArg w v' n' pss') :
    Calls Try.prog 22 #[v, v'] w fun e w' => e = .returned (.bool (decide (n = n') && decide (pss = pss'))) ∧ Below w.heap.size w w' := by
  obtain ⟨u, rfl, hf, hu⟩ := ha
  obtain ⟨u', rfl, hf', hu'⟩ := hb
  have BB := Lib.hid (below2 w (.cells #[.int .i64 n, u] 40) (.cells #[.int .i64 n', u'] 40))
  have HU := Lib.hid (hu.below BB.out)
  have HU' := Lib.hid (hu'.below BB.out)
  obtain ⟨A, c, rfl, -, -, -⟩ := hu.open_
  obtain ⟨A', c', rfl, -, -, -⟩ := hu'.open_
  clear hu hu'
  go_enter Try.func22, Try.ntmps22
  by_cases h : n = n'
  · have hb1 : (n != n') = false := by simp [h]
    have H := Lib.hid h
    clear h
    by_cases hp : pss = pss'
    · have HP := Lib.hid hp
      have hd : decide (pss = pss') = true := by simp [hp]
      clear hp
      go_wp2_with (go_at_call 65; refine (l_eqMonomialSS _ _ _ _ _ HU.out HU'.out).mono ?_; rintro e w1 ⟨rfl, hb5⟩; rw [hd])
      go_ret
      exact ⟨ret_bool (by simp [H.out, HP.out]), BB.out.trans (hb5.mono BB.out.size)⟩
    · have HP := Lib.hid hp
      have hd : decide (pss = pss') = false := by simp [hp]
      clear hp
      go_wp2_with (go_at_call 65; refine (l_eqMonomialSS _ _ _ _ _ HU.out HU'.out).mono ?_; rintro e w1 ⟨rfl, hb5⟩; rw [hd])
      go_ret
      exact ⟨ret_bool (by simp [HP.out]), BB.out.trans (hb5.mono BB.out.size)⟩
  · have hb1 : (n != n') = true := by simp [h]
    have H := Lib.hid h
    clear h
    go_wp2_with fail
    go_ret
    exact ⟨ret_bool (by simp [H.out]), BB.out⟩
end Go.Proofs.Ytgnmnpjbmdifbaa
