/- The laws' helper: equality of lists of monomials. -/
import Derived.Test.YtgnmnpjbmdifbaaFld8
import Derived.Deep.RegionLaw
set_option maxRecDepth 100000
set_option linter.unusedVariables false
set_option linter.unusedSimpArgs false
namespace Go.Proofs.Ytgnmnpjbmdifbaa
open Go.RowKit

theorem mtake_succ {α : Type} {xs ys : List α} {k : Nat} {x y : α} (h : xs.take k = ys.take k) (hx : xs[k]? = some x) (hy : ys[k]? = some y) (e : x = y) : xs.take (k + 1) = ys.take (k + 1) := by
  rw [List.take_add_one, List.take_add_one, h, hx, hy, e]

set_option maxHeartbeats 2000000 in
theorem l_eqMonomialS (w : World) (a b : Value) (xs ys : List Mono) (ha : Monos w a xs) (hb : Monos w b ys) :
    Calls Try.prog 116 #[a, b] w fun e w' => e = .returned (.bool (decide (xs = ys))) ∧ Below w.heap.size w w' := by
  obtain ⟨A, c, rfl, h1, h2, h3⟩ := ha.open_
  obtain ⟨B, d, rfl, g1, g2, g3⟩ := hb.open_
  clear ha hb
  have H3 := Lib.hid h3
  have G3 := Lib.hid g3
  clear h3 g3
  by_cases hl : xs.length = ys.length
  · have hl' : (((xs.length : Nat) : Int) != ((ys.length : Nat) : Int)) = false := by simp [hl]
    have HL := Lib.hid hl
    clear hl
    have g4 : ys.length ≤ xs.length := by rw [HL.out]; omega
    have g5 : xs.length ≤ ys.length := by rw [HL.out]; omega
    go_enter Try.func116, Try.ntmps116
    go_wp2
    go_loopw [5] (fun i wr => ∃ k : Nat, k ≤ xs.length ∧ i = .int .i64 k ∧ Hid (xs.take k = ys.take k) ∧ Below w.heap.size w wr) (fun i _ => xs.length - (intOf i).toNat)
    case atStart => exact ⟨0, Nat.zero_le _, rfl, rfl, Below.refl _ _⟩
    case round =>
      obtain ⟨k, hk, rfl, HT, hbw⟩ := hrel
      have HB := Lib.hid hbw
      clear hbw
      by_cases hlt : k < xs.length
      · obtain ⟨b1, o1, m1, u1, rfl, hx, hf1, hu1, hc1, hd1⟩ := H3.out k hlt
        obtain ⟨b2, o2, m2, u2, rfl, hy, hf2, hu2, hc2, hd2⟩ := G3.out k (by omega)
        obtain ⟨f1, p1⟩ := m1
        obtain ⟨f2, p2⟩ := m2
        simp only at hf1 hu1 hc1 hd1 hf2 hu2 hc2 hd2
        have hab1 : b1 < w.heap.size := World.block_lt_of_cell? w _ hc1
        have hab2 : b2 < w.heap.size := World.block_lt_of_cell? w _ hc2
        have q1 : wr.cell? ⟨b1, o1 + k * 2, none⟩ = some (.int .i64 f1) := by rw [HB.out.cell (by exact hab1)]; exact hc1
        have r1 : wr.cell? ⟨b1, o1 + k * 2 + 1, none⟩ = some u1 := by rw [HB.out.cell (by exact hab1)]; exact hd1
        have q2 : wr.cell? ⟨b2, o2 + k * 2, none⟩ = some (.int .i64 f2) := by rw [HB.out.cell (by exact hab2)]; exact hc2
        have r2 : wr.cell? ⟨b2, o2 + k * 2 + 1, none⟩ = some u2 := by rw [HB.out.cell (by exact hab2)]; exact hd2
        have M1 := Lib.hid ((show MonoArg w (.agg #[.int .i64 f1, u1]) (f1, p1) from ⟨_, rfl, hf1, hu1⟩).below HB.out)
        have M2 := Lib.hid ((show MonoArg w (.agg #[.int .i64 f2, u2]) (f2, p2) from ⟨_, rfl, hf2, hu2⟩).below HB.out)
        have HX := Lib.hid hx
        have HY := Lib.hid hy
        have hki : (k : Int) < (xs.length : Int) := by omega
        have hki2 : (k : Int) < (ys.length : Int) := by omega
        have hkn2 : k < ys.length := by omega
        clear hx hy hf1 hf2 hu1 hu2 hc1 hc2 hd1 hd2
        by_cases he : ((f1, p1) : Mono) = (f2, p2)
        · have hd : decide (((f1, p1) : Mono) = (f2, p2)) = true := decide_eq_true he
          have HE := Lib.hid he
          clear he
          go_wp2_with fail
          go_region_law (go_simp; go_at_call 169; refine (l_eqMonomial _ _ _ (f1, p1) (f2, p2) (by exact M1.out.below (Below.refl _ _).drew) (by exact M2.out.below (Below.refl _ _).drew)).mono ?_; rintro e w5 ⟨rfl, hb5⟩; rw [hd])
          all_goals
            have HB5 := Lib.hid (HB.out.trans ((below_of_drew hb5).mono HB.out.size))
            clear hb5 q1 q2 r1 r2
            go_wp2_with fail
            go_roundw
            case rel => exact ⟨k + 1, by omega, by go_num, mtake_succ HT.out HX.out HY.out HE.out, HB5.out⟩
            case measure => simp [intOf]; omega
        · have hd : decide (((f1, p1) : Mono) = (f2, p2)) = false := decide_eq_false he
          have HE := Lib.hid he
          clear he
          go_wp2_with fail
          go_region_law (go_simp; go_at_call 169; refine (l_eqMonomial _ _ _ (f1, p1) (f2, p2) (by exact M1.out.below (Below.refl _ _).drew) (by exact M2.out.below (Below.refl _ _).drew)).mono ?_; rintro e w5 ⟨rfl, hb5⟩; rw [hd])
          all_goals
            have HB5 := Lib.hid (HB.out.trans ((below_of_drew hb5).mono HB.out.size))
            clear hb5 q1 q2 r1 r2
            go_wp2_with fail
            go_ret
            refine ⟨ret_bool ?_, HB5.out⟩
            symm
            simp only [decide_eq_false_iff_not]
            rintro rfl
            have := HX.out.symm.trans HY.out
            simp only [Option.some.injEq] at this
            exact HE.out this
      · have : k = xs.length := by omega
        subst this
        go_wp2_with fail
        go_ret
        refine ⟨ret_bool ?_, HB.out⟩
        have e := HT.out
        rw [List.take_length, List.take_of_length_le (by omega)] at e
        simp [e]
  · have hl' : (((xs.length : Nat) : Int) != ((ys.length : Nat) : Int)) = true := by simp; omega
    have HL := Lib.hid hl
    clear hl
    go_enter Try.func116, Try.ntmps116
    go_wp2
    go_ret
    refine ⟨ret_bool ?_, Below.refl _ _⟩
    have := HL.out
    symm
    simp only [decide_eq_false_iff_not]
    rintro rfl
    exact this rfl
end Go.Proofs.Ytgnmnpjbmdifbaa
