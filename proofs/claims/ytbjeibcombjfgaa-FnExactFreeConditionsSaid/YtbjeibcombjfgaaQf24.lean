/- Walk: FreeConditions of the reference. -/
import Derived.Test.YtbjeibcombjfgaaQf20
set_option maxRecDepth 100000
set_option linter.unusedVariables false
set_option linter.unusedSimpArgs false
namespace Go.Proofs.Ytbjeibcombjfgaa
open Go.RowKit

theorem s_FreeConditions (w : World) (n : Int) (hn : In64 n) :
    Calls Try.prog 44 #[.int .i64 n] w fun e w' => ∃ x, e = .returned (.tuple #[x, .int .i64 (fcC n)]) ∧ OR w' w.heap.size w'.heap.size tL tI x (fcR n) ∧ Below w.heap.size w w' := by
  cases h : inR n 1 8 with
  | false =>
    have HC := Lib.hid (show fcC n = 2 by simp [fcC, h])
    have HR := Lib.hid (show fcR n = [] by simp [fcR, h])
    rw [HC.out, HR.out]
    go_enter Try.func44, Try.ntmps44
    go_wp2_with (go_at_call 68; refine (s_l01In _ _ _ _).mono ?_; rintro e w' ⟨rfl, rfl⟩; rw [h])
    go_ret2
    exact ⟨_, rfl, (LA.nil _ _).or, Below.refl _ _⟩
  | true =>
    have HC := Lib.hid (show fcC n = 0 by simp [fcC, h])
    have HR := Lib.hid (show fcR n = (cndN n.toNat).map up by simp [fcR, h])
    rw [HC.out, HR.out]
    have h2 := inR_iff.1 h
    obtain ⟨k, rfl⟩ : ∃ k : Nat, n = (k : Int) := ⟨n.toNat, by omega⟩
    rw [Int.toNat_natCast]
    have h1 : 1 ≤ k := by omega
    have h8 : k ≤ 8 := by omega
    clear h2 HC HR
    go_enter Try.func44, Try.ntmps44
    go_wp2_with (first
      | (go_at_call 68; refine (s_l01In _ _ _ _).mono ?_; rintro e w' ⟨rfl, rfl⟩; rw [h])
      | (go_at_call 99; refine (s_l12Free _ k h1 h8).mono ?_; rintro e w1 ⟨x1, rfl, hl1, hb1⟩; have HL1 := Lib.hid hl1; have HB1 := Lib.hid hb1; clear hl1 hb1))
    go_ret2
    exact ⟨_, rfl, HL1.out.or, HB1.out⟩
end Go.Proofs.Ytbjeibcombjfgaa

