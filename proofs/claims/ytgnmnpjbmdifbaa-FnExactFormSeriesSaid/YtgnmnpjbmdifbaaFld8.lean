/- The laws' helper: equality of monomials. -/
import Derived.Test.YtgnmnpjbmdifbaaMono
import Derived.Test.YtgnmnpjbmdifbaaL
set_option maxRecDepth 100000
set_option linter.unusedVariables false
set_option linter.unusedSimpArgs false
namespace Go.Proofs.Ytgnmnpjbmdifbaa
open Go.RowKit

set_option maxHeartbeats 1000000 in
theorem l_eqMonomial (w : World) (v v' : Value) (m m' : Mono) (ha : MonoArg w v m) (hb : MonoArg w v' m') :
    Calls Try.prog 169 #[v, v'] w fun e w' => e = .returned (.bool (decide (m = m'))) ∧ Below w.heap.size w w' := by
  obtain ⟨f, ps⟩ := m
  obtain ⟨f', ps'⟩ := m'
  obtain ⟨u, rfl, hf, hu⟩ := ha
  obtain ⟨u', rfl, hf', hu'⟩ := hb
  simp only at hf hu hf' hu' ⊢
  have BB := Lib.hid (below2 w (.cells #[.int .i64 f, u] 80) (.cells #[.int .i64 f', u'] 80))
  have HU := Lib.hid (hu.below BB.out)
  have HU' := Lib.hid (hu'.below BB.out)
  obtain ⟨A, c, rfl, -, -, -⟩ := hu.open_
  obtain ⟨A', c', rfl, -, -, -⟩ := hu'.open_
  clear hu hu'
  go_enter Try.func169, Try.ntmps169
  by_cases h : f = f'
  · have hb1 : (f != f') = false := by simp [h]
    have H := Lib.hid h
    clear h
    by_cases hp : ps = ps'
    · have HP := Lib.hid hp
      have hd : decide (ps = ps') = true := by simp [hp]
      clear hp
      go_wp2_with (go_at_call 33; refine (l_eqInt64S _ _ _ _ _ HU.out HU'.out).mono ?_; rintro e w1 ⟨rfl, n1, rfl⟩; rw [hd])
      go_ret
      exact ⟨ret_bool (by simp [H.out, HP.out]), below_drewN BB.out _⟩
    · have HP := Lib.hid hp
      have hd : decide (ps = ps') = false := by simp [hp]
      clear hp
      go_wp2_with (go_at_call 33; refine (l_eqInt64S _ _ _ _ _ HU.out HU'.out).mono ?_; rintro e w1 ⟨rfl, n1, rfl⟩; rw [hd])
      go_ret
      exact ⟨ret_bool (by simp [HP.out]), below_drewN BB.out _⟩
  · have hb1 : (f != f') = true := by simp [h]
    have H := Lib.hid h
    clear h
    go_wp2_with fail
    go_ret
    exact ⟨ret_bool (by simp [H.out]), BB.out⟩
end Go.Proofs.Ytgnmnpjbmdifbaa
