/- Walk: IsField of the reference. -/
import Derived.Test.YtgnmnpjbmdifbaaFld6
set_option maxRecDepth 100000
set_option linter.unusedVariables false
set_option linter.unusedSimpArgs false
namespace Go.Proofs.Ytgnmnpjbmdifbaa
open Go.RowKit

theorem FieldArg.below {w w' : World} {v : Value} {n : Int} {pss : List (List Mono)} (h : FieldArg w v n pss) (hb : Below w.heap.size w w') : FieldArg w' v n pss := by
  obtain ⟨vp, rfl, h1, h2⟩ := h
  exact ⟨vp, rfl, h1, h2.below hb⟩

set_option maxHeartbeats 1000000 in
theorem s_IsField (w : World) (v : Value) (n : Int) (pss : List (List Mono)) (ha : FieldArg w v n pss) (hs : ∀ ms ∈ pss, ∀ m ∈ ms, m.2.length ≤ 4294967296) :
    Calls Try.prog 19 #[v] w fun e w' => e = .returned (.bool (fieldB n pss)) ∧ Below w.heap.size w w' := by
  have HA := Lib.hid ha
  obtain ⟨vp, rfl, h1, h2⟩ := ha
  have HS := Lib.hid hs
  clear hs h1 h2
  have B0 := Lib.hid (below1 w (.cells #[.int .i64 n, vp] 40))
  go_enter Try.func19, Try.ntmps19
  go_wp2_with (go_at_call 59; refine (s_l13Is _ _ n pss (HA.out.below B0.out) HS.out).mono ?_; rintro e w5 ⟨rfl, hb5⟩)
  go_ret
  exact ⟨rfl, B0.out.trans (hb5.mono B0.out.size)⟩
end Go.Proofs.Ytgnmnpjbmdifbaa
