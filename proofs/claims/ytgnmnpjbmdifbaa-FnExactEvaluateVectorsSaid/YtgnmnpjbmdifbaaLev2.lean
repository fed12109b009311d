/- The law FnExactEvaluateVectors. -/
import Derived.Test.YtgnmnpjbmdifbaaLev
import Derived.Test.YtgnmnpjbmdifbaaVec3
set_option maxRecDepth 100000
set_option linter.unusedVariables false
set_option linter.unusedSimpArgs false
namespace Go.Proofs.Ytgnmnpjbmdifbaa
open Go.RowKit

theorem evR_len (n : Int) (pss : List (List Mono)) (xss : List (List Int)) (k : Int) : (evR n pss xss k).length ≤ 1048576 := by
  unfold evR
  by_cases h : chkSN n pss xss k = 0
  · rw [if_pos h, evTo_len]
    have := (serOk h).n3
    omega
  · rw [if_neg h]; simp

theorem law_EvaluateVectors (w : World) (v : Value) (d : Int × List (List Mono)) (hf : FieldArg w v d.1 d.2) (u : Value) (xss : List (List Int)) (ha : Rows w u xss) (k : Int) (hk : In64 k) :
    Calls Try.prog 6 #[v, u, .int .i64 k] w fun e w' => e = .returned (.bool true) ∧ Below w.heap.size w w' :=
  law_FnExactEvaluateVectors_gen w v d.1 d.2 hf u xss ha k hk (evR d.1 d.2 xss k) (chkSN d.1 d.2 xss k) (fun _ _ => evR_len _ _ _ _)
    (fun hs _ W v0 v1 h0 h1 => s_EvaluateVectors W v0 d.1 d.2 v1 xss k h0 hs h1)
    (fun hs _ W v0 v1 h0 h1 => i_EvaluateVectors W v0 d.1 d.2 v1 xss k h0 hs h1)
end Go.Proofs.Ytgnmnpjbmdifbaa
