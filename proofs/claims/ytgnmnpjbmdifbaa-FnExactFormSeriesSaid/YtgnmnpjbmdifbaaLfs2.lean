/- The law FnExactFormSeries. -/
import Derived.Test.YtgnmnpjbmdifbaaLfs
import Derived.Test.YtgnmnpjbmdifbaaFrm6
set_option maxRecDepth 100000
set_option linter.unusedVariables false
set_option linter.unusedSimpArgs false
namespace Go.Proofs.Ytgnmnpjbmdifbaa
open Go.RowKit

theorem fsR_len (n : Int) (pss : List (List Mono)) (q xss : List (List Int)) : (fsR n pss q xss).length ≤ 1048576 := by
  unfold fsR
  by_cases h : chkFS n pss q xss = 0
  · rw [if_pos h, fsAll_len]; decide
  · rw [if_neg h]; simp

theorem law_FormSeries (w : World) (v : Value) (d : Int × List (List Mono)) (hf : FieldArg w v d.1 d.2) (u1 : Value) (q : List (List Int)) (hq : Rows w u1 q) (u2 : Value) (xss : List (List Int)) (ha : Rows w u2 xss) :
    Calls Try.prog 7 #[v, u1, u2] w fun e w' => e = .returned (.bool true) ∧ Below w.heap.size w w' :=
  law_FnExactFormSeries_gen w v d.1 d.2 hf u1 q hq u2 xss ha (fsR d.1 d.2 q xss) (chkFS d.1 d.2 q xss) (fun _ _ _ => fsR_len _ _ _ _)
    (fun hs _ _ W v0 v1 v2 h0 h1 h2 => s_FormSeries W v0 d.1 d.2 v1 q v2 xss h0 hs h1 h2)
    (fun hs _ _ W v0 v1 v2 h0 h1 h2 => i_FormSeries W v0 d.1 d.2 v1 q v2 xss h0 hs h1 h2)
end Go.Proofs.Ytgnmnpjbmdifbaa
