/- The law FnExactScaleVectors. -/
import Derived.Test.YtgnmnpjbmdifbaaLsv
import Derived.Test.YtgnmnpjbmdifbaaVec2
set_option maxRecDepth 100000
set_option linter.unusedVariables false
set_option linter.unusedSimpArgs false
namespace Go.Proofs.Ytgnmnpjbmdifbaa
open Go.RowKit

theorem tot_le {xss : List (List Int)} {m : Nat} (h : ∀ zs ∈ xss, zs.length ≤ m) : tot xss ≤ xss.length * m := by
  induction xss with
  | nil => simp [tot]
  | cons zs r ih =>
    have h1 := h zs (by simp)
    have h2 := ih (fun zs hz => h zs (by simp [hz]))
    rw [tot_cons, List.length_cons, Nat.add_mul]
    omega
theorem svR_tot (n : Int) (pss : List (List Mono)) (xss : List (List Int)) (k : Int) : tot (svR n pss xss k) ≤ 1048576 := by
  unfold svR
  by_cases h : chkSN n pss xss k = 0
  · rw [if_pos h]
    have hO := serOk h
    have h1 : ∀ zs ∈ sclTo k xss xss.length, zs.length ≤ 3 := by
      intro zs hz
      obtain ⟨i, hi, rfl⟩ := List.mem_map.1 hz
      rw [scl_len]
      have hi' := List.mem_range.1 hi
      have hx : xss.getD i [] ∈ xss := by
        simp only [List.getD, List.getElem?_eq_getElem hi', Option.getD_some]
        exact List.getElem_mem _
      have := (hO.row _ hx).1
      have := hO.n3
      omega
    have := tot_le h1
    have h2 := sclTo_len k xss xss.length
    rw [h2] at this
    have h3 := hO.len
    have h4 : xss.length * 3 = 21 := by rw [h3]
    omega
  · rw [if_neg h]; simp [tot]

theorem law_ScaleVectors (w : World) (v : Value) (d : Int × List (List Mono)) (hf : FieldArg w v d.1 d.2) (u : Value) (xss : List (List Int)) (ha : Rows w u xss) (k : Int) (hk : In64 k) :
    Calls Try.prog 5 #[v, u, .int .i64 k] w fun e w' => e = .returned (.bool true) ∧ Below w.heap.size w w' :=
  law_FnExactScaleVectors_gen w v d.1 d.2 hf u xss ha k hk (svR d.1 d.2 xss k) (chkSN d.1 d.2 xss k) (fun _ _ => svR_tot _ _ _ _)
    (fun hs _ W v0 v1 h0 h1 => s_ScaleVectors W v0 d.1 d.2 v1 xss k h0 hs h1)
    (fun hs _ W v0 v1 h0 h1 => i_ScaleVectors W v0 d.1 d.2 v1 xss k h0 hs h1)
end Go.Proofs.Ytgnmnpjbmdifbaa
