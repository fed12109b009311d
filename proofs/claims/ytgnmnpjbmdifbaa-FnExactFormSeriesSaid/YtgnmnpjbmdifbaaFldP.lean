/- Fields, plain: what makes a field. No program in sight. -/
import Derived.Test.YtgnmnpjbmdifbaaMono
set_option maxRecDepth 100000
set_option linter.unusedVariables false
set_option linter.unusedSimpArgs false
namespace Go.Proofs.Ytgnmnpjbmdifbaa
open Go.RowKit

/-- is the k-th monomial no monomial, or not behind the one ahead of it? -/
def badAt (n : Int) (ms : List Mono) (k : Nat) : Bool := !monoB n (ms.getD k (0, [])) || (decide (0 < k) && !lessL (ms.getD (k - 1) (0, [])).2 (ms.getD k (0, [])).2)
def partB (n : Int) (ms : List Mono) : Bool := (List.range ms.length).all fun k => !badAt n ms k
def fieldB (n : Int) (pss : List (List Mono)) : Bool := inR n 1 3 && (decide ((pss.length : Int) = n) && pss.all (partB n))
theorem partB_no {n : Int} {ms : List Mono} {k : Nat} (hk : k < ms.length) (h : badAt n ms k = true) : partB n ms = false := by
  unfold partB
  rw [List.all_eq_false]
  exact ⟨k, List.mem_range.2 hk, by rw [h]; simp⟩
theorem partB_all {n : Int} {ms : List Mono} (h : ∀ k, k < ms.length → badAt n ms k = false) : partB n ms = true := by
  unfold partB
  rw [List.all_eq_true]
  intro k hk
  rw [h k (List.mem_range.1 hk)]
  rfl
theorem parts_no {n : Int} {pss : List (List Mono)} {j : Nat} {ms : List Mono} (hm : pss[j]? = some ms) (h : partB n ms = false) : pss.all (partB n) = false := by
  rw [List.all_eq_false]
  exact ⟨ms, List.mem_of_getElem? hm, by rw [h]; simp⟩
theorem parts_all {n : Int} {pss : List (List Mono)} (h : ∀ i ms, i < pss.length → pss[i]? = some ms → partB n ms = true) : pss.all (partB n) = true := by
  rw [List.all_eq_true]
  intro ms hm
  obtain ⟨i, hi, rfl⟩ := List.getElem_of_mem hm
  exact h i _ hi (List.getElem?_eq_getElem hi)

end Go.Proofs.Ytgnmnpjbmdifbaa
