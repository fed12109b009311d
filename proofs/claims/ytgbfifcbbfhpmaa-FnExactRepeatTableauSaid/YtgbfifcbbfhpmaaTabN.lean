/- A tableau is a tableau of numbers; the empty tableau. No program in sight. -/
import Derived.Test.YtgbfifcbbfhpmaaScale
import Derived.Test.YtgbfifcbbfhpmaaTab
import Derived.Test.YtgbfifcbbfhpmaaMark
import Derived.Test.YtgbfifcbbfhpmaaSym
set_option linter.unusedVariables false
set_option linter.unusedSimpArgs false
namespace Go.Proofs.Ytgbfifcbbfhpmaa
open Go.RowKit

theorem tot_le {n : Nat} : ∀ {xss : List (List Int)}, (∀ zs ∈ xss, zs.length ≤ n) → tot xss ≤ xss.length * n
  | [], _ => by simp [tot]
  | zs :: r, h => by
    rw [tot_cons, List.length_cons, Nat.succ_mul]
    have h1 := h zs List.mem_cons_self
    have h2 := tot_le (xss := r) fun ys hy => h ys (List.mem_cons_of_mem _ hy)
    omega
theorem IsTab.numTab {A : List (List Int)} {Bs : List Int} (h : IsTab A Bs) : NumTab A Bs :=
  ⟨by have := h.len; have := h.hi; omega, by have := h.hi; omega, fun zs hz => ⟨nums_iff.1 (h.row zs hz).2, by have := (h.row zs hz).1; have := h.hi; omega⟩, nums_iff.1 h.num⟩
theorem OT.nil (w : World) (B C : Nat) : OT w B C (.agg #[.slice none 0 0, .slice none 0 0]) [] [] :=
  ⟨_, _, [], rfl, Own.nil _ _ _, fun b hb => by simp [Value.ownBlock] at hb, RowsOwn.nil _ _ _ _, OI.nil _ _ _ _, fun k u hu => by simp at hu⟩

theorem isNum_mod {k : Int} (h : isNum k = true) : k % 10007 = k ∧ 0 ≤ k ∧ k ≤ 10006 := by
  have := inR_iff.1 h
  omega

end Go.Proofs.Ytgbfifcbbfhpmaa
