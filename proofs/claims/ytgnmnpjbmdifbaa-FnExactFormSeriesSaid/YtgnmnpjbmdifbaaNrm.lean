/- The laws' helpers, in one form each: for the walks that lawgen3.py prints. -/
import Derived.Test.YtgnmnpjbmdifbaaMark
import Derived.Test.YtgnmnpjbmdifbaaLR
set_option maxRecDepth 100000
set_option linter.unusedVariables false
set_option linter.unusedSimpArgs false
namespace Go.Proofs.Ytgnmnpjbmdifbaa
open Go.RowKit

theorem n_to_ints (w : World) (v : Value) (zs : List Int) (ha : Ints w v zs) (hn : zs.length ≤ 4294967296) :
    Calls Try.prog 39 #[v] w fun e w' => ∃ u, e = .returned u ∧ OI w' w.heap.size w'.heap.size tI u zs ∧ Below w.heap.size w w' :=
  (l_toInt64S w v zs ha hn).mono (by rintro e w' ⟨u, rfl, h, hb⟩; exact ⟨u, rfl, OI.of h, hb⟩)
theorem n_to_rows (w : World) (v : Value) (xss : List (List Int)) (ha : Rows w v xss) (hn : Short xss) :
    Calls Try.prog 25 #[v] w fun e w' => ∃ u, e = .returned u ∧ OR w' w.heap.size w'.heap.size tL tI u xss ∧ Below w.heap.size w w' := l_toInt64SS w v xss ha hn
theorem n_eq_ints (w : World) (v v' : Value) (zs : List Int) (ha : Ints w v zs) (hb : Ints w v' zs) :
    Calls Try.prog 33 #[v, v'] w fun e w' => e = .returned (.bool true) ∧ Below w.heap.size w w' :=
  (l_eqInt64S w v v' zs zs ha hb).mono (by rintro e w' ⟨rfl, n, rfl⟩; exact ⟨by simp, below_drewN (Below.refl _ _) n⟩)
theorem n_eq_rows (w : World) (v v' : Value) (xss : List (List Int)) (ha : Rows w v xss) (hb : Rows w v' xss) :
    Calls Try.prog 27 #[v, v'] w fun e w' => e = .returned (.bool true) ∧ Below w.heap.size w w' :=
  (l_eqInt64SS w v v' xss xss ha hb).mono (by rintro e w' ⟨rfl, n, rfl⟩; exact ⟨by simp, below_drewN (Below.refl _ _) n⟩)
theorem n_mark_ints (w : World) (B C : Nat) (v : Value) (zs : List Int) (k : Int) (ho : OI w B C tI v zs) (hn : zs.length ≤ 1073741824) (h0 : 0 ≤ k) (h1 : k ≤ 1073741824) :
    Calls Try.prog 34 #[v, .int .i64 k] w fun e w' => e = .returned (.int .i64 (k + (zs.length : Int))) ∧ OI w' B C tI v (marks k zs.length) ∧ Chg B C w w' :=
  (l_markInt64S w B v zs k ho.1 (by omega) h0 (by omega)).mono (by rintro e w' ⟨rfl, h, hg, -⟩; exact ⟨rfl, ⟨h, ho.2⟩, Chg.of_grown hg fun b hb => ⟨ho.1.1.ge b hb, ho.2 b hb⟩⟩)
theorem n_mark_rows (w : World) (B C : Nat) (v : Value) (xss : List (List Int)) (k : Int) (ho : OR w B C tL tI v xss) (hn : tot xss ≤ 1073741824) (h0 : 0 ≤ k) (h1 : k ≤ 1073741824) :
    Calls Try.prog 29 #[v, .int .i64 k] w fun e w' => e = .returned (.int .i64 (k + (tot xss : Nat))) ∧ OR w' B C tL tI v (markRows k xss) ∧ Chg B C w w' := by
  obtain ⟨vs, h1', h2, h3⟩ := ho
  exact (l_markInt64SS w B C v vs xss k h1' h3 (by omega) h0 (by omega)).mono (by rintro e w' ⟨rfl, g1, g2, g3, -⟩; exact ⟨rfl, ⟨vs, g1, h2, g2⟩, g3⟩)
theorem n_held_ints (w : World) (v : Value) (n : Nat) (ho : Ints w v (marks 1 n)) (hn : n ≤ 1073741824) :
    Calls Try.prog 35 #[v, .int .i64 1] w fun e w' => e = .returned (.int .i64 (1 + (n : Int))) ∧ Below w.heap.size w w' :=
  (l_heldInt64S w v n 1 ho (by omega) (by omega) (by omega)).mono (by rintro e w' ⟨rfl, rfl⟩; exact ⟨rfl, Below.refl _ _⟩)
theorem n_held_rows (w : World) (v : Value) (xss : List (List Int)) (ho : Rows w v (markRows 1 xss)) (hn : tot xss ≤ 1073741824) :
    Calls Try.prog 30 #[v, .int .i64 1] w fun e w' => e = .returned (.int .i64 (1 + (tot xss : Nat))) ∧ Below w.heap.size w w' :=
  (l_heldInt64SS w v xss 1 ho (by omega) (by omega) (by omega)).mono (by rintro e w' ⟨rfl, rfl⟩; exact ⟨rfl, Below.refl _ _⟩)
theorem szRows_tot {left : Int} {xss : List (List Int)} (h : 0 ≤ szRows left xss) : ((tot xss : Nat) : Int) + szRows left xss ≤ left := by
  unfold szRows at h ⊢
  by_cases h1 : left - xss.length < 0
  · rw [if_pos h1] at h; omega
  · rw [if_neg h1] at h ⊢
    have := szR_tot h
    omega
end Go.Proofs.Ytgnmnpjbmdifbaa
