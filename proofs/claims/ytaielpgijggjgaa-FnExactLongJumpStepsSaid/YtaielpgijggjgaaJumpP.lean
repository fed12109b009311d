/- Roots modulo 10007 that jumps need, by the kernel's arithmetic. No program in sight. -/
import Derived.Test.YtaielpgijggjgaaNum
set_option linter.unusedVariables false
namespace Go.Proofs.Ytaielpgijggjgaa

/-- the exponent that undoes the third or fifth power -/
def rootE (k : Int) : Nat := if k = 3 then 6671 else 8005

/-- no number below R has the power, R has it -/
def rootTest (a : Nat) (k R : Nat) : Bool := (List.range R).all (fun b => decide (b ^ k % 10007 ≠ a)) && decide (R ^ k % 10007 = a) && decide (R < 10007)
theorem pw_nat (a k : Nat) : pw (a : Int) k = ((a ^ k % 10007 : Nat) : Int) := by
  unfold pw
  rw [Int.natCast_emod, Int.natCast_pow]
  rfl

theorem rootTest_spec {a k R : Nat} (h : rootTest a k R = true) : (∀ b : Nat, b < R → pw (b : Int) k ≠ (a : Int)) ∧ pw (R : Int) k = (a : Int) ∧ R < 10007 := by
  simp only [rootTest, Bool.and_eq_true, List.all_eq_true, List.mem_range, decide_eq_true_eq] at h
  refine ⟨fun b hb => ?_, ?_, h.2⟩
  · have := h.1.1 b hb
    rw [pw_nat]
    omega
  · have := h.1.2
    rw [pw_nat]
    omega

/-- powers by squaring, on natural numbers -/
def powm : Nat → Nat → Nat → Nat
  | 0, _, _ => 1
  | f + 1, a, k => if k = 0 then 1 else if k % 2 = 1 then a * powm f (a * a % 10007) (k / 2) % 10007 else powm f (a * a % 10007) (k / 2)
theorem mod_pow (x n : Nat) : (x % 10007) ^ n % 10007 = x ^ n % 10007 := by rw [Nat.pow_mod, Nat.mod_mod, ← Nat.pow_mod]
theorem powm_eq : ∀ (f a k : Nat), k < 2 ^ f → powm f a k % 10007 = a ^ k % 10007
  | 0, a, k, h => by
    have : k = 0 := by simpa using h
    subst this; rfl
  | f + 1, a, k, h => by
    unfold powm
    by_cases h0 : k = 0
    · subst h0; rfl
    · rw [if_neg h0]
      have hk : k / 2 < 2 ^ f := by rw [Nat.pow_succ] at h; omega
      have ih := powm_eq f (a * a % 10007) (k / 2) hk
      rw [mod_pow] at ih
      have e2 : (a * a) ^ (k / 2) = a ^ (2 * (k / 2)) := by rw [Nat.pow_mul, Nat.pow_two]
      rw [e2] at ih
      by_cases h1 : k % 2 = 1
      · rw [if_pos h1, Nat.mod_mod, Nat.mul_mod, ih, ← Nat.mul_mod]
        congr 1
        rw [Nat.mul_comm, ← Nat.pow_succ]
        congr 1
        omega
      · rw [if_neg h1, ih]
        congr 2
        omega
theorem pw_powm {a k : Nat} {r : Nat} (h : powm 14 a k = r) (hk : k < 16384) (hr : r < 10007) : pw (a : Int) k = (r : Int) := by
  rw [pw_nat, ← powm_eq 14 a k hk, h, Nat.mod_eq_of_lt hr]

def r23 : Nat := powm 14 2 6671
def r25 : Nat := powm 14 2 8005
def r43 : Nat := powm 14 4 6671
def r45 : Nat := powm 14 4 8005
theorem t23 : rootTest 2 3 r23 = true := by decide +kernel
theorem t25 : rootTest 2 5 r25 = true := by decide +kernel
theorem t43 : rootTest 4 3 r43 = true := by decide +kernel
theorem t45 : rootTest 4 5 r45 = true := by decide +kernel

/-- the root of many, for a jump of a order -/
def rootR (many p : Int) : Nat := if many = 2 then (if p = 2 then r23 else r25) else (if p = 2 then r43 else r45)
theorem rootR_spec {many p : Int} (hm : many = 2 ∨ many = 4) (hp : p = 2 ∨ p = 4) :
    (∀ b : Nat, b < rootR many p → pw (b : Int) (p + 1).toNat ≠ many) ∧ pw (rootR many p : Int) (p + 1).toNat = many ∧ rootR many p < 10007 ∧ pw many (rootE (p + 1)) = (rootR many p : Int) := by
  rcases hm with rfl | rfl <;> rcases hp with rfl | rfl
  · have := rootTest_spec t23
    exact ⟨this.1, this.2.1, this.2.2, pw_powm (a := 2) (k := 6671) rfl (by omega) this.2.2⟩
  · have := rootTest_spec t25
    exact ⟨this.1, this.2.1, this.2.2, pw_powm (a := 2) (k := 8005) rfl (by omega) this.2.2⟩
  · have := rootTest_spec t43
    exact ⟨this.1, this.2.1, this.2.2, pw_powm (a := 4) (k := 6671) rfl (by omega) this.2.2⟩
  · have := rootTest_spec t45
    exact ⟨this.1, this.2.1, this.2.2, pw_powm (a := 4) (k := 8005) rfl (by omega) this.2.2⟩

/-- the size of the outer steps -/
def jumpG (p : Int) (side : Nat) : Int := pw ((2 * (side : Int) - (rootR (2 * side) p : Int)) % 10007) 10005
def jumpL (p : Int) (side : Nat) : List Int := List.replicate side (jumpG p side) ++ (1 - 2 * (side : Int) * jumpG p side) % 10007 :: List.replicate side (jumpG p side)
def jumpOk (p : Int) : Bool := decide (p = 2) || decide (p = 4)
def jumpF (p : Int) (side : Nat) : List Int := if jumpOk p then jumpL p side else []
def jumpC (p : Int) : Int := if jumpOk p then 0 else 2
theorem jumpF_len (p : Int) (side : Nat) (h : side ≤ 8) : (jumpF p side).length ≤ 4294967296 := by
  unfold jumpF jumpL
  split <;> simp
  omega
end Go.Proofs.Ytaielpgijggjgaa
