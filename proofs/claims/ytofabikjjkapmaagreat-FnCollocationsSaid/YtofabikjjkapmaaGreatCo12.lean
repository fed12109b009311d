/- Plain: collocation tableaus: columns, quadrature order, order, mirrored nodes; kernel checks. No walk. | The polynomials of collocation, plain. No program in sight. | Plain: the collocation tableau of different nodes (lists of ColP) meets the conditions; the node polynomial. No walk. -/
import Derived.Test.YtofabikjjkapmaaGreatCo11
import Derived.Test.YtofabikjjkapmaaGreatCo10
set_option maxRecDepth 100000
set_option linter.unusedVariables false
set_option linter.unusedSimpArgs false
namespace Go.Proofs.YtofabikjjkapmaaGreat
open Go.RowKit

theorem pow_modI {x y : Int} (h : x % 10007 = y % 10007) (n : Nat) : x ^ n % 10007 = y ^ n % 10007 := by
  induction n with
  | zero => rw [Int.pow_zero, Int.pow_zero]
  | succ n ih => rw [Int.pow_succ, Int.pow_succ]; exact mulm ih h
def okRh (k l : Nat) : Bool := Nat.beq ((rhN (k + l + 1) * rhN l + rhN k * rhN (k + l + 1)) % 10007) (rhN k * rhN l % 10007)
theorem td1 : (List.range 16).all (fun k => (List.range 16).all (okRh k)) = true := by decide +kernel
theorem rh_id {k l : Nat} (hk : k < 16) (hl : l < 16) : (rh (k + l + 1) * rh l - (rh k * rh l - rh k * rh (k + l + 1))) % 10007 = 0 := by
  have h1 := td1
  rw [List.all_eq_true] at h1
  have h2 := h1 k (List.mem_range.2 hk)
  rw [List.all_eq_true] at h2
  have h3 := Nat.eq_of_beq_eq_true (h2 l (List.mem_range.2 hl))
  rw [rh_N, rh_N, rh_N, ← Int.natCast_mul, ← Int.natCast_mul, ← Int.natCast_mul]
  generalize rhN (k + l + 1) * rhN l = x at h3 ⊢
  generalize rhN k * rhN (k + l + 1) = y at h3 ⊢
  generalize rhN k * rhN l = z at h3 ⊢
  omega
/-- good quadrature gives column conditions -/
theorem Coll.D {s m : Nat} {A : Nat → Nat → Int} {b c : Nat → Int} {L : Nat → Nat → Int} (h : Coll s A b c L) (hs : s ≤ 8) (hm : m ≤ 8) (hB : ∀ k, k < s + m → sR s (fun j => b j * c j ^ k) % 10007 = rh k % 10007) {k j : Nat} (hk : k < m) (hj : j < s) :
    sR s (fun i => b i * c i ^ k * A i j) % 10007 = b j * (1 - c j ^ (k + 1)) * rh k % 10007 := by
  have key := h.lag.dual (d := fun j => sR s (fun i => b i * c i ^ k * A i j) - b j * (1 - c j ^ (k + 1)) * rh k) (fun l hl => by
    have e1 : sR s (fun j => (sR s (fun i => b i * c i ^ k * A i j) - b j * (1 - c j ^ (k + 1)) * rh k) * c j ^ l) = sR s (fun i => b i * c i ^ k * sR s (fun j => A i j * c j ^ l)) - (rh k * sR s (fun j => b j * c j ^ l) - rh k * sR s (fun j => b j * c j ^ (k + l + 1))) := by
      have a1 : sR s (fun i => b i * c i ^ k * sR s (fun j => A i j * c j ^ l)) = sR s (fun j => sR s (fun i => b i * c i ^ k * (A i j * c j ^ l))) := by
        rw [← sR_swap2]
        exact sR_congr fun i _ => by rw [sR_mul]
      rw [a1, sR_mul, sR_mul, ← sR_sub, ← sR_sub]
      refine sR_congr fun j _ => ?_
      have a2 : sR s (fun i => b i * c i ^ k * (A i j * c j ^ l)) = sR s (fun i => b i * c i ^ k * A i j) * c j ^ l := by
        rw [Int.mul_comm (sR s _), sR_mul]
        refine sR_congr fun i _ => ?_
        simp only [Int.mul_assoc, Int.mul_left_comm, Int.mul_comm]
      rw [a2, Int.sub_mul, Int.mul_sub, Int.mul_one, Int.sub_mul, Int.sub_mul]
      have a3 : b j * rh k * c j ^ l = rh k * (b j * c j ^ l) := by simp only [Int.mul_assoc, Int.mul_left_comm, Int.mul_comm]
      have a4 : b j * c j ^ (k + 1) * rh k * c j ^ l = rh k * (b j * c j ^ (k + l + 1)) := by
        rw [show k + l + 1 = (k + 1) + l by omega, Int.pow_add (c j) (k + 1) l]
        simp only [Int.mul_assoc, Int.mul_left_comm, Int.mul_comm]
      rw [a3, a4]
    rw [e1]
    have e2 : sR s (fun i => b i * c i ^ k * sR s (fun j => A i j * c j ^ l)) % 10007 = rh (k + l + 1) * rh l % 10007 := by
      have a1 : sR s (fun i => b i * c i ^ k * sR s (fun j => A i j * c j ^ l)) % 10007 = sR s (fun i => rh l * (b i * c i ^ (k + l + 1))) % 10007 := sR_mod fun i hi => by
        rw [mulm (a := b i * c i ^ k) (c := b i * c i ^ k) rfl (h.C hl hi)]
        rw [show k + l + 1 = k + (l + 1) by omega, Int.pow_add (c i) k (l + 1)]
        refine congrArg (· % 10007) ?_
        simp only [Int.mul_assoc, Int.mul_left_comm, Int.mul_comm]
      rw [a1, ← sR_mul, Int.mul_comm (rh (k + l + 1))]
      exact mulm rfl (hB (k + l + 1) (by omega))
    have e3 : rh k * sR s (fun j => b j * c j ^ l) % 10007 = rh k * rh l % 10007 := mulm rfl (hB l (by omega))
    have e4 : rh k * sR s (fun j => b j * c j ^ (k + l + 1)) % 10007 = rh k * rh (k + l + 1) % 10007 := mulm rfl (hB (k + l + 1) (by omega))
    have e5 := rh_id (k := k) (l := l) (by omega) (by omega)
    generalize sR s (fun i => b i * c i ^ k * sR s (fun j => A i j * c j ^ l)) = x1 at e2 ⊢
    generalize rh k * sR s (fun j => b j * c j ^ l) = x2 at e3 ⊢
    generalize rh k * sR s (fun j => b j * c j ^ (k + l + 1)) = x3 at e4 ⊢
    generalize rh (k + l + 1) * rh l = y1 at e2 e5
    generalize rh k * rh l = y2 at e3 e5
    generalize rh k * rh (k + l + 1) = y3 at e4 e5
    omega) hj
  have key' : (sR s (fun i => b i * c i ^ k * A i j) - b j * (1 - c j ^ (k + 1)) * rh k) % 10007 = 0 := key
  generalize sR s (fun i => b i * c i ^ k * A i j) = x at key' ⊢
  generalize b j * (1 - c j ^ (k + 1)) * rh k = y at key' ⊢
  omega
/-- a collocation tableau with a good quadrature up to P meets all conditions -/
theorem Coll.bcd {s m P r : Nat} {A : Nat → Nat → Int} {b c : Nat → Int} {L : Nat → Nat → Int} (h : Coll s A b c L) (hs : s ≤ 8) (hm : m ≤ 8) (hB : ∀ k, k < s + m → sR s (fun j => b j * c j ^ k) % 10007 = rh k % 10007) (hP : P ≤ s + m) (hr : r ≤ m) : BCD s A b c P s r := by
  refine ⟨fun k hk => ?_, fun k hk i hi => ?_, fun k hk j hj => ?_⟩
  · rw [mulm (a := (k : Int) + 1) (c := (k : Int) + 1) rfl (hB k (by omega)), rh_is (by omega)]
  · rw [mulm (a := (k : Int) + 1) (c := (k : Int) + 1) rfl (h.C hk hi), rh_cancel (by omega)]
  · rw [mulm (a := (k : Int) + 1) (c := (k : Int) + 1) rfl (h.D hs hm hB (show k < m by omega) hj), rh_cancel (by omega)]
/-! ### the node polynomial -/
/-- M l, l < s, and 1 at s: 0 at the nodes -/
def NPol (s : Nat) (c M : Nat → Int) : Prop := ∀ j, j < s → (sR s (fun l => M l * c j ^ l) + c j ^ s) % 10007 = 0
/-- the integral of the node polynomial times a power -/
def mu (s : Nat) (M : Nat → Int) (t : Nat) : Int := sR s (fun l => M l * rh (l + t)) + rh (s + t)
theorem q_step {s t : Nat} {b c M : Nat → Int} (hM : NPol s c M) (h : ∀ k, k < s + t → sR s (fun j => b j * c j ^ k) % 10007 = rh k % 10007) : (sR s (fun j => b j * c j ^ (s + t)) - rh (s + t) + mu s M t) % 10007 = 0 := by
  have e1 : sR s (fun j => b j * c j ^ (s + t)) % 10007 = (- sR s (fun l => M l * sR s (fun j => b j * c j ^ (l + t)))) % 10007 := by
    have a1 : sR s (fun l => M l * sR s (fun j => b j * c j ^ (l + t))) = sR s (fun j => b j * c j ^ t * sR s (fun l => M l * c j ^ l)) := by
      have a2 : sR s (fun l => M l * sR s (fun j => b j * c j ^ (l + t))) = sR s (fun l => sR s (fun j => M l * (b j * c j ^ (l + t)))) := sR_congr fun l _ => by rw [sR_mul]
      rw [a2, sR_swap2]
      refine sR_congr fun j _ => ?_
      rw [sR_mul]
      refine sR_congr fun l _ => ?_
      rw [Int.pow_add]
      simp only [Int.mul_assoc, Int.mul_left_comm, Int.mul_comm]
    rw [a1, ← sR_neg]
    refine sR_mod fun j hj => ?_
    have := hM j hj
    rw [Int.pow_add, ← Int.mul_neg, show b j * (c j ^ s * c j ^ t) = b j * c j ^ t * c j ^ s by simp only [Int.mul_assoc, Int.mul_left_comm, Int.mul_comm]]
    refine mulm rfl ?_
    generalize c j ^ s = x at this ⊢
    generalize sR s (fun l => M l * c j ^ l) = y at this ⊢
    omega
  have e2 : sR s (fun l => M l * sR s (fun j => b j * c j ^ (l + t))) % 10007 = sR s (fun l => M l * rh (l + t)) % 10007 := sR_mod fun l hl => mulm rfl (h (l + t) (by omega))
  unfold mu
  generalize sR s (fun j => b j * c j ^ (s + t)) = x at e1 ⊢
  generalize sR s (fun l => M l * sR s (fun j => b j * c j ^ (l + t))) = y at e1 e2
  generalize sR s (fun l => M l * rh (l + t)) = z at e2 ⊢
  generalize rh (s + t) = u
  omega
/-- a node polynomial that is orthogonal to m powers gives a good quadrature up to s + m -/
theorem Coll.quad {s : Nat} {A : Nat → Nat → Int} {b c M : Nat → Int} {L : Nat → Nat → Int} (h : Coll s A b c L) (hM : NPol s c M) : ∀ m : Nat, (∀ t, t < m → mu s M t % 10007 = 0) → ∀ k, k < s + m → sR s (fun j => b j * c j ^ k) % 10007 = rh k % 10007
  | 0, _, k, hk => h.B hk
  | m + 1, hm, k, hk => by
    have ih := Coll.quad h hM m fun t ht => hm t (by omega)
    by_cases e : k < s + m
    · exact ih k e
    · have : k = s + m := by omega
      subst this
      have e1 := q_step hM ih
      have e2 := hm m (by omega)
      generalize sR s (fun j => b j * c j ^ (s + m)) = x at e1 ⊢
      generalize mu s M m = y at e1 e2
      generalize rh (s + m) = z at e1 ⊢
      omega
theorem Coll.quad_end {s m : Nat} {A : Nat → Nat → Int} {b c M : Nat → Int} {L : Nat → Nat → Int} (h : Coll s A b c L) (hM : NPol s c M) (hm : ∀ t, t < m → mu s M t % 10007 = 0) (hn : mu s M m % 10007 ≠ 0) : sR s (fun j => b j * c j ^ (s + m)) % 10007 ≠ rh (s + m) % 10007 := by
  intro e
  have e1 := q_step hM (Coll.quad h hM m hm)
  apply hn
  generalize sR s (fun j => b j * c j ^ (s + m)) = x at e e1
  generalize mu s M m = y at e1 ⊢
  generalize rh (s + m) = z at e e1
  omega
/-! ### the node polynomial is orthogonal to at most s powers -/
def HvT : List (List Nat) := [[1], [10001, 12], [30, 9827, 180], [9867, 1680, 5807, 2800], [630, 7414, 6665, 1863, 4072], [7235, 3104, 8293, 1235, 4865, 8061], [2005, 5853, 1512, 3959, 1333, 6032, 1325], [8562, 864, 8350, 4758, 1926, 6433, 4805, 5775]]
def hvS (s l : Nat) : Nat → Nat
  | 0 => 0
  | n + 1 => hvS s l n + (HvT.getD s []).getD n 0 * rhN (l + n)
def okHil (s : Nat) : Bool := (List.range (s + 1)).all fun l => Nat.beq (hvS s l (s + 1) % 10007) (bif Nat.beq l s then 1 else 0)
theorem td2 : (List.range 8).all okHil = true := by decide +kernel
theorem hvS_is (s l : Nat) : ∀ n, ((hvS s l n : Nat) : Int) = sR n (fun t => (((HvT.getD s []).getD t 0 : Nat) : Int) * rh (l + t))
  | 0 => rfl
  | n + 1 => by
    rw [sR_succ, ← hvS_is s l n, rh_N, ← Int.natCast_mul, ← Int.natCast_add]
    rfl
theorem hilb {s : Nat} (hs : s < 8) (M : Nat → Int) : ¬ ∀ t, t < s + 1 → mu s M t % 10007 = 0 := by
  intro h
  have h1 := td2
  rw [List.all_eq_true] at h1
  have h2 := h1 s (List.mem_range.2 hs)
  unfold okHil at h2
  rw [List.all_eq_true] at h2
  have hv : ∀ l, l < s + 1 → sR (s + 1) (fun t => (((HvT.getD s []).getD t 0 : Nat) : Int) * rh (l + t)) % 10007 = dl l s := fun l hl => by
    have h3 := Nat.eq_of_beq_eq_true (h2 l (List.mem_range.2 hl))
    rw [← hvS_is]
    unfold dl
    by_cases e : l = s
    · rw [if_pos e]
      rw [e, Nat.beq_refl, cond_true] at h3
      rw [e]; omega
    · rw [if_neg e]
      have : Nat.beq l s = false := by
        cases hb : Nat.beq l s with
        | true => exact absurd (Nat.eq_of_beq_eq_true hb) e
        | false => rfl
      rw [this, cond_false] at h3
      omega
  have e1 : sR (s + 1) (fun t => (((HvT.getD s []).getD t 0 : Nat) : Int) * mu s M t) % 10007 = 0 := by
    have : sR (s + 1) (fun t => (((HvT.getD s []).getD t 0 : Nat) : Int) * mu s M t) % 10007 = sR (s + 1) (fun _ => 0) % 10007 := sR_mod fun t ht => by
      rw [Int.mul_emod, h t ht, Int.mul_zero]
    rw [this, sumR0]
    rfl
  have e2 : sR (s + 1) (fun t => (((HvT.getD s []).getD t 0 : Nat) : Int) * mu s M t) = sR s (fun l => M l * sR (s + 1) (fun t => (((HvT.getD s []).getD t 0 : Nat) : Int) * rh (l + t))) + sR (s + 1) (fun t => (((HvT.getD s []).getD t 0 : Nat) : Int) * rh (s + t)) := by
    have a1 : sR s (fun l => M l * sR (s + 1) (fun t => (((HvT.getD s []).getD t 0 : Nat) : Int) * rh (l + t))) = sR (s + 1) (fun t => sR s (fun l => M l * ((((HvT.getD s []).getD t 0 : Nat) : Int) * rh (l + t)))) := by
      rw [← sR_swap2]
      exact sR_congr fun l _ => by rw [sR_mul]
    rw [a1, ← sR_add]
    refine sR_congr fun t _ => ?_
    unfold mu
    rw [Int.mul_add, sR_mul]
    congr 1
    refine sR_congr fun l _ => ?_
    simp only [Int.mul_assoc, Int.mul_left_comm, Int.mul_comm]
  have e3 : sR s (fun l => M l * sR (s + 1) (fun t => (((HvT.getD s []).getD t 0 : Nat) : Int) * rh (l + t))) % 10007 = 0 := by
    have : sR s (fun l => M l * sR (s + 1) (fun t => (((HvT.getD s []).getD t 0 : Nat) : Int) * rh (l + t))) % 10007 = sR s (fun _ => 0) % 10007 := sR_mod fun l hl => by
      have g := hv l (by omega)
      have g2 : dl l s = 0 := if_neg (by omega)
      rw [Int.mul_emod, g, g2, Int.mul_zero]
    rw [this, sumR0]
    rfl
  have e4 := hv s (by omega)
  have e5 : dl s s = 1 := if_pos rfl
  rw [e2] at e1
  rw [e5] at e4
  generalize sR s (fun l => M l * sR (s + 1) (fun t => (((HvT.getD s []).getD t 0 : Nat) : Int) * rh (l + t))) = x at e1 e3
  generalize sR (s + 1) (fun t => (((HvT.getD s []).getD t 0 : Nat) : Int) * rh (s + t)) = y at e1 e4
  omega
/-! ### mirrored nodes -/
def bn : Nat → Nat → Int
  | 0, 0 => 1
  | 0, _ + 1 => 0
  | l + 1, 0 => bn l 0
  | l + 1, t + 1 => bn l (t + 1) - bn l t
theorem bn_zero : ∀ l, bn l 0 = 1
  | 0 => rfl
  | l + 1 => by show bn l 0 = 1; exact bn_zero l
theorem bn_ev (z : Int) : ∀ (l N : Nat), l ≤ N → sR (N + 1) (fun t => bn l t * z ^ t) = (1 - z) ^ l
  | 0, N, _ => by
    rw [sR_first, Int.pow_zero, Int.pow_zero]
    have : sR N (fun k => bn 0 (k + 1) * z ^ (k + 1)) = sR N (fun _ => 0) := sR_congr fun k _ => by
      show 0 * _ = (0 : Int); rw [Int.zero_mul]
    rw [this, sumR0]
    rfl
  | l + 1, N, h => by
    obtain ⟨N', rfl⟩ : ∃ N', N = N' + 1 := ⟨N - 1, by omega⟩
    have i1 := bn_ev z l (N' + 1) (by omega)
    have i2 := bn_ev z l N' (by omega)
    rw [sR_first, Int.pow_zero, Int.mul_one] at i1 ⊢
    have e : sR (N' + 1) (fun k => bn (l + 1) (k + 1) * z ^ (k + 1)) = sR (N' + 1) (fun k => bn l (k + 1) * z ^ (k + 1)) - z * sR (N' + 1) (fun t => bn l t * z ^ t) := by
      rw [sR_mul, ← sR_sub]
      refine sR_congr fun k _ => ?_
      show (bn l (k + 1) - bn l k) * z ^ (k + 1) = _
      rw [Int.sub_mul, Int.pow_succ]
      congr 1
      simp only [Int.mul_assoc, Int.mul_left_comm, Int.mul_comm]
    rw [e, i2, Int.pow_succ, Int.mul_sub, Int.mul_one, Int.mul_comm z]
    show bn l 0 + _ = _
    generalize sR (N' + 1) (fun k => bn l (k + 1) * z ^ (k + 1)) = x at i1 ⊢
    generalize (1 - z) ^ l * z = y
    omega
def okBn (l t : Nat) : Bool := decide ((bn l t * (rhN t : Int) + bn (l + 1) (t + 1) * (rhN l : Int)) % 10007 = 0)
theorem td3 : (List.range 8).all (fun l => (List.range 8).all (okBn l)) = true := by decide +kernel
/-- the integral of (1 - z)^l from 0 to x -/
theorem bn_int {s l : Nat} (hs : s ≤ 8) (hl : l < s) (x : Int) : sR s (fun t => bn l t * (x ^ (t + 1) * rh t)) % 10007 = (1 - (1 - x) ^ (l + 1)) * rh l % 10007 := by
  have h1 := td3
  rw [List.all_eq_true] at h1
  have h2 := h1 l (List.mem_range.2 (by omega))
  rw [List.all_eq_true] at h2
  have e1 : sR s (fun t => bn l t * (x ^ (t + 1) * rh t)) % 10007 = sR s (fun t => (- rh l) * (bn (l + 1) (t + 1) * x ^ (t + 1))) % 10007 := sR_mod fun t ht => by
    have h3 : (bn l t * (rhN t : Int) + bn (l + 1) (t + 1) * (rhN l : Int)) % 10007 = 0 := of_decide_eq_true (h2 t (List.mem_range.2 (by omega)))
    rw [← rh_N, ← rh_N] at h3
    have g1 : bn l t * (x ^ (t + 1) * rh t) = x ^ (t + 1) * (bn l t * rh t) := by simp only [Int.mul_assoc, Int.mul_left_comm, Int.mul_comm]
    have g2 : (- rh l) * (bn (l + 1) (t + 1) * x ^ (t + 1)) = x ^ (t + 1) * (- (bn (l + 1) (t + 1) * rh l)) := by
      rw [Int.neg_mul, Int.mul_neg]
      congr 1
      simp only [Int.mul_assoc, Int.mul_left_comm, Int.mul_comm]
    rw [g1, g2]
    refine mulm rfl ?_
    generalize bn l t * rh t = u at h3 ⊢
    generalize bn (l + 1) (t + 1) * rh l = v at h3 ⊢
    omega
  have e2 := bn_ev x (l + 1) s (by omega)
  rw [sR_first, Int.pow_zero, Int.mul_one, bn_zero] at e2
  rw [e1, ← sR_mul]
  refine congrArg (· % 10007) ?_
  rw [← e2, Int.neg_mul]
  generalize sR s (fun k => bn (l + 1) (k + 1) * x ^ (k + 1)) = y
  rw [show 1 - (1 + y) = -y by omega, Int.neg_mul, Int.mul_comm]
/-- a functional on powers of 1 - c -/
theorem bn_sum {s l : Nat} (hl : l < s) (d c : Nat → Int) (g : Nat → Int) (h : ∀ t, t < s → sR s (fun j => d j * c j ^ t) % 10007 = g t % 10007) : sR s (fun j => d j * (1 - c j) ^ l) % 10007 = sR s (fun t => bn l t * g t) % 10007 := by
  obtain ⟨n, rfl⟩ : ∃ n, s = n + 1 := ⟨s - 1, by omega⟩
  have e1 : sR (n + 1) (fun j => d j * (1 - c j) ^ l) = sR (n + 1) (fun t => bn l t * sR (n + 1) (fun j => d j * c j ^ t)) := by
    have a1 : sR (n + 1) (fun t => bn l t * sR (n + 1) (fun j => d j * c j ^ t)) = sR (n + 1) (fun j => sR (n + 1) (fun t => bn l t * (d j * c j ^ t))) := by
      rw [← sR_swap2]
      exact sR_congr fun t _ => by rw [sR_mul]
    rw [a1]
    refine sR_congr fun j _ => ?_
    rw [← bn_ev (c j) l n (by omega), sR_mul]
    refine sR_congr fun t _ => ?_
    simp only [Int.mul_assoc, Int.mul_left_comm, Int.mul_comm]
  rw [e1]
  exact sR_mod fun t ht => mulm rfl (h t ht)
/-- the tableau of the mirrored nodes -/
theorem Coll.mirror {s : Nat} {A A' : Nat → Nat → Int} {b b' c c' : Nat → Int} {L L' : Nat → Nat → Int} (h : Coll s A b c L) (h' : Coll s A' b' c' L') (hs : s ≤ 8) (hc : ∀ i, i < s → c' i % 10007 = (1 - c i) % 10007) :
    (∀ i k, i < s → k < s → A' i k % 10007 = (b k - A i k) % 10007) ∧ (∀ k, k < s → b' k % 10007 = b k % 10007) := by
  have hb : ∀ l, l < s → sR s (fun j => b j * (1 - c j) ^ l) % 10007 = rh l % 10007 := fun l hl => by
    have e := bn_int hs hl 1
    rw [show (1 : Int) - 1 = 0 by omega, Int.zero_pow (by omega), show (1 : Int) - 0 = 1 by omega, Int.one_mul] at e
    rw [← e, bn_sum hl b c (fun t => 1 ^ (t + 1) * rh t) fun t ht => by rw [h.B ht, Int.one_pow, Int.one_mul]]
  refine ⟨fun i k hi hk => ?_, fun k hk => ?_⟩
  · have key := h'.lag.dual (d := fun k => A' i k - (b k - A i k)) (fun l hl => by
      have e0 : sR s (fun k => (A' i k - (b k - A i k)) * c' k ^ l) % 10007 = (sR s (fun k => A' i k * c' k ^ l) - (sR s (fun k => b k * (1 - c k) ^ l) - sR s (fun k => A i k * (1 - c k) ^ l))) % 10007 := by
        rw [← sR_sub, ← sR_sub]
        refine sR_mod fun k hk => ?_
        have g := pow_modI (hc k hk) l
        have g1 := mulm (a := b k) (c := b k) rfl g
        have g2 := mulm (a := A i k) (c := A i k) rfl g
        rw [Int.sub_mul, Int.sub_mul]
        generalize A' i k * c' k ^ l = x1
        generalize b k * c' k ^ l = x2 at g1 ⊢
        generalize A i k * c' k ^ l = x3 at g2 ⊢
        generalize b k * (1 - c k) ^ l = x4 at g1 ⊢
        generalize A i k * (1 - c k) ^ l = x5 at g2 ⊢
        omega
      have e1 := h'.C hl hi
      have e2 : c' i ^ (l + 1) * rh l % 10007 = (1 - c i) ^ (l + 1) * rh l % 10007 := mulm (pow_modI (hc i hi) _) rfl
      have e3 := hb l hl
      have e4 : sR s (fun k => A i k * (1 - c k) ^ l) % 10007 = (1 - (1 - c i) ^ (l + 1)) * rh l % 10007 := by
        rw [← bn_int hs hl (c i), bn_sum hl (A i) c (fun t => c i ^ (t + 1) * rh t) fun t ht => h.C ht hi]
      rw [Int.sub_mul, Int.one_mul] at e4
      rw [e0]
      generalize sR s (fun k => A' i k * c' k ^ l) = x1 at e1 ⊢
      generalize sR s (fun k => b k * (1 - c k) ^ l) = x2 at e3 ⊢
      generalize sR s (fun k => A i k * (1 - c k) ^ l) = x3 at e4 ⊢
      generalize c' i ^ (l + 1) * rh l = x4 at e1 e2
      generalize (1 - c i) ^ (l + 1) * rh l = x5 at e2 e4
      generalize rh l = x6 at e3 e4
      omega) hk
    have key' : (A' i k - (b k - A i k)) % 10007 = 0 := key
    omega
  · have key := h'.lag.dual (d := fun k => b' k - b k) (fun l hl => by
      have e0 : sR s (fun k => (b' k - b k) * c' k ^ l) % 10007 = (sR s (fun k => b' k * c' k ^ l) - sR s (fun k => b k * (1 - c k) ^ l)) % 10007 := by
        rw [← sR_sub]
        refine sR_mod fun k hk => ?_
        have g1 := mulm (a := b k) (c := b k) rfl (pow_modI (hc k hk) l)
        rw [Int.sub_mul]
        generalize b' k * c' k ^ l = x1
        generalize b k * c' k ^ l = x2 at g1 ⊢
        generalize b k * (1 - c k) ^ l = x4 at g1 ⊢
        omega
      have e1 := h'.B hl
      have e3 := hb l hl
      rw [e0]
      generalize sR s (fun k => b' k * c' k ^ l) = x1 at e1 ⊢
      generalize sR s (fun k => b k * (1 - c k) ^ l) = x2 at e3 ⊢
      generalize rh l = x6 at e1 e3
      omega) hk
    have key' : (b' k - b k) % 10007 = 0 := key
    omega
/-- the character of the mirrored nodes is the adjoint one -/
theorem Coll.mirror_chF {s : Nat} {A A' : Nat → Nat → Int} {b b' c c' : Nat → Int} {L L' : Nat → Nat → Int} (h : Coll s A b c L) (h' : Coll s A' b' c' L') (hs : s ≤ 8) (hc : ∀ i, i < s → c' i % 10007 = (1 - c i) % 10007) : chF s A' b' = adjL (chF s A b) := by
  have hm := h.mirror h' hs hc
  rw [← chF_adjL, ← chF_turn s A' b']
  refine chF_mod (fun i k hi hk => ?_) fun i hi => ?_
  · exact hm.1 _ _ (by omega) (by omega)
  · exact hm.2 _ (by omega)
end Go.Proofs.YtofabikjjkapmaaGreat

set_option linter.unusedVariables false
set_option linter.unusedSimpArgs false
namespace Go.Proofs.YtofabikjjkapmaaGreat
open Go.RowKit

theorem mod_mul_l (a b : Int) : a % 10007 * b % 10007 = a * b % 10007 := by
  rw [Int.mul_emod, Int.emod_emod_of_dvd _ (Int.dvd_refl _), ← Int.mul_emod]
theorem mod_mul_r (a b : Int) : a * (b % 10007) % 10007 = a * b % 10007 := by rw [Int.mul_comm, mod_mul_l, Int.mul_comm]
theorem mod_add_l (a b : Int) : (a % 10007 + b) % 10007 = (a + b) % 10007 := by omega
theorem mod_add_r (a b : Int) : (a + b % 10007) % 10007 = (a + b) % 10007 := by omega
theorem mod_mod (a : Int) : a % 10007 % 10007 = a % 10007 := by omega
theorem mod_pow (a : Int) (n : Nat) : (a % 10007) ^ n % 10007 = a ^ n % 10007 := by
  induction n with
  | zero => simp
  | succ n ih => rw [Int.pow_succ, Int.pow_succ, mod_mul_r, ← mod_mul_l, ih, mod_mul_l]
theorem pw_mul (a b : Int) (n : Nat) : pw (a * b % 10007) n = pw a n * pw b n % 10007 := by
  unfold pw
  rw [mod_pow, mod_mul_l, mod_mul_r]
  congr 1
  induction n with
  | zero => simp
  | succ n ih => simp only [Int.pow_succ, ih]; simp only [Int.mul_assoc, Int.mul_left_comm, Int.mul_comm]
theorem pw_mod (a : Int) (n : Nat) : pw (a % 10007) n = pw a n := mod_pow a n
theorem pw_self (a : Int) (n : Nat) : pw a n % 10007 = pw a n := mod_mod _
theorem pw_one (n : Nat) : pw 1 n = 1 := by simp [pw, Int.one_pow]

theorem scl_get (k : Int) (p : List Int) (i : Nat) : (scl k p).getD i 0 = p.getD i 0 * k % 10007 := by
  unfold scl
  by_cases h : i < p.length
  · simp [List.getD, h]
  · simp [List.getD, List.getElem?_eq_none (Nat.le_of_not_lt h)]
theorem addTo_get (k : Int) (a b : List Int) (j i : Nat) (h : i < j) : (addTo k a b j).getD i 0 = (a.getD i 0 + k * b.getD i 0) % 10007 := by
  simp [addTo, List.getD, h]
theorem ext_getD {a b : List Int} (hl : a.length = b.length) (h : ∀ i, i < a.length → a.getD i 0 = b.getD i 0) : a = b := by
  refine List.ext_getElem? fun i => ?_
  by_cases hi : i < a.length
  · have h1 := h i hi
    simp only [List.getD, List.getElem?_eq_getElem hi, List.getElem?_eq_getElem (hl ▸ hi : i < b.length), Option.getD_some] at h1
    rw [List.getElem?_eq_getElem hi, List.getElem?_eq_getElem (hl ▸ hi : i < b.length), h1]
  · rw [List.getElem?_eq_none (by omega), List.getElem?_eq_none (by omega)]

/-- p times z - d -/
def tl (p : List Int) (d : Int) : List Int := addk ((-d) % 10007) (0 :: p) (p ++ [0])
theorem tl_len (p : List Int) (d : Int) : (tl p d).length = p.length + 1 := by simp [tl, addk, addTo_len]
theorem tl_nums (p : List Int) (d : Int) : Nums (tl p d) := addTo_nums _ _ _ _
theorem snoc0_get (p : List Int) (i : Nat) : (p ++ [0]).getD i 0 = p.getD i 0 := by
  simp only [List.getD]
  by_cases h : i < p.length
  · rw [List.getElem?_append_left h]
  · rw [List.getElem?_append_right (by omega), List.getElem?_eq_none (l := p) (by omega)]
    cases hi : i - p.length with
    | zero => simp
    | succ n => simp
theorem tl_get (p : List Int) (d : Int) (i : Nat) (h : i < p.length + 1) : (tl p d).getD i 0 = ((0 :: p).getD i 0 + (-d) % 10007 * p.getD i 0) % 10007 := by
  unfold tl addk
  rw [addTo_get _ _ _ _ _ (by simpa using h), snoc0_get]
theorem cons0_scl (k : Int) (p : List Int) (i : Nat) : (0 :: scl k p).getD i 0 = (0 :: p).getD i 0 * k % 10007 := by
  cases i with
  | zero => simp
  | succ i => simpa using scl_get k p i
theorem tl_scl (k : Int) (p : List Int) (d : Int) : tl (scl k p) d = scl k (tl p d) := by
  refine ext_getD (by rw [tl_len, scl_len, scl_len, tl_len]) fun i hi => ?_
  rw [tl_len, scl_len] at hi
  rw [tl_get _ _ _ (by rwa [scl_len]), scl_get, scl_get, tl_get _ _ _ hi, cons0_scl]
  generalize (-d) % 10007 = e
  generalize (0 :: p).getD i 0 = x
  generalize p.getD i 0 = y
  rw [mod_mul_l, mod_add_l, ← mod_add_r, mod_mul_r, mod_add_r, Int.add_mul, Int.mul_assoc]
theorem scl_scl (u v : Int) (p : List Int) : scl u (scl v p) = scl (v * u % 10007) p := by
  unfold scl
  rw [List.map_map]
  refine List.map_congr_left fun z _ => ?_
  simp only [Function.comp_apply]
  rw [mod_mul_l, mod_mul_r, Int.mul_assoc]

/-- the polynomial of the program after m nodes -/
def lagI (c : Int) (zs : List Int) (j : Nat) : Nat → List Int
  | 0 => [1]
  | m + 1 => if m = j then lagI c zs j m else scl (pw ((c - zs.getD m 0) % 10007) 10005) (tl (lagI c zs j m) (zs.getD m 0))
/-- the product of the reference after m nodes -/
def facN (zs : List Int) (j : Nat) : Nat → List Int
  | 0 => [1]
  | m + 1 => if m = j then facN zs j m else tl (facN zs j m) (zs.getD m 0)
def valN (c : Int) (zs : List Int) (j : Nat) : Nat → Int
  | 0 => 1
  | m + 1 => if m = j then valN c zs j m else valN c zs j m * ((c - zs.getD m 0) % 10007) % 10007
theorem valN_bd (c : Int) (zs : List Int) (j : Nat) : ∀ m, 0 ≤ valN c zs j m ∧ valN c zs j m ≤ 10006
  | 0 => by simp [valN]
  | m + 1 => by
    have := valN_bd c zs j m
    unfold valN
    split <;> omega
theorem facN_len (zs : List Int) (j : Nat) : ∀ m, 1 ≤ (facN zs j m).length ∧ (facN zs j m).length ≤ m + 1
  | 0 => by simp [facN]
  | m + 1 => by
    have := facN_len zs j m
    unfold facN
    split
    · omega
    · rw [tl_len]; omega
theorem facN_nums (zs : List Int) (j : Nat) : ∀ m, Nums (facN zs j m)
  | 0 => by intro z hz; simp [facN] at hz; omega
  | m + 1 => by
    unfold facN
    split
    · exact facN_nums zs j m
    · exact tl_nums _ _
theorem lagI_eq (c : Int) (zs : List Int) (j : Nat) : ∀ m, lagI c zs j m = scl (pw (valN c zs j m) 10005) (facN zs j m)
  | 0 => by simp only [lagI, facN, valN, pw_one]; rfl
  | m + 1 => by
    unfold lagI facN valN
    split
    · exact lagI_eq c zs j m
    · rw [lagI_eq c zs j m, tl_scl, scl_scl, pw_mul]
theorem lagI_len (c : Int) (zs : List Int) (j m : Nat) : 1 ≤ (lagI c zs j m).length ∧ (lagI c zs j m).length ≤ m + 1 := by
  rw [lagI_eq, scl_len]; exact facN_len zs j m
theorem lagI_nums (c : Int) (zs : List Int) (j m : Nat) : Nums (lagI c zs j m) := by rw [lagI_eq]; exact scl_nums _ _

/-- a sum over the first n numbers -/
def sumTo (f : Nat → Int) : Nat → Int
  | 0 => 0
  | n + 1 => sumTo f n + f n
theorem sumTo_bd (f : Nat → Int) (h : ∀ i, 0 ≤ f i ∧ f i ≤ 10006) : ∀ n : Nat, 0 ≤ sumTo f n ∧ sumTo f n ≤ (n : Int) * 10006
  | 0 => by simp [sumTo]
  | n + 1 => by
    have h1 := sumTo_bd f h n
    have h2 := h n
    unfold sumTo
    omega
def iterm (p : List Int) (x : Int) (i : Nat) : Int := p.getD i 0 * pw x (i + 1) % 10007 * pw ((i : Int) + 1) 10005 % 10007
theorem iterm_bd (p : List Int) (x : Int) (i : Nat) : 0 ≤ iterm p x i ∧ iterm p x i ≤ 10006 := by unfold iterm; omega
theorem iterm_eq (p : List Int) (x : Int) (i : Nat) : p.getD i 0 * (pw x (i + 1) * pw ((i : Int) + 1) 10005 % 10007) % 10007 = iterm p x i := by
  unfold iterm
  rw [mod_mul_r, mod_mul_l, Int.mul_assoc]
/-- the integral of p from 0 to x -/
def integ (p : List Int) (x : Int) : Int := sumTo (iterm p x) p.length % 10007
theorem integ_bd (p : List Int) (x : Int) : 0 ≤ integ p x ∧ integ p x ≤ 10006 := by unfold integ; omega

/-- the j-th polynomial of nodes -/
def lag (zs : List Int) (j : Nat) : List Int := lagI (zs.getD j 0) zs j zs.length
def colRow (zs : List Int) (j n : Nat) : List Int := (List.range n).map fun i => integ (lag zs j) (zs.getD i 0)
def colA (zs : List Int) (n : Nat) : List (List Int) := (List.range n).map fun i => (List.range zs.length).map fun j => integ (lag zs j) (zs.getD i 0)
def colB (zs : List Int) (n : Nat) : List Int := (List.range n).map fun j => integ (lag zs j) 1
theorem colB_len (zs : List Int) (n : Nat) : (colB zs n).length = n := by simp [colB]
theorem colA_len (zs : List Int) (n : Nat) : (colA zs n).length = n := by simp [colA]
theorem colB_succ (zs : List Int) (n : Nat) : colB zs (n + 1) = colB zs n ++ [integ (lag zs n) 1] := by simp [colB, List.range_succ]
theorem colA_succ (zs : List Int) (n : Nat) : colA zs (n + 1) = colA zs n ++ [(List.range zs.length).map fun j => integ (lag zs j) (zs.getD n 0)] := by simp [colA, List.range_succ]
theorem colRow_succ (zs : List Int) (j n : Nat) : colRow zs j (n + 1) = colRow zs j n ++ [integ (lag zs j) (zs.getD n 0)] := by simp [colRow, List.range_succ]
theorem colRow_len (zs : List Int) (j n : Nat) : (colRow zs j n).length = n := by simp [colRow]
theorem colRow_nums (zs : List Int) (j n : Nat) : Nums (colRow zs j n) := by
  intro z hz
  obtain ⟨i, _, rfl⟩ := List.mem_map.1 hz
  exact integ_bd _ _
theorem colB_nums (zs : List Int) (n : Nat) : Nums (colB zs n) := by
  intro z hz
  obtain ⟨i, _, rfl⟩ := List.mem_map.1 hz
  exact integ_bd _ _
theorem colA_rows (zs : List Int) (n : Nat) : ∀ r ∈ colA zs n, Nums r ∧ r.length = zs.length := by
  intro r hr
  obtain ⟨i, _, rfl⟩ := List.mem_map.1 hr
  refine ⟨fun z hz => ?_, by simp⟩
  obtain ⟨j, _, rfl⟩ := List.mem_map.1 hz
  exact integ_bd _ _

/-- the product of p and z - c, as the reference makes it: the list after k rounds -/
def facTo (p : List Int) (c : Int) (k : Nat) : List Int := (List.range (p.length + 1)).map fun j => if j < k then ((0 :: p).getD j 0 - c * p.getD j 0 % 10007) % 10007 else if j = k then (0 :: p).getD j 0 else 0
theorem facTo_len (p : List Int) (c : Int) (k : Nat) : (facTo p c k).length = p.length + 1 := by simp [facTo]
theorem facTo_get {p : List Int} {c : Int} {k j : Nat} (h : j < p.length + 1) : (facTo p c k)[j]? = some (if j < k then ((0 :: p).getD j 0 - c * p.getD j 0 % 10007) % 10007 else if j = k then (0 :: p).getD j 0 else 0) := by
  simp [facTo, h]
theorem facTo_zero (p : List Int) (c : Int) : facTo p c 0 = List.replicate (p.length + 1) 0 := by
  refine List.ext_getElem? fun j => ?_
  by_cases h : j < p.length + 1
  · rw [facTo_get h]
    cases j with
    | zero => simp
    | succ j =>
      have hj : j < p.length := by omega
      simp [hj]
  · rw [List.getElem?_eq_none (by rw [facTo_len]; omega), List.getElem?_eq_none (by simp; omega)]
theorem facTo_succ {p : List Int} {c : Int} {k : Nat} {x : Int} (hx : p[k]? = some x) (hN : 0 ≤ x ∧ x ≤ 10006) :
    ((facTo p c k).set (k + 1) ((0 + x) % 10007)).set k (((0 :: p).getD k 0 - c * x % 10007) % 10007) = facTo p c (k + 1) := by
  have hk := (List.getElem?_eq_some_iff.1 hx).1
  refine List.ext_getElem? fun j => ?_
  by_cases h : j < p.length + 1
  · rw [facTo_get h]
    by_cases h1 : j = k
    · subst h1
      rw [List.getElem?_set_self (by simp [facTo_len]; omega), if_pos (by omega)]
      simp [List.getD, hx]
    · rw [List.getElem?_set_ne (by omega)]
      by_cases h2 : j = k + 1
      · subst h2
        rw [List.getElem?_set_self (by simp [facTo_len]; omega), if_neg (by omega), if_pos rfl]
        have : x % 10007 = x := by omega
        simp [List.getD, hx, this]
      · rw [List.getElem?_set_ne (by omega), facTo_get h]
        congr 1
        by_cases h3 : j < k
        · rw [if_pos h3, if_pos (by omega)]
        · rw [if_neg h3, if_neg (by omega), if_neg (by omega), if_neg (by omega)]
  · rw [List.getElem?_eq_none (by simp [facTo_len]; omega), List.getElem?_eq_none (by rw [facTo_len]; omega)]
theorem facTo_end {p : List Int} {c : Int} (hN : Nums p) : facTo p c p.length = tl p c := by
  refine ext_getD (by rw [facTo_len, tl_len]) fun j hj => ?_
  rw [facTo_len] at hj
  rw [tl_get _ _ _ hj, List.getD, facTo_get hj, Option.getD_some]
  by_cases h : j < p.length
  · rw [if_pos h]
    generalize (0 :: p).getD j 0 = x
    generalize p.getD j 0 = y
    rw [← mod_add_r, mod_mul_l, mod_add_r, Int.neg_mul]
    omega
  · rw [if_neg h, if_pos (by omega)]
    have e : j = p.length := by omega
    subst e
    have h0 : p.getD p.length 0 = 0 := by simp [List.getD]
    rw [h0]
    have h1 : 0 ≤ (0 :: p).getD p.length 0 ∧ (0 :: p).getD p.length 0 ≤ 10006 := by
      cases hp : p.length with
      | zero => simp
      | succ n =>
        have hn : n < p.length := by omega
        simp only [List.getD, List.getElem?_cons_succ, List.getElem?_eq_getElem hn, Option.getD_some]
        exact hN _ (List.getElem_mem hn)
    simp only [Int.mul_zero, Int.add_zero]
    omega
end Go.Proofs.YtofabikjjkapmaaGreat

set_option maxRecDepth 100000
set_option linter.unusedVariables false
set_option linter.unusedSimpArgs false
namespace Go.Proofs.YtofabikjjkapmaaGreat
open Go.RowKit

theorem map_getD (p : List Int) : (List.range p.length).map (fun t => p.getD t 0) = p := by
  refine List.ext_getElem? fun i => ?_
  by_cases h : i < p.length
  · rw [List.getElem?_map, List.getElem?_range h, List.getElem?_eq_getElem h]
    show some (p.getD i 0) = _
    rw [List.getD_eq_getElem?_getD, List.getElem?_eq_getElem h]
    rfl
  · rw [List.getElem?_eq_none (by simpa using Nat.le_of_not_lt h), List.getElem?_eq_none (Nat.le_of_not_lt h)]
theorem ev_getD (p : List Int) (x : Int) : ev p x = sR p.length (fun t => p.getD t 0 * x ^ t) := by
  rw [← ev_range x p.length (fun t => p.getD t 0), map_getD]
theorem ev_scl (k : Int) (p : List Int) (x : Int) : ev (scl k p) x % 10007 = k * ev p x % 10007 := by
  rw [ev_getD, ev_getD, scl_len, sR_mul]
  refine sR_mod fun t ht => ?_
  rw [scl_get, ← Int.mul_assoc, Int.mul_comm k]
  exact mulm (Int.emod_emod_of_dvd _ (Int.dvd_refl _)) rfl
theorem getD_len (p : List Int) {n : Nat} (h : p.length ≤ n) : p.getD n 0 = 0 := by
  rw [List.getD_eq_getElem?_getD, List.getElem?_eq_none h]; rfl
theorem ev_tl (p : List Int) (d x : Int) : ev (tl p d) x % 10007 = (x - d) * ev p x % 10007 := by
  rw [ev_getD, tl_len]
  have e1 : sR (p.length + 1) (fun t => (tl p d).getD t 0 * x ^ t) % 10007 = sR (p.length + 1) (fun t => (0 :: p).getD t 0 * x ^ t - d * (p.getD t 0 * x ^ t)) % 10007 := sR_mod fun t ht => by
    rw [tl_get p d t ht, ← Int.mul_assoc, ← Int.sub_mul]
    refine mulm ?_ rfl
    rw [Int.emod_emod_of_dvd _ (Int.dvd_refl _)]
    have g := mulm (a := (-d) % 10007) (c := -d) (Int.emod_emod_of_dvd _ (Int.dvd_refl _)) (rfl : p.getD t 0 % 10007 = p.getD t 0 % 10007)
    rw [Int.neg_mul] at g
    generalize (0 :: p).getD t 0 = u
    generalize (-d) % 10007 * p.getD t 0 = v at g ⊢
    generalize d * p.getD t 0 = w at g ⊢
    omega
  rw [e1, sR_sub, sR_first, ← sR_mul, sR_succ p.length (fun t => p.getD t 0 * x ^ t), getD_len p (Nat.le_refl _), Int.zero_mul, Int.add_zero, ← ev_getD]
  have e2 : sR p.length (fun k => (0 :: p).getD (k + 1) 0 * x ^ (k + 1)) = x * ev p x := by
    rw [ev_getD, sR_mul]
    refine sR_congr fun k _ => ?_
    rw [Int.pow_succ]
    show p.getD k 0 * (x ^ k * x) = x * (p.getD k 0 * x ^ k)
    simp only [Int.mul_assoc, Int.mul_left_comm, Int.mul_comm]
  rw [e2, Int.sub_mul]
  show (0 * x ^ 0 + x * ev p x - d * ev p x) % 10007 = _
  rw [Int.zero_mul, Int.zero_add]
/-- different numbers -/
structure DN (zs : List Int) : Prop where
  num : Nums zs
  dif : ∀ i k, i < zs.length → k < zs.length → i ≠ k → zs.getD i 0 ≠ zs.getD k 0
theorem inv_unit {a : Int} (h0 : 0 < a) (h1 : a < 10007) : a * pw a 10005 % 10007 = 1 := by
  have h := inv_powI (a := a) (n := 1) h0 h1
  have e : pw a 1 = a := by
    show a ^ 1 % 10007 = a
    rw [Int.pow_succ, Int.pow_zero, Int.one_mul]
    omega
  rw [e, Int.pow_succ, Int.pow_zero, Int.one_mul] at h
  exact h
theorem DN.sub {zs : List Int} (h : DN zs) {i k : Nat} (hi : i < zs.length) (hk : k < zs.length) (hne : i ≠ k) : 0 < (zs.getD i 0 - zs.getD k 0) % 10007 ∧ (zs.getD i 0 - zs.getD k 0) % 10007 < 10007 := by
  have h1 := h.num _ (getD_mem hi 0)
  have h2 := h.num _ (getD_mem hk 0)
  have h3 := h.dif i k hi hk hne
  omega
theorem DN.unit {zs : List Int} (h : DN zs) {i k : Nat} (hi : i < zs.length) (hk : k < zs.length) (hne : i ≠ k) : pw ((zs.getD i 0 - zs.getD k 0) % 10007) 10005 * (zs.getD i 0 - zs.getD k 0) % 10007 = 1 := by
  have h1 := h.sub hi hk hne
  have h2 := inv_unit h1.1 h1.2
  rw [Int.mul_comm] at h2
  rw [← h2]
  exact mulm rfl (Int.emod_emod_of_dvd _ (Int.dvd_refl _)).symm
theorem DN.Dif {zs : List Int} (h : DN zs) : Dif zs.length (fun i => zs.getD i 0) := fun i k hi hk hne => ⟨_, h.unit hi hk hne⟩
theorem lagI_lenx (c : Int) (zs : List Int) (j : Nat) : ∀ m, (lagI c zs j m).length = if j < m then m else m + 1
  | 0 => rfl
  | m + 1 => by
    have ih := lagI_lenx c zs j m
    unfold lagI
    by_cases e : m = j
    · rw [if_pos e, ih, if_neg (by omega), if_pos (by omega)]
    · rw [if_neg e, scl_len, tl_len, ih]
      by_cases h : j < m
      · rw [if_pos h, if_pos (by omega)]
      · rw [if_neg h, if_neg (by omega)]
theorem lagI_at {zs : List Int} (h : DN zs) {j : Nat} (hj : j < zs.length) : ∀ m, m ≤ zs.length → ev (lagI (zs.getD j 0) zs j m) (zs.getD j 0) % 10007 = 1 ∧ ∀ i, i < m → i ≠ j → ev (lagI (zs.getD j 0) zs j m) (zs.getD i 0) % 10007 = 0
  | 0, _ => ⟨by show (1 + zs.getD j 0 * 0) % 10007 = 1; rw [Int.mul_zero]; rfl, fun i hi => by omega⟩
  | m + 1, hm => by
    obtain ⟨i1, i2⟩ := lagI_at h hj m (by omega)
    unfold lagI
    by_cases e : m = j
    · rw [if_pos e]
      exact ⟨i1, fun i hi hne => i2 i (by omega) hne⟩
    · rw [if_neg e]
      have hst : ∀ x, ev (scl (pw ((zs.getD j 0 - zs.getD m 0) % 10007) 10005) (tl (lagI (zs.getD j 0) zs j m) (zs.getD m 0))) x % 10007 = pw ((zs.getD j 0 - zs.getD m 0) % 10007) 10005 * ((x - zs.getD m 0) * ev (lagI (zs.getD j 0) zs j m) x) % 10007 := fun x => by
        rw [ev_scl]
        exact mulm rfl (ev_tl _ _ _)
      refine ⟨?_, fun i hi hne => ?_⟩
      · rw [hst, ← Int.mul_assoc, Int.mul_emod, h.unit hj (by omega) (fun q => e q.symm), i1]
        rfl
      · rw [hst]
        by_cases him : i = m
        · subst him
          rw [Int.sub_self, Int.zero_mul, Int.mul_zero]
          rfl
        · have e3 := i2 i (by omega) hne
          rw [← Int.mul_assoc, Int.mul_emod, e3, Int.mul_zero]
          rfl
theorem lag_len {zs : List Int} {j : Nat} (hj : j < zs.length) : (lag zs j).length = zs.length := by
  unfold lag
  rw [lagI_lenx, if_pos hj]
theorem lag_Lag {zs : List Int} (h : DN zs) : Lag zs.length (fun i => zs.getD i 0) (fun j t => (lag zs j).getD t 0) := by
  refine ⟨h.Dif, fun i j hi hj => ?_⟩
  have e := ev_getD (lag zs j) (zs.getD i 0)
  rw [lag_len hj] at e
  show sR zs.length (fun t => (lag zs j).getD t 0 * zs.getD i 0 ^ t) % 10007 = _
  rw [← e]
  have h1 := lagI_at h hj zs.length (Nat.le_refl _)
  unfold dl
  by_cases e2 : i = j
  · subst e2
    rw [if_pos rfl]
    exact h1.1
  · rw [if_neg e2]
    exact h1.2 i hi e2
theorem sumTo_sR (f : Nat → Int) : ∀ n, sumTo f n = sR n f
  | 0 => rfl
  | n + 1 => by rw [sR_succ, ← sumTo_sR f n]; rfl
theorem integ_is (p : List Int) (x : Int) : integ p x % 10007 = sR p.length (fun t => p.getD t 0 * (x ^ (t + 1) * rh t)) % 10007 := by
  unfold integ
  rw [Int.emod_emod_of_dvd _ (Int.dvd_refl _), sumTo_sR]
  refine sR_mod fun t ht => ?_
  unfold iterm
  rw [Int.emod_emod_of_dvd _ (Int.dvd_refl _), ← Int.mul_assoc]
  show p.getD t 0 * pw x (t + 1) % 10007 * rh t % 10007 = _
  refine mulm ?_ rfl
  rw [Int.emod_emod_of_dvd _ (Int.dvd_refl _)]
  exact mulm rfl (Int.emod_emod_of_dvd _ (Int.dvd_refl _))
theorem fT_colA (zs : List Int) {i j : Nat} (hi : i < zs.length) (hj : j < zs.length) : fT (colA zs zs.length) i j = integ (lag zs j) (zs.getD i 0) := by
  unfold fT colA
  rw [getD_mapT (fun i => (List.range zs.length).map fun j => integ (lag zs j) (zs.getD i 0)) (by rw [List.length_range]; exact hi) 0]
  have e : ∀ {n k : Nat}, k < n → (List.range n).getD k 0 = k := fun {n k} h => by rw [List.getD_eq_getElem?_getD, List.getElem?_range h]; rfl
  rw [e hi, getD_mapT (fun j => integ (lag zs j) (zs.getD i 0)) (by rw [List.length_range]; exact hj) 0, e hj]
theorem fB_colB (zs : List Int) {j : Nat} (hj : j < zs.length) : fB (colB zs zs.length) j = integ (lag zs j) 1 := by
  unfold fB colB
  have e : ∀ {n k : Nat}, k < n → (List.range n).getD k 0 = k := fun {n k} h => by rw [List.getD_eq_getElem?_getD, List.getElem?_range h]; rfl
  rw [getD_mapT (fun j => integ (lag zs j) 1) (by rw [List.length_range]; exact hj) 0, e hj]
/-- the collocation tableau of different nodes -/
theorem coll_of {zs : List Int} (h : DN zs) : Coll zs.length (fT (colA zs zs.length)) (fB (colB zs zs.length)) (fun i => zs.getD i 0) (fun j t => (lag zs j).getD t 0) := by
  refine ⟨lag_Lag h, fun i j hi hj => ?_, fun j hj => ?_⟩
  · rw [fT_colA zs hi hj, integ_is, lag_len hj]
  · rw [fB_colB zs hj, integ_is, lag_len hj]
    refine congrArg (· % 10007) (sR_congr fun t _ => ?_)
    rw [Int.one_pow, Int.one_mul]
theorem sq_coll (zs : List Int) : SqT (colA zs zs.length) (colB zs zs.length) zs.length := ⟨colA_len _ _, colB_len _ _, colA_rows _ _, colB_nums _ _⟩
/-! ### the node polynomial -/
def ndP (zs : List Int) : Nat → List Int
  | 0 => [1]
  | m + 1 => tl (ndP zs m) (zs.getD m 0)
theorem ndP_len (zs : List Int) : ∀ m, (ndP zs m).length = m + 1
  | 0 => rfl
  | m + 1 => by unfold ndP; rw [tl_len, ndP_len zs m]
theorem ndP_nums (zs : List Int) (m : Nat) : Nums (ndP zs m) := by
  cases m with
  | zero => intro z hz; unfold ndP at hz; rw [List.mem_singleton] at hz; omega
  | succ m => exact tl_nums _ _
theorem ndP_top (zs : List Int) : ∀ m, (ndP zs m).getD m 0 = 1
  | 0 => rfl
  | m + 1 => by
    unfold ndP
    rw [tl_get _ _ _ (by rw [ndP_len]; omega)]
    have e1 : (0 :: ndP zs m).getD (m + 1) 0 = (ndP zs m).getD m 0 := rfl
    rw [e1, ndP_top zs m, getD_len (ndP zs m) (by rw [ndP_len]; exact Nat.le_refl _), Int.mul_zero]
    rfl
theorem ndP_zero (zs : List Int) : ∀ m i, i < m → ev (ndP zs m) (zs.getD i 0) % 10007 = 0
  | 0, i, h => by omega
  | m + 1, i, h => by
    unfold ndP
    rw [ev_tl]
    by_cases e : i = m
    · subst e
      rw [Int.sub_self, Int.zero_mul]
      rfl
    · rw [Int.mul_emod, ndP_zero zs m i (by omega), Int.mul_zero]
      rfl
theorem ndP_NPol (zs : List Int) : NPol zs.length (fun i => zs.getD i 0) (fun l => (ndP zs zs.length).getD l 0) := by
  intro j hj
  have e := ndP_zero zs zs.length j hj
  rw [ev_getD, ndP_len, sR_succ, ndP_top, Int.one_mul] at e
  exact e
theorem getD_cons_rep (p : List Int) : ∀ (n i : Nat), (List.replicate n (0 : Int) ++ p).getD i 0 = if i < n then 0 else p.getD (i - n) 0
  | 0, i => by rw [if_neg (by omega)]; rfl
  | n + 1, 0 => by rw [if_pos (by omega)]; rfl
  | n + 1, i + 1 => by
    show (List.replicate n (0 : Int) ++ p).getD i 0 = _
    rw [getD_cons_rep p n i]
    by_cases h : i < n
    · rw [if_pos h, if_pos (by omega)]
    · rw [if_neg h, if_neg (by omega), show i + 1 - (n + 1) = i - n by omega]
/-- the integral of the node polynomial times a power, as the program takes it -/
theorem integ_mu (zs : List Int) (t : Nat) : integ (List.replicate t 0 ++ ndP zs zs.length) 1 % 10007 = mu zs.length (fun l => (ndP zs zs.length).getD l 0) t % 10007 := by
  rw [integ_is, List.length_append, List.length_replicate, ndP_len, sR_split]
  have e1 : sR t (fun k => (List.replicate t (0 : Int) ++ ndP zs zs.length).getD k 0 * (1 ^ (k + 1) * rh k)) = sR t (fun _ => 0) := sR_congr fun k hk => by
    rw [getD_cons_rep, if_pos hk, Int.zero_mul]
  rw [e1, sumR0, Int.zero_add, sR_succ]
  have e2 : ∀ k, (List.replicate t (0 : Int) ++ ndP zs zs.length).getD (t + k) 0 = (ndP zs zs.length).getD k 0 := fun k => by
    rw [getD_cons_rep, if_neg (by omega), Nat.add_sub_cancel_left]
  unfold mu
  rw [e2, ndP_top, Int.one_mul, Int.one_pow, Int.one_mul, Nat.add_comm t zs.length]
  refine congrArg (fun z => (z + rh (zs.length + t)) % 10007) (sR_congr fun k _ => ?_)
  rw [e2, Int.one_pow, Int.one_mul, Nat.add_comm t k]
/-- row sums are the nodes -/
theorem coll_row {zs : List Int} (h : DN zs) (h1 : 1 ≤ zs.length) {i : Nat} (hi : i < zs.length) : sR zs.length (fun j => fT (colA zs zs.length) i j) % 10007 = zs.getD i 0 := by
  have e := (coll_of h).C (k := 0) (show 0 < zs.length by omega) hi
  have e2 : sR zs.length (fun j => fT (colA zs zs.length) i j * zs.getD j 0 ^ 0) = sR zs.length (fun j => fT (colA zs zs.length) i j) := sR_congr fun j _ => by rw [Int.pow_zero, Int.mul_one]
  rw [e2] at e
  have b := h.num _ (getD_mem hi 0)
  have e3 : rh 0 = 1 := by
    show pw 1 10005 = 1
    exact pw_one _
  rw [e, e3, Int.pow_succ, Int.pow_zero, Int.one_mul, Int.mul_one]
  omega
end Go.Proofs.YtofabikjjkapmaaGreat

