/- Plain: sums over tables of places, one put into the other (convolutions and substitutions alike), with normal forms that the kernel compares. No walk. | Plain: polynomials in the values of a map (monomials are sorted lists of places, coefficients numbers), and what they say of numbers. No walk. | The exponentials of maps as polynomials in their values, by places: PTab all powers of the action on the unit together, ETab the exponential. (printed by expgen.py) No walk. | Plain: the exponential of an infinitesimal map by powers of its action is the table's polynomial; the exponential of the opposite map is the inverse; kernel checks. No walk. | Plain: the exponential at a tree is the value there and what smaller trees give; it is told by that, goes with scaling, and convolution goes with scaling; kernel checks. No walk. -/
import Derived.Test.YtdjhfeaimmpmhaaGreatZm1
import Derived.Test.YtdjhfeaimmpmhaaGreatZm17
set_option maxRecDepth 100000
set_option linter.unusedVariables false
set_option linter.unusedSimpArgs false
namespace Go.Proofs.YtdjhfeaimmpmhaaGreat

abbrev Tb := Nat → List MCt
def gv (T : Tb) (a b : Nat → Int) (p : Nat) : Int := sumF (cvT a b) (T p)
/-! ### normal forms -/
end Go.Proofs.YtdjhfeaimmpmhaaGreat

set_option maxRecDepth 100000
set_option linter.unusedVariables false
set_option linter.unusedSimpArgs false
namespace Go.Proofs.YtdjhfeaimmpmhaaGreat

abbrev Tm := List Nat × Nat
abbrev Pol := List Tm
def tmv (x : Nat → Int) (t : Tm) : Int := (t.2 : Int) * pz x t.1
def pv (x : Nat → Int) (P : Pol) : Int := sumF (tmv x) P
def insP (t : Tm) : Pol → Pol
  | [] => [t]
  | u :: us => match cmpN t.1 u.1 with
    | 0 => (u.1, (u.2 + t.2) % 10007) :: us
    | 1 => t :: u :: us
    | _ => u :: insP t us
def addP : Pol → Pol → Pol
  | [], Q => Q
  | t :: P, Q => insP t (addP P Q)
/-- a term times a polynomial, added to another one -/
def mulT (t : Tm) : Pol → Pol → Pol
  | [], R => R
  | u :: Q, R => insP (srtZ (t.1 ++ u.1), t.2 * u.2 % 10007) (mulT t Q R)
def mulP : Pol → Pol → Pol
  | [], _ => []
  | t :: P, Q => mulT t Q (mulP P Q)
def sclP (k : Nat) : Pol → Pol
  | [] => []
  | t :: P => (t.1, t.2 * k % 10007) :: sclP k P
/-- without terms that are 0 -/
def dz : Pol → Pol
  | [] => []
  | t :: P => bif Nat.beq (t.2 % 10007) 0 then dz P else t :: dz P
def eqPl : Pol → Pol → Bool
  | [], [] => true
  | t :: P, u :: Q => Nat.beq (cmpN t.1 u.1) 0 && (Nat.beq t.2 u.2 && eqPl P Q)
  | _, _ => false
theorem eqPl_iff : ∀ {P Q : Pol}, eqPl P Q = true → P = Q
  | [], [], _ => rfl
  | [], _ :: _, h => by cases h
  | _ :: _, [], h => by cases h
  | (m, n) :: P, (m', n') :: Q, h => by
    unfold eqPl at h
    simp only [Bool.and_eq_true] at h
    rw [cmpN_zero (Nat.eq_of_beq_eq_true h.1), Nat.eq_of_beq_eq_true h.2.1, eqPl_iff h.2.2]
theorem modM (a b : Int) : (a % 10007 * b) % 10007 = a * b % 10007 := by rw [Int.mul_emod, Int.emod_emod_of_dvd _ (Int.dvd_refl _), ← Int.mul_emod]
theorem tmv_mod (x : Nat → Int) (m : List Nat) (n : Nat) : tmv x (m, n % 10007) % 10007 = tmv x (m, n) % 10007 := by
  unfold tmv
  show ((n % 10007 : Nat) : Int) * pz x m % 10007 = (n : Int) * pz x m % 10007
  rw [Int.natCast_emod]
  exact modM _ _
theorem insP_pv (x : Nat → Int) (t : Tm) : ∀ P : Pol, pv x (insP t P) % 10007 = (tmv x t + pv x P) % 10007
  | [] => rfl
  | u :: P => by
    have ih := insP_pv x t P
    unfold insP
    split
    · next h =>
      have h := cmpN_zero h
      show (tmv x (u.1, (u.2 + t.2) % 10007) + pv x P) % 10007 = (tmv x t + (tmv x u + pv x P)) % 10007
      have e := tmv_mod x u.1 (u.2 + t.2)
      have e2 : tmv x (u.1, u.2 + t.2) = tmv x u + tmv x t := by
        unfold tmv
        rw [h]
        show ((u.2 + t.2 : Nat) : Int) * pz x u.1 = _
        rw [Int.natCast_add, Int.add_mul]
      rw [e2] at e
      omega
    · rfl
    · show (tmv x u + pv x (insP t P)) % 10007 = (tmv x t + (tmv x u + pv x P)) % 10007
      omega
theorem addP_pv (x : Nat → Int) (P Q : Pol) : pv x (addP P Q) % 10007 = (pv x P + pv x Q) % 10007 := by
  induction P with
  | nil => show _ = (0 + pv x Q) % 10007; rw [Int.zero_add]; rfl
  | cons t P ih =>
    show pv x (insP t (addP P Q)) % 10007 = (tmv x t + pv x P + pv x Q) % 10007
    rw [insP_pv]
    omega
theorem tmv_mul (x : Nat → Int) (t u : Tm) : tmv x (srtZ (t.1 ++ u.1), t.2 * u.2) = tmv x t * tmv x u := by
  unfold tmv
  show ((t.2 * u.2 : Nat) : Int) * pz x (srtZ (t.1 ++ u.1)) = _
  rw [srtZ_pz, pz_append, Int.natCast_mul]
  simp only [Int.mul_assoc, Int.mul_left_comm, Int.mul_comm]
theorem mulT_pv (x : Nat → Int) (t : Tm) (Q R : Pol) : pv x (mulT t Q R) % 10007 = (tmv x t * pv x Q + pv x R) % 10007 := by
  induction Q with
  | nil => show _ = (tmv x t * 0 + pv x R) % 10007; rw [Int.mul_zero, Int.zero_add]; rfl
  | cons u Q ih =>
    show pv x (insP (srtZ (t.1 ++ u.1), t.2 * u.2 % 10007) (mulT t Q R)) % 10007 = (tmv x t * (tmv x u + pv x Q) + pv x R) % 10007
    rw [insP_pv]
    have e := tmv_mod x (srtZ (t.1 ++ u.1)) (t.2 * u.2)
    rw [tmv_mul] at e
    rw [Int.mul_add]
    omega
theorem mulP_pv (x : Nat → Int) (P Q : Pol) : pv x (mulP P Q) % 10007 = pv x P * pv x Q % 10007 := by
  induction P with
  | nil => show _ = 0 * pv x Q % 10007; rw [Int.zero_mul]; rfl
  | cons t P ih =>
    show pv x (mulT t Q (mulP P Q)) % 10007 = (tmv x t + pv x P) * pv x Q % 10007
    rw [mulT_pv, Int.add_mul]
    omega
theorem sclP_pv (x : Nat → Int) (k : Nat) (P : Pol) : pv x (sclP k P) % 10007 = (k : Int) * pv x P % 10007 := by
  induction P with
  | nil => show _ = (k : Int) * 0 % 10007; rw [Int.mul_zero]; rfl
  | cons t P ih =>
    show (tmv x (t.1, t.2 * k % 10007) + pv x (sclP k P)) % 10007 = (k : Int) * (tmv x t + pv x P) % 10007
    have e := tmv_mod x t.1 (t.2 * k)
    have e2 : tmv x (t.1, t.2 * k) = (k : Int) * tmv x t := by
      unfold tmv
      show ((t.2 * k : Nat) : Int) * pz x t.1 = _
      rw [Int.natCast_mul]
      simp only [Int.mul_assoc, Int.mul_left_comm, Int.mul_comm]
    rw [e2] at e
    rw [Int.mul_add]
    omega
theorem dz_pv (x : Nat → Int) (P : Pol) : pv x (dz P) % 10007 = pv x P % 10007 := by
  induction P with
  | nil => rfl
  | cons t P ih =>
    unfold dz
    show _ = (tmv x t + pv x P) % 10007
    cases hb : Nat.beq (t.2 % 10007) 0 with
    | true =>
      rw [cond_true]
      have h0 := Nat.eq_of_beq_eq_true hb
      have e := tmv_mod x t.1 t.2
      rw [h0] at e
      have e2 : tmv x (t.1, 0) = 0 := by unfold tmv; simp
      rw [e2] at e
      have e3 : tmv x (t.1, t.2) = tmv x t := rfl
      rw [e3] at e
      omega
    | false =>
      rw [cond_false]
      show (tmv x t + pv x (dz P)) % 10007 = _
      omega
theorem pv_eq {x : Nat → Int} {P Q : Pol} (h : eqPl (dz P) (dz Q) = true) : pv x P % 10007 = pv x Q % 10007 := by
  rw [← dz_pv x P, eqPl_iff h, dz_pv]
/-- the values at other maps: place k takes the polynomial S k -/
def subM (S : Nat → Pol) : List Nat → Pol
  | [] => [([], 1)]
  | k :: ks => mulP (S k) (subM S ks)
theorem subM_pv {x y : Nat → Int} {S : Nat → Pol} {ks : List Nat} (h : ∀ k ∈ ks, pv x (S k) % 10007 = y k % 10007) : pv x (subM S ks) % 10007 = pz y ks % 10007 := by
  induction ks with
  | nil => simp [subM, pv, sumF, tmv, pz_nil]
  | cons k ks ih =>
    have h1 := h k (by simp)
    have h2 := ih fun j hj => h j (by simp [hj])
    rw [subM, mulP_pv, pz_cons, Int.mul_emod, h1, h2, ← Int.mul_emod]
end Go.Proofs.YtdjhfeaimmpmhaaGreat

set_option maxRecDepth 100000
namespace Go.Proofs.YtdjhfeaimmpmhaaGreat

def PTab : List Pol := [
  [([], 1)],
  [([1], 1)],
  [([1, 1], 1), ([2], 1)],
  [([1, 1, 1], 1), ([1, 2], 2), ([3], 1)],
  [([1, 1, 1], 2), ([1, 2], 2), ([4], 1)],
  [([1, 1, 1, 1], 1), ([1, 1, 2], 3), ([1, 3], 2), ([2, 2], 1), ([5], 1)],
  [([1, 1, 1, 1], 2), ([1, 1, 2], 4), ([1, 3], 2), ([1, 4], 1), ([6], 1)],
  [([1, 1, 1, 1], 3), ([1, 1, 2], 5), ([1, 3], 1), ([1, 4], 1), ([2, 2], 1), ([7], 1)],
  [([1, 1, 1, 1], 6), ([1, 1, 2], 6), ([1, 4], 3), ([8], 1)],
  [([1, 1, 1, 1, 1], 1), ([1, 1, 1, 2], 4), ([1, 1, 3], 3), ([1, 2, 2], 3), ([1, 5], 2), ([2, 3], 2), ([9], 1)],
  [([1, 1, 1, 1, 1], 2), ([1, 1, 1, 2], 6), ([1, 1, 3], 4), ([1, 1, 4], 1), ([1, 2, 2], 2), ([1, 5], 2), ([1, 6], 1), ([2, 4], 1), ([10], 1)],
  [([1, 1, 1, 1, 1], 3), ([1, 1, 1, 2], 8), ([1, 1, 3], 4), ([1, 1, 4], 1), ([1, 2, 2], 3), ([1, 5], 1), ([1, 6], 1), ([1, 7], 1), ([2, 3], 1), ([11], 1)],
  [([1, 1, 1, 1, 1], 4), ([1, 1, 1, 2], 10), ([1, 1, 3], 4), ([1, 1, 4], 1), ([1, 2, 2], 4), ([1, 5], 1), ([1, 7], 1), ([2, 3], 1), ([2, 4], 1), ([12], 1)],
  [([1, 1, 1, 1, 1], 6), ([1, 1, 1, 2], 12), ([1, 1, 3], 6), ([1, 1, 4], 3), ([1, 6], 3), ([1, 8], 1), ([13], 1)],
  [([1, 1, 1, 1, 1], 8), ([1, 1, 1, 2], 14), ([1, 1, 3], 4), ([1, 1, 4], 4), ([1, 2, 2], 2), ([1, 6], 1), ([1, 7], 2), ([2, 4], 1), ([14], 1)],
  [([1, 1, 1, 1, 1], 6), ([1, 1, 1, 2], 12), ([1, 1, 3], 2), ([1, 1, 4], 2), ([1, 2, 2], 6), ([1, 7], 2), ([2, 3], 2), ([15], 1)],
  [([1, 1, 1, 1, 1], 12), ([1, 1, 1, 2], 18), ([1, 1, 3], 2), ([1, 1, 4], 5), ([1, 2, 2], 4), ([1, 7], 2), ([1, 8], 1), ([2, 4], 1), ([16], 1)],
  [([1, 1, 1, 1, 1], 24), ([1, 1, 1, 2], 24), ([1, 1, 4], 12), ([1, 8], 4), ([17], 1)],
  [([1, 1, 1, 1, 1, 1], 1), ([1, 1, 1, 1, 2], 5), ([1, 1, 1, 3], 4), ([1, 1, 2, 2], 6), ([1, 1, 5], 3), ([1, 2, 3], 6), ([1, 9], 2), ([2, 2, 2], 1), ([2, 5], 2), ([3, 3], 1), ([18], 1)],
  [([1, 1, 1, 1, 1, 1], 2), ([1, 1, 1, 1, 2], 8), ([1, 1, 1, 3], 6), ([1, 1, 1, 4], 1), ([1, 1, 2, 2], 6), ([1, 1, 5], 4), ([1, 1, 6], 1), ([1, 2, 3], 4), ([1, 2, 4], 2), ([1, 9], 2), ([1, 10], 1), ([2, 6], 1), ([3, 4], 1), ([19], 1)],
  [([1, 1, 1, 1, 1, 1], 3), ([1, 1, 1, 1, 2], 11), ([1, 1, 1, 3], 7), ([1, 1, 1, 4], 1), ([1, 1, 2, 2], 8), ([1, 1, 5], 4), ([1, 1, 6], 1), ([1, 1, 7], 1), ([1, 2, 3], 4), ([1, 2, 4], 1), ([1, 9], 1), ([1, 10], 1), ([1, 11], 1), ([2, 2, 2], 1), ([2, 5], 1), ([2, 7], 1), ([20], 1)],
  [([1, 1, 1, 1, 1, 1], 4), ([1, 1, 1, 1, 2], 14), ([1, 1, 1, 3], 8), ([1, 1, 1, 4], 1), ([1, 1, 2, 2], 10), ([1, 1, 5], 3), ([1, 1, 6], 1), ([1, 1, 7], 1), ([1, 2, 3], 7), ([1, 2, 4], 1), ([1, 9], 1), ([1, 11], 1), ([1, 12], 1), ([2, 6], 1), ([3, 3], 1), ([21], 1)],
  [([1, 1, 1, 1, 1, 1], 5), ([1, 1, 1, 1, 2], 17), ([1, 1, 1, 3], 9), ([1, 1, 1, 4], 1), ([1, 1, 2, 2], 12), ([1, 1, 5], 4), ([1, 1, 7], 1), ([1, 2, 3], 6), ([1, 2, 4], 2), ([1, 9], 1), ([1, 12], 1), ([2, 2, 2], 1), ([2, 5], 1), ([2, 7], 1), ([3, 4], 1), ([22], 1)],
  [([1, 1, 1, 1, 1, 1], 6), ([1, 1, 1, 1, 2], 18), ([1, 1, 1, 3], 12), ([1, 1, 1, 4], 3), ([1, 1, 2, 2], 6), ([1, 1, 5], 6), ([1, 1, 6], 3), ([1, 1, 8], 1), ([1, 2, 4], 3), ([1, 10], 3), ([1, 13], 1), ([2, 8], 1), ([23], 1)],
  [([1, 1, 1, 1, 1, 1], 8), ([1, 1, 1, 1, 2], 22), ([1, 1, 1, 3], 12), ([1, 1, 1, 4], 4), ([1, 1, 2, 2], 8), ([1, 1, 5], 4), ([1, 1, 6], 3), ([1, 1, 7], 2), ([1, 2, 3], 2), ([1, 2, 4], 3), ([1, 10], 1), ([1, 11], 2), ([1, 14], 1), ([3, 4], 1), ([24], 1)],
  [([1, 1, 1, 1, 1, 1], 10), ([1, 1, 1, 1, 2], 26), ([1, 1, 1, 3], 12), ([1, 1, 1, 4], 5), ([1, 1, 2, 2], 10), ([1, 1, 5], 4), ([1, 1, 6], 2), ([1, 1, 7], 2), ([1, 2, 3], 2), ([1, 2, 4], 5), ([1, 10], 1), ([1, 12], 2), ([2, 6], 1), ([4, 4], 1), ([25], 1)],
  [([1, 1, 1, 1, 1, 1], 6), ([1, 1, 1, 1, 2], 18), ([1, 1, 1, 3], 8), ([1, 1, 1, 4], 2), ([1, 1, 2, 2], 12), ([1, 1, 5], 2), ([1, 1, 6], 2), ([1, 1, 7], 2), ([1, 2, 3], 6), ([1, 11], 2), ([1, 15], 1), ([2, 2, 2], 2), ([2, 5], 2), ([26], 1)],
  [([1, 1, 1, 1, 1, 1], 12), ([1, 1, 1, 1, 2], 30), ([1, 1, 1, 3], 14), ([1, 1, 1, 4], 5), ([1, 1, 2, 2], 10), ([1, 1, 5], 2), ([1, 1, 6], 5), ([1, 1, 7], 2), ([1, 1, 8], 1), ([1, 2, 3], 4), ([1, 2, 4], 1), ([1, 11], 2), ([1, 13], 1), ([1, 16], 1), ([2, 6], 1), ([27], 1)],
  [([1, 1, 1, 1, 1, 1], 15), ([1, 1, 1, 1, 2], 35), ([1, 1, 1, 3], 12), ([1, 1, 1, 4], 6), ([1, 1, 2, 2], 14), ([1, 1, 5], 2), ([1, 1, 6], 2), ([1, 1, 7], 5), ([1, 2, 3], 3), ([1, 2, 4], 3), ([1, 11], 1), ([1, 12], 1), ([1, 14], 1), ([2, 2, 2], 1), ([2, 7], 2), ([28], 1)],
  [([1, 1, 1, 1, 1, 1], 10), ([1, 1, 1, 1, 2], 26), ([1, 1, 1, 3], 7), ([1, 1, 1, 4], 3), ([1, 1, 2, 2], 18), ([1, 1, 5], 1), ([1, 1, 7], 3), ([1, 2, 3], 8), ([1, 2, 4], 2), ([1, 12], 1), ([1, 15], 1), ([2, 2, 2], 2), ([2, 5], 1), ([2, 7], 1), ([3, 3], 1), ([29], 1)],
  [([1, 1, 1, 1, 1, 1], 20), ([1, 1, 1, 1, 2], 44), ([1, 1, 1, 3], 12), ([1, 1, 1, 4], 7), ([1, 1, 2, 2], 18), ([1, 1, 5], 2), ([1, 1, 7], 4), ([1, 1, 8], 1), ([1, 2, 3], 4), ([1, 2, 4], 6), ([1, 12], 2), ([1, 16], 1), ([2, 8], 1), ([3, 4], 1), ([30], 1)],
  [([1, 1, 1, 1, 1, 1], 24), ([1, 1, 1, 1, 2], 48), ([1, 1, 1, 3], 24), ([1, 1, 1, 4], 12), ([1, 1, 6], 12), ([1, 1, 8], 4), ([1, 13], 4), ([1, 17], 1), ([31], 1)],
  [([1, 1, 1, 1, 1, 1], 30), ([1, 1, 1, 1, 2], 54), ([1, 1, 1, 3], 18), ([1, 1, 1, 4], 15), ([1, 1, 2, 2], 6), ([1, 1, 6], 6), ([1, 1, 7], 6), ([1, 1, 8], 2), ([1, 2, 4], 3), ([1, 13], 1), ([1, 14], 3), ([2, 8], 1), ([32], 1)],
  [([1, 1, 1, 1, 1, 1], 20), ([1, 1, 1, 1, 2], 40), ([1, 1, 1, 3], 8), ([1, 1, 1, 4], 9), ([1, 1, 2, 2], 18), ([1, 1, 6], 1), ([1, 1, 7], 6), ([1, 2, 3], 6), ([1, 2, 4], 4), ([1, 14], 1), ([1, 15], 2), ([2, 6], 1), ([3, 4], 1), ([33], 1)],
  [([1, 1, 1, 1, 1, 1], 40), ([1, 1, 1, 1, 2], 64), ([1, 1, 1, 3], 12), ([1, 1, 1, 4], 20), ([1, 1, 2, 2], 12), ([1, 1, 6], 2), ([1, 1, 7], 8), ([1, 1, 8], 2), ([1, 2, 4], 6), ([1, 14], 2), ([1, 16], 2), ([4, 4], 1), ([34], 1)],
  [([1, 1, 1, 1, 1, 1], 30), ([1, 1, 1, 1, 2], 54), ([1, 1, 1, 3], 6), ([1, 1, 1, 4], 12), ([1, 1, 2, 2], 24), ([1, 1, 7], 6), ([1, 1, 8], 2), ([1, 2, 3], 4), ([1, 2, 4], 4), ([1, 15], 1), ([1, 16], 2), ([2, 2, 2], 2), ([2, 7], 2), ([35], 1)],
  [([1, 1, 1, 1, 1, 1], 60), ([1, 1, 1, 1, 2], 84), ([1, 1, 1, 3], 6), ([1, 1, 1, 4], 27), ([1, 1, 2, 2], 18), ([1, 1, 7], 6), ([1, 1, 8], 7), ([1, 2, 4], 6), ([1, 16], 3), ([1, 17], 1), ([2, 8], 1), ([36], 1)],
  [([1, 1, 1, 1, 1, 1], 120), ([1, 1, 1, 1, 2], 120), ([1, 1, 1, 4], 60), ([1, 1, 8], 20), ([1, 17], 5), ([37], 1)]]
def ETab : List Pol := [
  [([], 1)],
  [([1], 1)],
  [([1, 1], 5004), ([2], 1)],
  [([1, 1, 1], 1668), ([1, 2], 1), ([3], 1)],
  [([1, 1, 1], 3336), ([1, 2], 1), ([4], 1)],
  [([1, 1, 1, 1], 417), ([1, 1, 2], 5004), ([1, 3], 1), ([2, 2], 5004), ([5], 1)],
  [([1, 1, 1, 1], 834), ([1, 1, 2], 6672), ([1, 3], 1), ([1, 4], 5004), ([6], 1)],
  [([1, 1, 1, 1], 1251), ([1, 1, 2], 8340), ([1, 3], 5004), ([1, 4], 5004), ([2, 2], 5004), ([7], 1)],
  [([1, 1, 1, 1], 2502), ([1, 1, 2], 1), ([1, 4], 5005), ([8], 1)],
  [([1, 1, 1, 1, 1], 8089), ([1, 1, 1, 2], 1668), ([1, 1, 3], 5004), ([1, 2, 2], 5004), ([1, 5], 1), ([2, 3], 1), ([9], 1)],
  [([1, 1, 1, 1, 1], 6171), ([1, 1, 1, 2], 2502), ([1, 1, 3], 6672), ([1, 1, 4], 1668), ([1, 2, 2], 3336), ([1, 5], 1), ([1, 6], 5004), ([2, 4], 5004), ([10], 1)],
  [([1, 1, 1, 1, 1], 4253), ([1, 1, 1, 2], 3336), ([1, 1, 3], 6672), ([1, 1, 4], 1668), ([1, 2, 2], 5004), ([1, 5], 5004), ([1, 6], 5004), ([1, 7], 5004), ([2, 3], 5004), ([11], 1)],
  [([1, 1, 1, 1, 1], 2335), ([1, 1, 1, 2], 4170), ([1, 1, 3], 6672), ([1, 1, 4], 1668), ([1, 2, 2], 6672), ([1, 5], 5004), ([1, 7], 5004), ([2, 3], 5004), ([2, 4], 5004), ([12], 1)],
  [([1, 1, 1, 1, 1], 8506), ([1, 1, 1, 2], 5004), ([1, 1, 3], 1), ([1, 1, 4], 5004), ([1, 6], 5005), ([1, 8], 5004), ([13], 1)],
  [([1, 1, 1, 1, 1], 4670), ([1, 1, 1, 2], 5838), ([1, 1, 3], 6672), ([1, 1, 4], 6672), ([1, 2, 2], 3336), ([1, 6], 5004), ([1, 7], 1), ([2, 4], 5004), ([14], 1)],
  [([1, 1, 1, 1, 1], 8506), ([1, 1, 1, 2], 5004), ([1, 1, 3], 3336), ([1, 1, 4], 3336), ([1, 2, 2], 1), ([1, 7], 1), ([2, 3], 1), ([15], 1)],
  [([1, 1, 1, 1, 1], 7005), ([1, 1, 1, 2], 7506), ([1, 1, 3], 3336), ([1, 1, 4], 8340), ([1, 2, 2], 6672), ([1, 7], 1), ([1, 8], 5004), ([2, 4], 5004), ([16], 1)],
  [([1, 1, 1, 1, 1], 4003), ([1, 1, 1, 2], 1), ([1, 1, 4], 2), ([1, 8], 2), ([17], 1)],
  [([1, 1, 1, 1, 1, 1], 3016), ([1, 1, 1, 1, 2], 417), ([1, 1, 1, 3], 1668), ([1, 1, 2, 2], 2502), ([1, 1, 5], 5004), ([1, 2, 3], 1), ([1, 9], 1), ([2, 2, 2], 1668), ([2, 5], 1), ([3, 3], 5004), ([18], 1)],
  [([1, 1, 1, 1, 1, 1], 6032), ([1, 1, 1, 1, 2], 4670), ([1, 1, 1, 3], 2502), ([1, 1, 1, 4], 417), ([1, 1, 2, 2], 2502), ([1, 1, 5], 6672), ([1, 1, 6], 1668), ([1, 2, 3], 6672), ([1, 2, 4], 3336), ([1, 9], 1), ([1, 10], 5004), ([2, 6], 5004), ([3, 4], 5004), ([19], 1)],
  [([1, 1, 1, 1, 1, 1], 9048), ([1, 1, 1, 1, 2], 8923), ([1, 1, 1, 3], 2919), ([1, 1, 1, 4], 417), ([1, 1, 2, 2], 3336), ([1, 1, 5], 6672), ([1, 1, 6], 1668), ([1, 1, 7], 1668), ([1, 2, 3], 6672), ([1, 2, 4], 1668), ([1, 9], 5004), ([1, 10], 5004), ([1, 11], 5004), ([2, 2, 2], 1668), ([2, 5], 5004), ([2, 7], 5004), ([20], 1)],
  [([1, 1, 1, 1, 1, 1], 2057), ([1, 1, 1, 1, 2], 3169), ([1, 1, 1, 3], 3336), ([1, 1, 1, 4], 417), ([1, 1, 2, 2], 4170), ([1, 1, 5], 5004), ([1, 1, 6], 1668), ([1, 1, 7], 1668), ([1, 2, 3], 1669), ([1, 2, 4], 1668), ([1, 9], 5004), ([1, 11], 5004), ([1, 12], 5004), ([2, 6], 5004), ([3, 3], 5004), ([21], 1)],
  [([1, 1, 1, 1, 1, 1], 5073), ([1, 1, 1, 1, 2], 7422), ([1, 1, 1, 3], 3753), ([1, 1, 1, 4], 417), ([1, 1, 2, 2], 5004), ([1, 1, 5], 6672), ([1, 1, 7], 1668), ([1, 2, 3], 1), ([1, 2, 4], 3336), ([1, 9], 5004), ([1, 12], 5004), ([2, 2, 2], 1668), ([2, 5], 5004), ([2, 7], 5004), ([3, 4], 5004), ([22], 1)],
  [([1, 1, 1, 1, 1, 1], 8089), ([1, 1, 1, 1, 2], 5504), ([1, 1, 1, 3], 5004), ([1, 1, 1, 4], 1251), ([1, 1, 2, 2], 2502), ([1, 1, 5], 1), ([1, 1, 6], 5004), ([1, 1, 8], 1668), ([1, 2, 4], 5004), ([1, 10], 5005), ([1, 13], 5004), ([2, 8], 5004), ([23], 1)],
  [([1, 1, 1, 1, 1, 1], 4114), ([1, 1, 1, 1, 2], 7839), ([1, 1, 1, 3], 5004), ([1, 1, 1, 4], 1668), ([1, 1, 2, 2], 3336), ([1, 1, 5], 6672), ([1, 1, 6], 5004), ([1, 1, 7], 3336), ([1, 2, 3], 3336), ([1, 2, 4], 5004), ([1, 10], 5004), ([1, 11], 1), ([1, 14], 5004), ([3, 4], 5004), ([24], 1)],
  [([1, 1, 1, 1, 1, 1], 139), ([1, 1, 1, 1, 2], 167), ([1, 1, 1, 3], 5004), ([1, 1, 1, 4], 2085), ([1, 1, 2, 2], 4170), ([1, 1, 5], 6672), ([1, 1, 6], 3336), ([1, 1, 7], 3336), ([1, 2, 3], 3336), ([1, 2, 4], 8340), ([1, 10], 5004), ([1, 12], 1), ([2, 6], 5004), ([4, 4], 5004), ([25], 1)],
  [([1, 1, 1, 1, 1, 1], 8089), ([1, 1, 1, 1, 2], 5504), ([1, 1, 1, 3], 3336), ([1, 1, 1, 4], 834), ([1, 1, 2, 2], 5004), ([1, 1, 5], 3336), ([1, 1, 6], 3336), ([1, 1, 7], 3336), ([1, 2, 3], 1), ([1, 11], 1), ([1, 15], 5004), ([2, 2, 2], 3336), ([2, 5], 1), ([26], 1)],
  [([1, 1, 1, 1, 1, 1], 6171), ([1, 1, 1, 1, 2], 2502), ([1, 1, 1, 3], 5838), ([1, 1, 1, 4], 2085), ([1, 1, 2, 2], 4170), ([1, 1, 5], 3336), ([1, 1, 6], 8340), ([1, 1, 7], 3336), ([1, 1, 8], 1668), ([1, 2, 3], 6672), ([1, 2, 4], 1668), ([1, 11], 1), ([1, 13], 5004), ([1, 16], 5004), ([2, 6], 5004), ([27], 1)],
  [([1, 1, 1, 1, 1, 1], 5212), ([1, 1, 1, 1, 2], 2919), ([1, 1, 1, 3], 5004), ([1, 1, 1, 4], 2502), ([1, 1, 2, 2], 5838), ([1, 1, 5], 3336), ([1, 1, 6], 3336), ([1, 1, 7], 8340), ([1, 2, 3], 5004), ([1, 2, 4], 5004), ([1, 11], 5004), ([1, 12], 5004), ([1, 14], 5004), ([2, 2, 2], 1668), ([2, 7], 1), ([28], 1)],
  [([1, 1, 1, 1, 1, 1], 139), ([1, 1, 1, 1, 2], 167), ([1, 1, 1, 3], 2919), ([1, 1, 1, 4], 1251), ([1, 1, 2, 2], 7506), ([1, 1, 5], 1668), ([1, 1, 7], 5004), ([1, 2, 3], 3337), ([1, 2, 4], 3336), ([1, 12], 5004), ([1, 15], 5004), ([2, 2, 2], 3336), ([2, 5], 5004), ([2, 7], 5004), ([3, 3], 5004), ([29], 1)],
  [([1, 1, 1, 1, 1, 1], 278), ([1, 1, 1, 1, 2], 5671), ([1, 1, 1, 3], 5004), ([1, 1, 1, 4], 2919), ([1, 1, 2, 2], 7506), ([1, 1, 5], 3336), ([1, 1, 7], 6672), ([1, 1, 8], 1668), ([1, 2, 3], 6672), ([1, 2, 4], 1), ([1, 12], 1), ([1, 16], 5004), ([2, 8], 5004), ([3, 4], 5004), ([30], 1)],
  [([1, 1, 1, 1, 1, 1], 2335), ([1, 1, 1, 1, 2], 8006), ([1, 1, 1, 3], 1), ([1, 1, 1, 4], 5004), ([1, 1, 6], 2), ([1, 1, 8], 6672), ([1, 13], 2), ([1, 17], 5004), ([31], 1)],
  [([1, 1, 1, 1, 1, 1], 417), ([1, 1, 1, 1, 2], 6505), ([1, 1, 1, 3], 7506), ([1, 1, 1, 4], 6255), ([1, 1, 2, 2], 2502), ([1, 1, 6], 1), ([1, 1, 7], 1), ([1, 1, 8], 3336), ([1, 2, 4], 5004), ([1, 13], 5004), ([1, 14], 5005), ([2, 8], 5004), ([32], 1)],
  [([1, 1, 1, 1, 1, 1], 278), ([1, 1, 1, 1, 2], 3336), ([1, 1, 1, 3], 3336), ([1, 1, 1, 4], 3753), ([1, 1, 2, 2], 7506), ([1, 1, 6], 1668), ([1, 1, 7], 1), ([1, 2, 3], 1), ([1, 2, 4], 6672), ([1, 14], 5004), ([1, 15], 1), ([2, 6], 5004), ([3, 4], 5004), ([33], 1)],
  [([1, 1, 1, 1, 1, 1], 556), ([1, 1, 1, 1, 2], 7339), ([1, 1, 1, 3], 5004), ([1, 1, 1, 4], 8340), ([1, 1, 2, 2], 5004), ([1, 1, 6], 3336), ([1, 1, 7], 3337), ([1, 1, 8], 3336), ([1, 2, 4], 1), ([1, 14], 1), ([1, 16], 1), ([4, 4], 5004), ([34], 1)],
  [([1, 1, 1, 1, 1, 1], 417), ([1, 1, 1, 1, 2], 6505), ([1, 1, 1, 3], 2502), ([1, 1, 1, 4], 5004), ([1, 1, 2, 2], 1), ([1, 1, 7], 1), ([1, 1, 8], 3336), ([1, 2, 3], 6672), ([1, 2, 4], 6672), ([1, 15], 5004), ([1, 16], 1), ([2, 2, 2], 3336), ([2, 7], 1), ([35], 1)],
  [([1, 1, 1, 1, 1, 1], 834), ([1, 1, 1, 1, 2], 9007), ([1, 1, 1, 3], 2502), ([1, 1, 1, 4], 1252), ([1, 1, 2, 2], 7506), ([1, 1, 7], 1), ([1, 1, 8], 1669), ([1, 2, 4], 1), ([1, 16], 5005), ([1, 17], 5004), ([2, 8], 5004), ([36], 1)],
  [([1, 1, 1, 1, 1, 1], 1668), ([1, 1, 1, 1, 2], 1), ([1, 1, 1, 4], 5006), ([1, 1, 8], 3339), ([1, 17], 5006), ([37], 1)]]
end Go.Proofs.YtdjhfeaimmpmhaaGreat

set_option maxRecDepth 100000
set_option linter.unusedVariables false
set_option linter.unusedSimpArgs false
namespace Go.Proofs.YtdjhfeaimmpmhaaGreat

/-! ### the action -/
def actT (b x : Nat → Int) (c : MCt) : Int := match c.1.1 with
  | [k] => (c.2 : Int) * (b k * x c.1.2)
  | _ => 0
def actV (b x : Nat → Int) (p : Nat) : Int := sumF (actT b x) (CP p)
def actL (X : Nat → Pol) : List MCt → Pol
  | [] => []
  | c :: cs => match c.1.1 with
    | [k] => mulT ([k], c.2) (X c.1.2) (actL X cs)
    | _ => actL X cs
theorem actL_pv {b y : Nat → Int} {X : Nat → Pol} : ∀ {l : List MCt}, (∀ c ∈ l, pv b (X c.1.2) % 10007 = y c.1.2 % 10007) → pv b (actL X l) % 10007 = sumF (actT b y) l % 10007
  | [], _ => rfl
  | c :: l, h => by
    have h1 := h c (by simp)
    have ih := actL_pv (l := l) fun d hd => h d (by simp [hd])
    obtain ⟨⟨cr, tr⟩, n⟩ := c
    match cr with
    | [] => show pv b (actL X l) % 10007 = (0 + sumF (actT b y) l) % 10007; rw [Int.zero_add]; exact ih
    | [k] =>
      show pv b (mulT ([k], n) (X tr) (actL X l)) % 10007 = ((n : Int) * (b k * y tr) + sumF (actT b y) l) % 10007
      rw [mulT_pv]
      have e : tmv b ([k], n) * pv b (X tr) % 10007 = (n : Int) * (b k * y tr) % 10007 := by
        unfold tmv
        rw [pz_cons, pz_nil, Int.mul_one, Int.mul_assoc]
        show (n : Int) * (b k * pv b (X tr)) % 10007 = _
        have h2 : b k * pv b (X tr) % 10007 = b k * y tr % 10007 := by rw [Int.mul_emod, h1, ← Int.mul_emod]
        rw [Int.mul_emod, h2, ← Int.mul_emod]
      omega
    | k :: j :: ks => show pv b (actL X l) % 10007 = (0 + sumF (actT b y) l) % 10007; rw [Int.zero_add]; exact ih
theorem actV_mod {b b' x x' : Nat → Int} {p : Nat} (h : ∀ c ∈ CP p, (∀ k ∈ c.1.1, b k % 10007 = b' k % 10007) ∧ x c.1.2 % 10007 = x' c.1.2 % 10007) : actV b x p % 10007 = actV b' x' p % 10007 := by
  unfold actV
  refine sumF_modc fun c hc => ?_
  obtain ⟨h1, h2⟩ := h c hc
  obtain ⟨⟨cr, tr⟩, n⟩ := c
  match cr with
  | [] => rfl
  | [k] =>
    show (n : Int) * (b k * x tr) % 10007 = (n : Int) * (b' k * x' tr) % 10007
    rw [Int.mul_emod, Int.mul_emod (b k), h1 k (by simp), h2, ← Int.mul_emod (b' k), ← Int.mul_emod]
  | k :: j :: ks => rfl
/-! ### the powers -/
def pT (p : Nat) : Pol := PTab.getD p []
def eT (p : Nat) : Pol := ETab.getD p []
/-- the terms of k factors -/
def degP (k : Nat) : Pol → Pol
  | [] => []
  | t :: P => bif Nat.beq t.1.length k then t :: degP k P else degP k P
/-- the powers of the action on the unit -/
def xV (b : Nat → Int) : Nat → Nat → Int
  | 0 => un
  | k + 1 => actV b (xV b k)
theorem ex1 : (List.range 38).all (fun p => eqPl (dz (degP 0 (pT p))) (bif Nat.beq p 0 then [([], 1)] else [])) = true := by decide +kernel
theorem ex2 : (List.range 6).all (fun k => (List.range 38).all fun p => eqPl (dz (actL (fun q => degP k (pT q)) (CP p))) (dz (degP (k + 1) (pT p)))) = true := by decide +kernel
theorem xV_pv (b : Nat → Int) : ∀ (k p : Nat), k ≤ 6 → p < 38 → xV b k p % 10007 = pv b (degP k (pT p)) % 10007
  | 0, p, _, hp => by
    have h1 := ex1
    rw [List.all_eq_true] at h1
    have h2 := eqPl_iff (h1 p (by simpa using hp))
    rw [← dz_pv, h2]
    show un p % 10007 = _
    unfold un
    cases p with
    | zero => rfl
    | succ p => rfl
  | k + 1, p, hk, hp => by
    have h1 := ex2
    rw [List.all_eq_true] at h1
    have h2 := h1 k (List.mem_range.2 (by omega))
    rw [List.all_eq_true] at h2
    rw [← pv_eq (h2 p (by simpa using hp))]
    have h3 := actL_pv (b := b) (y := xV b k) (X := fun q => degP k (pT q)) (l := CP p) fun c hc => (xV_pv b k c.1.2 (by omega) (by have := (pc_at hp hc).2; omega)).symm
    rw [h3]
    rfl
/-! ### the exponential -/
/-- what the program multiplies the powers by: the inverse factorials -/
def ifa : Nat → Nat
  | 0 => 1
  | 1 => 1
  | 2 => 5004
  | 3 => 1668
  | 4 => 417
  | 5 => 8089
  | _ => 3016
/-- the sum of the first powers -/
def eV (b : Nat → Int) : Nat → Nat → Int
  | 0, p => un p
  | k + 1, p => eV b k p + (ifa (k + 1) : Int) * xV b (k + 1) p
def eS : Nat → Nat → Pol
  | 0, p => degP 0 (pT p)
  | k + 1, p => addP (eS k p) (sclP (ifa (k + 1)) (degP (k + 1) (pT p)))
theorem ex3 : (List.range 38).all (fun p => eqPl (dz (eS 6 p)) (dz (eT p))) = true := by decide +kernel
theorem eS_pv (b : Nat → Int) : ∀ (k p : Nat), k ≤ 6 → p < 38 → eV b k p % 10007 = pv b (eS k p) % 10007
  | 0, p, hk, hp => xV_pv b 0 p hk hp
  | k + 1, p, hk, hp => by
    show (eV b k p + (ifa (k + 1) : Int) * xV b (k + 1) p) % 10007 = pv b (addP (eS k p) (sclP (ifa (k + 1)) (degP (k + 1) (pT p)))) % 10007
    have h1 := eS_pv b k p (by omega) hp
    have h2 := xV_pv b (k + 1) p hk hp
    rw [addP_pv]
    have h3 := sclP_pv b (ifa (k + 1)) (degP (k + 1) (pT p))
    have h4 : (ifa (k + 1) : Int) * xV b (k + 1) p % 10007 = (ifa (k + 1) : Int) * pv b (degP (k + 1) (pT p)) % 10007 := by rw [Int.mul_emod, h2, ← Int.mul_emod]
    omega
theorem eV_pv (b : Nat → Int) {p : Nat} (hp : p < 38) : eV b 6 p % 10007 = pv b (eT p) % 10007 := by
  have h1 := ex3
  rw [List.all_eq_true] at h1
  rw [eS_pv b 6 p (by omega) hp, pv_eq (h1 p (by simpa using hp))]
/-! ### the opposite map -/
def negP : Pol → Pol
  | [] => []
  | t :: P => (t.1, bif Nat.beq (t.1.length % 2) 0 then t.2 else 10007 - t.2 % 10007) :: negP P
theorem pz_neg (b : Nat → Int) : ∀ ks : List Nat, pz (fun k => - b k) ks = if ks.length % 2 = 0 then pz b ks else - pz b ks
  | [] => rfl
  | k :: ks => by
    rw [pz_cons, pz_cons, pz_neg b ks, List.length_cons]
    by_cases h : ks.length % 2 = 0
    · rw [if_pos h, if_neg (by omega), Int.neg_mul]
    · rw [if_neg h, if_pos (by omega), Int.neg_mul, Int.mul_neg, Int.neg_neg]
theorem negP_pv (b : Nat → Int) (P : Pol) : pv b (negP P) % 10007 = pv (fun k => - b k) P % 10007 := by
  induction P with
  | nil => rfl
  | cons t P ih =>
    show (tmv b (t.1, bif Nat.beq (t.1.length % 2) 0 then t.2 else 10007 - t.2 % 10007) + pv b (negP P)) % 10007 = (tmv (fun k => - b k) t + pv (fun k => - b k) P) % 10007
    have e : tmv b (t.1, bif Nat.beq (t.1.length % 2) 0 then t.2 else 10007 - t.2 % 10007) % 10007 = tmv (fun k => - b k) t % 10007 := by
      unfold tmv
      rw [pz_neg]
      by_cases h : t.1.length % 2 = 0
      · rw [if_pos h, h]; rfl
      · rw [if_neg h]
        have h1 : Nat.beq (t.1.length % 2) 0 = false := by
          cases hb : Nat.beq (t.1.length % 2) 0 with
          | false => rfl
          | true => exact absurd (Nat.eq_of_beq_eq_true hb) h
        show (((bif Nat.beq (t.1.length % 2) 0 then t.2 else 10007 - t.2 % 10007 : Nat)) : Int) * pz b t.1 % 10007 = _
        rw [h1, cond_false]
        have h2 : ((10007 - t.2 % 10007 : Nat) : Int) = 10007 - (t.2 : Int) % 10007 := by omega
        rw [h2, Int.mul_neg]
        generalize pz b t.1 = z
        have h3 : (10007 - (t.2 : Int) % 10007) * z % 10007 = (-(t.2 : Int)) * z % 10007 := by
          rw [Int.mul_emod, Int.mul_emod (-(t.2 : Int))]
          congr 2
          omega
        rw [h3, Int.neg_mul]
    omega
/-- the convolution of the exponentials of the opposite map and of the map -/
def cvL (S T : Nat → Pol) : List MCt → Pol
  | [] => []
  | c :: cs => addP (sclP c.2 (mulP (subM S c.1.1) (T c.1.2))) (cvL S T cs)
theorem cvL_pv {b x y : Nat → Int} {S T : Nat → Pol} : ∀ {l : List MCt}, (∀ c ∈ l, (∀ k ∈ c.1.1, pv b (S k) % 10007 = x k % 10007) ∧ pv b (T c.1.2) % 10007 = y c.1.2 % 10007) → pv b (cvL S T l) % 10007 = sumF (cvT x y) l % 10007
  | [], _ => rfl
  | c :: l, h => by
    obtain ⟨h1, h2⟩ := h c (by simp)
    have ih := cvL_pv (l := l) fun d hd => h d (by simp [hd])
    show pv b (addP (sclP c.2 (mulP (subM S c.1.1) (T c.1.2))) (cvL S T l)) % 10007 = (cvT x y c + sumF (cvT x y) l) % 10007
    rw [addP_pv]
    have e1 := subM_pv h1
    have e2 := mulP_pv b (subM S c.1.1) (T c.1.2)
    have e3 := sclP_pv b c.2 (mulP (subM S c.1.1) (T c.1.2))
    have e4 : pv b (mulP (subM S c.1.1) (T c.1.2)) % 10007 = pz x c.1.1 * y c.1.2 % 10007 := by rw [e2, Int.mul_emod, e1, h2, ← Int.mul_emod]
    have e5 : (c.2 : Int) * pv b (mulP (subM S c.1.1) (T c.1.2)) % 10007 = cvT x y c % 10007 := by
      unfold cvT
      rw [Int.mul_emod, e4, ← Int.mul_emod]
    omega
def nT (p : Nat) : Pol := negP (eT p)
theorem ex4 : (List.range 38).all (fun p => eqPl (dz (cvL nT eT (CP p))) (bif Nat.beq p 0 then [([], 1)] else [])) = true := by decide +kernel
/-- the exponential of the opposite map is an inverse on the left -/
theorem exp_neg (b : Nat → Int) {p : Nat} (hp : p < 38) : cv (eV (fun k => - b k) 6) (eV b 6) p % 10007 = un p % 10007 := by
  have h1 := ex4
  rw [List.all_eq_true] at h1
  have h2 := eqPl_iff (h1 p (by simpa using hp))
  have h3 := cvL_pv (b := b) (x := eV (fun k => - b k) 6) (y := eV b 6) (S := nT) (T := eT) (l := CP p) fun c hc => by
    have hpc := pc_at hp hc
    exact ⟨fun k hk => by rw [nT, negP_pv]; exact (eV_pv _ (by have := hpc.1 k hk; omega)).symm, (eV_pv _ (by have := hpc.2; omega)).symm⟩
  show sumF (cvT (eV (fun k => - b k) 6) (eV b 6)) (CP p) % 10007 = _
  rw [← h3, ← dz_pv, h2]
  cases p with
  | zero => rfl
  | succ p => rfl
end Go.Proofs.YtdjhfeaimmpmhaaGreat

set_option maxRecDepth 100000
set_option linter.unusedVariables false
set_option linter.unusedSimpArgs false
namespace Go.Proofs.YtdjhfeaimmpmhaaGreat

/-! ### smaller trees -/
/-- the numbers of nodes, written out -/
def SzT : List Nat := [0, 1, 2, 3, 3, 4, 4, 4, 4, 5, 5, 5, 5, 5, 5, 5, 5, 5, 6, 6, 6, 6, 6, 6, 6, 6, 6, 6, 6, 6, 6, 6, 6, 6, 6, 6, 6, 6]
def szT (k : Nat) : Nat := SzT.getD k 0
theorem szT_all : (List.range 38).all (fun k => Nat.beq (szT k) (szN k)) = true := by decide +kernel
theorem szT_is {k : Nat} (hk : k < 38) : szT k = szN k := by
  have h1 := szT_all
  rw [List.all_eq_true] at h1
  exact Nat.eq_of_beq_eq_true (h1 k (List.mem_range.2 hk))
def cntO : Pol → Nat
  | [] => 0
  | t :: P => (match t.1 with | [_] => 1 | _ => 0) + cntO P
/-- single values in the exponential at p stand only at p -/
def okO (p : Nat) (t : Tm) : Bool := match t.1 with
  | [k] => Nat.beq k p && Nat.beq t.2 1
  | _ => t.1.all fun k => Nat.blt k 38 && Nat.blt (szT k) (szT p)
theorem eb1 : (List.range 38).all (fun p => Nat.beq p 0 || ((eT p).all (okO p) && Nat.beq (cntO (eT p)) 1)) = true := by decide +kernel
theorem eT_part {x y : Nat → Int} {p : Nat} (h : ∀ k, k < 38 → szT k < szT p → x k % 10007 = y k % 10007) : ∀ P : Pol, (∀ t ∈ P, okO p t = true) → (pv x P - (cntO P : Int) * x p) % 10007 = (pv y P - (cntO P : Int) * y p) % 10007
  | [], _ => by simp [cntO, pv, sumF]
  | (ms, n) :: P, hP => by
    have h1 := hP (ms, n) (by simp)
    have ih := eT_part h P fun t ht => hP t (by simp [ht])
    match ms with
    | [] =>
      show (((n : Int) * 1 + pv x P) - ((0 + cntO P : Nat) : Int) * x p) % 10007 = (((n : Int) * 1 + pv y P) - ((0 + cntO P : Nat) : Int) * y p) % 10007
      rw [Nat.zero_add]
      omega
    | [k] =>
      unfold okO at h1
      simp only [Bool.and_eq_true] at h1
      have e1 := Nat.eq_of_beq_eq_true h1.1
      have e2 := Nat.eq_of_beq_eq_true h1.2
      subst e1 e2
      show ((((1 : Nat) : Int) * (x k * 1) + pv x P) - ((1 + cntO P : Nat) : Int) * x k) % 10007 = ((((1 : Nat) : Int) * (y k * 1) + pv y P) - ((1 + cntO P : Nat) : Int) * y k) % 10007
      rw [Int.natCast_add, Int.add_mul, Int.add_mul]
      simp only [Int.natCast_one, Int.one_mul, Int.mul_one]
      omega
    | k :: j :: ks =>
      unfold okO at h1
      simp only [List.all_eq_true, Bool.and_eq_true] at h1
      show ((tmv x (k :: j :: ks, n) + pv x P) - ((0 + cntO P : Nat) : Int) * x p) % 10007 = ((tmv y (k :: j :: ks, n) + pv y P) - ((0 + cntO P : Nat) : Int) * y p) % 10007
      rw [Nat.zero_add]
      have e : tmv x (k :: j :: ks, n) % 10007 = tmv y (k :: j :: ks, n) % 10007 := by
        unfold tmv
        rw [Int.mul_emod, pz_mod (a := x) (a' := y) (fun q hq => h q (blt_lt (h1 q hq).1) (blt_lt (h1 q hq).2)), ← Int.mul_emod]
      omega
theorem eV_part {x y : Nat → Int} {p : Nat} (h0 : 0 < p) (hp : p < 38) (h : ∀ k, k < 38 → szT k < szT p → x k % 10007 = y k % 10007) : (eV x 6 p - x p) % 10007 = (eV y 6 p - y p) % 10007 := by
  have h1 := eb1
  rw [List.all_eq_true] at h1
  have h2 := h1 p (by simpa using hp)
  simp only [Bool.or_eq_true, Bool.and_eq_true, List.all_eq_true] at h2
  rcases h2 with h3 | ⟨h3, h4⟩
  · have := Nat.eq_of_beq_eq_true h3; omega
  · have e := eT_part h (eT p) h3
    rw [Nat.eq_of_beq_eq_true h4] at e
    simp only [Int.natCast_one, Int.one_mul] at e
    have e1 := eV_pv x hp
    have e2 := eV_pv y hp
    omega
/-- the exponential tells the map -/
theorem eV_inj {x y : Nat → Int} (h0 : x 0 % 10007 = y 0 % 10007) (h : ∀ p, p < 38 → eV x 6 p % 10007 = eV y 6 p % 10007) : ∀ p, p < 38 → x p % 10007 = y p % 10007 := by
  have main : ∀ n, ∀ p, p < 38 → szT p ≤ n → x p % 10007 = y p % 10007 := by
    intro n
    induction n with
    | zero =>
      intro p hp hs
      cases p with
      | zero => exact h0
      | succ p => have := szN_pos (i := p) (by omega); rw [← szT_is hp] at this; omega
    | succ n ih =>
      intro p hp hs
      cases p with
      | zero => exact h0
      | succ p =>
        have e := eV_part (x := x) (y := y) (p := p + 1) (by omega) hp fun k hk38 hk => ih k hk38 (by omega)
        have e2 := h (p + 1) hp
        omega
  exact fun p hp => main _ p hp (Nat.le_refl _)
/-! ### scaling -/
/-- a map scaled by k -/
def scV (k : Int) (x : Nat → Int) (p : Nat) : Int := x p * k ^ szT p
def wgt : List Nat → Nat
  | [] => 0
  | k :: ks => szT k + wgt ks
theorem pz_scV (k : Int) (x : Nat → Int) : ∀ ks : List Nat, pz (scV k x) ks = pz x ks * k ^ wgt ks
  | [] => by rw [pz_nil, pz_nil]; show (1 : Int) = 1 * k ^ 0; rw [Int.pow_zero, Int.mul_one]
  | q :: ks => by
    rw [pz_cons, pz_cons, pz_scV k x ks]
    unfold scV
    show x q * k ^ szT q * (pz x ks * k ^ wgt ks) = x q * pz x ks * k ^ (szT q + wgt ks)
    rw [Int.pow_add]
    simp only [Int.mul_assoc, Int.mul_left_comm, Int.mul_comm]
theorem eb2 : (List.range 38).all (fun p => (eT p).all fun t => Nat.beq (wgt t.1) (szT p)) = true := by decide +kernel
theorem pv_scV (k : Int) (x : Nat → Int) (n : Nat) : ∀ P : Pol, (∀ t ∈ P, wgt t.1 = n) → pv (scV k x) P = pv x P * k ^ n
  | [], _ => by show (0 : Int) = 0 * _; rw [Int.zero_mul]
  | t :: P, h => by
    show tmv (scV k x) t + pv (scV k x) P = (tmv x t + pv x P) * k ^ n
    rw [pv_scV k x n P fun u hu => h u (by simp [hu]), Int.add_mul]
    congr 1
    unfold tmv
    rw [pz_scV, h t (by simp), Int.mul_assoc]
/-- the exponential of a scaled map -/
theorem eV_scV (k : Int) (x : Nat → Int) {p : Nat} (hp : p < 38) : eV (scV k x) 6 p % 10007 = scV k (eV x 6) p % 10007 := by
  have h1 := eb2
  rw [List.all_eq_true] at h1
  have h2 := h1 p (by simpa using hp)
  rw [List.all_eq_true] at h2
  rw [eV_pv _ hp, pv_scV k x (szT p) (eT p) fun t ht => Nat.eq_of_beq_eq_true (h2 t ht)]
  unfold scV
  rw [Int.mul_emod, ← eV_pv x hp, ← Int.mul_emod]
theorem eb3 : (List.range 38).all (fun p => (CP p).all fun c => Nat.beq (wgt c.1.1 + szT c.1.2) (szT p)) = true := by decide +kernel
/-- the convolution of scaled maps -/
theorem cv_scV (k : Int) (x y : Nat → Int) {p : Nat} (hp : p < 38) : cv (scV k x) (scV k y) p = scV k (cv x y) p := by
  have h1 := eb3
  rw [List.all_eq_true] at h1
  have h2 := h1 p (by simpa using hp)
  rw [List.all_eq_true] at h2
  show sumF (cvT (scV k x) (scV k y)) (CP p) = sumF (cvT x y) (CP p) * k ^ szT p
  rw [sumF_mulR]
  refine sumF_congr fun c hc => ?_
  have h3 := Nat.eq_of_beq_eq_true (h2 c hc)
  unfold cvT
  rw [pz_scV]
  unfold scV
  rw [← h3, Int.pow_add]
  simp only [Int.mul_assoc, Int.mul_left_comm, Int.mul_comm]
end Go.Proofs.YtdjhfeaimmpmhaaGreat

