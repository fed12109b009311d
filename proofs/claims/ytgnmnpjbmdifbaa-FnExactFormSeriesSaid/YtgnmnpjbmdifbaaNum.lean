/- Arithmetic modulo 10007, plain. No program in sight. -/
set_option linter.unusedVariables false
set_option linter.unusedSimpArgs false
namespace Go.Proofs.Ytgnmnpjbmdifbaa

/-- a number of the field -/
def IsN (z : Int) : Prop := 0 ≤ z ∧ z ≤ 10006

theorem isN_mod (n : Int) : IsN (n % 10007) := by unfold IsN; omega

theorem tmod_num (n : Int) : (n.tmod 10007 + 10007) % 10007 = n % 10007 := by
  rw [Int.tmod_eq_emod (a := n)]
  split <;> omega

/-- a to the k-th, modulo 10007 -/
def pw (a : Int) (k : Nat) : Int := a ^ k % 10007

theorem pw_step (out a k0 : Int) (k : Nat) (hk : 0 < k) (h : (out * a ^ k) % 10007 = k0) :
    (k % 2 = 1 → ((out * a % 10007) * (a * a % 10007) ^ (k / 2)) % 10007 = k0) ∧ (k % 2 = 0 → (out * (a * a % 10007) ^ (k / 2)) % 10007 = k0) := by
  have hs : ∀ (x : Int) (n : Nat), ((x % 10007) ^ n) % 10007 = (x ^ n) % 10007 := by
    intro x n
    rw [Int.emod_emod_of_dvd _ (Int.dvd_refl _) |>.symm]
    induction n with
    | zero => simp
    | succ n ih =>
      rw [Int.pow_succ, Int.pow_succ, Int.mul_emod, Int.emod_emod_of_dvd _ (Int.dvd_refl _), Int.mul_emod (x ^ n)]
      simp only [Int.emod_emod_of_dvd _ (Int.dvd_refl _)] at ih ⊢
      rw [ih]
  have hsq : ∀ n : Nat, (a * a) ^ n = a ^ (2 * n) := by
    intro n
    induction n with
    | zero => simp
    | succ n ih => rw [Int.pow_succ, ih, show 2 * (n + 1) = 2 * n + 1 + 1 from by omega, Int.pow_succ, Int.pow_succ, Int.mul_assoc]
  constructor
  · intro hodd
    rw [Int.mul_emod, hs, Int.emod_emod_of_dvd _ (Int.dvd_refl _), ← Int.mul_emod, hsq, Int.mul_assoc, ← h]
    congr 2
    rw [show k = 2 * (k / 2) + 1 from by omega, Int.pow_succ, Int.mul_comm a]
    rw [show (2 * (k / 2) + 1) / 2 = k / 2 from by omega]
  · intro hev
    rw [Int.mul_emod, hs, ← Int.mul_emod, hsq, ← h]
    congr 3
    omega

theorem mul_bd {x y : Int} (A B : Int) (h0 : 0 ≤ x) (h1 : x ≤ A) (g0 : 0 ≤ y) (g1 : y ≤ B) : 0 ≤ x * y ∧ x * y ≤ A * B :=
  ⟨Int.mul_nonneg h0 g0, Int.mul_le_mul h1 g1 g0 (Int.le_trans h0 h1)⟩

/-- lo ≤ n ≤ hi, as a test -/
def inR (n lo hi : Int) : Bool := decide (lo ≤ n) && decide (n ≤ hi)
theorem inR_iff {n lo hi : Int} : inR n lo hi = true ↔ lo ≤ n ∧ n ≤ hi := by simp [inR]
theorem inR_not {n lo hi : Int} : inR n lo hi = false ↔ n < lo ∨ hi < n := by
  rw [← Bool.not_eq_true, inR_iff]; omega
def isNum (z : Int) : Bool := inR z 0 10006
def nums (zs : List Int) : Bool := zs.all isNum
theorem nums_iff {zs : List Int} : nums zs = true ↔ ∀ z ∈ zs, 0 ≤ z ∧ z ≤ 10006 := by simp [nums, isNum, inR_iff]
/-- the first index at which p holds, or -1 -/
def idxF {α : Type} (p : α → Bool) (l : List α) : Int := match l.findIdx? p with | some i => (i : Int) | none => -1
theorem idxF_hit {α : Type} {p : α → Bool} {l : List α} {k : Nat} {x : α} (h : ∀ i y, i < k → l[i]? = some y → p y = false) (hx : l[k]? = some x) (hp : p x = true) : idxF p l = (k : Int) := by
  have : l.findIdx? p = some k := by
    rw [List.findIdx?_eq_some_iff_getElem]
    obtain ⟨hk, e⟩ := List.getElem?_eq_some_iff.1 hx
    refine ⟨hk, by rw [e]; exact hp, fun j hj => ?_⟩
    have hj' : j < l.length := by omega
    simp [h j l[j] hj (List.getElem?_eq_getElem hj')]
  simp [idxF, this]
theorem idxF_miss {α : Type} {p : α → Bool} {l : List α} (h : ∀ i y, i < l.length → l[i]? = some y → p y = false) : idxF p l = -1 := by
  have : l.findIdx? p = none := by
    rw [List.findIdx?_eq_none_iff]
    intro x hx
    obtain ⟨i, hi, rfl⟩ := List.getElem_of_mem hx
    simpa using h i l[i] hi (List.getElem?_eq_getElem hi)
  simp [idxF, this]
theorem idxF_nonneg {α : Type} (p : α → Bool) (l : List α) : decide (0 ≤ idxF p l) = l.any p := by
  unfold idxF
  cases h : l.findIdx? p with
  | none =>
    rw [List.findIdx?_eq_none_iff] at h
    have : l.any p = false := by rw [List.any_eq_false]; intro x hx; simp [h x hx]
    rw [this]; decide
  | some i =>
    rw [List.findIdx?_eq_some_iff_getElem] at h
    obtain ⟨hk, e, _⟩ := h
    have : l.any p = true := List.any_eq_true.2 ⟨_, List.getElem_mem hk, e⟩
    rw [this]; simp
theorem any_not_nums (zs : List Int) : (zs.any fun z => !isNum z) = !nums zs := by
  unfold nums
  induction zs with
  | nil => rfl
  | cons z zs ih => simp only [List.any_cons, List.all_cons, ih]; cases isNum z <;> simp
theorem nums_false {zs : List Int} {k : Nat} {z : Int} (h : zs[k]? = some z) (hz : isNum z = false) : nums zs = false := by
  unfold nums
  rw [List.all_eq_false]
  exact ⟨z, List.mem_of_getElem? h, by simp [hz]⟩
theorem nums_all {zs : List Int} (h : ∀ i y, i < zs.length → zs[i]? = some y → isNum y = true) : nums zs = true := by
  unfold nums
  rw [List.all_eq_true]
  intro x hx
  obtain ⟨i, hi, rfl⟩ := List.getElem_of_mem hx
  exact h i _ hi (List.getElem?_eq_getElem hi)

/-- the sum of a function over a list -/
def sumF {α : Type} (f : α → Int) : List α → Int
  | [] => 0
  | x :: xs => f x + sumF f xs
theorem sumF_snoc {α : Type} (f : α → Int) (l : List α) (x : α) : sumF f (l ++ [x]) = sumF f l + f x := by
  induction l with
  | nil => simp [sumF]
  | cons y l ih => simp only [List.cons_append, sumF, ih]; omega
theorem sumF_take {α : Type} (f : α → Int) {l : List α} {k : Nat} {x : α} (h : l[k]? = some x) : sumF f (l.take (k + 1)) = sumF f (l.take k) + f x := by
  rw [List.take_add_one, h]
  exact sumF_snoc f _ x
theorem sumF_bd {α : Type} (f : α → Int) (M : Int) (l : List α) (h : ∀ x ∈ l, 0 ≤ f x ∧ f x ≤ M) : 0 ≤ sumF f l ∧ sumF f l ≤ l.length * M := by
  induction l with
  | nil => simp [sumF]
  | cons y l ih =>
    have h1 := h y (by simp)
    have h2 := ih fun x hx => h x (by simp [hx])
    simp only [sumF, List.length_cons]
    rw [show ((l.length + 1 : Nat) : Int) * M = l.length * M + M by rw [Int.natCast_add, Int.add_mul]; simp]
    omega
theorem pw_bd (a : Int) (k : Nat) : 0 ≤ pw a k ∧ pw a k ≤ 10006 := by unfold pw; omega

end Go.Proofs.Ytgnmnpjbmdifbaa
