/- Arithmetic modulo 10007, plain. No program in sight. | Level lists, plain: what the program and the reference reckon with them. No program in sight. | Plain: products and sums of numbers. No walk. | The cuts of the trees of maps by places: the crown's, the trunk's (0 where there is none), how often. No walk. | Plain: the convolution by a table of cuts; it is associative, and an inverse on one side is one on the other. No walk. | Plain: sums over tables of places, one put into the other (convolutions and substitutions alike), with normal forms that the kernel compares. No walk. | The branches of the trees of maps by places. (printed by btgen.py) No walk. -/
set_option linter.unusedVariables false
set_option linter.unusedSimpArgs false
namespace Go.Proofs.YtdjhfeaimmpmhaaGreat

theorem tmod_num (n : Int) : (n.tmod 10007 + 10007) % 10007 = n % 10007 := by
  rw [Int.tmod_eq_emod (a := n)]
  split <;> omega

/-- a to the k-th, modulo 10007 -/
def pw (a : Int) (k : Nat) : Int := a ^ k % 10007

theorem pw_step (out a k0 : Int) (k : Nat) (hk : 0 < k) (h : (out * a ^ k) % 10007 = k0) :
    (k % 2 = 1 → ((out * a % 10007) * (a * a % 10007) ^ (k / 2)) % 10007 = k0) ∧ (k % 2 = 0 → (out * (a * a % 10007) ^ (k / 2)) % 10007 = k0) := by
  have hs : ∀ (x : Int) (n : Nat), ((x % 10007) ^ n) % 10007 = (x ^ n) % 10007 := by
    intro x n
    rw [Int.emod_emod_of_dvd _ (Int.dvd_refl _) |>.symm]
    induction n with
    | zero => simp
    | succ n ih =>
      rw [Int.pow_succ, Int.pow_succ, Int.mul_emod, Int.emod_emod_of_dvd _ (Int.dvd_refl _), Int.mul_emod (x ^ n)]
      simp only [Int.emod_emod_of_dvd _ (Int.dvd_refl _)] at ih ⊢
      rw [ih]
  have hsq : ∀ n : Nat, (a * a) ^ n = a ^ (2 * n) := by
    intro n
    induction n with
    | zero => simp
    | succ n ih => rw [Int.pow_succ, ih, show 2 * (n + 1) = 2 * n + 1 + 1 from by omega, Int.pow_succ, Int.pow_succ, Int.mul_assoc]
  constructor
  · intro hodd
    rw [Int.mul_emod, hs, Int.emod_emod_of_dvd _ (Int.dvd_refl _), ← Int.mul_emod, hsq, Int.mul_assoc, ← h]
    congr 2
    rw [show k = 2 * (k / 2) + 1 from by omega, Int.pow_succ, Int.mul_comm a]
    rw [show (2 * (k / 2) + 1) / 2 = k / 2 from by omega]
  · intro hev
    rw [Int.mul_emod, hs, ← Int.mul_emod, hsq, ← h]
    congr 3
    omega

theorem mul_bd {x y : Int} (A B : Int) (h0 : 0 ≤ x) (h1 : x ≤ A) (g0 : 0 ≤ y) (g1 : y ≤ B) : 0 ≤ x * y ∧ x * y ≤ A * B :=
  ⟨Int.mul_nonneg h0 g0, Int.mul_le_mul h1 g1 g0 (Int.le_trans h0 h1)⟩

/-- lo ≤ n ≤ hi, as a test -/
def inR (n lo hi : Int) : Bool := decide (lo ≤ n) && decide (n ≤ hi)
theorem inR_iff {n lo hi : Int} : inR n lo hi = true ↔ lo ≤ n ∧ n ≤ hi := by simp [inR]
def isNum (z : Int) : Bool := inR z 0 10006
def nums (zs : List Int) : Bool := zs.all isNum
theorem nums_iff {zs : List Int} : nums zs = true ↔ ∀ z ∈ zs, 0 ≤ z ∧ z ≤ 10006 := by simp [nums, isNum, inR_iff]
/-- the first index at which p holds, or -1 -/
def idxF {α : Type} (p : α → Bool) (l : List α) : Int := match l.findIdx? p with | some i => (i : Int) | none => -1
theorem idxF_hit {α : Type} {p : α → Bool} {l : List α} {k : Nat} {x : α} (h : ∀ i y, i < k → l[i]? = some y → p y = false) (hx : l[k]? = some x) (hp : p x = true) : idxF p l = (k : Int) := by
  have : l.findIdx? p = some k := by
    rw [List.findIdx?_eq_some_iff_getElem]
    obtain ⟨hk, e⟩ := List.getElem?_eq_some_iff.1 hx
    refine ⟨hk, by rw [e]; exact hp, fun j hj => ?_⟩
    have hj' : j < l.length := by omega
    simp [h j l[j] hj (List.getElem?_eq_getElem hj')]
  simp [idxF, this]
theorem idxF_miss {α : Type} {p : α → Bool} {l : List α} (h : ∀ i y, i < l.length → l[i]? = some y → p y = false) : idxF p l = -1 := by
  have : l.findIdx? p = none := by
    rw [List.findIdx?_eq_none_iff]
    intro x hx
    obtain ⟨i, hi, rfl⟩ := List.getElem_of_mem hx
    simpa using h i l[i] hi (List.getElem?_eq_getElem hi)
  simp [idxF, this]
theorem idxF_nonneg {α : Type} (p : α → Bool) (l : List α) : decide (0 ≤ idxF p l) = l.any p := by
  unfold idxF
  cases h : l.findIdx? p with
  | none =>
    rw [List.findIdx?_eq_none_iff] at h
    have : l.any p = false := by rw [List.any_eq_false]; intro x hx; simp [h x hx]
    rw [this]; decide
  | some i =>
    rw [List.findIdx?_eq_some_iff_getElem] at h
    obtain ⟨hk, e, _⟩ := h
    have : l.any p = true := List.any_eq_true.2 ⟨_, List.getElem_mem hk, e⟩
    rw [this]; simp
theorem any_not_nums (zs : List Int) : (zs.any fun z => !isNum z) = !nums zs := by
  unfold nums
  induction zs with
  | nil => rfl
  | cons z zs ih => simp only [List.any_cons, List.all_cons, ih]; cases isNum z <;> simp
theorem nums_false {zs : List Int} {k : Nat} {z : Int} (h : zs[k]? = some z) (hz : isNum z = false) : nums zs = false := by
  unfold nums
  rw [List.all_eq_false]
  exact ⟨z, List.mem_of_getElem? h, by simp [hz]⟩
theorem nums_all {zs : List Int} (h : ∀ i y, i < zs.length → zs[i]? = some y → isNum y = true) : nums zs = true := by
  unfold nums
  rw [List.all_eq_true]
  intro x hx
  obtain ⟨i, hi, rfl⟩ := List.getElem_of_mem hx
  exact h i _ hi (List.getElem?_eq_getElem hi)

/-- the sum of a function over a list -/
def sumF {α : Type} (f : α → Int) : List α → Int
  | [] => 0
  | x :: xs => f x + sumF f xs
theorem sumF_snoc {α : Type} (f : α → Int) (l : List α) (x : α) : sumF f (l ++ [x]) = sumF f l + f x := by
  induction l with
  | nil => simp [sumF]
  | cons y l ih => simp only [List.cons_append, sumF, ih]; omega
theorem sumF_take {α : Type} (f : α → Int) {l : List α} {k : Nat} {x : α} (h : l[k]? = some x) : sumF f (l.take (k + 1)) = sumF f (l.take k) + f x := by
  rw [List.take_add_one, h]
  exact sumF_snoc f _ x
theorem sumF_bd {α : Type} (f : α → Int) (M : Int) (l : List α) (h : ∀ x ∈ l, 0 ≤ f x ∧ f x ≤ M) : 0 ≤ sumF f l ∧ sumF f l ≤ l.length * M := by
  induction l with
  | nil => simp [sumF]
  | cons y l ih =>
    have h1 := h y (by simp)
    have h2 := ih fun x hx => h x (by simp [hx])
    simp only [sumF, List.length_cons]
    rw [show ((l.length + 1 : Nat) : Int) * M = l.length * M + M by rw [Int.natCast_add, Int.add_mul]; simp]
    omega
theorem pw_bd (a : Int) (k : Nat) : 0 ≤ pw a k ∧ pw a k ≤ 10006 := by unfold pw; omega

end Go.Proofs.YtdjhfeaimmpmhaaGreat

set_option linter.unusedVariables false
set_option linter.unusedSimpArgs false
namespace Go.Proofs.YtdjhfeaimmpmhaaGreat

/-- natural numbers as integers -/
def up (t : List Nat) : List Int := t.map fun (n : Nat) => (n : Int)
theorem up_len (t : List Nat) : (up t).length = t.length := by simp [up]
theorem up_get (t : List Nat) (k : Nat) : (up t)[k]? = t[k]?.map fun (n : Nat) => (n : Int) := by simp [up]
theorem up_append (a b : List Nat) : up (a ++ b) = up a ++ up b := by simp [up]
theorem up_inj {a b : List Nat} (h : up a = up b) : a = b := by
  have e : ∀ l : List Nat, (up l).map Int.toNat = l := by
    intro l
    simp only [up, List.map_map]
    have : (Int.toNat ∘ fun n : Nat => (n : Int)) = id := by funext n; simp
    rw [this, List.map_id]
  rw [← e a, ← e b, h]

def eqN : List Nat → List Nat → Bool
  | [], [] => true
  | [], _ :: _ => false
  | _ :: _, [] => false
  | a :: ar, b :: bs => bif Nat.beq a b then eqN ar bs else false
theorem eqN_iff : ∀ {a b : List Nat}, eqN a b = true ↔ a = b
  | [], [] => by simp [eqN]
  | [], _ :: _ => by simp [eqN]
  | _ :: _, [] => by simp [eqN]
  | a :: ar, b :: bs => by
    rw [eqN]
    cases h : Nat.beq a b with
    | true => have := Nat.eq_of_beq_eq_true h; subst this; simp [eqN_iff (a := ar) (b := bs)]
    | false => have := Nat.ne_of_beq_eq_false h; simp [this]
/-- lexicographically less -/
def ltN : List Nat → List Nat → Bool
  | [], [] => false
  | [], _ :: _ => true
  | _ :: _, [] => false
  | a :: ar, b :: bs => bif Nat.beq a b then ltN ar bs else Nat.blt a b

def mapO {α β : Type} (g : α → Option β) : List α → Option (List β)
  | [] => some []
  | x :: xs => match g x with
    | none => none
    | some y => match mapO g xs with
      | none => none
      | some ys => some (y :: ys)
theorem mapO_cons {α β : Type} {g : α → Option β} {x : α} {xs : List α} {ys : List β} (h : mapO g (x :: xs) = some ys) : ∃ y ys', ys = y :: ys' ∧ g x = some y ∧ mapO g xs = some ys' := by
  rw [mapO] at h
  split at h
  · cases h
  · rename_i y hy
    split at h
    · cases h
    · rename_i ys' hys
      injection h with h
      exact ⟨y, ys', h.symm, hy, hys⟩
theorem mapO_len {α β : Type} {g : α → Option β} : ∀ {xs : List α} {ys : List β}, mapO g xs = some ys → ys.length = xs.length
  | [], ys, h => by simp [mapO] at h; subst h; rfl
  | x :: xs, ys, h => by
    obtain ⟨y, ys', rfl, _, h'⟩ := mapO_cons h
    simp [mapO_len h']
theorem mapO_get {α β : Type} {g : α → Option β} : ∀ {xs : List α} {ys : List β}, mapO g xs = some ys → ∀ (k : Nat) (x : α), xs[k]? = some x → ∃ y, ys[k]? = some y ∧ g x = some y
  | [], ys, h, k, x, hx => by simp at hx
  | z :: xs, ys, h, k, x, hx => by
    obtain ⟨y, ys', rfl, hy, h'⟩ := mapO_cons h
    cases k with
    | zero => simp at hx; subst hx; exact ⟨y, by simp, hy⟩
    | succ k => simpa using mapO_get h' k x (by simpa using hx)
theorem mapO_all {α β : Type} {g : α → Option β} {xs : List α} {ys : List β} (h : mapO g xs = some ys) : ∀ y ∈ ys, ∃ x ∈ xs, g x = some y := by
  intro y hy
  obtain ⟨k, hk, rfl⟩ := List.getElem_of_mem hy
  have hl := mapO_len h
  have hx : xs[k]? = some (xs[k]'(by omega)) := List.getElem?_eq_getElem _
  obtain ⟨y', h1, h2⟩ := mapO_get h k _ hx
  rw [List.getElem?_eq_getElem hk] at h1
  injection h1 with h1
  exact ⟨_, List.mem_of_getElem? hx, by rw [h2, ← h1]⟩

/-- the levels behind a level -/
def lvlF (p : Nat) : List Nat → Bool
  | [] => true
  | l :: ls => bif Nat.ble 1 l then (bif Nat.ble l (p + 1) then lvlF l ls else false) else false
/-- a list of levels -/
def lvl : List Nat → Bool
  | [] => false
  | a :: ar => bif Nat.beq a 0 then lvlF 0 ar else false

def addLast (x : Nat) : List (List Nat) → List (List Nat)
  | [] => []
  | [b] => [b ++ [x]]
  | b :: c :: bs => b :: addLast x (c :: bs)
/-- one level more, of the branches gathered so far -/
def brStep (out : List (List Nat)) (l : Nat) : Option (List (List Nat)) :=
  match l with
  | 0 => none
  | 1 => some (out ++ [[0]])
  | l + 2 => match out with
    | [] => none
    | b :: bs => some (addLast (l + 1) (b :: bs))
def brF (out : List (List Nat)) : List Nat → Option (List (List Nat))
  | [] => some out
  | l :: ls => match brStep out l with
    | none => none
    | some o => brF o ls
/-- the branches of a level list -/
def brO : List Nat → Option (List (List Nat))
  | [] => none
  | _ :: ts => brF [] ts

/-- a list put into lists in descending order -/
def insD (p : List Nat) : List (List Nat) → List (List Nat)
  | [] => [p]
  | q :: qs => bif ltN q p then p :: q :: qs else q :: insD p qs
def srtF (s : List (List Nat)) : List (List Nat) → List (List Nat)
  | [] => s
  | p :: ps => srtF (insD p s) ps
/-- lists in descending order -/
def srtD (ps : List (List Nat)) : List (List Nat) := srtF [] ps
def bump : List Nat → List Nat
  | [] => []
  | a :: ar => (a + 1) :: bump ar
def bumps : List (List Nat) → List Nat
  | [] => []
  | b :: bs => bump b ++ bumps bs
/-- the list of the tree with some branches -/
def rootN (bs : List (List Nat)) : List Nat := 0 :: bumps bs
/-- the canonical list -/
def canO : Nat → List Nat → Option (List Nat)
  | 0, _ => none
  | f + 1, t => match brO t with
    | none => none
    | some bs => match mapO (canO f) bs with
      | none => none
      | some cs => some (rootN (srtD cs))

/-- one more than the last place below k whose level is one less; 0 if there is none -/
def parN (t : List Nat) (lev : Nat) : Nat → Nat
  | 0 => 0
  | k + 1 => bif Nat.beq (t.getD k 0 + 1) lev then k + 1 else parN t lev k
/-- one more at the end of the list at a place -/
def addAt (x : Nat) : Nat → List (List Nat) → List (List Nat)
  | _, [] => []
  | 0, b :: bs => (b ++ [x]) :: bs
  | i + 1, b :: bs => b :: addAt x i bs
/-- before in the order of trees -/
def befN (s t : List Nat) : Bool := bif Nat.beq s.length t.length then ltN t s else Nat.blt s.length t.length
/- of the reference -/
def runN (a : Nat) : List Nat → Nat
  | [] => 0
  | l :: ls => bif Nat.blt a l then runN a ls + 1 else 0
/-- the place behind the branch at a node -/
def endN (t : List Nat) (node : Nat) : Nat := node + 1 + runN (t.getD node 0) (t.drop (node + 1))
end Go.Proofs.YtdjhfeaimmpmhaaGreat

set_option maxRecDepth 100000
set_option linter.unusedVariables false
set_option linter.unusedSimpArgs false
namespace Go.Proofs.YtdjhfeaimmpmhaaGreat

/-! ### products -/
def prodZ : List Int → Int
  | [] => 1
  | x :: xs => x * prodZ xs
theorem prodZ_snoc (xs : List Int) (x : Int) : prodZ (xs ++ [x]) = prodZ xs * x := by
  induction xs with
  | nil => simp [prodZ]
  | cons y xs ih => simp only [List.cons_append, prodZ, ih]; rw [Int.mul_assoc]
theorem prodZ_append (xs ys : List Int) : prodZ (xs ++ ys) = prodZ xs * prodZ ys := by
  induction xs with
  | nil => simp [prodZ]
  | cons y xs ih => simp only [List.cons_append, prodZ, ih]; rw [Int.mul_assoc]
theorem mul_modR (x y : Int) : x * (y % 10007) % 10007 = x * y % 10007 := by
  rw [Int.mul_emod, Int.emod_emod_of_dvd _ (Int.dvd_refl _), ← Int.mul_emod]
theorem mul_modL (x y : Int) : x % 10007 * y % 10007 = x * y % 10007 := by
  rw [Int.mul_comm, mul_modR, Int.mul_comm]
/-- the values at places -/
def gat (a : List Int) (xs : List Nat) : List Int := xs.map fun k => a.getD k 0
def valZ (b : List Int) (ps : List Nat) : Int := prodZ (gat b ps) % 10007
theorem valZ_snoc (b : List Int) (ps : List Nat) (k : Nat) : valZ b (ps ++ [k]) = valZ b ps * b.getD k 0 % 10007 := by
  unfold valZ gat
  rw [List.map_append, List.map_singleton, prodZ_snoc, mul_modL]
theorem valZ_bd (b : List Int) (ps : List Nat) : 0 ≤ valZ b ps ∧ valZ b ps ≤ 10006 := by unfold valZ; omega

/-! ### sums -/
theorem sumF_append {α : Type} (g : α → Int) (l l' : List α) : sumF g (l ++ l') = sumF g l + sumF g l' := by
  induction l with
  | nil => simp [sumF]
  | cons x l ih => simp only [List.cons_append, sumF, ih]; omega
theorem sumF_map {α β : Type} (g : β → Int) (f : α → β) (l : List α) : sumF g (l.map f) = sumF (fun x => g (f x)) l := by
  induction l with
  | nil => rfl
  | cons x l ih => simp only [List.map_cons, sumF, ih]
theorem sumF_congr {α : Type} {g h : α → Int} : ∀ {l : List α}, (∀ x ∈ l, g x = h x) → sumF g l = sumF h l
  | [], _ => rfl
  | x :: l, e => by simp only [sumF]; rw [e x (by simp), sumF_congr fun y hy => e y (by simp [hy])]
end Go.Proofs.YtdjhfeaimmpmhaaGreat

set_option maxRecDepth 100000
namespace Go.Proofs.YtdjhfeaimmpmhaaGreat

def CTab : List (List ((List Nat × Nat) × Nat)) := [
  [(([], 1), 1), (([1], 0), 1)],
  [(([], 2), 1), (([1], 1), 1), (([2], 0), 1)],
  [(([], 3), 1), (([1], 2), 1), (([2], 1), 1), (([3], 0), 1)],
  [(([], 4), 1), (([1], 2), 2), (([1, 1], 1), 1), (([4], 0), 1)],
  [(([], 5), 1), (([1], 3), 1), (([2], 2), 1), (([3], 1), 1), (([5], 0), 1)],
  [(([], 6), 1), (([1], 3), 2), (([1, 1], 2), 1), (([4], 1), 1), (([6], 0), 1)],
  [(([], 7), 1), (([1], 3), 1), (([1], 4), 1), (([2], 2), 1), (([1, 1], 2), 1), (([1, 2], 1), 1), (([7], 0), 1)],
  [(([], 8), 1), (([1], 4), 3), (([1, 1], 2), 3), (([1, 1, 1], 1), 1), (([8], 0), 1)],
  [(([], 9), 1), (([1], 5), 1), (([2], 3), 1), (([3], 2), 1), (([5], 1), 1), (([9], 0), 1)],
  [(([], 10), 1), (([1], 5), 2), (([1, 1], 3), 1), (([4], 2), 1), (([6], 1), 1), (([10], 0), 1)],
  [(([], 11), 1), (([1], 5), 1), (([1], 6), 1), (([2], 3), 1), (([1, 1], 3), 1), (([1, 2], 2), 1), (([7], 1), 1), (([11], 0), 1)],
  [(([], 12), 1), (([1], 5), 1), (([1], 7), 1), (([2], 4), 1), (([1, 1], 3), 1), (([3], 2), 1), (([1, 2], 2), 1), (([1, 3], 1), 1), (([12], 0), 1)],
  [(([], 13), 1), (([1], 6), 3), (([1, 1], 3), 3), (([1, 1, 1], 2), 1), (([8], 1), 1), (([13], 0), 1)],
  [(([], 14), 1), (([1], 6), 1), (([1], 7), 2), (([1, 1], 3), 2), (([1, 1], 4), 1), (([4], 2), 1), (([1, 1, 1], 2), 1), (([1, 4], 1), 1), (([14], 0), 1)],
  [(([], 15), 1), (([1], 7), 2), (([2], 3), 2), (([1, 1], 4), 1), (([1, 2], 2), 2), (([2, 2], 1), 1), (([15], 0), 1)],
  [(([], 16), 1), (([1], 7), 2), (([1], 8), 1), (([2], 4), 1), (([1, 1], 3), 1), (([1, 1], 4), 2), (([1, 2], 2), 2), (([1, 1, 1], 2), 1), (([1, 1, 2], 1), 1), (([16], 0), 1)],
  [(([], 17), 1), (([1], 8), 4), (([1, 1], 4), 6), (([1, 1, 1], 2), 4), (([1, 1, 1, 1], 1), 1), (([17], 0), 1)],
  [(([], 18), 1), (([1], 9), 1), (([2], 5), 1), (([3], 3), 1), (([5], 2), 1), (([9], 1), 1), (([18], 0), 1)],
  [(([], 19), 1), (([1], 9), 2), (([1, 1], 5), 1), (([4], 3), 1), (([6], 2), 1), (([10], 1), 1), (([19], 0), 1)],
  [(([], 20), 1), (([1], 9), 1), (([1], 10), 1), (([2], 5), 1), (([1, 1], 5), 1), (([1, 2], 3), 1), (([7], 2), 1), (([11], 1), 1), (([20], 0), 1)],
  [(([], 21), 1), (([1], 9), 1), (([1], 11), 1), (([2], 6), 1), (([1, 1], 5), 1), (([3], 3), 1), (([1, 2], 3), 1), (([1, 3], 2), 1), (([12], 1), 1), (([21], 0), 1)],
  [(([], 22), 1), (([1], 9), 1), (([1], 12), 1), (([2], 7), 1), (([1, 1], 5), 1), (([3], 4), 1), (([1, 2], 3), 1), (([5], 2), 1), (([1, 3], 2), 1), (([1, 5], 1), 1), (([22], 0), 1)],
  [(([], 23), 1), (([1], 10), 3), (([1, 1], 5), 3), (([1, 1, 1], 3), 1), (([8], 2), 1), (([13], 1), 1), (([23], 0), 1)],
  [(([], 24), 1), (([1], 10), 1), (([1], 11), 2), (([1, 1], 5), 2), (([1, 1], 6), 1), (([4], 3), 1), (([1, 1, 1], 3), 1), (([1, 4], 2), 1), (([14], 1), 1), (([24], 0), 1)],
  [(([], 25), 1), (([1], 10), 1), (([1], 12), 2), (([1, 1], 5), 2), (([1, 1], 7), 1), (([4], 4), 1), (([1, 1, 1], 3), 1), (([6], 2), 1), (([1, 4], 2), 1), (([1, 6], 1), 1), (([25], 0), 1)],
  [(([], 26), 1), (([1], 11), 2), (([2], 5), 2), (([1, 1], 6), 1), (([1, 2], 3), 2), (([2, 2], 2), 1), (([15], 1), 1), (([26], 0), 1)],
  [(([], 27), 1), (([1], 11), 2), (([1], 13), 1), (([2], 6), 1), (([1, 1], 5), 1), (([1, 1], 6), 2), (([1, 2], 3), 2), (([1, 1, 1], 3), 1), (([1, 1, 2], 2), 1), (([16], 1), 1), (([27], 0), 1)],
  [(([], 28), 1), (([1], 11), 1), (([1], 12), 1), (([1], 14), 1), (([2], 7), 1), (([1, 1], 5), 1), (([1, 1], 6), 1), (([1, 1], 7), 1), (([1, 2], 3), 1), (([1, 2], 4), 1), (([1, 1, 1], 3), 1), (([7], 2), 1), (([1, 1, 2], 2), 1), (([1, 7], 1), 1), (([28], 0), 1)],
  [(([], 29), 1), (([1], 12), 1), (([1], 15), 1), (([2], 5), 1), (([2], 7), 1), (([1, 1], 7), 1), (([3], 3), 1), (([1, 2], 3), 1), (([1, 2], 4), 1), (([1, 3], 2), 1), (([2, 2], 2), 1), (([2, 3], 1), 1), (([29], 0), 1)],
  [(([], 30), 1), (([1], 12), 2), (([1], 16), 1), (([2], 8), 1), (([1, 1], 5), 1), (([1, 1], 7), 2), (([3], 4), 1), (([1, 2], 4), 2), (([1, 1, 1], 3), 1), (([1, 3], 2), 2), (([1, 1, 2], 2), 1), (([1, 1, 3], 1), 1), (([30], 0), 1)],
  [(([], 31), 1), (([1], 13), 4), (([1, 1], 6), 6), (([1, 1, 1], 3), 4), (([1, 1, 1, 1], 2), 1), (([17], 1), 1), (([31], 0), 1)],
  [(([], 32), 1), (([1], 13), 1), (([1], 14), 3), (([1, 1], 6), 3), (([1, 1], 7), 3), (([1, 1, 1], 3), 3), (([1, 1, 1], 4), 1), (([8], 2), 1), (([1, 1, 1, 1], 2), 1), (([1, 8], 1), 1), (([32], 0), 1)],
  [(([], 33), 1), (([1], 14), 1), (([1], 15), 2), (([2], 6), 1), (([1, 1], 7), 3), (([4], 3), 1), (([1, 2], 3), 2), (([1, 1, 1], 4), 1), (([1, 4], 2), 1), (([1, 1, 2], 2), 1), (([2, 4], 1), 1), (([33], 0), 1)],
  [(([], 34), 1), (([1], 14), 2), (([1], 16), 2), (([1, 1], 6), 1), (([1, 1], 7), 4), (([1, 1], 8), 1), (([4], 4), 1), (([1, 1, 1], 3), 2), (([1, 1, 1], 4), 2), (([1, 4], 2), 2), (([1, 1, 1, 1], 2), 1), (([1, 1, 4], 1), 1), (([34], 0), 1)],
  [(([], 35), 1), (([1], 15), 1), (([1], 16), 2), (([2], 7), 2), (([1, 1], 7), 2), (([1, 1], 8), 1), (([1, 2], 3), 2), (([1, 2], 4), 2), (([1, 1, 1], 4), 1), (([2, 2], 2), 1), (([1, 1, 2], 2), 2), (([1, 2, 2], 1), 1), (([35], 0), 1)],
  [(([], 36), 1), (([1], 16), 3), (([1], 17), 1), (([2], 8), 1), (([1, 1], 7), 3), (([1, 1], 8), 3), (([1, 2], 4), 3), (([1, 1, 1], 3), 1), (([1, 1, 1], 4), 3), (([1, 1, 2], 2), 3), (([1, 1, 1, 1], 2), 1), (([1, 1, 1, 2], 1), 1), (([36], 0), 1)],
  [(([], 37), 1), (([1], 17), 5), (([1, 1], 8), 10), (([1, 1, 1], 4), 10), (([1, 1, 1, 1], 2), 5), (([1, 1, 1, 1, 1], 1), 1), (([37], 0), 1)]]
end Go.Proofs.YtdjhfeaimmpmhaaGreat

set_option maxRecDepth 100000
set_option linter.unusedVariables false
set_option linter.unusedSimpArgs false
namespace Go.Proofs.YtdjhfeaimmpmhaaGreat

/-! ### the convolution over integers -/
theorem blt_lt {a b : Nat} (h : Nat.blt a b = true) : a < b := Nat.le_of_ble_eq_true h
abbrev MCt := (List Nat × Nat) × Nat
def pz (a : Nat → Int) (ps : List Nat) : Int := prodZ (ps.map a)
theorem pz_nil (a : Nat → Int) : pz a [] = 1 := rfl
theorem pz_cons (a : Nat → Int) (p : Nat) (ps : List Nat) : pz a (p :: ps) = a p * pz a ps := rfl
theorem pz_append (a : Nat → Int) (ps qs : List Nat) : pz a (ps ++ qs) = pz a ps * pz a qs := by unfold pz; rw [List.map_append, prodZ_append]
def CP (p : Nat) : List MCt := match p with
  | 0 => [(([], 0), 1)]
  | n + 1 => CTab.getD n []
def cvT (a b : Nat → Int) (x : MCt) : Int := (x.2 : Int) * (pz a x.1.1 * b x.1.2)
def cv (a b : Nat → Int) (p : Nat) : Int := sumF (cvT a b) (CP p)

/-! ### sums and products -/
theorem sumF_mul {α : Type} (g : α → Int) (k : Int) (l : List α) : k * sumF g l = sumF (fun x => k * g x) l := by
  induction l with
  | nil => simp [sumF]
  | cons x l ih => simp only [sumF]; rw [Int.mul_add, ih]
theorem sumF_mulR {α : Type} (g : α → Int) (k : Int) (l : List α) : sumF g l * k = sumF (fun x => g x * k) l := by
  induction l with
  | nil => simp [sumF]
  | cons x l ih => simp only [sumF]; rw [Int.add_mul, ih]
theorem sumF_flat {α β : Type} (g : β → Int) (f : α → List β) (l : List α) : sumF g (l.flatMap f) = sumF (fun x => sumF g (f x)) l := by
  induction l with
  | nil => rfl
  | cons x l ih => simp only [List.flatMap_cons, sumF_append, sumF, ih]
/-- a product of sums -/
abbrev EX2 := (List Nat × List Nat) × Nat
def exp2 : List Nat → List EX2
  | [] => [(([], []), 1)]
  | s :: ss => (CP s).flatMap fun y => (exp2 ss).map fun e => ((y.1.1 ++ e.1.1, y.1.2 :: e.1.2), y.2 * e.2)
def exV2 (a b : Nat → Int) (e : EX2) : Int := (e.2 : Int) * (pz a e.1.1 * pz b e.1.2)
theorem exp2_is (a b : Nat → Int) (ss : List Nat) : pz (cv a b) ss = sumF (exV2 a b) (exp2 ss) := by
  induction ss with
  | nil => simp [exp2, sumF, exV2, pz_nil]
  | cons s ss ih =>
    rw [pz_cons, ih, exp2, sumF_flat]
    unfold cv
    rw [sumF_mulR]
    refine sumF_congr fun y _ => ?_
    rw [sumF_mul, sumF_map]
    refine sumF_congr fun e _ => ?_
    unfold cvT exV2
    simp only
    rw [pz_append, pz_cons, Int.natCast_mul]
    simp only [Int.mul_assoc, Int.mul_left_comm, Int.mul_comm]
/-! ### terms in three maps -/
abbrev TM := ((List Nat × List Nat) × Nat) × Nat
def tmV (a b c : Nat → Int) (x : TM) : Int := (x.2 : Int) * (pz a x.1.1.1 * (pz b x.1.1.2 * c x.1.2))
def lhs3 (p : Nat) : List TM := (CP p).flatMap fun x => (exp2 x.1.1).map fun e => (((e.1.1, e.1.2), x.1.2), x.2 * e.2)
def rhs3 (p : Nat) : List TM := (CP p).flatMap fun x => (CP x.1.2).map fun y => (((x.1.1, y.1.1), y.1.2), x.2 * y.2)
theorem lhs3_is (a b c : Nat → Int) (p : Nat) : cv (cv a b) c p = sumF (tmV a b c) (lhs3 p) := by
  unfold cv lhs3
  rw [sumF_flat]
  refine sumF_congr fun x _ => ?_
  show (x.2 : Int) * (pz (cv a b) x.1.1 * c x.1.2) = _
  rw [exp2_is, sumF_mulR, sumF_mul, sumF_map]
  refine sumF_congr fun e _ => ?_
  unfold exV2 tmV
  simp only
  rw [Int.natCast_mul]
  simp only [Int.mul_assoc, Int.mul_left_comm, Int.mul_comm]
theorem rhs3_is (a b c : Nat → Int) (p : Nat) : cv a (cv b c) p = sumF (tmV a b c) (rhs3 p) := by
  unfold rhs3
  show sumF (cvT a (cv b c)) (CP p) = _
  rw [sumF_flat]
  refine sumF_congr fun x _ => ?_
  show (x.2 : Int) * (pz a x.1.1 * sumF (cvT b c) (CP x.1.2)) = _
  rw [sumF_mul, sumF_mul, sumF_map]
  refine sumF_congr fun y _ => ?_
  unfold cvT tmV
  simp only
  rw [Int.natCast_mul]
  simp only [Int.mul_assoc, Int.mul_left_comm, Int.mul_comm]
/-! ### normal forms -/
def insZ (p : Nat) : List Nat → List Nat
  | [] => [p]
  | q :: qs => bif Nat.ble p q then p :: q :: qs else q :: insZ p qs
def srtZ : List Nat → List Nat
  | [] => []
  | p :: ps => insZ p (srtZ ps)
def nz : List Nat → List Nat
  | [] => []
  | p :: ps => bif Nat.beq p 0 then nz ps else p :: nz ps
def nrmT (x : TM) : TM := (((srtZ x.1.1.1, srtZ (nz x.1.1.2)), x.1.2), x.2)
/-- 0 equal, 1 less, 2 greater -/
def cmpN : List Nat → List Nat → Nat
  | [], [] => 0
  | [], _ :: _ => 1
  | _ :: _, [] => 2
  | a :: us, b :: vs => bif Nat.beq a b then cmpN us vs else bif Nat.blt a b then 1 else 2
def cmpK3 (x y : (List Nat × List Nat) × Nat) : Nat := match cmpN x.1.1 y.1.1 with
  | 0 => (match cmpN x.1.2 y.1.2 with
    | 0 => bif Nat.beq x.2 y.2 then 0 else bif Nat.blt x.2 y.2 then 1 else 2
    | k + 1 => k + 1)
  | k + 1 => k + 1
def insT (x : TM) : List TM → List TM
  | [] => [x]
  | y :: ys => match cmpK3 x.1 y.1 with
    | 0 => (y.1, y.2 + x.2) :: ys
    | 1 => x :: y :: ys
    | _ => y :: insT x ys
def nrm : List TM → List TM
  | [] => []
  | x :: xs => insT (nrmT x) (nrm xs)
theorem insZ_pz (a : Nat → Int) (p : Nat) (ps : List Nat) : pz a (insZ p ps) = a p * pz a ps := by
  induction ps with
  | nil => rfl
  | cons q qs ih =>
    unfold insZ
    cases Nat.ble p q with
    | true => rfl
    | false => simp only [cond_false, pz_cons, ih]; rw [Int.mul_left_comm]
theorem srtZ_pz (a : Nat → Int) (ps : List Nat) : pz a (srtZ ps) = pz a ps := by
  induction ps with
  | nil => rfl
  | cons p ps ih => rw [srtZ, insZ_pz, ih, pz_cons]
theorem nz_pz {a : Nat → Int} (h : a 0 = 1) (ps : List Nat) : pz a (nz ps) = pz a ps := by
  induction ps with
  | nil => rfl
  | cons p ps ih =>
    unfold nz
    cases hp : Nat.beq p 0 with
    | true =>
      have := Nat.eq_of_beq_eq_true hp
      subst this
      rw [cond_true, ih, pz_cons, h, Int.one_mul]
    | false => rw [cond_false, pz_cons, pz_cons, ih]
theorem nrmT_is (a b c : Nat → Int) (h : b 0 = 1) (x : TM) : tmV a b c (nrmT x) = tmV a b c x := by
  unfold tmV nrmT
  simp only
  rw [srtZ_pz, srtZ_pz, nz_pz h]
theorem cmpN_zero : ∀ {x y : List Nat}, cmpN x y = 0 → x = y
  | [], [], _ => rfl
  | [], _ :: _, h => by cases h
  | _ :: _, [], h => by cases h
  | a :: x, b :: y, h => by
    rw [cmpN] at h
    cases hb : Nat.beq a b with
    | true => rw [hb, cond_true] at h; rw [cmpN_zero h, Nat.eq_of_beq_eq_true hb]
    | false => rw [hb, cond_false] at h; cases h2 : Nat.blt a b <;> rw [h2] at h <;> cases h
theorem cmpK3_zero {x y : (List Nat × List Nat) × Nat} (h : cmpK3 x y = 0) : x = y := by
  obtain ⟨⟨a, b⟩, c⟩ := x
  obtain ⟨⟨a', b'⟩, c'⟩ := y
  unfold cmpK3 at h
  simp only at h
  cases h1 : cmpN a a' with
  | succ k => rw [h1] at h; cases h
  | zero =>
    rw [h1] at h
    simp only at h
    cases h2 : cmpN b b' with
    | succ k => rw [h2] at h; cases h
    | zero =>
      rw [h2] at h
      simp only at h
      cases h3 : Nat.beq c c' with
      | true => rw [cmpN_zero h1, cmpN_zero h2, Nat.eq_of_beq_eq_true h3]
      | false => rw [h3, cond_false] at h; cases h4 : Nat.blt c c' <;> rw [h4] at h <;> cases h
theorem insT_is (a b c : Nat → Int) (x : TM) (ys : List TM) : sumF (tmV a b c) (insT x ys) = tmV a b c x + sumF (tmV a b c) ys := by
  induction ys with
  | nil => rfl
  | cons y ys ih =>
    unfold insT
    split
    · next h =>
      have := cmpK3_zero h
      simp only [sumF]
      unfold tmV
      rw [← this]
      simp only
      rw [Int.natCast_add, Int.add_mul]
      omega
    · rfl
    · simp only [sumF, ih]; omega
theorem nrm_is (a b c : Nat → Int) (h : b 0 = 1) (xs : List TM) : sumF (tmV a b c) (nrm xs) = sumF (tmV a b c) xs := by
  induction xs with
  | nil => rfl
  | cons x xs ih => rw [nrm, insT_is, ih, nrmT_is a b c h]; rfl
def eqT3 (x y : TM) : Bool := Nat.beq (cmpK3 x.1 y.1) 0 && Nat.beq x.2 y.2
def eqTs : List TM → List TM → Bool
  | [], [] => true
  | x :: xs, y :: ys => eqT3 x y && eqTs xs ys
  | _, _ => false
theorem eqTs_iff : ∀ {xs ys : List TM}, eqTs xs ys = true → xs = ys
  | [], [], _ => rfl
  | [], _ :: _, h => by cases h
  | _ :: _, [], h => by cases h
  | (k, n) :: xs, (k', n') :: ys, h => by
    unfold eqTs eqT3 at h
    simp only [Bool.and_eq_true] at h
    rw [eqTs_iff h.2, cmpK3_zero (Nat.eq_of_beq_eq_true h.1.1), Nat.eq_of_beq_eq_true h.1.2]
theorem as3 : (List.range 38).all (fun p => eqTs (nrm (lhs3 p)) (nrm (rhs3 p))) = true := by decide +kernel
/-- the convolution is associative -/
theorem cv_assoc {a b c : Nat → Int} (h : b 0 = 1) {p : Nat} (hp : p < 38) : cv (cv a b) c p = cv a (cv b c) p := by
  have h1 := as3
  rw [List.all_eq_true] at h1
  have h2 := eqTs_iff (h1 p (by simpa using hp))
  rw [lhs3_is, rhs3_is, ← nrm_is a b c h, h2, nrm_is a b c h]
/-! ### units -/
def un (p : Nat) : Int := if p = 0 then 1 else 0
def okUn (p : Nat) (x : MCt) : Bool := (match x.1.1 with
    | [] => Nat.beq x.1.2 p && Nat.beq x.2 1
    | k :: _ => Nat.blt 0 k) && (bif Nat.beq x.1.2 0 then (match x.1.1 with
      | [k] => Nat.beq k p && Nat.beq x.2 1
      | [] => Nat.beq p 0
      | _ => false) else true)
def cntE : List MCt → Nat
  | [] => 0
  | x :: xs => (match x.1.1 with | [] => 1 | _ => 0) + cntE xs
def cntZ : List MCt → Nat
  | [] => 0
  | x :: xs => (bif Nat.beq x.1.2 0 then 1 else 0) + cntZ xs
theorem un3 : (List.range 38).all (fun p => (CP p).all (okUn p) && (Nat.beq (cntE (CP p)) 1 && Nat.beq (cntZ (CP p)) 1)) = true := by decide +kernel
theorem un_at {p : Nat} (hp : p < 38) : (∀ x ∈ CP p, okUn p x = true) ∧ cntE (CP p) = 1 ∧ cntZ (CP p) = 1 := by
  have h1 := un3
  rw [List.all_eq_true] at h1
  have h2 := h1 p (by simpa using hp)
  simp only [Bool.and_eq_true, List.all_eq_true] at h2
  exact ⟨h2.1, Nat.eq_of_beq_eq_true h2.2.1, Nat.eq_of_beq_eq_true h2.2.2⟩
theorem unL_sum (b : Nat → Int) (p : Nat) : ∀ l : List MCt, (∀ x ∈ l, okUn p x = true) → sumF (cvT un b) l = (cntE l : Int) * b p
  | [], _ => by simp [sumF, cntE]
  | ((cr, tr), n) :: l, h => by
    have h1 := h ((cr, tr), n) (by simp)
    have ih := unL_sum b p l fun x hx => h x (by simp [hx])
    simp only [sumF, ih, cntE]
    unfold okUn at h1
    simp only [Bool.and_eq_true] at h1
    cases cr with
    | nil =>
      simp only at h1
      have e1 := Nat.eq_of_beq_eq_true (Bool.and_eq_true _ _ ▸ h1.1).1
      have e2 := Nat.eq_of_beq_eq_true (Bool.and_eq_true _ _ ▸ h1.1).2
      subst e1 e2
      unfold cvT
      simp only [pz_nil, Int.natCast_add, Int.add_mul]
      simp
    | cons k ks =>
      simp only at h1
      have hk := blt_lt h1.1
      have : un k = 0 := if_neg (by omega)
      unfold cvT
      simp only [pz_cons, this, Int.zero_mul, Int.mul_zero, Nat.zero_add]
      omega
theorem cv_unL (b : Nat → Int) {p : Nat} (hp : p < 38) : cv un b p = b p := by
  obtain ⟨h1, h2, -⟩ := un_at hp
  unfold cv
  rw [unL_sum b p _ h1, h2]
  simp
/-- what the whole tree in the crown adds, and the rest -/
def posT (a b : Nat → Int) (x : MCt) : Int := bif Nat.blt 0 x.1.2 then cvT a b x else 0
def posE (a b : Nat → Int) (x : MCt) : Int := match x.1.1 with
  | [] => 0
  | _ :: _ => cvT a b x
theorem posT_sum (a b : Nat → Int) {p : Nat} (h0 : 0 < p) : ∀ l : List MCt, (∀ x ∈ l, okUn p x = true) → sumF (cvT a b) l = sumF (posT a b) l + (cntZ l : Int) * (a p * b 0)
  | [], _ => by simp [sumF, cntZ]
  | ((cr, tr), n) :: l, h => by
    have h1 := h ((cr, tr), n) (by simp)
    have ih := posT_sum a b h0 l fun x hx => h x (by simp [hx])
    simp only [sumF, ih, cntZ]
    unfold okUn at h1
    simp only [Bool.and_eq_true] at h1
    cases tr with
    | zero =>
      have h2 := h1.2
      rw [Nat.beq_refl, cond_true] at h2
      cases cr with
      | nil => simp only at h2; have := Nat.eq_of_beq_eq_true h2; omega
      | cons k ks =>
        cases ks with
        | cons k2 ks => cases h2
        | nil =>
          simp only [Bool.and_eq_true] at h2
          have e1 := Nat.eq_of_beq_eq_true h2.1
          have e2 := Nat.eq_of_beq_eq_true h2.2
          subst e1 e2
          unfold posT cvT
          simp only [pz_cons, pz_nil]
          have e3 : Nat.blt 0 0 = false := rfl
          have e4 : Nat.beq 0 0 = true := rfl
          rw [e3, e4, cond_false, cond_true, Int.natCast_add, Int.add_mul]
          simp
          omega
    | succ tr =>
      have e3 : Nat.blt 0 (tr + 1) = true := Nat.ble_eq_true_of_le (by omega)
      have e4 : Nat.beq (tr + 1) 0 = false := rfl
      unfold posT
      simp only [e3, e4, cond_true, cond_false, Nat.zero_add]
      omega
theorem cv_pos (a b : Nat → Int) {p : Nat} (h0 : 0 < p) (hp : p < 38) : cv a b p = sumF (posT a b) (CP p) + a p * b 0 := by
  obtain ⟨h1, -, h3⟩ := un_at hp
  unfold cv
  rw [posT_sum a b h0 _ h1, h3]
  simp
theorem posE_sum (a b : Nat → Int) (p : Nat) : ∀ l : List MCt, (∀ x ∈ l, okUn p x = true) → sumF (cvT a b) l = sumF (posE a b) l + (cntE l : Int) * b p
  | [], _ => by simp [sumF, cntE]
  | ((cr, tr), n) :: l, h => by
    have h1 := h ((cr, tr), n) (by simp)
    have ih := posE_sum a b p l fun x hx => h x (by simp [hx])
    simp only [sumF, ih, cntE]
    unfold okUn at h1
    simp only [Bool.and_eq_true] at h1
    cases cr with
    | nil =>
      simp only at h1
      have e1 := Nat.eq_of_beq_eq_true (Bool.and_eq_true _ _ ▸ h1.1).1
      have e2 := Nat.eq_of_beq_eq_true (Bool.and_eq_true _ _ ▸ h1.1).2
      subst e1 e2
      unfold cvT posE
      simp only [pz_nil, Int.natCast_add, Int.add_mul]
      simp
      omega
    | cons k ks =>
      unfold posE
      simp only [Nat.zero_add]
      omega
theorem cv_rest (a b : Nat → Int) {p : Nat} (hp : p < 38) : cv a b p = sumF (posE a b) (CP p) + b p := by
  obtain ⟨h1, h2, -⟩ := un_at hp
  unfold cv
  rw [posE_sum a b p _ h1, h2]
  simp
theorem cv_unR (a : Nat → Int) (h : a 0 = 1) {p : Nat} (hp : p < 38) : cv a un p = a p := by
  by_cases h0 : 0 < p
  · rw [cv_pos a un h0 hp]
    have : sumF (posT a un) (CP p) = sumF (fun _ => 0) (CP p) := sumF_congr fun x _ => by
      unfold posT cvT
      cases hx : Nat.blt 0 x.1.2 with
      | false => rfl
      | true =>
        have := blt_lt hx
        have h2 : un x.1.2 = 0 := if_neg (by omega)
        rw [h2]; simp
    rw [this]
    have hz : ∀ l : List MCt, sumF (fun _ => (0 : Int)) l = 0 := fun l => by
      induction l with
      | nil => rfl
      | cons x l ih => simp only [sumF, ih]; rfl
    rw [hz]
    simp [un]
  · have : p = 0 := by omega
    subst this
    rw [h]; rfl
/-! ### modulo the prime -/
theorem pz_mod {a a' : Nat → Int} {ps : List Nat} (h : ∀ p ∈ ps, a p % 10007 = a' p % 10007) : pz a ps % 10007 = pz a' ps % 10007 := by
  induction ps with
  | nil => rfl
  | cons p ps ih =>
    rw [pz_cons, pz_cons, Int.mul_emod, h p (by simp), ih fun q hq => h q (by simp [hq]), ← Int.mul_emod]
theorem sumF_modc {α : Type} {g g' : α → Int} : ∀ {l : List α}, (∀ x ∈ l, g x % 10007 = g' x % 10007) → sumF g l % 10007 = sumF g' l % 10007
  | [], _ => rfl
  | x :: l, h => by
    have h1 := h x (by simp)
    have h2 := sumF_modc (l := l) fun y hy => h y (by simp [hy])
    simp only [sumF]
    omega
theorem cvT_mod {a a' b b' : Nat → Int} {x : MCt} (h : ∀ p ∈ x.1.1, a p % 10007 = a' p % 10007) (h' : b x.1.2 % 10007 = b' x.1.2 % 10007) : cvT a b x % 10007 = cvT a' b' x % 10007 := by
  unfold cvT
  rw [Int.mul_emod, Int.mul_emod (pz a x.1.1), pz_mod h, h', ← Int.mul_emod (pz a' x.1.1), ← Int.mul_emod]
/-- the places in the cuts of a tree are places of maps -/
def okPc (p : Nat) (x : MCt) : Bool := x.1.1.all (fun k => Nat.ble k p) && Nat.ble x.1.2 p
theorem pc3 : (List.range 38).all (fun p => (CP p).all (okPc p)) = true := by decide +kernel
theorem pc_at {p : Nat} (hp : p < 38) {x : MCt} (hx : x ∈ CP p) : (∀ k ∈ x.1.1, k ≤ p) ∧ x.1.2 ≤ p := by
  have h1 := pc3
  rw [List.all_eq_true] at h1
  have h2 := h1 p (by simpa using hp)
  rw [List.all_eq_true] at h2
  have h3 := h2 x hx
  unfold okPc at h3
  simp only [Bool.and_eq_true, List.all_eq_true] at h3
  exact ⟨fun k hk => Nat.le_of_ble_eq_true (h3.1 k hk), Nat.le_of_ble_eq_true h3.2⟩
theorem cv_mod {a a' b b' : Nat → Int} {p : Nat} (hp : p < 38) (h : ∀ k, k ≤ p → a k % 10007 = a' k % 10007) (h' : ∀ k, k ≤ p → b k % 10007 = b' k % 10007) : cv a b p % 10007 = cv a' b' p % 10007 := by
  unfold cv
  exact sumF_modc fun x hx => cvT_mod (fun k hk => h k ((pc_at hp hx).1 k hk)) (h' _ (pc_at hp hx).2)
/-- an inverse on the left and one on the right are the same -/
theorem inv_both {a x y : Nat → Int} (ha : a 0 = 1) (hx : x 0 = 1) (h1 : ∀ p, p < 38 → cv x a p % 10007 = un p % 10007) (h2 : ∀ p, p < 38 → cv a y p % 10007 = un p % 10007) : ∀ p, p < 38 → x p % 10007 = y p % 10007 := by
  intro p hp
  have e1 : cv (cv x a) y p % 10007 = y p % 10007 := by
    rw [← cv_unL y hp]
    exact cv_mod hp (fun k hk => h1 k (by omega)) fun k _ => rfl
  have e2 : cv x (cv a y) p % 10007 = x p % 10007 := by
    rw [← cv_unR x hx hp]
    exact cv_mod hp (fun k _ => rfl) fun k hk => h2 k (by omega)
  rw [← e1, ← e2, cv_assoc ha hp]
end Go.Proofs.YtdjhfeaimmpmhaaGreat

set_option maxRecDepth 100000
set_option linter.unusedVariables false
set_option linter.unusedSimpArgs false
namespace Go.Proofs.YtdjhfeaimmpmhaaGreat

abbrev Tb := Nat → List MCt
def gv (T : Tb) (a b : Nat → Int) (p : Nat) : Int := sumF (cvT a b) (T p)
def exp2G (T : Tb) : List Nat → List EX2
  | [] => [(([], []), 1)]
  | s :: ss => (T s).flatMap fun y => (exp2G T ss).map fun e => ((y.1.1 ++ e.1.1, y.1.2 :: e.1.2), y.2 * e.2)
theorem exp2G_is (T : Tb) (a b : Nat → Int) (ss : List Nat) : pz (gv T a b) ss = sumF (exV2 a b) (exp2G T ss) := by
  induction ss with
  | nil => simp [exp2G, sumF, exV2, pz_nil]
  | cons s ss ih =>
    rw [pz_cons, ih, exp2G, sumF_flat]
    unfold gv
    rw [sumF_mulR]
    refine sumF_congr fun y _ => ?_
    rw [sumF_mul, sumF_map]
    refine sumF_congr fun e _ => ?_
    unfold cvT exV2
    simp only
    rw [pz_append, pz_cons, Int.natCast_mul]
    simp only [Int.mul_assoc, Int.mul_left_comm, Int.mul_comm]
/-! ### normal forms -/
end Go.Proofs.YtdjhfeaimmpmhaaGreat

set_option maxRecDepth 100000
namespace Go.Proofs.YtdjhfeaimmpmhaaGreat

def BTab : List (List Nat) := [[], [], [1], [2], [1, 1], [3], [4], [1, 2], [1, 1, 1], [5], [6], [7], [1, 3], [8], [1, 4], [2, 2], [1, 1, 2], [1, 1, 1, 1], [9], [10], [11], [12], [1, 5], [13], [14], [1, 6], [15], [16], [1, 7], [2, 3], [1, 1, 3], [17], [1, 8], [2, 4], [1, 1, 4], [1, 2, 2], [1, 1, 1, 2], [1, 1, 1, 1, 1]]
end Go.Proofs.YtdjhfeaimmpmhaaGreat

