/- Arithmetic modulo 10007, plain. No program in sight. | Level lists, plain: what the program and the reference reckon with them. No program in sight. | Plain: products and sums of numbers. No walk. | The cuts of the trees of maps by places: the crown's, the trunk's (0 where there is none), how often. No walk. -/
set_option linter.unusedVariables false
set_option linter.unusedSimpArgs false
namespace Go.Proofs.YtngdpoeondnchaaGreat

theorem tmod_num (n : Int) : (n.tmod 10007 + 10007) % 10007 = n % 10007 := by
  rw [Int.tmod_eq_emod (a := n)]
  split <;> omega

/-- a to the k-th, modulo 10007 -/
def pw (a : Int) (k : Nat) : Int := a ^ k % 10007

theorem pw_step (out a k0 : Int) (k : Nat) (hk : 0 < k) (h : (out * a ^ k) % 10007 = k0) :
    (k % 2 = 1 → ((out * a % 10007) * (a * a % 10007) ^ (k / 2)) % 10007 = k0) ∧ (k % 2 = 0 → (out * (a * a % 10007) ^ (k / 2)) % 10007 = k0) := by
  have hs : ∀ (x : Int) (n : Nat), ((x % 10007) ^ n) % 10007 = (x ^ n) % 10007 := by
    intro x n
    rw [Int.emod_emod_of_dvd _ (Int.dvd_refl _) |>.symm]
    induction n with
    | zero => simp
    | succ n ih =>
      rw [Int.pow_succ, Int.pow_succ, Int.mul_emod, Int.emod_emod_of_dvd _ (Int.dvd_refl _), Int.mul_emod (x ^ n)]
      simp only [Int.emod_emod_of_dvd _ (Int.dvd_refl _)] at ih ⊢
      rw [ih]
  have hsq : ∀ n : Nat, (a * a) ^ n = a ^ (2 * n) := by
    intro n
    induction n with
    | zero => simp
    | succ n ih => rw [Int.pow_succ, ih, show 2 * (n + 1) = 2 * n + 1 + 1 from by omega, Int.pow_succ, Int.pow_succ, Int.mul_assoc]
  constructor
  · intro hodd
    rw [Int.mul_emod, hs, Int.emod_emod_of_dvd _ (Int.dvd_refl _), ← Int.mul_emod, hsq, Int.mul_assoc, ← h]
    congr 2
    rw [show k = 2 * (k / 2) + 1 from by omega, Int.pow_succ, Int.mul_comm a]
    rw [show (2 * (k / 2) + 1) / 2 = k / 2 from by omega]
  · intro hev
    rw [Int.mul_emod, hs, ← Int.mul_emod, hsq, ← h]
    congr 3
    omega

theorem mul_bd {x y : Int} (A B : Int) (h0 : 0 ≤ x) (h1 : x ≤ A) (g0 : 0 ≤ y) (g1 : y ≤ B) : 0 ≤ x * y ∧ x * y ≤ A * B :=
  ⟨Int.mul_nonneg h0 g0, Int.mul_le_mul h1 g1 g0 (Int.le_trans h0 h1)⟩

/-- lo ≤ n ≤ hi, as a test -/
def inR (n lo hi : Int) : Bool := decide (lo ≤ n) && decide (n ≤ hi)
theorem inR_iff {n lo hi : Int} : inR n lo hi = true ↔ lo ≤ n ∧ n ≤ hi := by simp [inR]
def isNum (z : Int) : Bool := inR z 0 10006
def nums (zs : List Int) : Bool := zs.all isNum
theorem nums_iff {zs : List Int} : nums zs = true ↔ ∀ z ∈ zs, 0 ≤ z ∧ z ≤ 10006 := by simp [nums, isNum, inR_iff]
/-- the first index at which p holds, or -1 -/
def idxF {α : Type} (p : α → Bool) (l : List α) : Int := match l.findIdx? p with | some i => (i : Int) | none => -1
theorem idxF_hit {α : Type} {p : α → Bool} {l : List α} {k : Nat} {x : α} (h : ∀ i y, i < k → l[i]? = some y → p y = false) (hx : l[k]? = some x) (hp : p x = true) : idxF p l = (k : Int) := by
  have : l.findIdx? p = some k := by
    rw [List.findIdx?_eq_some_iff_getElem]
    obtain ⟨hk, e⟩ := List.getElem?_eq_some_iff.1 hx
    refine ⟨hk, by rw [e]; exact hp, fun j hj => ?_⟩
    have hj' : j < l.length := by omega
    simp [h j l[j] hj (List.getElem?_eq_getElem hj')]
  simp [idxF, this]
theorem idxF_miss {α : Type} {p : α → Bool} {l : List α} (h : ∀ i y, i < l.length → l[i]? = some y → p y = false) : idxF p l = -1 := by
  have : l.findIdx? p = none := by
    rw [List.findIdx?_eq_none_iff]
    intro x hx
    obtain ⟨i, hi, rfl⟩ := List.getElem_of_mem hx
    simpa using h i l[i] hi (List.getElem?_eq_getElem hi)
  simp [idxF, this]
theorem idxF_nonneg {α : Type} (p : α → Bool) (l : List α) : decide (0 ≤ idxF p l) = l.any p := by
  unfold idxF
  cases h : l.findIdx? p with
  | none =>
    rw [List.findIdx?_eq_none_iff] at h
    have : l.any p = false := by rw [List.any_eq_false]; intro x hx; simp [h x hx]
    rw [this]; decide
  | some i =>
    rw [List.findIdx?_eq_some_iff_getElem] at h
    obtain ⟨hk, e, _⟩ := h
    have : l.any p = true := List.any_eq_true.2 ⟨_, List.getElem_mem hk, e⟩
    rw [this]; simp
theorem any_not_nums (zs : List Int) : (zs.any fun z => !isNum z) = !nums zs := by
  unfold nums
  induction zs with
  | nil => rfl
  | cons z zs ih => simp only [List.any_cons, List.all_cons, ih]; cases isNum z <;> simp
theorem nums_false {zs : List Int} {k : Nat} {z : Int} (h : zs[k]? = some z) (hz : isNum z = false) : nums zs = false := by
  unfold nums
  rw [List.all_eq_false]
  exact ⟨z, List.mem_of_getElem? h, by simp [hz]⟩
theorem nums_all {zs : List Int} (h : ∀ i y, i < zs.length → zs[i]? = some y → isNum y = true) : nums zs = true := by
  unfold nums
  rw [List.all_eq_true]
  intro x hx
  obtain ⟨i, hi, rfl⟩ := List.getElem_of_mem hx
  exact h i _ hi (List.getElem?_eq_getElem hi)

/-- the sum of a function over a list -/
def sumF {α : Type} (f : α → Int) : List α → Int
  | [] => 0
  | x :: xs => f x + sumF f xs
theorem sumF_snoc {α : Type} (f : α → Int) (l : List α) (x : α) : sumF f (l ++ [x]) = sumF f l + f x := by
  induction l with
  | nil => simp [sumF]
  | cons y l ih => simp only [List.cons_append, sumF, ih]; omega
theorem sumF_take {α : Type} (f : α → Int) {l : List α} {k : Nat} {x : α} (h : l[k]? = some x) : sumF f (l.take (k + 1)) = sumF f (l.take k) + f x := by
  rw [List.take_add_one, h]
  exact sumF_snoc f _ x
theorem sumF_bd {α : Type} (f : α → Int) (M : Int) (l : List α) (h : ∀ x ∈ l, 0 ≤ f x ∧ f x ≤ M) : 0 ≤ sumF f l ∧ sumF f l ≤ l.length * M := by
  induction l with
  | nil => simp [sumF]
  | cons y l ih =>
    have h1 := h y (by simp)
    have h2 := ih fun x hx => h x (by simp [hx])
    simp only [sumF, List.length_cons]
    rw [show ((l.length + 1 : Nat) : Int) * M = l.length * M + M by rw [Int.natCast_add, Int.add_mul]; simp]
    omega
theorem pw_bd (a : Int) (k : Nat) : 0 ≤ pw a k ∧ pw a k ≤ 10006 := by unfold pw; omega

end Go.Proofs.YtngdpoeondnchaaGreat

set_option linter.unusedVariables false
set_option linter.unusedSimpArgs false
namespace Go.Proofs.YtngdpoeondnchaaGreat

/-- natural numbers as integers -/
def up (t : List Nat) : List Int := t.map fun (n : Nat) => (n : Int)
theorem up_len (t : List Nat) : (up t).length = t.length := by simp [up]
theorem up_get (t : List Nat) (k : Nat) : (up t)[k]? = t[k]?.map fun (n : Nat) => (n : Int) := by simp [up]
theorem up_append (a b : List Nat) : up (a ++ b) = up a ++ up b := by simp [up]
theorem up_inj {a b : List Nat} (h : up a = up b) : a = b := by
  have e : ∀ l : List Nat, (up l).map Int.toNat = l := by
    intro l
    simp only [up, List.map_map]
    have : (Int.toNat ∘ fun n : Nat => (n : Int)) = id := by funext n; simp
    rw [this, List.map_id]
  rw [← e a, ← e b, h]

def eqN : List Nat → List Nat → Bool
  | [], [] => true
  | [], _ :: _ => false
  | _ :: _, [] => false
  | a :: ar, b :: bs => bif Nat.beq a b then eqN ar bs else false
theorem eqN_iff : ∀ {a b : List Nat}, eqN a b = true ↔ a = b
  | [], [] => by simp [eqN]
  | [], _ :: _ => by simp [eqN]
  | _ :: _, [] => by simp [eqN]
  | a :: ar, b :: bs => by
    rw [eqN]
    cases h : Nat.beq a b with
    | true => have := Nat.eq_of_beq_eq_true h; subst this; simp [eqN_iff (a := ar) (b := bs)]
    | false => have := Nat.ne_of_beq_eq_false h; simp [this]
/-- lexicographically less -/
def ltN : List Nat → List Nat → Bool
  | [], [] => false
  | [], _ :: _ => true
  | _ :: _, [] => false
  | a :: ar, b :: bs => bif Nat.beq a b then ltN ar bs else Nat.blt a b

def mapO {α β : Type} (g : α → Option β) : List α → Option (List β)
  | [] => some []
  | x :: xs => match g x with
    | none => none
    | some y => match mapO g xs with
      | none => none
      | some ys => some (y :: ys)
theorem mapO_cons {α β : Type} {g : α → Option β} {x : α} {xs : List α} {ys : List β} (h : mapO g (x :: xs) = some ys) : ∃ y ys', ys = y :: ys' ∧ g x = some y ∧ mapO g xs = some ys' := by
  rw [mapO] at h
  split at h
  · cases h
  · rename_i y hy
    split at h
    · cases h
    · rename_i ys' hys
      injection h with h
      exact ⟨y, ys', h.symm, hy, hys⟩
theorem mapO_len {α β : Type} {g : α → Option β} : ∀ {xs : List α} {ys : List β}, mapO g xs = some ys → ys.length = xs.length
  | [], ys, h => by simp [mapO] at h; subst h; rfl
  | x :: xs, ys, h => by
    obtain ⟨y, ys', rfl, _, h'⟩ := mapO_cons h
    simp [mapO_len h']
theorem mapO_get {α β : Type} {g : α → Option β} : ∀ {xs : List α} {ys : List β}, mapO g xs = some ys → ∀ (k : Nat) (x : α), xs[k]? = some x → ∃ y, ys[k]? = some y ∧ g x = some y
  | [], ys, h, k, x, hx => by simp at hx
  | z :: xs, ys, h, k, x, hx => by
    obtain ⟨y, ys', rfl, hy, h'⟩ := mapO_cons h
    cases k with
    | zero => simp at hx; subst hx; exact ⟨y, by simp, hy⟩
    | succ k => simpa using mapO_get h' k x (by simpa using hx)
theorem mapO_all {α β : Type} {g : α → Option β} {xs : List α} {ys : List β} (h : mapO g xs = some ys) : ∀ y ∈ ys, ∃ x ∈ xs, g x = some y := by
  intro y hy
  obtain ⟨k, hk, rfl⟩ := List.getElem_of_mem hy
  have hl := mapO_len h
  have hx : xs[k]? = some (xs[k]'(by omega)) := List.getElem?_eq_getElem _
  obtain ⟨y', h1, h2⟩ := mapO_get h k _ hx
  rw [List.getElem?_eq_getElem hk] at h1
  injection h1 with h1
  exact ⟨_, List.mem_of_getElem? hx, by rw [h2, ← h1]⟩

/-- the levels behind a level -/
def lvlF (p : Nat) : List Nat → Bool
  | [] => true
  | l :: ls => bif Nat.ble 1 l then (bif Nat.ble l (p + 1) then lvlF l ls else false) else false
/-- a list of levels -/
def lvl : List Nat → Bool
  | [] => false
  | a :: ar => bif Nat.beq a 0 then lvlF 0 ar else false

def addLast (x : Nat) : List (List Nat) → List (List Nat)
  | [] => []
  | [b] => [b ++ [x]]
  | b :: c :: bs => b :: addLast x (c :: bs)
/-- one level more, of the branches gathered so far -/
def brStep (out : List (List Nat)) (l : Nat) : Option (List (List Nat)) :=
  match l with
  | 0 => none
  | 1 => some (out ++ [[0]])
  | l + 2 => match out with
    | [] => none
    | b :: bs => some (addLast (l + 1) (b :: bs))
def brF (out : List (List Nat)) : List Nat → Option (List (List Nat))
  | [] => some out
  | l :: ls => match brStep out l with
    | none => none
    | some o => brF o ls
/-- the branches of a level list -/
def brO : List Nat → Option (List (List Nat))
  | [] => none
  | _ :: ts => brF [] ts

/-- a list put into lists in descending order -/
def insD (p : List Nat) : List (List Nat) → List (List Nat)
  | [] => [p]
  | q :: qs => bif ltN q p then p :: q :: qs else q :: insD p qs
def srtF (s : List (List Nat)) : List (List Nat) → List (List Nat)
  | [] => s
  | p :: ps => srtF (insD p s) ps
/-- lists in descending order -/
def srtD (ps : List (List Nat)) : List (List Nat) := srtF [] ps
def bump : List Nat → List Nat
  | [] => []
  | a :: ar => (a + 1) :: bump ar
def bumps : List (List Nat) → List Nat
  | [] => []
  | b :: bs => bump b ++ bumps bs
/-- the list of the tree with some branches -/
def rootN (bs : List (List Nat)) : List Nat := 0 :: bumps bs
/-- the canonical list -/
def canO : Nat → List Nat → Option (List Nat)
  | 0, _ => none
  | f + 1, t => match brO t with
    | none => none
    | some bs => match mapO (canO f) bs with
      | none => none
      | some cs => some (rootN (srtD cs))

/-- one more than the last place below k whose level is one less; 0 if there is none -/
def parN (t : List Nat) (lev : Nat) : Nat → Nat
  | 0 => 0
  | k + 1 => bif Nat.beq (t.getD k 0 + 1) lev then k + 1 else parN t lev k
/-- one more at the end of the list at a place -/
def addAt (x : Nat) : Nat → List (List Nat) → List (List Nat)
  | _, [] => []
  | 0, b :: bs => (b ++ [x]) :: bs
  | i + 1, b :: bs => b :: addAt x i bs
/-- before in the order of trees -/
def befN (s t : List Nat) : Bool := bif Nat.beq s.length t.length then ltN t s else Nat.blt s.length t.length
/- of the reference -/
def runN (a : Nat) : List Nat → Nat
  | [] => 0
  | l :: ls => bif Nat.blt a l then runN a ls + 1 else 0
/-- the place behind the branch at a node -/
def endN (t : List Nat) (node : Nat) : Nat := node + 1 + runN (t.getD node 0) (t.drop (node + 1))
/-- all lists of so many levels that begin with a list: the greater ones first -/
def grow1 (t : List Nat) (last : Nat) : Nat → List (List Nat)
  | 0 => []
  | l + 1 => (t ++ [l + 1]) :: grow1 t last l
def lastN : List Nat → Nat
  | [] => 0
  | [a] => a
  | _ :: b :: bs => lastN (b :: bs)
def levs : Nat → List (List Nat)
  | 0 => [[0]]
  | n + 1 => (levs n).flatMap fun t => grow1 t (lastN t) (lastN t + 1)
end Go.Proofs.YtngdpoeondnchaaGreat

set_option maxRecDepth 100000
set_option linter.unusedVariables false
set_option linter.unusedSimpArgs false
namespace Go.Proofs.YtngdpoeondnchaaGreat

/-! ### products -/
def prodZ : List Int → Int
  | [] => 1
  | x :: xs => x * prodZ xs
theorem prodZ_snoc (xs : List Int) (x : Int) : prodZ (xs ++ [x]) = prodZ xs * x := by
  induction xs with
  | nil => simp [prodZ]
  | cons y xs ih => simp only [List.cons_append, prodZ, ih]; rw [Int.mul_assoc]
theorem prodZ_append (xs ys : List Int) : prodZ (xs ++ ys) = prodZ xs * prodZ ys := by
  induction xs with
  | nil => simp [prodZ]
  | cons y xs ih => simp only [List.cons_append, prodZ, ih]; rw [Int.mul_assoc]
theorem mul_modR (x y : Int) : x * (y % 10007) % 10007 = x * y % 10007 := by
  rw [Int.mul_emod, Int.emod_emod_of_dvd _ (Int.dvd_refl _), ← Int.mul_emod]
theorem mul_modL (x y : Int) : x % 10007 * y % 10007 = x * y % 10007 := by
  rw [Int.mul_comm, mul_modR, Int.mul_comm]
/-- the values at places -/
def gat (a : List Int) (xs : List Nat) : List Int := xs.map fun k => a.getD k 0
def valZ (b : List Int) (ps : List Nat) : Int := prodZ (gat b ps) % 10007
theorem valZ_snoc (b : List Int) (ps : List Nat) (k : Nat) : valZ b (ps ++ [k]) = valZ b ps * b.getD k 0 % 10007 := by
  unfold valZ gat
  rw [List.map_append, List.map_singleton, prodZ_snoc, mul_modL]
theorem valZ_bd (b : List Int) (ps : List Nat) : 0 ≤ valZ b ps ∧ valZ b ps ≤ 10006 := by unfold valZ; omega

/-! ### sums -/
theorem sumF_append {α : Type} (g : α → Int) (l l' : List α) : sumF g (l ++ l') = sumF g l + sumF g l' := by
  induction l with
  | nil => simp [sumF]
  | cons x l ih => simp only [List.cons_append, sumF, ih]; omega
theorem sumF_map {α β : Type} (g : β → Int) (f : α → β) (l : List α) : sumF g (l.map f) = sumF (fun x => g (f x)) l := by
  induction l with
  | nil => rfl
  | cons x l ih => simp only [List.map_cons, sumF, ih]
theorem sumF_congr {α : Type} {g h : α → Int} : ∀ {l : List α}, (∀ x ∈ l, g x = h x) → sumF g l = sumF h l
  | [], _ => rfl
  | x :: l, e => by simp only [sumF]; rw [e x (by simp), sumF_congr fun y hy => e y (by simp [hy])]
end Go.Proofs.YtngdpoeondnchaaGreat

set_option maxRecDepth 100000
namespace Go.Proofs.YtngdpoeondnchaaGreat

def CTab : List (List ((List Nat × Nat) × Nat)) := [
  [(([], 1), 1), (([1], 0), 1)],
  [(([], 2), 1), (([1], 1), 1), (([2], 0), 1)],
  [(([], 3), 1), (([1], 2), 1), (([2], 1), 1), (([3], 0), 1)],
  [(([], 4), 1), (([1], 2), 2), (([1, 1], 1), 1), (([4], 0), 1)],
  [(([], 5), 1), (([1], 3), 1), (([2], 2), 1), (([3], 1), 1), (([5], 0), 1)],
  [(([], 6), 1), (([1], 3), 2), (([1, 1], 2), 1), (([4], 1), 1), (([6], 0), 1)],
  [(([], 7), 1), (([1], 3), 1), (([1], 4), 1), (([2], 2), 1), (([1, 1], 2), 1), (([1, 2], 1), 1), (([7], 0), 1)],
  [(([], 8), 1), (([1], 4), 3), (([1, 1], 2), 3), (([1, 1, 1], 1), 1), (([8], 0), 1)],
  [(([], 9), 1), (([1], 5), 1), (([2], 3), 1), (([3], 2), 1), (([5], 1), 1), (([9], 0), 1)],
  [(([], 10), 1), (([1], 5), 2), (([1, 1], 3), 1), (([4], 2), 1), (([6], 1), 1), (([10], 0), 1)],
  [(([], 11), 1), (([1], 5), 1), (([1], 6), 1), (([2], 3), 1), (([1, 1], 3), 1), (([1, 2], 2), 1), (([7], 1), 1), (([11], 0), 1)],
  [(([], 12), 1), (([1], 5), 1), (([1], 7), 1), (([2], 4), 1), (([1, 1], 3), 1), (([3], 2), 1), (([1, 2], 2), 1), (([1, 3], 1), 1), (([12], 0), 1)],
  [(([], 13), 1), (([1], 6), 3), (([1, 1], 3), 3), (([1, 1, 1], 2), 1), (([8], 1), 1), (([13], 0), 1)],
  [(([], 14), 1), (([1], 6), 1), (([1], 7), 2), (([1, 1], 3), 2), (([1, 1], 4), 1), (([4], 2), 1), (([1, 1, 1], 2), 1), (([1, 4], 1), 1), (([14], 0), 1)],
  [(([], 15), 1), (([1], 7), 2), (([2], 3), 2), (([1, 1], 4), 1), (([1, 2], 2), 2), (([2, 2], 1), 1), (([15], 0), 1)],
  [(([], 16), 1), (([1], 7), 2), (([1], 8), 1), (([2], 4), 1), (([1, 1], 3), 1), (([1, 1], 4), 2), (([1, 2], 2), 2), (([1, 1, 1], 2), 1), (([1, 1, 2], 1), 1), (([16], 0), 1)],
  [(([], 17), 1), (([1], 8), 4), (([1, 1], 4), 6), (([1, 1, 1], 2), 4), (([1, 1, 1, 1], 1), 1), (([17], 0), 1)],
  [(([], 18), 1), (([1], 9), 1), (([2], 5), 1), (([3], 3), 1), (([5], 2), 1), (([9], 1), 1), (([18], 0), 1)],
  [(([], 19), 1), (([1], 9), 2), (([1, 1], 5), 1), (([4], 3), 1), (([6], 2), 1), (([10], 1), 1), (([19], 0), 1)],
  [(([], 20), 1), (([1], 9), 1), (([1], 10), 1), (([2], 5), 1), (([1, 1], 5), 1), (([1, 2], 3), 1), (([7], 2), 1), (([11], 1), 1), (([20], 0), 1)],
  [(([], 21), 1), (([1], 9), 1), (([1], 11), 1), (([2], 6), 1), (([1, 1], 5), 1), (([3], 3), 1), (([1, 2], 3), 1), (([1, 3], 2), 1), (([12], 1), 1), (([21], 0), 1)],
  [(([], 22), 1), (([1], 9), 1), (([1], 12), 1), (([2], 7), 1), (([1, 1], 5), 1), (([3], 4), 1), (([1, 2], 3), 1), (([5], 2), 1), (([1, 3], 2), 1), (([1, 5], 1), 1), (([22], 0), 1)],
  [(([], 23), 1), (([1], 10), 3), (([1, 1], 5), 3), (([1, 1, 1], 3), 1), (([8], 2), 1), (([13], 1), 1), (([23], 0), 1)],
  [(([], 24), 1), (([1], 10), 1), (([1], 11), 2), (([1, 1], 5), 2), (([1, 1], 6), 1), (([4], 3), 1), (([1, 1, 1], 3), 1), (([1, 4], 2), 1), (([14], 1), 1), (([24], 0), 1)],
  [(([], 25), 1), (([1], 10), 1), (([1], 12), 2), (([1, 1], 5), 2), (([1, 1], 7), 1), (([4], 4), 1), (([1, 1, 1], 3), 1), (([6], 2), 1), (([1, 4], 2), 1), (([1, 6], 1), 1), (([25], 0), 1)],
  [(([], 26), 1), (([1], 11), 2), (([2], 5), 2), (([1, 1], 6), 1), (([1, 2], 3), 2), (([2, 2], 2), 1), (([15], 1), 1), (([26], 0), 1)],
  [(([], 27), 1), (([1], 11), 2), (([1], 13), 1), (([2], 6), 1), (([1, 1], 5), 1), (([1, 1], 6), 2), (([1, 2], 3), 2), (([1, 1, 1], 3), 1), (([1, 1, 2], 2), 1), (([16], 1), 1), (([27], 0), 1)],
  [(([], 28), 1), (([1], 11), 1), (([1], 12), 1), (([1], 14), 1), (([2], 7), 1), (([1, 1], 5), 1), (([1, 1], 6), 1), (([1, 1], 7), 1), (([1, 2], 3), 1), (([1, 2], 4), 1), (([1, 1, 1], 3), 1), (([7], 2), 1), (([1, 1, 2], 2), 1), (([1, 7], 1), 1), (([28], 0), 1)],
  [(([], 29), 1), (([1], 12), 1), (([1], 15), 1), (([2], 5), 1), (([2], 7), 1), (([1, 1], 7), 1), (([3], 3), 1), (([1, 2], 3), 1), (([1, 2], 4), 1), (([1, 3], 2), 1), (([2, 2], 2), 1), (([2, 3], 1), 1), (([29], 0), 1)],
  [(([], 30), 1), (([1], 12), 2), (([1], 16), 1), (([2], 8), 1), (([1, 1], 5), 1), (([1, 1], 7), 2), (([3], 4), 1), (([1, 2], 4), 2), (([1, 1, 1], 3), 1), (([1, 3], 2), 2), (([1, 1, 2], 2), 1), (([1, 1, 3], 1), 1), (([30], 0), 1)],
  [(([], 31), 1), (([1], 13), 4), (([1, 1], 6), 6), (([1, 1, 1], 3), 4), (([1, 1, 1, 1], 2), 1), (([17], 1), 1), (([31], 0), 1)],
  [(([], 32), 1), (([1], 13), 1), (([1], 14), 3), (([1, 1], 6), 3), (([1, 1], 7), 3), (([1, 1, 1], 3), 3), (([1, 1, 1], 4), 1), (([8], 2), 1), (([1, 1, 1, 1], 2), 1), (([1, 8], 1), 1), (([32], 0), 1)],
  [(([], 33), 1), (([1], 14), 1), (([1], 15), 2), (([2], 6), 1), (([1, 1], 7), 3), (([4], 3), 1), (([1, 2], 3), 2), (([1, 1, 1], 4), 1), (([1, 4], 2), 1), (([1, 1, 2], 2), 1), (([2, 4], 1), 1), (([33], 0), 1)],
  [(([], 34), 1), (([1], 14), 2), (([1], 16), 2), (([1, 1], 6), 1), (([1, 1], 7), 4), (([1, 1], 8), 1), (([4], 4), 1), (([1, 1, 1], 3), 2), (([1, 1, 1], 4), 2), (([1, 4], 2), 2), (([1, 1, 1, 1], 2), 1), (([1, 1, 4], 1), 1), (([34], 0), 1)],
  [(([], 35), 1), (([1], 15), 1), (([1], 16), 2), (([2], 7), 2), (([1, 1], 7), 2), (([1, 1], 8), 1), (([1, 2], 3), 2), (([1, 2], 4), 2), (([1, 1, 1], 4), 1), (([2, 2], 2), 1), (([1, 1, 2], 2), 2), (([1, 2, 2], 1), 1), (([35], 0), 1)],
  [(([], 36), 1), (([1], 16), 3), (([1], 17), 1), (([2], 8), 1), (([1, 1], 7), 3), (([1, 1], 8), 3), (([1, 2], 4), 3), (([1, 1, 1], 3), 1), (([1, 1, 1], 4), 3), (([1, 1, 2], 2), 3), (([1, 1, 1, 1], 2), 1), (([1, 1, 1, 2], 1), 1), (([36], 0), 1)],
  [(([], 37), 1), (([1], 17), 5), (([1, 1], 8), 10), (([1, 1, 1], 4), 10), (([1, 1, 1, 1], 2), 5), (([1, 1, 1, 1, 1], 1), 1), (([37], 0), 1)]]
end Go.Proofs.YtngdpoeondnchaaGreat

