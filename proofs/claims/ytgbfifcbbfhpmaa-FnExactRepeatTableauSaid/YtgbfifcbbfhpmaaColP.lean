/- The polynomials of collocation, plain. No program in sight. -/
import Derived.Test.YtgbfifcbbfhpmaaInv
set_option linter.unusedVariables false
set_option linter.unusedSimpArgs false
namespace Go.Proofs.Ytgbfifcbbfhpmaa
open Go.RowKit

theorem mod_mul_l (a b : Int) : a % 10007 * b % 10007 = a * b % 10007 := by
  rw [Int.mul_emod, Int.emod_emod_of_dvd _ (Int.dvd_refl _), ← Int.mul_emod]
theorem mod_mul_r (a b : Int) : a * (b % 10007) % 10007 = a * b % 10007 := by rw [Int.mul_comm, mod_mul_l, Int.mul_comm]
theorem mod_add_l (a b : Int) : (a % 10007 + b) % 10007 = (a + b) % 10007 := by omega
theorem mod_add_r (a b : Int) : (a + b % 10007) % 10007 = (a + b) % 10007 := by omega
theorem mod_mod (a : Int) : a % 10007 % 10007 = a % 10007 := by omega
theorem mod_pow (a : Int) (n : Nat) : (a % 10007) ^ n % 10007 = a ^ n % 10007 := by
  induction n with
  | zero => simp
  | succ n ih => rw [Int.pow_succ, Int.pow_succ, mod_mul_r, ← mod_mul_l, ih, mod_mul_l]
theorem pw_mul (a b : Int) (n : Nat) : pw (a * b % 10007) n = pw a n * pw b n % 10007 := by
  unfold pw
  rw [mod_pow, mod_mul_l, mod_mul_r]
  congr 1
  induction n with
  | zero => simp
  | succ n ih => simp only [Int.pow_succ, ih]; simp only [Int.mul_assoc, Int.mul_left_comm, Int.mul_comm]
theorem pw_mod (a : Int) (n : Nat) : pw (a % 10007) n = pw a n := mod_pow a n
theorem pw_self (a : Int) (n : Nat) : pw a n % 10007 = pw a n := mod_mod _
theorem pw_one (n : Nat) : pw 1 n = 1 := by simp [pw, Int.one_pow]

theorem scl_get (k : Int) (p : List Int) (i : Nat) : (scl k p).getD i 0 = p.getD i 0 * k % 10007 := by
  unfold scl
  by_cases h : i < p.length
  · simp [List.getD, h]
  · simp [List.getD, List.getElem?_eq_none (Nat.le_of_not_lt h)]
theorem addTo_get (k : Int) (a b : List Int) (j i : Nat) (h : i < j) : (addTo k a b j).getD i 0 = (a.getD i 0 + k * b.getD i 0) % 10007 := by
  simp [addTo, List.getD, h]
theorem ext_getD {a b : List Int} (hl : a.length = b.length) (h : ∀ i, i < a.length → a.getD i 0 = b.getD i 0) : a = b := by
  refine List.ext_getElem? fun i => ?_
  by_cases hi : i < a.length
  · have h1 := h i hi
    simp only [List.getD, List.getElem?_eq_getElem hi, List.getElem?_eq_getElem (hl ▸ hi : i < b.length), Option.getD_some] at h1
    rw [List.getElem?_eq_getElem hi, List.getElem?_eq_getElem (hl ▸ hi : i < b.length), h1]
  · rw [List.getElem?_eq_none (by omega), List.getElem?_eq_none (by omega)]

/-- p times z - d -/
def tl (p : List Int) (d : Int) : List Int := addk ((-d) % 10007) (0 :: p) (p ++ [0])
theorem tl_len (p : List Int) (d : Int) : (tl p d).length = p.length + 1 := by simp [tl, addk, addTo_len]
theorem tl_nums (p : List Int) (d : Int) : Nums (tl p d) := addTo_nums _ _ _ _
theorem snoc0_get (p : List Int) (i : Nat) : (p ++ [0]).getD i 0 = p.getD i 0 := by
  simp only [List.getD]
  by_cases h : i < p.length
  · rw [List.getElem?_append_left h]
  · rw [List.getElem?_append_right (by omega), List.getElem?_eq_none (l := p) (by omega)]
    cases hi : i - p.length with
    | zero => simp
    | succ n => simp
theorem tl_get (p : List Int) (d : Int) (i : Nat) (h : i < p.length + 1) : (tl p d).getD i 0 = ((0 :: p).getD i 0 + (-d) % 10007 * p.getD i 0) % 10007 := by
  unfold tl addk
  rw [addTo_get _ _ _ _ _ (by simpa using h), snoc0_get]
theorem cons0_scl (k : Int) (p : List Int) (i : Nat) : (0 :: scl k p).getD i 0 = (0 :: p).getD i 0 * k % 10007 := by
  cases i with
  | zero => simp
  | succ i => simpa using scl_get k p i
theorem tl_scl (k : Int) (p : List Int) (d : Int) : tl (scl k p) d = scl k (tl p d) := by
  refine ext_getD (by rw [tl_len, scl_len, scl_len, tl_len]) fun i hi => ?_
  rw [tl_len, scl_len] at hi
  rw [tl_get _ _ _ (by rwa [scl_len]), scl_get, scl_get, tl_get _ _ _ hi, cons0_scl]
  generalize (-d) % 10007 = e
  generalize (0 :: p).getD i 0 = x
  generalize p.getD i 0 = y
  rw [mod_mul_l, mod_add_l, ← mod_add_r, mod_mul_r, mod_add_r, Int.add_mul, Int.mul_assoc]
theorem scl_scl (u v : Int) (p : List Int) : scl u (scl v p) = scl (v * u % 10007) p := by
  unfold scl
  rw [List.map_map]
  refine List.map_congr_left fun z _ => ?_
  simp only [Function.comp_apply]
  rw [mod_mul_l, mod_mul_r, Int.mul_assoc]

/-- the polynomial of the program after m nodes -/
def lagI (c : Int) (zs : List Int) (j : Nat) : Nat → List Int
  | 0 => [1]
  | m + 1 => if m = j then lagI c zs j m else scl (pw ((c - zs.getD m 0) % 10007) 10005) (tl (lagI c zs j m) (zs.getD m 0))
/-- the product of the reference after m nodes -/
def facN (zs : List Int) (j : Nat) : Nat → List Int
  | 0 => [1]
  | m + 1 => if m = j then facN zs j m else tl (facN zs j m) (zs.getD m 0)
def valN (c : Int) (zs : List Int) (j : Nat) : Nat → Int
  | 0 => 1
  | m + 1 => if m = j then valN c zs j m else valN c zs j m * ((c - zs.getD m 0) % 10007) % 10007
theorem valN_bd (c : Int) (zs : List Int) (j : Nat) : ∀ m, 0 ≤ valN c zs j m ∧ valN c zs j m ≤ 10006
  | 0 => by simp [valN]
  | m + 1 => by
    have := valN_bd c zs j m
    unfold valN
    split <;> omega
theorem facN_len (zs : List Int) (j : Nat) : ∀ m, 1 ≤ (facN zs j m).length ∧ (facN zs j m).length ≤ m + 1
  | 0 => by simp [facN]
  | m + 1 => by
    have := facN_len zs j m
    unfold facN
    split
    · omega
    · rw [tl_len]; omega
theorem facN_nums (zs : List Int) (j : Nat) : ∀ m, Nums (facN zs j m)
  | 0 => by intro z hz; simp [facN] at hz; omega
  | m + 1 => by
    unfold facN
    split
    · exact facN_nums zs j m
    · exact tl_nums _ _
theorem lagI_eq (c : Int) (zs : List Int) (j : Nat) : ∀ m, lagI c zs j m = scl (pw (valN c zs j m) 10005) (facN zs j m)
  | 0 => by simp only [lagI, facN, valN, pw_one]; rfl
  | m + 1 => by
    unfold lagI facN valN
    split
    · exact lagI_eq c zs j m
    · rw [lagI_eq c zs j m, tl_scl, scl_scl, pw_mul]
theorem lagI_len (c : Int) (zs : List Int) (j m : Nat) : 1 ≤ (lagI c zs j m).length ∧ (lagI c zs j m).length ≤ m + 1 := by
  rw [lagI_eq, scl_len]; exact facN_len zs j m
theorem lagI_nums (c : Int) (zs : List Int) (j m : Nat) : Nums (lagI c zs j m) := by rw [lagI_eq]; exact scl_nums _ _

/-- a sum over the first n numbers -/
def sumTo (f : Nat → Int) : Nat → Int
  | 0 => 0
  | n + 1 => sumTo f n + f n
theorem sumTo_bd (f : Nat → Int) (h : ∀ i, 0 ≤ f i ∧ f i ≤ 10006) : ∀ n : Nat, 0 ≤ sumTo f n ∧ sumTo f n ≤ (n : Int) * 10006
  | 0 => by simp [sumTo]
  | n + 1 => by
    have h1 := sumTo_bd f h n
    have h2 := h n
    unfold sumTo
    omega
def iterm (p : List Int) (x : Int) (i : Nat) : Int := p.getD i 0 * pw x (i + 1) % 10007 * pw ((i : Int) + 1) 10005 % 10007
theorem iterm_bd (p : List Int) (x : Int) (i : Nat) : 0 ≤ iterm p x i ∧ iterm p x i ≤ 10006 := by unfold iterm; omega
theorem iterm_eq (p : List Int) (x : Int) (i : Nat) : p.getD i 0 * (pw x (i + 1) * pw ((i : Int) + 1) 10005 % 10007) % 10007 = iterm p x i := by
  unfold iterm
  rw [mod_mul_r, mod_mul_l, Int.mul_assoc]
/-- the integral of p from 0 to x -/
def integ (p : List Int) (x : Int) : Int := sumTo (iterm p x) p.length % 10007
theorem integ_bd (p : List Int) (x : Int) : 0 ≤ integ p x ∧ integ p x ≤ 10006 := by unfold integ; omega

/-- the j-th polynomial of nodes -/
def lag (zs : List Int) (j : Nat) : List Int := lagI (zs.getD j 0) zs j zs.length
def colRow (zs : List Int) (j n : Nat) : List Int := (List.range n).map fun i => integ (lag zs j) (zs.getD i 0)
def colA (zs : List Int) (n : Nat) : List (List Int) := (List.range n).map fun i => (List.range zs.length).map fun j => integ (lag zs j) (zs.getD i 0)
def colB (zs : List Int) (n : Nat) : List Int := (List.range n).map fun j => integ (lag zs j) 1
theorem colB_len (zs : List Int) (n : Nat) : (colB zs n).length = n := by simp [colB]
theorem colA_len (zs : List Int) (n : Nat) : (colA zs n).length = n := by simp [colA]
theorem colB_succ (zs : List Int) (n : Nat) : colB zs (n + 1) = colB zs n ++ [integ (lag zs n) 1] := by simp [colB, List.range_succ]
theorem colA_succ (zs : List Int) (n : Nat) : colA zs (n + 1) = colA zs n ++ [(List.range zs.length).map fun j => integ (lag zs j) (zs.getD n 0)] := by simp [colA, List.range_succ]
theorem colRow_succ (zs : List Int) (j n : Nat) : colRow zs j (n + 1) = colRow zs j n ++ [integ (lag zs j) (zs.getD n 0)] := by simp [colRow, List.range_succ]
theorem colRow_len (zs : List Int) (j n : Nat) : (colRow zs j n).length = n := by simp [colRow]
theorem colRow_nums (zs : List Int) (j n : Nat) : Nums (colRow zs j n) := by
  intro z hz
  obtain ⟨i, _, rfl⟩ := List.mem_map.1 hz
  exact integ_bd _ _
theorem colB_nums (zs : List Int) (n : Nat) : Nums (colB zs n) := by
  intro z hz
  obtain ⟨i, _, rfl⟩ := List.mem_map.1 hz
  exact integ_bd _ _
theorem colA_rows (zs : List Int) (n : Nat) : ∀ r ∈ colA zs n, Nums r ∧ r.length = zs.length := by
  intro r hr
  obtain ⟨i, _, rfl⟩ := List.mem_map.1 hr
  refine ⟨fun z hz => ?_, by simp⟩
  obtain ⟨j, _, rfl⟩ := List.mem_map.1 hz
  exact integ_bd _ _

/-- the product of p and z - c, as the reference makes it: the list after k rounds -/
def facTo (p : List Int) (c : Int) (k : Nat) : List Int := (List.range (p.length + 1)).map fun j => if j < k then ((0 :: p).getD j 0 - c * p.getD j 0 % 10007) % 10007 else if j = k then (0 :: p).getD j 0 else 0
theorem facTo_len (p : List Int) (c : Int) (k : Nat) : (facTo p c k).length = p.length + 1 := by simp [facTo]
theorem facTo_get {p : List Int} {c : Int} {k j : Nat} (h : j < p.length + 1) : (facTo p c k)[j]? = some (if j < k then ((0 :: p).getD j 0 - c * p.getD j 0 % 10007) % 10007 else if j = k then (0 :: p).getD j 0 else 0) := by
  simp [facTo, h]
theorem facTo_zero (p : List Int) (c : Int) : facTo p c 0 = List.replicate (p.length + 1) 0 := by
  refine List.ext_getElem? fun j => ?_
  by_cases h : j < p.length + 1
  · rw [facTo_get h]
    cases j with
    | zero => simp
    | succ j =>
      have hj : j < p.length := by omega
      simp [hj]
  · rw [List.getElem?_eq_none (by rw [facTo_len]; omega), List.getElem?_eq_none (by simp; omega)]
theorem facTo_succ {p : List Int} {c : Int} {k : Nat} {x : Int} (hx : p[k]? = some x) (hN : 0 ≤ x ∧ x ≤ 10006) :
    ((facTo p c k).set (k + 1) ((0 + x) % 10007)).set k (((0 :: p).getD k 0 - c * x % 10007) % 10007) = facTo p c (k + 1) := by
  have hk := (List.getElem?_eq_some_iff.1 hx).1
  refine List.ext_getElem? fun j => ?_
  by_cases h : j < p.length + 1
  · rw [facTo_get h]
    by_cases h1 : j = k
    · subst h1
      rw [List.getElem?_set_self (by simp [facTo_len]; omega), if_pos (by omega)]
      simp [List.getD, hx]
    · rw [List.getElem?_set_ne (by omega)]
      by_cases h2 : j = k + 1
      · subst h2
        rw [List.getElem?_set_self (by simp [facTo_len]; omega), if_neg (by omega), if_pos rfl]
        have : x % 10007 = x := by omega
        simp [List.getD, hx, this]
      · rw [List.getElem?_set_ne (by omega), facTo_get h]
        congr 1
        by_cases h3 : j < k
        · rw [if_pos h3, if_pos (by omega)]
        · rw [if_neg h3, if_neg (by omega), if_neg (by omega), if_neg (by omega)]
  · rw [List.getElem?_eq_none (by simp [facTo_len]; omega), List.getElem?_eq_none (by rw [facTo_len]; omega)]
theorem facTo_end {p : List Int} {c : Int} (hN : Nums p) : facTo p c p.length = tl p c := by
  refine ext_getD (by rw [facTo_len, tl_len]) fun j hj => ?_
  rw [facTo_len] at hj
  rw [tl_get _ _ _ hj, List.getD, facTo_get hj, Option.getD_some]
  by_cases h : j < p.length
  · rw [if_pos h]
    generalize (0 :: p).getD j 0 = x
    generalize p.getD j 0 = y
    rw [← mod_add_r, mod_mul_l, mod_add_r, Int.neg_mul]
    omega
  · rw [if_neg h, if_pos (by omega)]
    have e : j = p.length := by omega
    subst e
    have h0 : p.getD p.length 0 = 0 := by simp [List.getD]
    rw [h0]
    have h1 : 0 ≤ (0 :: p).getD p.length 0 ∧ (0 :: p).getD p.length 0 ≤ 10006 := by
      cases hp : p.length with
      | zero => simp
      | succ n =>
        have hn : n < p.length := by omega
        simp only [List.getD, List.getElem?_cons_succ, List.getElem?_eq_getElem hn, Option.getD_some]
        exact hN _ (List.getElem_mem hn)
    simp only [Int.mul_zero, Int.add_zero]
    omega
end Go.Proofs.Ytgbfifcbbfhpmaa
