/- The polynomials of collocation, plain. No program in sight. | Plain: the collocation tableau of different nodes (lists of ColP) meets the conditions; the node polynomial. No walk. | Plain: an order gives quadrature conditions (bushy trees); the order of a tableau lies between its implied order and its quadrature order; that of a collocation tableau. No walk. | Plain: the orders of the three conditions as tests, and the order of a tableau between them; for lists. No walk. | One round of 'z.A = append(z.A, row)', in plain words of memory. No program in sight. | Walks: times of the program. | Walks: places in a list, nodes, integrals: of the library, the program and the reference. | Walks: the nodes' code of the reference, fractions, integrals. | Walks: cloning a list, the product of a polynomial and z - d, a column. -/
import Derived.Test.YtnlaoainhlfemaaAs9
import Derived.Test.YtnlaoainhlfemaaAs3
import Derived.Test.YtnlaoainhlfemaaAs4
import Derived.Deep.QuietTactic
import Derived.BigQuiet
import Derived.Deep.RegionHeld3
set_option linter.unusedVariables false
set_option linter.unusedSimpArgs false
namespace Go.Proofs.Ytnlaoainhlfemaa
open Go.RowKit

theorem mod_mul_l (a b : Int) : a % 10007 * b % 10007 = a * b % 10007 := by
  rw [Int.mul_emod, Int.emod_emod_of_dvd _ (Int.dvd_refl _), ← Int.mul_emod]
theorem mod_mul_r (a b : Int) : a * (b % 10007) % 10007 = a * b % 10007 := by rw [Int.mul_comm, mod_mul_l, Int.mul_comm]
theorem mod_add_l (a b : Int) : (a % 10007 + b) % 10007 = (a + b) % 10007 := by omega
theorem mod_add_r (a b : Int) : (a + b % 10007) % 10007 = (a + b) % 10007 := by omega
theorem mod_mod (a : Int) : a % 10007 % 10007 = a % 10007 := by omega
theorem mod_pow (a : Int) (n : Nat) : (a % 10007) ^ n % 10007 = a ^ n % 10007 := by
  induction n with
  | zero => simp
  | succ n ih => rw [Int.pow_succ, Int.pow_succ, mod_mul_r, ← mod_mul_l, ih, mod_mul_l]
theorem pw_mul (a b : Int) (n : Nat) : pw (a * b % 10007) n = pw a n * pw b n % 10007 := by
  unfold pw
  rw [mod_pow, mod_mul_l, mod_mul_r]
  congr 1
  induction n with
  | zero => simp
  | succ n ih => simp only [Int.pow_succ, ih]; simp only [Int.mul_assoc, Int.mul_left_comm, Int.mul_comm]
theorem pw_mod (a : Int) (n : Nat) : pw (a % 10007) n = pw a n := mod_pow a n
theorem pw_self (a : Int) (n : Nat) : pw a n % 10007 = pw a n := mod_mod _
theorem pw_one (n : Nat) : pw 1 n = 1 := by simp [pw, Int.one_pow]

theorem scl_get (k : Int) (p : List Int) (i : Nat) : (scl k p).getD i 0 = p.getD i 0 * k % 10007 := by
  unfold scl
  by_cases h : i < p.length
  · simp [List.getD, h]
  · simp [List.getD, List.getElem?_eq_none (Nat.le_of_not_lt h)]
theorem addTo_get (k : Int) (a b : List Int) (j i : Nat) (h : i < j) : (addTo k a b j).getD i 0 = (a.getD i 0 + k * b.getD i 0) % 10007 := by
  simp [addTo, List.getD, h]
theorem ext_getD {a b : List Int} (hl : a.length = b.length) (h : ∀ i, i < a.length → a.getD i 0 = b.getD i 0) : a = b := by
  refine List.ext_getElem? fun i => ?_
  by_cases hi : i < a.length
  · have h1 := h i hi
    simp only [List.getD, List.getElem?_eq_getElem hi, List.getElem?_eq_getElem (hl ▸ hi : i < b.length), Option.getD_some] at h1
    rw [List.getElem?_eq_getElem hi, List.getElem?_eq_getElem (hl ▸ hi : i < b.length), h1]
  · rw [List.getElem?_eq_none (by omega), List.getElem?_eq_none (by omega)]

/-- p times z - d -/
def tl (p : List Int) (d : Int) : List Int := addk ((-d) % 10007) (0 :: p) (p ++ [0])
theorem tl_len (p : List Int) (d : Int) : (tl p d).length = p.length + 1 := by simp [tl, addk, addTo_len]
theorem tl_nums (p : List Int) (d : Int) : Nums (tl p d) := addTo_nums _ _ _ _
theorem snoc0_get (p : List Int) (i : Nat) : (p ++ [0]).getD i 0 = p.getD i 0 := by
  simp only [List.getD]
  by_cases h : i < p.length
  · rw [List.getElem?_append_left h]
  · rw [List.getElem?_append_right (by omega), List.getElem?_eq_none (l := p) (by omega)]
    cases hi : i - p.length with
    | zero => simp
    | succ n => simp
theorem tl_get (p : List Int) (d : Int) (i : Nat) (h : i < p.length + 1) : (tl p d).getD i 0 = ((0 :: p).getD i 0 + (-d) % 10007 * p.getD i 0) % 10007 := by
  unfold tl addk
  rw [addTo_get _ _ _ _ _ (by simpa using h), snoc0_get]
theorem cons0_scl (k : Int) (p : List Int) (i : Nat) : (0 :: scl k p).getD i 0 = (0 :: p).getD i 0 * k % 10007 := by
  cases i with
  | zero => simp
  | succ i => simpa using scl_get k p i
theorem tl_scl (k : Int) (p : List Int) (d : Int) : tl (scl k p) d = scl k (tl p d) := by
  refine ext_getD (by rw [tl_len, scl_len, scl_len, tl_len]) fun i hi => ?_
  rw [tl_len, scl_len] at hi
  rw [tl_get _ _ _ (by rwa [scl_len]), scl_get, scl_get, tl_get _ _ _ hi, cons0_scl]
  generalize (-d) % 10007 = e
  generalize (0 :: p).getD i 0 = x
  generalize p.getD i 0 = y
  rw [mod_mul_l, mod_add_l, ← mod_add_r, mod_mul_r, mod_add_r, Int.add_mul, Int.mul_assoc]
theorem scl_scl (u v : Int) (p : List Int) : scl u (scl v p) = scl (v * u % 10007) p := by
  unfold scl
  rw [List.map_map]
  refine List.map_congr_left fun z _ => ?_
  simp only [Function.comp_apply]
  rw [mod_mul_l, mod_mul_r, Int.mul_assoc]

/-- the polynomial of the program after m nodes -/
def lagI (c : Int) (zs : List Int) (j : Nat) : Nat → List Int
  | 0 => [1]
  | m + 1 => if m = j then lagI c zs j m else scl (pw ((c - zs.getD m 0) % 10007) 10005) (tl (lagI c zs j m) (zs.getD m 0))
/-- the product of the reference after m nodes -/
def facN (zs : List Int) (j : Nat) : Nat → List Int
  | 0 => [1]
  | m + 1 => if m = j then facN zs j m else tl (facN zs j m) (zs.getD m 0)
def valN (c : Int) (zs : List Int) (j : Nat) : Nat → Int
  | 0 => 1
  | m + 1 => if m = j then valN c zs j m else valN c zs j m * ((c - zs.getD m 0) % 10007) % 10007
theorem valN_bd (c : Int) (zs : List Int) (j : Nat) : ∀ m, 0 ≤ valN c zs j m ∧ valN c zs j m ≤ 10006
  | 0 => by simp [valN]
  | m + 1 => by
    have := valN_bd c zs j m
    unfold valN
    split <;> omega
theorem facN_len (zs : List Int) (j : Nat) : ∀ m, 1 ≤ (facN zs j m).length ∧ (facN zs j m).length ≤ m + 1
  | 0 => by simp [facN]
  | m + 1 => by
    have := facN_len zs j m
    unfold facN
    split
    · omega
    · rw [tl_len]; omega
theorem facN_nums (zs : List Int) (j : Nat) : ∀ m, Nums (facN zs j m)
  | 0 => by intro z hz; simp [facN] at hz; omega
  | m + 1 => by
    unfold facN
    split
    · exact facN_nums zs j m
    · exact tl_nums _ _
theorem lagI_eq (c : Int) (zs : List Int) (j : Nat) : ∀ m, lagI c zs j m = scl (pw (valN c zs j m) 10005) (facN zs j m)
  | 0 => by simp only [lagI, facN, valN, pw_one]; rfl
  | m + 1 => by
    unfold lagI facN valN
    split
    · exact lagI_eq c zs j m
    · rw [lagI_eq c zs j m, tl_scl, scl_scl, pw_mul]
theorem lagI_len (c : Int) (zs : List Int) (j m : Nat) : 1 ≤ (lagI c zs j m).length ∧ (lagI c zs j m).length ≤ m + 1 := by
  rw [lagI_eq, scl_len]; exact facN_len zs j m
theorem lagI_nums (c : Int) (zs : List Int) (j m : Nat) : Nums (lagI c zs j m) := by rw [lagI_eq]; exact scl_nums _ _

/-- a sum over the first n numbers -/
def sumTo (f : Nat → Int) : Nat → Int
  | 0 => 0
  | n + 1 => sumTo f n + f n
def iterm (p : List Int) (x : Int) (i : Nat) : Int := p.getD i 0 * pw x (i + 1) % 10007 * pw ((i : Int) + 1) 10005 % 10007
theorem iterm_eq (p : List Int) (x : Int) (i : Nat) : p.getD i 0 * (pw x (i + 1) * pw ((i : Int) + 1) 10005 % 10007) % 10007 = iterm p x i := by
  unfold iterm
  rw [mod_mul_r, mod_mul_l, Int.mul_assoc]
/-- the integral of p from 0 to x -/
def integ (p : List Int) (x : Int) : Int := sumTo (iterm p x) p.length % 10007
theorem integ_bd (p : List Int) (x : Int) : 0 ≤ integ p x ∧ integ p x ≤ 10006 := by unfold integ; omega

/-- the j-th polynomial of nodes -/
def lag (zs : List Int) (j : Nat) : List Int := lagI (zs.getD j 0) zs j zs.length
def colA (zs : List Int) (n : Nat) : List (List Int) := (List.range n).map fun i => (List.range zs.length).map fun j => integ (lag zs j) (zs.getD i 0)
def colB (zs : List Int) (n : Nat) : List Int := (List.range n).map fun j => integ (lag zs j) 1
theorem colB_len (zs : List Int) (n : Nat) : (colB zs n).length = n := by simp [colB]
theorem colA_len (zs : List Int) (n : Nat) : (colA zs n).length = n := by simp [colA]
theorem colB_succ (zs : List Int) (n : Nat) : colB zs (n + 1) = colB zs n ++ [integ (lag zs n) 1] := by simp [colB, List.range_succ]
theorem colA_succ (zs : List Int) (n : Nat) : colA zs (n + 1) = colA zs n ++ [(List.range zs.length).map fun j => integ (lag zs j) (zs.getD n 0)] := by simp [colA, List.range_succ]
/-- the product of p and z - c, as the reference makes it: the list after k rounds -/
def facTo (p : List Int) (c : Int) (k : Nat) : List Int := (List.range (p.length + 1)).map fun j => if j < k then ((0 :: p).getD j 0 - c * p.getD j 0 % 10007) % 10007 else if j = k then (0 :: p).getD j 0 else 0
theorem facTo_len (p : List Int) (c : Int) (k : Nat) : (facTo p c k).length = p.length + 1 := by simp [facTo]
theorem facTo_get {p : List Int} {c : Int} {k j : Nat} (h : j < p.length + 1) : (facTo p c k)[j]? = some (if j < k then ((0 :: p).getD j 0 - c * p.getD j 0 % 10007) % 10007 else if j = k then (0 :: p).getD j 0 else 0) := by
  simp [facTo, h]
theorem facTo_zero (p : List Int) (c : Int) : facTo p c 0 = List.replicate (p.length + 1) 0 := by
  refine List.ext_getElem? fun j => ?_
  by_cases h : j < p.length + 1
  · rw [facTo_get h]
    cases j with
    | zero => simp
    | succ j =>
      have hj : j < p.length := by omega
      simp [hj]
  · rw [List.getElem?_eq_none (by rw [facTo_len]; omega), List.getElem?_eq_none (by simp; omega)]
theorem facTo_succ {p : List Int} {c : Int} {k : Nat} {x : Int} (hx : p[k]? = some x) (hN : 0 ≤ x ∧ x ≤ 10006) :
    ((facTo p c k).set (k + 1) ((0 + x) % 10007)).set k (((0 :: p).getD k 0 - c * x % 10007) % 10007) = facTo p c (k + 1) := by
  have hk := (List.getElem?_eq_some_iff.1 hx).1
  refine List.ext_getElem? fun j => ?_
  by_cases h : j < p.length + 1
  · rw [facTo_get h]
    by_cases h1 : j = k
    · subst h1
      rw [List.getElem?_set_self (by simp [facTo_len]; omega), if_pos (by omega)]
      simp [List.getD, hx]
    · rw [List.getElem?_set_ne (by omega)]
      by_cases h2 : j = k + 1
      · subst h2
        rw [List.getElem?_set_self (by simp [facTo_len]; omega), if_neg (by omega), if_pos rfl]
        have : x % 10007 = x := by omega
        simp [List.getD, hx, this]
      · rw [List.getElem?_set_ne (by omega), facTo_get h]
        congr 1
        by_cases h3 : j < k
        · rw [if_pos h3, if_pos (by omega)]
        · rw [if_neg h3, if_neg (by omega), if_neg (by omega), if_neg (by omega)]
  · rw [List.getElem?_eq_none (by simp [facTo_len]; omega), List.getElem?_eq_none (by rw [facTo_len]; omega)]
theorem facTo_end {p : List Int} {c : Int} (hN : Nums p) : facTo p c p.length = tl p c := by
  refine ext_getD (by rw [facTo_len, tl_len]) fun j hj => ?_
  rw [facTo_len] at hj
  rw [tl_get _ _ _ hj, List.getD, facTo_get hj, Option.getD_some]
  by_cases h : j < p.length
  · rw [if_pos h]
    generalize (0 :: p).getD j 0 = x
    generalize p.getD j 0 = y
    rw [← mod_add_r, mod_mul_l, mod_add_r, Int.neg_mul]
    omega
  · rw [if_neg h, if_pos (by omega)]
    have e : j = p.length := by omega
    subst e
    have h0 : p.getD p.length 0 = 0 := by simp [List.getD]
    rw [h0]
    have h1 : 0 ≤ (0 :: p).getD p.length 0 ∧ (0 :: p).getD p.length 0 ≤ 10006 := by
      cases hp : p.length with
      | zero => simp
      | succ n =>
        have hn : n < p.length := by omega
        simp only [List.getD, List.getElem?_cons_succ, List.getElem?_eq_getElem hn, Option.getD_some]
        exact hN _ (List.getElem_mem hn)
    simp only [Int.mul_zero, Int.add_zero]
    omega
end Go.Proofs.Ytnlaoainhlfemaa

set_option maxRecDepth 100000
set_option linter.unusedVariables false
set_option linter.unusedSimpArgs false
namespace Go.Proofs.Ytnlaoainhlfemaa
open Go.RowKit

/-- different numbers -/
structure DN (zs : List Int) : Prop where
  num : Nums zs
  dif : ∀ i k, i < zs.length → k < zs.length → i ≠ k → zs.getD i 0 ≠ zs.getD k 0
theorem inv_unit {a : Int} (h0 : 0 < a) (h1 : a < 10007) : a * pw a 10005 % 10007 = 1 := by
  have h := inv_powI (a := a) (n := 1) h0 h1
  have e : pw a 1 = a := by
    show a ^ 1 % 10007 = a
    rw [Int.pow_succ, Int.pow_zero, Int.one_mul]
    omega
  rw [e, Int.pow_succ, Int.pow_zero, Int.one_mul] at h
  exact h
theorem DN.sub {zs : List Int} (h : DN zs) {i k : Nat} (hi : i < zs.length) (hk : k < zs.length) (hne : i ≠ k) : 0 < (zs.getD i 0 - zs.getD k 0) % 10007 ∧ (zs.getD i 0 - zs.getD k 0) % 10007 < 10007 := by
  have h1 := h.num _ (getD_mem hi 0)
  have h2 := h.num _ (getD_mem hk 0)
  have h3 := h.dif i k hi hk hne
  omega
theorem DN.unit {zs : List Int} (h : DN zs) {i k : Nat} (hi : i < zs.length) (hk : k < zs.length) (hne : i ≠ k) : pw ((zs.getD i 0 - zs.getD k 0) % 10007) 10005 * (zs.getD i 0 - zs.getD k 0) % 10007 = 1 := by
  have h1 := h.sub hi hk hne
  have h2 := inv_unit h1.1 h1.2
  rw [Int.mul_comm] at h2
  rw [← h2]
  exact mulm rfl (Int.emod_emod_of_dvd _ (Int.dvd_refl _)).symm
theorem DN.Dif {zs : List Int} (h : DN zs) : Dif zs.length (fun i => zs.getD i 0) := fun i k hi hk hne => ⟨_, h.unit hi hk hne⟩
/-! ### the node polynomial -/
end Go.Proofs.Ytnlaoainhlfemaa

set_option maxRecDepth 100000
set_option linter.unusedVariables false
set_option linter.unusedSimpArgs false
namespace Go.Proofs.Ytnlaoainhlfemaa
open Go.RowKit

def bush (k : Nat) : Nat := [1, 2, 4, 8, 17, 37].getD k 0
def okBu (k : Nat) : Bool := Nat.beq (szT (bush k)) (k + 1) && (Nat.beq (cmpN (bt (bush k)) (List.replicate k 1)) 0 && (Nat.beq (eN (bush k)) (rhN k) && (Nat.blt 0 (bush k) && Nat.blt (bush k) 38)))
theorem tf1 : (List.range 6).all okBu = true := by decide +kernel
theorem bush_at {k : Nat} (hk : k < 6) : szT (bush k) = k + 1 ∧ bt (bush k) = List.replicate k 1 ∧ (eN (bush k) : Int) = rh k ∧ 0 < bush k ∧ bush k < 38 := by
  have h1 := tf1
  rw [List.all_eq_true] at h1
  have h2 := h1 k (List.mem_range.2 hk)
  unfold okBu at h2
  simp only [Bool.and_eq_true] at h2
  obtain ⟨a1, a2, a3, a4, a5⟩ := h2
  exact ⟨Nat.eq_of_beq_eq_true a1, cmpN_zero (Nat.eq_of_beq_eq_true a2), by rw [rh_N, Nat.eq_of_beq_eq_true a3], blt_lt a4, blt_lt a5⟩
theorem bt_one : bt 1 = [] := by decide +kernel
theorem u_one (s : Nat) (A : Nat → Nat → Int) (i : Nat) : uV s A i 1 = sR s (fun k => A i k) := by
  unfold uV
  rw [if_neg (by omega)]
  refine sR_congr fun k _ => ?_
  rw [wt_zero s A k (by omega), bt_one, pz_nil, Int.mul_one]
/-- the weight of a bushy tree -/
theorem wgt_bush {s : Nat} {A : Nat → Nat → Int} (b : Nat → Int) {c : Nat → Int} (hc : ∀ i, i < s → sR s (fun k => A i k) % 10007 = c i % 10007) {k : Nat} (hk : k < 6) : wgtT s A b (bush k) % 10007 = sR s (fun i => b i * c i ^ k) % 10007 := by
  obtain ⟨b1, b2, b3, b4, b5⟩ := bush_at hk
  rw [wgt_pos s A b b4]
  refine sR_mod fun i hi => mulm rfl ?_
  rw [wt_zero s A i b5, b2, pz_rep, u_one]
  exact pow_modI (hc i hi) k
theorem ord_B {s : Nat} {A : Nat → Nat → Int} {b c : Nat → Int} (hc : ∀ i, i < s → sR s (fun k => A i k) % 10007 = c i % 10007) {n : Nat} (hn : (n : Int) ≤ agZ (chF s A b) EX) {k : Nat} (hk : k < n) : sR s (fun i => b i * c i ^ k) % 10007 = rh k % 10007 := by
  have h6 := agZ_bd (chF s A b) EX
  obtain ⟨b1, b2, b3, b4, b5⟩ := bush_at (show k < 6 by omega)
  have h := ord_agr hn (bush k) b5 (by omega)
  rw [chF_gz s A b b5, gz_EX, b3] at h
  rw [← wgt_bush b hc (show k < 6 by omega)]
  exact h
theorem ord_of {s : Nat} {A : Nat → Nat → Int} {b : Nat → Int} {P : Nat} (h6 : P ≤ 6) (h : ∀ p, 0 < p → p < 38 → szT p ≤ P → wgtT s A b p % 10007 = (eN p : Int) % 10007) : (P : Int) ≤ agZ (chF s A b) EX := by
  refine ord_ge (chr_chF s A b) h6 fun p hp hs => ?_
  rw [chF_gz s A b hp, gz_EX]
  by_cases h0 : p = 0
  · subst h0
    rw [wgt_zero]
    have : eN 0 = 1 := rfl
    rw [this]
    rfl
  · exact h p (by omega) hp hs
/-- the order is at least what the conditions imply -/
theorem implied_le {s : Nat} {A : Nat → Nat → Int} {b c : Nat → Int} {p q r P : Nat} (h : BCD s A b c p q r) (hq : 1 ≤ q) (hP : P ≤ p) (h1 : P ≤ 2 * q + 2) (h2 : P ≤ q + r + 1) (h6 : P ≤ 6) : (P : Int) ≤ agZ (chF s A b) EX := by
  have h' : BCD s A b c P q r := ⟨fun k hk => h.B k (by omega), h.C, h.D⟩
  exact ord_of h6 fun t t0 t1 t2 => bcd_order h' hq h1 h2 h6 _ t t0 t1 (Nat.le_refl _) t2
/-- and at most what the quadrature allows -/
theorem ord_le {s : Nat} {A : Nat → Nat → Int} {b c : Nat → Int} (hc : ∀ i, i < s → sR s (fun k => A i k) % 10007 = c i % 10007) {p : Nat} (hp : 6 ≤ p ∨ sR s (fun i => b i * c i ^ p) % 10007 ≠ rh p % 10007) : agZ (chF s A b) EX ≤ (p : Int) := by
  have h6 := agZ_bd (chF s A b) EX
  rcases hp with hp | hp
  · omega
  · refine Classical.byContradiction fun hx => hp ?_
    obtain ⟨n, hn⟩ : ∃ n : Nat, agZ (chF s A b) EX = (n : Int) := ⟨(agZ (chF s A b) EX).toNat, by omega⟩
    exact ord_B hc (n := n) (by omega) (by omega)
/-! ### collocation tableaus -/
end Go.Proofs.Ytnlaoainhlfemaa

set_option maxRecDepth 100000
set_option linter.unusedVariables false
set_option linter.unusedSimpArgs false
namespace Go.Proofs.Ytnlaoainhlfemaa
open Go.RowKit

/-- up to which number a test holds, at most n more than k -/
def cndF (f : Nat → Bool) : Nat → Nat → Nat
  | 0, k => k
  | n + 1, k => bif f (k + 1) then cndF f n (k + 1) else k
theorem cndF_spec (f : Nat → Bool) : ∀ n k, k ≤ cndF f n k ∧ cndF f n k ≤ k + n ∧ (∀ j, k < j → j ≤ cndF f n k → f j = true) ∧ (cndF f n k = k + n ∨ f (cndF f n k + 1) = false)
  | 0, k => ⟨Nat.le_refl _, Nat.le_refl _, fun j h1 h2 => by have : cndF f 0 k = k := rfl; omega, .inl rfl⟩
  | n + 1, k => by
    unfold cndF
    cases h : f (k + 1) with
    | true =>
      rw [cond_true]
      obtain ⟨a, b, c, d⟩ := cndF_spec f n (k + 1)
      refine ⟨by omega, by omega, fun j h1 h2 => ?_, ?_⟩
      · by_cases e : j = k + 1
        · rw [e]; exact h
        · exact c j (by omega) h2
      · rcases d with d | d
        · exact .inl (by omega)
        · exact .inr d
    | false =>
      rw [cond_false]
      exact ⟨Nat.le_refl _, by omega, fun j h1 h2 => by omega, .inr h⟩
def cndO (f : Nat → Bool) : Nat := cndF f 16 0
theorem cndO_at {f : Nat → Bool} {j : Nat} (h0 : 0 < j) (h : j ≤ cndO f) : f j = true := (cndF_spec f 16 0).2.2.1 j h0 h
theorem cndO_le (f : Nat → Bool) : cndO f ≤ 16 := by have := (cndF_spec f 16 0).2.1; unfold cndO; omega
theorem cndO_end (f : Nat → Bool) : cndO f = 16 ∨ f (cndO f + 1) = false := by have := (cndF_spec f 16 0).2.2.2; unfold cndO; omega
theorem cndO_ge {f : Nat → Bool} {n : Nat} (hn : n ≤ 16) (h : ∀ j, 0 < j → j ≤ n → f j = true) : n ≤ cndO f := by
  rcases cndO_end f with e | e
  · omega
  · refine Classical.byContradiction fun hx => ?_
    rw [h (cndO f + 1) (by omega) (by omega)] at e
    cases e
theorem cndO_is {f : Nat → Bool} {n : Nat} (hn : n ≤ 16) (h : ∀ j, 0 < j → j ≤ n → f j = true) (he : n = 16 ∨ f (n + 1) = false) : cndO f = n := by
  have h1 := cndO_ge hn h
  have h2 := cndO_le f
  rcases he with he | he
  · omega
  · refine Classical.byContradiction fun hx => ?_
    rw [cndO_at (f := f) (j := n + 1) (by omega) (by omega)] at he
    cases he
/-! ### the tests -/
def mB (s : Nat) (b c : Nat → Int) (k : Nat) : Bool := decide (((k : Int) * sR s (fun i => b i * c i ^ (k - 1))) % 10007 = 1)
def mC (s : Nat) (A : Nat → Nat → Int) (c : Nat → Int) (k : Nat) : Bool := (List.range s).all fun i => decide (((k : Int) * sR s (fun j => A i j * c j ^ (k - 1))) % 10007 = c i ^ k % 10007)
def mD (s : Nat) (A : Nat → Nat → Int) (b c : Nat → Int) (k : Nat) : Bool := (List.range s).all fun j => decide (((k : Int) * sR s (fun i => b i * c i ^ (k - 1) * A i j)) % 10007 = b j * (1 - c j ^ k) % 10007)
theorem bcd_of (s : Nat) (A : Nat → Nat → Int) (b c : Nat → Int) : BCD s A b c (cndO (mB s b c)) (cndO (mC s A c)) (cndO (mD s A b c)) := by
  refine ⟨fun k hk => ?_, fun k hk i hi => ?_, fun k hk j hj => ?_⟩
  · have h := cndO_at (f := mB s b c) (j := k + 1) (by omega) (by omega)
    exact of_decide_eq_true h
  · have h := cndO_at (f := mC s A c) (j := k + 1) (by omega) (by omega)
    unfold mC at h
    rw [List.all_eq_true] at h
    exact of_decide_eq_true (h i (List.mem_range.2 hi))
  · have h := cndO_at (f := mD s A b c) (j := k + 1) (by omega) (by omega)
    unfold mD at h
    rw [List.all_eq_true] at h
    exact of_decide_eq_true (h j (List.mem_range.2 hj))
theorem mB_iff {s : Nat} {b c : Nat → Int} {k : Nat} (hk : k < 39) : mB s b c (k + 1) = true ↔ sR s (fun i => b i * c i ^ k) % 10007 = rh k % 10007 := by
  unfold mB
  rw [Nat.add_sub_cancel, decide_eq_true_eq]
  have hr := rh_is (show k < 40 by omega)
  constructor
  · intro h
    have e : ∀ x : Int, rh k * (((k : Int) + 1) * x) % 10007 = x % 10007 := fun x => by
      rw [← Int.mul_assoc, Int.mul_comm (rh k), Int.mul_emod, hr, Int.one_mul, Int.emod_emod_of_dvd _ (Int.dvd_refl _)]
    rw [← e, Int.mul_emod, show ((k : Int) + 1) = ((k + 1 : Nat) : Int) by omega, h, Int.mul_one, Int.emod_emod_of_dvd _ (Int.dvd_refl _)]
  · intro h
    rw [show ((k + 1 : Nat) : Int) = (k : Int) + 1 by omega, mulm (a := (k : Int) + 1) (c := (k : Int) + 1) rfl h, hr]
theorem mC_one {s : Nat} {A : Nat → Nat → Int} {c : Nat → Int} (hc : ∀ i, i < s → sR s (fun k => A i k) % 10007 = c i % 10007) : 1 ≤ cndO (mC s A c) := by
  refine cndO_ge (by omega) fun j h0 h1 => ?_
  have : j = 1 := by omega
  subst this
  unfold mC
  rw [List.all_eq_true]
  intro i hi
  refine decide_eq_true ?_
  have e : sR s (fun j => A i j * c j ^ (1 - 1)) = sR s (fun j => A i j) := sR_congr fun j _ => by rw [Nat.sub_self, Int.pow_zero, Int.mul_one]
  rw [e, Int.pow_succ, Int.pow_zero, Int.one_mul]
  show 1 * _ % 10007 = _
  rw [Int.one_mul]
  exact hc i (List.mem_range.1 hi)
/-- the number that the conditions imply -/
def impO (p q r : Nat) : Nat := min (min 6 p) (min (2 * q + 2) (q + r + 1))
/-- the order lies between the implied order and that of the quadrature -/
theorem assum {s : Nat} {A : Nat → Nat → Int} {b c : Nat → Int} (hc : ∀ i, i < s → sR s (fun k => A i k) % 10007 = c i % 10007) :
    ((impO (cndO (mB s b c)) (cndO (mC s A c)) (cndO (mD s A b c)) : Nat) : Int) ≤ agZ (chF s A b) EX ∧ agZ (chF s A b) EX ≤ ((cndO (mB s b c) : Nat) : Int) := by
  have h := bcd_of s A b c
  have hq := mC_one hc
  refine ⟨?_, ord_le hc ?_⟩
  · unfold impO
    exact implied_le h hq (by omega) (by omega) (by omega) (by omega)
  · have h16 := cndO_le (mB s b c)
    rcases cndO_end (mB s b c) with e | e
    · exact .inl (by omega)
    · refine .inr fun hx => ?_
      rw [(mB_iff (show cndO (mB s b c) < 39 by omega)).2 hx] at e
      cases e
end Go.Proofs.Ytnlaoainhlfemaa

set_option linter.unusedVariables false
set_option linter.unusedSimpArgs false
namespace Go.Proofs.Ytnlaoainhlfemaa
open Go.RowKit

theorem Blk.grow {w w' : World} {g : Nat} {t : TypeId} {cs : Array Value} {v v' : Value} (h : Blk w g t cs) (hg : Grow w w' v v') (hne : v.ownBlock ≠ some g) : Blk w' g t cs :=
  (hg.1.block g h.lt (fun e => hne e.symm)).trans h
theorem Blk.both {w : World} {g : Nat} {t : TypeId} {cs : Array Value} {u : Value} (h : Blk w g t cs) (h0 : cs[0]? = some u) : w.cell? ⟨g, 0, none⟩ = some u ∧ w.frozen? ⟨g, 0, none⟩ = false := ⟨(h.cell 0).trans h0, h.frozen 0⟩

/-- the state of a tableau that is filled: block p holds it, the rows lie behind p, the weights before p -/
structure Fill (w0 w : World) (p : Nat) (va vb : Value) (vs : List Value) (N : Nat) (rows : List (List Int)) (Bs : List Int) : Prop where
  blk : Blk w p 27 #[va, vb]
  own : Own w (p + 1) tL va vs
  rows : RowsOwn w (p + 1) w.heap.size tI vs rows
  ws : OI w N p tI vb Bs
  le : w0.heap.size ≤ N
  below : Below w0.heap.size w0 w

section
variable {w0 wr w2 w3 : World} {p N : Nat} {va vb v1 r : Value} {vs : List Value} {rows : List (List Int)} {zs Bs : List Int}
theorem Fill.lt (h : Fill w0 wr p va vb vs N rows Bs) : p < wr.heap.size := h.blk.lt
theorem Fill.np (h : Fill w0 wr p va vb vs N rows Bs) : va.ownBlock ≠ some p := fun e => by have := h.own.ge p e; omega
theorem Fill.after (h : Fill w0 wr p va vb vs N rows Bs) (hb2 : Below wr.heap.size wr w2) : Blk w2 p 27 #[va, vb] := h.blk.below hb2 h.lt
theorem Fill.next (h : Fill w0 wr p va vb vs N rows Bs) (hp : w0.heap.size ≤ p) (hb2 : Below wr.heap.size wr w2) (ho2 : OwnInts w2 wr.heap.size tI r zs)
    (hown1 : Own w3 (p + 1) tL v1 (vs ++ [r])) (hgr : Grow w2 w3 va v1) :
    Fill w0 (w3.setCell ⟨p, 0, none⟩ v1) p v1 vb (vs ++ [r]) N (rows ++ [zs]) Bs := by
  have hsz : p + 1 ≤ wr.heap.size := h.lt
  have hs2 := hb2.size
  have hs3 := hgr.1.size
  have hO2 := h.own.below hb2
  have hK3 := (h.after hb2).grow hgr h.np
  have hR2 := ((h.rows.below hb2).mono (Nat.le_refl _) hs2).snoc (u := r) (zs := zs) ⟨ho2.mono hsz, ho2.1.lt⟩ (h.rows.apart (M := 0) (fun b hb => .inl (ho2.1.ge b hb)))
  have hR3 := hR2.other hgr.1 (fun j u hu => by
    have hj := (List.getElem?_eq_some_iff.1 hu).1
    have hx : (rows ++ [zs])[j]? = some ((rows ++ [zs])[j]'(by rw [← hR2.1]; exact hj)) := List.getElem?_eq_getElem _
    exact Own.ne_of_type (hR2.2.1 j u _ hu hx).1.1 hO2 (by decide))
  have hc := (Chg.refl p (p + 1) w3).setCell (p := ⟨p, 0, none⟩) (Nat.le_refl _) (by simp) v1
  have hw := h.ws.below hb2
  have hw3 : OI w3 N p tI vb Bs := ⟨hw.1.kept hgr.1 (by
    cases hv : vb.ownBlock with
    | none => exact .inl hv
    | some b => exact .inr fun e => by have h1 := hw.2 b hv; have h2 := hO2.ge b (e.symm.trans hv); omega), hw.2⟩
  have hse : (w3.setCell ⟨p, 0, none⟩ v1).heap.size = w3.heap.size := by simp [World.setCell]
  have hBw : Below w0.heap.size w0 w2 := h.below.trans (hb2.mono (by have := h.below.size; omega))
  refine ⟨?_, ?_, ?_, ?_, h.le, ?_⟩
  · have := hK3.set_ 0 v1
    simpa using this
  · exact hown1.of_block fun b hb => hc.block b (hown1.lt b hb) (.inr (hown1.ge b hb))
  · rw [hse]
    exact (hR3.mono (Nat.le_refl _) hs3).kept hc (.inr (Nat.le_refl _))
  · exact hw3.kept hc (.inl (Nat.le_refl _))
  · exact (hgr.below hBw (by have := h.below.size; omega) (fun b hb => by have := hO2.ge b hb; omega)).setCell (p := ⟨p, 0, none⟩) hp v1
/-- what is filled is an owned tableau -/
theorem Fill.tab (h : Fill w0 wr p va vb vs N rows Bs) (hN : N ≤ p) : OT wr N wr.heap.size (.agg #[va, vb]) rows Bs := by
  have hsz := h.lt
  exact OT.of_M' (M := p) hN (Nat.le_of_lt hsz) h.ws ⟨vs, h.own.mono (Nat.le_succ _), h.own.lt, h.rows.mono (Nat.le_succ _) (Nat.le_refl _)⟩
end
end Go.Proofs.Ytnlaoainhlfemaa

set_option linter.unusedVariables false
set_option linter.unusedSimpArgs false
namespace Go.Proofs.Ytnlaoainhlfemaa
open Go.RowKit

/-- a tableau of numbers, of any form -/
structure NumTab (A : List (List Int)) (Bs : List Int) : Prop where
  la : A.length ≤ 1000
  lb : Bs.length ≤ 1000
  rows : ∀ zs ∈ A, Nums zs ∧ zs.length ≤ 1000
  ws : Nums Bs

end Go.Proofs.Ytnlaoainhlfemaa

set_option linter.unusedVariables false
set_option linter.unusedSimpArgs false
namespace Go.Proofs.Ytnlaoainhlfemaa
open Go.RowKit

theorem Ints.pre {w : World} {A : Option Addr} {n c : Nat} {zs : List Int} (h : Ints w (.slice A n c) zs) (k : Nat) (hk : k ≤ zs.length) : Ints w (.slice A k c) (zs.take k) := by
  obtain ⟨A', c', hv, l1, l2, h3⟩ := h.open_
  simp only [Value.slice.injEq] at hv
  obtain ⟨rfl, rfl, rfl⟩ := hv
  have hl : (ints (zs.take k)).length = k := by simp [ints]; omega
  refine ⟨⟨A, c, by rw [hl], by rw [hl]; omega, by simpa [maxLen] using l2, fun j u hu => ?_⟩, fun z hz => h.2 z (List.mem_of_mem_take hz)⟩
  have hj : j < k := by rw [← hl]; exact (List.getElem?_eq_some_iff.1 hu).1
  obtain ⟨ad, z, hA, hz, -, hc⟩ := h3 j (by omega)
  refine ⟨ad, hA, ?_⟩
  rw [hc, ← hu]
  simp [ints, List.getElem?_take, hj, hz]

set_option maxHeartbeats 400000 in
theorem s_l01Index (w : World) (v : Value) (zs : List Int) (x : Int) (ha : Ints w v zs) :
    Calls Try.prog 191 #[v, .int .i64 x] w fun e w' => e = .returned (.int .i64 (idxF (fun z => z == x) zs)) ∧ w = w' := by
  obtain ⟨A, c, rfl, h1, h2, h3⟩ := ha.open_
  clear ha
  have H3 := Lib.hid h3
  clear h3
  go_enter Try.func191, Try.ntmps191
  go_wp2_with fail
  go_loop [5] (fun i => ∃ k : Nat, k ≤ zs.length ∧ i = .int .i64 k ∧ Hid (∀ i y, i < k → zs[i]? = some y → (y == x) = false)) (fun i => zs.length - (intOf i).toNat)
  case atStart => exact ⟨0, Nat.zero_le _, rfl, fun i y h => by omega⟩
  case round =>
    obtain ⟨k, hk, rfl, hI⟩ := hrel
    by_cases hlt : k < zs.length
    · obtain ⟨ad, z, rfl, hz, hz2, hc⟩ := H3.out k hlt
      have HZ := Lib.hid hz
      clear hz hz2
      by_cases hxz : z = x
      · subst hxz
        go_wp2_with fail
        go_ret
        exact ⟨ret_int (idxF_hit hI.out HZ.out (by simp)).symm, rfl⟩
      · have HX := Lib.hid hxz
        go_wp2_with fail
        go_round
        case rel =>
          refine ⟨k + 1, by omega, by go_num, fun i y hi hy => ?_⟩
          by_cases e : i = k
          · subst e
            rw [HZ.out] at hy
            cases hy
            simpa using HX.out
          · exact hI.out i y (by omega) hy
        case measure => simp [intOf]; omega
    · have : k = zs.length := by omega
      subst this
      go_wp2_with fail
      go_ret
      exact ⟨ret_int (idxF_miss hI.out).symm, rfl⟩

/-- is x on the list? -/
def hasB (zs : List Int) (x : Int) : Bool := zs.any fun z => z == x
set_option maxHeartbeats 400000 in
theorem s_l01Has (w : World) (v : Value) (zs : List Int) (x : Int) (ha : Ints w v zs) :
    Calls Try.prog 159 #[v, .int .i64 x] w fun e w' => e = .returned (.bool (hasB zs x)) ∧ w = w' := by
  have HA := Lib.hid ha
  clear ha
  go_enter Try.func159, Try.ntmps159
  go_wp2_with (go_at_call 191; refine (s_l01Index _ _ _ _ HA.out).mono ?_; rintro e w' ⟨rfl, rfl⟩)
  go_ret
  exact ⟨ret_bool (idxF_nonneg _ zs), rfl⟩

/-- does the k-th node stand ahead of itself? -/
def again (zs : List Int) (k : Nat) : Bool := hasB (zs.take k) (zs.getD k 0)
def nodesOk (zs : List Int) : Bool := inR zs.length 1 8 && nums zs
def nodesC (zs : List Int) : Int := if nodesOk zs then (if (List.range zs.length).any (again zs) then 5 else 0) else 2
theorem again_any {zs : List Int} {k : Nat} (hk : k < zs.length) (h : again zs k = true) : (List.range zs.length).any (again zs) = true :=
  List.any_eq_true.2 ⟨k, List.mem_range.2 hk, h⟩
theorem again_none {zs : List Int} (h : ∀ i, i < zs.length → again zs i = false) : (List.range zs.length).any (again zs) = false := by
  rw [List.any_eq_false]
  intro i hi
  rw [h i (List.mem_range.1 hi)]
  simp

end Go.Proofs.Ytnlaoainhlfemaa

set_option linter.unusedVariables false
set_option linter.unusedSimpArgs false
namespace Go.Proofs.Ytnlaoainhlfemaa
open Go.RowKit

set_option maxHeartbeats 1000000 in
theorem s_l11Nodes (w : World) (v : Value) (zs : List Int) (ha : Ints w v zs) :
    Calls Try.prog 107 #[v] w fun e w' => e = .returned (.int .i64 (nodesC zs)) ∧ ∃ n, w' = w.drewN n := by
  have HA := Lib.hid ha
  obtain ⟨A, c, rfl, h1, h2, h3⟩ := ha.open_
  clear ha
  have H3 := Lib.hid h3
  clear h3
  have hR : inR zs.length 1 8 = (decide (1 ≤ (zs.length : Int)) && decide ((zs.length : Int) ≤ 8)) := rfl
  have HR := Lib.hid hR
  clear hR
  go_enter Try.func107, Try.ntmps107
  by_cases hlo : (zs.length : Int) < 1
  · have HL := Lib.hid (show nodesC zs = 2 by simp [nodesC, nodesOk, HR.out]; omega)
    go_wp2_with fail
    go_ret
    exact ⟨ret_int HL.out.symm, 0, rfl⟩
  · by_cases hhi : (8 : Int) < (zs.length : Int)
    · have HL := Lib.hid (show nodesC zs = 2 by simp [nodesC, nodesOk, HR.out]; omega)
      go_wp2_with fail
      go_ret
      exact ⟨ret_int HL.out.symm, 0, rfl⟩
    · have HRT := Lib.hid (show inR zs.length 1 8 = true by rw [HR.out]; simp; omega)
      go_wp2_with fail
      refine (s_l01Numbers _ _ _ HA.out).mono ?_
      rintro e w' ⟨rfl, rfl⟩
      cases hm : nums zs with
      | false =>
        have HM := Lib.hid hm
        go_wp2_with fail
        go_ret
        exact ⟨ret_int (by simp [nodesC, nodesOk, HM.out]), 0, rfl⟩
      | true =>
        have HM := Lib.hid hm
        clear hm
        go_wp2_with fail
        go_loopw [3] (fun i wr => ∃ k n : Nat, k ≤ zs.length ∧ i = .int .i64 k ∧ Hid (∀ i, i < k → again zs i = false) ∧ wr = w.drewN n) (fun i _ => zs.length - (intOf i).toNat)
        case atStart => exact ⟨0, 0, Nat.zero_le _, rfl, fun i h => by omega, rfl⟩
        case round =>
          obtain ⟨k, n, hk, rfl, hI, rfl⟩ := hrel
          by_cases hlt : k < zs.length
          · obtain ⟨ad, z, rfl, hz, hz2, hc⟩ := H3.out k hlt
            have HZ := Lib.hid (show zs.getD k 0 = z by simp [List.getD, hz])
            have HP := Lib.hid (HA.out.pre k hk)
            have hkc : k ≤ c := by omega
            have hkc' : (k : Int) ≤ (c : Int) := by omega
            have hki : (k : Int) < (zs.length : Int) := by omega
            clear hz hz2
            go_wp2_with fail
            go_quiet ((go_at_call 159; exact quiet_same (s_l01Has _ _ _ z (by exact HP.out.drewN _))))
            cases hg : hasB (zs.take k) z with
            | true =>
              have HG := Lib.hid (show again zs k = true by unfold again; rw [HZ.out]; exact hg)
              go_wp2_with fail
              go_ret
              exact ⟨ret_int (by simp [nodesC, nodesOk, HM.out, HRT.out, again_any hlt HG.out]), _, World.drewN_drewN ..⟩
            | false =>
              have HG := Lib.hid (show again zs k = false by unfold again; rw [HZ.out]; exact hg)
              go_wp2_with fail
              go_roundw
              case rel =>
                refine ⟨k + 1, _, by omega, by go_num, fun i hi => ?_, rfl⟩
                by_cases e : i = k
                · subst e; exact HG.out
                · exact hI.out i (by omega)
              case measure => simp [intOf]; omega
          · have : k = zs.length := by omega
            subst this
            go_wp2_with fail
            go_ret
            exact ⟨ret_int (by simp [nodesC, nodesOk, HM.out, HRT.out, again_none hI.out]), _, rfl⟩

set_option maxHeartbeats 400000 in
theorem s_l01Frac1 (k : Int) (w : World) (h0 : 0 ≤ k) (h1 : k ≤ 2000000000) :
    Calls Try.prog 157 #[.int .i64 1, .int .i64 k] w fun e w' => e = .returned (.int .i64 (pw k 10005)) ∧ w = w' := by
  have HP := Lib.hid (show (1 : Int) % 10007 * pw (k % 10007) 10005 % 10007 = pw k 10005 by rw [pw_mod, show (1 : Int) % 10007 = 1 from by decide, Int.one_mul, pw_self])
  have hb := pw_bd (k % 10007) 10005
  go_enter Try.func157, Try.ntmps157
  go_wp2_with (first | (go_at_call 185; refine (s_l01Mod _ _ (by omega) (by omega)).mono ?_; rintro e w' ⟨rfl, rfl⟩) | (go_at_call 158; refine (s_l01Inv _ _ (by omega) (by omega)).mono ?_; rintro e w' ⟨rfl, rfl⟩) | (go_at_call 147; refine (s_l01Mul _ _ _ (by omega) (by omega) (by omega) (by omega)).mono ?_; rintro e w' ⟨rfl, rfl⟩))
  go_ret
  refine ⟨ret_int ?_, rfl⟩
  have := HP.out
  simpa using this

set_option maxHeartbeats 1000000 in
theorem s_l11Integral (w : World) (v : Value) (p : List Int) (x : Int) (ha : Ints w v p) (hN : Nums p) (hn : p.length ≤ 1000) (h0 : 0 ≤ x) (h1 : x ≤ 10006) :
    Calls Try.prog 160 #[v, .int .i64 0, .int .i64 x] w fun e w' => e = .returned (.int .i64 (integ p x)) ∧ ∃ n, w' = w.drewN n := by
  obtain ⟨A, c, rfl, l1, l2, h3⟩ := ha.open_
  have H3 := Lib.hid h3
  have HN := Lib.hid hN
  clear ha h3 hN
  go_enter Try.func160, Try.ntmps160
  go_wp2_with fail
  go_loopw [7, 8] (fun s i wr => ∃ j n : Nat, j ≤ p.length ∧ i = .int .i64 j ∧ s = .int .i64 (sumTo (iterm p x) j % 10007) ∧ wr = w.drewN n) (fun _ i _ => p.length - (intOf i).toNat)
  case atStart => exact ⟨0, 0, Nat.zero_le _, rfl, rfl, rfl⟩
  case round =>
    obtain ⟨j, n, hj, rfl, rfl, rfl⟩ := hrel
    have hsb : 0 ≤ sumTo (iterm p x) j % 10007 ∧ sumTo (iterm p x) j % 10007 ≤ 10006 := by omega
    by_cases hlt : j < p.length
    · obtain ⟨ad, z, rfl, hz, -, hc⟩ := H3.out j hlt
      have hzn := HN.out z (List.mem_of_getElem? hz)
      have HI := Lib.hid (show z * (pw x (j + 1) * pw ((j : Int) + 1) 10005 % 10007) % 10007 = iterm p x j by rw [← iterm_eq]; simp [List.getD, hz])
      have HT := Lib.hid (show sumTo (iterm p x) (j + 1) % 10007 = (sumTo (iterm p x) j % 10007 + iterm p x j) % 10007 by rw [sumTo, mod_add_l])
      have ht : ((j : Int) + 1).toNat = j + 1 := by omega
      have b1 := pw_bd x (j + 1)
      have b2 := pw_bd ((j : Int) + 1) 10005
      have hji : (j : Int) < (p.length : Int) := by omega
      clear hz
      generalize hs : sumTo (iterm p x) j % 10007 = s at hsb HT
      clear hs
      go_wp2_with fail
      go_quiet ((first | (go_at_call 165; exact quiet_same (s_l01Pow _ _ _ (by omega) (by omega) (by omega) (by omega))) | (go_at_call 157; exact quiet_same (s_l01Frac1 _ _ (by omega) (by omega))) | (go_at_call 147; exact quiet_same (s_l01Mul _ _ _ (by omega) (by omega) (by omega) (by omega))) | (go_at_call 140; exact quiet_same (s_l01Add _ _ _ (by omega) (by omega) (by omega) (by omega)))))
      go_wp2_with fail
      go_roundw
      case rel =>
        refine ⟨j + 1, _, by omega, by go_num, ?_, rfl⟩
        rw [HT.out, ← HI.out]
      case measure => simp [intOf]; omega
    · have : j = p.length := by omega
      subst this
      go_wp2_with fail
      go_ret
      exact ⟨rfl, _, rfl⟩
end Go.Proofs.Ytnlaoainhlfemaa

set_option maxRecDepth 100000
set_option linter.unusedVariables false
set_option linter.unusedSimpArgs false
namespace Go.Proofs.Ytnlaoainhlfemaa
open Go.RowKit

end Go.Proofs.Ytnlaoainhlfemaa

