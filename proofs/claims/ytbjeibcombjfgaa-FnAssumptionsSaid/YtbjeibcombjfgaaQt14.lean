/- The polynomials of collocation, plain. No program in sight. | Plain: the branches of the trees of maps as the walks meet them, with their places; stage weights as lists. No walk. | Walks of the library's Grow, Concat at lists of numbers. | Walks of the library's Repeat at a list of one number. -/
import Derived.Test.YtbjeibcombjfgaaQt11
import Derived.Test.YtbjeibcombjfgaaQt12
import Derived.Test.YtbjeibcombjfgaaRows
import Derived.Test.YtbjeibcombjfgaaQt3
import Derived.Test.YtbjeibcombjfgaaQt1
import Derived.WalkLawsBesides
import Derived.Lib.AppendZeros
import Derived.Deep.RegionLaw
import Derived.Deep.RegionHeld3
import Derived.Laws.CopyOwn
set_option linter.unusedVariables false
set_option linter.unusedSimpArgs false
namespace Go.Proofs.Ytbjeibcombjfgaa
open Go.RowKit

theorem mod_mul_l (a b : Int) : a % 10007 * b % 10007 = a * b % 10007 := by
  rw [Int.mul_emod, Int.emod_emod_of_dvd _ (Int.dvd_refl _), ← Int.mul_emod]
theorem mod_mul_r (a b : Int) : a * (b % 10007) % 10007 = a * b % 10007 := by rw [Int.mul_comm, mod_mul_l, Int.mul_comm]
theorem mod_add_l (a b : Int) : (a % 10007 + b) % 10007 = (a + b) % 10007 := by omega
theorem mod_add_r (a b : Int) : (a + b % 10007) % 10007 = (a + b) % 10007 := by omega
theorem mod_mod (a : Int) : a % 10007 % 10007 = a % 10007 := by omega
theorem mod_pow (a : Int) (n : Nat) : (a % 10007) ^ n % 10007 = a ^ n % 10007 := by
  induction n with
  | zero => simp
  | succ n ih => rw [Int.pow_succ, Int.pow_succ, mod_mul_r, ← mod_mul_l, ih, mod_mul_l]
theorem pw_mul (a b : Int) (n : Nat) : pw (a * b % 10007) n = pw a n * pw b n % 10007 := by
  unfold pw
  rw [mod_pow, mod_mul_l, mod_mul_r]
  congr 1
  induction n with
  | zero => simp
  | succ n ih => simp only [Int.pow_succ, ih]; simp only [Int.mul_assoc, Int.mul_left_comm, Int.mul_comm]
theorem pw_mod (a : Int) (n : Nat) : pw (a % 10007) n = pw a n := mod_pow a n
theorem pw_self (a : Int) (n : Nat) : pw a n % 10007 = pw a n := mod_mod _
theorem pw_one (n : Nat) : pw 1 n = 1 := by simp [pw, Int.one_pow]

theorem scl_get (k : Int) (p : List Int) (i : Nat) : (scl k p).getD i 0 = p.getD i 0 * k % 10007 := by
  unfold scl
  by_cases h : i < p.length
  · simp [List.getD, h]
  · simp [List.getD, List.getElem?_eq_none (Nat.le_of_not_lt h)]
theorem addTo_get (k : Int) (a b : List Int) (j i : Nat) (h : i < j) : (addTo k a b j).getD i 0 = (a.getD i 0 + k * b.getD i 0) % 10007 := by
  simp [addTo, List.getD, h]
theorem ext_getD {a b : List Int} (hl : a.length = b.length) (h : ∀ i, i < a.length → a.getD i 0 = b.getD i 0) : a = b := by
  refine List.ext_getElem? fun i => ?_
  by_cases hi : i < a.length
  · have h1 := h i hi
    simp only [List.getD, List.getElem?_eq_getElem hi, List.getElem?_eq_getElem (hl ▸ hi : i < b.length), Option.getD_some] at h1
    rw [List.getElem?_eq_getElem hi, List.getElem?_eq_getElem (hl ▸ hi : i < b.length), h1]
  · rw [List.getElem?_eq_none (by omega), List.getElem?_eq_none (by omega)]

/-- p times z - d -/
def tl (p : List Int) (d : Int) : List Int := addk ((-d) % 10007) (0 :: p) (p ++ [0])
theorem tl_len (p : List Int) (d : Int) : (tl p d).length = p.length + 1 := by simp [tl, addk, addTo_len]
theorem tl_nums (p : List Int) (d : Int) : Nums (tl p d) := addTo_nums _ _ _ _
theorem snoc0_get (p : List Int) (i : Nat) : (p ++ [0]).getD i 0 = p.getD i 0 := by
  simp only [List.getD]
  by_cases h : i < p.length
  · rw [List.getElem?_append_left h]
  · rw [List.getElem?_append_right (by omega), List.getElem?_eq_none (l := p) (by omega)]
    cases hi : i - p.length with
    | zero => simp
    | succ n => simp
theorem tl_get (p : List Int) (d : Int) (i : Nat) (h : i < p.length + 1) : (tl p d).getD i 0 = ((0 :: p).getD i 0 + (-d) % 10007 * p.getD i 0) % 10007 := by
  unfold tl addk
  rw [addTo_get _ _ _ _ _ (by simpa using h), snoc0_get]
theorem cons0_scl (k : Int) (p : List Int) (i : Nat) : (0 :: scl k p).getD i 0 = (0 :: p).getD i 0 * k % 10007 := by
  cases i with
  | zero => simp
  | succ i => simpa using scl_get k p i
theorem tl_scl (k : Int) (p : List Int) (d : Int) : tl (scl k p) d = scl k (tl p d) := by
  refine ext_getD (by rw [tl_len, scl_len, scl_len, tl_len]) fun i hi => ?_
  rw [tl_len, scl_len] at hi
  rw [tl_get _ _ _ (by rwa [scl_len]), scl_get, scl_get, tl_get _ _ _ hi, cons0_scl]
  generalize (-d) % 10007 = e
  generalize (0 :: p).getD i 0 = x
  generalize p.getD i 0 = y
  rw [mod_mul_l, mod_add_l, ← mod_add_r, mod_mul_r, mod_add_r, Int.add_mul, Int.mul_assoc]
theorem scl_scl (u v : Int) (p : List Int) : scl u (scl v p) = scl (v * u % 10007) p := by
  unfold scl
  rw [List.map_map]
  refine List.map_congr_left fun z _ => ?_
  simp only [Function.comp_apply]
  rw [mod_mul_l, mod_mul_r, Int.mul_assoc]

/-- the polynomial of the program after m nodes -/
def lagI (c : Int) (zs : List Int) (j : Nat) : Nat → List Int
  | 0 => [1]
  | m + 1 => if m = j then lagI c zs j m else scl (pw ((c - zs.getD m 0) % 10007) 10005) (tl (lagI c zs j m) (zs.getD m 0))
/-- the product of the reference after m nodes -/
def facN (zs : List Int) (j : Nat) : Nat → List Int
  | 0 => [1]
  | m + 1 => if m = j then facN zs j m else tl (facN zs j m) (zs.getD m 0)
def valN (c : Int) (zs : List Int) (j : Nat) : Nat → Int
  | 0 => 1
  | m + 1 => if m = j then valN c zs j m else valN c zs j m * ((c - zs.getD m 0) % 10007) % 10007
theorem valN_bd (c : Int) (zs : List Int) (j : Nat) : ∀ m, 0 ≤ valN c zs j m ∧ valN c zs j m ≤ 10006
  | 0 => by simp [valN]
  | m + 1 => by
    have := valN_bd c zs j m
    unfold valN
    split <;> omega
theorem facN_len (zs : List Int) (j : Nat) : ∀ m, 1 ≤ (facN zs j m).length ∧ (facN zs j m).length ≤ m + 1
  | 0 => by simp [facN]
  | m + 1 => by
    have := facN_len zs j m
    unfold facN
    split
    · omega
    · rw [tl_len]; omega
theorem facN_nums (zs : List Int) (j : Nat) : ∀ m, Nums (facN zs j m)
  | 0 => by intro z hz; simp [facN] at hz; omega
  | m + 1 => by
    unfold facN
    split
    · exact facN_nums zs j m
    · exact tl_nums _ _
theorem lagI_eq (c : Int) (zs : List Int) (j : Nat) : ∀ m, lagI c zs j m = scl (pw (valN c zs j m) 10005) (facN zs j m)
  | 0 => by simp only [lagI, facN, valN, pw_one]; rfl
  | m + 1 => by
    unfold lagI facN valN
    split
    · exact lagI_eq c zs j m
    · rw [lagI_eq c zs j m, tl_scl, scl_scl, pw_mul]
theorem lagI_len (c : Int) (zs : List Int) (j m : Nat) : 1 ≤ (lagI c zs j m).length ∧ (lagI c zs j m).length ≤ m + 1 := by
  rw [lagI_eq, scl_len]; exact facN_len zs j m
theorem lagI_nums (c : Int) (zs : List Int) (j m : Nat) : Nums (lagI c zs j m) := by rw [lagI_eq]; exact scl_nums _ _

/-- a sum over the first n numbers -/
def sumTo (f : Nat → Int) : Nat → Int
  | 0 => 0
  | n + 1 => sumTo f n + f n
def iterm (p : List Int) (x : Int) (i : Nat) : Int := p.getD i 0 * pw x (i + 1) % 10007 * pw ((i : Int) + 1) 10005 % 10007
theorem iterm_eq (p : List Int) (x : Int) (i : Nat) : p.getD i 0 * (pw x (i + 1) * pw ((i : Int) + 1) 10005 % 10007) % 10007 = iterm p x i := by
  unfold iterm
  rw [mod_mul_r, mod_mul_l, Int.mul_assoc]
/-- the integral of p from 0 to x -/
def integ (p : List Int) (x : Int) : Int := sumTo (iterm p x) p.length % 10007
theorem integ_bd (p : List Int) (x : Int) : 0 ≤ integ p x ∧ integ p x ≤ 10006 := by unfold integ; omega

/-- the j-th polynomial of nodes -/
def lag (zs : List Int) (j : Nat) : List Int := lagI (zs.getD j 0) zs j zs.length
def colA (zs : List Int) (n : Nat) : List (List Int) := (List.range n).map fun i => (List.range zs.length).map fun j => integ (lag zs j) (zs.getD i 0)
def colB (zs : List Int) (n : Nat) : List Int := (List.range n).map fun j => integ (lag zs j) 1
theorem colB_len (zs : List Int) (n : Nat) : (colB zs n).length = n := by simp [colB]
theorem colA_len (zs : List Int) (n : Nat) : (colA zs n).length = n := by simp [colA]
theorem colB_succ (zs : List Int) (n : Nat) : colB zs (n + 1) = colB zs n ++ [integ (lag zs n) 1] := by simp [colB, List.range_succ]
theorem colA_succ (zs : List Int) (n : Nat) : colA zs (n + 1) = colA zs n ++ [(List.range zs.length).map fun j => integ (lag zs j) (zs.getD n 0)] := by simp [colA, List.range_succ]
/-- the product of p and z - c, as the reference makes it: the list after k rounds -/
def facTo (p : List Int) (c : Int) (k : Nat) : List Int := (List.range (p.length + 1)).map fun j => if j < k then ((0 :: p).getD j 0 - c * p.getD j 0 % 10007) % 10007 else if j = k then (0 :: p).getD j 0 else 0
theorem facTo_len (p : List Int) (c : Int) (k : Nat) : (facTo p c k).length = p.length + 1 := by simp [facTo]
theorem facTo_get {p : List Int} {c : Int} {k j : Nat} (h : j < p.length + 1) : (facTo p c k)[j]? = some (if j < k then ((0 :: p).getD j 0 - c * p.getD j 0 % 10007) % 10007 else if j = k then (0 :: p).getD j 0 else 0) := by
  simp [facTo, h]
theorem facTo_zero (p : List Int) (c : Int) : facTo p c 0 = List.replicate (p.length + 1) 0 := by
  refine List.ext_getElem? fun j => ?_
  by_cases h : j < p.length + 1
  · rw [facTo_get h]
    cases j with
    | zero => simp
    | succ j =>
      have hj : j < p.length := by omega
      simp [hj]
  · rw [List.getElem?_eq_none (by rw [facTo_len]; omega), List.getElem?_eq_none (by simp; omega)]
theorem facTo_succ {p : List Int} {c : Int} {k : Nat} {x : Int} (hx : p[k]? = some x) (hN : 0 ≤ x ∧ x ≤ 10006) :
    ((facTo p c k).set (k + 1) ((0 + x) % 10007)).set k (((0 :: p).getD k 0 - c * x % 10007) % 10007) = facTo p c (k + 1) := by
  have hk := (List.getElem?_eq_some_iff.1 hx).1
  refine List.ext_getElem? fun j => ?_
  by_cases h : j < p.length + 1
  · rw [facTo_get h]
    by_cases h1 : j = k
    · subst h1
      rw [List.getElem?_set_self (by simp [facTo_len]; omega), if_pos (by omega)]
      simp [List.getD, hx]
    · rw [List.getElem?_set_ne (by omega)]
      by_cases h2 : j = k + 1
      · subst h2
        rw [List.getElem?_set_self (by simp [facTo_len]; omega), if_neg (by omega), if_pos rfl]
        have : x % 10007 = x := by omega
        simp [List.getD, hx, this]
      · rw [List.getElem?_set_ne (by omega), facTo_get h]
        congr 1
        by_cases h3 : j < k
        · rw [if_pos h3, if_pos (by omega)]
        · rw [if_neg h3, if_neg (by omega), if_neg (by omega), if_neg (by omega)]
  · rw [List.getElem?_eq_none (by simp [facTo_len]; omega), List.getElem?_eq_none (by rw [facTo_len]; omega)]
theorem facTo_end {p : List Int} {c : Int} (hN : Nums p) : facTo p c p.length = tl p c := by
  refine ext_getD (by rw [facTo_len, tl_len]) fun j hj => ?_
  rw [facTo_len] at hj
  rw [tl_get _ _ _ hj, List.getD, facTo_get hj, Option.getD_some]
  by_cases h : j < p.length
  · rw [if_pos h]
    generalize (0 :: p).getD j 0 = x
    generalize p.getD j 0 = y
    rw [← mod_add_r, mod_mul_l, mod_add_r, Int.neg_mul]
    omega
  · rw [if_neg h, if_pos (by omega)]
    have e : j = p.length := by omega
    subst e
    have h0 : p.getD p.length 0 = 0 := by simp [List.getD]
    rw [h0]
    have h1 : 0 ≤ (0 :: p).getD p.length 0 ∧ (0 :: p).getD p.length 0 ≤ 10006 := by
      cases hp : p.length with
      | zero => simp
      | succ n =>
        have hn : n < p.length := by omega
        simp only [List.getD, List.getElem?_cons_succ, List.getElem?_eq_getElem hn, Option.getD_some]
        exact hN _ (List.getElem_mem hn)
    simp only [Int.mul_zero, Int.add_zero]
    omega
end Go.Proofs.Ytbjeibcombjfgaa

set_option maxRecDepth 100000
set_option linter.unusedVariables false
set_option linter.unusedSimpArgs false
namespace Go.Proofs.Ytbjeibcombjfgaa
open Go.RowKit

def okBr (n : Nat) : Bool := match brO (tr n) with
  | some bs => bs.all (fun b => Nat.blt 0 (idxN T6n b) && (Nat.ble (idxN T6n b) n && eqN (tr (idxN T6n b - 1)) b)) && Nat.beq (cmpN (srtZ (bs.map (idxN T6n))) (srtZ (bt (n + 1)))) 0
  | none => false
theorem tj1 : (List.range 37).all okBr = true := by decide +kernel
/-- the branches of the n-th tree -/
theorem br_bt {n : Nat} (hn : n < 37) : ∃ bs, brO (tr n) = some bs ∧ (∀ b ∈ bs, 0 < idxN T6n b ∧ idxN T6n b ≤ n ∧ tr (idxN T6n b - 1) = b) ∧ ∀ f : Nat → Int, pz f (bs.map (idxN T6n)) = pz f (bt (n + 1)) := by
  have h1 := tj1
  rw [List.all_eq_true] at h1
  have h2 := h1 n (List.mem_range.2 hn)
  unfold okBr at h2
  cases hb : brO (tr n) with
  | none => rw [hb] at h2; cases h2
  | some bs =>
    rw [hb] at h2
    simp only [Bool.and_eq_true, List.all_eq_true] at h2
    refine ⟨bs, rfl, fun b hbs => ?_, fun f => ?_⟩
    · obtain ⟨a1, a2, a3⟩ := h2.1 b hbs
      exact ⟨blt_lt a1, Nat.le_of_ble_eq_true a2, eqN_iff.1 a3⟩
    · rw [← srtZ_pz, cmpN_zero (Nat.eq_of_beq_eq_true h2.2), srtZ_pz]
/-- the stage weights of the tree at p -/
def stL (A : List (List Int)) (s p : Nat) : List Int := (List.range s).map fun i => wt s (fT A) zeroV i p % 10007
/-- what they are after some branches -/
def stB (A : List (List Int)) (s : Nat) (qs : List Nat) : List Int := (List.range s).map fun i => pz (uV s (fT A) i) qs % 10007
/-- the matrix times the stage weights -/
def apL (A : List (List Int)) (s p : Nat) : List Int := (List.range s).map fun i => uV s (fT A) i p % 10007
theorem stB_nil (A : List (List Int)) (s : Nat) : stB A s [] = List.replicate s 1 := by
  unfold stB
  refine List.ext_getElem (by simp) fun i h1 h2 => ?_
  simp [pz_nil]
theorem stB_end (A : List (List Int)) (s : Nat) {n : Nat} (hn : n < 37) {bs : List (List Nat)} (h : ∀ f : Nat → Int, pz f (bs.map (idxN T6n)) = pz f (bt (n + 1))) : stB A s (bs.map (idxN T6n)) = stL A s (n + 1) := by
  unfold stB stL
  refine List.map_congr_left fun i _ => ?_
  rw [h, wt_zero s (fT A) i (by omega)]
theorem stB_get (A : List (List Int)) (s : Nat) (qs : List Nat) {i : Nat} (hi : i < s) : (stB A s qs)[i]? = some (pz (uV s (fT A) i) qs % 10007) := by
  unfold stB
  rw [List.getElem?_map, List.getElem?_range hi]
  rfl
theorem apL_get (A : List (List Int)) (s p : Nat) {i : Nat} (hi : i < s) : (apL A s p)[i]? = some (uV s (fT A) i p % 10007) := by
  unfold apL
  rw [List.getElem?_map, List.getElem?_range hi]
  rfl
theorem stL_get (A : List (List Int)) (s p : Nat) {i : Nat} (hi : i < s) : (stL A s p)[i]? = some (wt s (fT A) zeroV i p % 10007) := by
  unfold stL
  rw [List.getElem?_map, List.getElem?_range hi]
  rfl
/-- one branch more -/
theorem stB_step (A : List (List Int)) (s : Nat) (qs : List Nat) (q i : Nat) : (pz (uV s (fT A) i) qs % 10007) * (uV s (fT A) i q % 10007) % 10007 = pz (uV s (fT A) i) (qs ++ [q]) % 10007 := by
  rw [pz_append, pz_cons, pz_nil, Int.mul_one]
  exact mulm (Int.emod_emod_of_dvd _ (Int.dvd_refl _)) (Int.emod_emod_of_dvd _ (Int.dvd_refl _))
/-- a row times the stage weights -/
theorem row_ap (A : List (List Int)) (s i : Nat) {p : Nat} (h0 : 0 < p) : sR s (fun k => fT A i k * (stL A s p).getD k 0) % 10007 = uV s (fT A) i p % 10007 := by
  unfold uV
  rw [if_neg (by omega)]
  refine sR_mod fun k hk => ?_
  rw [List.getD_eq_getElem?_getD, stL_get A s p hk]
  exact mulm rfl (Int.emod_emod_of_dvd _ (Int.dvd_refl _))
/-- the weights times the stage weights -/
theorem b_st (A : List (List Int)) (B : List Int) {p : Nat} (h0 : 0 < p) : sR B.length (fun k => fB B k * (stL A B.length p).getD k 0) % 10007 = wgtT B.length (fT A) (fB B) p % 10007 := by
  rw [wgt_pos _ _ _ h0]
  refine sR_mod fun k hk => ?_
  rw [List.getD_eq_getElem?_getD, stL_get A _ p hk]
  exact mulm rfl (Int.emod_emod_of_dvd _ (Int.dvd_refl _))
end Go.Proofs.Ytbjeibcombjfgaa

set_option maxRecDepth 100000
set_option linter.unusedVariables false
set_option linter.unusedSimpArgs false
namespace Go.Proofs.Ytbjeibcombjfgaa
open Go.RowKit

set_option maxHeartbeats 1000000 in
theorem lib_GrowI (w : World) (n : Nat) (hn : n ≤ 4294967296) :
    Calls Try.prog 185 #[.slice none 0 0, .int .i64 (n : Int)] w fun e w' => ∃ r, e = .returned r ∧ Own w' w.heap.size tI r [] ∧ Below w.heap.size w w' := by
  by_cases h0 : n = 0
  · subst h0
    go_enter Try.func185, Try.ntmps185
    go_wp2
    go_ret
    exact ⟨_, rfl, Own.nil _ _ _, Below.refl _ _⟩
  · obtain ⟨i, hi, hz, h1, h2⟩ := info_parts T_int.info
    have hp : (0 : Int) < (n : Int) := by omega
    have hr := Go.Lib.run_append_nil_zeros (P := Try.prog) w 25 3 25 tI i (.int .i64 0) .i64 .i64 T_int.under Try.underlying3 hi hz n (by omega) (by rw [h1]; omega) (by omega) (by rw [h2]; omega)
    have hge := grownCap_ge w n 0 tI
    have hcm := grownCap_le_maxLen w n 0 tI (by simp only [maxLen]; omega)
    have hO : Own (w.drew.alloc (.cells (Builtin.zeroCells (Value.cells (.int .i64 0)) n ++ Builtin.zeroCells (Value.cells (.int .i64 0)) (grownCap w n 0 tI - n)) tI)) w.heap.size tI (.slice (some ⟨w.heap.size, 0, none⟩) 0 (grownCap w n 0 tI)) [] :=
      World.ownsRow_made (w := w.drew) (base := w.heap.size) (e := tI) (size := 1) _ (grownCap w n 0 tI) (Nat.le_refl _) hcm (by simp [size_zeroCells, Value.cells]; omega)
    have HO := Lib.hid hO
    have HB := Lib.hid ((Below.refl w.heap.size w).drew.alloc (Nat.le_refl _) (.cells (Builtin.zeroCells (Value.cells (.int .i64 0)) n ++ Builtin.zeroCells (Value.cells (.int .i64 0)) (grownCap w n 0 tI - n)) tI))
    have HR := Lib.hid hr
    have hcm' : grownCap w n 0 tI ≤ 9223372036854775807 := by simpa [maxLen] using hcm
    clear hO hr hcm
    generalize grownCap w n 0 tI = cp at hge hcm' HO HB HR
    generalize (w.drew.alloc (.cells (Builtin.zeroCells (Value.cells (.int .i64 0)) n ++ Builtin.zeroCells (Value.cells (.int .i64 0)) (cp - n)) tI)) = w1 at HO HB HR
    go_enter Try.func185, Try.ntmps185
    go_wp2_with (at_builtin; refine Go.Lib.wpList_append_run w rfl _ _ _ _ (by rfl) _ _ (by rfl) (by rfl) _ _ HR.out ?_)
    go_ret
    exact ⟨_, rfl, HO.out, HB.out⟩

theorem flat_take {xss : List (List Int)} {k : Nat} {zs : List Int} (h : xss[k]? = some zs) : (xss.take (k + 1)).flatten = (xss.take k).flatten ++ zs := by
  rw [List.take_add_one, h]; simp
theorem flat_take_le (xss : List (List Int)) (k : Nat) : (xss.take k).flatten.length ≤ xss.flatten.length := by
  conv => rhs; rw [← List.take_append_drop k xss]
  rw [List.flatten_append, List.length_append]; omega
theorem ints_oneCell' (zs : List Int) : ∀ u ∈ ints zs, u.oneCell' = true := by
  intro u hu
  obtain ⟨_, _, rfl⟩ := List.mem_map.1 hu
  rfl
theorem ints_append (a b : List Int) : ints (a ++ b) = ints a ++ ints b := by simp [ints]

set_option maxHeartbeats 1000000 in
theorem lib_ConcatI (w : World) (v : Value) (xss : List (List Int)) (ha : Rows w v xss) (hn : xss.flatten.length ≤ 4294967296) :
    Calls Try.prog 120 #[v] w fun e w' => ∃ r, e = .returned r ∧ OwnInts w' w.heap.size tI r xss.flatten ∧ Below w.heap.size w w' := by
  have HA := Lib.hid ha
  obtain ⟨A, c, rfl, h1, h2, h3⟩ := ha.open_
  have H3 := Lib.hid h3
  clear h3 ha
  have HIN := Lib.hid (show ∀ z ∈ xss.flatten, In64 z from fun z hz => by
    obtain ⟨zs, hzs, hz⟩ := List.mem_flatten.1 hz
    obtain ⟨k, hk, rfl⟩ := List.getElem_of_mem hzs
    obtain ⟨ad, u, zs, _, hz0, hu, _⟩ := H3.out k hk
    rw [List.getElem?_eq_getElem hk] at hz0
    cases hz0
    exact hu.2 z hz)
  go_enter Try.func120, Try.ntmps120
  go_wp2_with fail
  go_loop [3, 11] (fun s i => ∃ k : Nat, k ≤ xss.length ∧ i = .int .i64 k ∧ s = .int .i64 ((xss.take k).flatten.length : Nat)) (fun _ i => xss.length - (intOf i).toNat)
  case atStart => exact ⟨0, Nat.zero_le _, rfl, rfl⟩
  case round =>
    obtain ⟨k, hk, rfl, rfl⟩ := hrel
    by_cases hlt : k < xss.length
    · obtain ⟨ad, u, zs, rfl, hz, hu, hc⟩ := H3.out k hlt
      obtain ⟨A3, c3, rfl, _, _, -⟩ := hu.open_
      have hle := flat_take_le xss (k + 1)
      have hft := flat_take hz
      have e1 : (xss.take (k + 1)).flatten.length = (xss.take k).flatten.length + zs.length := by rw [hft, List.length_append]
      rw [e1] at hle
      have E1 := Lib.hid e1
      clear e1 hft hz hu
      generalize (xss.take k).flatten.length = m at hle E1 ⊢
      have hge0 : (0 : Int) ≤ (m : Int) + (zs.length : Int) := by omega
      go_wp2_with fail
      go_round
      case rel => exact ⟨k + 1, by omega, by go_num, by rw [E1.out]; go_num⟩
      case measure => simp [intOf]; omega
    · have : k = xss.length := by omega
      subst this
      rw [List.take_length]
      have HN0 := Lib.hid hn
      generalize xss.flatten.length = N at hn ⊢
      go_wp2_with fail
      refine (lib_GrowI _ N hn).mono ?_
      rintro e w1 ⟨r, rfl, hown, hb1⟩
      have HO := Lib.hid hown
      have HB := Lib.hid hb1
      clear hown hb1
      go_wp2_with fail
      go_loopw [6, 27] (fun s i wr => ∃ k : Nat, k ≤ xss.length ∧ i = .int .i64 k ∧ Own wr w.heap.size tI s (ints (xss.take k).flatten) ∧ Below w.heap.size w wr) (fun _ i _ => xss.length - (intOf i).toNat)
      case atStart => exact ⟨0, Nat.zero_le _, rfl, HO.out, HB.out⟩
      case round =>
        obtain ⟨k, hk, rfl, hown, hb⟩ := hrel
        clear HO HB
        have HO := Lib.hid hown
        have HB := Lib.hid hb
        clear hown hb
        by_cases hlt : k < xss.length
        · obtain ⟨ad, u, zs, rfl, hz, hu, hc0⟩ := H3.out k hlt
          have hc : wr.cell? (ad.add k) = some u := by
            rw [HB.out.cell (by rw [block_add]; have := World.block_lt_of_cell? w _ hc0; rwa [block_add] at this)]; exact hc0
          have HU := Lib.hid (hu.below HB.out)
          have hft := flat_take hz
          have hle := flat_take_le xss (k + 1)
          rw [hft, List.length_append] at hle
          have hn0 := HN0.out
          have hlen : (xss.take k).flatten.length + zs.length < 1099511627776 := by omega
          have HLE := Lib.hid hlen
          clear hle hn0 hlen
          have HF := Lib.hid hft
          clear hz hu hc0 hft
          go_wp2_with (at_builtin; refine wpList_appN T_int HO.out HU.out.1 (by rw [ints_len, ints_len]; exact HLE.out) HB.out.size (ints_oneCell' _) rfl (by rfl) (by rfl) (by rfl) ?_; intro v1 w2 hown1 hgr1)
          go_roundw
          case rel =>
            refine ⟨k + 1, by omega, by go_num, ?_, hgr1.below HB.out HB.out.size HO.out.ge⟩
            rw [HF.out, ints_append]
            exact hown1
          case measure => simp [intOf]; omega
        · have : k = xss.length := by omega
          subst this
          go_wp2_with fail
          go_ret
          exact ⟨_, rfl, ⟨by simpa using HO.out, HIN.out⟩, HB.out⟩
end Go.Proofs.Ytbjeibcombjfgaa

set_option maxRecDepth 100000
set_option linter.unusedVariables false
set_option linter.unusedSimpArgs false
namespace Go.Proofs.Ytbjeibcombjfgaa
open Go.RowKit

theorem Own.whole {w : World} {B : Nat} {e : TypeId} {g n : Nat} {vs : List Value} (h : Own w B e (.slice (some ⟨g, 0, none⟩) n n) vs) (hl : vs.length = n) : w.heap[g]? = some (.cells vs.toArray e (0, 0)) := by
  rcases h.cases with ⟨h, _⟩ | ⟨g', cap, cur, hv, _, _, hg, hc, _, hs, ht⟩
  · cases h
  · simp only [Value.slice.injEq, Option.some.injEq, Addr.mk.injEq, and_true, true_and] at hv
    obtain ⟨rfl, rfl, rfl⟩ := hv
    rw [hg]
    have : cur.toList = vs := by rw [← ht, hl, List.take_of_length_le (by rw [Array.length_toList, hs]; exact Nat.le_refl _)]
    rw [← this]
theorem Own.of_whole {w : World} {B : Nat} {e : TypeId} {g n : Nat} {vs : List Value} (h : w.heap[g]? = some (.cells vs.toArray e (0, 0))) (hl : vs.length = n) (hB : B ≤ g) (hn : n ≤ maxLen) : Own w B e (.slice (some ⟨g, 0, none⟩) n n) vs := by
  subst hl
  exact ⟨by simp, .inr ⟨g, _, _, rfl, hB, h, Nat.le_refl _, hn, by simp, by simp⟩⟩

set_option maxHeartbeats 1000000 in
theorem lib_Mul1 (w : World) (n : Nat) (h1 : 1 ≤ n) (h8 : n ≤ 8) :
    Calls Try.prog 249 #[.int .u64 1, .int .u64 (n : Int)] w fun e w' => e = .returned (.tuple #[.int .u64 0, .int .u64 (n : Int)]) ∧ w = w' := by
  have : n = 1 ∨ n = 2 ∨ n = 3 ∨ n = 4 ∨ n = 5 ∨ n = 6 ∨ n = 7 ∨ n = 8 := by omega
  rcases this with rfl | rfl | rfl | rfl | rfl | rfl | rfl | rfl
  all_goals
    go_enter Try.func249, Try.ntmps249
    go_wp2
    go_ret2
    exact ⟨rfl, rfl⟩

/-- m times g, then zeros up to n -/
def fillG (g : Int) (m n : Nat) : List Value := List.replicate m (Value.int .i64 g) ++ List.replicate (n - m) (Value.int .i64 0)
theorem fillG_len {g : Int} {m n : Nat} (h : m ≤ n) : (fillG g m n).length = n := by simp [fillG]; omega
theorem fillG_splice {g : Int} {m n c : Nat} (h : m + c ≤ n) : splice (fillG g m n) m (List.replicate c (Value.int .i64 g)) = fillG g (m + c) n := by
  unfold splice fillG
  rw [List.take_left' (by simp), List.length_replicate, List.drop_append]
  simp only [List.length_replicate, List.drop_replicate]
  rw [show m - (m + c) = 0 by omega, show m + c - m = c by omega, show n - m - c = n - (m + c) by omega]
  simp only [List.replicate_zero, List.nil_append]
  rw [← List.append_assoc, List.replicate_append_replicate]
theorem fillG_get {g : Int} {m n j : Nat} (h : j < m) : (fillG g m n)[j]? = some (Value.int .i64 g) := by
  unfold fillG
  rw [List.getElem?_append_left (by simpa using h)]
  simp [h]

theorem size_int : (Try.prog.info? tI).map (·.size) = some 1 := by kernel_rfl

theorem copy_src {w w1 : World} {ad : Addr} {g : Int} (hb : Below w.heap.size w w1) (hc : w.cell? (ad.add 0) = some (.int .i64 g)) : ∀ (j : Nat) (u : Value), [Value.int .i64 g][j]? = some u → w1.cell? (ad.add j) = some u := by
  intro j u hj
  cases j with
  | zero =>
    simp at hj; subst hj
    rw [hb.cell (World.block_lt_of_cell? w _ hc)]; exact hc
  | succ j => simp at hj

set_option maxHeartbeats 1000000 in
theorem lib_Repeat1 (w : World) (v : Value) (g : Int) (n : Nat) (ha : Ints w v [g]) (h1 : 1 ≤ n) (h8 : n ≤ 8) :
    Calls Try.prog 238 #[v, .int .i64 (n : Int)] w fun e w' => ∃ r, e = .returned r ∧ OwnInts w' w.heap.size tI r (List.replicate n g) ∧ Below w.heap.size w w' := by
  have HA := Lib.hid ha
  obtain ⟨A, c, rfl, l1, l2, l3⟩ := ha.open_
  obtain ⟨ad, z, rfl, hz, hz2, hc⟩ := l3 0 (by simp)
  obtain rfl : g = z := by simpa using hz
  have HC0 := Lib.hid hc
  clear l3 ha hz hc
  have H64 := Lib.hid hz2
  clear hz2
  go_enter Try.func238, Try.ntmps238
  go_wp2_with fail
  refine (lib_Mul1 _ n h1 h8).mono ?_
  rintro e w' ⟨rfl, rfl⟩
  go_wp2_with (first | (at_make; refine wpList_mk rfl _ _ _ rfl _ _ _ T_int n _ (by rfl) (by rfl) (by rfl) (by omega) _ ?_; intro w1 hown hb hs1; have HOWN := Lib.hid hown; have HB1 := Lib.hid hb; clear hown hb) | (refine wpList_copy_splice rfl (.tmp 31) (.tmp 32) _ _ (by rfl) tI T_int.under size_int (some ⟨w.heap.size, 0, none⟩) (some ad) n n 1 c (by rfl) (by rfl) w.heap.size 0 (fillG g 0 n) tI (by simpa [fillG] using HOWN.out.whole (by simp)) [.int .i64 g] (Nat.min_eq_left h1).symm (fun _ => ⟨rfl, ad, rfl, copy_src HB1.out HC0.out⟩) (by rw [fillG_len (by omega)]; simp; omega) (by simp [Value.oneCell']) w.heap.size w HB1.out (Nat.le_refl _) ?_; intro w2 hg2 hb2; have HB2 := Lib.hid hb2; clear hb2))
  have hg3 : Hid (w2.heap[w.heap.size]? = some (.cells (fillG g 1 n).toArray tI (0, 0))) := by
    have e : splice (fillG g 0 n) 0 [Value.int .i64 g] = fillG g 1 n := by simpa using fillG_splice (g := g) (m := 0) (c := 1) (n := n) (by omega)
    have := hg2.out
    rw [e] at this
    exact this
  clear hg2 HB1 HOWN
  go_loopw [8] (fun i wr => ∃ m : Nat, 1 ≤ m ∧ m ≤ n ∧ i = .int .i64 m ∧ Hid (wr.heap[w.heap.size]? = some (.cells (fillG g m n).toArray tI (0, 0))) ∧ Below w.heap.size w wr) (fun i _ => n - (intOf i).toNat)
  case atStart => exact ⟨1, Nat.le_refl _, h1, rfl, hg3, HB2.out⟩
  case round =>
    obtain ⟨m, hm1, hmn, rfl, hgm, hb⟩ := hrel
    clear hg3 HB2
    have HB := Lib.hid hb
    clear hb
    by_cases hlt : m < n
    · have hlt' : (m : Int) < (n : Int) := by omega
      have hne : ¬ n = m := by omega
      have hm0 : (0 : Int) ≤ (m : Int) := by omega
      have hmle : (m : Int) ≤ (n : Int) := by omega
      have hcm : m + Nat.min m (n - m) ≤ n := by
        have : Nat.min m (n - m) ≤ n - m := Nat.min_le_right _ _
        omega
      have hc1 : 1 ≤ Nat.min m (n - m) := Nat.le_min.2 ⟨hm1, by omega⟩
      have HSP := Lib.hid (fillG_splice (g := g) hcm)
      have HSRC := Lib.hid (show ∀ (j : Nat) (u : Value), (List.replicate (Nat.min m (n - m)) (Value.int .i64 g))[j]? = some u → wr.cell? ((⟨w.heap.size, 0, none⟩ : Addr).add j) = some u from fun j u hj => by
        have hj1 := (List.getElem?_eq_some_iff.1 hj).1
        simp only [List.length_replicate] at hj1
        have hjm : j < m := by have : Nat.min m (n - m) ≤ m := Nat.min_le_left _ _; omega
        have hju : u = .int .i64 g := by
          obtain ⟨_, e⟩ := List.getElem?_eq_some_iff.1 hj
          simp at e
          exact e.symm
        subst hju
        rw [Addr.add_lit, Nat.zero_add, cell_of_row wr _ j _ tI (0, 0) hgm.out]
        simpa using fillG_get hjm)
      generalize hcc : Nat.min m (n - m) = cc at hcm hc1 HSP HSRC
      have HCC := Lib.hid hcc
      clear hcc
      have wcc : IntKind.i64.wrap ((m : Int) + (cc : Int)) = (m : Int) + (cc : Int) := IntWalk.i64_in _ (by omega)
      go_wp2_with fail
      go_region_held3 (fun _ => True) (exact trivial) ((refine step_copy_splice rfl (.tmp 41) (.tmp 44) 25 25 (by rfl) tI T_int.under size_int (some ⟨w.heap.size, m, none⟩) (some ⟨w.heap.size, 0, none⟩) (n - m) (n - m) m n (by rfl) (by rfl) w.heap.size m (fillG g m n) tI hgm.out (List.replicate cc (.int .i64 g)) (by rw [List.length_replicate]; exact HCC.out.symm) (fun _ => ⟨rfl, _, rfl, HSRC.out⟩) (by rw [List.length_replicate, fillG_len hmn]; exact hcm) (by intro v hv; obtain ⟨_, rfl⟩ := List.mem_replicate.1 hv; rfl) w.heap.size w HB.out.drew (Nat.le_refl _) ?_; intro w4 hg4 hb4))
      have HG4 : Hid (w4.heap[w.heap.size]? = some (.cells (fillG g (m + cc) n).toArray tI (0, 0))) := by
        have := hg4.out
        rw [HSP.out] at this
        exact this
      have HB4 := Lib.hid hb4
      clear hg4 hb4
      go_wp2_with fail
      go_roundw
      case rel => exact ⟨m + cc, by omega, hcm, by go_num, HG4, HB4.out⟩
      case measure => simp [intOf]; omega
    · have : m = n := by omega
      subst this
      go_wp2_with fail
      go_ret
      have e : fillG g m m = ints (List.replicate m g) := by simp [fillG, ints]
      have hh := hgm.out
      rw [e] at hh
      refine ⟨_, rfl, ⟨Own.of_whole hh (by simp [ints]) (Nat.le_refl _) (by simp only [maxLen]; omega), fun z hz => ?_⟩, HB.out⟩
      obtain ⟨_, rfl⟩ := List.mem_replicate.1 hz
      exact H64.out
end Go.Proofs.Ytbjeibcombjfgaa

