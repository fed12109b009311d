/- Plain: characters as lists are a group under convolution; scaling; adjoints. No walk. | Plain: logarithms of characters: filled by numbers of nodes; the exponential of the logarithm is the character; the logarithm of an inverse and of a scaled character. No walk. | Plain: exponentials of Hamiltonian maps are symplectic, their products and inverses too, logarithms of symplectic characters are Hamiltonian, brackets of Hamiltonian maps too; kernel checks. No walk. | Plain: the weights of composed, inverse, scaled, turned and symplectic tableaus; kernel checks. No walk. | Plain: characters of tableaus as lists. No walk. | Plain: brackets of Hamiltonian maps; the reduced order of characters and their order. No walk. | Plain: exact maps in steps; agreement up to a number of nodes under products, inverses, scalings, adjoints; orders. No walk. | Walks: plus of the program, l02Add of the reference. -/
import Derived.Test.YtdjhfeaimmpmhaaGreatZc15
import Derived.Test.YtdjhfeaimmpmhaaGreatZc18
import Derived.Test.YtdjhfeaimmpmhaaGreatZc4
set_option maxRecDepth 100000
set_option linter.unusedVariables false
set_option linter.unusedSimpArgs false
namespace Go.Proofs.YtdjhfeaimmpmhaaGreat
open Go.RowKit

/-- a character: 38 numbers, the first of them 1 -/
structure Chr (a : List Int) : Prop where
  len : a.length = 38
  num : Nums a
  one : a.getD 0 0 = 1
def iv (a : List Int) : List Int := invL a 37
theorem iv_head (a : List Int) : (iv a).getD 0 0 = 1 := by unfold iv; rw [invL_get a (Nat.zero_le 0) (Nat.zero_le 37)]; rfl
theorem chr_iv (a : List Int) : Chr (iv a) := ⟨invL_len _ _, invL_nums _ _, iv_head a⟩
theorem chr_scZ {a : List Int} (ha : Chr a) (k : Int) : Chr (scZ a k) := ⟨scZ_len _ _, scZ_nums _ _, by rw [scZ_head ha.num, ha.one]⟩
theorem unM_gz {p : Nat} (hp : p < 38) : gz unM p = un p := by
  have h1 : (List.range 38).all (fun p => decide (gz unM p = un p)) = true := by decide +kernel
  rw [List.all_eq_true] at h1
  exact of_decide_eq_true (h1 p (List.mem_range.2 hp))
theorem cvZ_assoc {a b c : List Int} (hb : b.getD 0 0 = 1) (hc : Nums c) : cvZ (cvZ a b) c = cvZ a (cvZ b c) := by
  refine nums_ext (cvZ_nums hc) (cvZ_nums (cvZ_nums hc)) (cvZ_len _ _) (cvZ_len _ _) fun p hp => ?_
  rw [cvZ_cv _ _ hp, cvZ_cv _ _ hp]
  rw [cv_mod (a := gz (cvZ a b)) (a' := cv (gz a) (gz b)) (b := gz c) (b' := gz c) hp (fun k hk => cvZ_cv a b (by omega)) (fun k _ => rfl)]
  rw [cv_mod (a := gz a) (a' := gz a) (b := gz (cvZ b c)) (b' := cv (gz b) (gz c)) hp (fun k _ => rfl) (fun k hk => cvZ_cv b c (by omega))]
  rw [cv_assoc hb hp]
theorem cvZ_unL {a : List Int} (ha : Nums a) (la : a.length = 38) : cvZ unM a = a := by
  refine nums_ext (cvZ_nums ha) ha (cvZ_len _ _) la fun p hp => ?_
  rw [cvZ_cv _ _ hp, cv_mod (a := gz unM) (a' := un) (b := gz a) (b' := gz a) hp (fun k hk => by rw [unM_gz (by omega)]) (fun k _ => rfl), cv_unL _ hp]
theorem cvZ_unR {a : List Int} (ha : Chr a) : cvZ a unM = a := by
  refine nums_ext (cvZ_nums unM_nums) ha.num (cvZ_len _ _) ha.len fun p hp => ?_
  rw [cvZ_cv _ _ hp, cv_mod (a := gz a) (a' := gz a) (b := gz unM) (b' := un) hp (fun k _ => rfl) (fun k hk => by rw [unM_gz (by omega)]), cv_unR _ ha.one hp]
theorem iv_left {a : List Int} (ha : Chr a) : cvZ (iv a) a = unM := by
  refine nums_ext (cvZ_nums ha.num) unM_nums (cvZ_len _ _) unM_len fun p hp => ?_
  rw [cvZ_cv _ _ hp, unM_gz hp]
  exact inv_left ha.one p hp
theorem iv_right {a : List Int} (ha : Chr a) : cvZ a (iv a) = unM := by
  refine nums_ext (cvZ_nums (chr_iv a).num) unM_nums (cvZ_len _ _) unM_len fun p hp => ?_
  rw [cvZ_cv _ _ hp, unM_gz hp]
  unfold iv
  rw [inv_eq ha.one]
  exact inv_right a p hp
theorem iv_unique {x a : List Int} (hx : Chr x) (ha : Chr a) (h : cvZ x a = unM) : x = iv a := by
  have e : cvZ (cvZ x a) (iv a) = iv a := by rw [h]; exact cvZ_unL (chr_iv a).num (chr_iv a).len
  rw [cvZ_assoc ha.one (chr_iv a).num, iv_right ha, cvZ_unR hx] at e
  exact e
theorem iv_iv {a : List Int} (ha : Chr a) : iv (iv a) = a := (iv_unique ha (chr_iv a) (iv_right ha)).symm
/-! ### scaling -/
theorem scZ_gz (a : List Int) (k : Int) {p : Nat} (hp : p < 38) : gz (scZ a k) p % 10007 = scV k (gz a) p % 10007 := by
  show (scZ a k).getD p 0 % 10007 = a.getD p 0 * k ^ szT p % 10007
  rw [List.getD_eq_getElem?_getD, scZ_get a k hp, szT_is hp]
  show a.getD p 0 * pw k (szN p) % 10007 % 10007 = _
  unfold pw
  rw [mul_modR, Int.emod_emod_of_dvd _ (Int.dvd_refl _)]
theorem scZ_cvZ {a b : List Int} (ha : Chr a) (hb : Chr b) (k : Int) : scZ (cvZ a b) k = cvZ (scZ a k) (scZ b k) := by
  refine nums_ext (scZ_nums _ _) (cvZ_nums (scZ_nums _ _)) (scZ_len _ _) (cvZ_len _ _) fun p hp => ?_
  rw [scZ_gz _ _ hp, cvZ_cv _ _ hp, cv_mod (a := gz (scZ a k)) (a' := scV k (gz a)) (b := gz (scZ b k)) (b' := scV k (gz b)) hp (fun q hq => scZ_gz a k (by omega)) (fun q hq => scZ_gz b k (by omega)), cv_scV k _ _ hp]
  unfold scV
  rw [Int.mul_emod, cvZ_cv a b hp, ← Int.mul_emod]
theorem scZ_unM (k : Int) : scZ unM k = unM := by
  refine nums_ext (scZ_nums _ _) unM_nums (scZ_len _ _) unM_len fun p hp => ?_
  rw [scZ_gz _ _ hp, unM_gz hp]
  unfold scV
  rw [unM_gz hp]
  unfold un
  by_cases h : p = 0
  · subst h; rw [show szT 0 = 0 from rfl, Int.pow_zero, Int.mul_one]
  · rw [if_neg h, Int.zero_mul]
theorem scZ_iv {a : List Int} (ha : Chr a) (k : Int) : scZ (iv a) k = iv (scZ a k) := by
  refine iv_unique (chr_scZ (chr_iv a) k) (chr_scZ ha k) ?_
  rw [← scZ_cvZ (chr_iv a) ha, iv_left ha, scZ_unM]
theorem sq_one (n : Nat) : (10006 : Int) ^ n * (10006 : Int) ^ n % 10007 = 1 := by
  induction n with
  | zero => rfl
  | succ n ih =>
    have e : (10006 : Int) ^ (n + 1) * (10006 : Int) ^ (n + 1) = (10006 * 10006) * ((10006 : Int) ^ n * (10006 : Int) ^ n) := by
      rw [Int.pow_succ]
      simp only [Int.mul_assoc, Int.mul_left_comm, Int.mul_comm]
    rw [e, Int.mul_emod, ih]
    rfl
theorem scZ_twice {a : List Int} (ha : Chr a) : scZ (scZ a 10006) 10006 = a := by
  refine nums_ext (scZ_nums _ _) ha.num (scZ_len _ _) ha.len fun p hp => ?_
  rw [scZ_gz _ _ hp]
  unfold scV
  rw [Int.mul_emod, scZ_gz a 10006 hp, ← Int.mul_emod]
  unfold scV
  rw [Int.mul_assoc, Int.mul_emod, sq_one, Int.mul_one, Int.emod_emod_of_dvd _ (Int.dvd_refl _)]
/-! ### adjoints -/
def adjL (a : List Int) : List Int := iv (scZ a 10006)
theorem chr_adjL (a : List Int) : Chr (adjL a) := chr_iv _
theorem adjL_twice {a : List Int} (ha : Chr a) : adjL (adjL a) = a := by
  unfold adjL
  rw [scZ_iv (chr_scZ ha _), scZ_twice ha, iv_iv ha]
end Go.Proofs.YtdjhfeaimmpmhaaGreat

set_option maxRecDepth 100000
set_option linter.unusedVariables false
set_option linter.unusedSimpArgs false
namespace Go.Proofs.YtdjhfeaimmpmhaaGreat
open Go.RowKit

theorem szT_pos {p : Nat} (h0 : 0 < p) (hp : p < 38) : 1 ≤ szT p := by
  obtain ⟨q, rfl⟩ : ∃ q, p = q + 1 := ⟨p - 1, by omega⟩
  rw [szT_is hp]
  exact szN_pos (by omega)
end Go.Proofs.YtdjhfeaimmpmhaaGreat

set_option maxRecDepth 100000
set_option linter.unusedVariables false
set_option linter.unusedSimpArgs false
namespace Go.Proofs.YtdjhfeaimmpmhaaGreat
open Go.RowKit

/-! ### free numbers in the place of values -/
def mapH (o : Nat) : List Nat → Option (List Nat × Bool)
  | [] => some ([], true)
  | k :: ks => match hc k with
    | (0, _) => none
    | (i + 1, s) => match mapH o ks with
      | none => none
      | some (l, t) => some ((o + i) :: l, s == t)
def subH (o : Nat) : Pol → Pol
  | [] => []
  | t :: P => match mapH o t.1 with
    | none => subH o P
    | some (l, b) => insP (srtZ l, bif b then t.2 else 10007 - t.2 % 10007) (subH o P)
/-! ### exponentials -/
def hE (o p : Nat) : Pol := subH o (eT p)
/-! ### products -/
/-- two lists of ten numbers, one behind the other -/
def two (x y : Nat → Int) (i : Nat) : Int := if i < 10 then x i else y (i - 10)
def cP (p : Nat) : Pol := cvL (hE 0) (hE 10) (CP p)
/-! ### inverses -/
/-! ### logarithms -/
end Go.Proofs.YtdjhfeaimmpmhaaGreat

set_option maxRecDepth 100000
set_option linter.unusedVariables false
set_option linter.unusedSimpArgs false
namespace Go.Proofs.YtdjhfeaimmpmhaaGreat
open Go.RowKit

/-! ### more on sums over stages -/
theorem sR_split (s t : Nat) (f : Nat → Int) : sR (s + t) f = sR s f + sR t (fun k => f (s + k)) := by
  induction t with
  | zero => show sR s f = sR s f + 0; rw [Int.add_zero]
  | succ t ih => rw [show s + (t + 1) = (s + t) + 1 from rfl, sR_succ, sR_succ, ih, Int.add_assoc]
theorem sR_first (s : Nat) (f : Nat → Int) : sR (s + 1) f = f 0 + sR s (fun k => f (k + 1)) := by
  rw [Nat.add_comm s 1, sR_split]
  congr 1
  · show sR (0 + 1) f = f 0; rw [sR_succ, sR_zero, Int.zero_add]
  · exact sR_congr fun k _ => by rw [Nat.add_comm 1 k]
theorem sR_turn : ∀ (s : Nat) (f : Nat → Int), sR s (fun i => f (s - 1 - i)) = sR s f
  | 0, f => rfl
  | s + 1, f => by
    rw [sR_first s, sR_succ s f, ← sR_turn s f, Int.add_comm]
    have e : sR s (fun k => f (s + 1 - 1 - (k + 1))) = sR s (fun i => f (s - 1 - i)) := sR_congr fun k hk => by rw [show s + 1 - 1 - (k + 1) = s - 1 - k by omega]
    rw [e]; rfl
theorem sR_mod {s : Nat} {f g : Nat → Int} (h : ∀ i, i < s → f i % 10007 = g i % 10007) : sR s f % 10007 = sR s g % 10007 := sumF_modc fun i hi => h i (List.mem_range.1 hi)
/-! ### equal numbers, equal weights -/
theorem szT_pos1 {p : Nat} (h0 : 0 < p) (hp : p < 38) (hn : szT p ≤ 0) : False := by
  have := szN_pos (i := p - 1) (by omega)
  rw [show p - 1 + 1 = p by omega, ← szT_is hp] at this
  omega
theorem mulm {a b c d : Int} (h : a % 10007 = c % 10007) (g : b % 10007 = d % 10007) : a * b % 10007 = c * d % 10007 := by rw [Int.mul_emod, h, g, ← Int.mul_emod]
theorem addm {a b c d : Int} (h : a % 10007 = c % 10007) (g : b % 10007 = d % 10007) : (a + b) % 10007 = (c + d) % 10007 := by omega
theorem wt_mod {s : Nat} {A A' : Nat → Nat → Int} (phi : Nat → Int) (h : ∀ i k, i < s → k < s → A i k % 10007 = A' i k % 10007) : ∀ (n i p : Nat), i < s → 0 < p → p < 38 → szT p ≤ n → wt s A phi i p % 10007 = wt s A' phi i p % 10007
  | 0, i, p, hi, h0, hp, hn => (szT_pos1 h0 hp hn).elim
  | n + 1, i, p, hi, h0, hp, hn => by
    rw [wt_is s A phi i hp, wt_is s A' phi i hp]
    refine pz_mod fun q hq => ?_
    obtain ⟨q0, q1, q2⟩ := bt_at hp hq
    exact addm rfl (sR_mod fun k hk => mulm (h i k hi hk) (wt_mod phi h n k q hk q0 q1 (by omega)))
theorem wgt_mod {s : Nat} {A A' : Nat → Nat → Int} {b b' : Nat → Int} (h : ∀ i k, i < s → k < s → A i k % 10007 = A' i k % 10007) (g : ∀ i, i < s → b i % 10007 = b' i % 10007) {p : Nat} (hp : p < 38) : wgtT s A b p % 10007 = wgtT s A' b' p % 10007 := by
  unfold wgtT
  by_cases h0 : p = 0
  · rw [if_pos h0, if_pos h0]
  · rw [if_neg h0, if_neg h0]
    exact sR_mod fun i hi => mulm (g i hi) (wt_mod zeroV h (szT p) i p hi (by omega) hp (Nat.le_refl _))
/-! ### composed tableaus -/
def cA (s : Nat) (A A' : Nat → Nat → Int) (b : Nat → Int) (i k : Nat) : Int := if i < s then (if k < s then A i k else 0) else (if k < s then b k else A' (i - s) (k - s))
def cB (s : Nat) (b b' : Nat → Int) (i : Nat) : Int := if i < s then b i else b' (i - s)
theorem comp_lo (s t : Nat) (A A' : Nat → Nat → Int) (b : Nat → Int) : ∀ (n i p : Nat), i < s → 0 < p → p < 38 → szT p ≤ n → wt (s + t) (cA s A A' b) zeroV i p = wt s A zeroV i p
  | 0, i, p, hi, h0, hp, hn => (szT_pos1 h0 hp hn).elim
  | n + 1, i, p, hi, h0, hp, hn => by
    rw [wt_is _ _ _ i hp, wt_is _ _ _ i hp]
    refine pz_congr fun q hq => ?_
    obtain ⟨q0, q1, q2⟩ := bt_at hp hq
    congr 1
    rw [sR_split]
    have e1 : sR t (fun k => cA s A A' b i (s + k) * wt (s + t) (cA s A A' b) zeroV (s + k) q) = sR t (fun _ => 0) := sR_congr fun k _ => by
      unfold cA
      rw [if_pos hi, if_neg (by omega), Int.zero_mul]
    rw [e1, sumR0, Int.add_zero]
    refine sR_congr fun k hk => ?_
    rw [comp_lo s t A A' b n k q hk q0 q1 (by omega)]
    have : cA s A A' b i k = A i k := by unfold cA; rw [if_pos hi, if_pos hk]
    rw [this]
theorem wgt_pos (s : Nat) (A : Nat → Nat → Int) (b : Nat → Int) {p : Nat} (h0 : 0 < p) : wgtT s A b p = sR s (fun i => b i * wt s A zeroV i p) := if_neg (by omega)
theorem comp_hi (s t : Nat) (A A' : Nat → Nat → Int) (b : Nat → Int) : ∀ (n i p : Nat), 0 < p → p < 38 → szT p ≤ n → wt (s + t) (cA s A A' b) zeroV (s + i) p = wt t A' (wgtT s A b) i p
  | 0, i, p, h0, hp, hn => (szT_pos1 h0 hp hn).elim
  | n + 1, i, p, h0, hp, hn => by
    rw [wt_is _ _ _ _ hp, wt_is _ _ _ i hp]
    refine pz_congr fun q hq => ?_
    obtain ⟨q0, q1, q2⟩ := bt_at hp hq
    rw [sR_split, wgt_pos s A b q0]
    show 0 + _ = _
    rw [Int.zero_add]
    congr 1
    · refine sR_congr fun k hk => ?_
      rw [comp_lo s t A A' b n k q hk q0 q1 (by omega)]
      have : cA s A A' b (s + i) k = b k := by unfold cA; rw [if_neg (by omega), if_pos hk]
      rw [this]
    · refine sR_congr fun k hk => ?_
      rw [comp_hi s t A A' b n k q q0 q1 (by omega)]
      have : cA s A A' b (s + i) (s + k) = A' i k := by unfold cA; rw [if_neg (by omega), if_neg (by omega), Nat.add_sub_cancel_left, Nat.add_sub_cancel_left]
      rw [this]
theorem wgt_zero (s : Nat) (A : Nat → Nat → Int) (b : Nat → Int) : wgtT s A b 0 = 1 := if_pos rfl
/-- what values that come in and a tableau behind them give -/
theorem cv_tab (phi : Nat → Int) (t : Nat) (A' : Nat → Nat → Int) (b' : Nat → Int) {p : Nat} (h0 : 0 < p) (hp : p < 38) : cv phi (wgtT t A' b') p = phi p + sR t (fun i => b' i * wt t A' phi i p) := by
  rw [cv_split phi (wgtT t A' b') (if_pos rfl) h0 hp]
  congr 1
  have e : sR t (fun i => b' i * wt t A' phi i p) = sR t (fun i => sumF (fun c => b' i * ruT phi (uV t A' i) c) (CP p)) := sR_congr fun i _ => by
    rw [wt_comp t A' phi (szT p) i p h0 hp (Nat.le_refl _), sumF_mul]
  rw [e, sR_swap t (fun _ _ => 0) (CP p) (fun i c => b' i * ruT phi (uV t A' i) c)]
  refine sumF_congr fun c hc => ?_
  have hpc := pc_at hp hc
  unfold ruT
  by_cases h : c.1.2 = 0
  · rw [if_pos h]
    have : sR t (fun i => b' i * (if c.1.2 = 0 then 0 else (c.2 : Int) * (pz phi c.1.1 * pz (uV t A' i) (bt c.1.2)))) = sR t (fun _ => 0) := sR_congr fun k _ => by rw [if_pos h, Int.mul_zero]
    rw [this]
    exact (sumR0 t).symm
  · rw [if_neg h, wgt_pos t A' b' (by omega), ← Int.mul_assoc, sR_mul]
    refine sR_congr fun k _ => ?_
    rw [if_neg h, wt_zero t A' k (show c.1.2 < 38 by have := hpc.2; omega)]
    simp only [Int.mul_assoc, Int.mul_left_comm, Int.mul_comm]
/-- the character of a composition -/
theorem wgt_comp (s t : Nat) (A A' : Nat → Nat → Int) (b b' : Nat → Int) {p : Nat} (hp : p < 38) : wgtT (s + t) (cA s A A' b) (cB s b b') p = cv (wgtT s A b) (wgtT t A' b') p := by
  by_cases h0 : p = 0
  · subst h0
    have : cv (wgtT s A b) (wgtT t A' b') 0 = 1 := by
      show sumF (cvT _ _) (CP 0) = 1
      rw [show CP 0 = [(([], 0), 1)] from rfl]
      simp only [sumF]
      unfold cvT
      rw [pz_nil]
      show (1 : Int) * (1 * wgtT t A' b' 0) + 0 = 1
      rw [show wgtT t A' b' 0 = 1 from if_pos rfl]
      rfl
    rw [this]
    exact if_pos rfl
  · rw [cv_tab _ t A' b' (by omega) hp, wgt_pos _ _ _ (show 0 < p by omega), sR_split, wgt_pos s A b (show 0 < p by omega)]
    congr 1
    · refine sR_congr fun k hk => ?_
      rw [comp_lo s t A A' b (szT p) k p hk (by omega) hp (Nat.le_refl _)]
      have : cB s b b' k = b k := if_pos hk
      rw [this]
    · refine sR_congr fun k hk => ?_
      rw [comp_hi s t A A' b (szT p) k p (by omega) hp (Nat.le_refl _)]
      have : cB s b b' (s + k) = b' k := by unfold cB; rw [if_neg (by omega), Nat.add_sub_cancel_left]
      rw [this]
/-! ### inverses -/
def iA (A : Nat → Nat → Int) (b : Nat → Int) (i k : Nat) : Int := A i k - b k
theorem inv_wt (s : Nat) (A : Nat → Nat → Int) (b : Nat → Int) : ∀ (n i p : Nat), 0 < p → p < 38 → szT p ≤ n → wt s (iA A b) (wgtT s A b) i p = wt s A zeroV i p
  | 0, i, p, h0, hp, hn => (szT_pos1 h0 hp hn).elim
  | n + 1, i, p, h0, hp, hn => by
    rw [wt_is _ _ _ i hp, wt_is _ _ _ i hp]
    refine pz_congr fun q hq => ?_
    obtain ⟨q0, q1, q2⟩ := bt_at hp hq
    rw [wgt_pos s A b q0]
    show _ = 0 + _
    rw [← sR_add, Int.zero_add]
    refine sR_congr fun k hk => ?_
    rw [inv_wt s A b n k q q0 q1 (by omega)]
    unfold iA
    rw [Int.sub_mul]
    generalize b k * _ = u
    generalize A i k * _ = v
    omega
theorem wgt_inv (s : Nat) (A : Nat → Nat → Int) (b : Nat → Int) {p : Nat} (hp : p < 38) : cv (wgtT s A b) (wgtT s (iA A b) (fun i => - b i)) p = un p := by
  by_cases h0 : p = 0
  · subst h0
    rw [← wgt_comp s s A (iA A b) b (fun i => - b i) hp, wgt_zero]
    rfl
  · rw [cv_tab _ s _ _ (by omega) hp, wgt_pos s A b (show 0 < p by omega), ← sR_add]
    have : un p = 0 := if_neg h0
    rw [this, ← sumR0 s]
    refine sR_congr fun k hk => ?_
    rw [inv_wt s A b (szT p) k p (by omega) hp (Nat.le_refl _), Int.neg_mul]
    generalize b k * _ = u
    omega
/-! ### scaled tableaus -/
theorem tb3 : (List.range 38).all (fun p => Nat.beq p 0 || Nat.beq (wgt (bt p) + 1) (szT p)) = true := by decide +kernel
theorem wgt_bt {p : Nat} (h0 : 0 < p) (hp : p < 38) : wgt (bt p) + 1 = szT p := by
  have h1 := tb3
  rw [List.all_eq_true] at h1
  have h2 := h1 p (List.mem_range.2 hp)
  rw [Bool.or_eq_true] at h2
  rcases h2 with h2 | h2
  · have := Nat.eq_of_beq_eq_true h2; omega
  · exact Nat.eq_of_beq_eq_true h2
theorem sc_wt (s : Nat) (A : Nat → Nat → Int) (c : Int) : ∀ (n i p : Nat), 0 < p → p < 38 → szT p ≤ n → c * wt s (fun i k => A i k * c) zeroV i p = wt s A zeroV i p * c ^ szT p
  | 0, i, p, h0, hp, hn => (szT_pos1 h0 hp hn).elim
  | n + 1, i, p, h0, hp, hn => by
    rw [wt_is _ _ _ i hp, wt_is _ _ _ i hp, ← wgt_bt h0 hp, Int.pow_succ, ← Int.mul_assoc, Int.mul_comm]
    congr 1
    rw [← pz_scV c (fun q => zeroV q + sR s (fun k => A i k * wt s A zeroV k q))]
    refine pz_congr fun q hq => ?_
    obtain ⟨q0, q1, q2⟩ := bt_at hp hq
    unfold scV
    show 0 + _ = (0 + _) * _
    rw [Int.zero_add, Int.zero_add, Int.mul_comm _ (c ^ szT q), sR_mul]
    refine sR_congr fun k hk => ?_
    rw [Int.mul_assoc, sc_wt s A c n k q q0 q1 (by omega)]
    simp only [Int.mul_assoc, Int.mul_left_comm, Int.mul_comm]
theorem wgt_scale (s : Nat) (A : Nat → Nat → Int) (b : Nat → Int) (c : Int) {p : Nat} (hp : p < 38) : wgtT s (fun i k => A i k * c) (fun i => b i * c) p = scV c (wgtT s A b) p := by
  by_cases h0 : p = 0
  · subst h0
    unfold scV
    rw [wgt_zero, wgt_zero]
    show (1 : Int) = 1 * c ^ 0
    rw [Int.pow_zero]
    rfl
  · unfold scV
    rw [wgt_pos _ _ _ (show 0 < p by omega), wgt_pos _ _ _ (show 0 < p by omega), Int.mul_comm, sR_mul]
    refine sR_congr fun k hk => ?_
    rw [Int.mul_assoc, sc_wt s A c (szT p) k p (by omega) hp (Nat.le_refl _)]
    simp only [Int.mul_assoc, Int.mul_left_comm, Int.mul_comm]
/-! ### stages the other way round -/
theorem turn_wt (s : Nat) (A : Nat → Nat → Int) : ∀ (n i p : Nat), i < s → 0 < p → p < 38 → szT p ≤ n → wt s (fun i k => A (s - 1 - i) (s - 1 - k)) zeroV i p = wt s A zeroV (s - 1 - i) p
  | 0, i, p, hi, h0, hp, hn => (szT_pos1 h0 hp hn).elim
  | n + 1, i, p, hi, h0, hp, hn => by
    rw [wt_is _ _ _ i hp, wt_is _ _ _ _ hp]
    refine pz_congr fun q hq => ?_
    obtain ⟨q0, q1, q2⟩ := bt_at hp hq
    congr 1
    rw [← sR_turn s (fun k => A (s - 1 - i) k * wt s A zeroV k q)]
    refine sR_congr fun k hk => ?_
    rw [turn_wt s A n k q hk q0 q1 (by omega)]
theorem wgt_turn (s : Nat) (A : Nat → Nat → Int) (b : Nat → Int) {p : Nat} (hp : p < 38) : wgtT s (fun i k => A (s - 1 - i) (s - 1 - k)) (fun i => b (s - 1 - i)) p = wgtT s A b p := by
  by_cases h0 : p = 0
  · rw [h0, wgt_zero, wgt_zero]
  · rw [wgt_pos _ _ _ (show 0 < p by omega), wgt_pos _ _ _ (show 0 < p by omega), ← sR_turn s (fun i => b i * wt s A zeroV i p)]
    refine sR_congr fun k hk => ?_
    rw [turn_wt s A (szT p) k p hk (by omega) hp (Nat.le_refl _)]
/-! ### symplectic tableaus -/
end Go.Proofs.YtdjhfeaimmpmhaaGreat

set_option maxRecDepth 100000
set_option linter.unusedVariables false
set_option linter.unusedSimpArgs false
namespace Go.Proofs.YtdjhfeaimmpmhaaGreat
open Go.RowKit

def chF (s : Nat) (A : Nat → Nat → Int) (b : Nat → Int) : List Int := (List.range 38).map fun p => wgtT s A b p % 10007
theorem chF_len (s : Nat) (A : Nat → Nat → Int) (b : Nat → Int) : (chF s A b).length = 38 := by unfold chF; rw [List.length_map, List.length_range]
theorem chF_at (s : Nat) (A : Nat → Nat → Int) (b : Nat → Int) {p : Nat} (hp : p < 38) : gz (chF s A b) p = wgtT s A b p % 10007 := by
  unfold gz chF
  rw [List.getD_eq_getElem?_getD, List.getElem?_map, List.getElem?_range hp]
  rfl
theorem chF_gz (s : Nat) (A : Nat → Nat → Int) (b : Nat → Int) {p : Nat} (hp : p < 38) : gz (chF s A b) p % 10007 = wgtT s A b p % 10007 := by
  rw [chF_at s A b hp, Int.emod_emod_of_dvd _ (Int.dvd_refl _)]
theorem chF_nums (s : Nat) (A : Nat → Nat → Int) (b : Nat → Int) : Nums (chF s A b) := by
  intro z hz
  obtain ⟨p, -, rfl⟩ := List.mem_map.1 hz
  generalize wgtT s A b p = u
  omega
theorem chr_chF (s : Nat) (A : Nat → Nat → Int) (b : Nat → Int) : Chr (chF s A b) := ⟨chF_len s A b, chF_nums s A b, by
  show gz (chF s A b) 0 = 1
  rw [chF_at s A b (by omega), wgt_zero]
  rfl⟩
theorem chF_mod {s : Nat} {A A' : Nat → Nat → Int} {b b' : Nat → Int} (h : ∀ i k, i < s → k < s → A i k % 10007 = A' i k % 10007) (g : ∀ i, i < s → b i % 10007 = b' i % 10007) : chF s A b = chF s A' b' := by
  refine nums_ext (chF_nums _ _ _) (chF_nums _ _ _) (chF_len _ _ _) (chF_len _ _ _) fun p hp => ?_
  rw [chF_gz s A b hp, chF_gz s A' b' hp]
  exact wgt_mod h g hp
theorem chF_comp (s t : Nat) (A A' : Nat → Nat → Int) (b b' : Nat → Int) : chF (s + t) (cA s A A' b) (cB s b b') = cvZ (chF s A b) (chF t A' b') := by
  refine nums_ext (chF_nums _ _ _) (cvZ_nums (chF_nums _ _ _)) (chF_len _ _ _) (cvZ_len _ _) fun p hp => ?_
  rw [chF_gz _ _ _ hp, cvZ_cv _ _ hp, wgt_comp s t A A' b b' hp]
  exact (cv_mod hp (fun k hk => chF_gz s A b (by omega)) (fun k hk => chF_gz t A' b' (by omega))).symm
theorem chF_inv (s : Nat) (A : Nat → Nat → Int) (b : Nat → Int) : chF s (iA A b) (fun i => - b i) = iv (chF s A b) := by
  have e : cvZ (chF s A b) (chF s (iA A b) (fun i => - b i)) = unM := by
    refine nums_ext (cvZ_nums (chF_nums _ _ _)) unM_nums (cvZ_len _ _) unM_len fun p hp => ?_
    rw [cvZ_cv _ _ hp, unM_gz hp, cv_mod hp (fun k hk => chF_gz s A b (by omega)) (fun k hk => chF_gz s (iA A b) (fun i => - b i) (by omega)), wgt_inv s A b hp]
  have e2 := iv_unique (chr_chF s A b) (chr_chF s (iA A b) (fun i => - b i)) e
  rw [e2, iv_iv (chr_chF s (iA A b) (fun i => - b i))]
theorem chF_scale (s : Nat) (A : Nat → Nat → Int) (b : Nat → Int) (c : Int) : chF s (fun i k => A i k * c) (fun i => b i * c) = scZ (chF s A b) c := by
  refine nums_ext (chF_nums _ _ _) (scZ_nums _ _) (chF_len _ _ _) (scZ_len _ _) fun p hp => ?_
  rw [chF_gz _ _ _ hp, scZ_gz _ _ hp, wgt_scale s A b c hp]
  unfold scV
  exact mulm (chF_gz s A b hp).symm rfl
theorem chF_turn (s : Nat) (A : Nat → Nat → Int) (b : Nat → Int) : chF s (fun i k => A (s - 1 - i) (s - 1 - k)) (fun i => b (s - 1 - i)) = chF s A b := by
  refine nums_ext (chF_nums _ _ _) (chF_nums _ _ _) (chF_len _ _ _) (chF_len _ _ _) fun p hp => ?_
  rw [chF_gz _ _ _ hp, chF_gz _ _ _ hp, wgt_turn s A b hp]
/-- the numbers of the adjoint tableau -/
def aA (s : Nat) (A : Nat → Nat → Int) (b : Nat → Int) (i k : Nat) : Int := b (s - 1 - k) - A (s - 1 - i) (s - 1 - k)
theorem chF_adj (s : Nat) (A : Nat → Nat → Int) (b : Nat → Int) : chF s (aA s A b) (fun i => b (s - 1 - i)) = scZ (iv (chF s A b)) 10006 := by
  rw [← chF_inv, ← chF_scale, ← chF_turn s (fun i k => iA A b i k * 10006) (fun i => - b i * 10006)]
  refine chF_mod (fun i k hi hk => ?_) (fun i hi => ?_)
  · unfold aA iA
    generalize b (s - 1 - k) = u
    generalize A (s - 1 - i) (s - 1 - k) = v
    omega
  · skip
    generalize b (s - 1 - i) = u
    omega
theorem chF_adjL (s : Nat) (A : Nat → Nat → Int) (b : Nat → Int) : chF s (aA s A b) (fun i => b (s - 1 - i)) = adjL (chF s A b) := by
  rw [chF_adj, scZ_iv (chr_chF s A b)]
  rfl
end Go.Proofs.YtdjhfeaimmpmhaaGreat

set_option maxRecDepth 100000
set_option linter.unusedVariables false
set_option linter.unusedSimpArgs false
namespace Go.Proofs.YtdjhfeaimmpmhaaGreat
open Go.RowKit

/-! ### brackets -/
/-! ### the reduced order -/
/-- the first place where a character does not agree with the exact map -/
theorem ag_spec (x : List Int) : (∀ p, p < 38 → (szT p : Int) ≤ agZ x EX → x.getD p 0 = EX.getD p 0) ∧ (agZ x EX = 6 ∧ (∀ p, p < 38 → x.getD p 0 = EX.getD p 0) ∨ ∃ p, p < 38 ∧ agZ x EX = (szT p : Int) - 1 ∧ x.getD p 0 ≠ EX.getD p 0) := by
  have hsort : (List.range 38).all (fun i => (List.range 38).all fun k => Nat.blt k i || Nat.ble (szT i) (szT k)) = true := by decide +kernel
  rw [List.all_eq_true] at hsort
  cases hf : (List.range 38).find? (fun k => x.getD k 0 != EX.getD k 0) with
  | none =>
    rw [List.find?_range_eq_none] at hf
    have hall : ∀ p, p < 38 → x.getD p 0 = EX.getD p 0 := fun p hp => by have := hf p hp; simpa using this
    exact ⟨fun p hp _ => hall p hp, .inl ⟨agZ_miss hall, hall⟩⟩
  | some k =>
    rw [List.find?_range_eq_some] at hf
    obtain ⟨h1, h2, h3⟩ := hf
    have hk : k < 38 := by simpa using h2
    have hne : x.getD k 0 ≠ EX.getD k 0 := by simpa using h1
    have hmin : ∀ i, i < k → x.getD i 0 = EX.getD i 0 := fun i hi => by have := h3 i hi; simpa using this
    have ha := agZ_hit hmin hk hne
    rw [← szT_is hk] at ha
    refine ⟨fun p hp hs => ?_, .inr ⟨k, hk, ha, hne⟩⟩
    rw [ha] at hs
    by_cases hpk : p < k
    · exact hmin p hpk
    · have h4 := hsort k (List.mem_range.2 hk)
      rw [List.all_eq_true] at h4
      have h5 := h4 p (List.mem_range.2 hp)
      rw [Bool.or_eq_true] at h5
      rcases h5 with h5 | h5
      · have := blt_lt h5; omega
      · have := Nat.le_of_ble_eq_true h5; omega
end Go.Proofs.YtdjhfeaimmpmhaaGreat

set_option maxRecDepth 100000
set_option linter.unusedVariables false
set_option linter.unusedSimpArgs false
namespace Go.Proofs.YtdjhfeaimmpmhaaGreat
open Go.RowKit

/-! ### the exact map in steps -/
def eN (p : Nat) : Nat := exN.getD p 0
theorem gz_EX (p : Nat) : gz EX p = (eN p : Int) := by
  unfold gz EX up eN
  rw [List.getD_eq_getElem?_getD, List.getElem?_map, List.getD_eq_getElem?_getD]
  cases exN[p]? <;> rfl
def prE : List Nat → Nat
  | [] => 1
  | q :: qs => eN q * prE qs % 10007
theorem prE_pz : ∀ qs : List Nat, ((prE qs : Nat) : Int) % 10007 = pz (gz EX) qs % 10007
  | [] => rfl
  | q :: qs => by
    have ih := prE_pz qs
    rw [pz_cons, gz_EX]
    unfold prE
    rw [Int.natCast_emod, Int.natCast_mul]
    show _ % 10007 % 10007 = _
    rw [Int.emod_emod_of_dvd _ (Int.dvd_refl _)]
    exact mulm rfl ih
def stP (p : Nat) : List MCt → Pol
  | [] => []
  | c :: cs => insP (List.replicate (wgt c.1.1) 0 ++ List.replicate (szT c.1.2) 1, c.2 * prE c.1.1 * eN c.1.2 % 10007) (stP p cs)
def pwP : Nat → Pol
  | 0 => [([], 1)]
  | n + 1 => mulP [([0], 1), ([1], 1)] (pwP n)
def two2 (s t : Int) (i : Nat) : Int := if i = 0 then s else t
theorem pz_rep (z : Nat → Int) (i n : Nat) : pz z (List.replicate n i) = z i ^ n := by
  induction n with
  | zero => rw [Int.pow_zero]; rfl
  | succ n ih => rw [List.replicate_succ, pz_cons, ih, Int.pow_succ, Int.mul_comm]
theorem pwP_pv (s t : Int) (n : Nat) : pv (two2 s t) (pwP n) % 10007 = (s + t) ^ n % 10007 := by
  induction n with
  | zero => rw [Int.pow_zero]; rfl
  | succ n ih =>
    unfold pwP
    rw [mulP_pv, Int.pow_succ, Int.mul_comm]
    refine mulm ih ?_
    show (1 * (s * 1) + (1 * (t * 1) + 0)) % 10007 = _
    rw [Int.mul_one, Int.mul_one, Int.one_mul, Int.one_mul, Int.add_zero]
theorem stP_pv (s t : Int) (p : Nat) : ∀ l : List MCt, pv (two2 s t) (stP p l) % 10007 = sumF (cvT (scV s (gz EX)) (scV t (gz EX))) l % 10007
  | [] => rfl
  | c :: cs => by
    have ih := stP_pv s t p cs
    unfold stP
    rw [insP_pv]
    show _ = (cvT _ _ c + sumF _ cs) % 10007
    refine addm ?_ ih
    rw [tmv_mod]
    unfold tmv cvT
    dsimp only
    rw [pz_append, pz_rep, pz_rep, pz_scV]
    unfold scV
    rw [show two2 s t 0 = s from rfl, show two2 s t 1 = t from rfl, gz_EX, Int.natCast_mul, Int.natCast_mul]
    have h := prE_pz c.1.1
    have e1 : (c.2 : Int) * (prE c.1.1 : Nat) * (eN c.1.2 : Nat) * (s ^ wgt c.1.1 * t ^ szT c.1.2) = (prE c.1.1 : Nat) * ((c.2 : Int) * (eN c.1.2 : Nat) * (s ^ wgt c.1.1 * t ^ szT c.1.2)) := by
      simp only [Int.mul_assoc, Int.mul_left_comm, Int.mul_comm]
    have e2 : (c.2 : Int) * (pz (gz EX) c.1.1 * s ^ wgt c.1.1 * ((eN c.1.2 : Nat) * t ^ szT c.1.2)) = pz (gz EX) c.1.1 * ((c.2 : Int) * (eN c.1.2 : Nat) * (s ^ wgt c.1.1 * t ^ szT c.1.2)) := by
      simp only [Int.mul_assoc, Int.mul_left_comm, Int.mul_comm]
    rw [e1, e2]
    exact mulm h rfl
theorem ts1 : (List.range 38).all (fun p => eqPl (dz (stP p (CP p))) (dz (sclP (eN p) (pwP (szT p))))) = true := by decide +kernel
/-- a step of s and one of t are a step of s + t -/
theorem EX_step (s t : Int) : cvZ (scZ EX s) (scZ EX t) = scZ EX (s + t) := by
  refine nums_ext (cvZ_nums (scZ_nums _ _)) (scZ_nums _ _) (cvZ_len _ _) (scZ_len _ _) fun p hp => ?_
  have h1 := ts1
  rw [List.all_eq_true] at h1
  have h2 := h1 p (List.mem_range.2 hp)
  rw [cvZ_cv _ _ hp, scZ_gz _ _ hp, cv_mod hp (fun k hk => scZ_gz EX s (by omega)) (fun k hk => scZ_gz EX t (by omega))]
  show sumF (cvT (scV s (gz EX)) (scV t (gz EX))) (CP p) % 10007 = _
  rw [← stP_pv s t p, pv_eq h2, sclP_pv]
  unfold scV
  rw [gz_EX]
  exact mulm rfl (pwP_pv s t (szT p))
theorem chr_EX : Chr EX := ⟨EX_len, fun z hz => EX_nums z hz, rfl⟩
theorem scZ_one {a : List Int} (ha : Chr a) : scZ a 1 = a := by
  refine nums_ext (scZ_nums _ _) ha.num (scZ_len _ _) ha.len fun p hp => ?_
  rw [scZ_gz _ _ hp]
  unfold scV
  rw [Int.one_pow, Int.mul_one]
theorem scZ_zero {a : List Int} (ha : Chr a) : scZ a 0 = unM := by
  refine nums_ext (scZ_nums _ _) unM_nums (scZ_len _ _) unM_len fun p hp => ?_
  rw [scZ_gz _ _ hp, unM_gz hp]
  unfold scV
  by_cases h0 : p = 0
  · subst h0
    show gz a 0 * 1 % 10007 = _
    rw [show gz a 0 = 1 from ha.one]; rfl
  · have h1 : 0 < szT p := szT_pos (by omega) hp
    rw [Int.zero_pow (by omega), Int.mul_zero]
    unfold un
    rw [if_neg h0]
theorem scZ_congr {a : List Int} {s t : Int} (h : s % 10007 = t % 10007) : scZ a s = scZ a t := by
  refine nums_ext (scZ_nums _ _) (scZ_nums _ _) (scZ_len _ _) (scZ_len _ _) fun p hp => ?_
  rw [scZ_gz _ _ hp, scZ_gz _ _ hp]
  unfold scV
  refine mulm rfl ?_
  generalize szT p = n
  induction n with
  | zero => rw [Int.pow_zero, Int.pow_zero]
  | succ n ih => rw [Int.pow_succ, Int.pow_succ]; exact mulm ih h
theorem iv_EX (s : Int) : iv (scZ EX s) = scZ EX (-s) := by
  refine (iv_unique (chr_scZ chr_EX _) (chr_scZ chr_EX _) ?_).symm
  rw [EX_step, show -s + s = 0 by omega, scZ_zero chr_EX]
/-- the exact map is symmetric -/
theorem adj_EX : adjL EX = EX := by
  unfold adjL
  rw [iv_EX, scZ_congr (show (-10006 : Int) % 10007 = 1 % 10007 from rfl), scZ_one chr_EX]
/-! ### agreement up to a number of nodes -/
def Agr (n : Nat) (a b : List Int) : Prop := ∀ p, p < 38 → szT p ≤ n → gz a p % 10007 = gz b p % 10007
theorem Agr.refl (n : Nat) (a : List Int) : Agr n a a := fun _ _ _ => rfl
theorem Agr.symm {n : Nat} {a b : List Int} (h : Agr n a b) : Agr n b a := fun p hp hs => (h p hp hs).symm
theorem Agr.trans {n : Nat} {a b c : List Int} (h : Agr n a b) (g : Agr n b c) : Agr n a c := fun p hp hs => (h p hp hs).trans (g p hp hs)
theorem wgt_le {ks : List Nat} {k : Nat} (h : k ∈ ks) : szT k ≤ wgt ks := by
  induction ks with
  | nil => cases h
  | cons q ks ih =>
    show szT k ≤ szT q + wgt ks
    rcases List.mem_cons.1 h with rfl | h
    · omega
    · have := ih h; omega
theorem Agr.mul {n : Nat} {a a' b b' : List Int} (h : Agr n a a') (g : Agr n b b') : Agr n (cvZ a b) (cvZ a' b') := by
  intro p hp hs
  rw [cvZ_cv _ _ hp, cvZ_cv _ _ hp]
  have h1 := eb3
  rw [List.all_eq_true] at h1
  have h2 := h1 p (List.mem_range.2 hp)
  rw [List.all_eq_true] at h2
  refine sumF_modc fun c hc => ?_
  have h3 := Nat.eq_of_beq_eq_true (h2 c hc)
  have h4 := pc_at hp hc
  refine cvT_mod (fun k hk => h k (by have := h4.1 k hk; omega) ?_) (g _ (by have := h4.2; omega) (by omega))
  have := wgt_le hk
  omega
theorem Agr.sc {n : Nat} {a b : List Int} (h : Agr n a b) (k : Int) : Agr n (scZ a k) (scZ b k) := by
  intro p hp hs
  rw [scZ_gz _ _ hp, scZ_gz _ _ hp]
  unfold scV
  exact mulm (h p hp hs) rfl
theorem Agr.inv {n : Nat} {a b : List Int} (ha : Chr a) (hb : Chr b) (h : Agr n a b) : Agr n (iv a) (iv b) := by
  have e1 : cvZ (iv a) (cvZ b (iv b)) = iv a := by rw [iv_right hb, cvZ_unR (chr_iv a)]
  have e2 : cvZ (cvZ (iv a) a) (iv b) = iv b := by rw [iv_left ha, cvZ_unL (chr_iv b).num (chr_iv b).len]
  have e3 : cvZ (cvZ (iv a) b) (iv b) = cvZ (iv a) (cvZ b (iv b)) := cvZ_assoc hb.one (chr_iv b).num
  have h1 : Agr n (cvZ (cvZ (iv a) b) (iv b)) (cvZ (cvZ (iv a) a) (iv b)) := ((Agr.refl n _).mul h.symm).mul (Agr.refl n _)
  rw [e3, e1, e2] at h1
  exact h1
theorem Agr.adj {n : Nat} {a b : List Int} (ha : Chr a) (hb : Chr b) (h : Agr n a b) : Agr n (adjL a) (adjL b) := Agr.inv (chr_scZ ha _) (chr_scZ hb _) (h.sc _)
/-! ### orders -/
theorem ord_ge {a : List Int} (ha : Chr a) {n : Nat} (hn : n ≤ 6) (h : Agr n a EX) : (n : Int) ≤ agZ a EX := by
  rcases (ag_spec a).2 with ⟨h6, -⟩ | ⟨p, hp, he, hne⟩
  · omega
  · by_cases hs : szT p ≤ n
    · refine absurd ?_ hne
      have h1 := h p hp hs
      have h2 := ha.num
      have h3 := chr_EX.num
      have b1 : 0 ≤ a.getD p 0 ∧ a.getD p 0 ≤ 10006 := by
        rw [List.getD_eq_getElem?_getD, List.getElem?_eq_getElem (by rw [ha.len]; exact hp)]
        exact h2 _ (List.getElem_mem _)
      have b2 : 0 ≤ EX.getD p 0 ∧ EX.getD p 0 ≤ 10006 := by
        rw [List.getD_eq_getElem?_getD, List.getElem?_eq_getElem (by rw [EX_len]; exact hp)]
        exact h3 _ (List.getElem_mem _)
      unfold gz at h1
      generalize a.getD p 0 = x at h1 b1 ⊢
      generalize EX.getD p 0 = y at h1 b2 ⊢
      omega
    · omega
theorem ord_agr {a : List Int} {n : Nat} (h : (n : Int) ≤ agZ a EX) : Agr n a EX := by
  intro p hp hs
  have := (ag_spec a).1 p hp (by omega)
  unfold gz
  rw [this]
/-- adjoints have the same order -/
theorem ord_adj {a : List Int} (ha : Chr a) : agZ (adjL a) EX = agZ a EX := by
  have key : ∀ {x : List Int}, Chr x → agZ x EX ≤ agZ (adjL x) EX := by
    intro x hx
    have b := agZ_bd x EX
    have b0 := agZ_nonneg (a := x) (b := EX) (by rw [hx.one]; rfl)
    obtain ⟨n, hn⟩ : ∃ n : Nat, agZ x EX = (n : Int) := ⟨(agZ x EX).toNat, by omega⟩
    rw [hn]
    refine ord_ge (chr_adjL x) (by omega) ?_
    have h1 := Agr.adj hx chr_EX (ord_agr (a := x) (n := n) (by omega))
    rw [adj_EX] at h1
    exact h1
  have h1 := key ha
  have h2 := key (chr_adjL a)
  rw [adjL_twice ha] at h2
  omega
end Go.Proofs.YtdjhfeaimmpmhaaGreat

set_option linter.unusedVariables false
set_option linter.unusedSimpArgs false
namespace Go.Proofs.YtdjhfeaimmpmhaaGreat
open Go.RowKit

/-- the first j places of a + k b -/
def addTo (k : Int) (a b : List Int) (j : Nat) : List Int := (List.range j).map fun i => (a.getD i 0 + k * b.getD i 0) % 10007
def addk (k : Int) (a b : List Int) : List Int := addTo k a b a.length
theorem addTo_len (k : Int) (a b : List Int) (j : Nat) : (addTo k a b j).length = j := by simp [addTo]
theorem addTo_succ {k : Int} {a b : List Int} {j : Nat} {x y : Int} (hx : a[j]? = some x) (hy : b[j]? = some y) : addTo k a b (j + 1) = addTo k a b j ++ [(x + k * y) % 10007] := by
  simp [addTo, List.range_succ, List.getD, hx, hy]
theorem addTo_nums (k : Int) (a b : List Int) (j : Nat) : Nums (addTo k a b j) := by
  intro z hz
  obtain ⟨i, _, rfl⟩ := List.mem_map.1 hz
  omega
theorem nums_in {zs : List Int} (h : Nums zs) : ∀ z ∈ zs, In64 z := by
  intro z hz
  have := h z hz
  unfold In64
  omega

set_option maxRecDepth 100000 in
set_option maxHeartbeats 1000000 in
theorem i_plus (w : World) (v v' : Value) (a b : List Int) (k : Int) (ha : Ints w v a) (hb : Ints w v' b) (hA : Nums a) (hB : Nums b) (hl : a.length ≤ b.length) (hn : a.length ≤ 4294967296) (h0 : -4000000000000000000 ≤ k) (h1 : k ≤ 4000000000000000000) :
    Calls Tryz.prog 97 #[v, v', .int .i64 k] w fun e w' => ∃ r, e = .returned r ∧ OwnInts w' w.heap.size tI r (addk (k % 10007) a b) ∧ Below w.heap.size w w' := by
  obtain ⟨A, c, rfl, l1, l2, h3⟩ := ha.open_
  obtain ⟨A', c', rfl, l1', l2', h3'⟩ := hb.open_
  have H3 := Lib.hid h3
  have G3 := Lib.hid h3'
  have HN := Lib.hid hA
  have HM := Lib.hid hB
  clear ha hb h3 h3' hA hB
  have OL := Lib.hid (own_lit w tI [] (by simp [maxLen]))
  go_enter Tryz.func97, Tryz.ntmps97
  go_wp2_with fail
  go_loopw [7, 13] (fun o i wr => ∃ j : Nat, j ≤ a.length ∧ i = .int .i64 j ∧ Own wr w.heap.size tI o (ints (addTo (k % 10007) a b j)) ∧ Below w.heap.size w wr) (fun _ i _ => a.length - (intOf i).toNat)
  case atStart => exact ⟨0, Nat.zero_le _, rfl, by simpa [addTo, ints] using OL.out, (Below.refl _ _).alloc (Nat.le_refl _) _⟩
  case round =>
    obtain ⟨j, hj, rfl, hown, hb⟩ := hrel
    clear OL
    have HO := Lib.hid hown
    have HB := Lib.hid hb
    clear hown hb
    by_cases hlt : j < a.length
    · obtain ⟨ad, x, rfl, hx, -, hcx⟩ := H3.out j hlt
      obtain ⟨ad', y, rfl, hy, -, hcy⟩ := G3.out j (by omega)
      have hc : wr.cell? (ad.add j) = some (.int .i64 x) := by
        rw [HB.out.cell (by rw [block_add]; have := World.block_lt_of_cell? w _ hcx; rwa [block_add] at this)]; exact hcx
      have hc' : wr.cell? (ad'.add j) = some (.int .i64 y) := by
        rw [HB.out.cell (by rw [block_add]; have := World.block_lt_of_cell? w _ hcy; rwa [block_add] at this)]; exact hcy
      have hxn := HN.out x (List.mem_of_getElem? hx)
      have hyn := HM.out y (List.mem_of_getElem? hy)
      have HS := Lib.hid (addTo_succ (k := k % 10007) hx hy)
      have hm0 : 0 ≤ k % 10007 ∧ k % 10007 ≤ 10006 := by omega
      obtain ⟨p1, p2⟩ := mul_bd 10006 10006 hm0.1 hm0.2 hyn.1 hyn.2
      have hjb : (j : Int) < (b.length : Int) := by omega
      have hjb' : j < b.length := by omega
      clear hx hy hcx hcy
      go_wp2_with fail
      have wA : IntKind.i64.wrap (k % 10007 * y) = k % 10007 * y := IntWalk.i64_in _ (by omega)
      have wB : IntKind.i64.wrap (x + k % 10007 * y) = x + k % 10007 * y := IntWalk.i64_in _ (by omega)
      go_region_law (first | (refine step_app1 T_int (B := w.heap.size) (W := wr.drew) (by exact HO.out) (by rw [ints_len, addTo_len]; omega) (by exact HB.out.size) (by rfl) rfl (by rfl) (by rfl) (by rfl) ?_; intro v1 w1 hown1 hgr1) | (go_simp; go_at_call 60; refine (i_num _ _ (by omega) (by omega)).mono ?_; rintro e w' ⟨rfl, rfl⟩))
      all_goals
        go_wp2_with fail
        go_roundw
        case rel =>
          refine ⟨j + 1, by omega, by go_num, ?_, hgr1.below HB.out.drew HB.out.size HO.out.ge⟩
          rw [HS.out]
          simpa [ints] using hown1
        case measure => simp [intOf]; omega
    · have : j = a.length := by omega
      subst this
      go_wp2_with fail
      go_ret
      exact ⟨_, rfl, ⟨HO.out, nums_in (addTo_nums _ _ _ _)⟩, HB.out⟩
end Go.Proofs.YtdjhfeaimmpmhaaGreat

