/- Plain: the weights of composed, inverse, scaled, turned and symplectic tableaus; kernel checks. No walk. | Plain: characters of tableaus as lists. No walk. | Plain: brackets of Hamiltonian maps; the reduced order of characters and their order. No walk. | Plain: exact maps in steps; agreement up to a number of nodes under products, inverses, scalings, adjoints; orders. No walk. | Walks: plus of the program, l02Add of the reference. | Plain: tableaus as lists of rows: scaled, inverse, composed, adjoint ones and their characters; adjoining and inverting twice, adjoints of compositions. No walk. | Plain: repeated tableaus: the order is kept at least, once is the tableau. For lists. No walk. | append(s, make([]int64, k)...) at an owned list. No program in sight but for the types. -/
import Derived.Test.YtofabikjjkapmaaGreatSt14
import Derived.Test.YtofabikjjkapmaaGreatSt18
import Derived.Test.YtofabikjjkapmaaGreatSt4
import Derived.Test.YtofabikjjkapmaaGreatRows
import Derived.Test.YtofabikjjkapmaaGreatSt2
import Derived.Test.YtofabikjjkapmaaGreatSt3
import Derived.Lib.AppendZerosOnto
set_option maxRecDepth 100000
set_option linter.unusedVariables false
set_option linter.unusedSimpArgs false
namespace Go.Proofs.YtofabikjjkapmaaGreat
open Go.RowKit

/-! ### more on sums over stages -/
theorem sR_split (s t : Nat) (f : Nat → Int) : sR (s + t) f = sR s f + sR t (fun k => f (s + k)) := by
  induction t with
  | zero => show sR s f = sR s f + 0; rw [Int.add_zero]
  | succ t ih => rw [show s + (t + 1) = (s + t) + 1 from rfl, sR_succ, sR_succ, ih, Int.add_assoc]
theorem sR_first (s : Nat) (f : Nat → Int) : sR (s + 1) f = f 0 + sR s (fun k => f (k + 1)) := by
  rw [Nat.add_comm s 1, sR_split]
  congr 1
  · show sR (0 + 1) f = f 0; rw [sR_succ, sR_zero, Int.zero_add]
  · exact sR_congr fun k _ => by rw [Nat.add_comm 1 k]
theorem sR_turn : ∀ (s : Nat) (f : Nat → Int), sR s (fun i => f (s - 1 - i)) = sR s f
  | 0, f => rfl
  | s + 1, f => by
    rw [sR_first s, sR_succ s f, ← sR_turn s f, Int.add_comm]
    have e : sR s (fun k => f (s + 1 - 1 - (k + 1))) = sR s (fun i => f (s - 1 - i)) := sR_congr fun k hk => by rw [show s + 1 - 1 - (k + 1) = s - 1 - k by omega]
    rw [e]; rfl
theorem sR_swap2 (s t : Nat) (f : Nat → Nat → Int) : sR s (fun i => sR t (fun k => f i k)) = sR t (fun k => sR s (fun i => f i k)) := by
  induction s with
  | zero => exact (sumR0 t).symm
  | succ s ih =>
    rw [sR_succ, ih, ← sR_add]
    exact sR_congr fun k _ => by rw [sR_succ]
theorem sR_mod {s : Nat} {f g : Nat → Int} (h : ∀ i, i < s → f i % 10007 = g i % 10007) : sR s f % 10007 = sR s g % 10007 := sumF_modc fun i hi => h i (List.mem_range.1 hi)
/-! ### equal numbers, equal weights -/
theorem szT_pos1 {p : Nat} (h0 : 0 < p) (hp : p < 38) (hn : szT p ≤ 0) : False := by
  have := szN_pos (i := p - 1) (by omega)
  rw [show p - 1 + 1 = p by omega, ← szT_is hp] at this
  omega
theorem mulm {a b c d : Int} (h : a % 10007 = c % 10007) (g : b % 10007 = d % 10007) : a * b % 10007 = c * d % 10007 := by rw [Int.mul_emod, h, g, ← Int.mul_emod]
theorem addm {a b c d : Int} (h : a % 10007 = c % 10007) (g : b % 10007 = d % 10007) : (a + b) % 10007 = (c + d) % 10007 := by omega
theorem wt_mod {s : Nat} {A A' : Nat → Nat → Int} (phi : Nat → Int) (h : ∀ i k, i < s → k < s → A i k % 10007 = A' i k % 10007) : ∀ (n i p : Nat), i < s → 0 < p → p < 38 → szT p ≤ n → wt s A phi i p % 10007 = wt s A' phi i p % 10007
  | 0, i, p, hi, h0, hp, hn => (szT_pos1 h0 hp hn).elim
  | n + 1, i, p, hi, h0, hp, hn => by
    rw [wt_is s A phi i hp, wt_is s A' phi i hp]
    refine pz_mod fun q hq => ?_
    obtain ⟨q0, q1, q2⟩ := bt_at hp hq
    exact addm rfl (sR_mod fun k hk => mulm (h i k hi hk) (wt_mod phi h n k q hk q0 q1 (by omega)))
theorem wgt_mod {s : Nat} {A A' : Nat → Nat → Int} {b b' : Nat → Int} (h : ∀ i k, i < s → k < s → A i k % 10007 = A' i k % 10007) (g : ∀ i, i < s → b i % 10007 = b' i % 10007) {p : Nat} (hp : p < 38) : wgtT s A b p % 10007 = wgtT s A' b' p % 10007 := by
  unfold wgtT
  by_cases h0 : p = 0
  · rw [if_pos h0, if_pos h0]
  · rw [if_neg h0, if_neg h0]
    exact sR_mod fun i hi => mulm (g i hi) (wt_mod zeroV h (szT p) i p hi (by omega) hp (Nat.le_refl _))
/-! ### composed tableaus -/
def cA (s : Nat) (A A' : Nat → Nat → Int) (b : Nat → Int) (i k : Nat) : Int := if i < s then (if k < s then A i k else 0) else (if k < s then b k else A' (i - s) (k - s))
def cB (s : Nat) (b b' : Nat → Int) (i : Nat) : Int := if i < s then b i else b' (i - s)
theorem comp_lo (s t : Nat) (A A' : Nat → Nat → Int) (b : Nat → Int) : ∀ (n i p : Nat), i < s → 0 < p → p < 38 → szT p ≤ n → wt (s + t) (cA s A A' b) zeroV i p = wt s A zeroV i p
  | 0, i, p, hi, h0, hp, hn => (szT_pos1 h0 hp hn).elim
  | n + 1, i, p, hi, h0, hp, hn => by
    rw [wt_is _ _ _ i hp, wt_is _ _ _ i hp]
    refine pz_congr fun q hq => ?_
    obtain ⟨q0, q1, q2⟩ := bt_at hp hq
    congr 1
    rw [sR_split]
    have e1 : sR t (fun k => cA s A A' b i (s + k) * wt (s + t) (cA s A A' b) zeroV (s + k) q) = sR t (fun _ => 0) := sR_congr fun k _ => by
      unfold cA
      rw [if_pos hi, if_neg (by omega), Int.zero_mul]
    rw [e1, sumR0, Int.add_zero]
    refine sR_congr fun k hk => ?_
    rw [comp_lo s t A A' b n k q hk q0 q1 (by omega)]
    have : cA s A A' b i k = A i k := by unfold cA; rw [if_pos hi, if_pos hk]
    rw [this]
theorem wgt_pos (s : Nat) (A : Nat → Nat → Int) (b : Nat → Int) {p : Nat} (h0 : 0 < p) : wgtT s A b p = sR s (fun i => b i * wt s A zeroV i p) := if_neg (by omega)
theorem comp_hi (s t : Nat) (A A' : Nat → Nat → Int) (b : Nat → Int) : ∀ (n i p : Nat), 0 < p → p < 38 → szT p ≤ n → wt (s + t) (cA s A A' b) zeroV (s + i) p = wt t A' (wgtT s A b) i p
  | 0, i, p, h0, hp, hn => (szT_pos1 h0 hp hn).elim
  | n + 1, i, p, h0, hp, hn => by
    rw [wt_is _ _ _ _ hp, wt_is _ _ _ i hp]
    refine pz_congr fun q hq => ?_
    obtain ⟨q0, q1, q2⟩ := bt_at hp hq
    rw [sR_split, wgt_pos s A b q0]
    show 0 + _ = _
    rw [Int.zero_add]
    congr 1
    · refine sR_congr fun k hk => ?_
      rw [comp_lo s t A A' b n k q hk q0 q1 (by omega)]
      have : cA s A A' b (s + i) k = b k := by unfold cA; rw [if_neg (by omega), if_pos hk]
      rw [this]
    · refine sR_congr fun k hk => ?_
      rw [comp_hi s t A A' b n k q q0 q1 (by omega)]
      have : cA s A A' b (s + i) (s + k) = A' i k := by unfold cA; rw [if_neg (by omega), if_neg (by omega), Nat.add_sub_cancel_left, Nat.add_sub_cancel_left]
      rw [this]
theorem wgt_zero (s : Nat) (A : Nat → Nat → Int) (b : Nat → Int) : wgtT s A b 0 = 1 := if_pos rfl
/-- what values that come in and a tableau behind them give -/
theorem cv_tab (phi : Nat → Int) (t : Nat) (A' : Nat → Nat → Int) (b' : Nat → Int) {p : Nat} (h0 : 0 < p) (hp : p < 38) : cv phi (wgtT t A' b') p = phi p + sR t (fun i => b' i * wt t A' phi i p) := by
  rw [cv_split phi (wgtT t A' b') (if_pos rfl) h0 hp]
  congr 1
  have e : sR t (fun i => b' i * wt t A' phi i p) = sR t (fun i => sumF (fun c => b' i * ruT phi (uV t A' i) c) (CP p)) := sR_congr fun i _ => by
    rw [wt_comp t A' phi (szT p) i p h0 hp (Nat.le_refl _), sumF_mul]
  rw [e, sR_swap t (fun _ _ => 0) (CP p) (fun i c => b' i * ruT phi (uV t A' i) c)]
  refine sumF_congr fun c hc => ?_
  have hpc := pc_at hp hc
  unfold ruT
  by_cases h : c.1.2 = 0
  · rw [if_pos h]
    have : sR t (fun i => b' i * (if c.1.2 = 0 then 0 else (c.2 : Int) * (pz phi c.1.1 * pz (uV t A' i) (bt c.1.2)))) = sR t (fun _ => 0) := sR_congr fun k _ => by rw [if_pos h, Int.mul_zero]
    rw [this]
    exact (sumR0 t).symm
  · rw [if_neg h, wgt_pos t A' b' (by omega), ← Int.mul_assoc, sR_mul]
    refine sR_congr fun k _ => ?_
    rw [if_neg h, wt_zero t A' k (show c.1.2 < 38 by have := hpc.2; omega)]
    simp only [Int.mul_assoc, Int.mul_left_comm, Int.mul_comm]
/-- the character of a composition -/
theorem wgt_comp (s t : Nat) (A A' : Nat → Nat → Int) (b b' : Nat → Int) {p : Nat} (hp : p < 38) : wgtT (s + t) (cA s A A' b) (cB s b b') p = cv (wgtT s A b) (wgtT t A' b') p := by
  by_cases h0 : p = 0
  · subst h0
    have : cv (wgtT s A b) (wgtT t A' b') 0 = 1 := by
      show sumF (cvT _ _) (CP 0) = 1
      rw [show CP 0 = [(([], 0), 1)] from rfl]
      simp only [sumF]
      unfold cvT
      rw [pz_nil]
      show (1 : Int) * (1 * wgtT t A' b' 0) + 0 = 1
      rw [show wgtT t A' b' 0 = 1 from if_pos rfl]
      rfl
    rw [this]
    exact if_pos rfl
  · rw [cv_tab _ t A' b' (by omega) hp, wgt_pos _ _ _ (show 0 < p by omega), sR_split, wgt_pos s A b (show 0 < p by omega)]
    congr 1
    · refine sR_congr fun k hk => ?_
      rw [comp_lo s t A A' b (szT p) k p hk (by omega) hp (Nat.le_refl _)]
      have : cB s b b' k = b k := if_pos hk
      rw [this]
    · refine sR_congr fun k hk => ?_
      rw [comp_hi s t A A' b (szT p) k p (by omega) hp (Nat.le_refl _)]
      have : cB s b b' (s + k) = b' k := by unfold cB; rw [if_neg (by omega), Nat.add_sub_cancel_left]
      rw [this]
/-! ### inverses -/
def iA (A : Nat → Nat → Int) (b : Nat → Int) (i k : Nat) : Int := A i k - b k
theorem inv_wt (s : Nat) (A : Nat → Nat → Int) (b : Nat → Int) : ∀ (n i p : Nat), 0 < p → p < 38 → szT p ≤ n → wt s (iA A b) (wgtT s A b) i p = wt s A zeroV i p
  | 0, i, p, h0, hp, hn => (szT_pos1 h0 hp hn).elim
  | n + 1, i, p, h0, hp, hn => by
    rw [wt_is _ _ _ i hp, wt_is _ _ _ i hp]
    refine pz_congr fun q hq => ?_
    obtain ⟨q0, q1, q2⟩ := bt_at hp hq
    rw [wgt_pos s A b q0]
    show _ = 0 + _
    rw [← sR_add, Int.zero_add]
    refine sR_congr fun k hk => ?_
    rw [inv_wt s A b n k q q0 q1 (by omega)]
    unfold iA
    rw [Int.sub_mul]
    generalize b k * _ = u
    generalize A i k * _ = v
    omega
theorem wgt_inv (s : Nat) (A : Nat → Nat → Int) (b : Nat → Int) {p : Nat} (hp : p < 38) : cv (wgtT s A b) (wgtT s (iA A b) (fun i => - b i)) p = un p := by
  by_cases h0 : p = 0
  · subst h0
    rw [← wgt_comp s s A (iA A b) b (fun i => - b i) hp, wgt_zero]
    rfl
  · rw [cv_tab _ s _ _ (by omega) hp, wgt_pos s A b (show 0 < p by omega), ← sR_add]
    have : un p = 0 := if_neg h0
    rw [this, ← sumR0 s]
    refine sR_congr fun k hk => ?_
    rw [inv_wt s A b (szT p) k p (by omega) hp (Nat.le_refl _), Int.neg_mul]
    generalize b k * _ = u
    omega
/-! ### scaled tableaus -/
theorem tb3 : (List.range 38).all (fun p => Nat.beq p 0 || Nat.beq (wgt (bt p) + 1) (szT p)) = true := by decide +kernel
theorem wgt_bt {p : Nat} (h0 : 0 < p) (hp : p < 38) : wgt (bt p) + 1 = szT p := by
  have h1 := tb3
  rw [List.all_eq_true] at h1
  have h2 := h1 p (List.mem_range.2 hp)
  rw [Bool.or_eq_true] at h2
  rcases h2 with h2 | h2
  · have := Nat.eq_of_beq_eq_true h2; omega
  · exact Nat.eq_of_beq_eq_true h2
theorem sc_wt (s : Nat) (A : Nat → Nat → Int) (c : Int) : ∀ (n i p : Nat), 0 < p → p < 38 → szT p ≤ n → c * wt s (fun i k => A i k * c) zeroV i p = wt s A zeroV i p * c ^ szT p
  | 0, i, p, h0, hp, hn => (szT_pos1 h0 hp hn).elim
  | n + 1, i, p, h0, hp, hn => by
    rw [wt_is _ _ _ i hp, wt_is _ _ _ i hp, ← wgt_bt h0 hp, Int.pow_succ, ← Int.mul_assoc, Int.mul_comm]
    congr 1
    rw [← pz_scV c (fun q => zeroV q + sR s (fun k => A i k * wt s A zeroV k q))]
    refine pz_congr fun q hq => ?_
    obtain ⟨q0, q1, q2⟩ := bt_at hp hq
    unfold scV
    show 0 + _ = (0 + _) * _
    rw [Int.zero_add, Int.zero_add, Int.mul_comm _ (c ^ szT q), sR_mul]
    refine sR_congr fun k hk => ?_
    rw [Int.mul_assoc, sc_wt s A c n k q q0 q1 (by omega)]
    simp only [Int.mul_assoc, Int.mul_left_comm, Int.mul_comm]
theorem wgt_scale (s : Nat) (A : Nat → Nat → Int) (b : Nat → Int) (c : Int) {p : Nat} (hp : p < 38) : wgtT s (fun i k => A i k * c) (fun i => b i * c) p = scV c (wgtT s A b) p := by
  by_cases h0 : p = 0
  · subst h0
    unfold scV
    rw [wgt_zero, wgt_zero]
    show (1 : Int) = 1 * c ^ 0
    rw [Int.pow_zero]
    rfl
  · unfold scV
    rw [wgt_pos _ _ _ (show 0 < p by omega), wgt_pos _ _ _ (show 0 < p by omega), Int.mul_comm, sR_mul]
    refine sR_congr fun k hk => ?_
    rw [Int.mul_assoc, sc_wt s A c (szT p) k p (by omega) hp (Nat.le_refl _)]
    simp only [Int.mul_assoc, Int.mul_left_comm, Int.mul_comm]
/-! ### stages the other way round -/
theorem turn_wt (s : Nat) (A : Nat → Nat → Int) : ∀ (n i p : Nat), i < s → 0 < p → p < 38 → szT p ≤ n → wt s (fun i k => A (s - 1 - i) (s - 1 - k)) zeroV i p = wt s A zeroV (s - 1 - i) p
  | 0, i, p, hi, h0, hp, hn => (szT_pos1 h0 hp hn).elim
  | n + 1, i, p, hi, h0, hp, hn => by
    rw [wt_is _ _ _ i hp, wt_is _ _ _ _ hp]
    refine pz_congr fun q hq => ?_
    obtain ⟨q0, q1, q2⟩ := bt_at hp hq
    congr 1
    rw [← sR_turn s (fun k => A (s - 1 - i) k * wt s A zeroV k q)]
    refine sR_congr fun k hk => ?_
    rw [turn_wt s A n k q hk q0 q1 (by omega)]
theorem wgt_turn (s : Nat) (A : Nat → Nat → Int) (b : Nat → Int) {p : Nat} (hp : p < 38) : wgtT s (fun i k => A (s - 1 - i) (s - 1 - k)) (fun i => b (s - 1 - i)) p = wgtT s A b p := by
  by_cases h0 : p = 0
  · rw [h0, wgt_zero, wgt_zero]
  · rw [wgt_pos _ _ _ (show 0 < p by omega), wgt_pos _ _ _ (show 0 < p by omega), ← sR_turn s (fun i => b i * wt s A zeroV i p)]
    refine sR_congr fun k hk => ?_
    rw [turn_wt s A (szT p) k p hk (by omega) hp (Nat.le_refl _)]
/-! ### symplectic tableaus -/
theorem tb4 : (List.range 37).all (fun i => (List.range 37).all fun k => bif Nat.ble (szT (i + 1) + szT (k + 1)) 6 then Nat.beq (cmpN (srtZ (bt (gP i k))) (srtZ ((k + 1) :: bt (i + 1)))) 0 else true) = true := by decide +kernel
theorem gP_wt (s : Nat) (A : Nat → Nat → Int) {i k : Nat} (hi : i < 37) (hk : k < 37) (hs : szT (i + 1) + szT (k + 1) ≤ 6) (j : Nat) : wt s A zeroV j (gP i k) = wt s A zeroV j (i + 1) * sR s (fun l => A j l * wt s A zeroV l (k + 1)) := by
  have h1 := tb4
  rw [List.all_eq_true] at h1
  have h2 := h1 i (List.mem_range.2 hi)
  rw [List.all_eq_true] at h2
  have h3 := h2 k (List.mem_range.2 hk)
  rw [Nat.ble_eq_true_of_le hs, cond_true] at h3
  have h4 := cmpN_zero (Nat.eq_of_beq_eq_true h3)
  have g1 := gP_bd hi hk hs
  rw [wt_zero s A j g1.2, wt_zero s A j (show i + 1 < 38 by omega), ← srtZ_pz, h4, srtZ_pz, pz_cons, Int.mul_comm]
  congr 1
theorem sym_sum (s : Nat) (A : Nat → Nat → Int) (b x y : Nat → Int) (h : ∀ i k, i < s → k < s → (b i * A i k + b k * A k i - b i * b k) % 10007 = 0) :
    (sR s (fun i => b i * (x i * sR s (fun k => A i k * y k))) + sR s (fun i => b i * (y i * sR s (fun k => A i k * x k)))) % 10007 = sR s (fun i => b i * x i) * sR s (fun k => b k * y k) % 10007 := by
  have e1 : sR s (fun i => b i * (x i * sR s (fun k => A i k * y k))) = sR s (fun i => sR s (fun k => b i * A i k * (x i * y k))) := sR_congr fun i _ => by
    rw [← Int.mul_assoc, sR_mul]
    refine sR_congr fun k _ => ?_
    simp only [Int.mul_assoc, Int.mul_left_comm, Int.mul_comm]
  have e2 : sR s (fun i => b i * (y i * sR s (fun k => A i k * x k))) = sR s (fun k => sR s (fun i => b i * A i k * (x k * y i))) := by
    rw [← sR_swap2]
    refine sR_congr fun i _ => ?_
    rw [← Int.mul_assoc, sR_mul]
    refine sR_congr fun k _ => ?_
    simp only [Int.mul_assoc, Int.mul_left_comm, Int.mul_comm]
  have e3 : sR s (fun i => b i * x i) * sR s (fun k => b k * y k) = sR s (fun i => sR s (fun k => b i * b k * (x i * y k))) := by
    rw [Int.mul_comm, sR_mul]
    refine sR_congr fun i _ => ?_
    rw [Int.mul_comm, sR_mul]
    refine sR_congr fun k _ => ?_
    simp only [Int.mul_assoc, Int.mul_left_comm, Int.mul_comm]
  rw [e1, e2, e3, ← sR_add]
  refine sR_mod fun i hi => ?_
  rw [← sR_add]
  refine sR_mod fun k hk => ?_
  have hk := h i k hi hk
  rw [← Int.add_mul]
  refine mulm ?_ rfl
  generalize b i * A i k = u at hk ⊢
  generalize b k * A k i = v at hk ⊢
  generalize b i * b k = w at hk ⊢
  omega
theorem wgt_sym (s : Nat) (A : Nat → Nat → Int) (b : Nat → Int) (h : ∀ i k, i < s → k < s → (b i * A i k + b k * A k i - b i * b k) % 10007 = 0) {i k : Nat} (hi : i < 37) (hk : k < 37) (hs : szT (i + 1) + szT (k + 1) ≤ 6) :
    (wgtT s A b (gP i k) + wgtT s A b (gP k i)) % 10007 = wgtT s A b (i + 1) * wgtT s A b (k + 1) % 10007 := by
  have g1 := gP_bd hi hk hs
  have g2 := gP_bd hk hi (by omega)
  rw [wgt_pos _ _ _ g1.1, wgt_pos _ _ _ g2.1, wgt_pos _ _ _ (Nat.succ_pos i), wgt_pos _ _ _ (Nat.succ_pos k)]
  rw [← sym_sum s A b (fun j => wt s A zeroV j (i + 1)) (fun j => wt s A zeroV j (k + 1)) h]
  have e1 : sR s (fun j => b j * wt s A zeroV j (gP i k)) = sR s (fun j => b j * (wt s A zeroV j (i + 1) * sR s (fun l => A j l * wt s A zeroV l (k + 1)))) := sR_congr fun j _ => by rw [gP_wt s A hi hk hs j]
  have e2 : sR s (fun j => b j * wt s A zeroV j (gP k i)) = sR s (fun j => b j * (wt s A zeroV j (k + 1) * sR s (fun l => A j l * wt s A zeroV l (i + 1)))) := sR_congr fun j _ => by rw [gP_wt s A hk hi (by omega) j]
  rw [e1, e2]
/-- a composition of two symplectic tableaus -/
theorem sym_comp (s t : Nat) (A A' : Nat → Nat → Int) (b b' : Nat → Int) (h : ∀ i k, i < s → k < s → (b i * A i k + b k * A k i - b i * b k) % 10007 = 0) (g : ∀ i k, i < t → k < t → (b' i * A' i k + b' k * A' k i - b' i * b' k) % 10007 = 0) :
    ∀ i k, i < s + t → k < s + t → (cB s b b' i * cA s A A' b i k + cB s b b' k * cA s A A' b k i - cB s b b' i * cB s b b' k) % 10007 = 0 := by
  intro i k hi hk
  unfold cA cB
  by_cases h1 : i < s
  · by_cases h2 : k < s
    · simp only [if_pos h1, if_pos h2]
      exact h i k h1 h2
    · simp only [if_pos h1, if_neg h2]
      rw [Int.mul_zero, Int.mul_comm (b' (k - s)) (b i), Int.zero_add, Int.sub_self]
      rfl
  · by_cases h2 : k < s
    · simp only [if_neg h1, if_pos h2]
      rw [Int.mul_zero, Int.add_zero, Int.sub_self]
      rfl
    · simp only [if_neg h1, if_neg h2]
      exact g (i - s) (k - s) (by omega) (by omega)
end Go.Proofs.YtofabikjjkapmaaGreat

set_option maxRecDepth 100000
set_option linter.unusedVariables false
set_option linter.unusedSimpArgs false
namespace Go.Proofs.YtofabikjjkapmaaGreat
open Go.RowKit

def chF (s : Nat) (A : Nat → Nat → Int) (b : Nat → Int) : List Int := (List.range 38).map fun p => wgtT s A b p % 10007
theorem chF_len (s : Nat) (A : Nat → Nat → Int) (b : Nat → Int) : (chF s A b).length = 38 := by unfold chF; rw [List.length_map, List.length_range]
theorem chF_at (s : Nat) (A : Nat → Nat → Int) (b : Nat → Int) {p : Nat} (hp : p < 38) : gz (chF s A b) p = wgtT s A b p % 10007 := by
  unfold gz chF
  rw [List.getD_eq_getElem?_getD, List.getElem?_map, List.getElem?_range hp]
  rfl
theorem chF_gz (s : Nat) (A : Nat → Nat → Int) (b : Nat → Int) {p : Nat} (hp : p < 38) : gz (chF s A b) p % 10007 = wgtT s A b p % 10007 := by
  rw [chF_at s A b hp, Int.emod_emod_of_dvd _ (Int.dvd_refl _)]
theorem chF_nums (s : Nat) (A : Nat → Nat → Int) (b : Nat → Int) : Nums (chF s A b) := by
  intro z hz
  obtain ⟨p, -, rfl⟩ := List.mem_map.1 hz
  generalize wgtT s A b p = u
  omega
theorem chr_chF (s : Nat) (A : Nat → Nat → Int) (b : Nat → Int) : Chr (chF s A b) := ⟨chF_len s A b, chF_nums s A b, by
  show gz (chF s A b) 0 = 1
  rw [chF_at s A b (by omega), wgt_zero]
  rfl⟩
theorem chF_mod {s : Nat} {A A' : Nat → Nat → Int} {b b' : Nat → Int} (h : ∀ i k, i < s → k < s → A i k % 10007 = A' i k % 10007) (g : ∀ i, i < s → b i % 10007 = b' i % 10007) : chF s A b = chF s A' b' := by
  refine nums_ext (chF_nums _ _ _) (chF_nums _ _ _) (chF_len _ _ _) (chF_len _ _ _) fun p hp => ?_
  rw [chF_gz s A b hp, chF_gz s A' b' hp]
  exact wgt_mod h g hp
theorem chF_inv (s : Nat) (A : Nat → Nat → Int) (b : Nat → Int) : chF s (iA A b) (fun i => - b i) = iv (chF s A b) := by
  have e : cvZ (chF s A b) (chF s (iA A b) (fun i => - b i)) = unM := by
    refine nums_ext (cvZ_nums (chF_nums _ _ _)) unM_nums (cvZ_len _ _) unM_len fun p hp => ?_
    rw [cvZ_cv _ _ hp, unM_gz hp, cv_mod hp (fun k hk => chF_gz s A b (by omega)) (fun k hk => chF_gz s (iA A b) (fun i => - b i) (by omega)), wgt_inv s A b hp]
  have e2 := iv_unique (chr_chF s A b) (chr_chF s (iA A b) (fun i => - b i)) e
  rw [e2, iv_iv (chr_chF s (iA A b) (fun i => - b i))]
theorem chF_scale (s : Nat) (A : Nat → Nat → Int) (b : Nat → Int) (c : Int) : chF s (fun i k => A i k * c) (fun i => b i * c) = scZ (chF s A b) c := by
  refine nums_ext (chF_nums _ _ _) (scZ_nums _ _) (chF_len _ _ _) (scZ_len _ _) fun p hp => ?_
  rw [chF_gz _ _ _ hp, scZ_gz _ _ hp, wgt_scale s A b c hp]
  unfold scV
  exact mulm (chF_gz s A b hp).symm rfl
theorem chF_turn (s : Nat) (A : Nat → Nat → Int) (b : Nat → Int) : chF s (fun i k => A (s - 1 - i) (s - 1 - k)) (fun i => b (s - 1 - i)) = chF s A b := by
  refine nums_ext (chF_nums _ _ _) (chF_nums _ _ _) (chF_len _ _ _) (chF_len _ _ _) fun p hp => ?_
  rw [chF_gz _ _ _ hp, chF_gz _ _ _ hp, wgt_turn s A b hp]
/-- the numbers of the adjoint tableau -/
def aA (s : Nat) (A : Nat → Nat → Int) (b : Nat → Int) (i k : Nat) : Int := b (s - 1 - k) - A (s - 1 - i) (s - 1 - k)
theorem chF_adj (s : Nat) (A : Nat → Nat → Int) (b : Nat → Int) : chF s (aA s A b) (fun i => b (s - 1 - i)) = scZ (iv (chF s A b)) 10006 := by
  rw [← chF_inv, ← chF_scale, ← chF_turn s (fun i k => iA A b i k * 10006) (fun i => - b i * 10006)]
  refine chF_mod (fun i k hi hk => ?_) (fun i hi => ?_)
  · unfold aA iA
    generalize b (s - 1 - k) = u
    generalize A (s - 1 - i) (s - 1 - k) = v
    omega
  · skip
    generalize b (s - 1 - i) = u
    omega
theorem chF_adjL (s : Nat) (A : Nat → Nat → Int) (b : Nat → Int) : chF s (aA s A b) (fun i => b (s - 1 - i)) = adjL (chF s A b) := by
  rw [chF_adj, scZ_iv (chr_chF s A b)]
  rfl
/-- symmetric tableaus have symmetric characters -/
theorem chF_symm {s : Nat} {A : Nat → Nat → Int} {b : Nat → Int} (h : ∀ i k, i < s → k < s → (A i k + A (s - 1 - i) (s - 1 - k) - b k) % 10007 = 0) : adjL (chF s A b) = chF s A b := by
  rw [← chF_adjL]
  refine chF_mod (fun i k hi hk => ?_) (fun i hi => ?_)
  · have h1 := h (s - 1 - i) (s - 1 - k) (by omega) (by omega)
    rw [show s - 1 - (s - 1 - i) = i by omega, show s - 1 - (s - 1 - k) = k by omega] at h1
    unfold aA
    generalize b (s - 1 - k) = u at h1 ⊢
    generalize A (s - 1 - i) (s - 1 - k) = v at h1 ⊢
    generalize A i k = w at h1 ⊢
    omega
  · have h1 := h i (s - 1 - i) hi (by omega)
    have h2 := h (s - 1 - i) i (by omega) hi
    rw [show s - 1 - (s - 1 - i) = i by omega] at h1 h2
    generalize b (s - 1 - i) = u at h1 h2 ⊢
    generalize b i = u' at h1 h2 ⊢
    generalize A (s - 1 - i) i = v at h1 h2 ⊢
    generalize A i (s - 1 - i) = w at h1 h2 ⊢
    omega
/-- symplectic tableaus have symplectic characters -/
theorem chF_sym {s : Nat} {A : Nat → Nat → Int} {b : Nat → Int} (h : ∀ i k, i < s → k < s → (b i * A i k + b k * A k i - b i * b k) % 10007 = 0) : ToR (chF s A b) 1 6 := by
  refine ⟨Nat.le_refl _, fun i k hi hk hs => ?_, .inl rfl⟩
  have hs' : szT (i + 1) + szT (k + 1) ≤ 6 := by rw [szT_tr hi, szT_tr hk]; exact hs
  have g1 := gP_bd hi hk hs'
  have g2 := gP_bd hk hi (by omega)
  have e := sum_mul_mod (wgt_sym s A b h hi hk hs') (chF_gz s A b g1.2).symm (chF_gz s A b g2.2).symm (chF_gz s A b (show i + 1 < 38 by omega)).symm (chF_gz s A b (show k + 1 < 38 by omega)).symm
  show (gz (chF s A b) (gP i k) + gz (chF s A b) (gP k i)) % 10007 = 1 * (gz (chF s A b) (i + 1) * gz (chF s A b) (k + 1) % 10007) % 10007
  rw [e, Int.one_mul, Int.emod_emod_of_dvd _ (Int.dvd_refl _)]
end Go.Proofs.YtofabikjjkapmaaGreat

set_option maxRecDepth 100000
set_option linter.unusedVariables false
set_option linter.unusedSimpArgs false
namespace Go.Proofs.YtofabikjjkapmaaGreat
open Go.RowKit

/-! ### brackets -/
/-! ### the reduced order -/
end Go.Proofs.YtofabikjjkapmaaGreat

set_option maxRecDepth 100000
set_option linter.unusedVariables false
set_option linter.unusedSimpArgs false
namespace Go.Proofs.YtofabikjjkapmaaGreat
open Go.RowKit

/-! ### the exact map in steps -/
/-! ### agreement up to a number of nodes -/
def Agr (n : Nat) (a b : List Int) : Prop := ∀ p, p < 38 → szT p ≤ n → gz a p % 10007 = gz b p % 10007
theorem Agr.refl (n : Nat) (a : List Int) : Agr n a a := fun _ _ _ => rfl
theorem Agr.symm {n : Nat} {a b : List Int} (h : Agr n a b) : Agr n b a := fun p hp hs => (h p hp hs).symm
theorem Agr.trans {n : Nat} {a b c : List Int} (h : Agr n a b) (g : Agr n b c) : Agr n a c := fun p hp hs => (h p hp hs).trans (g p hp hs)
theorem wgt_le {ks : List Nat} {k : Nat} (h : k ∈ ks) : szT k ≤ wgt ks := by
  induction ks with
  | nil => cases h
  | cons q ks ih =>
    show szT k ≤ szT q + wgt ks
    rcases List.mem_cons.1 h with rfl | h
    · omega
    · have := ih h; omega
theorem Agr.mul {n : Nat} {a a' b b' : List Int} (h : Agr n a a') (g : Agr n b b') : Agr n (cvZ a b) (cvZ a' b') := by
  intro p hp hs
  rw [cvZ_cv _ _ hp, cvZ_cv _ _ hp]
  have h1 := eb3
  rw [List.all_eq_true] at h1
  have h2 := h1 p (List.mem_range.2 hp)
  rw [List.all_eq_true] at h2
  refine sumF_modc fun c hc => ?_
  have h3 := Nat.eq_of_beq_eq_true (h2 c hc)
  have h4 := pc_at hp hc
  refine cvT_mod (fun k hk => h k (by have := h4.1 k hk; omega) ?_) (g _ (by have := h4.2; omega) (by omega))
  have := wgt_le hk
  omega
theorem Agr.inv {n : Nat} {a b : List Int} (ha : Chr a) (hb : Chr b) (h : Agr n a b) : Agr n (iv a) (iv b) := by
  have e1 : cvZ (iv a) (cvZ b (iv b)) = iv a := by rw [iv_right hb, cvZ_unR (chr_iv a)]
  have e2 : cvZ (cvZ (iv a) a) (iv b) = iv b := by rw [iv_left ha, cvZ_unL (chr_iv b).num (chr_iv b).len]
  have e3 : cvZ (cvZ (iv a) b) (iv b) = cvZ (iv a) (cvZ b (iv b)) := cvZ_assoc hb.one (chr_iv b).num
  have h1 : Agr n (cvZ (cvZ (iv a) b) (iv b)) (cvZ (cvZ (iv a) a) (iv b)) := ((Agr.refl n _).mul h.symm).mul (Agr.refl n _)
  rw [e3, e1, e2] at h1
  exact h1
/-! ### orders -/
end Go.Proofs.YtofabikjjkapmaaGreat

set_option linter.unusedVariables false
set_option linter.unusedSimpArgs false
namespace Go.Proofs.YtofabikjjkapmaaGreat
open Go.RowKit

/-- the first j places of a + k b -/
def addTo (k : Int) (a b : List Int) (j : Nat) : List Int := (List.range j).map fun i => (a.getD i 0 + k * b.getD i 0) % 10007
def addk (k : Int) (a b : List Int) : List Int := addTo k a b a.length
theorem addTo_len (k : Int) (a b : List Int) (j : Nat) : (addTo k a b j).length = j := by simp [addTo]
theorem addTo_nums (k : Int) (a b : List Int) (j : Nat) : Nums (addTo k a b j) := by
  intro z hz
  obtain ⟨i, _, rfl⟩ := List.mem_map.1 hz
  omega
theorem nums_in {zs : List Int} (h : Nums zs) : ∀ z ∈ zs, In64 z := by
  intro z hz
  have := h z hz
  unfold In64
  omega

end Go.Proofs.YtofabikjjkapmaaGreat

set_option maxRecDepth 100000
set_option linter.unusedVariables false
set_option linter.unusedSimpArgs false
namespace Go.Proofs.YtofabikjjkapmaaGreat
open Go.RowKit

/-- a square tableau of numbers -/
structure SqT (A : List (List Int)) (B : List Int) (s : Nat) : Prop where
  la : A.length = s
  lb : B.length = s
  rows : ∀ r ∈ A, Nums r ∧ r.length = s
  ws : Nums B
def fT (A : List (List Int)) (i k : Nat) : Int := (A.getD i []).getD k 0
def fB (B : List Int) (i : Nat) : Int := B.getD i 0
def chT (A : List (List Int)) (B : List Int) : List Int := chF B.length (fT A) (fB B)
theorem getD_mapT {α β : Type} (f : α → β) {l : List α} {i : Nat} (h : i < l.length) (d : α) (e : β) : (l.map f).getD i e = f (l.getD i d) := by
  rw [List.getD_eq_getElem?_getD, List.getElem?_map, List.getD_eq_getElem?_getD, List.getElem?_eq_getElem h]
  rfl
theorem getD_mem {α : Type} {l : List α} {i : Nat} (h : i < l.length) (d : α) : l.getD i d ∈ l := by
  rw [List.getD_eq_getElem?_getD, List.getElem?_eq_getElem h]
  exact List.getElem_mem _
theorem list_extN {a b : List Int} (ha : Nums a) (hb : Nums b) (hl : a.length = b.length) (h : ∀ i, i < a.length → a.getD i 0 % 10007 = b.getD i 0 % 10007) : a = b := by
  refine List.ext_getElem hl fun i h1 h2 => ?_
  have e := h i h1
  have b1 := ha _ (getD_mem h1 0)
  have b2 := hb _ (getD_mem h2 0)
  have g1 : a.getD i 0 = a[i] := by rw [List.getD_eq_getElem?_getD, List.getElem?_eq_getElem h1]; rfl
  have g2 : b.getD i 0 = b[i] := by rw [List.getD_eq_getElem?_getD, List.getElem?_eq_getElem h2]; rfl
  rw [g1] at e b1
  rw [g2] at e b2
  omega
theorem SqT.row {A : List (List Int)} {B : List Int} {s : Nat} (h : SqT A B s) {i : Nat} (hi : i < s) : Nums (A.getD i []) ∧ (A.getD i []).length = s := h.rows _ (getD_mem (by rw [h.la]; exact hi) [])
theorem SqT.bd {A : List (List Int)} {B : List Int} {s : Nat} (h : SqT A B s) {i k : Nat} (hi : i < s) (hk : k < s) : 0 ≤ fT A i k ∧ fT A i k ≤ 10006 := (h.row hi).1 _ (getD_mem (by rw [(h.row hi).2]; exact hk) 0)
theorem SqT.bdB {A : List (List Int)} {B : List Int} {s : Nat} (h : SqT A B s) {i : Nat} (hi : i < s) : 0 ≤ fB B i ∧ fB B i ≤ 10006 := h.ws _ (getD_mem (by rw [h.lb]; exact hi) 0)
theorem tab_ext {A A' : List (List Int)} {B B' : List Int} {s : Nat} (h : SqT A B s) (h' : SqT A' B' s) (hA : ∀ i k, i < s → k < s → fT A i k % 10007 = fT A' i k % 10007) (hB : ∀ i, i < s → fB B i % 10007 = fB B' i % 10007) : A = A' ∧ B = B' := by
  refine ⟨List.ext_getElem (by rw [h.la, h'.la]) fun i h1 h2 => ?_, list_extN h.ws h'.ws (by rw [h.lb, h'.lb]) fun i hi => hB i (by rw [h.lb] at hi; exact hi)⟩
  have hi : i < s := by rw [h.la] at h1; exact h1
  have g1 : A.getD i [] = A[i] := by rw [List.getD_eq_getElem?_getD, List.getElem?_eq_getElem h1]; rfl
  have g2 : A'.getD i [] = A'[i] := by rw [List.getD_eq_getElem?_getD, List.getElem?_eq_getElem h2]; rfl
  rw [← g1, ← g2]
  exact list_extN (h.row hi).1 (h'.row hi).1 (by rw [(h.row hi).2, (h'.row hi).2]) fun k hk => hA i k hi (by rw [(h.row hi).2] at hk; exact hk)
/-! ### scaled -/
def sclT (k : Int) (A : List (List Int)) : List (List Int) := A.map (scl k)
theorem fB_scl (k : Int) (B : List Int) (i : Nat) : fB (scl k B) i % 10007 = fB B i * k % 10007 := by
  unfold fB scl
  rw [List.getD_eq_getElem?_getD, List.getElem?_map, List.getD_eq_getElem?_getD]
  cases B[i]? with
  | none => show (0 : Int) % 10007 = 0 * k % 10007; rw [Int.zero_mul]
  | some z => exact Int.emod_emod_of_dvd _ (Int.dvd_refl _)
theorem fT_scl (k : Int) {A : List (List Int)} {i : Nat} (hi : i < A.length) (j : Nat) : fT (sclT k A) i j % 10007 = fT A i j * k % 10007 := by
  unfold fT sclT
  rw [getD_mapT (scl k) hi []]
  exact fB_scl k _ j
theorem SqT.scl {A : List (List Int)} {B : List Int} {s : Nat} (h : SqT A B s) (k : Int) : SqT (sclT k A) (Go.Proofs.YtofabikjjkapmaaGreat.scl k B) s := by
  refine ⟨by unfold sclT; rw [List.length_map, h.la], by rw [scl_len]; exact h.lb, fun r hr => ?_, scl_nums _ _⟩
  obtain ⟨x, hx, rfl⟩ := List.mem_map.1 hr
  exact ⟨scl_nums _ _, by rw [scl_len]; exact (h.rows x hx).2⟩
/-! ### inverse -/
def invT (A : List (List Int)) (B : List Int) : List (List Int) := A.map fun r => addk 10006 r B
theorem fT_inv {A : List (List Int)} {B : List Int} {s : Nat} (h : SqT A B s) {i j : Nat} (hi : i < s) (hj : j < s) : fT (invT A B) i j % 10007 = (fT A i j - fB B j) % 10007 := by
  unfold fT invT fB
  rw [getD_mapT (fun r => addk 10006 r B) (by rw [h.la]; exact hi) []]
  have hl := (h.row hi).2
  generalize A.getD i [] = r at hl ⊢
  unfold addk addTo
  rw [getD_mapT (fun i => (r.getD i 0 + 10006 * B.getD i 0) % 10007) (by rw [List.length_range, hl]; exact hj) 0]
  have : (List.range r.length).getD j 0 = j := by rw [List.getD_eq_getElem?_getD, List.getElem?_range (by omega)]; rfl
  rw [this]
  generalize r.getD j 0 = x
  generalize B.getD j 0 = y
  omega
theorem SqT.inv {A : List (List Int)} {B : List Int} {s : Nat} (h : SqT A B s) : SqT (invT A B) (Go.Proofs.YtofabikjjkapmaaGreat.scl 10006 B) s := by
  refine ⟨by unfold invT; rw [List.length_map, h.la], by rw [scl_len]; exact h.lb, fun r hr => ?_, scl_nums _ _⟩
  obtain ⟨x, hx, rfl⟩ := List.mem_map.1 hr
  exact ⟨addTo_nums _ _ _ _, by unfold addk; rw [addTo_len]; exact (h.rows x hx).2⟩
theorem fB_neg (B : List Int) (i : Nat) : fB (scl 10006 B) i % 10007 = (- fB B i) % 10007 := by
  rw [fB_scl]
  generalize fB B i = x
  omega
theorem inv_inv {A : List (List Int)} {B : List Int} {s : Nat} (h : SqT A B s) : invT (invT A B) (scl 10006 B) = A ∧ scl 10006 (scl 10006 B) = B := by
  refine tab_ext h.inv.inv h (fun i k hi hk => ?_) fun i hi => ?_
  · have e1 := fT_inv h.inv hi hk
    have e2 := fT_inv h hi hk
    have e3 := fB_neg B k
    rw [e1]
    generalize fT (invT A B) i k = x at e2 ⊢
    generalize fB (scl 10006 B) k = y at e3 ⊢
    generalize fT A i k = u at e2 ⊢
    generalize fB B k = v at e2 e3
    omega
  · have e1 := fB_neg (scl 10006 B) i
    have e2 := fB_neg B i
    rw [e1]
    generalize fB (scl 10006 B) i = y at e2 ⊢
    generalize fB B i = v at e2 ⊢
    omega
/-! ### composed -/
def jnT (A1 : List (List Int)) (B1 : List Int) (A2 : List (List Int)) (B2 : List Int) : List (List Int) := A1.map (fun r => r ++ List.replicate B2.length 0) ++ A2.map (fun r => B1 ++ r)
theorem SqT.cmp {A1 A2 : List (List Int)} {B1 B2 : List Int} {s t : Nat} (h : SqT A1 B1 s) (h' : SqT A2 B2 t) : SqT (jnT A1 B1 A2 B2) (B1 ++ B2) (s + t) := by
  refine ⟨by unfold jnT; rw [List.length_append, List.length_map, List.length_map, h.la, h'.la], by rw [List.length_append, h.lb, h'.lb], fun r hr => ?_, fun z hz => ?_⟩
  · rcases List.mem_append.1 hr with hr | hr
    · obtain ⟨x, hx, rfl⟩ := List.mem_map.1 hr
      refine ⟨fun z hz => ?_, by rw [List.length_append, List.length_replicate, (h.rows x hx).2, h'.lb]⟩
      rcases List.mem_append.1 hz with hz | hz
      · exact (h.rows x hx).1 z hz
      · have := (List.mem_replicate.1 hz).2; omega
    · obtain ⟨x, hx, rfl⟩ := List.mem_map.1 hr
      refine ⟨fun z hz => ?_, by rw [List.length_append, (h'.rows x hx).2, h.lb]⟩
      rcases List.mem_append.1 hz with hz | hz
      · exact h.ws z hz
      · exact (h'.rows x hx).1 z hz
  · rcases List.mem_append.1 hz with hz | hz
    · exact h.ws z hz
    · exact h'.ws z hz
theorem getD_appL {α : Type} {a b : List α} {i : Nat} (h : i < a.length) (d : α) : (a ++ b).getD i d = a.getD i d := by
  rw [List.getD_eq_getElem?_getD, List.getElem?_append_left h, List.getD_eq_getElem?_getD]
theorem getD_appR {α : Type} {a b : List α} {i : Nat} (h : a.length ≤ i) (d : α) : (a ++ b).getD i d = b.getD (i - a.length) d := by
  rw [List.getD_eq_getElem?_getD, List.getElem?_append_right h, List.getD_eq_getElem?_getD]
theorem getD_rep (n k : Nat) : (List.replicate n (0 : Int)).getD k 0 = 0 := by
  rw [List.getD_eq_getElem?_getD, List.getElem?_replicate]
  split <;> rfl
theorem fB_cmp {A1 : List (List Int)} {B1 B2 : List Int} {s : Nat} (h : SqT A1 B1 s) (i : Nat) : fB (B1 ++ B2) i = cB s (fB B1) (fB B2) i := by
  unfold cB fB
  by_cases hi : i < s
  · rw [if_pos hi, getD_appL (by rw [h.lb]; exact hi)]
  · rw [if_neg hi, getD_appR (by rw [h.lb]; omega), h.lb]
theorem fT_cmp {A1 A2 : List (List Int)} {B1 B2 : List Int} {s t : Nat} (h : SqT A1 B1 s) (h' : SqT A2 B2 t) {i : Nat} (hi : i < s + t) (k : Nat) : fT (jnT A1 B1 A2 B2) i k = cA s (fT A1) (fT A2) (fB B1) i k := by
  unfold cA jnT fT
  by_cases hs : i < s
  · rw [if_pos hs, getD_appL (by rw [List.length_map, h.la]; exact hs), getD_mapT (fun r => r ++ List.replicate B2.length 0) (by rw [h.la]; exact hs) []]
    have hl := (h.row hs).2
    by_cases hk : k < s
    · rw [if_pos hk, getD_appL (by rw [hl]; exact hk)]
    · rw [if_neg hk, getD_appR (by rw [hl]; omega), getD_rep]
  · rw [if_neg hs, getD_appR (by rw [List.length_map, h.la]; omega), List.length_map, h.la, getD_mapT (fun r => B1 ++ r) (by rw [h'.la]; omega) []]
    by_cases hk : k < s
    · rw [if_pos hk, getD_appL (by rw [h.lb]; exact hk)]
      rfl
    · rw [if_neg hk, getD_appR (by rw [h.lb]; omega), h.lb]
/-! ### adjoint -/
def dnT (n : Nat) : List Nat := (List.range n).map fun i => n - 1 - i
def trA (A : List (List Int)) (n : Nat) : List (List Int) := (dnT n).map fun a => (dnT n).map fun b => (A.getD a []).getD b 0
def trB (B : List Int) (n : Nat) : List Int := (dnT n).map fun a => B.getD a 0
theorem dnT_get {n i : Nat} (h : i < n) : (dnT n).getD i 0 = n - 1 - i := by
  unfold dnT
  rw [getD_mapT (fun i => n - 1 - i) (by rw [List.length_range]; exact h) 0, List.getD_eq_getElem?_getD, List.getElem?_range h]
  rfl
theorem dnT_len (n : Nat) : (dnT n).length = n := by unfold dnT; rw [List.length_map, List.length_range]
theorem dnT_lt {n a : Nat} (h : a ∈ dnT n) : a < n := by
  obtain ⟨i, hi, rfl⟩ := List.mem_map.1 h
  have := List.mem_range.1 hi
  omega
theorem fB_tr (B : List Int) {n i : Nat} (h : i < n) : fB (trB B n) i = fB B (n - 1 - i) := by
  unfold fB trB
  rw [getD_mapT (fun a => B.getD a 0) (by rw [dnT_len]; exact h) 0, dnT_get h]
theorem fT_tr (A : List (List Int)) {n i k : Nat} (h : i < n) (hk : k < n) : fT (trA A n) i k = fT A (n - 1 - i) (n - 1 - k) := by
  unfold fT trA
  rw [getD_mapT (fun a => (dnT n).map fun b => (A.getD a []).getD b 0) (by rw [dnT_len]; exact h) 0, dnT_get h]
  rw [getD_mapT (fun b => (A.getD (n - 1 - i) []).getD b 0) (by rw [dnT_len]; exact hk) 0, dnT_get hk]
theorem SqT.tr {A : List (List Int)} {B : List Int} {s : Nat} (h : SqT A B s) : SqT (trA A s) (trB B s) s := by
  refine ⟨by unfold trA; rw [List.length_map, dnT_len], by unfold trB; rw [List.length_map, dnT_len], fun r hr => ?_, fun z hz => ?_⟩
  · obtain ⟨a, ha, rfl⟩ := List.mem_map.1 hr
    refine ⟨fun z hz => ?_, by rw [List.length_map, dnT_len]⟩
    obtain ⟨b, hb, rfl⟩ := List.mem_map.1 hz
    exact h.bd (dnT_lt ha) (dnT_lt hb)
  · obtain ⟨a, ha, rfl⟩ := List.mem_map.1 hz
    exact h.bdB (dnT_lt ha)
def adA (A : List (List Int)) (B : List Int) : List (List Int) := trA (sclT 10006 (invT A B)) B.length
def adB (B : List Int) : List Int := trB (scl 10006 (scl 10006 B)) B.length
theorem SqT.ad {A : List (List Int)} {B : List Int} {s : Nat} (h : SqT A B s) : SqT (adA A B) (adB B) s := by
  unfold adA adB
  rw [h.lb]
  exact (h.inv.scl 10006).tr
theorem fT_ad {A : List (List Int)} {B : List Int} {s : Nat} (h : SqT A B s) {i k : Nat} (hi : i < s) (hk : k < s) : fT (adA A B) i k % 10007 = aA s (fT A) (fB B) i k % 10007 := by
  unfold adA aA
  rw [h.lb, fT_tr _ hi hk]
  have e1 := fT_scl 10006 (A := invT A B) (i := s - 1 - i) (by rw [h.inv.la]; omega) (s - 1 - k)
  have e2 := fT_inv h (show s - 1 - i < s by omega) (show s - 1 - k < s by omega)
  generalize fT (sclT 10006 (invT A B)) (s - 1 - i) (s - 1 - k) = x at e1 ⊢
  generalize fT (invT A B) (s - 1 - i) (s - 1 - k) = y at e1 e2
  generalize fT A (s - 1 - i) (s - 1 - k) = u at e2 ⊢
  generalize fB B (s - 1 - k) = v at e2 ⊢
  omega
theorem fB_ad {A : List (List Int)} {B : List Int} {s : Nat} (h : SqT A B s) {i : Nat} (hi : i < s) : fB (adB B) i % 10007 = fB B (s - 1 - i) % 10007 := by
  unfold adB
  rw [h.lb, fB_tr _ hi, (inv_inv h).2]
/-- the adjoint of a composition -/
theorem ad_cmp {A1 A2 : List (List Int)} {B1 B2 : List Int} {s t : Nat} (h : SqT A1 B1 s) (h' : SqT A2 B2 t) : adA (jnT A1 B1 A2 B2) (B1 ++ B2) = jnT (adA A2 B2) (adB B2) (adA A1 B1) (adB B1) ∧ adB (B1 ++ B2) = adB B2 ++ adB B1 := by
  have hL := (h.cmp h').ad
  have hR := h'.ad.cmp h.ad
  rw [Nat.add_comm t s] at hR
  refine tab_ext hL hR (fun i k hi hk => ?_) fun i hi => ?_
  · rw [fT_ad (h.cmp h') hi hk, fT_cmp h'.ad h.ad (by omega) k]
    unfold aA
    rw [fB_cmp h, fT_cmp h h' (by omega)]
    unfold cA cB
    by_cases h1 : i < t
    · by_cases h2 : k < t
      · rw [if_neg (show ¬ s + t - 1 - k < s by omega), if_neg (show ¬ s + t - 1 - i < s by omega), if_neg (show ¬ s + t - 1 - k < s by omega), if_pos h1, if_pos h2, fT_ad h' h1 h2]
        unfold aA
        rw [show s + t - 1 - k - s = t - 1 - k by omega, show s + t - 1 - i - s = t - 1 - i by omega]
      · rw [if_pos (show s + t - 1 - k < s by omega), if_neg (show ¬ s + t - 1 - i < s by omega), if_pos (show s + t - 1 - k < s by omega), if_pos h1, if_neg h2, Int.sub_self]
    · by_cases h2 : k < t
      · rw [if_neg (show ¬ s + t - 1 - k < s by omega), if_pos (show s + t - 1 - i < s by omega), if_neg (show ¬ s + t - 1 - k < s by omega), if_neg h1, if_pos h2, fB_ad h' h2, Int.sub_zero]
        rw [show s + t - 1 - k - s = t - 1 - k by omega]
      · rw [if_pos (show s + t - 1 - k < s by omega), if_pos (show s + t - 1 - i < s by omega), if_pos (show s + t - 1 - k < s by omega), if_neg h1, if_neg h2, fT_ad h (show i - t < s by omega) (show k - t < s by omega)]
        unfold aA
        rw [show s - 1 - (k - t) = s + t - 1 - k by omega, show s - 1 - (i - t) = s + t - 1 - i by omega]
  · rw [fB_ad (h.cmp h') hi, fB_cmp h, fB_cmp h'.ad]
    unfold cB
    by_cases h1 : i < t
    · rw [if_neg (show ¬ s + t - 1 - i < s by omega), if_pos h1, fB_ad h' h1, show s + t - 1 - i - s = t - 1 - i by omega]
    · rw [if_pos (show s + t - 1 - i < s by omega), if_neg h1, fB_ad h (show i - t < s by omega), show s - 1 - (i - t) = s + t - 1 - i by omega]
/-! ### symplectic and symmetric ones -/
def cnT (A : List (List Int)) (B : List Int) (i k : Nat) : Int := (fB B i * fT A i k + fB B k * fT A k i - fB B i * fB B k) % 10007
theorem cnT_sym {A : List (List Int)} {B : List Int} {i k : Nat} (h : cnT A B i k = 0) : cnT A B k i = 0 := by
  unfold cnT at h ⊢
  rw [Int.mul_comm (fB B k) (fB B i)]
  generalize fB B i * fT A i k = x at h ⊢
  generalize fB B k * fT A k i = y at h ⊢
  generalize fB B i * fB B k = z at h ⊢
  omega
theorem chT_sym {A : List (List Int)} {B : List Int} (h : ∀ i k, i < B.length → k < B.length → cnT A B i k = 0) : ToR (chT A B) 1 6 := chF_sym h
theorem cmp_sym {A : List (List Int)} {B : List Int} {s : Nat} (hs : SqT A B s) (h : ∀ i k, i < s → k < s → cnT A B i k = 0) : ∀ i k, i < s + s → k < s + s → cnT (jnT A B A B) (B ++ B) i k = 0 := by
  intro i k hi hk
  unfold cnT
  rw [fB_cmp hs, fB_cmp hs, fT_cmp hs hs hi, fT_cmp hs hs hk]
  exact sym_comp s s (fT A) (fT A) (fB B) (fB B) h h i k hi hk
theorem chT_symm {A : List (List Int)} {B : List Int} {s : Nat} (hs : SqT A B s) (h : ∀ i k, i < s → k < s → (fT A i k + fT A (s - 1 - i) (s - 1 - k)) % 10007 = fB B k) : adjL (chT A B) = chT A B := by
  unfold chT
  rw [hs.lb]
  refine chF_symm fun i k hi hk => ?_
  have := h i k hi hk
  rw [← this]
  generalize fT A i k + fT A (s - 1 - i) (s - 1 - k) = x
  omega
/-! ### repeated ones -/
end Go.Proofs.YtofabikjjkapmaaGreat

set_option linter.unusedVariables false
set_option linter.unusedSimpArgs false
namespace Go.Proofs.YtofabikjjkapmaaGreat
open Go.RowKit

end Go.Proofs.YtofabikjjkapmaaGreat

set_option maxRecDepth 100000
set_option linter.unusedVariables false
set_option linter.unusedSimpArgs false
namespace Go.Proofs.YtofabikjjkapmaaGreat
open Go.RowKit

/-- make, met in a region that draws -/
theorem step_mk {P : Program} {ops : Array Oper} {o : Oper} {a : Act} {K : Act → World → Prop} {Q : Exit → Act → World → Prop} {E : Prop} {t : TypeId} {l c : Operand}
    {e : TypeId} {z : Value} {bytes : Nat} (T : ElemT P t e z bytes) (n : Nat) (hn : n < 1099511627776) {W : World}
    (hgd : o.guard = none) (ho : o.op = .makeSlice t l c) (hl : a.eval l = .int .i64 (n : Int)) (hc : a.eval c = .int .i64 (n : Int))
    (h : ∀ w', Own w' W.heap.size e (.slice (some ⟨W.heap.size, 0, none⟩) n n) (List.replicate n z) → Below W.heap.size W w' → W.heap.size < w'.heap.size → K (a.put o.dst (.slice (some ⟨W.heap.size, 0, none⟩) n n)) w') :
    if Region.wanted o (yielded ops a.tmps) = true then Oper.wp P o a W K Q else E := by
  have hw : Region.wanted o (yielded ops a.tmps) = true := by simp [Region.wanted, hgd]
  rw [if_pos hw]
  have hrun := run_make T n hn W
  unfold Oper.wp execOp
  simp only [ho, hl, hc, hrun, Sem.run_bind, Result.andThen_ok]
  exact h _ (own_made W e z n (by simp only [maxLen]; omega)) ((Below.refl _ _).alloc (Nat.le_refl _) _) (by simp)
end Go.Proofs.YtofabikjjkapmaaGreat

