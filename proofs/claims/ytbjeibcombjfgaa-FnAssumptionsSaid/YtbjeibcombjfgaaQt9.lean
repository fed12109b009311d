/- Plain: elementary weights of tableaus by places; the weights of a composition are the convolution of the weights; kernel checks. No walk. | Which free number, with which sign, a Hamiltonian map has at each place (0: none), and the chain of conditions that tells it. (printed by hamgen.py) No walk. | Plain: the two Butcher products of trees by places; up to where a map has the condition of symplectic or Hamiltonian ones. No walk. | Walk: l04Turn of the reference. | Plain: l04Put, l04Roots, l04Cut, l04Double of the reference, with every premise of the walks; what the kernel finds at the trees with at most 8 nodes. | Words of memory for sums of trees: lists of one's own of structs of a tree and a count. | Walk: grafted of the program, for one tree at the root. | Walks: the checks of maps, of the program and of the reference. | Walks: density of the program and of the reference; nodes of forms. | Walks: the unit, the exact map of the program and of the reference. | Walk: l12To of the reference. | Walks: agreement of maps, of the program and of the reference; maps cut down. | Walk: newForms of the program. | Walks: productsTo of the program; SymplecticTo, HamiltonianTo. | Walks: symplecticTo, hamiltonianTo; SymplecticTo, HamiltonianTo of the program and of the reference. (printed by vgen.py) | Walk: l04Cut of the reference. | Walk: l04Turn of the reference: the recursion. | Walk: l04Double of the reference. | Walk: l04Put of the reference. | Walk: l04Roots of the reference. | Walk: l12Free of the reference. | Walks: allConditions of the program; l12All of the reference. (printed by allgen.py) | Walks: isEvenRoot of the program, l12Sign of the reference. | Walks: HamiltonianOf of the program and of the reference. | Plain: the free conditions by places; reduced order. No walk. | The partitions of the trees of maps by places: the pieces', the skeleton's, how often. (printed by sbtgen.py) No walk. | Plain: substitution by a table of places is associative, has a unit on either side, and goes into convolutions; kernel checks. No walk. | slices.SortFunc at partitions: laid. | Walks: the comparison of partitions; slices.SortFunc at partitions. | Plain: the trees of at most eight nodes, cut up: the kernel looks at all of them. First part. | Plain: the trees of at most eight nodes, cut up: the kernel looks at all of them. Second part. | Plain: the trees of at most eight nodes, cut up: put together. -/
import Derived.Test.YtbjeibcombjfgaaQt1
import Derived.Test.YtbjeibcombjfgaaQt8
import Derived.Test.YtbjeibcombjfgaaQt7
import Derived.Test.YtbjeibcombjfgaaQt6
import Derived.Test.YtbjeibcombjfgaaQt5
import Derived.Test.YtbjeibcombjfgaaQt4
import Derived.Test.YtbjeibcombjfgaaQt3
import Derived.Deep.CutRange
import Derived.Deep.CutBlock
import Derived.Deep.DeepCutAuto
import Derived.Shelf.SlSortCmp.WholeK
import Derived.Shelf.SlSortCmp.NoneTotal
import Derived.Shelf.SlGeneric
import Derived.Ground.SlsfProg
set_option maxRecDepth 100000
set_option linter.unusedVariables false
set_option linter.unusedSimpArgs false
namespace Go.Proofs.Ytbjeibcombjfgaa

/-! ### sums over stages -/
def sR (s : Nat) (f : Nat → Int) : Int := sumF f (List.range s)
theorem sR_zero (f : Nat → Int) : sR 0 f = 0 := rfl
theorem sR_succ (s : Nat) (f : Nat → Int) : sR (s + 1) f = sR s f + f s := by
  unfold sR
  rw [List.range_succ, sumF_append]
  simp [sumF]
theorem sR_congr {s : Nat} {f g : Nat → Int} (h : ∀ i, i < s → f i = g i) : sR s f = sR s g := sumF_congr fun i hi => h i (List.mem_range.1 hi)
theorem sR_add (s : Nat) (f g : Nat → Int) : sR s (fun i => f i + g i) = sR s f + sR s g := by
  induction s with
  | zero => rfl
  | succ s ih => rw [sR_succ, sR_succ, sR_succ, ih]; omega
theorem sR_mul (s : Nat) (f : Nat → Int) (k : Int) : k * sR s f = sR s (fun i => k * f i) := sumF_mul _ _ _
theorem sumR0 (s : Nat) : sR s (fun _ => 0) = 0 := by
  induction s with
  | zero => rfl
  | succ s ih => rw [sR_succ, ih]; rfl
theorem sR_swap (s : Nat) (f : Nat → Nat → Int) (l : List MCt) (g : Nat → MCt → Int) : sR s (fun i => sumF (g i) l) = sumF (fun c => sR s (fun i => g i c)) l := by
  induction l with
  | nil =>
    exact sumR0 s
  | cons c l ih =>
    simp only [sumF]
    rw [sR_add, ih]
/-! ### the weights of the stages -/
def bt (p : Nat) : List Nat := BTab.getD p []
theorem pz_congr {f g : Nat → Int} : ∀ {qs : List Nat}, (∀ q ∈ qs, f q = g q) → pz f qs = pz g qs
  | [], _ => rfl
  | q :: qs, h => by rw [pz_cons, pz_cons, h q (by simp), pz_congr fun r hr => h r (by simp [hr])]
/-- with values phi that come in: Phi_i of the tree at p, deep enough -/
def wV (s : Nat) (A : Nat → Nat → Int) (phi : Nat → Int) : Nat → Nat → Nat → Int
  | 0, _, _ => 1
  | f + 1, i, p => pz (fun q => phi q + sR s (fun k => A i k * wV s A phi f k q)) (bt p)
theorem tb1 : (List.range 38).all (fun p => (bt p).all fun q => Nat.blt 0 q && (Nat.blt q 38 && Nat.blt (szT q) (szT p))) = true := by decide +kernel
theorem bt_at {p q : Nat} (hp : p < 38) (hq : q ∈ bt p) : 0 < q ∧ q < 38 ∧ szT q < szT p := by
  have h1 := tb1
  rw [List.all_eq_true] at h1
  have h2 := h1 p (List.mem_range.2 hp)
  rw [List.all_eq_true] at h2
  have h3 := h2 q hq
  simp only [Bool.and_eq_true] at h3
  exact ⟨blt_lt h3.1, blt_lt h3.2.1, blt_lt h3.2.2⟩
theorem wV_deep (s : Nat) (A : Nat → Nat → Int) (phi : Nat → Int) : ∀ (f g i p : Nat), p < 38 → szT p ≤ f → szT p ≤ g → 0 < p → wV s A phi f i p = wV s A phi g i p
  | 0, g, i, p, hp, hf, hg, h0 => by have := szN_pos (i := p - 1) (by omega); rw [show p - 1 + 1 = p by omega, ← szT_is hp] at this; omega
  | f + 1, 0, i, p, hp, hf, hg, h0 => by have := szN_pos (i := p - 1) (by omega); rw [show p - 1 + 1 = p by omega, ← szT_is hp] at this; omega
  | f + 1, g + 1, i, p, hp, hf, hg, h0 => by
    unfold wV
    refine pz_congr fun q hq => ?_
    obtain ⟨q0, q1, q2⟩ := bt_at hp hq
    congr 1
    exact sR_congr fun k _ => by rw [wV_deep s A phi f g k q q1 (by omega) (by omega) q0]
/-- the weight of stage i at p -/
def wt (s : Nat) (A : Nat → Nat → Int) (phi : Nat → Int) (i p : Nat) : Int := wV s A phi 7 i p
theorem wV_succ (s : Nat) (A : Nat → Nat → Int) (phi : Nat → Int) (f i p : Nat) : wV s A phi (f + 1) i p = pz (fun q => phi q + sR s (fun k => A i k * wV s A phi f k q)) (bt p) := rfl
theorem wt_is (s : Nat) (A : Nat → Nat → Int) (phi : Nat → Int) (i : Nat) {p : Nat} (hp : p < 38) : wt s A phi i p = pz (fun q => phi q + sR s (fun k => A i k * wt s A phi k q)) (bt p) := by
  unfold wt
  rw [wV_succ (f := 6)]
  refine pz_congr fun q hq => ?_
  obtain ⟨q0, q1, q2⟩ := bt_at hp hq
  have h6 := szN_le q
  rw [← szT_is q1] at h6
  have e : sR s (fun k => A i k * wV s A phi 6 k q) = sR s (fun k => A i k * wV s A phi 7 k q) := sR_congr fun k _ => congrArg (A i k * ·) (wV_deep s A phi 6 7 k q q1 h6 (by omega) q0)
  rw [e]
abbrev zeroV : Nat → Int := fun _ => 0
/-- the weight of a tableau at p; 1 at the empty tree -/
def wgtT (s : Nat) (A : Nat → Nat → Int) (b : Nat → Int) (p : Nat) : Int := if p = 0 then 1 else sR s (fun i => b i * wt s A zeroV i p)
/-! ### composition -/
/-- what stage i of the second tableau sees of a tree: 1 for the empty one -/
def uV (s : Nat) (A : Nat → Nat → Int) (i q : Nat) : Int := if q = 0 then 1 else sR s (fun k => A i k * wt s A zeroV k q)
theorem wt_zero (s : Nat) (A : Nat → Nat → Int) (i : Nat) {p : Nat} (hp : p < 38) : wt s A zeroV i p = pz (uV s A i) (bt p) := by
  rw [wt_is s A zeroV i hp]
  refine pz_congr fun q hq => ?_
  obtain ⟨q0, q1, q2⟩ := bt_at hp hq
  show 0 + _ = _
  rw [Int.zero_add]
  unfold uV
  rw [if_neg (by omega)]
/-- the terms of the product over the branches, and of the cuts that leave a trunk -/
def lhB (p : Nat) : List TM := (exp2G CP (bt p)).map fun e => (((e.1.1, e.1.2), 0), e.2)
def rhB : List MCt → List TM
  | [] => []
  | c :: cs => bif Nat.beq c.1.2 0 then rhB cs else (((c.1.1, bt c.1.2), 0), c.2) :: rhB cs
theorem tb2 : (List.range 38).all (fun p => Nat.beq p 0 || eqTs (nrm (lhB p)) (nrm (rhB (CP p)))) = true := by decide +kernel
def ruT (phi u : Nat → Int) (c : MCt) : Int := if c.1.2 = 0 then 0 else (c.2 : Int) * (pz phi c.1.1 * pz u (bt c.1.2))
theorem rhB_is (phi u : Nat → Int) : ∀ l : List MCt, sumF (tmV phi u (fun _ => 1)) (rhB l) = sumF (ruT phi u) l
  | [] => rfl
  | c :: cs => by
    have ih := rhB_is phi u cs
    unfold rhB
    show _ = ruT phi u c + sumF (ruT phi u) cs
    cases hb : Nat.beq c.1.2 0 with
    | true =>
      have h0 := Nat.eq_of_beq_eq_true hb
      rw [cond_true, ih]
      unfold ruT
      rw [if_pos h0, Int.zero_add]
    | false =>
      have h0 : c.1.2 ≠ 0 := fun e => by rw [e] at hb; cases hb
      rw [cond_false]
      show tmV phi u (fun _ => 1) (((c.1.1, bt c.1.2), 0), c.2) + _ = _
      rw [ih]
      unfold ruT tmV
      rw [if_neg h0]
      simp only [Int.mul_one]
/-- the product over the branches of what cuts of them give is what the cuts that leave a trunk give -/
theorem branch_id (phi u : Nat → Int) (hu : u 0 = 1) {p : Nat} (h0 : 0 < p) (hp : p < 38) : pz (cv phi u) (bt p) = sumF (ruT phi u) (CP p) := by
  have h1 := tb2
  rw [List.all_eq_true] at h1
  have h2 := h1 p (List.mem_range.2 hp)
  rw [Bool.or_eq_true] at h2
  rcases h2 with h2 | h2
  · have := Nat.eq_of_beq_eq_true h2; omega
  · have e := eqTs_iff h2
    have e1 : pz (cv phi u) (bt p) = sumF (tmV phi u (fun _ => 1)) (lhB p) := by
      have e0 : pz (cv phi u) (bt p) = sumF (exV2 phi u) (exp2G CP (bt p)) := exp2G_is CP phi u (bt p)
      rw [e0]
      unfold lhB
      rw [sumF_map]
      refine sumF_congr fun x _ => ?_
      unfold exV2 tmV
      simp only [Int.mul_one]
    rw [e1, ← nrm_is phi u (fun _ => 1) hu, e, nrm_is phi u (fun _ => 1) hu, rhB_is]
/-- the cuts that leave a trunk, and the one that leaves none -/
theorem cv_split (phi u : Nat → Int) (h1 : u 0 = 1) {p : Nat} (h0 : 0 < p) (hp : p < 38) : cv phi u p = phi p + sumF (fun c => if c.1.2 = 0 then 0 else (c.2 : Int) * (pz phi c.1.1 * u c.1.2)) (CP p) := by
  rw [cv_pos phi u h0 hp, h1, Int.mul_one, Int.add_comm]
  congr 1
  refine sumF_congr fun c _ => ?_
  unfold posT cvT
  by_cases hc : c.1.2 = 0
  · rw [hc]; rfl
  · have : Nat.blt 0 c.1.2 = true := Nat.ble_eq_true_of_le (by omega)
    rw [this, cond_true, if_neg hc]
/-- the stages behind values that come in -/
theorem wt_comp (s : Nat) (A : Nat → Nat → Int) (phi : Nat → Int) : ∀ (n i p : Nat), 0 < p → p < 38 → szT p ≤ n → wt s A phi i p = sumF (ruT phi (uV s A i)) (CP p)
  | 0, i, p, h0, hp, hn => by have := szN_pos (i := p - 1) (by omega); rw [show p - 1 + 1 = p by omega, ← szT_is hp] at this; omega
  | n + 1, i, p, h0, hp, hn => by
    rw [wt_is s A phi i hp, ← branch_id phi (uV s A i) (if_pos rfl) h0 hp]
    refine pz_congr fun q hq => ?_
    obtain ⟨q0, q1, q2⟩ := bt_at hp hq
    rw [cv_split phi (uV s A i) (if_pos rfl) q0 q1]
    congr 1
    have e : sR s (fun k => A i k * wt s A phi k q) = sR s (fun k => sumF (fun c => A i k * ruT phi (uV s A k) c) (CP q)) := sR_congr fun k _ => by
      rw [wt_comp s A phi n k q q0 q1 (by omega), sumF_mul]
    rw [e, sR_swap s (fun _ _ => 0) (CP q) (fun k c => A i k * ruT phi (uV s A k) c)]
    refine sumF_congr fun c hc => ?_
    have hpc := pc_at q1 hc
    unfold ruT
    by_cases h : c.1.2 = 0
    · rw [if_pos h]
      have : sR s (fun k => A i k * (if c.1.2 = 0 then 0 else (c.2 : Int) * (pz phi c.1.1 * pz (uV s A k) (bt c.1.2)))) = sR s (fun _ => 0) := sR_congr fun k _ => by rw [if_pos h, Int.mul_zero]
      rw [this]
      exact sumR0 s
    · rw [if_neg h]
      have e2 : uV s A i c.1.2 = sR s (fun k => A i k * wt s A zeroV k c.1.2) := if_neg h
      rw [e2, ← Int.mul_assoc, sR_mul]
      refine sR_congr fun k _ => ?_
      rw [if_neg h, wt_zero s A k (show c.1.2 < 38 by have := hpc.2; omega)]
      simp only [Int.mul_assoc, Int.mul_left_comm, Int.mul_comm]
end Go.Proofs.Ytbjeibcombjfgaa

set_option maxRecDepth 100000
namespace Go.Proofs.Ytbjeibcombjfgaa

def HTab : List (Nat × Bool) := [(0, true), (1, true), (0, true), (2, true), (2, false), (0, false), (3, true), (0, true), (3, false), (4, true), (5, true), (5, false), (4, false), (6, true), (5, false), (4, true), (5, true), (6, false), (0, true), (7, true), (8, true), (7, true), (0, false), (9, true), (0, false), (7, false), (8, false), (9, false), (8, false), (0, true), (7, false), (10, true), (9, false), (7, true), (0, true), (8, true), (9, true), (10, false)]
def HCer : List (Nat × Nat × Nat) := [(4, 0, 1), (8, 0, 3), (12, 0, 4), (14, 0, 5), (17, 0, 7), (25, 0, 9), (28, 0, 10), (32, 0, 12), (37, 0, 16), (15, 1, 2), (16, 1, 3), (33, 1, 5), (35, 1, 6), (36, 1, 7), (30, 2, 3), (11, 6, 0), (21, 11, 0), (26, 14, 0), (27, 15, 0), (2, 0, 0), (7, 1, 1), (5, 0, 2), (29, 2, 2), (22, 1, 4), (18, 8, 0), (34, 3, 3), (24, 0, 13)]
def HBas : List Nat := [1, 3, 6, 9, 10, 13, 19, 20, 23, 31]
end Go.Proofs.Ytbjeibcombjfgaa

set_option maxRecDepth 100000
set_option linter.unusedVariables false
set_option linter.unusedSimpArgs false
namespace Go.Proofs.Ytbjeibcombjfgaa
open Go.RowKit

def gIdx (u v : List Nat) : Nat := match canO 9 (graL u 0 v) with
  | some r => fndN T6n r
  | none => 0
/-- the tree at an index -/
def tr (i : Nat) : List Nat := T6n.getD i []
theorem tr_at {i : Nat} {t : List Nat} (h : T6n[i]? = some t) : tr i = t := by unfold tr; rw [List.getD_eq_getElem?_getD, h]; rfl
theorem tr_get {i : Nat} (h : i < 37) : T6n[i]? = some (tr i) := by
  have ht : T6n[i]? = some (T6n[i]'(by rw [T6n_len]; exact h)) := List.getElem?_eq_getElem _
  rw [tr_at ht]; exact ht
theorem tr_mem {i : Nat} (h : i < 37) : tr i ∈ T6n := List.mem_of_getElem? (tr_get h)
/-- the condition at two trees -/
def prB (a : List Int) (c : Int) (i k : Nat) : Prop := (a.getD (gIdx (tr i) (tr k)) 0 + a.getD (gIdx (tr k) (tr i)) 0) % 10007 = c * (a.getD (i + 1) 0 * a.getD (k + 1) 0 % 10007) % 10007
instance (a : List Int) (c : Int) (i k : Nat) : Decidable (prB a c i k) := inferInstanceAs (Decidable (_ = _))
theorem prB_symm {a : List Int} {c : Int} {i k : Nat} (h : prB a c i k) : prB a c k i := by
  unfold prB at *
  rw [Int.add_comm, Int.mul_comm (a.getD (k + 1) 0)]
  exact h
/-- what r tells -/
structure ToR (a : List Int) (c : Int) (r : Nat) : Prop where
  le : r ≤ 6
  all : ∀ i k, i < 37 → k < 37 → (tr i).length + (tr k).length ≤ r → prB a c i k
  hit : r = 6 ∨ ∃ i k, i < 37 ∧ k < 37 ∧ (tr i).length + (tr k).length = r + 1 ∧ ¬ prB a c i k
theorem ToR.unique {a : List Int} {c : Int} {r s : Nat} (h : ToR a c r) (g : ToR a c s) : r = s := by
  rcases Nat.lt_trichotomy r s with hl | he | hl
  · rcases h.hit with h1 | ⟨i, k, hi, hk, hn, hp⟩
    · have := g.le; omega
    · exact absurd (g.all i k hi hk (by omega)) hp
  · exact he
  · rcases g.hit with h1 | ⟨i, k, hi, hk, hn, hp⟩
    · have := h.le; omega
    · exact absurd (h.all i k hi hk (by omega)) hp
/-- on the way through the pairs with k up to i, row by row: those ahead of (i, k) are done -/
structure ToM (a : List Int) (c : Int) (i k m : Nat) : Prop where
  le : m ≤ 6
  all : ∀ i' k', i' < 37 → k' ≤ i' → (i' < i ∨ (i' = i ∧ k' < k)) → (tr i').length + (tr k').length ≤ m → prB a c i' k'
  hit : m = 6 ∨ ∃ i k, i < 37 ∧ k < 37 ∧ (tr i).length + (tr k).length = m + 1 ∧ ¬ prB a c i k
theorem ToM.skip {a : List Int} {c : Int} {i k m : Nat} (h : ToM a c i k m) (hn : m < (tr i).length + (tr k).length) : ToM a c i (k + 1) m := by
  refine ⟨h.le, fun i' k' hi hk hd hm => ?_, h.hit⟩
  by_cases e : i' = i ∧ k' = k
  · obtain ⟨rfl, rfl⟩ := e; omega
  · exact h.all i' k' hi hk (by omega) hm
theorem ToM.good {a : List Int} {c : Int} {i k m : Nat} (h : ToM a c i k m) (hp : prB a c i k) : ToM a c i (k + 1) m := by
  refine ⟨h.le, fun i' k' hi hk hd hm => ?_, h.hit⟩
  by_cases e : i' = i ∧ k' = k
  · obtain ⟨rfl, rfl⟩ := e; exact hp
  · exact h.all i' k' hi hk (by omega) hm
theorem ToM.row {a : List Int} {c : Int} {i m : Nat} (h : ToM a c i (i + 1) m) : ToM a c (i + 1) 0 m :=
  ⟨h.le, fun i' k' hi hk hd hm => h.all i' k' hi hk (by omega) hm, h.hit⟩
theorem ToM.fin {a : List Int} {c : Int} {m : Nat} (h : ToM a c 37 0 m) : ToR a c m := by
  refine ⟨h.le, fun i k hi hk hm => ?_, h.hit⟩
  by_cases hki : k ≤ i
  · exact h.all i k hi hki (by omega) hm
  · exact prB_symm (h.all k i hk (by omega) (by omega) (by omega))
/-- on the way of the reference: all pairs with fewer than n nodes, and those with n nodes ahead of (i, k) -/
structure ToS (a : List Int) (c : Int) (n i k : Nat) : Prop where
  low : ∀ i' k', i' < 37 → k' < 37 → (tr i').length + (tr k').length < n → prB a c i' k'
  all : ∀ i' k', i' < 37 → k' < 37 → (i' < i ∨ (i' = i ∧ k' < k)) → (tr i').length + (tr k').length = n → prB a c i' k'
theorem ToS.skip {a : List Int} {c : Int} {n i k : Nat} (h : ToS a c n i k) (hn : (tr i).length + (tr k).length ≠ n) : ToS a c n i (k + 1) := by
  refine ⟨h.low, fun i' k' hi hk hd hm => ?_⟩
  by_cases e : i' = i ∧ k' = k
  · obtain ⟨rfl, rfl⟩ := e; exact absurd hm hn
  · exact h.all i' k' hi hk (by omega) hm
theorem ToS.good {a : List Int} {c : Int} {n i k : Nat} (h : ToS a c n i k) (hp : prB a c i k) : ToS a c n i (k + 1) := by
  refine ⟨h.low, fun i' k' hi hk hd hm => ?_⟩
  by_cases e : i' = i ∧ k' = k
  · obtain ⟨rfl, rfl⟩ := e; exact hp
  · exact h.all i' k' hi hk (by omega) hm
theorem ToS.row {a : List Int} {c : Int} {n i : Nat} (h : ToS a c n i 37) : ToS a c n (i + 1) 0 :=
  ⟨h.low, fun i' k' hi hk hd hm => h.all i' k' hi hk (by omega) hm⟩
theorem ToS.next {a : List Int} {c : Int} {n : Nat} (h : ToS a c n 37 0) : ToS a c (n + 1) 0 0 := by
  refine ⟨fun i k hi hk hm => ?_, fun i' k' _ _ h _ => by omega⟩
  by_cases e : (tr i).length + (tr k).length = n
  · exact h.all i k hi hk (.inl hi) e
  · exact h.low i k hi hk (by omega)
theorem ToS.fin {a : List Int} {c : Int} (h : ToS a c 7 0 0) : ToR a c 6 :=
  ⟨Nat.le_refl _, fun i k hi hk hm => h.low i k hi hk (by omega), .inl rfl⟩
end Go.Proofs.Ytbjeibcombjfgaa

set_option maxRecDepth 100000
set_option linter.unusedVariables false
set_option linter.unusedSimpArgs false
namespace Go.Proofs.Ytbjeibcombjfgaa
open Go.RowKit

end Go.Proofs.Ytbjeibcombjfgaa

set_option linter.unusedVariables false
set_option linter.unusedSimpArgs false
set_option maxRecDepth 100000
namespace Go.Proofs.Ytbjeibcombjfgaa

abbrev CT := List Nat × Nat
end Go.Proofs.Ytbjeibcombjfgaa

set_option maxRecDepth 100000
set_option linter.unusedVariables false
set_option linter.unusedSimpArgs false
namespace Go.Proofs.Ytbjeibcombjfgaa
open Go.RowKit

abbrev tC : TypeId := 90
theorem keepCell {w w' : World} {ad : Addr} {v : Value} (hb : Below w.heap.size w w') (h : w.cell? ad = some v) : w'.cell? ad = some v := by rw [hb.cell (World.block_lt_of_cell? w _ h)]; exact h
/-- the cells of a sum: trees in blocks from B on, and counts -/
def CtE (w : World) (B : Nat) (css : List (List Value)) (xs : List CT) : Prop := css.length = xs.length ∧ ∀ (k : Nat) (c : List Value) (x : CT), css[k]? = some c → xs[k]? = some x → ∃ u, c = [u, .int .i64 (x.2 : Nat)] ∧ OwnInts w B tI u (up x.1)
section
variable {w w' : World} {B : Nat} {css : List (List Value)} {xs : List CT}
theorem CtE.nil (w : World) (B : Nat) : CtE w B [] [] := ⟨rfl, fun k c x h => by simp at h⟩
theorem CtE.below (h : CtE w B css xs) (hb : Below w.heap.size w w') : CtE w' B css xs := ⟨h.1, fun k c x hc hx => by obtain ⟨u, e, ho⟩ := h.2 k c x hc hx; exact ⟨u, e, ho.below hb⟩⟩
theorem CtE.mono {B' : Nat} (h : CtE w B css xs) (hB : B' ≤ B) : CtE w B' css xs := ⟨h.1, fun k c x hc hx => by obtain ⟨u, e, ho⟩ := h.2 k c x hc hx; exact ⟨u, e, ho.mono hB⟩⟩
theorem CtE.kept {v : Value} {e : TypeId} (h : CtE w B css xs) (hg : w.grownBy w' v.ownBlock) (hb : BT w e v) (hne : tI ≠ e) : CtE w' B css xs := ⟨h.1, fun k c x hc hx => by obtain ⟨u, e, ho⟩ := h.2 k c x hc hx; exact ⟨u, e, ho.kept hg (ho.1.bt.ne hb hne)⟩⟩
theorem CtE.snoc {u : Value} {t : List Nat} {n : Nat} (h : CtE w B css xs) (hu : OwnInts w B tI u (up t)) : CtE w B (css ++ [[u, .int .i64 (n : Nat)]]) (xs ++ [(t, n)]) := by
  refine ⟨by simp [h.1], fun k c x hk hx => ?_⟩
  by_cases hlt : k < css.length
  · rw [List.getElem?_append_left hlt] at hk
    rw [List.getElem?_append_left (by rw [← h.1]; exact hlt)] at hx
    exact h.2 k c x hk hx
  · have hkl := (List.getElem?_eq_some_iff.1 hk).1
    simp at hkl
    have : k = css.length := by omega
    subst this
    rw [List.getElem?_append_right (Nat.le_refl _)] at hk
    rw [List.getElem?_append_right (by rw [h.1]; exact Nat.le_refl _), h.1] at hx
    simp at hk hx
    subst hk; subst hx
    exact ⟨u, rfl, hu⟩
end
def CtR (w : World) (B : Nat) (v : Value) (xs : List CT) : Prop := ∃ css, OwnK w B tC 2 v css ∧ CtE w B css xs
section
variable {w w' : World} {B : Nat} {v : Value} {xs : List CT}
theorem CtR.below (h : CtR w B v xs) (hb : Below w.heap.size w w') : CtR w' B v xs := by obtain ⟨css, h1, h2⟩ := h; exact ⟨css, h1.below hb, h2.below hb⟩
theorem CtR.mono {B' : Nat} (h : CtR w B v xs) (hB : B' ≤ B) : CtR w B' v xs := by obtain ⟨css, h1, h2⟩ := h; exact ⟨css, h1.mono hB, h2.mono hB⟩
theorem CtR.open_ (h : CtR w B v xs) : ∃ A c, v = .slice A xs.length c ∧ xs.length ≤ c ∧ c ≤ 9223372036854775807 := by
  obtain ⟨css, h1, h2⟩ := h
  have := h1.open_
  rwa [h2.1] at this
/-- the element at a place -/
theorem CtR.at_ {k : Nat} {t : List Nat} {n : Nat} (h : CtR w B v xs) (hx : xs[k]? = some (t, n)) : ∃ g cap A c, v = .slice (some ⟨g, 0, none⟩) xs.length cap ∧ w.cell? ⟨g, k * 2, none⟩ = some (.slice A t.length c) ∧ w.cell? ⟨g, k * 2 + 1, none⟩ = some (.int .i64 (n : Nat)) ∧ OwnInts w B tI (.slice A t.length c) (up t) := by
  obtain ⟨css, h1, h2⟩ := h
  have hk : k < css.length := by rw [h2.1]; exact (List.getElem?_eq_some_iff.1 hx).1
  have hc : css[k]? = some (css[k]'hk) := List.getElem?_eq_getElem _
  obtain ⟨u, e, ho⟩ := h2.2 k _ _ hc hx
  rw [e] at hc
  obtain ⟨g, cap, hv, hc0⟩ := h1.cell (j := 0) hc rfl
  obtain ⟨A, c, hu, -, -, -⟩ := ho.ints.open_
  rw [up_len] at hu
  subst hv
  have hc1 := h1.cellAt (j := 1) hc rfl
  subst hu
  exact ⟨g, cap, A, c, by rw [h2.1], hc0, hc1, ho⟩
/-- one element more -/
theorem CtR.snoc {css : List (List Value)} {u v' : Value} {t : List Nat} {n : Nat} (h1 : OwnK w B tC 2 v css) (h2 : CtE w B css xs) (hu : OwnInts w B tI u (up t)) (ho : OwnK w' B tC 2 v' (css ++ [[u, .int .i64 (n : Nat)]])) (hg : Grow w w' v v') : CtR w' B v' (xs ++ [(t, n)]) :=
  ⟨_, ho, (h2.snoc hu).kept hg.1 h1.bt (by decide)⟩
end
end Go.Proofs.Ytbjeibcombjfgaa

set_option maxRecDepth 100000
set_option linter.unusedVariables false
set_option linter.unusedSimpArgs false
namespace Go.Proofs.Ytbjeibcombjfgaa
open Go.RowKit

/-- rows of neighbours, apart or not: each a list of numbers in a block from B on -/
def RN (w : World) (B : Nat) (vs : List Value) (nss : List (List Nat)) : Prop :=
  vs.length = nss.length ∧ ∀ (k : Nat) (u : Value) (ns : List Nat), vs[k]? = some u → nss[k]? = some ns → OwnInts w B tN u (up ns)
section
variable {w w' : World} {B : Nat} {vs : List Value} {nss : List (List Nat)}
theorem RN.below (h : RN w B vs nss) (hb : Below w.heap.size w w') : RN w' B vs nss := ⟨h.1, fun k u zs hu hz => (h.2 k u zs hu hz).below hb⟩
theorem RN.mono {B' : Nat} (h : RN w B vs nss) (hB : B' ≤ B) : RN w B' vs nss := ⟨h.1, fun k u zs hu hz => (h.2 k u zs hu hz).mono hB⟩
theorem RN.snoc {u : Value} {ns : List Nat} (h : RN w B vs nss) (hu : OwnInts w B tN u (up ns)) : RN w B (vs ++ [u]) (nss ++ [ns]) := by
  refine ⟨by simp [h.1], fun k u' zs' hk hz => ?_⟩
  by_cases hlt : k < vs.length
  · rw [List.getElem?_append_left hlt] at hk
    rw [List.getElem?_append_left (by rw [← h.1]; exact hlt)] at hz
    exact h.2 k u' zs' hk hz
  · have hkl := (List.getElem?_eq_some_iff.1 hk).1
    simp at hkl
    have : k = vs.length := by omega
    subst this
    rw [List.getElem?_append_right (Nat.le_refl _)] at hk
    rw [List.getElem?_append_right (by rw [h.1]; exact Nat.le_refl _), h.1] at hz
    simp at hk hz
    subst hk; subst hz
    exact hu
theorem RN.set {k : Nat} {u : Value} {ns : List Nat} (h : RN w B vs nss) (hu : OwnInts w B tN u (up ns)) : RN w B (vs.set k u) (nss.set k ns) := by
  refine ⟨by simp [h.1], fun j u' zs' hj hz => ?_⟩
  rw [List.getElem?_set] at hj hz
  by_cases hjk : k = j
  · subst hjk
    rw [if_pos rfl] at hj hz
    split at hj
    · rw [if_pos (by rw [← h.1]; assumption)] at hz
      injection hj with hj; injection hz with hz
      subst hj; subst hz
      exact hu
    · cases hj
  · rw [if_neg hjk] at hj hz
    exact h.2 j u' zs' hj hz
theorem RN.kept {v : Value} {e : TypeId} (h : RN w B vs nss) (hg : w.grownBy w' v.ownBlock) (hb : BT w e v) (hne : tN ≠ e) : RN w' B vs nss :=
  ⟨h.1, fun k u zs hu hz => (h.2 k u zs hu hz).kept hg ((h.2 k u zs hu hz).1.bt.ne hb hne)⟩
theorem RN.rows {v : Value} {B' : Nat} (h : RN w B vs nss) (ho : Own w B' tNL v vs) : Rows w v (nss.map up) :=
  ⟨vs, ho.cells, by rw [List.length_map]; exact h.1, fun k u zs hu hz => by
    rw [List.getElem?_map] at hz
    cases hn : nss[k]? with
    | none => rw [hn] at hz; cases hz
    | some ns => rw [hn] at hz; injection hz with hz; subst hz; exact (h.2 k u ns hu hn).ints⟩
theorem RN.at_ {k : Nat} {ns : List Nat} (h : RN w B vs nss) (hz : nss[k]? = some ns) : ∃ A c, vs[k]? = some (.slice A ns.length c) ∧ OwnInts w B tN (.slice A ns.length c) (up ns) := by
  have hk : k < vs.length := by rw [h.1]; exact (List.getElem?_eq_some_iff.1 hz).1
  have hu : vs[k]? = some (vs[k]'hk) := List.getElem?_eq_getElem _
  have ho := h.2 k _ ns hu hz
  obtain ⟨A, c, he, -, -, -⟩ := ho.ints.open_
  rw [up_len] at he
  exact ⟨A, c, by rw [hu, he], by rw [← he]; exact ho⟩
end
end Go.Proofs.Ytbjeibcombjfgaa

set_option maxRecDepth 100000
set_option linter.unusedVariables false
set_option linter.unusedSimpArgs false
namespace Go.Proofs.Ytbjeibcombjfgaa
open Go.RowKit

end Go.Proofs.Ytbjeibcombjfgaa

set_option maxRecDepth 100000
set_option linter.unusedVariables false
set_option linter.unusedSimpArgs false
namespace Go.Proofs.Ytbjeibcombjfgaa
open Go.RowKit

theorem wr_mul {a d : Nat} (h : a * d ≤ 1000000) : wrap64 ((a : Int) * (d : Int)) = ((a * d : Nat) : Int) ∧ IntKind.i64.wrap ((a : Int) * (d : Int)) = ((a * d : Nat) : Int) := by
  have h0 : ((a : Int) * (d : Int)) = ((a * d : Nat) : Int) := (Int.natCast_mul a d).symm
  rw [h0]
  generalize a * d = x at h
  have hb : -9223372036854775808 ≤ (x : Int) ∧ (x : Int) ≤ 9223372036854775807 := by omega
  exact ⟨by unfold wrap64; omega, IntWalk.i64_in _ hb⟩

set_option maxHeartbeats 4000000 in
theorem i_density : ∀ (f : Nat) (w : World) (v : Value) (t : List Nat) (r : Nat), Ints w v (up t) → denO f t = some r → t.length ≤ 1000 → (∀ l ∈ t, l ≤ 1000000) →
    Calls Try.prog 188 #[v] w fun e w' => e = .returned (.int .i64 (r : Nat)) ∧ Below w.heap.size w w' := by
  intro f
  induction f with
  | zero => intro w v t r _ h; cases h
  | succ f ih =>
    intro w v t r ha hr hn hl
    obtain ⟨bs, hb, hd⟩ := denO_succ hr
    have hbl := brO_lens hb hn
    have hbm := brO_mem hb hl
    have IH := Lib.hid ih
    have HA := Lib.hid ha
    have HB := Lib.hid (i_branchesOf w v t bs ha hb hn hl)
    have HLN := Lib.hid (lib_lengthI w v _ ha)
    rw [up_len] at HLN
    have HD := Lib.hid hd
    have HBL := Lib.hid hbl
    have HBM := Lib.hid hbm
    have hbl1 := hbl.1
    obtain ⟨A, c, rfl, -, -, -⟩ := ha.open_
    rw [up_len] at HA HB HLN ⊢
    clear ih ha hr hb hd hbl hbm hl
    go_enter Try.func188, Try.ntmps188
    go_wp2_with (first
      | (go_at_call 115; refine HLN.out.mono ?_; rintro e w0 ⟨rfl, rfl⟩)
      | (go_at_call 158; refine HB.out.mono ?_; rintro e w1 ⟨x1, rfl, hx1, hb1⟩; obtain ⟨vs, hv, hrr⟩ := hx1; have hvl := hrr.1; rw [List.length_map] at hvl; obtain ⟨A1, c1, rfl, -, -⟩ := hv.cells.open_; have HV := Lib.hid hv; have HRR := Lib.hid hrr; have HB1 := Lib.hid hb1; have HVL := Lib.hid hvl; clear hv hrr hb1 hvl))
    go_loopw [3, 11] (fun o x wr => ∃ (k a : Nat), k ≤ vs.length ∧ a ≤ 1000000 ∧ x = .int .i64 k ∧ o = .int .i64 a ∧ Hid (denL (denO f) (bs.drop k) a = some r) ∧ Below w1.heap.size w1 wr) (fun _ x _ => vs.length - (intOf x).toNat)
    case atStart => exact ⟨0, t.length, Nat.zero_le _, by omega, rfl, rfl, HD.out, Below.refl _ _⟩
    case round =>
      obtain ⟨k, a, hk, ha6, rfl, rfl, hD, hb⟩ := hrel
      have HBK := Lib.hid hb
      have hvn : vs.length ≤ 1000 := by rw [HVL.out]; exact hbl1
      clear hb
      by_cases hlt : k < vs.length
      · obtain ⟨b, hbk⟩ : ∃ b, bs[k]? = some b := ⟨_, List.getElem?_eq_getElem (by rw [← HVL.out]; exact hlt)⟩
        have hdr : bs.drop k = b :: bs.drop (k + 1) := by
          obtain ⟨h1, h2⟩ := List.getElem?_eq_some_iff.1 hbk
          rw [List.drop_eq_getElem_cons h1, h2]
        have hD2 := hD.out
        rw [hdr] at hD2
        obtain ⟨d, hd1, hd2, hd3⟩ := denL_cons hD2
        obtain ⟨u, hu⟩ : ∃ u, vs[k]? = some u := ⟨_, List.getElem?_eq_getElem hlt⟩
        obtain ⟨ad, n', c', he, hcell⟩ := (HV.out.below HBK.out).cells.at_ hu
        simp only [Value.slice.injEq] at he
        obtain ⟨rfl, -, -⟩ := he
        have hrow := (HRR.out.below HBK.out).2 k u (up b) hu (by rw [List.getElem?_map, hbk]; rfl)
        have HRO := Lib.hid hrow
        have HC := Lib.hid (IH.out wr u b d hrow.ints hd1 (HBL.out.2 b (List.mem_of_getElem? hbk)) (HBM.out b (List.mem_of_getElem? hbk)))
        have HD3 := Lib.hid hd3
        obtain ⟨hw1, hw2⟩ := wr_mul hd2
        have hkk : (k : Int) < (vs.length : Int) := by omega
        clear hbk hdr hD hD2 hd1 hd3 hrow hu
        go_wp2_with (go_at_call 188; go_loud (refine HC.out.mono ?_; rintro e w2 ⟨rfl, hb2⟩; have HB2 := Lib.hid hb2; clear hb2))
        go_roundw
        case rel => exact ⟨k + 1, a * d, by omega, hd2, by go_num, rfl, HD3.out, HBK.out.trans (HB2.out.mono HBK.out.size)⟩
        case measure => simp [intOf]; omega
      · have hkl : k = bs.length := by rw [← HVL.out]; omega
        have hD2 := hD.out
        rw [hkl, List.drop_length, denL] at hD2
        injection hD2 with hD2
        subst hD2
        clear hkl
        go_wp2_with fail
        go_ret
        exact ⟨rfl, HB1.out.trans (HBK.out.mono HB1.out.size)⟩

end Go.Proofs.Ytbjeibcombjfgaa

set_option maxRecDepth 100000
set_option linter.unusedVariables false
set_option linter.unusedSimpArgs false
namespace Go.Proofs.Ytbjeibcombjfgaa
open Go.RowKit

/-- a list that is filled from the front, the rest 0 -/
def filT (l : List Int) (i : Nat) : List Int := l.take i ++ List.replicate (l.length - i) 0
theorem in64_num {z : Int} (h : 0 ≤ z ∧ z ≤ 10006) : In64 z := by unfold In64; omega

/-- the row of a tree -/
theorem Rows.tree {w : World} {A : Option Addr} {c : Nat} (h : Rows w (.slice A 37 c) (T6n.map up)) {i : Nat} (hi : i < 37) :
    ∃ ad At ct t, A = some ad ∧ T6n[i]? = some t ∧ Ints w (.slice At t.length ct) (up t) ∧ w.cell? (ad.add i) = some (.slice At t.length ct) := by
  obtain ⟨A', c', he, -, -, h3⟩ := h.open_
  rw [List.length_map, T6n_len] at he h3
  simp only [Value.slice.injEq, true_and] at he
  obtain ⟨rfl, rfl⟩ := he
  obtain ⟨ad, u, zs, rfl, hz, hu, hc⟩ := h3 i hi
  have ht : T6n[i]? = some (T6n[i]'(by rw [T6n_len]; exact hi)) := List.getElem?_eq_getElem _
  rw [List.getElem?_map, ht] at hz
  injection hz with hz
  subst hz
  obtain ⟨Au, cu, rfl, -, -, -⟩ := hu.open_
  rw [up_len] at hu hc
  exact ⟨ad, Au, cu, _, rfl, ht, hu, hc⟩

end Go.Proofs.Ytbjeibcombjfgaa

set_option maxRecDepth 100000
set_option linter.unusedVariables false
set_option linter.unusedSimpArgs false
namespace Go.Proofs.Ytbjeibcombjfgaa
open Go.RowKit

end Go.Proofs.Ytbjeibcombjfgaa

set_option maxRecDepth 100000
set_option linter.unusedVariables false
set_option linter.unusedSimpArgs false
namespace Go.Proofs.Ytbjeibcombjfgaa
open Go.RowKit

end Go.Proofs.Ytbjeibcombjfgaa

set_option maxRecDepth 100000
set_option linter.unusedVariables false
set_option linter.unusedSimpArgs false
namespace Go.Proofs.Ytbjeibcombjfgaa
open Go.RowKit

end Go.Proofs.Ytbjeibcombjfgaa

set_option maxRecDepth 100000
set_option linter.unusedVariables false
set_option linter.unusedSimpArgs false
namespace Go.Proofs.Ytbjeibcombjfgaa
open Go.RowKit

end Go.Proofs.Ytbjeibcombjfgaa

set_option maxRecDepth 100000
set_option linter.unusedVariables false
set_option linter.unusedSimpArgs false
namespace Go.Proofs.Ytbjeibcombjfgaa
open Go.RowKit

end Go.Proofs.Ytbjeibcombjfgaa

set_option maxRecDepth 100000
set_option linter.unusedVariables false
set_option linter.unusedSimpArgs false
namespace Go.Proofs.Ytbjeibcombjfgaa
open Go.RowKit

end Go.Proofs.Ytbjeibcombjfgaa

set_option maxRecDepth 100000
set_option linter.unusedVariables false
set_option linter.unusedSimpArgs false
namespace Go.Proofs.Ytbjeibcombjfgaa
open Go.RowKit

end Go.Proofs.Ytbjeibcombjfgaa

set_option maxRecDepth 100000
set_option linter.unusedVariables false
set_option linter.unusedSimpArgs false
namespace Go.Proofs.Ytbjeibcombjfgaa
open Go.RowKit

end Go.Proofs.Ytbjeibcombjfgaa

set_option maxRecDepth 100000
set_option linter.unusedVariables false
set_option linter.unusedSimpArgs false
namespace Go.Proofs.Ytbjeibcombjfgaa
open Go.RowKit

end Go.Proofs.Ytbjeibcombjfgaa

set_option maxRecDepth 100000
set_option linter.unusedVariables false
set_option linter.unusedSimpArgs false
namespace Go.Proofs.Ytbjeibcombjfgaa
open Go.RowKit

end Go.Proofs.Ytbjeibcombjfgaa

set_option maxRecDepth 100000
set_option linter.unusedVariables false
set_option linter.unusedSimpArgs false
namespace Go.Proofs.Ytbjeibcombjfgaa
open Go.RowKit

end Go.Proofs.Ytbjeibcombjfgaa

set_option maxRecDepth 100000
set_option linter.unusedVariables false
set_option linter.unusedSimpArgs false
namespace Go.Proofs.Ytbjeibcombjfgaa
open Go.RowKit

end Go.Proofs.Ytbjeibcombjfgaa

set_option maxRecDepth 100000
set_option linter.unusedVariables false
set_option linter.unusedSimpArgs false
namespace Go.Proofs.Ytbjeibcombjfgaa
open Go.RowKit

end Go.Proofs.Ytbjeibcombjfgaa

set_option maxRecDepth 100000
set_option linter.unusedVariables false
set_option linter.unusedSimpArgs false
namespace Go.Proofs.Ytbjeibcombjfgaa
open Go.RowKit

theorem LA.keptLt {w w' : World} {B g : Nat} {v : Value} {xss : List (List Int)} (h : LA w B v xss) (hg : w.grownBy w' (some g)) (hlt : g < B) : LA w' B v xss := by
  obtain ⟨vs, h1, h2, h3⟩ := h
  have ne : ∀ u : Value, (∀ b, u.ownBlock = some b → B ≤ b) → u.ownBlock = none ∨ u.ownBlock ≠ some g := fun u hu => by
    cases hb : u.ownBlock with
    | none => exact .inl rfl
    | some b => exact .inr fun e => by injection e with e; have := hu b hb; omega
  exact ⟨vs, h1.kept hg (ne v h1.ge), ⟨h2.1, fun k u zs hu hz => ⟨(h2.2 k u zs hu hz).1.kept hg (ne u (h2.2 k u zs hu hz).1.ge), (h2.2 k u zs hu hz).2⟩⟩, h3⟩

end Go.Proofs.Ytbjeibcombjfgaa

set_option maxRecDepth 100000
set_option linter.unusedVariables false
set_option linter.unusedSimpArgs false
namespace Go.Proofs.Ytbjeibcombjfgaa
open Go.RowKit

end Go.Proofs.Ytbjeibcombjfgaa

set_option maxRecDepth 100000
namespace Go.Proofs.Ytbjeibcombjfgaa

end Go.Proofs.Ytbjeibcombjfgaa

set_option maxRecDepth 100000
set_option linter.unusedVariables false
set_option linter.unusedSimpArgs false
namespace Go.Proofs.Ytbjeibcombjfgaa

/-! ### the unit -/
end Go.Proofs.Ytbjeibcombjfgaa

set_option maxRecDepth 100000
namespace Go.Proofs
open Go.Shelf Go.RowKit Go.Lib Go.Sort
def Try.psort_ren : Go.Shelf.Ren := ⟨fun | 6 => 177 | 15 => 204 | 14 => 208 | 28 => 227 | 29 => 228 | 20 => 230 | 21 => 231 | 22 => 232 | 23 => 233 | 24 => 234 | 25 => 235 | 26 => 236 | 27 => 237 | 46 => 246 | 47 => 242 | 48 => 243 | 49 => 247 | 50 => 248 | 57 => 252 | n => n, fun | 22 => 59 | 24 => 63 | 25 => 142 | 3 => 3 | 39 => 105 | 0 => 0 | 53 => 174 | 55 => 64 | 4 => 4 | 46 => 168 | 45 => 167 | 50 => 139 | 5 => 5 | 9 => 9 | 66 => 181 | 70 => 185 | 76 => 191 | 77 => 192 | n => n, fun | n => n⟩
theorem Try.psort : Go.Proofs.SlLaysF0.n6 Try.prog Try.psort_ren := {
  mixed := by kernel_rfl
  f6 := ⟨Try.f177.name, by decide, Try.func177.trans (congrArg some (by kernel_rfl))⟩
  f14 := ⟨Try.f208.name, by decide, Try.func208.trans (congrArg some (by kernel_rfl))⟩
  f15 := Try.func204.trans (congrArg some (by kernel_rfl))
  f20 := ⟨Try.f230.name, by decide, Try.func230.trans (congrArg some (by kernel_rfl))⟩
  f21 := ⟨Try.f231.name, by decide, Try.func231.trans (congrArg some (by kernel_rfl))⟩
  f22 := ⟨Try.f232.name, by decide, Try.func232.trans (congrArg some (by kernel_rfl))⟩
  f23 := ⟨Try.f233.name, by decide, Try.func233.trans (congrArg some (by kernel_rfl))⟩
  f24 := ⟨Try.f234.name, by decide, Try.func234.trans (congrArg some (by kernel_rfl))⟩
  f25 := ⟨Try.f235.name, by decide, Try.func235.trans (congrArg some (by kernel_rfl))⟩
  f26 := ⟨Try.f236.name, by decide, Try.func236.trans (congrArg some (by kernel_rfl))⟩
  f27 := ⟨Try.f237.name, by decide, Try.func237.trans (congrArg some (by kernel_rfl))⟩
  f28 := Try.func227.trans (congrArg some (by kernel_rfl))
  f29 := Try.func228.trans (congrArg some (by kernel_rfl))
  f46 := ⟨Try.f246.name, by decide, Try.func246.trans (congrArg some (by kernel_rfl))⟩
  f47 := Try.func242.trans (congrArg some (by kernel_rfl))
  f48 := Try.func243.trans (congrArg some (by kernel_rfl))
  f49 := ⟨Try.f247.name, by decide, Try.func247.trans (congrArg some (by kernel_rfl))⟩
  f50 := ⟨Try.f248.name, by decide, Try.func248.trans (congrArg some (by kernel_rfl))⟩
  f57 := ⟨Try.f252.name, by decide, Try.func252.trans (congrArg some (by kernel_rfl))⟩
  t0 := Try.underlying0
  a0 := Try.isAgg0
  z0 := Try.sizeOf0
  v0 := Try.zeroValue0
  t3 := Try.underlying3
  a3 := Try.isAgg3
  z3 := Try.sizeOf3
  v3 := Try.zeroValue3
  t4 := Try.underlying4
  a4 := Try.isAgg4
  z4 := Try.sizeOf4
  v4 := Try.zeroValue4
  t5 := Try.underlying5
  a5 := Try.isAgg5
  z5 := Try.sizeOf5
  v5 := Try.zeroValue5
  t9 := Try.underlying9
  a9 := Try.isAgg9
  z9 := Try.sizeOf9
  v9 := Try.zeroValue9
  t22 := Try.underlying59
  a22 := Try.isAgg59
  z22 := Try.sizeOf59
  v22 := Try.zeroValue59
  t25 := Try.underlying142
  a25 := Try.isAgg142
  z25 := Try.sizeOf142
  v25 := Try.zeroValue142
  t39 := Try.underlying105
  a39 := Try.isAgg105
  z39 := Try.sizeOf105
  v39 := Try.zeroValue105
  t45 := Try.underlying167
  a45 := Try.isAgg167
  z45 := Try.sizeOf167
  v45 := Try.zeroValue167
  t46 := Try.underlying168
  a46 := Try.isAgg168
  z46 := Try.sizeOf168
  v46 := Try.zeroValue168
  t50 := Try.underlying139
  a50 := Try.isAgg139
  z50 := Try.sizeOf139
  v50 := Try.zeroValue139
  t53 := Try.underlying174
  a53 := Try.isAgg174
  z53 := Try.sizeOf174
  v53 := Try.zeroValue174
  t55 := Try.underlying64
  a55 := Try.isAgg64
  z55 := Try.sizeOf64
  v55 := Try.zeroValue64
  t66 := Try.underlying181
  a66 := Try.isAgg181
  z66 := Try.sizeOf181
  v66 := Try.zeroValue181
  t70 := Try.underlying185
  a70 := Try.isAgg185
  z70 := Try.sizeOf185
  v70 := Try.zeroValue185
  t76 := Try.underlying191
  a76 := Try.isAgg191
  z76 := Try.sizeOf191
  v76 := Try.zeroValue191
  t77 := Try.underlying192
  a77 := Try.isAgg192
  z77 := Try.sizeOf192
  v77 := Try.zeroValue192 }
end Go.Proofs

set_option maxRecDepth 100000
set_option linter.unusedVariables false
set_option linter.unusedSimpArgs false
namespace Go.Proofs.Ytbjeibcombjfgaa
open Go.RowKit Go.Sort Go.Shelf

/-- pieces and skeleton -/
abbrev PK := List (List Nat) × List Nat
end Go.Proofs.Ytbjeibcombjfgaa

set_option maxRecDepth 100000
namespace Go.Proofs.Ytbjeibcombjfgaa
end Go.Proofs.Ytbjeibcombjfgaa

set_option maxRecDepth 100000
namespace Go.Proofs.Ytbjeibcombjfgaa
end Go.Proofs.Ytbjeibcombjfgaa

set_option linter.unusedVariables false
set_option linter.unusedSimpArgs false
set_option maxRecDepth 100000
namespace Go.Proofs.Ytbjeibcombjfgaa

end Go.Proofs.Ytbjeibcombjfgaa

