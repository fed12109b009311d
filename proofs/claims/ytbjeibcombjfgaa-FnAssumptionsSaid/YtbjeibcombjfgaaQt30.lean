/- Plain: quadrature, stage and column conditions up to some numbers give an order; an order gives quadrature conditions. No walk. | Plain: interpolation at different nodes; collocation tableaus meet the conditions; quadrature errors. No walk. | Plain: collocation tableaus: columns, quadrature order, order, mirrored nodes; kernel checks. No walk. | Plain: the collocation tableau of different nodes (lists of ColP) meets the conditions; the node polynomial. No walk. | Plain: an order gives quadrature conditions (bushy trees); the order of a tableau lies between its implied order and its quadrature order; that of a collocation tableau. No walk. -/
import Derived.Test.YtbjeibcombjfgaaQt12
import Derived.Test.YtbjeibcombjfgaaQt14
set_option maxRecDepth 100000
set_option linter.unusedVariables false
set_option linter.unusedSimpArgs false
namespace Go.Proofs.Ytbjeibcombjfgaa
open Go.RowKit

/-- the conditions of the three kinds, up to P, q and r; c are the nodes -/
structure BCD (s : Nat) (A : Nat → Nat → Int) (b c : Nat → Int) (P q r : Nat) : Prop where
  B : ∀ k, k < P → (((k : Int) + 1) * sR s (fun i => b i * c i ^ k)) % 10007 = 1
  C : ∀ k, k < q → ∀ i, i < s → (((k : Int) + 1) * sR s (fun j => A i j * c j ^ k)) % 10007 = c i ^ (k + 1) % 10007
  D : ∀ k, k < r → ∀ j, j < s → (((k : Int) + 1) * sR s (fun i => b i * c i ^ k * A i j)) % 10007 = b j * (1 - c j ^ (k + 1)) % 10007

theorem eN_one : eN 1 = 1 := by decide +kernel
theorem ta1 : (List.range 38).all (fun p => Nat.beq p 0 || Nat.beq (eN p * szT p % 10007) (prE (bt p) % 10007)) = true := by decide +kernel
theorem eN_bt {p : Nat} (h0 : 0 < p) (hp : p < 38) : (eN p : Int) * (szT p : Int) % 10007 = pz (gz EX) (bt p) % 10007 := by
  have h1 := ta1
  rw [List.all_eq_true] at h1
  have h2 := h1 p (List.mem_range.2 hp)
  rw [Bool.or_eq_true] at h2
  rcases h2 with h2 | h2
  · have := Nat.eq_of_beq_eq_true h2; omega
  · have h3 := Nat.eq_of_beq_eq_true h2
    rw [← prE_pz, ← Int.natCast_mul]
    omega
/-- what small trees give -/
theorem small_u {s : Nat} {A : Nat → Nat → Int} {b c : Nat → Int} {P q r : Nat} (h : BCD s A b c P q r) : ∀ (n i p : Nat), i < s → 0 < p → p < 38 → szT p ≤ n → szT p ≤ q → uV s A i p % 10007 = scV (c i) (gz EX) p % 10007
  | 0, i, p, hi, h0, hp, hn, hq => (szT_pos1 h0 hp hn).elim
  | n + 1, i, p, hi, h0, hp, hn, hq => by
    have hb := wgt_bt h0 hp
    have e1 : uV s A i p % 10007 = sR s (fun k => A i k * (pz (gz EX) (bt p) * c k ^ wgt (bt p))) % 10007 := by
      unfold uV
      rw [if_neg (by omega)]
      refine sR_mod fun k hk => mulm rfl ?_
      rw [wt_zero s A k hp, ← pz_scV]
      refine pz_mod fun t ht => ?_
      obtain ⟨q0, q1, q2⟩ := bt_at hp ht
      exact small_u h n k t hk q0 q1 (by omega) (by omega)
    have e2 : sR s (fun k => A i k * (pz (gz EX) (bt p) * c k ^ wgt (bt p))) = pz (gz EX) (bt p) * sR s (fun k => A i k * c k ^ wgt (bt p)) := by
      rw [sR_mul]
      refine sR_congr fun k _ => ?_
      simp only [Int.mul_assoc, Int.mul_left_comm, Int.mul_comm]
    have e3 := h.C (wgt (bt p)) (by omega) i hi
    rw [hb] at e3
    have e4 := eN_bt h0 hp
    rw [e1, e2]
    have e5 : ((wgt (bt p) : Int) + 1) = (szT p : Int) := by omega
    rw [e5] at e3
    unfold scV
    rw [gz_EX]
    have e6 : pz (gz EX) (bt p) * sR s (fun k => A i k * c k ^ wgt (bt p)) % 10007 = (eN p : Int) * ((szT p : Int) * sR s (fun k => A i k * c k ^ wgt (bt p))) % 10007 := by
      rw [← Int.mul_assoc]
      exact mulm e4.symm rfl
    rw [e6]
    exact mulm rfl e3
theorem pz_erase (f : Nat → Int) {u : Nat} : ∀ {l : List Nat}, u ∈ l → pz f l = f u * pz f (l.erase u)
  | [], h => by cases h
  | x :: l, h => by
    by_cases e : x = u
    · subst e
      rw [List.erase_cons_head, pz_cons]
    · rw [List.erase_cons_tail (by simpa using e), pz_cons, pz_cons, pz_erase f (by rcases List.mem_cons.1 h with h | h; exact absurd h.symm e; exact h)]
      simp only [Int.mul_assoc, Int.mul_left_comm, Int.mul_comm]
theorem wgt_erase {u : Nat} : ∀ {l : List Nat}, u ∈ l → wgt l = szT u + wgt (l.erase u)
  | [], h => by cases h
  | x :: l, h => by
    by_cases e : x = u
    · subst e
      rw [List.erase_cons_head]; rfl
    · rw [List.erase_cons_tail (by simpa using e)]
      have := wgt_erase (u := u) (l := l) (by rcases List.mem_cons.1 h with h | h; exact absurd h.symm e; exact h)
      show szT x + wgt l = szT u + (szT x + wgt (l.erase u))
      omega
/-- the tree u with m more nodes at its root -/
def gwL (u m : Nat) : List Nat := bt u ++ List.replicate m 1
def tgP (u m : Nat) : Nat := ((List.range 38).find? fun t => Nat.beq (cmpN (srtZ (bt t)) (srtZ (gwL u m))) 0 && Nat.blt 0 t).getD 0
def okTg (p u : Nat) : Bool := Nat.ble (szT u) 1 || (Nat.beq (szT (tgP u (szT p - szT u))) (szT p) && (Nat.blt p (tgP u (szT p - szT u)) && (Nat.blt (tgP u (szT p - szT u)) 38 && (Nat.beq (cmpN (srtZ (bt (tgP u (szT p - szT u)))) (srtZ (gwL u (szT p - szT u)))) 0 &&
  Nat.beq (prE ((bt p).erase u) * eN u % 10007) ((prE ((bt p).erase u) * eN (tgP u (szT p - szT u)) + (szT p - szT u) * eN p) % 10007)))))
theorem ta2 : (List.range 38).all (fun p => (bt p).all fun u => okTg p u) = true := by decide +kernel
theorem tg_at {p u : Nat} (hp : p < 38) (hu : u ∈ bt p) (h2 : 2 ≤ szT u) : ∃ t, p < t ∧ t < 38 ∧ szT t = szT p ∧ (∀ f : Nat → Int, pz f (bt t) = pz f (bt u) * f 1 ^ (szT p - szT u)) ∧ pz (gz EX) ((bt p).erase u) * (eN u : Int) % 10007 = (pz (gz EX) ((bt p).erase u) * (eN t : Int) + ((szT p - szT u : Nat) : Int) * (eN p : Int)) % 10007 := by
  have h1 := ta2
  rw [List.all_eq_true] at h1
  have h3 := h1 p (List.mem_range.2 hp)
  rw [List.all_eq_true] at h3
  have h4 := h3 u hu
  unfold okTg at h4
  rw [Bool.or_eq_true] at h4
  rcases h4 with h4 | h4
  · have := Nat.le_of_ble_eq_true h4; omega
  · simp only [Bool.and_eq_true] at h4
    obtain ⟨a1, a2, a3, a4, a5⟩ := h4
    refine ⟨tgP u (szT p - szT u), blt_lt a2, blt_lt a3, Nat.eq_of_beq_eq_true a1, fun f => ?_, ?_⟩
    · rw [← srtZ_pz, cmpN_zero (Nat.eq_of_beq_eq_true a4), srtZ_pz]
      unfold gwL
      rw [pz_append, pz_rep]
    · have h5 := Nat.eq_of_beq_eq_true a5
      have h6 := prE_pz ((bt p).erase u)
      have e1 : pz (gz EX) ((bt p).erase u) * (eN u : Int) % 10007 = ((prE ((bt p).erase u) * eN u : Nat) : Int) % 10007 := by
        rw [Int.natCast_mul]; exact mulm h6.symm rfl
      have e2 : (pz (gz EX) ((bt p).erase u) * (eN (tgP u (szT p - szT u)) : Int) + ((szT p - szT u : Nat) : Int) * (eN p : Int)) % 10007 = ((prE ((bt p).erase u) * eN (tgP u (szT p - szT u)) + (szT p - szT u) * eN p : Nat) : Int) % 10007 := by
        rw [Int.natCast_add, Int.natCast_mul, Int.natCast_mul]; exact addm (mulm h6.symm rfl) rfl
      rw [e1, e2]
      generalize prE ((bt p).erase u) * eN u = x at h5 ⊢
      generalize prE ((bt p).erase u) * eN (tgP u (szT p - szT u)) + (szT p - szT u) * eN p = y at h5 ⊢
      omega
theorem cancel6 {k x y : Int} (h0 : 1 ≤ k) (h1 : k ≤ 6) (h : k * x % 10007 = k * y % 10007) : x % 10007 = y % 10007 := by
  have key : ∀ j : Int, j * k % 10007 = 1 → x % 10007 = y % 10007 := fun j hj => by
    have e : ∀ z : Int, j * (k * z) % 10007 = z % 10007 := fun z => by
      rw [← Int.mul_assoc, Int.mul_emod, hj, Int.one_mul, Int.emod_emod_of_dvd _ (Int.dvd_refl _)]
    rw [← e x, ← e y]
    exact mulm rfl h
  have : k = 1 ∨ k = 2 ∨ k = 3 ∨ k = 4 ∨ k = 5 ∨ k = 6 := by omega
  rcases this with e | e | e | e | e | e
  · exact key 1 (by rw [e]; rfl)
  · exact key 5004 (by rw [e]; rfl)
  · exact key 3336 (by rw [e]; rfl)
  · exact key 2502 (by rw [e]; rfl)
  · exact key 4003 (by rw [e]; rfl)
  · exact key 1668 (by rw [e]; rfl)
/-- the order that the conditions imply -/
theorem bcd_order {s : Nat} {A : Nat → Nat → Int} {b c : Nat → Int} {P q r : Nat} (h : BCD s A b c P q r) (hq : 1 ≤ q) (h1 : P ≤ 2 * q + 2) (h2 : P ≤ q + r + 1) (h6 : P ≤ 6) :
    ∀ (n p : Nat), 0 < p → p < 38 → 64 * szT p + (38 - p) ≤ n → szT p ≤ P → wgtT s A b p % 10007 = (eN p : Int) % 10007
  | 0, p, h0, hp, hn, hs => by omega
  | n + 1, p, h0, hp, hn, hs => by
    have hb := wgt_bt h0 hp
    by_cases hall : ∀ u ∈ bt p, szT u ≤ q
    · have e1 : wgtT s A b p % 10007 = sR s (fun k => b k * (pz (gz EX) (bt p) * c k ^ wgt (bt p))) % 10007 := by
        rw [wgt_pos s A b h0]
        refine sR_mod fun k hk => mulm rfl ?_
        rw [wt_zero s A k hp, ← pz_scV]
        refine pz_mod fun t ht => ?_
        obtain ⟨q0, q1, q2⟩ := bt_at hp ht
        exact small_u h (szT t) k t hk q0 q1 (Nat.le_refl _) (hall t ht)
      have e2 : sR s (fun k => b k * (pz (gz EX) (bt p) * c k ^ wgt (bt p))) = pz (gz EX) (bt p) * sR s (fun k => b k * c k ^ wgt (bt p)) := by
        rw [sR_mul]
        refine sR_congr fun k _ => ?_
        simp only [Int.mul_assoc, Int.mul_left_comm, Int.mul_comm]
      have e3 := h.B (wgt (bt p)) (by omega)
      have e4 := eN_bt h0 hp
      have e5 : ((wgt (bt p) : Int) + 1) = (szT p : Int) := by omega
      rw [e5] at e3
      have e6 : pz (gz EX) (bt p) * sR s (fun k => b k * c k ^ wgt (bt p)) % 10007 = (eN p : Int) * ((szT p : Int) * sR s (fun k => b k * c k ^ wgt (bt p))) % 10007 := by
        rw [← Int.mul_assoc]
        exact mulm e4.symm rfl
      rw [e1, e2, e6, Int.mul_emod, e3, Int.mul_one, Int.emod_emod_of_dvd _ (Int.dvd_refl _)]
    · obtain ⟨u, hu⟩ : ∃ u, u ∈ bt p ∧ ¬ szT u ≤ q := by
        refine Classical.byContradiction fun hx => hall fun u hu => ?_
        exact Classical.byContradiction fun hy => hx ⟨u, hu, hy⟩
      obtain ⟨hu, hbig⟩ := hu
      obtain ⟨u0, u1, u2⟩ := bt_at hp hu
      have hw := wgt_erase hu
      obtain ⟨t, t0, t1, t2, t3, t4⟩ := tg_at hp hu (by omega)
      obtain ⟨m, hm⟩ : ∃ m, m = wgt ((bt p).erase u) := ⟨_, rfl⟩
      have hmm : szT p - szT u = m + 1 := by omega
      rw [hmm] at t3 t4
      have c1 : ∀ k, k < s → uV s A k 1 % 10007 = c k % 10007 := fun k hk => by
        rw [small_u h 1 k 1 hk (by omega) (by omega) (by decide) (by show 1 ≤ q; exact hq)]
        unfold scV
        rw [show szT 1 = 1 from rfl, gz_EX, eN_one, Int.pow_succ, Int.pow_zero, Int.one_mul]
        show 1 * _ % 10007 = _
        rw [Int.one_mul]
      obtain ⟨κ, hκ⟩ : ∃ κ, κ = pz (gz EX) ((bt p).erase u) := ⟨_, rfl⟩
      rw [← hκ] at t4
      have e1 : wgtT s A b p % 10007 = κ * sR s (fun i => b i * c i ^ m * uV s A i u) % 10007 := by
        rw [wgt_pos s A b h0, sR_mul]
        refine sR_mod fun i hi => ?_
        rw [wt_zero s A i hp, pz_erase (uV s A i) hu]
        have g : pz (uV s A i) ((bt p).erase u) % 10007 = κ * c i ^ m % 10007 := by
          rw [hκ, hm, ← pz_scV]
          refine pz_mod fun v hv => ?_
          have hv2 := List.mem_of_mem_erase hv
          obtain ⟨v0, v1, v2⟩ := bt_at hp hv2
          have := wgt_le hv
          exact small_u h (szT v) i v hi v0 v1 (Nat.le_refl _) (by omega)
        have g2 : κ * (b i * c i ^ m * uV s A i u) = b i * (uV s A i u * (κ * c i ^ m)) := by simp only [Int.mul_assoc, Int.mul_left_comm, Int.mul_comm]
        rw [g2]
        exact mulm rfl (mulm rfl g)
      have e2 : sR s (fun i => b i * c i ^ m * uV s A i u) = sR s (fun k => sR s (fun i => b i * c i ^ m * A i k) * wt s A zeroV k u) := by
        have g : sR s (fun i => b i * c i ^ m * uV s A i u) = sR s (fun i => sR s (fun k => b i * c i ^ m * A i k * wt s A zeroV k u)) := sR_congr fun i _ => by
          unfold uV
          rw [if_neg (by omega), sR_mul]
          refine sR_congr fun k _ => ?_
          simp only [Int.mul_assoc]
        rw [g, sR_swap2]
        refine sR_congr fun k _ => ?_
        rw [Int.mul_comm, sR_mul]
        refine sR_congr fun i _ => ?_
        rw [Int.mul_comm]
      have e3 : ((m : Int) + 1) * sR s (fun k => sR s (fun i => b i * c i ^ m * A i k) * wt s A zeroV k u) % 10007 = (wgtT s A b u - wgtT s A b t) % 10007 := by
        rw [sR_mul, wgt_pos s A b u0, wgt_pos s A b (show 0 < t by omega), ← sR_sub]
        refine sR_mod fun k hk => ?_
        have hd := h.D m (by omega) k hk
        rw [← Int.mul_assoc, mulm hd rfl]
        have g : wt s A zeroV k t % 10007 = c k ^ (m + 1) * wt s A zeroV k u % 10007 := by
          rw [wt_zero s A k t1, wt_zero s A k u1, t3, Int.mul_comm]
          refine mulm ?_ rfl
          have := c1 k hk
          generalize m + 1 = j
          induction j with
          | zero => rw [Int.pow_zero, Int.pow_zero]
          | succ j ih => rw [Int.pow_succ, Int.pow_succ]; exact mulm ih this
        have g2 : b k * (1 - c k ^ (m + 1)) * wt s A zeroV k u = b k * wt s A zeroV k u - b k * (c k ^ (m + 1) * wt s A zeroV k u) := by
          rw [Int.mul_sub, Int.mul_one, Int.sub_mul, Int.mul_assoc]
        have g3 := mulm (a := b k) (c := b k) rfl g
        rw [g2]
        generalize b k * wt s A zeroV k u = x
        generalize b k * (c k ^ (m + 1) * wt s A zeroV k u) = y at g3 ⊢
        generalize b k * wt s A zeroV k t = z at g3 ⊢
        omega
      have i1 := bcd_order h hq h1 h2 h6 n u u0 u1 (by omega) (by omega)
      have i2 := bcd_order h hq h1 h2 h6 n t (by omega) t1 (by omega) (by omega)
      refine cancel6 (k := (m : Int) + 1) (by omega) (by omega) ?_
      rw [mulm (a := (m : Int) + 1) (c := (m : Int) + 1) rfl e1, e2]
      have e4 : ((m : Int) + 1) * (κ * sR s (fun k => sR s (fun i => b i * c i ^ m * A i k) * wt s A zeroV k u)) = κ * (((m : Int) + 1) * sR s (fun k => sR s (fun i => b i * c i ^ m * A i k) * wt s A zeroV k u)) := by
        simp only [Int.mul_assoc, Int.mul_left_comm, Int.mul_comm]
      rw [e4, mulm (a := κ) (c := κ) rfl e3]
      have e5 : κ * (wgtT s A b u - wgtT s A b t) % 10007 = κ * ((eN u : Int) - (eN t : Int)) % 10007 := mulm rfl (by
        generalize wgtT s A b u = x at i1 ⊢
        generalize wgtT s A b t = y at i2 ⊢
        omega)
      rw [e5, Int.mul_sub]
      rw [Int.natCast_add] at t4
      generalize κ * (eN u : Int) = x at t4 ⊢
      generalize κ * (eN t : Int) = y at t4 ⊢
      show _ = ((m : Int) + 1) * (eN p : Int) % 10007
      have t5 : x % 10007 = (y + ((m : Int) + 1) * (eN p : Int)) % 10007 := t4
      generalize ((m : Int) + 1) * (eN p : Int) = z at t5 ⊢
      omega
end Go.Proofs.Ytbjeibcombjfgaa

set_option maxRecDepth 100000
set_option linter.unusedVariables false
set_option linter.unusedSimpArgs false
namespace Go.Proofs.Ytbjeibcombjfgaa
open Go.RowKit

/-! ### polynomials as lists -/
def ev : List Int → Int → Int
  | [], _ => 0
  | a :: p, x => a + x * ev p x
def quo (c : Int) : List Int → List Int
  | [] => []
  | [_] => []
  | _ :: b :: p => ev (b :: p) c :: quo c (b :: p)
theorem quo_len (c : Int) : ∀ p : List Int, (quo c p).length = p.length - 1
  | [] => rfl
  | [_] => rfl
  | a :: b :: p => by
    show (quo c (b :: p)).length + 1 = p.length + 1 + 1 - 1
    rw [quo_len c (b :: p)]
    show p.length + 1 - 1 + 1 = _
    omega
theorem quo_ev (c x : Int) : ∀ p : List Int, ev p x = ev p c + (x - c) * ev (quo c p) x
  | [] => by show (0 : Int) = 0 + (x - c) * 0; rw [Int.mul_zero]; rfl
  | [a] => by
    show a + x * 0 = a + c * 0 + (x - c) * 0
    rw [Int.mul_zero, Int.mul_zero, Int.mul_zero, Int.add_zero, Int.add_zero]
  | a :: b :: p => by
    have ih := quo_ev c x (b :: p)
    show a + x * ev (b :: p) x = a + c * ev (b :: p) c + (x - c) * (ev (b :: p) c + x * ev (quo c (b :: p)) x)
    rw [ih]
    generalize ev (b :: p) c = u
    generalize ev (quo c (b :: p)) x = v
    simp only [Int.mul_add, Int.sub_mul, Int.mul_sub, Int.mul_assoc, Int.mul_left_comm, Int.mul_comm]
    generalize x * u = a1
    generalize c * u = a2
    generalize x * (x * v) = a3
    generalize c * (x * v) = a4
    omega
theorem quo_zero (c : Int) : ∀ p : List Int, ev p c % 10007 = 0 → (∀ a ∈ quo c p, a % 10007 = 0) → ∀ a ∈ p, a % 10007 = 0
  | [], _, _, a, h => by cases h
  | [x], h0, _, a, h => by
    rw [List.mem_singleton] at h
    subst h
    have : ev [a] c = a := by show a + c * 0 = a; rw [Int.mul_zero, Int.add_zero]
    rwa [this] at h0
  | x :: b :: p, h0, h1, a, h => by
    have e1 : ev (b :: p) c % 10007 = 0 := h1 _ (List.mem_cons_self)
    have ih := quo_zero c (b :: p) e1 fun y hy => h1 y (List.mem_cons_of_mem _ hy)
    rcases List.mem_cons.1 h with rfl | h
    · have e2 : (a + c * ev (b :: p) c) % 10007 = 0 := h0
      have e3 : c * ev (b :: p) c % 10007 = 0 := by rw [Int.mul_emod, e1, Int.mul_zero]; rfl
      generalize c * ev (b :: p) c = u at e2 e3
      omega
    · exact ih a h
/-- different nodes: differences have inverses -/
def Dif (s : Nat) (c : Nat → Int) : Prop := ∀ i k, i < s → k < s → i ≠ k → ∃ j : Int, j * (c i - c k) % 10007 = 1
theorem unit_zero {j u x : Int} (hj : j * u % 10007 = 1) (h : u * x % 10007 = 0) : x % 10007 = 0 := by
  have e : j * (u * x) % 10007 = x % 10007 := by rw [← Int.mul_assoc, Int.mul_emod, hj, Int.one_mul, Int.emod_emod_of_dvd _ (Int.dvd_refl _)]
  rw [← e, Int.mul_emod, h, Int.mul_zero]
  rfl
theorem roots : ∀ (n : Nat) (c : Nat → Int) (p : List Int), Dif n c → p.length ≤ n → (∀ i, i < n → ev p (c i) % 10007 = 0) → ∀ a ∈ p, a % 10007 = 0
  | 0, c, p, hd, hl, h, a, ha => by
    have : p = [] := List.eq_nil_of_length_eq_zero (by omega)
    rw [this] at ha; cases ha
  | n + 1, c, p, hd, hl, h, a, ha => by
    refine quo_zero (c n) p (h n (by omega)) (roots n c (quo (c n) p) (fun i k hi hk => hd i k (by omega) (by omega)) (by rw [quo_len]; omega) fun i hi => ?_) a ha
    obtain ⟨j, hj⟩ := hd i n (by omega) (by omega) (by omega)
    refine unit_zero hj ?_
    have e1 := h i (by omega)
    have e2 := h n (by omega)
    rw [quo_ev (c n) (c i) p] at e1
    generalize (c i - c n) * ev (quo (c n) p) (c i) = u at e1 ⊢
    generalize ev p (c n) = v at e1 e2
    omega
theorem ev_range (x : Int) : ∀ (s : Nat) (f : Nat → Int), ev ((List.range s).map f) x = sR s (fun t => f t * x ^ t)
  | 0, f => rfl
  | s + 1, f => by
    rw [List.range_succ_eq_map, List.map_cons, List.map_map, sR_first]
    show f 0 + x * ev ((List.range s).map (f ∘ Nat.succ)) x = _
    rw [ev_range x s (f ∘ Nat.succ), sR_mul, Int.pow_zero, Int.mul_one]
    congr 1
    refine sR_congr fun t _ => ?_
    rw [Int.pow_succ]
    show x * (f (t + 1) * x ^ t) = f (t + 1) * (x ^ t * x)
    simp only [Int.mul_assoc, Int.mul_left_comm, Int.mul_comm]
/-! ### interpolation -/
def dl (i k : Nat) : Int := if i = k then 1 else 0
theorem sR_dl (s : Nat) (f : Nat → Int) : ∀ {i : Nat}, i < s → sR s (fun k => dl i k * f k) = f i := by
  induction s with
  | zero => intro i h; omega
  | succ s ih =>
    intro i h
    rw [sR_succ]
    by_cases e : i = s
    · subst e
      have : sR i (fun k => dl i k * f k) = sR i (fun _ => 0) := sR_congr fun k hk => by
        unfold dl; rw [if_neg (by omega), Int.zero_mul]
      rw [this, sumR0]
      unfold dl
      rw [if_pos rfl]
      omega
    · rw [ih (by omega)]
      have : dl i s = 0 := if_neg e
      rw [this, Int.zero_mul, Int.add_zero]
/-- the polynomials of nodes: coefficients L j t, 1 at node j and 0 at the others -/
structure Lag (s : Nat) (c : Nat → Int) (L : Nat → Nat → Int) : Prop where
  dif : Dif s c
  at_ : ∀ i j, i < s → j < s → sR s (fun t => L j t * c i ^ t) % 10007 = dl i j % 10007
theorem Lag.coef {s : Nat} {c : Nat → Int} {L : Nat → Nat → Int} (h : Lag s c L) {k t : Nat} (hk : k < s) (ht : t < s) : sR s (fun j => c j ^ k * L j t) % 10007 = dl k t % 10007 := by
  have key := roots s c ((List.range s).map fun t => sR s (fun j => c j ^ k * L j t) - dl k t) h.dif (by rw [List.length_map, List.length_range]; exact Nat.le_refl _) fun i hi => by
    rw [ev_range]
    have e1 : sR s (fun t => (sR s (fun j => c j ^ k * L j t) - dl k t) * c i ^ t) = sR s (fun t => sR s (fun j => c j ^ k * (L j t * c i ^ t))) - sR s (fun t => dl k t * c i ^ t) := by
      rw [← sR_sub]
      refine sR_congr fun t _ => ?_
      rw [Int.sub_mul, Int.mul_comm, sR_mul]
      congr 1
      refine sR_congr fun j _ => ?_
      simp only [Int.mul_assoc, Int.mul_left_comm, Int.mul_comm]
    have e2 : sR s (fun t => sR s (fun j => c j ^ k * (L j t * c i ^ t))) % 10007 = c i ^ k % 10007 := by
      rw [sR_swap2]
      have : sR s (fun j => sR s (fun t => c j ^ k * (L j t * c i ^ t))) % 10007 = sR s (fun j => dl i j * c j ^ k) % 10007 := sR_mod fun j hj => by
        rw [← sR_mul, Int.mul_comm]
        exact mulm (h.at_ i j hi hj) rfl
      rw [this, sR_dl s (fun j => c j ^ k) hi]
    rw [e1, sR_dl s (fun t => c i ^ t) hk]
    generalize sR s (fun t => sR s (fun j => c j ^ k * (L j t * c i ^ t))) = u at e2 ⊢
    generalize c i ^ k = v at e2 ⊢
    omega
  have := key _ (List.mem_map.2 ⟨t, List.mem_range.2 ht, rfl⟩)
  generalize sR s (fun j => c j ^ k * L j t) = u at this ⊢
  generalize dl k t = v at this ⊢
  omega
/-- what a functional says of a power, said by the numbers that it says of the polynomials of the nodes -/
theorem Lag.func {s : Nat} {c : Nat → Int} {L : Nat → Nat → Int} (h : Lag s c L) (w : Nat → Int) {k : Nat} (hk : k < s) : sR s (fun j => sR s (fun t => L j t * w t) * c j ^ k) % 10007 = w k % 10007 := by
  have e1 : sR s (fun j => sR s (fun t => L j t * w t) * c j ^ k) = sR s (fun t => sR s (fun j => c j ^ k * L j t) * w t) := by
    have a1 : sR s (fun j => sR s (fun t => L j t * w t) * c j ^ k) = sR s (fun j => sR s (fun t => c j ^ k * L j t * w t)) := sR_congr fun j _ => by
      rw [Int.mul_comm, sR_mul]
      refine sR_congr fun t _ => ?_
      simp only [Int.mul_assoc, Int.mul_left_comm, Int.mul_comm]
    rw [a1, sR_swap2]
    refine sR_congr fun t _ => ?_
    rw [Int.mul_comm (sR s _) (w t), sR_mul]
    refine sR_congr fun j _ => ?_
    rw [Int.mul_comm]
  rw [e1]
  have : sR s (fun t => sR s (fun j => c j ^ k * L j t) * w t) % 10007 = sR s (fun t => dl k t * w t) % 10007 := sR_mod fun t ht => mulm (h.coef hk ht) rfl
  rw [this, sR_dl s w hk]
/-- numbers that are 0 against all powers are 0 -/
theorem Lag.dual {s : Nat} {c : Nat → Int} {L : Nat → Nat → Int} (h : Lag s c L) {d : Nat → Int} (hd : ∀ k, k < s → sR s (fun j => d j * c j ^ k) % 10007 = 0) {i : Nat} (hi : i < s) : d i % 10007 = 0 := by
  have e1 : sR s (fun j => dl i j * d j) % 10007 = sR s (fun t => L i t * sR s (fun j => d j * c j ^ t)) % 10007 := by
    have a1 : sR s (fun j => dl i j * d j) % 10007 = sR s (fun j => sR s (fun t => L i t * (d j * c j ^ t))) % 10007 := sR_mod fun j hj => by
      have g : dl i j = dl j i := by
        unfold dl
        by_cases e : i = j
        · rw [if_pos e, if_pos e.symm]
        · rw [if_neg e, if_neg fun e2 => e e2.symm]
      rw [g, mulm (h.at_ j i hj hi).symm (rfl : d j % 10007 = d j % 10007), Int.mul_comm, sR_mul]
      refine congrArg (· % 10007) (sR_congr fun t _ => ?_)
      simp only [Int.mul_assoc, Int.mul_left_comm, Int.mul_comm]
    rw [a1, sR_swap2]
    refine congrArg (· % 10007) (sR_congr fun t _ => ?_)
    rw [sR_mul]
  rw [← sR_dl s d hi, e1]
  have : sR s (fun t => L i t * sR s (fun j => d j * c j ^ t)) % 10007 = sR s (fun _ => 0) % 10007 := sR_mod fun t ht => by
    rw [Int.mul_emod, hd t ht, Int.mul_zero]
  rw [this, sumR0]
  rfl
/-! ### the conditions -/
/-- the inverse of k + 1 -/
def rh (k : Nat) : Int := pw ((k : Int) + 1) 10005
def rhN (k : Nat) : Nat := (k + 1) ^ 10005 % 10007
theorem tc1 : (List.range 40).all (fun k => Nat.beq ((k + 1) * rhN k % 10007) 1) = true := by decide +kernel
theorem rh_N (k : Nat) : rh k = (rhN k : Int) := by
  unfold rh rhN
  have e : (k : Int) + 1 = ((k + 1 : Nat) : Int) := by omega
  rw [e, pw_nat]
theorem rh_is {k : Nat} (hk : k < 40) : ((k : Int) + 1) * rh k % 10007 = 1 := by
  have h1 := tc1
  rw [List.all_eq_true] at h1
  have h2 := Nat.eq_of_beq_eq_true (h1 k (List.mem_range.2 hk))
  rw [rh_N, show ((k : Int) + 1) = ((k + 1 : Nat) : Int) by omega, ← Int.natCast_mul]
  omega
/-- a collocation tableau -/
structure Coll (s : Nat) (A : Nat → Nat → Int) (b c : Nat → Int) (L : Nat → Nat → Int) : Prop where
  lag : Lag s c L
  A : ∀ i j, i < s → j < s → A i j % 10007 = sR s (fun t => L j t * (c i ^ (t + 1) * rh t)) % 10007
  b : ∀ j, j < s → b j % 10007 = sR s (fun t => L j t * rh t) % 10007
theorem Coll.C {s : Nat} {A : Nat → Nat → Int} {b c : Nat → Int} {L : Nat → Nat → Int} (h : Coll s A b c L) {k i : Nat} (hk : k < s) (hi : i < s) : sR s (fun j => A i j * c j ^ k) % 10007 = c i ^ (k + 1) * rh k % 10007 := by
  rw [← h.lag.func (fun t => c i ^ (t + 1) * rh t) hk]
  exact sR_mod fun j hj => mulm (h.A i j hi hj) rfl
theorem Coll.B {s : Nat} {A : Nat → Nat → Int} {b c : Nat → Int} {L : Nat → Nat → Int} (h : Coll s A b c L) {k : Nat} (hk : k < s) : sR s (fun j => b j * c j ^ k) % 10007 = rh k % 10007 := by
  rw [← h.lag.func rh hk]
  exact sR_mod fun j hj => mulm (h.b j hj) rfl
end Go.Proofs.Ytbjeibcombjfgaa

set_option maxRecDepth 100000
set_option linter.unusedVariables false
set_option linter.unusedSimpArgs false
namespace Go.Proofs.Ytbjeibcombjfgaa
open Go.RowKit

theorem pow_modI {x y : Int} (h : x % 10007 = y % 10007) (n : Nat) : x ^ n % 10007 = y ^ n % 10007 := by
  induction n with
  | zero => rw [Int.pow_zero, Int.pow_zero]
  | succ n ih => rw [Int.pow_succ, Int.pow_succ]; exact mulm ih h
def okRh (k l : Nat) : Bool := Nat.beq ((rhN (k + l + 1) * rhN l + rhN k * rhN (k + l + 1)) % 10007) (rhN k * rhN l % 10007)
theorem td1 : (List.range 16).all (fun k => (List.range 16).all (okRh k)) = true := by decide +kernel
theorem rh_id {k l : Nat} (hk : k < 16) (hl : l < 16) : (rh (k + l + 1) * rh l - (rh k * rh l - rh k * rh (k + l + 1))) % 10007 = 0 := by
  have h1 := td1
  rw [List.all_eq_true] at h1
  have h2 := h1 k (List.mem_range.2 hk)
  rw [List.all_eq_true] at h2
  have h3 := Nat.eq_of_beq_eq_true (h2 l (List.mem_range.2 hl))
  rw [rh_N, rh_N, rh_N, ← Int.natCast_mul, ← Int.natCast_mul, ← Int.natCast_mul]
  generalize rhN (k + l + 1) * rhN l = x at h3 ⊢
  generalize rhN k * rhN (k + l + 1) = y at h3 ⊢
  generalize rhN k * rhN l = z at h3 ⊢
  omega
/-- good quadrature gives column conditions -/
theorem Coll.D {s m : Nat} {A : Nat → Nat → Int} {b c : Nat → Int} {L : Nat → Nat → Int} (h : Coll s A b c L) (hs : s ≤ 8) (hm : m ≤ 8) (hB : ∀ k, k < s + m → sR s (fun j => b j * c j ^ k) % 10007 = rh k % 10007) {k j : Nat} (hk : k < m) (hj : j < s) :
    sR s (fun i => b i * c i ^ k * A i j) % 10007 = b j * (1 - c j ^ (k + 1)) * rh k % 10007 := by
  have key := h.lag.dual (d := fun j => sR s (fun i => b i * c i ^ k * A i j) - b j * (1 - c j ^ (k + 1)) * rh k) (fun l hl => by
    have e1 : sR s (fun j => (sR s (fun i => b i * c i ^ k * A i j) - b j * (1 - c j ^ (k + 1)) * rh k) * c j ^ l) = sR s (fun i => b i * c i ^ k * sR s (fun j => A i j * c j ^ l)) - (rh k * sR s (fun j => b j * c j ^ l) - rh k * sR s (fun j => b j * c j ^ (k + l + 1))) := by
      have a1 : sR s (fun i => b i * c i ^ k * sR s (fun j => A i j * c j ^ l)) = sR s (fun j => sR s (fun i => b i * c i ^ k * (A i j * c j ^ l))) := by
        rw [← sR_swap2]
        exact sR_congr fun i _ => by rw [sR_mul]
      rw [a1, sR_mul, sR_mul, ← sR_sub, ← sR_sub]
      refine sR_congr fun j _ => ?_
      have a2 : sR s (fun i => b i * c i ^ k * (A i j * c j ^ l)) = sR s (fun i => b i * c i ^ k * A i j) * c j ^ l := by
        rw [Int.mul_comm (sR s _), sR_mul]
        refine sR_congr fun i _ => ?_
        simp only [Int.mul_assoc, Int.mul_left_comm, Int.mul_comm]
      rw [a2, Int.sub_mul, Int.mul_sub, Int.mul_one, Int.sub_mul, Int.sub_mul]
      have a3 : b j * rh k * c j ^ l = rh k * (b j * c j ^ l) := by simp only [Int.mul_assoc, Int.mul_left_comm, Int.mul_comm]
      have a4 : b j * c j ^ (k + 1) * rh k * c j ^ l = rh k * (b j * c j ^ (k + l + 1)) := by
        rw [show k + l + 1 = (k + 1) + l by omega, Int.pow_add (c j) (k + 1) l]
        simp only [Int.mul_assoc, Int.mul_left_comm, Int.mul_comm]
      rw [a3, a4]
    rw [e1]
    have e2 : sR s (fun i => b i * c i ^ k * sR s (fun j => A i j * c j ^ l)) % 10007 = rh (k + l + 1) * rh l % 10007 := by
      have a1 : sR s (fun i => b i * c i ^ k * sR s (fun j => A i j * c j ^ l)) % 10007 = sR s (fun i => rh l * (b i * c i ^ (k + l + 1))) % 10007 := sR_mod fun i hi => by
        rw [mulm (a := b i * c i ^ k) (c := b i * c i ^ k) rfl (h.C hl hi)]
        rw [show k + l + 1 = k + (l + 1) by omega, Int.pow_add (c i) k (l + 1)]
        refine congrArg (· % 10007) ?_
        simp only [Int.mul_assoc, Int.mul_left_comm, Int.mul_comm]
      rw [a1, ← sR_mul, Int.mul_comm (rh (k + l + 1))]
      exact mulm rfl (hB (k + l + 1) (by omega))
    have e3 : rh k * sR s (fun j => b j * c j ^ l) % 10007 = rh k * rh l % 10007 := mulm rfl (hB l (by omega))
    have e4 : rh k * sR s (fun j => b j * c j ^ (k + l + 1)) % 10007 = rh k * rh (k + l + 1) % 10007 := mulm rfl (hB (k + l + 1) (by omega))
    have e5 := rh_id (k := k) (l := l) (by omega) (by omega)
    generalize sR s (fun i => b i * c i ^ k * sR s (fun j => A i j * c j ^ l)) = x1 at e2 ⊢
    generalize rh k * sR s (fun j => b j * c j ^ l) = x2 at e3 ⊢
    generalize rh k * sR s (fun j => b j * c j ^ (k + l + 1)) = x3 at e4 ⊢
    generalize rh (k + l + 1) * rh l = y1 at e2 e5
    generalize rh k * rh l = y2 at e3 e5
    generalize rh k * rh (k + l + 1) = y3 at e4 e5
    omega) hj
  have key' : (sR s (fun i => b i * c i ^ k * A i j) - b j * (1 - c j ^ (k + 1)) * rh k) % 10007 = 0 := key
  generalize sR s (fun i => b i * c i ^ k * A i j) = x at key' ⊢
  generalize b j * (1 - c j ^ (k + 1)) * rh k = y at key' ⊢
  omega
/-! ### the node polynomial -/
/-! ### the node polynomial is orthogonal to at most s powers -/
/-! ### mirrored nodes -/
end Go.Proofs.Ytbjeibcombjfgaa

set_option maxRecDepth 100000
set_option linter.unusedVariables false
set_option linter.unusedSimpArgs false
namespace Go.Proofs.Ytbjeibcombjfgaa
open Go.RowKit

/-- different numbers -/
structure DN (zs : List Int) : Prop where
  num : Nums zs
  dif : ∀ i k, i < zs.length → k < zs.length → i ≠ k → zs.getD i 0 ≠ zs.getD k 0
theorem inv_unit {a : Int} (h0 : 0 < a) (h1 : a < 10007) : a * pw a 10005 % 10007 = 1 := by
  have h := inv_powI (a := a) (n := 1) h0 h1
  have e : pw a 1 = a := by
    show a ^ 1 % 10007 = a
    rw [Int.pow_succ, Int.pow_zero, Int.one_mul]
    omega
  rw [e, Int.pow_succ, Int.pow_zero, Int.one_mul] at h
  exact h
theorem DN.sub {zs : List Int} (h : DN zs) {i k : Nat} (hi : i < zs.length) (hk : k < zs.length) (hne : i ≠ k) : 0 < (zs.getD i 0 - zs.getD k 0) % 10007 ∧ (zs.getD i 0 - zs.getD k 0) % 10007 < 10007 := by
  have h1 := h.num _ (getD_mem hi 0)
  have h2 := h.num _ (getD_mem hk 0)
  have h3 := h.dif i k hi hk hne
  omega
theorem DN.unit {zs : List Int} (h : DN zs) {i k : Nat} (hi : i < zs.length) (hk : k < zs.length) (hne : i ≠ k) : pw ((zs.getD i 0 - zs.getD k 0) % 10007) 10005 * (zs.getD i 0 - zs.getD k 0) % 10007 = 1 := by
  have h1 := h.sub hi hk hne
  have h2 := inv_unit h1.1 h1.2
  rw [Int.mul_comm] at h2
  rw [← h2]
  exact mulm rfl (Int.emod_emod_of_dvd _ (Int.dvd_refl _)).symm
theorem DN.Dif {zs : List Int} (h : DN zs) : Dif zs.length (fun i => zs.getD i 0) := fun i k hi hk hne => ⟨_, h.unit hi hk hne⟩
/-! ### the node polynomial -/
end Go.Proofs.Ytbjeibcombjfgaa

set_option maxRecDepth 100000
set_option linter.unusedVariables false
set_option linter.unusedSimpArgs false
namespace Go.Proofs.Ytbjeibcombjfgaa
open Go.RowKit

def bush (k : Nat) : Nat := [1, 2, 4, 8, 17, 37].getD k 0
def okBu (k : Nat) : Bool := Nat.beq (szT (bush k)) (k + 1) && (Nat.beq (cmpN (bt (bush k)) (List.replicate k 1)) 0 && (Nat.beq (eN (bush k)) (rhN k) && (Nat.blt 0 (bush k) && Nat.blt (bush k) 38)))
theorem tf1 : (List.range 6).all okBu = true := by decide +kernel
theorem bush_at {k : Nat} (hk : k < 6) : szT (bush k) = k + 1 ∧ bt (bush k) = List.replicate k 1 ∧ (eN (bush k) : Int) = rh k ∧ 0 < bush k ∧ bush k < 38 := by
  have h1 := tf1
  rw [List.all_eq_true] at h1
  have h2 := h1 k (List.mem_range.2 hk)
  unfold okBu at h2
  simp only [Bool.and_eq_true] at h2
  obtain ⟨a1, a2, a3, a4, a5⟩ := h2
  exact ⟨Nat.eq_of_beq_eq_true a1, cmpN_zero (Nat.eq_of_beq_eq_true a2), by rw [rh_N, Nat.eq_of_beq_eq_true a3], blt_lt a4, blt_lt a5⟩
theorem bt_one : bt 1 = [] := by decide +kernel
theorem u_one (s : Nat) (A : Nat → Nat → Int) (i : Nat) : uV s A i 1 = sR s (fun k => A i k) := by
  unfold uV
  rw [if_neg (by omega)]
  refine sR_congr fun k _ => ?_
  rw [wt_zero s A k (by omega), bt_one, pz_nil, Int.mul_one]
/-- the weight of a bushy tree -/
theorem wgt_bush {s : Nat} {A : Nat → Nat → Int} (b : Nat → Int) {c : Nat → Int} (hc : ∀ i, i < s → sR s (fun k => A i k) % 10007 = c i % 10007) {k : Nat} (hk : k < 6) : wgtT s A b (bush k) % 10007 = sR s (fun i => b i * c i ^ k) % 10007 := by
  obtain ⟨b1, b2, b3, b4, b5⟩ := bush_at hk
  rw [wgt_pos s A b b4]
  refine sR_mod fun i hi => mulm rfl ?_
  rw [wt_zero s A i b5, b2, pz_rep, u_one]
  exact pow_modI (hc i hi) k
theorem ord_B {s : Nat} {A : Nat → Nat → Int} {b c : Nat → Int} (hc : ∀ i, i < s → sR s (fun k => A i k) % 10007 = c i % 10007) {n : Nat} (hn : (n : Int) ≤ agZ (chF s A b) EX) {k : Nat} (hk : k < n) : sR s (fun i => b i * c i ^ k) % 10007 = rh k % 10007 := by
  have h6 := agZ_bd (chF s A b) EX
  obtain ⟨b1, b2, b3, b4, b5⟩ := bush_at (show k < 6 by omega)
  have h := ord_agr hn (bush k) b5 (by omega)
  rw [chF_gz s A b b5, gz_EX, b3] at h
  rw [← wgt_bush b hc (show k < 6 by omega)]
  exact h
theorem ord_of {s : Nat} {A : Nat → Nat → Int} {b : Nat → Int} {P : Nat} (h6 : P ≤ 6) (h : ∀ p, 0 < p → p < 38 → szT p ≤ P → wgtT s A b p % 10007 = (eN p : Int) % 10007) : (P : Int) ≤ agZ (chF s A b) EX := by
  refine ord_ge (chr_chF s A b) h6 fun p hp hs => ?_
  rw [chF_gz s A b hp, gz_EX]
  by_cases h0 : p = 0
  · subst h0
    rw [wgt_zero]
    have : eN 0 = 1 := rfl
    rw [this]
    rfl
  · exact h p (by omega) hp hs
/-- the order is at least what the conditions imply -/
theorem implied_le {s : Nat} {A : Nat → Nat → Int} {b c : Nat → Int} {p q r P : Nat} (h : BCD s A b c p q r) (hq : 1 ≤ q) (hP : P ≤ p) (h1 : P ≤ 2 * q + 2) (h2 : P ≤ q + r + 1) (h6 : P ≤ 6) : (P : Int) ≤ agZ (chF s A b) EX := by
  have h' : BCD s A b c P q r := ⟨fun k hk => h.B k (by omega), h.C, h.D⟩
  exact ord_of h6 fun t t0 t1 t2 => bcd_order h' hq h1 h2 h6 _ t t0 t1 (Nat.le_refl _) t2
/-- and at most what the quadrature allows -/
theorem ord_le {s : Nat} {A : Nat → Nat → Int} {b c : Nat → Int} (hc : ∀ i, i < s → sR s (fun k => A i k) % 10007 = c i % 10007) {p : Nat} (hp : 6 ≤ p ∨ sR s (fun i => b i * c i ^ p) % 10007 ≠ rh p % 10007) : agZ (chF s A b) EX ≤ (p : Int) := by
  have h6 := agZ_bd (chF s A b) EX
  rcases hp with hp | hp
  · omega
  · refine Classical.byContradiction fun hx => hp ?_
    obtain ⟨n, hn⟩ : ∃ n : Nat, agZ (chF s A b) EX = (n : Int) := ⟨(agZ (chF s A b) EX).toNat, by omega⟩
    exact ord_B hc (n := n) (by omega) (by omega)
/-! ### collocation tableaus -/
end Go.Proofs.Ytbjeibcombjfgaa

