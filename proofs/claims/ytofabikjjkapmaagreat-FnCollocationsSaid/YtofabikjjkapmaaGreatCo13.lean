/- Plain: an order gives quadrature conditions (bushy trees); the order of a tableau lies between its implied order and its quadrature order; that of a collocation tableau. No walk. | Plain: the orders of the three conditions as tests, and the order of a tableau between them; for lists. No walk. | Plain: the collocation tableau of the mirrored nodes and the adjoint have one character; for lists. No walk. | One round of 'z.A = append(z.A, row)', in plain words of memory. No program in sight. | Walks: times of the program. | Walks: places in a list, nodes, integrals: of the library, the program and the reference. | Walks: the nodes' code of the reference, fractions, integrals. -/
import Derived.Test.YtofabikjjkapmaaGreatCo12
import Derived.Test.YtofabikjjkapmaaGreatCo3
import Derived.Test.YtofabikjjkapmaaGreatCo4
import Derived.Deep.QuietTactic
import Derived.BigQuiet
import Derived.Deep.RegionHeld3
set_option maxRecDepth 100000
set_option linter.unusedVariables false
set_option linter.unusedSimpArgs false
namespace Go.Proofs.YtofabikjjkapmaaGreat
open Go.RowKit

def bush (k : Nat) : Nat := [1, 2, 4, 8, 17, 37].getD k 0
def okBu (k : Nat) : Bool := Nat.beq (szT (bush k)) (k + 1) && (Nat.beq (cmpN (bt (bush k)) (List.replicate k 1)) 0 && (Nat.beq (eN (bush k)) (rhN k) && (Nat.blt 0 (bush k) && Nat.blt (bush k) 38)))
theorem tf1 : (List.range 6).all okBu = true := by decide +kernel
theorem bush_at {k : Nat} (hk : k < 6) : szT (bush k) = k + 1 ∧ bt (bush k) = List.replicate k 1 ∧ (eN (bush k) : Int) = rh k ∧ 0 < bush k ∧ bush k < 38 := by
  have h1 := tf1
  rw [List.all_eq_true] at h1
  have h2 := h1 k (List.mem_range.2 hk)
  unfold okBu at h2
  simp only [Bool.and_eq_true] at h2
  obtain ⟨a1, a2, a3, a4, a5⟩ := h2
  exact ⟨Nat.eq_of_beq_eq_true a1, cmpN_zero (Nat.eq_of_beq_eq_true a2), by rw [rh_N, Nat.eq_of_beq_eq_true a3], blt_lt a4, blt_lt a5⟩
theorem bt_one : bt 1 = [] := by decide +kernel
theorem u_one (s : Nat) (A : Nat → Nat → Int) (i : Nat) : uV s A i 1 = sR s (fun k => A i k) := by
  unfold uV
  rw [if_neg (by omega)]
  refine sR_congr fun k _ => ?_
  rw [wt_zero s A k (by omega), bt_one, pz_nil, Int.mul_one]
/-- the weight of a bushy tree -/
theorem wgt_bush {s : Nat} {A : Nat → Nat → Int} (b : Nat → Int) {c : Nat → Int} (hc : ∀ i, i < s → sR s (fun k => A i k) % 10007 = c i % 10007) {k : Nat} (hk : k < 6) : wgtT s A b (bush k) % 10007 = sR s (fun i => b i * c i ^ k) % 10007 := by
  obtain ⟨b1, b2, b3, b4, b5⟩ := bush_at hk
  rw [wgt_pos s A b b4]
  refine sR_mod fun i hi => mulm rfl ?_
  rw [wt_zero s A i b5, b2, pz_rep, u_one]
  exact pow_modI (hc i hi) k
theorem ord_B {s : Nat} {A : Nat → Nat → Int} {b c : Nat → Int} (hc : ∀ i, i < s → sR s (fun k => A i k) % 10007 = c i % 10007) {n : Nat} (hn : (n : Int) ≤ agZ (chF s A b) EX) {k : Nat} (hk : k < n) : sR s (fun i => b i * c i ^ k) % 10007 = rh k % 10007 := by
  have h6 := agZ_bd (chF s A b) EX
  obtain ⟨b1, b2, b3, b4, b5⟩ := bush_at (show k < 6 by omega)
  have h := ord_agr hn (bush k) b5 (by omega)
  rw [chF_gz s A b b5, gz_EX, b3] at h
  rw [← wgt_bush b hc (show k < 6 by omega)]
  exact h
theorem ord_of {s : Nat} {A : Nat → Nat → Int} {b : Nat → Int} {P : Nat} (h6 : P ≤ 6) (h : ∀ p, 0 < p → p < 38 → szT p ≤ P → wgtT s A b p % 10007 = (eN p : Int) % 10007) : (P : Int) ≤ agZ (chF s A b) EX := by
  refine ord_ge (chr_chF s A b) h6 fun p hp hs => ?_
  rw [chF_gz s A b hp, gz_EX]
  by_cases h0 : p = 0
  · subst h0
    rw [wgt_zero]
    have : eN 0 = 1 := rfl
    rw [this]
    rfl
  · exact h p (by omega) hp hs
/-- the order is at least what the conditions imply -/
theorem implied_le {s : Nat} {A : Nat → Nat → Int} {b c : Nat → Int} {p q r P : Nat} (h : BCD s A b c p q r) (hq : 1 ≤ q) (hP : P ≤ p) (h1 : P ≤ 2 * q + 2) (h2 : P ≤ q + r + 1) (h6 : P ≤ 6) : (P : Int) ≤ agZ (chF s A b) EX := by
  have h' : BCD s A b c P q r := ⟨fun k hk => h.B k (by omega), h.C, h.D⟩
  exact ord_of h6 fun t t0 t1 t2 => bcd_order h' hq h1 h2 h6 _ t t0 t1 (Nat.le_refl _) t2
/-- and at most what the quadrature allows -/
theorem ord_le {s : Nat} {A : Nat → Nat → Int} {b c : Nat → Int} (hc : ∀ i, i < s → sR s (fun k => A i k) % 10007 = c i % 10007) {p : Nat} (hp : 6 ≤ p ∨ sR s (fun i => b i * c i ^ p) % 10007 ≠ rh p % 10007) : agZ (chF s A b) EX ≤ (p : Int) := by
  have h6 := agZ_bd (chF s A b) EX
  rcases hp with hp | hp
  · omega
  · refine Classical.byContradiction fun hx => hp ?_
    obtain ⟨n, hn⟩ : ∃ n : Nat, agZ (chF s A b) EX = (n : Int) := ⟨(agZ (chF s A b) EX).toNat, by omega⟩
    exact ord_B hc (n := n) (by omega) (by omega)
/-! ### collocation tableaus -/
theorem orth_le {s m : Nat} (hs : s ≤ 8) (hm : m ≤ 8) (M : Nat → Int) (h : ∀ t, t < m → mu s M t % 10007 = 0) : m ≤ s := by
  by_cases h8 : s = 8
  · omega
  · refine Classical.byContradiction fun hx => hilb (s := s) (by omega) M fun t ht => h t (by omega)
theorem coll_order {zs : List Int} (h : DN zs) (h1 : 1 ≤ zs.length) (h8 : zs.length ≤ 8) {m : Nat} (hm : m ≤ 8) (hz : ∀ t, t < m → mu zs.length (fun l => (ndP zs zs.length).getD l 0) t % 10007 = 0)
    (he : m = 8 ∨ mu zs.length (fun l => (ndP zs zs.length).getD l 0) m % 10007 ≠ 0) :
    agZ (chT (colA zs zs.length) (colB zs zs.length)) EX = ((min (zs.length + m) 6 : Nat) : Int) := by
  have hc := coll_of h
  have hms := orth_le h8 hm _ hz
  have hq := hc.quad (ndP_NPol zs) m hz
  have hb := hc.bcd h8 hm hq (Nat.le_refl (zs.length + m)) (Nat.le_refl m)
  have hr : ∀ i, i < zs.length → sR zs.length (fun j => fT (colA zs zs.length) i j) % 10007 = zs.getD i 0 % 10007 := fun i hi => by
    rw [coll_row h h1 hi]
    have b := h.num _ (getD_mem hi 0)
    omega
  have e : chT (colA zs zs.length) (colB zs zs.length) = chF zs.length (fT (colA zs zs.length)) (fB (colB zs zs.length)) := by
    unfold chT
    rw [colB_len]
  rw [e]
  have lo := implied_le hb h1 (P := min (zs.length + m) 6) (by omega) (by omega) (by omega) (by omega)
  have hi : agZ (chF zs.length (fT (colA zs zs.length)) (fB (colB zs zs.length))) EX ≤ ((zs.length + m : Nat) : Int) := ord_le hr (by
    by_cases h6 : 6 ≤ zs.length + m
    · exact .inl h6
    · rcases he with he | he
      · omega
      · exact .inr (hc.quad_end (ndP_NPol zs) hz he))
  have h6 := agZ_bd (chF zs.length (fT (colA zs zs.length)) (fB (colB zs zs.length))) EX
  omega
end Go.Proofs.YtofabikjjkapmaaGreat

set_option maxRecDepth 100000
set_option linter.unusedVariables false
set_option linter.unusedSimpArgs false
namespace Go.Proofs.YtofabikjjkapmaaGreat
open Go.RowKit

/-- up to which number a test holds, at most n more than k -/
def cndF (f : Nat → Bool) : Nat → Nat → Nat
  | 0, k => k
  | n + 1, k => bif f (k + 1) then cndF f n (k + 1) else k
theorem cndF_spec (f : Nat → Bool) : ∀ n k, k ≤ cndF f n k ∧ cndF f n k ≤ k + n ∧ (∀ j, k < j → j ≤ cndF f n k → f j = true) ∧ (cndF f n k = k + n ∨ f (cndF f n k + 1) = false)
  | 0, k => ⟨Nat.le_refl _, Nat.le_refl _, fun j h1 h2 => by have : cndF f 0 k = k := rfl; omega, .inl rfl⟩
  | n + 1, k => by
    unfold cndF
    cases h : f (k + 1) with
    | true =>
      rw [cond_true]
      obtain ⟨a, b, c, d⟩ := cndF_spec f n (k + 1)
      refine ⟨by omega, by omega, fun j h1 h2 => ?_, ?_⟩
      · by_cases e : j = k + 1
        · rw [e]; exact h
        · exact c j (by omega) h2
      · rcases d with d | d
        · exact .inl (by omega)
        · exact .inr d
    | false =>
      rw [cond_false]
      exact ⟨Nat.le_refl _, by omega, fun j h1 h2 => by omega, .inr h⟩
def cndO (f : Nat → Bool) : Nat := cndF f 16 0
theorem cndO_at {f : Nat → Bool} {j : Nat} (h0 : 0 < j) (h : j ≤ cndO f) : f j = true := (cndF_spec f 16 0).2.2.1 j h0 h
theorem cndO_le (f : Nat → Bool) : cndO f ≤ 16 := by have := (cndF_spec f 16 0).2.1; unfold cndO; omega
theorem cndO_end (f : Nat → Bool) : cndO f = 16 ∨ f (cndO f + 1) = false := by have := (cndF_spec f 16 0).2.2.2; unfold cndO; omega
theorem cndO_ge {f : Nat → Bool} {n : Nat} (hn : n ≤ 16) (h : ∀ j, 0 < j → j ≤ n → f j = true) : n ≤ cndO f := by
  rcases cndO_end f with e | e
  · omega
  · refine Classical.byContradiction fun hx => ?_
    rw [h (cndO f + 1) (by omega) (by omega)] at e
    cases e
theorem cndO_is {f : Nat → Bool} {n : Nat} (hn : n ≤ 16) (h : ∀ j, 0 < j → j ≤ n → f j = true) (he : n = 16 ∨ f (n + 1) = false) : cndO f = n := by
  have h1 := cndO_ge hn h
  have h2 := cndO_le f
  rcases he with he | he
  · omega
  · refine Classical.byContradiction fun hx => ?_
    rw [cndO_at (f := f) (j := n + 1) (by omega) (by omega)] at he
    cases he
/-! ### the tests -/
def mB (s : Nat) (b c : Nat → Int) (k : Nat) : Bool := decide (((k : Int) * sR s (fun i => b i * c i ^ (k - 1))) % 10007 = 1)
def mC (s : Nat) (A : Nat → Nat → Int) (c : Nat → Int) (k : Nat) : Bool := (List.range s).all fun i => decide (((k : Int) * sR s (fun j => A i j * c j ^ (k - 1))) % 10007 = c i ^ k % 10007)
theorem mB_iff {s : Nat} {b c : Nat → Int} {k : Nat} (hk : k < 39) : mB s b c (k + 1) = true ↔ sR s (fun i => b i * c i ^ k) % 10007 = rh k % 10007 := by
  unfold mB
  rw [Nat.add_sub_cancel, decide_eq_true_eq]
  have hr := rh_is (show k < 40 by omega)
  constructor
  · intro h
    have e : ∀ x : Int, rh k * (((k : Int) + 1) * x) % 10007 = x % 10007 := fun x => by
      rw [← Int.mul_assoc, Int.mul_comm (rh k), Int.mul_emod, hr, Int.one_mul, Int.emod_emod_of_dvd _ (Int.dvd_refl _)]
    rw [← e, Int.mul_emod, show ((k : Int) + 1) = ((k + 1 : Nat) : Int) by omega, h, Int.mul_one, Int.emod_emod_of_dvd _ (Int.dvd_refl _)]
  · intro h
    rw [show ((k + 1 : Nat) : Int) = (k : Int) + 1 by omega, mulm (a := (k : Int) + 1) (c := (k : Int) + 1) rfl h, hr]
/-- the orders of the conditions of a collocation tableau -/
theorem coll_conds {zs : List Int} (h : DN zs) (h1 : 1 ≤ zs.length) (h8 : zs.length ≤ 8) {m : Nat} (hm : m ≤ 8) (hz : ∀ t, t < m → mu zs.length (fun l => (ndP zs zs.length).getD l 0) t % 10007 = 0)
    (he : m = 8 ∨ mu zs.length (fun l => (ndP zs zs.length).getD l 0) m % 10007 ≠ 0) :
    cndO (mB zs.length (fB (colB zs zs.length)) (fun i => zs.getD i 0)) = zs.length + m ∧ zs.length ≤ cndO (mC zs.length (fT (colA zs zs.length)) (fun i => zs.getD i 0)) := by
  have hc := coll_of h
  have hms := orth_le h8 hm _ hz
  have hq := hc.quad (ndP_NPol zs) m hz
  refine ⟨cndO_is (by omega) (fun j h0 hj => ?_) ?_, cndO_ge (by omega) fun j h0 hj => ?_⟩
  · obtain ⟨k, rfl⟩ : ∃ k, j = k + 1 := ⟨j - 1, by omega⟩
    exact (mB_iff (by omega)).2 (hq k (by omega))
  · rcases he with he | he
    · exact .inl (by omega)
    · refine .inr ?_
      cases hb : mB zs.length (fB (colB zs zs.length)) (fun i => zs.getD i 0) (zs.length + m + 1) with
      | false => rfl
      | true => exact absurd ((mB_iff (by omega)).1 hb) (hc.quad_end (ndP_NPol zs) hz he)
  · obtain ⟨k, rfl⟩ : ∃ k, j = k + 1 := ⟨j - 1, by omega⟩
    unfold mC
    rw [List.all_eq_true]
    intro i hi
    refine decide_eq_true ?_
    have e := hc.C (k := k) (by omega) (List.mem_range.1 hi)
    rw [Nat.add_sub_cancel, show ((k + 1 : Nat) : Int) = (k : Int) + 1 by omega, mulm (a := (k : Int) + 1) (c := (k : Int) + 1) rfl e, rh_cancel (by omega)]
end Go.Proofs.YtofabikjjkapmaaGreat

set_option maxRecDepth 100000
set_option linter.unusedVariables false
set_option linter.unusedSimpArgs false
namespace Go.Proofs.YtofabikjjkapmaaGreat
open Go.RowKit

def mirZ (zs : List Int) : List Int := zs.map fun z => (1 - z) % 10007
theorem mirZ_len (zs : List Int) : (mirZ zs).length = zs.length := by unfold mirZ; rw [List.length_map]
theorem mirZ_get (zs : List Int) {i : Nat} (h : i < zs.length) : (mirZ zs).getD i 0 = (1 - zs.getD i 0) % 10007 := by
  unfold mirZ
  rw [getD_mapT (fun z => (1 - z) % 10007) h 0]
theorem DN.mir {zs : List Int} (h : DN zs) : DN (mirZ zs) := by
  refine ⟨fun z hz => ?_, fun i k hi hk hne => ?_⟩
  · unfold mirZ at hz
    obtain ⟨x, -, rfl⟩ := List.mem_map.1 hz
    omega
  · rw [mirZ_len] at hi hk
    rw [mirZ_get zs hi, mirZ_get zs hk]
    have h1 := h.num _ (getD_mem hi 0)
    have h2 := h.num _ (getD_mem hk 0)
    have h3 := h.dif i k hi hk hne
    generalize zs.getD i 0 = x at h1 h3 ⊢
    generalize zs.getD k 0 = y at h2 h3 ⊢
    omega
/-- the character of the mirrored nodes is that of the adjoint -/
theorem mir_ch {zs : List Int} (h : DN zs) (h8 : zs.length ≤ 8) : chT (colA (mirZ zs) (mirZ zs).length) (colB (mirZ zs) (mirZ zs).length) = chT (adA (colA zs zs.length) (colB zs zs.length)) (adB (colB zs zs.length)) := by
  rw [chT_ad (sq_coll zs)]
  have h1 := coll_of h
  have h2 := coll_of h.mir
  unfold chT
  rw [colB_len, colB_len]
  rw [mirZ_len] at h2 ⊢
  refine h1.mirror_chF h2 h8 fun i hi => ?_
  show (mirZ zs).getD i 0 % 10007 = _
  rw [mirZ_get zs hi, Int.emod_emod_of_dvd _ (Int.dvd_refl _)]
/-- the node polynomial is 0 at the nodes, by Horner's rule from the top -/
def horn (x : Int) (p : List Int) : Int := p.foldr (fun a v => (v * x + a) % 10007) 0
theorem horn_ev (x : Int) : ∀ p : List Int, horn x p % 10007 = ev p x % 10007
  | [] => rfl
  | a :: p => by
    have ih := horn_ev x p
    show (horn x p * x + a) % 10007 % 10007 = (a + x * ev p x) % 10007
    rw [Int.emod_emod_of_dvd _ (Int.dvd_refl _), Int.add_comm, Int.mul_comm]
    exact addm rfl (mulm rfl ih)
theorem horn_nodes (zs : List Int) {i : Nat} (h : i < zs.length) : horn (zs.getD i 0) (ndP zs zs.length) % 10007 = 0 := by
  rw [horn_ev, ndP_zero zs zs.length i h]
end Go.Proofs.YtofabikjjkapmaaGreat

set_option linter.unusedVariables false
set_option linter.unusedSimpArgs false
namespace Go.Proofs.YtofabikjjkapmaaGreat
open Go.RowKit

theorem Blk.grow {w w' : World} {g : Nat} {t : TypeId} {cs : Array Value} {v v' : Value} (h : Blk w g t cs) (hg : Grow w w' v v') (hne : v.ownBlock ≠ some g) : Blk w' g t cs :=
  (hg.1.block g h.lt (fun e => hne e.symm)).trans h
theorem Blk.both {w : World} {g : Nat} {t : TypeId} {cs : Array Value} {u : Value} (h : Blk w g t cs) (h0 : cs[0]? = some u) : w.cell? ⟨g, 0, none⟩ = some u ∧ w.frozen? ⟨g, 0, none⟩ = false := ⟨(h.cell 0).trans h0, h.frozen 0⟩

/-- the state of a tableau that is filled: block p holds it, the rows lie behind p, the weights before p -/
structure Fill (w0 w : World) (p : Nat) (va vb : Value) (vs : List Value) (N : Nat) (rows : List (List Int)) (Bs : List Int) : Prop where
  blk : Blk w p 37 #[va, vb]
  own : Own w (p + 1) tL va vs
  rows : RowsOwn w (p + 1) w.heap.size tI vs rows
  ws : OI w N p tI vb Bs
  le : w0.heap.size ≤ N
  below : Below w0.heap.size w0 w

section
variable {w0 wr w2 w3 : World} {p N : Nat} {va vb v1 r : Value} {vs : List Value} {rows : List (List Int)} {zs Bs : List Int}
theorem Fill.lt (h : Fill w0 wr p va vb vs N rows Bs) : p < wr.heap.size := h.blk.lt
theorem Fill.np (h : Fill w0 wr p va vb vs N rows Bs) : va.ownBlock ≠ some p := fun e => by have := h.own.ge p e; omega
theorem Fill.after (h : Fill w0 wr p va vb vs N rows Bs) (hb2 : Below wr.heap.size wr w2) : Blk w2 p 37 #[va, vb] := h.blk.below hb2 h.lt
theorem Fill.next (h : Fill w0 wr p va vb vs N rows Bs) (hp : w0.heap.size ≤ p) (hb2 : Below wr.heap.size wr w2) (ho2 : OwnInts w2 wr.heap.size tI r zs)
    (hown1 : Own w3 (p + 1) tL v1 (vs ++ [r])) (hgr : Grow w2 w3 va v1) :
    Fill w0 (w3.setCell ⟨p, 0, none⟩ v1) p v1 vb (vs ++ [r]) N (rows ++ [zs]) Bs := by
  have hsz : p + 1 ≤ wr.heap.size := h.lt
  have hs2 := hb2.size
  have hs3 := hgr.1.size
  have hO2 := h.own.below hb2
  have hK3 := (h.after hb2).grow hgr h.np
  have hR2 := ((h.rows.below hb2).mono (Nat.le_refl _) hs2).snoc (u := r) (zs := zs) ⟨ho2.mono hsz, ho2.1.lt⟩ (h.rows.apart (M := 0) (fun b hb => .inl (ho2.1.ge b hb)))
  have hR3 := hR2.other hgr.1 (fun j u hu => by
    have hj := (List.getElem?_eq_some_iff.1 hu).1
    have hx : (rows ++ [zs])[j]? = some ((rows ++ [zs])[j]'(by rw [← hR2.1]; exact hj)) := List.getElem?_eq_getElem _
    exact Own.ne_of_type (hR2.2.1 j u _ hu hx).1.1 hO2 (by decide))
  have hc := (Chg.refl p (p + 1) w3).setCell (p := ⟨p, 0, none⟩) (Nat.le_refl _) (by simp) v1
  have hw := h.ws.below hb2
  have hw3 : OI w3 N p tI vb Bs := ⟨hw.1.kept hgr.1 (by
    cases hv : vb.ownBlock with
    | none => exact .inl hv
    | some b => exact .inr fun e => by have h1 := hw.2 b hv; have h2 := hO2.ge b (e.symm.trans hv); omega), hw.2⟩
  have hse : (w3.setCell ⟨p, 0, none⟩ v1).heap.size = w3.heap.size := by simp [World.setCell]
  have hBw : Below w0.heap.size w0 w2 := h.below.trans (hb2.mono (by have := h.below.size; omega))
  refine ⟨?_, ?_, ?_, ?_, h.le, ?_⟩
  · have := hK3.set_ 0 v1
    simpa using this
  · exact hown1.of_block fun b hb => hc.block b (hown1.lt b hb) (.inr (hown1.ge b hb))
  · rw [hse]
    exact (hR3.mono (Nat.le_refl _) hs3).kept hc (.inr (Nat.le_refl _))
  · exact hw3.kept hc (.inl (Nat.le_refl _))
  · exact (hgr.below hBw (by have := h.below.size; omega) (fun b hb => by have := hO2.ge b hb; omega)).setCell (p := ⟨p, 0, none⟩) hp v1
/-- what is filled is an owned tableau -/
theorem Fill.tab (h : Fill w0 wr p va vb vs N rows Bs) (hN : N ≤ p) : OT wr N wr.heap.size (.agg #[va, vb]) rows Bs := by
  have hsz := h.lt
  exact OT.of_M' (M := p) hN (Nat.le_of_lt hsz) h.ws ⟨vs, h.own.mono (Nat.le_succ _), h.own.lt, h.rows.mono (Nat.le_succ _) (Nat.le_refl _)⟩
end
end Go.Proofs.YtofabikjjkapmaaGreat

set_option linter.unusedVariables false
set_option linter.unusedSimpArgs false
namespace Go.Proofs.YtofabikjjkapmaaGreat
open Go.RowKit

/-- a tableau of numbers, of any form -/
structure NumTab (A : List (List Int)) (Bs : List Int) : Prop where
  la : A.length ≤ 1000
  lb : Bs.length ≤ 1000
  rows : ∀ zs ∈ A, Nums zs ∧ zs.length ≤ 1000
  ws : Nums Bs

set_option maxRecDepth 100000 in
set_option maxHeartbeats 2000000 in
theorem im_times (w : World) (v : Value) (A : List (List Int)) (Bs : List Int) (k : Int) (ha : TabArg w v A Bs) (hT : NumTab A Bs) (h0 : -4000000000000000000 ≤ k) (h1 : k ≤ 4000000000000000000) :
    Calls Tryz.prog 146 #[v, .int .i64 k] w fun e w' => ∃ r, e = .returned r ∧ OT w' w.heap.size w'.heap.size r (A.map (scl (k % 10007))) (scl (k % 10007) Bs) ∧ Below w.heap.size w w' := by
  obtain ⟨va, vb, rfl, hA, hB⟩ := ha
  have HB := Lib.hid hB
  have HA := Lib.hid hA
  obtain ⟨A1, c1, rfl, l1, l2, h3⟩ := hA.open_
  obtain ⟨A2, c2, rfl, -, -, -⟩ := hB.open_
  have H3 := Lib.hid h3
  have hal := hT.la
  have hbl := hT.lb
  have HT := Lib.hid hT
  clear hA hB h3 hT
  go_enter Tryz.func146, Tryz.ntmps146
  go_wp2_with fail
  refine (i_scaled _ _ Bs k (HB.out.below (below2 w _ _)) HT.out.ws (by omega) h0 h1).mono ?_
  rintro e w3 ⟨v3, rfl, ho, hb3⟩
  simp only [size_alloc'] at ho hb3
  obtain ⟨A3, c3, hv, -, -, -⟩ := ho.ints.open_
  rw [scl_len] at hv
  subst hv
  have hs3 := hb3.size
  simp only [size_alloc'] at hs3
  have k0 : Blk w3 w.heap.size 37 #[.slice A1 A.length c1, .slice A2 Bs.length c2] := ((Blk.new w _ _).alloc _).below hb3 (by omega)
  have k1 : Blk w3 (w.heap.size + 1) 37 #[.slice none 0 0, .slice none 0 0] := (Blk.new1 w _ _ _).below hb3 (by omega)
  have g0 : (w3.alloc (.cells #[.slice none 0 0, .slice A3 Bs.length c3] 37)).cell? ⟨w.heap.size, 0, none⟩ = some (.slice A1 A.length c1) := (k0.alloc _).cell 0
  have HF := Lib.hid (show Fill w (w3.alloc (.cells #[.slice none 0 0, .slice A3 Bs.length c3] 37)) w3.heap.size (.slice none 0 0) (.slice A3 Bs.length c3) [] (w.heap.size + 1 + 1) [] (scl (k % 10007) Bs) from
    ⟨Blk.new _ _ _, Own.nil _ _ _, RowsOwn.nil _ _ _ _, (OI.of ho).below (below1 _ _), by omega, ((below2 w _ _).trans (hb3.mono (by omega))).alloc (by omega) _⟩)
  have K1 := Lib.hid (k1.alloc (.cells #[.slice none 0 0, .slice A3 Bs.length c3] 37))
  have HP := Lib.hid hs3
  clear k0 k1 ho hb3 hs3
  go_wp2_with fail
  clear g0
  generalize hw4 : (w3.alloc (.cells #[.slice none 0 0, .slice A3 Bs.length c3] 37)) = w4 at HF K1
  have HBelow4 := Lib.hid HF.out.below
  clear hw4
  generalize hp : w3.heap.size = p at HF HP ⊢
  clear hp
  go_loopw [16] (fun i wr => ∃ (j : Nat) (va : Value) (vs : List Value), j ≤ A.length ∧ i = .int .i64 j ∧ Fill w wr p va (.slice A3 Bs.length c3) vs (w.heap.size + 1 + 1) ((A.take j).map (scl (k % 10007))) (scl (k % 10007) Bs) ∧ Blk wr (w.heap.size + 1) 37 #[.slice none 0 0, .slice none 0 0]) (fun i _ => A.length - (intOf i).toNat)
  case atStart => exact ⟨0, _, [], Nat.zero_le _, rfl, HF.out, K1.out⟩
  case round =>
    obtain ⟨j, va, vs, hj, rfl, hfill, hk1⟩ := hrel
    clear HF K1
    have HF := Lib.hid hfill
    have K1 := Lib.hid hk1
    have hvl : vs.length ≤ 1000 := by have := hfill.rows.1; simp at this; omega
    have HV := Lib.hid hvl
    clear hfill hk1 hvl
    by_cases hlt : j < A.length
    · obtain ⟨ad, u, zs, rfl, hz, hu, hc0⟩ := H3.out j hlt
      have hc : wr.cell? (ad.add j) = some u := by
        rw [HF.out.below.cell (by rw [block_add]; have := World.block_lt_of_cell? w _ hc0; rwa [block_add] at this)]; exact hc0
      have HU := Lib.hid (hu.below HF.out.below)
      have HZN := Lib.hid (HT.out.rows zs (List.mem_of_getElem? hz))
      have HZ := Lib.hid hz
      clear hz hu hc0
      go_wp2_with fail
      have q0 := (HF.out.blk.both (u := va) rfl).1
      have q1 := (HF.out.blk.both (u := va) rfl).2
      go_region_law (first | (refine step_app1 T_row (B := p + 1) (v := va) (vs := vs) (HF.out.own.below (below_of_drew hb5)) (by have := HV.out; omega) (by have h1 := HF.out.lt; have h2 := hb5.size; simp at h2; omega) (by rfl) rfl (by rfl) (by rfl) (by rfl) ?_; intro v6 w6 hown6 hgr6; obtain ⟨A6, c6, hv6, -, -⟩ := hown6.cells.open_; subst hv6; have q6 := (((HF.out.after (below_of_drew hb5)).grow hgr6 HF.out.np).both (u := va) rfl).1; have q7 := (((HF.out.after (below_of_drew hb5)).grow hgr6 HF.out.np).both (u := va) rfl).2) | (go_simp; go_at_call 130; refine (i_scaled _ _ zs k (by exact HU.out) HZN.out.1 (by have := HZN.out.2; omega) h0 h1).mono ?_; rintro e w5 ⟨r5, rfl, ho5, hb5⟩; obtain ⟨A5, c5, hv5, -, -, -⟩ := ho5.ints.open_; rw [scl_len] at hv5; subst hv5; have q5 := ((HF.out.after (below_of_drew hb5)).both (u := va) rfl).1; have q5a : ∀ o, (w5.alloc o).cell? ⟨p, 0, none⟩ = some va := fun o => ((HF.out.after (below_of_drew hb5)).alloc o).cell 0))
      all_goals
        have HN := Lib.hid (HF.out.next (zs := scl (k % 10007) zs) (r := Value.slice A5 zs.length c5) (by have := HP.out; omega) (below_of_drew hb5) ho5 hown6 hgr6)
        have KN := Lib.hid ((((K1.out.below (below_of_drew hb5) K1.out.lt).grow hgr6 (fun e => by have h1 := HF.out.own.ge _ e; have h2 := HP.out; omega))).far (p := ⟨p, 0, none⟩) (by have h2 := HP.out; simp; omega) (Value.slice A6 (vs ++ [Value.slice A5 zs.length c5]).length c6))
        have HZT := Lib.hid (show (A.take (j + 1)).map (scl (k % 10007)) = (A.take j).map (scl (k % 10007)) ++ [scl (k % 10007) zs] by rw [List.take_add_one, HZ.out]; simp)
        simp only [List.length_append, List.length_singleton] at HN KN
        clear hown6 hgr6 ho5 hb5 q0 q1 q5 q5a q6 q7 hc
        go_wp2_with fail
        go_roundw
        case rel =>
          refine ⟨j + 1, .slice A6 (vs.length + 1) c6, vs ++ [.slice A5 zs.length c5], by omega, by go_num, ?_, KN.out⟩
          rw [HZT.out]
          exact HN.out
        case measure => simp [intOf]; omega
    · have : j = A.length := by omega
      subst this
      rw [List.take_length] at HF
      obtain ⟨A7, c7, hv7, -, -⟩ := HF.out.own.cells.open_
      have hvl : vs.length = A.length := by have := HF.out.rows.1; simp at this; omega
      rw [hvl] at hv7
      subst hv7
      have e0 : wr.cell? ⟨p, 0, none⟩ = some (.slice A7 A.length c7) := HF.out.blk.cell 0
      have e1 : wr.cell? ⟨p, 1, none⟩ = some (.slice A3 Bs.length c3) := HF.out.blk.cell 1
      have f0 : wr.cell? ⟨w.heap.size + 1, 0, none⟩ = some (.slice none 0 0) := K1.out.cell 0
      have f1 : wr.cell? ⟨w.heap.size + 1, 1, none⟩ = some (.slice none 0 0) := K1.out.cell 1
      have f2 := K1.out.frozen 0
      have f3 := K1.out.frozen 1
      have HTAB := Lib.hid (HF.out.tab (by have := HP.out; omega))
      clear hvl
      go_wp2_with fail
      have c0 := Chg.refl (w.heap.size + 1) (w.heap.size + 1 + 1) wr
      have c1' := c0.setCell (p := ⟨w.heap.size + 1, 0, none⟩) (Nat.le_refl _) (by simp) (.slice A7 A.length c7)
      have c2' := c1'.setCell (p := ⟨w.heap.size + 1, 1, none⟩) (Nat.le_refl _) (by simp) (.slice A3 Bs.length c3)
      have hsb := HF.out.below.size
      refine bodyPost_ret (v := .agg #[.slice A7 A.length c7, .slice A3 Bs.length c3]) (by simp [results, Tryz.results146, go_sem, f0, f1]) rfl ⟨_, rfl, (HTAB.out.kept c2' (.inr (Nat.le_refl _))).mono (by omega) c2'.size, c2'.below HF.out.below (by omega) hsb⟩
end Go.Proofs.YtofabikjjkapmaaGreat

set_option linter.unusedVariables false
set_option linter.unusedSimpArgs false
namespace Go.Proofs.YtofabikjjkapmaaGreat
open Go.RowKit

theorem Ints.pre {w : World} {A : Option Addr} {n c : Nat} {zs : List Int} (h : Ints w (.slice A n c) zs) (k : Nat) (hk : k ≤ zs.length) : Ints w (.slice A k c) (zs.take k) := by
  obtain ⟨A', c', hv, l1, l2, h3⟩ := h.open_
  simp only [Value.slice.injEq] at hv
  obtain ⟨rfl, rfl, rfl⟩ := hv
  have hl : (ints (zs.take k)).length = k := by simp [ints]; omega
  refine ⟨⟨A, c, by rw [hl], by rw [hl]; omega, by simpa [maxLen] using l2, fun j u hu => ?_⟩, fun z hz => h.2 z (List.mem_of_mem_take hz)⟩
  have hj : j < k := by rw [← hl]; exact (List.getElem?_eq_some_iff.1 hu).1
  obtain ⟨ad, z, hA, hz, -, hc⟩ := h3 j (by omega)
  refine ⟨ad, hA, ?_⟩
  rw [hc, ← hu]
  simp [ints, List.getElem?_take, hj, hz]

set_option maxHeartbeats 400000 in
theorem lib_Index (w : World) (v : Value) (zs : List Int) (x : Int) (ha : Ints w v zs) :
    Calls Tryz.prog 185 #[v, .int .i64 x] w fun e w' => e = .returned (.int .i64 (idxF (fun z => z == x) zs)) ∧ w = w' := by
  obtain ⟨A, c, rfl, h1, h2, h3⟩ := ha.open_
  clear ha
  have H3 := Lib.hid h3
  clear h3
  go_enter Tryz.func185, Tryz.ntmps185
  go_wp2_with fail
  go_loop [8] (fun i => ∃ k : Nat, k ≤ zs.length ∧ i = .int .i64 k ∧ Hid (∀ i y, i < k → zs[i]? = some y → (y == x) = false)) (fun i => zs.length - (intOf i).toNat)
  case atStart => exact ⟨0, Nat.zero_le _, rfl, fun i y h => by omega⟩
  case round =>
    obtain ⟨k, hk, rfl, hI⟩ := hrel
    by_cases hlt : k < zs.length
    · obtain ⟨ad, z, rfl, hz, hz2, hc⟩ := H3.out k hlt
      have HZ := Lib.hid hz
      clear hz hz2
      by_cases hxz : x = z
      · subst hxz
        go_wp2_with fail
        go_ret
        exact ⟨ret_int (idxF_hit hI.out HZ.out (by simp)).symm, rfl⟩
      · have HX := Lib.hid hxz
        go_wp2_with fail
        go_round
        case rel =>
          refine ⟨k + 1, by omega, by go_num, fun i y hi hy => ?_⟩
          by_cases e : i = k
          · subst e
            rw [HZ.out] at hy
            cases hy
            simpa using fun h => HX.out h.symm
          · exact hI.out i y (by omega) hy
        case measure => simp [intOf]; omega
    · have : k = zs.length := by omega
      subst this
      go_wp2_with fail
      go_ret
      exact ⟨ret_int (idxF_miss hI.out).symm, rfl⟩

set_option maxHeartbeats 400000 in
theorem s_l01Index (w : World) (v : Value) (zs : List Int) (x : Int) (ha : Ints w v zs) :
    Calls Tryz.prog 188 #[v, .int .i64 x] w fun e w' => e = .returned (.int .i64 (idxF (fun z => z == x) zs)) ∧ w = w' := by
  obtain ⟨A, c, rfl, h1, h2, h3⟩ := ha.open_
  clear ha
  have H3 := Lib.hid h3
  clear h3
  go_enter Tryz.func188, Tryz.ntmps188
  go_wp2_with fail
  go_loop [5] (fun i => ∃ k : Nat, k ≤ zs.length ∧ i = .int .i64 k ∧ Hid (∀ i y, i < k → zs[i]? = some y → (y == x) = false)) (fun i => zs.length - (intOf i).toNat)
  case atStart => exact ⟨0, Nat.zero_le _, rfl, fun i y h => by omega⟩
  case round =>
    obtain ⟨k, hk, rfl, hI⟩ := hrel
    by_cases hlt : k < zs.length
    · obtain ⟨ad, z, rfl, hz, hz2, hc⟩ := H3.out k hlt
      have HZ := Lib.hid hz
      clear hz hz2
      by_cases hxz : z = x
      · subst hxz
        go_wp2_with fail
        go_ret
        exact ⟨ret_int (idxF_hit hI.out HZ.out (by simp)).symm, rfl⟩
      · have HX := Lib.hid hxz
        go_wp2_with fail
        go_round
        case rel =>
          refine ⟨k + 1, by omega, by go_num, fun i y hi hy => ?_⟩
          by_cases e : i = k
          · subst e
            rw [HZ.out] at hy
            cases hy
            simpa using HX.out
          · exact hI.out i y (by omega) hy
        case measure => simp [intOf]; omega
    · have : k = zs.length := by omega
      subst this
      go_wp2_with fail
      go_ret
      exact ⟨ret_int (idxF_miss hI.out).symm, rfl⟩

/-- is x on the list? -/
def hasB (zs : List Int) (x : Int) : Bool := zs.any fun z => z == x
set_option maxHeartbeats 400000 in
theorem lib_Contains (w : World) (v : Value) (zs : List Int) (x : Int) (ha : Ints w v zs) :
    Calls Tryz.prog 129 #[v, .int .i64 x] w fun e w' => e = .returned (.bool (hasB zs x)) ∧ w = w' := by
  have HA := Lib.hid ha
  clear ha
  go_enter Tryz.func129, Tryz.ntmps129
  go_wp2_with (go_at_call 185; refine (lib_Index _ _ _ _ HA.out).mono ?_; rintro e w' ⟨rfl, rfl⟩)
  go_ret
  exact ⟨ret_bool (idxF_nonneg _ zs), rfl⟩
set_option maxHeartbeats 400000 in
theorem s_l01Has (w : World) (v : Value) (zs : List Int) (x : Int) (ha : Ints w v zs) :
    Calls Tryz.prog 134 #[v, .int .i64 x] w fun e w' => e = .returned (.bool (hasB zs x)) ∧ w = w' := by
  have HA := Lib.hid ha
  clear ha
  go_enter Tryz.func134, Tryz.ntmps134
  go_wp2_with (go_at_call 188; refine (s_l01Index _ _ _ _ HA.out).mono ?_; rintro e w' ⟨rfl, rfl⟩)
  go_ret
  exact ⟨ret_bool (idxF_nonneg _ zs), rfl⟩

/-- does the k-th node stand ahead of itself? -/
def again (zs : List Int) (k : Nat) : Bool := hasB (zs.take k) (zs.getD k 0)
def nodesOk (zs : List Int) : Bool := inR zs.length 1 8 && nums zs
def nodesC (zs : List Int) : Int := if nodesOk zs then (if (List.range zs.length).any (again zs) then 5 else 0) else 2
theorem again_any {zs : List Int} {k : Nat} (hk : k < zs.length) (h : again zs k = true) : (List.range zs.length).any (again zs) = true :=
  List.any_eq_true.2 ⟨k, List.mem_range.2 hk, h⟩
theorem again_none {zs : List Int} (h : ∀ i, i < zs.length → again zs i = false) : (List.range zs.length).any (again zs) = false := by
  rw [List.any_eq_false]
  intro i hi
  rw [h i (List.mem_range.1 hi)]
  simp

set_option maxHeartbeats 1000000 in
theorem i_checkNodesList (w : World) (v : Value) (zs : List Int) (ha : Ints w v zs) :
    Calls Tryz.prog 69 #[v] w fun e w' => e = .returned (.int .i64 (nodesC zs)) ∧ w = w' := by
  have HA := Lib.hid ha
  obtain ⟨A, c, rfl, h1, h2, h3⟩ := ha.open_
  clear ha
  have H3 := Lib.hid h3
  clear h3
  go_enter Tryz.func69, Tryz.ntmps69
  go_wp2_with fail
  refine (lib_lengthI _ _ _ HA.out).mono ?_
  rintro e w' ⟨rfl, rfl⟩
  go_wp2_with fail
  refine (i_inRange _ _ _ _).mono ?_
  rintro e w' ⟨rfl, rfl⟩
  cases hr : inR zs.length 1 8 with
  | false =>
    have HR := Lib.hid hr
    go_wp2_with fail
    go_ret
    exact ⟨ret_int (by simp [nodesC, nodesOk, HR.out]), rfl⟩
  | true =>
    have HR := Lib.hid hr
    clear hr
    go_wp2_with fail
    refine (i_areNumbers _ _ _ HA.out).mono ?_
    rintro e w' ⟨rfl, rfl⟩
    cases hm : nums zs with
    | false =>
      have HM := Lib.hid hm
      go_wp2_with fail
      go_ret
      exact ⟨ret_int (by simp [nodesC, nodesOk, HM.out]), rfl⟩
    | true =>
      have HM := Lib.hid hm
      clear hm
      go_wp2_with fail
      go_loop [16] (fun i => ∃ k : Nat, k ≤ zs.length ∧ i = .int .i64 k ∧ Hid (∀ i, i < k → again zs i = false)) (fun i => zs.length - (intOf i).toNat)
      case atStart => exact ⟨0, Nat.zero_le _, rfl, fun i h => by omega⟩
      case round =>
        obtain ⟨k, hk, rfl, hI⟩ := hrel
        by_cases hlt : k < zs.length
        · obtain ⟨ad, z, rfl, hz, hz2, hc⟩ := H3.out k hlt
          have HZ := Lib.hid (show zs.getD k 0 = z by simp [List.getD, hz])
          have HP := Lib.hid (HA.out.pre k hk)
          have hkc : k ≤ c := by omega
          have hkc' : (k : Int) ≤ (c : Int) := by omega
          clear hz hz2
          go_wp2_with fail
          refine (lib_Contains _ _ _ z (by exact HP.out)).mono ?_
          rintro e w' ⟨rfl, rfl⟩
          cases hg : hasB (zs.take k) z with
          | true =>
            have HG := Lib.hid (show again zs k = true by unfold again; rw [HZ.out]; exact hg)
            go_wp2_with fail
            go_ret
            exact ⟨ret_int (by simp [nodesC, nodesOk, HM.out, HR.out, again_any hlt HG.out]), rfl⟩
          | false =>
            have HG := Lib.hid (show again zs k = false by unfold again; rw [HZ.out]; exact hg)
            go_wp2_with fail
            go_round
            case rel =>
              refine ⟨k + 1, by omega, by go_num, fun i hi => ?_⟩
              by_cases e : i = k
              · subst e; exact HG.out
              · exact hI.out i (by omega)
            case measure => simp [intOf]; omega
        · have : k = zs.length := by omega
          subst this
          go_wp2_with fail
          go_ret
          exact ⟨ret_int (by simp [nodesC, nodesOk, HM.out, HR.out, again_none hI.out]), rfl⟩
end Go.Proofs.YtofabikjjkapmaaGreat

set_option linter.unusedVariables false
set_option linter.unusedSimpArgs false
namespace Go.Proofs.YtofabikjjkapmaaGreat
open Go.RowKit

set_option maxHeartbeats 1000000 in
theorem s_l11Nodes (w : World) (v : Value) (zs : List Int) (ha : Ints w v zs) :
    Calls Tryz.prog 71 #[v] w fun e w' => e = .returned (.int .i64 (nodesC zs)) ∧ ∃ n, w' = w.drewN n := by
  have HA := Lib.hid ha
  obtain ⟨A, c, rfl, h1, h2, h3⟩ := ha.open_
  clear ha
  have H3 := Lib.hid h3
  clear h3
  have hR : inR zs.length 1 8 = (decide (1 ≤ (zs.length : Int)) && decide ((zs.length : Int) ≤ 8)) := rfl
  have HR := Lib.hid hR
  clear hR
  go_enter Tryz.func71, Tryz.ntmps71
  by_cases hlo : (zs.length : Int) < 1
  · have HL := Lib.hid (show nodesC zs = 2 by simp [nodesC, nodesOk, HR.out]; omega)
    go_wp2_with fail
    go_ret
    exact ⟨ret_int HL.out.symm, 0, rfl⟩
  · by_cases hhi : (8 : Int) < (zs.length : Int)
    · have HL := Lib.hid (show nodesC zs = 2 by simp [nodesC, nodesOk, HR.out]; omega)
      go_wp2_with fail
      go_ret
      exact ⟨ret_int HL.out.symm, 0, rfl⟩
    · have HRT := Lib.hid (show inR zs.length 1 8 = true by rw [HR.out]; simp; omega)
      go_wp2_with fail
      refine (s_l01Numbers _ _ _ HA.out).mono ?_
      rintro e w' ⟨rfl, rfl⟩
      cases hm : nums zs with
      | false =>
        have HM := Lib.hid hm
        go_wp2_with fail
        go_ret
        exact ⟨ret_int (by simp [nodesC, nodesOk, HM.out]), 0, rfl⟩
      | true =>
        have HM := Lib.hid hm
        clear hm
        go_wp2_with fail
        go_loopw [3] (fun i wr => ∃ k n : Nat, k ≤ zs.length ∧ i = .int .i64 k ∧ Hid (∀ i, i < k → again zs i = false) ∧ wr = w.drewN n) (fun i _ => zs.length - (intOf i).toNat)
        case atStart => exact ⟨0, 0, Nat.zero_le _, rfl, fun i h => by omega, rfl⟩
        case round =>
          obtain ⟨k, n, hk, rfl, hI, rfl⟩ := hrel
          by_cases hlt : k < zs.length
          · obtain ⟨ad, z, rfl, hz, hz2, hc⟩ := H3.out k hlt
            have HZ := Lib.hid (show zs.getD k 0 = z by simp [List.getD, hz])
            have HP := Lib.hid (HA.out.pre k hk)
            have hkc : k ≤ c := by omega
            have hkc' : (k : Int) ≤ (c : Int) := by omega
            have hki : (k : Int) < (zs.length : Int) := by omega
            clear hz hz2
            go_wp2_with fail
            go_quiet ((go_at_call 134; exact quiet_same (s_l01Has _ _ _ z (by exact HP.out.drewN _))))
            cases hg : hasB (zs.take k) z with
            | true =>
              have HG := Lib.hid (show again zs k = true by unfold again; rw [HZ.out]; exact hg)
              go_wp2_with fail
              go_ret
              exact ⟨ret_int (by simp [nodesC, nodesOk, HM.out, HRT.out, again_any hlt HG.out]), _, World.drewN_drewN ..⟩
            | false =>
              have HG := Lib.hid (show again zs k = false by unfold again; rw [HZ.out]; exact hg)
              go_wp2_with fail
              go_roundw
              case rel =>
                refine ⟨k + 1, _, by omega, by go_num, fun i hi => ?_, rfl⟩
                by_cases e : i = k
                · subst e; exact HG.out
                · exact hI.out i (by omega)
              case measure => simp [intOf]; omega
          · have : k = zs.length := by omega
            subst this
            go_wp2_with fail
            go_ret
            exact ⟨ret_int (by simp [nodesC, nodesOk, HM.out, HRT.out, again_none hI.out]), _, rfl⟩

set_option maxHeartbeats 400000 in
theorem s_l01Frac1 (k : Int) (w : World) (h0 : 0 ≤ k) (h1 : k ≤ 2000000000) :
    Calls Tryz.prog 119 #[.int .i64 1, .int .i64 k] w fun e w' => e = .returned (.int .i64 (pw k 10005)) ∧ w = w' := by
  have HP := Lib.hid (show (1 : Int) % 10007 * pw (k % 10007) 10005 % 10007 = pw k 10005 by rw [pw_mod, show (1 : Int) % 10007 = 1 from by decide, Int.one_mul, pw_self])
  have hb := pw_bd (k % 10007) 10005
  go_enter Tryz.func119, Tryz.ntmps119
  go_wp2_with (first | (go_at_call 177; refine (s_l01Mod _ _ (by omega) (by omega)).mono ?_; rintro e w' ⟨rfl, rfl⟩) | (go_at_call 178; refine (s_l01Inv _ _ (by omega) (by omega)).mono ?_; rintro e w' ⟨rfl, rfl⟩) | (go_at_call 176; refine (s_l01Mul _ _ _ (by omega) (by omega) (by omega) (by omega)).mono ?_; rintro e w' ⟨rfl, rfl⟩))
  go_ret
  refine ⟨ret_int ?_, rfl⟩
  have := HP.out
  simpa using this

set_option maxHeartbeats 1000000 in
theorem i_integral (w : World) (v : Value) (p : List Int) (x : Int) (ha : Ints w v p) (hN : Nums p) (hn : p.length ≤ 1000) (h0 : 0 ≤ x) (h1 : x ≤ 10006) :
    Calls Tryz.prog 77 #[v, .int .i64 x] w fun e w' => e = .returned (.int .i64 (integ p x)) ∧ w = w' := by
  obtain ⟨A, c, rfl, l1, l2, h3⟩ := ha.open_
  have H3 := Lib.hid h3
  have HN := Lib.hid hN
  clear ha h3 hN
  go_enter Tryz.func77, Tryz.ntmps77
  go_wp2_with fail
  go_loop [5, 10] (fun s i => ∃ j : Nat, j ≤ p.length ∧ i = .int .i64 j ∧ s = .int .i64 (sumTo (iterm p x) j)) (fun _ i => p.length - (intOf i).toNat)
  case atStart => exact ⟨0, Nat.zero_le _, rfl, rfl⟩
  case round =>
    obtain ⟨j, hj, rfl, rfl⟩ := hrel
    have hsb := sumTo_bd (iterm p x) (iterm_bd p x) j
    by_cases hlt : j < p.length
    · obtain ⟨ad, z, rfl, hz, -, hc⟩ := H3.out j hlt
      have hzn := HN.out z (List.mem_of_getElem? hz)
      have HI := Lib.hid (show iterm p x j = z * pw x (j + 1) % 10007 * pw ((j : Int) + 1) 10005 % 10007 by unfold iterm; simp [List.getD, hz])
      have ht : ((j : Int) + 1).toNat = j + 1 := by omega
      have b1 := pw_bd x (j + 1)
      have b2 := pw_bd ((j : Int) + 1) 10005
      obtain ⟨p1, p2⟩ := mul_bd 10006 10006 hzn.1 hzn.2 b1.1 b1.2
      have b3 : 0 ≤ z * pw x (j + 1) % 10007 ∧ z * pw x (j + 1) % 10007 ≤ 10006 := by omega
      obtain ⟨p3, p4⟩ := mul_bd 10006 10006 b3.1 b3.2 b2.1 b2.2
      clear hz
      generalize hs : sumTo (iterm p x) j = s at hsb
      have HS := Lib.hid hs
      clear hs
      go_wp2_with (first | (go_at_call 140; refine (i_pow _ _ _ (by omega) (by omega) (by omega) (by omega)).mono ?_; rintro e w' ⟨rfl, rfl⟩) | (go_at_call 56; refine (i_num _ _ (by omega) (by omega)).mono ?_; rintro e w' ⟨rfl, rfl⟩) | (go_at_call 99; refine (i_inv _ _ (by omega) (by omega)).mono ?_; rintro e w' ⟨rfl, rfl⟩))
      go_round
      case rel =>
        refine ⟨j + 1, by omega, by go_num, ?_⟩
        rw [sumTo, HS.out, HI.out]
      case measure => simp [intOf]; omega
    · have : j = p.length := by omega
      subst this
      go_wp2_with (go_at_call 56; refine (i_num _ _ (by omega) (by omega)).mono ?_; rintro e w' ⟨rfl, rfl⟩)
      go_ret
      exact ⟨rfl, rfl⟩

set_option maxHeartbeats 1000000 in
theorem s_l11Integral (w : World) (v : Value) (p : List Int) (x : Int) (ha : Ints w v p) (hN : Nums p) (hn : p.length ≤ 1000) (h0 : 0 ≤ x) (h1 : x ≤ 10006) :
    Calls Tryz.prog 135 #[v, .int .i64 0, .int .i64 x] w fun e w' => e = .returned (.int .i64 (integ p x)) ∧ ∃ n, w' = w.drewN n := by
  obtain ⟨A, c, rfl, l1, l2, h3⟩ := ha.open_
  have H3 := Lib.hid h3
  have HN := Lib.hid hN
  clear ha h3 hN
  go_enter Tryz.func135, Tryz.ntmps135
  go_wp2_with fail
  go_loopw [7, 8] (fun s i wr => ∃ j n : Nat, j ≤ p.length ∧ i = .int .i64 j ∧ s = .int .i64 (sumTo (iterm p x) j % 10007) ∧ wr = w.drewN n) (fun _ i _ => p.length - (intOf i).toNat)
  case atStart => exact ⟨0, 0, Nat.zero_le _, rfl, rfl, rfl⟩
  case round =>
    obtain ⟨j, n, hj, rfl, rfl, rfl⟩ := hrel
    have hsb : 0 ≤ sumTo (iterm p x) j % 10007 ∧ sumTo (iterm p x) j % 10007 ≤ 10006 := by omega
    by_cases hlt : j < p.length
    · obtain ⟨ad, z, rfl, hz, -, hc⟩ := H3.out j hlt
      have hzn := HN.out z (List.mem_of_getElem? hz)
      have HI := Lib.hid (show z * (pw x (j + 1) * pw ((j : Int) + 1) 10005 % 10007) % 10007 = iterm p x j by rw [← iterm_eq]; simp [List.getD, hz])
      have HT := Lib.hid (show sumTo (iterm p x) (j + 1) % 10007 = (sumTo (iterm p x) j % 10007 + iterm p x j) % 10007 by rw [sumTo, mod_add_l])
      have ht : ((j : Int) + 1).toNat = j + 1 := by omega
      have b1 := pw_bd x (j + 1)
      have b2 := pw_bd ((j : Int) + 1) 10005
      have hji : (j : Int) < (p.length : Int) := by omega
      clear hz
      generalize hs : sumTo (iterm p x) j % 10007 = s at hsb HT
      clear hs
      go_wp2_with fail
      go_quiet ((first | (go_at_call 190; exact quiet_same (s_l01Pow _ _ _ (by omega) (by omega) (by omega) (by omega))) | (go_at_call 119; exact quiet_same (s_l01Frac1 _ _ (by omega) (by omega))) | (go_at_call 176; exact quiet_same (s_l01Mul _ _ _ (by omega) (by omega) (by omega) (by omega))) | (go_at_call 189; exact quiet_same (s_l01Add _ _ _ (by omega) (by omega) (by omega) (by omega)))))
      go_wp2_with fail
      go_roundw
      case rel =>
        refine ⟨j + 1, _, by omega, by go_num, ?_, rfl⟩
        rw [HT.out, ← HI.out]
      case measure => simp [intOf]; omega
    · have : j = p.length := by omega
      subst this
      go_wp2_with fail
      go_ret
      exact ⟨rfl, _, rfl⟩
end Go.Proofs.YtofabikjjkapmaaGreat

