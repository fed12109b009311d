/- Plain: the two Butcher products of trees by places; up to where a map has the condition of symplectic or Hamiltonian ones. No walk. -/
import Derived.Test.YtdjhfeaimmpmhaaGreatZf17
import Derived.Test.YtdjhfeaimmpmhaaGreatZf13
set_option maxRecDepth 100000
set_option linter.unusedVariables false
set_option linter.unusedSimpArgs false
namespace Go.Proofs.YtdjhfeaimmpmhaaGreat
open Go.RowKit

/-- the neighbours' lists of u with v grafted at its root -/
def grNear (u v : List Nat) : List (List Nat) :=
  ((nearN u).set 0 ((nearN u).getD 0 [] ++ [u.length])) ++ ((nearN v).zipIdx.map fun (os, k) => os.map (fun o => u.length + o) ++ (if k = 0 then [0] else []))
def gIdx (u v : List Nat) : Nat := match canO 9 (graL u 0 v) with
  | some r => fndN T6n r
  | none => 0
def gOk (u v : List Nat) : Bool := bif Nat.ble (u.length + v.length) 6 then (match canO 9 (graL u 0 v), tfO 9 (grNear u v) 0 0 with
    | some r, some s => eqN r s && (Nat.beq (idxN T6n r) (fndN T6n r) && (Nat.ble 1 (fndN T6n r) && (Nat.ble (fndN T6n r) 37 && Nat.ble r.length 6)))
    | _, _ => false)
  else true
theorem gOk_all : T6n.all (fun u => T6n.all (gOk u)) = true := by decide +kernel
theorem gOk_at {u v : List Nat} (hu : u ∈ T6n) (hv : v ∈ T6n) (hs : u.length + v.length ≤ 6) : ∃ r, canO 9 (graL u 0 v) = some r ∧ tfO 9 (grNear u v) 0 0 = some r ∧ idxN T6n r = gIdx u v ∧ fndN T6n r = gIdx u v ∧ 1 ≤ gIdx u v ∧ gIdx u v ≤ 37 ∧ r.length ≤ 6 := by
  have h := gOk_all
  rw [List.all_eq_true] at h
  have h1 := h u hu
  rw [List.all_eq_true] at h1
  have h2 := h1 v hv
  unfold gOk at h2
  have hb : Nat.ble (u.length + v.length) 6 = true := Nat.ble_eq_true_of_le hs
  rw [hb, cond_true] at h2
  cases hc : canO 9 (graL u 0 v) with
  | none => rw [hc] at h2; cases h2
  | some r =>
    cases ht : tfO 9 (grNear u v) 0 0 with
    | none => rw [hc, ht] at h2; cases h2
    | some s =>
      rw [hc, ht] at h2
      simp only [Bool.and_eq_true] at h2
      have e := eqN_iff.1 h2.1
      subst e
      have hg : gIdx u v = fndN T6n r := by unfold gIdx; rw [hc]
      rw [hg]
      exact ⟨r, rfl, rfl, Nat.eq_of_beq_eq_true h2.2.1, rfl, Nat.le_of_ble_eq_true h2.2.2.1, Nat.le_of_ble_eq_true h2.2.2.2.1, Nat.le_of_ble_eq_true h2.2.2.2.2⟩

/-- the tree at an index -/
def tr (i : Nat) : List Nat := T6n.getD i []
theorem tr_at {i : Nat} {t : List Nat} (h : T6n[i]? = some t) : tr i = t := by unfold tr; rw [List.getD_eq_getElem?_getD, h]; rfl
theorem tr_get {i : Nat} (h : i < 37) : T6n[i]? = some (tr i) := by
  have ht : T6n[i]? = some (T6n[i]'(by rw [T6n_len]; exact h)) := List.getElem?_eq_getElem _
  rw [tr_at ht]; exact ht
theorem tr_mem {i : Nat} (h : i < 37) : tr i ∈ T6n := List.mem_of_getElem? (tr_get h)
/-- the condition at two trees -/
def prB (a : List Int) (c : Int) (i k : Nat) : Prop := (a.getD (gIdx (tr i) (tr k)) 0 + a.getD (gIdx (tr k) (tr i)) 0) % 10007 = c * (a.getD (i + 1) 0 * a.getD (k + 1) 0 % 10007) % 10007
instance (a : List Int) (c : Int) (i k : Nat) : Decidable (prB a c i k) := inferInstanceAs (Decidable (_ = _))
theorem prB_symm {a : List Int} {c : Int} {i k : Nat} (h : prB a c i k) : prB a c k i := by
  unfold prB at *
  rw [Int.add_comm, Int.mul_comm (a.getD (k + 1) 0)]
  exact h
/-- what r tells -/
structure ToR (a : List Int) (c : Int) (r : Nat) : Prop where
  le : r ≤ 6
  all : ∀ i k, i < 37 → k < 37 → (tr i).length + (tr k).length ≤ r → prB a c i k
  hit : r = 6 ∨ ∃ i k, i < 37 ∧ k < 37 ∧ (tr i).length + (tr k).length = r + 1 ∧ ¬ prB a c i k
theorem ToR.unique {a : List Int} {c : Int} {r s : Nat} (h : ToR a c r) (g : ToR a c s) : r = s := by
  rcases Nat.lt_trichotomy r s with hl | he | hl
  · rcases h.hit with h1 | ⟨i, k, hi, hk, hn, hp⟩
    · have := g.le; omega
    · exact absurd (g.all i k hi hk (by omega)) hp
  · exact he
  · rcases g.hit with h1 | ⟨i, k, hi, hk, hn, hp⟩
    · have := h.le; omega
    · exact absurd (h.all i k hi hk (by omega)) hp
/-- on the way through the pairs with k up to i, row by row: those ahead of (i, k) are done -/
structure ToM (a : List Int) (c : Int) (i k m : Nat) : Prop where
  le : m ≤ 6
  all : ∀ i' k', i' < 37 → k' ≤ i' → (i' < i ∨ (i' = i ∧ k' < k)) → (tr i').length + (tr k').length ≤ m → prB a c i' k'
  hit : m = 6 ∨ ∃ i k, i < 37 ∧ k < 37 ∧ (tr i).length + (tr k).length = m + 1 ∧ ¬ prB a c i k
theorem ToM.start (a : List Int) (c : Int) : ToM a c 0 0 6 := ⟨Nat.le_refl _, fun i' k' _ _ h _ => by omega, .inl rfl⟩
theorem ToM.skip {a : List Int} {c : Int} {i k m : Nat} (h : ToM a c i k m) (hn : m < (tr i).length + (tr k).length) : ToM a c i (k + 1) m := by
  refine ⟨h.le, fun i' k' hi hk hd hm => ?_, h.hit⟩
  by_cases e : i' = i ∧ k' = k
  · obtain ⟨rfl, rfl⟩ := e; omega
  · exact h.all i' k' hi hk (by omega) hm
theorem ToM.good {a : List Int} {c : Int} {i k m : Nat} (h : ToM a c i k m) (hp : prB a c i k) : ToM a c i (k + 1) m := by
  refine ⟨h.le, fun i' k' hi hk hd hm => ?_, h.hit⟩
  by_cases e : i' = i ∧ k' = k
  · obtain ⟨rfl, rfl⟩ := e; exact hp
  · exact h.all i' k' hi hk (by omega) hm
theorem ToM.bad {a : List Int} {c : Int} {i k m : Nat} (h : ToM a c i k m) (hi : i < 37) (hk : k < 37) (hn : (tr i).length + (tr k).length ≤ m) (h1 : 1 ≤ (tr i).length + (tr k).length) (hp : ¬ prB a c i k) : ToM a c i (k + 1) ((tr i).length + (tr k).length - 1) := by
  have := h.le
  refine ⟨by omega, fun i' k' hi' hk' hd hm => ?_, .inr ⟨i, k, hi, hk, by omega, hp⟩⟩
  by_cases e : i' = i ∧ k' = k
  · obtain ⟨rfl, rfl⟩ := e; omega
  · exact h.all i' k' hi' hk' (by omega) (by omega)
theorem ToM.row {a : List Int} {c : Int} {i m : Nat} (h : ToM a c i (i + 1) m) : ToM a c (i + 1) 0 m :=
  ⟨h.le, fun i' k' hi hk hd hm => h.all i' k' hi hk (by omega) hm, h.hit⟩
theorem ToM.fin {a : List Int} {c : Int} {m : Nat} (h : ToM a c 37 0 m) : ToR a c m := by
  refine ⟨h.le, fun i k hi hk hm => ?_, h.hit⟩
  by_cases hki : k ≤ i
  · exact h.all i k hi hki (by omega) hm
  · exact prB_symm (h.all k i hk (by omega) (by omega) (by omega))
/-- on the way of the reference: all pairs with fewer than n nodes, and those with n nodes ahead of (i, k) -/
structure ToS (a : List Int) (c : Int) (n i k : Nat) : Prop where
  low : ∀ i' k', i' < 37 → k' < 37 → (tr i').length + (tr k').length < n → prB a c i' k'
  all : ∀ i' k', i' < 37 → k' < 37 → (i' < i ∨ (i' = i ∧ k' < k)) → (tr i').length + (tr k').length = n → prB a c i' k'
theorem tr_pos {i : Nat} (h : i < 37) : 1 ≤ (tr i).length := (T6n_at (tr_mem h)).2.1
theorem ToS.start (a : List Int) (c : Int) : ToS a c 2 0 0 :=
  ⟨fun i k hi hk h => by have := tr_pos hi; have := tr_pos hk; omega, fun i' k' _ _ h _ => by omega⟩
theorem ToS.skip {a : List Int} {c : Int} {n i k : Nat} (h : ToS a c n i k) (hn : (tr i).length + (tr k).length ≠ n) : ToS a c n i (k + 1) := by
  refine ⟨h.low, fun i' k' hi hk hd hm => ?_⟩
  by_cases e : i' = i ∧ k' = k
  · obtain ⟨rfl, rfl⟩ := e; exact absurd hm hn
  · exact h.all i' k' hi hk (by omega) hm
theorem ToS.good {a : List Int} {c : Int} {n i k : Nat} (h : ToS a c n i k) (hp : prB a c i k) : ToS a c n i (k + 1) := by
  refine ⟨h.low, fun i' k' hi hk hd hm => ?_⟩
  by_cases e : i' = i ∧ k' = k
  · obtain ⟨rfl, rfl⟩ := e; exact hp
  · exact h.all i' k' hi hk (by omega) hm
theorem ToS.row {a : List Int} {c : Int} {n i : Nat} (h : ToS a c n i 37) : ToS a c n (i + 1) 0 :=
  ⟨h.low, fun i' k' hi hk hd hm => h.all i' k' hi hk (by omega) hm⟩
theorem ToS.next {a : List Int} {c : Int} {n : Nat} (h : ToS a c n 37 0) : ToS a c (n + 1) 0 0 := by
  refine ⟨fun i k hi hk hm => ?_, fun i' k' _ _ h _ => by omega⟩
  by_cases e : (tr i).length + (tr k).length = n
  · exact h.all i k hi hk (.inl hi) e
  · exact h.low i k hi hk (by omega)
theorem ToS.bad {a : List Int} {c : Int} {n i k : Nat} (h : ToS a c n i k) (hi : i < 37) (hk : k < 37) (h1 : 1 ≤ n) (h6 : n ≤ 6) (hn : (tr i).length + (tr k).length = n) (hp : ¬ prB a c i k) : ToR a c (n - 1) :=
  ⟨by omega, fun i' k' hi' hk' hm => h.low i' k' hi' hk' (by omega), .inr ⟨i, k, hi, hk, by omega, hp⟩⟩
theorem ToS.fin {a : List Int} {c : Int} (h : ToS a c 7 0 0) : ToR a c 6 :=
  ⟨Nat.le_refl _, fun i k hi hk hm => h.low i k hi hk (by omega), .inl rfl⟩
end Go.Proofs.YtdjhfeaimmpmhaaGreat

