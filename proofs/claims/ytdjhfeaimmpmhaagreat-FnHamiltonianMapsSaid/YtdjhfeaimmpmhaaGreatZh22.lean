/- Plain: the two Butcher products of trees by places; up to where a map has the condition of symplectic or Hamiltonian ones. No walk. | slices.SortFunc at partitions: laid. | Walks: the comparison of partitions; slices.SortFunc at partitions. | Plain: the trees of at most eight nodes, cut up: the kernel looks at all of them. First part. | Plain: the trees of at most eight nodes, cut up: the kernel looks at all of them. Second part. | Plain: the trees of at most eight nodes, cut up: put together. | Walk: cutUp of the program. | Walk: l04Turn of the reference. | Plain: l04Put, l04Roots, l04Cut, l04Double of the reference, with every premise of the walks; what the kernel finds at the trees with at most 8 nodes. | Words of memory for sums of trees: lists of one's own of structs of a tree and a count. | Walk: partitionsOf of the program. | Plain: substitution of maps by partitions, as the program and as the reference reckon it. No walk. | Plain: the convolution of maps as both reckon it; the program's lists of cuts in memory. No walk. | Plain: the inverse of a character as the program reckons it (a list that grows) and as the reference does (stores into a unit); they are equal. Scaled maps. No walk. -/
import Derived.Test.YtdjhfeaimmpmhaaGreatZh20
import Derived.Test.YtdjhfeaimmpmhaaGreatZh14
import Derived.Test.YtdjhfeaimmpmhaaGreatZh6
import Derived.Shelf.SlSortCmp.WholeK
import Derived.Shelf.SlSortCmp.NoneTotal
import Derived.Shelf.SlGeneric
import Derived.Ground.SlsfProg
import Derived.Test.YtdjhfeaimmpmhaaGreatZh12
import Derived.Test.YtdjhfeaimmpmhaaGreatZh7
import Derived.Test.YtdjhfeaimmpmhaaGreatZh13
import Derived.Deep.CutRange
import Derived.Deep.DeepCutAuto
import Derived.Test.YtdjhfeaimmpmhaaGreatZh10
import Derived.BigQuiet
import Derived.Deep.QuietTactic
import Derived.Deep.CutBlock
import Derived.Test.YtdjhfeaimmpmhaaGreatZh21
import Derived.Test.YtdjhfeaimmpmhaaGreatZh2
set_option maxRecDepth 100000
set_option linter.unusedVariables false
set_option linter.unusedSimpArgs false
namespace Go.Proofs.YtdjhfeaimmpmhaaGreat
open Go.RowKit

/-- the neighbours' lists of u with v grafted at its root -/
def grNear (u v : List Nat) : List (List Nat) :=
  ((nearN u).set 0 ((nearN u).getD 0 [] ++ [u.length])) ++ ((nearN v).zipIdx.map fun (os, k) => os.map (fun o => u.length + o) ++ (if k = 0 then [0] else []))
def gIdx (u v : List Nat) : Nat := match canO 9 (graL u 0 v) with
  | some r => fndN T6n r
  | none => 0
def gOk (u v : List Nat) : Bool := bif Nat.ble (u.length + v.length) 6 then (match canO 9 (graL u 0 v), tfO 9 (grNear u v) 0 0 with
    | some r, some s => eqN r s && (Nat.beq (idxN T6n r) (fndN T6n r) && (Nat.ble 1 (fndN T6n r) && (Nat.ble (fndN T6n r) 37 && Nat.ble r.length 6)))
    | _, _ => false)
  else true
theorem gOk_all : T6n.all (fun u => T6n.all (gOk u)) = true := by decide +kernel
theorem gOk_at {u v : List Nat} (hu : u ∈ T6n) (hv : v ∈ T6n) (hs : u.length + v.length ≤ 6) : ∃ r, canO 9 (graL u 0 v) = some r ∧ tfO 9 (grNear u v) 0 0 = some r ∧ idxN T6n r = gIdx u v ∧ fndN T6n r = gIdx u v ∧ 1 ≤ gIdx u v ∧ gIdx u v ≤ 37 ∧ r.length ≤ 6 := by
  have h := gOk_all
  rw [List.all_eq_true] at h
  have h1 := h u hu
  rw [List.all_eq_true] at h1
  have h2 := h1 v hv
  unfold gOk at h2
  have hb : Nat.ble (u.length + v.length) 6 = true := Nat.ble_eq_true_of_le hs
  rw [hb, cond_true] at h2
  cases hc : canO 9 (graL u 0 v) with
  | none => rw [hc] at h2; cases h2
  | some r =>
    cases ht : tfO 9 (grNear u v) 0 0 with
    | none => rw [hc, ht] at h2; cases h2
    | some s =>
      rw [hc, ht] at h2
      simp only [Bool.and_eq_true] at h2
      have e := eqN_iff.1 h2.1
      subst e
      have hg : gIdx u v = fndN T6n r := by unfold gIdx; rw [hc]
      rw [hg]
      exact ⟨r, rfl, rfl, Nat.eq_of_beq_eq_true h2.2.1, rfl, Nat.le_of_ble_eq_true h2.2.2.1, Nat.le_of_ble_eq_true h2.2.2.2.1, Nat.le_of_ble_eq_true h2.2.2.2.2⟩

/-- the tree at an index -/
def tr (i : Nat) : List Nat := T6n.getD i []
theorem tr_at {i : Nat} {t : List Nat} (h : T6n[i]? = some t) : tr i = t := by unfold tr; rw [List.getD_eq_getElem?_getD, h]; rfl
theorem tr_get {i : Nat} (h : i < 37) : T6n[i]? = some (tr i) := by
  have ht : T6n[i]? = some (T6n[i]'(by rw [T6n_len]; exact h)) := List.getElem?_eq_getElem _
  rw [tr_at ht]; exact ht
theorem tr_mem {i : Nat} (h : i < 37) : tr i ∈ T6n := List.mem_of_getElem? (tr_get h)
/-- the condition at two trees -/
def prB (a : List Int) (c : Int) (i k : Nat) : Prop := (a.getD (gIdx (tr i) (tr k)) 0 + a.getD (gIdx (tr k) (tr i)) 0) % 10007 = c * (a.getD (i + 1) 0 * a.getD (k + 1) 0 % 10007) % 10007
instance (a : List Int) (c : Int) (i k : Nat) : Decidable (prB a c i k) := inferInstanceAs (Decidable (_ = _))
theorem prB_symm {a : List Int} {c : Int} {i k : Nat} (h : prB a c i k) : prB a c k i := by
  unfold prB at *
  rw [Int.add_comm, Int.mul_comm (a.getD (k + 1) 0)]
  exact h
/-- what r tells -/
structure ToR (a : List Int) (c : Int) (r : Nat) : Prop where
  le : r ≤ 6
  all : ∀ i k, i < 37 → k < 37 → (tr i).length + (tr k).length ≤ r → prB a c i k
  hit : r = 6 ∨ ∃ i k, i < 37 ∧ k < 37 ∧ (tr i).length + (tr k).length = r + 1 ∧ ¬ prB a c i k
theorem ToR.unique {a : List Int} {c : Int} {r s : Nat} (h : ToR a c r) (g : ToR a c s) : r = s := by
  rcases Nat.lt_trichotomy r s with hl | he | hl
  · rcases h.hit with h1 | ⟨i, k, hi, hk, hn, hp⟩
    · have := g.le; omega
    · exact absurd (g.all i k hi hk (by omega)) hp
  · exact he
  · rcases g.hit with h1 | ⟨i, k, hi, hk, hn, hp⟩
    · have := h.le; omega
    · exact absurd (h.all i k hi hk (by omega)) hp
/-- on the way through the pairs with k up to i, row by row: those ahead of (i, k) are done -/
structure ToM (a : List Int) (c : Int) (i k m : Nat) : Prop where
  le : m ≤ 6
  all : ∀ i' k', i' < 37 → k' ≤ i' → (i' < i ∨ (i' = i ∧ k' < k)) → (tr i').length + (tr k').length ≤ m → prB a c i' k'
  hit : m = 6 ∨ ∃ i k, i < 37 ∧ k < 37 ∧ (tr i).length + (tr k).length = m + 1 ∧ ¬ prB a c i k
theorem ToM.start (a : List Int) (c : Int) : ToM a c 0 0 6 := ⟨Nat.le_refl _, fun i' k' _ _ h _ => by omega, .inl rfl⟩
theorem ToM.skip {a : List Int} {c : Int} {i k m : Nat} (h : ToM a c i k m) (hn : m < (tr i).length + (tr k).length) : ToM a c i (k + 1) m := by
  refine ⟨h.le, fun i' k' hi hk hd hm => ?_, h.hit⟩
  by_cases e : i' = i ∧ k' = k
  · obtain ⟨rfl, rfl⟩ := e; omega
  · exact h.all i' k' hi hk (by omega) hm
theorem ToM.good {a : List Int} {c : Int} {i k m : Nat} (h : ToM a c i k m) (hp : prB a c i k) : ToM a c i (k + 1) m := by
  refine ⟨h.le, fun i' k' hi hk hd hm => ?_, h.hit⟩
  by_cases e : i' = i ∧ k' = k
  · obtain ⟨rfl, rfl⟩ := e; exact hp
  · exact h.all i' k' hi hk (by omega) hm
theorem ToM.bad {a : List Int} {c : Int} {i k m : Nat} (h : ToM a c i k m) (hi : i < 37) (hk : k < 37) (hn : (tr i).length + (tr k).length ≤ m) (h1 : 1 ≤ (tr i).length + (tr k).length) (hp : ¬ prB a c i k) : ToM a c i (k + 1) ((tr i).length + (tr k).length - 1) := by
  have := h.le
  refine ⟨by omega, fun i' k' hi' hk' hd hm => ?_, .inr ⟨i, k, hi, hk, by omega, hp⟩⟩
  by_cases e : i' = i ∧ k' = k
  · obtain ⟨rfl, rfl⟩ := e; omega
  · exact h.all i' k' hi' hk' (by omega) (by omega)
theorem ToM.row {a : List Int} {c : Int} {i m : Nat} (h : ToM a c i (i + 1) m) : ToM a c (i + 1) 0 m :=
  ⟨h.le, fun i' k' hi hk hd hm => h.all i' k' hi hk (by omega) hm, h.hit⟩
theorem ToM.fin {a : List Int} {c : Int} {m : Nat} (h : ToM a c 37 0 m) : ToR a c m := by
  refine ⟨h.le, fun i k hi hk hm => ?_, h.hit⟩
  by_cases hki : k ≤ i
  · exact h.all i k hi hki (by omega) hm
  · exact prB_symm (h.all k i hk (by omega) (by omega) (by omega))
/-- on the way of the reference: all pairs with fewer than n nodes, and those with n nodes ahead of (i, k) -/
structure ToS (a : List Int) (c : Int) (n i k : Nat) : Prop where
  low : ∀ i' k', i' < 37 → k' < 37 → (tr i').length + (tr k').length < n → prB a c i' k'
  all : ∀ i' k', i' < 37 → k' < 37 → (i' < i ∨ (i' = i ∧ k' < k)) → (tr i').length + (tr k').length = n → prB a c i' k'
theorem tr_pos {i : Nat} (h : i < 37) : 1 ≤ (tr i).length := (T6n_at (tr_mem h)).2.1
theorem ToS.start (a : List Int) (c : Int) : ToS a c 2 0 0 :=
  ⟨fun i k hi hk h => by have := tr_pos hi; have := tr_pos hk; omega, fun i' k' _ _ h _ => by omega⟩
theorem ToS.skip {a : List Int} {c : Int} {n i k : Nat} (h : ToS a c n i k) (hn : (tr i).length + (tr k).length ≠ n) : ToS a c n i (k + 1) := by
  refine ⟨h.low, fun i' k' hi hk hd hm => ?_⟩
  by_cases e : i' = i ∧ k' = k
  · obtain ⟨rfl, rfl⟩ := e; exact absurd hm hn
  · exact h.all i' k' hi hk (by omega) hm
theorem ToS.good {a : List Int} {c : Int} {n i k : Nat} (h : ToS a c n i k) (hp : prB a c i k) : ToS a c n i (k + 1) := by
  refine ⟨h.low, fun i' k' hi hk hd hm => ?_⟩
  by_cases e : i' = i ∧ k' = k
  · obtain ⟨rfl, rfl⟩ := e; exact hp
  · exact h.all i' k' hi hk (by omega) hm
theorem ToS.row {a : List Int} {c : Int} {n i : Nat} (h : ToS a c n i 37) : ToS a c n (i + 1) 0 :=
  ⟨h.low, fun i' k' hi hk hd hm => h.all i' k' hi hk (by omega) hm⟩
theorem ToS.next {a : List Int} {c : Int} {n : Nat} (h : ToS a c n 37 0) : ToS a c (n + 1) 0 0 := by
  refine ⟨fun i k hi hk hm => ?_, fun i' k' _ _ h _ => by omega⟩
  by_cases e : (tr i).length + (tr k).length = n
  · exact h.all i k hi hk (.inl hi) e
  · exact h.low i k hi hk (by omega)
theorem ToS.bad {a : List Int} {c : Int} {n i k : Nat} (h : ToS a c n i k) (hi : i < 37) (hk : k < 37) (h1 : 1 ≤ n) (h6 : n ≤ 6) (hn : (tr i).length + (tr k).length = n) (hp : ¬ prB a c i k) : ToR a c (n - 1) :=
  ⟨by omega, fun i' k' hi' hk' hm => h.low i' k' hi' hk' (by omega), .inr ⟨i, k, hi, hk, by omega, hp⟩⟩
theorem ToS.fin {a : List Int} {c : Int} (h : ToS a c 7 0 0) : ToR a c 6 :=
  ⟨Nat.le_refl _, fun i k hi hk hm => h.low i k hi hk (by omega), .inl rfl⟩
end Go.Proofs.YtdjhfeaimmpmhaaGreat

set_option maxRecDepth 100000
namespace Go.Proofs
end Go.Proofs

set_option maxRecDepth 100000
set_option linter.unusedVariables false
set_option linter.unusedSimpArgs false
namespace Go.Proofs.YtdjhfeaimmpmhaaGreat
open Go.RowKit Go.Sort Go.Shelf

/-- pieces and skeleton -/
abbrev PK := List (List Nat) × List Nat
end Go.Proofs.YtdjhfeaimmpmhaaGreat

set_option maxRecDepth 100000
namespace Go.Proofs.YtdjhfeaimmpmhaaGreat
end Go.Proofs.YtdjhfeaimmpmhaaGreat

set_option maxRecDepth 100000
namespace Go.Proofs.YtdjhfeaimmpmhaaGreat
end Go.Proofs.YtdjhfeaimmpmhaaGreat

set_option linter.unusedVariables false
set_option linter.unusedSimpArgs false
set_option maxRecDepth 100000
namespace Go.Proofs.YtdjhfeaimmpmhaaGreat

end Go.Proofs.YtdjhfeaimmpmhaaGreat

set_option maxRecDepth 100000
set_option linter.unusedVariables false
set_option linter.unusedSimpArgs false
namespace Go.Proofs.YtdjhfeaimmpmhaaGreat
open Go.RowKit

theorem NW.start {w : World} {B g0 g1 n : Nat} {P : Value} {ps zs : List Int} (hP : OwnInts w B tN P ps) (hn : Own w B tNL (.slice (some ⟨g0, 0, none⟩) n n) (List.replicate n (.slice none 0 0))) (hT : OwnInts w B tN (.slice (some ⟨g1, 0, none⟩) n n) zs) (hap : Apart P (.slice (some ⟨g1, 0, none⟩) n n)) :
    NW w B g0 n (List.replicate n (.slice none 0 0)) (List.replicate n []) [P, .slice (some ⟨g1, 0, none⟩) n n] [ps, zs] := by
  refine ⟨hn, by simp, by simp, ?_⟩
  have h0 := Fam.nils w B tN n
  have h1 := h0.snoc hP fun j u' hj => by
    have := List.mem_of_getElem? hj
    have := List.eq_of_mem_replicate this
    subst this
    exact .inl rfl
  have h2 := h1.snoc hT fun j u' hj => by
    have := List.mem_of_getElem? hj
    rcases List.mem_append.1 this with h | h
    · have := List.eq_of_mem_replicate h
      subst this
      exact .inl rfl
    · simp at h; subst h; exact hap
  simpa [List.map_replicate, up] using h2
theorem Blk.kept {w w' : World} {p : Nat} {t : TypeId} {cs : Array Value} {row : Option Nat} (h : Blk w p t cs) (hg : w.grownBy w' row) (hne : row ≠ some p) : Blk w' p t cs :=
  (hg.block p h.lt (fun e => hne e.symm)).trans h
end Go.Proofs.YtdjhfeaimmpmhaaGreat

set_option maxRecDepth 100000
set_option linter.unusedVariables false
set_option linter.unusedSimpArgs false
namespace Go.Proofs.YtdjhfeaimmpmhaaGreat
open Go.RowKit

/-- the nearest place ahead of one whose level is one less -/
def parV (t : List Nat) (a : Nat) : Nat → Option Nat
  | 0 => none
  | k + 1 => bif Nat.beq (t.getD k 0 + 1) a then some k else parV t a k
/-- the branch at a node -/
def braL (t : List Nat) (node : Nat) : List Nat := (t.take (endN t node)).drop node
def allLe (b : Nat) : List Nat → Bool
  | [] => true
  | l :: ls => bif Nat.ble l b then allLe b ls else false
def allGe (b : Nat) : List Nat → Bool
  | [] => true
  | l :: ls => bif Nat.ble b l then allGe b ls else false
theorem allLe_of {b : Nat} : ∀ {ls : List Nat}, allLe b ls = true → ∀ l ∈ ls, l ≤ b
  | [], _, _, hl => absurd hl (by simp)
  | x :: xs, h, l, hl => by
      rw [allLe] at h
      cases hx : Nat.ble x b with
      | false => rw [hx] at h; cases h
      | true =>
        rw [hx] at h
        rcases List.mem_cons.1 hl with rfl | hl
        · exact Nat.le_of_ble_eq_true hx
        · exact allLe_of h l hl
theorem allGe_of {b : Nat} : ∀ {ls : List Nat}, allGe b ls = true → ∀ l ∈ ls, b ≤ l
  | [], _, _, hl => absurd hl (by simp)
  | x :: xs, h, l, hl => by
      rw [allGe] at h
      cases hx : Nat.ble b x with
      | false => rw [hx] at h; cases h
      | true =>
        rw [hx] at h
        rcases List.mem_cons.1 hl with rfl | hl
        · exact Nat.le_of_ble_eq_true hx
        · exact allGe_of h l hl
def okL (t : List Nat) : Bool := bif Nat.ble t.length 100 then allLe 1000 t else false
theorem okL_of {t : List Nat} (h : okL t = true) : t.length ≤ 100 ∧ ∀ l ∈ t, l ≤ 1000 := by
  unfold okL at h
  cases hx : Nat.ble t.length 100 with
  | false => rw [hx] at h; cases h
  | true => rw [hx] at h; exact ⟨Nat.le_of_ble_eq_true hx, allLe_of h⟩
/-- the tree rerooted, with every premise of the walk -/
def turV : Nat → List Nat → Nat → Option (List Nat)
  | 0, _, _ => none
  | f + 1, t, 0 => bif okL t then canO 9 t else none
  | f + 1, t, node + 1 => bif okL t && Nat.blt (node + 1) t.length && allGe (t.getD (node + 1) 0) (braL t (node + 1)) then
      match parV t (t.getD (node + 1) 0) (node + 1) with
      | none => none
      | some p => match turV f (t.take (node + 1) ++ t.drop (endN t (node + 1))) p with
        | none => none
        | some r => bif okL r then canO 9 (graL ((braL t (node + 1)).map fun x => x - t.getD (node + 1) 0) 0 r) else none
    else none
theorem parV_lt {t : List Nat} {a : Nat} : ∀ {k p : Nat}, parV t a k = some p → p < k
  | 0, _, h => by cases h
  | k + 1, p, h => by
      rw [parV] at h
      cases hx : Nat.beq (t.getD k 0 + 1) a with
      | true => rw [hx] at h; cases h; omega
      | false => rw [hx] at h; have := parV_lt h; omega
theorem turV_succ {f : Nat} {t : List Nat} {node : Nat} {r : List Nat} (h : turV (f + 1) t (node + 1) = some r) :
    okL t = true ∧ node + 1 < t.length ∧ allGe (t.getD (node + 1) 0) (braL t (node + 1)) = true ∧
    ∃ p q, parV t (t.getD (node + 1) 0) (node + 1) = some p ∧ turV f (t.take (node + 1) ++ t.drop (endN t (node + 1))) p = some q ∧ okL q = true ∧
      canO 9 (graL ((braL t (node + 1)).map fun x => x - t.getD (node + 1) 0) 0 q) = some r := by
  rw [turV] at h
  cases h1 : okL t with
  | false => rw [h1] at h; cases h
  | true =>
    cases h2 : Nat.blt (node + 1) t.length with
    | false => rw [h1, h2] at h; cases h
    | true =>
      cases h3 : allGe (t.getD (node + 1) 0) (braL t (node + 1)) with
      | false => rw [h1, h2, h3] at h; cases h
      | true =>
        rw [h1, h2, h3] at h
        cases h4 : parV t (t.getD (node + 1) 0) (node + 1) with
        | none => rw [h4] at h; cases h
        | some p =>
          rw [h4] at h
          simp only [Bool.and_self, cond_true] at h
          cases h5 : turV f (t.take (node + 1) ++ t.drop (endN t (node + 1))) p with
          | none => rw [h5] at h; cases h
          | some q =>
            rw [h5] at h
            simp only at h
            cases h6 : okL q with
            | false => rw [h6] at h; cases h
            | true => rw [h6] at h; exact ⟨rfl, (blt_iff _ _).1 h2, rfl, p, q, rfl, h5, h6, h⟩
end Go.Proofs.YtdjhfeaimmpmhaaGreat

set_option linter.unusedVariables false
set_option linter.unusedSimpArgs false
set_option maxRecDepth 100000
namespace Go.Proofs.YtdjhfeaimmpmhaaGreat

abbrev CT := List Nat × Nat
/-- the place of a tree in a sum -/
def putA (t : List Nat) : List CT → Nat
  | [] => 0
  | x :: xs => bif befN x.1 t then putA t xs + 1 else 0
/-- what the round at place i adds -/
def putS (at_ : Nat) (t : List Nat) (i : Nat) (x : CT) : List CT := (bif Nat.beq i at_ && !eqN x.1 t then [(t, 1)] else []) ++ [(x.1, bif eqN x.1 t then x.2 + 1 else x.2)]
def putF (at_ : Nat) (t : List Nat) : Nat → List CT → List CT
  | _, [] => []
  | i, x :: xs => putS at_ t i x ++ putF at_ t (i + 1) xs
def putL (xs : List CT) (t : List Nat) : List CT := putF (putA t xs) t 0 xs ++ (bif Nat.beq (putA t xs) xs.length then [(t, 1)] else [])
def okC : List CT → Bool
  | [] => true
  | x :: xs => okL x.1 && Nat.ble x.2 100 && okC xs
/-- the sum of the trees that a tree is rerooted to at the nodes before n -/
def rooV (t : List Nat) : Nat → Option (List CT)
  | 0 => some []
  | n + 1 => match rooV t n with
    | none => none
    | some xs => match turV 9 t n with
      | none => none
      | some q => bif okC xs && Nat.ble xs.length 100 && okL q then some (putL xs q) else none
/-- what is left when a tree is cut above a node -/
def trkL (t : List Nat) (node : Nat) : List Nat := t.take node ++ t.drop (endN t node)
def braM (t : List Nat) (node : Nat) : List Nat := (braL t node).map fun x => x - t.getD node 0
/-- is the edge above a node one between halves that are equal? -/
def dblA (t : List Nat) (node : Nat) : Option Bool := bif okL t && Nat.blt node t.length && allGe (t.getD node 0) (braL t node) then
    match canO 9 (trkL t node), canO 9 (braM t node), parV t (t.getD node 0) node with
    | some a, some b, some p => bif Nat.beq a.length b.length then
        match turV 9 (trkL t node) p with
        | some q => bif okL q && okL b then some (eqN q b) else none
        | none => none
      else some false
    | _, _, _ => none
  else none
/-- the answer from a node on, with so much fuel -/
def dblV (t : List Nat) : Nat → Nat → Option Bool
  | 0, _ => some false
  | f + 1, node => match dblA t node with
    | none => none
    | some true => some true
    | some false => dblV t f (node + 1)
def headC : Option (List CT) → Option (List Nat)
  | some ((t, _) :: _) => some t
  | _ => none
def eqB : Option Bool → Bool → Bool
  | some true, true => true
  | some false, false => true
  | _, _ => false
/-- the reference's sums and the program's agree at a tree -/
def okRo (t : List Nat) : Bool := eqO (headC (rooV t t.length)) (freeO t) && eqB (dblV t (t.length - 1) 1) (supB t)
theorem okRo_8 : (List.range 8).all (fun n => (treesN (n + 1)).all okRo) = true := by decide +kernel
theorem okRo_at {n : Nat} (h1 : 1 ≤ n) (h8 : n ≤ 8) {t : List Nat} (ht : t ∈ treesN n) : ∃ r k xs, rooV t t.length = some ((r, k) :: xs) ∧ freeO t = some r ∧ dblV t (t.length - 1) 1 = some (supB t) := by
  have h := okRo_8
  rw [List.all_eq_true] at h
  have h2 := h (n - 1) (List.mem_range.2 (by omega))
  rw [show n - 1 + 1 = n by omega, List.all_eq_true] at h2
  have h3 := h2 t ht
  rw [okRo, Bool.and_eq_true] at h3
  obtain ⟨h4, h5⟩ := h3
  have h6 : dblV t (t.length - 1) 1 = some (supB t) := by
    cases hd : dblV t (t.length - 1) 1 with
    | none => rw [hd] at h5; cases h5
    | some b =>
      rw [hd] at h5
      cases hs : supB t <;> rw [hs] at h5 <;> cases b <;> first | rfl | cases h5
  cases hr : rooV t t.length with
  | none => rw [hr] at h4; cases h4
  | some ys =>
    rw [hr] at h4
    cases ys with
    | nil => cases h4
    | cons y ys =>
      cases hf : freeO t with
      | none => rw [hf] at h4; cases h4
      | some q =>
        rw [hf] at h4
        have := eqN_iff.1 (show eqN y.1 q = true from h4)
        exact ⟨y.1, y.2, ys, rfl, by rw [this], h6⟩

theorem putF_snoc (at_ : Nat) (t : List Nat) : ∀ (xs : List CT) (x : CT) (i : Nat), putF at_ t i (xs ++ [x]) = putF at_ t i xs ++ putS at_ t (i + xs.length) x
  | [], x, i => by simp [putF]
  | y :: ys, x, i => by
    rw [List.cons_append, putF, putF, putF_snoc at_ t ys x (i + 1), List.append_assoc, List.length_cons, Nat.add_assoc i 1, Nat.add_comm 1]
theorem putA_le (t : List Nat) : ∀ xs : List CT, putA t xs ≤ xs.length
  | [] => Nat.le_refl _
  | x :: xs => by
    rw [putA]
    cases befN x.1 t with
    | true => simpa using putA_le t xs
    | false => simp
theorem putA_bef {t : List Nat} : ∀ {xs : List CT} {k : Nat} {x : CT}, k < putA t xs → xs[k]? = some x → befN x.1 t = true
  | [], k, x, h, hx => by simp at hx
  | y :: ys, 0, x, h, hx => by
    simp at hx; subst hx
    rw [putA] at h
    cases hb : befN y.1 t with
    | true => rfl
    | false => rw [hb] at h; simp at h
  | y :: ys, k + 1, x, h, hx => by
    rw [putA] at h
    cases hb : befN y.1 t with
    | true => rw [hb] at h; simp at h; exact putA_bef (by omega) (by simpa using hx)
    | false => rw [hb] at h; simp at h
theorem putA_at {t : List Nat} : ∀ {xs : List CT} {x : CT}, xs[putA t xs]? = some x → befN x.1 t = false
  | [], x, hx => by simp at hx
  | y :: ys, x, hx => by
    rw [putA] at hx
    cases hb : befN y.1 t with
    | true => rw [hb] at hx; exact putA_at (xs := ys) (by simpa using hx)
    | false => rw [hb] at hx; simp at hx; subst hx; exact hb
theorem putF_len (at_ : Nat) (t : List Nat) : ∀ (xs : List CT) (i : Nat), (putF at_ t i xs).length ≤ 2 * xs.length
  | [], i => by simp [putF]
  | x :: xs, i => by
    rw [putF, List.length_append, putS, List.length_append, List.length_cons]
    have := putF_len at_ t xs (i + 1)
    cases (Nat.beq i at_ && !eqN x.1 t) <;> simp <;> omega
theorem okC_of : ∀ {xs : List CT}, okC xs = true → ∀ x ∈ xs, (x.1.length ≤ 100 ∧ ∀ l ∈ x.1, l ≤ 1000) ∧ x.2 ≤ 100
  | [], _, x, hx => absurd hx (by simp)
  | y :: ys, h, x, hx => by
    rw [okC, Bool.and_eq_true, Bool.and_eq_true] at h
    rcases List.mem_cons.1 hx with rfl | hx
    · exact ⟨okL_of h.1.1, Nat.le_of_ble_eq_true h.1.2⟩
    · exact okC_of h.2 x hx
theorem rooV_succ {t : List Nat} {n : Nat} {ys : List CT} (h : rooV t (n + 1) = some ys) : ∃ xs q, rooV t n = some xs ∧ turV 9 t n = some q ∧ okC xs = true ∧ xs.length ≤ 100 ∧ okL q = true ∧ ys = putL xs q := by
  rw [rooV] at h
  cases h1 : rooV t n with
  | none => rw [h1] at h; cases h
  | some xs =>
    rw [h1] at h
    simp only at h
    cases h2 : turV 9 t n with
    | none => rw [h2] at h; cases h
    | some q =>
      rw [h2] at h
      simp only at h
      cases h3 : okC xs with
      | false => rw [h3] at h; cases h
      | true =>
        cases h4 : Nat.ble xs.length 100 with
        | false => rw [h3, h4] at h; cases h
        | true =>
          cases h5 : okL q with
          | false => rw [h3, h4, h5] at h; cases h
          | true =>
            rw [h3, h4, h5] at h
            injection h with h
            exact ⟨xs, q, rfl, rfl, h3, Nat.le_of_ble_eq_true h4, h5, h.symm⟩
theorem rooV_some {t : List Nat} : ∀ {m n : Nat} {ys : List CT}, rooV t (n + m) = some ys → ∃ xs, rooV t n = some xs
  | 0, n, ys, h => ⟨ys, h⟩
  | m + 1, n, ys, h => by
    obtain ⟨xs, q, h1, -⟩ := rooV_succ (n := n + m) h
    exact rooV_some h1
/-- what the answer of l04Double at a node rests on -/
theorem dblA_some {t : List Nat} {node : Nat} {b : Bool} (h : dblA t node = some b) : okL t = true ∧ node < t.length ∧ allGe (t.getD node 0) (braL t node) = true ∧
    ∃ u v p, canO 9 (trkL t node) = some u ∧ canO 9 (braM t node) = some v ∧ parV t (t.getD node 0) node = some p ∧
      ((u.length ≠ v.length ∧ b = false) ∨ (u.length = v.length ∧ ∃ q, turV 9 (trkL t node) p = some q ∧ okL q = true ∧ okL v = true ∧ b = eqN q v)) := by
  unfold dblA at h
  cases h1 : okL t with
  | false => rw [h1] at h; cases h
  | true =>
    cases h2 : Nat.blt node t.length with
    | false => rw [h1, h2] at h; cases h
    | true =>
      cases h3 : allGe (t.getD node 0) (braL t node) with
      | false => rw [h1, h2, h3] at h; cases h
      | true =>
        rw [h1, h2, h3] at h
        simp only [Bool.and_self, cond_true] at h
        refine ⟨rfl, (blt_iff _ _).1 h2, rfl, ?_⟩
        cases h4 : canO 9 (trkL t node) with
        | none => rw [h4] at h; cases h
        | some u =>
          rw [h4] at h
          cases h5 : canO 9 (braM t node) with
          | none => rw [h5] at h; cases h
          | some v =>
            rw [h5] at h
            cases h6 : parV t (t.getD node 0) node with
            | none => rw [h6] at h; cases h
            | some p =>
              rw [h6] at h
              simp only at h
              refine ⟨u, v, p, rfl, rfl, rfl, ?_⟩
              cases h7 : Nat.beq u.length v.length with
              | false =>
                rw [h7] at h
                injection h with h
                exact .inl ⟨Nat.ne_of_beq_eq_false h7, h.symm⟩
              | true =>
                rw [h7] at h
                simp only [cond_true] at h
                refine .inr ⟨Nat.eq_of_beq_eq_true h7, ?_⟩
                cases h8 : turV 9 (trkL t node) p with
                | none => rw [h8] at h; cases h
                | some q =>
                  rw [h8] at h
                  simp only at h
                  cases h9 : okL q with
                  | false => rw [h9] at h; cases h
                  | true =>
                    cases h10 : okL v with
                    | false => rw [h9, h10] at h; cases h
                    | true =>
                      rw [h9, h10] at h
                      injection h with h
                      exact ⟨q, rfl, h9, rfl, h.symm⟩
end Go.Proofs.YtdjhfeaimmpmhaaGreat

set_option maxRecDepth 100000
set_option linter.unusedVariables false
set_option linter.unusedSimpArgs false
namespace Go.Proofs.YtdjhfeaimmpmhaaGreat
open Go.RowKit

abbrev tC : TypeId := 110
theorem T_cnt : ElemK Tryz.prog 111 110 (.agg #[.slice none 0 0, .int .i64 0]) 2 32 := ⟨Tryz.underlying111, by kernel_rfl, rfl, by omega, by omega⟩

theorem keepCell {w w' : World} {ad : Addr} {v : Value} (hb : Below w.heap.size w w') (h : w.cell? ad = some v) : w'.cell? ad = some v := by rw [hb.cell (World.block_lt_of_cell? w _ h)]; exact h
/-- the cells of a sum: trees in blocks from B on, and counts -/
def CtE (w : World) (B : Nat) (css : List (List Value)) (xs : List CT) : Prop := css.length = xs.length ∧ ∀ (k : Nat) (c : List Value) (x : CT), css[k]? = some c → xs[k]? = some x → ∃ u, c = [u, .int .i64 (x.2 : Nat)] ∧ OwnInts w B tI u (up x.1)
section
variable {w w' : World} {B : Nat} {css : List (List Value)} {xs : List CT}
theorem CtE.nil (w : World) (B : Nat) : CtE w B [] [] := ⟨rfl, fun k c x h => by simp at h⟩
theorem CtE.below (h : CtE w B css xs) (hb : Below w.heap.size w w') : CtE w' B css xs := ⟨h.1, fun k c x hc hx => by obtain ⟨u, e, ho⟩ := h.2 k c x hc hx; exact ⟨u, e, ho.below hb⟩⟩
theorem CtE.mono {B' : Nat} (h : CtE w B css xs) (hB : B' ≤ B) : CtE w B' css xs := ⟨h.1, fun k c x hc hx => by obtain ⟨u, e, ho⟩ := h.2 k c x hc hx; exact ⟨u, e, ho.mono hB⟩⟩
theorem CtE.kept {v : Value} {e : TypeId} (h : CtE w B css xs) (hg : w.grownBy w' v.ownBlock) (hb : BT w e v) (hne : tI ≠ e) : CtE w' B css xs := ⟨h.1, fun k c x hc hx => by obtain ⟨u, e, ho⟩ := h.2 k c x hc hx; exact ⟨u, e, ho.kept hg (ho.1.bt.ne hb hne)⟩⟩
theorem CtE.snoc {u : Value} {t : List Nat} {n : Nat} (h : CtE w B css xs) (hu : OwnInts w B tI u (up t)) : CtE w B (css ++ [[u, .int .i64 (n : Nat)]]) (xs ++ [(t, n)]) := by
  refine ⟨by simp [h.1], fun k c x hk hx => ?_⟩
  by_cases hlt : k < css.length
  · rw [List.getElem?_append_left hlt] at hk
    rw [List.getElem?_append_left (by rw [← h.1]; exact hlt)] at hx
    exact h.2 k c x hk hx
  · have hkl := (List.getElem?_eq_some_iff.1 hk).1
    simp at hkl
    have : k = css.length := by omega
    subst this
    rw [List.getElem?_append_right (Nat.le_refl _)] at hk
    rw [List.getElem?_append_right (by rw [h.1]; exact Nat.le_refl _), h.1] at hx
    simp at hk hx
    subst hk; subst hx
    exact ⟨u, rfl, hu⟩
end
def CtR (w : World) (B : Nat) (v : Value) (xs : List CT) : Prop := ∃ css, OwnK w B tC 2 v css ∧ CtE w B css xs
section
variable {w w' : World} {B : Nat} {v : Value} {xs : List CT}
theorem CtR.below (h : CtR w B v xs) (hb : Below w.heap.size w w') : CtR w' B v xs := by obtain ⟨css, h1, h2⟩ := h; exact ⟨css, h1.below hb, h2.below hb⟩
theorem CtR.mono {B' : Nat} (h : CtR w B v xs) (hB : B' ≤ B) : CtR w B' v xs := by obtain ⟨css, h1, h2⟩ := h; exact ⟨css, h1.mono hB, h2.mono hB⟩
theorem CtR.open_ (h : CtR w B v xs) : ∃ A c, v = .slice A xs.length c ∧ xs.length ≤ c ∧ c ≤ 9223372036854775807 := by
  obtain ⟨css, h1, h2⟩ := h
  have := h1.open_
  rwa [h2.1] at this
/-- the element at a place -/
theorem CtR.at_ {k : Nat} {t : List Nat} {n : Nat} (h : CtR w B v xs) (hx : xs[k]? = some (t, n)) : ∃ g cap A c, v = .slice (some ⟨g, 0, none⟩) xs.length cap ∧ w.cell? ⟨g, k * 2, none⟩ = some (.slice A t.length c) ∧ w.cell? ⟨g, k * 2 + 1, none⟩ = some (.int .i64 (n : Nat)) ∧ OwnInts w B tI (.slice A t.length c) (up t) := by
  obtain ⟨css, h1, h2⟩ := h
  have hk : k < css.length := by rw [h2.1]; exact (List.getElem?_eq_some_iff.1 hx).1
  have hc : css[k]? = some (css[k]'hk) := List.getElem?_eq_getElem _
  obtain ⟨u, e, ho⟩ := h2.2 k _ _ hc hx
  rw [e] at hc
  obtain ⟨g, cap, hv, hc0⟩ := h1.cell (j := 0) hc rfl
  obtain ⟨A, c, hu, -, -, -⟩ := ho.ints.open_
  rw [up_len] at hu
  subst hv
  have hc1 := h1.cellAt (j := 1) hc rfl
  subst hu
  exact ⟨g, cap, A, c, by rw [h2.1], hc0, hc1, ho⟩
/-- one element more -/
theorem CtR.snoc {css : List (List Value)} {u v' : Value} {t : List Nat} {n : Nat} (h1 : OwnK w B tC 2 v css) (h2 : CtE w B css xs) (hu : OwnInts w B tI u (up t)) (ho : OwnK w' B tC 2 v' (css ++ [[u, .int .i64 (n : Nat)]])) (hg : Grow w w' v v') : CtR w' B v' (xs ++ [(t, n)]) :=
  ⟨_, ho, (h2.snoc hu).kept hg.1 h1.bt (by decide)⟩
end
end Go.Proofs.YtdjhfeaimmpmhaaGreat

set_option maxRecDepth 100000
set_option linter.unusedVariables false
set_option linter.unusedSimpArgs false
namespace Go.Proofs.YtdjhfeaimmpmhaaGreat
open Go.RowKit

/-- the pieces and the skeleton of a mask -/
def prtN (t : List Nat) (m : Nat) : PK := (srtB ((mapO (fun i => canO 9 (pieN t m i)) (0 :: cutsN m (t.length - 1) 1)).getD []), (canO 9 (sklN t m)).getD [])
end Go.Proofs.YtdjhfeaimmpmhaaGreat

set_option maxRecDepth 100000
set_option linter.unusedVariables false
set_option linter.unusedSimpArgs false
namespace Go.Proofs.YtdjhfeaimmpmhaaGreat
open Go.RowKit

/-! ### partitions by places -/
/-! ### what the kernel finds of the partitions of the trees of maps -/
def okPl (x : List Nat) : Bool := Nat.beq (fndN T6n x) (idxN T6n x) && Nat.ble (idxN T6n x) 37 && Nat.ble 1 (idxN T6n x) && Nat.ble x.length 6
end Go.Proofs.YtdjhfeaimmpmhaaGreat

set_option maxRecDepth 100000
set_option linter.unusedVariables false
set_option linter.unusedSimpArgs false
namespace Go.Proofs.YtdjhfeaimmpmhaaGreat
open Go.RowKit

def gz (a : List Int) (k : Nat) : Int := a.getD k 0
/-- the program's lists of cuts -/
def FrC (w : World) (B : Nat) (v : Value) : Prop := ∃ us, Own w B tMl v us ∧ Mls w B us (T6n.map (cutsI T6n))
theorem FrC.below {w w' : World} {B : Nat} {v : Value} (h : FrC w B v) (hb : Below w.heap.size w w') : FrC w' B v := by
  obtain ⟨us, h1, h2⟩ := h
  exact ⟨us, h1.below hb, h2.below hb⟩
theorem FrC.at_ {w : World} {B : Nat} {v : Value} (h : FrC w B v) : ∃ A c, v = .slice A 37 c ∧ ∀ i, i < 37 → ∃ ad css A2 c2, A = some ad ∧ OwnK w B tMc 3 (.slice A2 css.length c2) css ∧ Mcs w B css (CTab.getD i []) ∧ w.cell? (ad.add i) = some (.slice A2 css.length c2) := by
  obtain ⟨us, h1, h2⟩ := h
  have hl := h2.1
  rw [List.length_map, T6n_len] at hl
  obtain ⟨A, c, rfl, -, -⟩ := h1.cells.open_
  rw [hl]
  refine ⟨A, c, rfl, fun i hi => ?_⟩
  obtain ⟨u, hu⟩ : ∃ u, us[i]? = some u := ⟨_, List.getElem?_eq_getElem (by rw [hl]; exact hi)⟩
  obtain ⟨l, -, hci, -, -⟩ := cut_at hi
  have hci : cutsI T6n (tr i) = CTab.getD i [] := hci
  obtain ⟨css, h3, h4⟩ := h2.2 i u (CTab.getD i []) hu (by rw [List.getElem?_map, tr_get hi, ← hci]; rfl)
  obtain ⟨A2, c2, rfl, -, -⟩ := h3.open_
  obtain ⟨ad, n', c', he, hc⟩ := h1.cells.at_ hu
  simp only [Value.slice.injEq] at he
  exact ⟨ad, css, A2, c2, he.1, h3, h4, hc⟩
end Go.Proofs.YtdjhfeaimmpmhaaGreat

set_option maxRecDepth 100000
set_option linter.unusedVariables false
set_option linter.unusedSimpArgs false
namespace Go.Proofs.YtdjhfeaimmpmhaaGreat
open Go.RowKit

/-! ### what the kernel finds of the places in cuts -/
/-! ### the program's inverse -/
/-! ### the reference's inverse -/
/-! ### scaled maps -/
def scZ (a : List Int) (k : Int) : List Int := (List.range 38).map fun j => a.getD j 0 * pw k (szN j) % 10007
theorem scZ_len (a : List Int) (k : Int) : (scZ a k).length = 38 := by simp [scZ]
theorem scZ_nums (a : List Int) (k : Int) : Nums (scZ a k) := by
  intro z hz
  obtain ⟨j, -, rfl⟩ := List.mem_map.1 hz
  omega
theorem scZ_get (a : List Int) (k : Int) {i : Nat} (h : i < 38) : (scZ a k)[i]? = some (a.getD i 0 * pw k (szN i) % 10007) := by
  unfold scZ
  simp [h]
end Go.Proofs.YtdjhfeaimmpmhaaGreat

