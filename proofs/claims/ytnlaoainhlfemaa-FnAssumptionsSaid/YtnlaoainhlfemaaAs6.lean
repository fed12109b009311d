/- Plain: what holds of the program's state while it cuts a tree up. | A region that draws its order and stores at its end what it has loaded: those loads may be taken first. No program in sight. | Steps in a region that draws: append of one element, of a list, make. No program in sight. | Walks: l03Before, l03Sort, l16Skeleton of the reference. | Walk: l03Sort of the reference. | Plain: all trees with n nodes, from a canonical list to the next smaller one. | Walks: l03Grow, l03Trees of the reference. | Walks: l04End, l04Graft of the reference. | Walk: l04Graft of the reference. | Walk: gathered of the program. | Plain: the cuts of a tree as the program splits it, with every premise of the walk. | Walks of the library's Grow, Concat at lists of lists of numbers. | Walk: splitTree of the program. | Walk: cutsOf of the program. | Walk: place of the program's forms. | Walks: slices.IndexFunc, slices.DeleteFunc at lists of trees of one's own, with a predicate that may make memory. | Walk: treesOf of the program. | Walks: freeTreesOf, freeConditions, FreeConditions of the program. -/
import Derived.Test.YtnlaoainhlfemaaAs5
import Derived.OrdersHeld
import Derived.RegionTactic
import Derived.Deep.RegionHeld
import Derived.Test.YtnlaoainhlfemaaAs4
import Derived.Deep.QuietTactic
import Derived.BigQuiet
import Derived.Deep.RegionLaw
import Derived.Deep.CutRange
import Derived.Deep.CutBlock
import Derived.Deep.DeepCutAuto
import Derived.WalkLawsBesides
import Derived.Lib.AppendZeros
import Derived.Lib.SliceRun
import Derived.Laws.IdiomCopy
set_option linter.unusedVariables false
set_option linter.unusedSimpArgs false
namespace Go.Proofs.Ytnlaoainhlfemaa

structure CI (n j : Nat) (s : CutS) : Prop where
  near : NB s.near (2 * j) n
  top : s.top.length = n ∧ ∀ x ∈ s.top, x ≤ s.tops.length
  tops : s.tops.length ≤ j ∧ ∀ x ∈ s.tops, x < n
  bet : s.bet.length ≤ j ∧ ∀ p ∈ s.bet, p.1 < s.tops.length ∧ p.2 < s.tops.length
theorem CI.topLe {n j : Nat} {s : CutS} (h : CI n j s) (k : Nat) : s.top.getD k 0 ≤ s.tops.length := by
  cases hx : s.top[k]? with
  | none => simp [List.getD, hx]
  | some x => have := h.top.2 x (List.mem_of_getElem? hx); simpa [List.getD, hx] using this
theorem CI.step {n j P mask : Nat} {s : CutS} (h : CI n j s) (hj : j < n) (hP : P ≤ j) : CI n (j + 1) (cutStep mask s j P) := by
  have hnew : ∀ x ∈ s.top.set j s.tops.length, x ≤ (s.tops ++ [j]).length := by
    intro x hx
    rcases List.mem_or_eq_of_mem_set hx with hx | hx
    · have := h.top.2 x hx; simp; omega
    · simp [hx]
  have htops : (s.tops ++ [j]).length ≤ j + 1 ∧ ∀ x ∈ s.tops ++ [j], x < n := by
    refine ⟨by have := h.tops.1; simp; omega, fun x hx => ?_⟩
    rcases List.mem_append.1 hx with hx | hx
    · exact h.tops.2 x hx
    · simp at hx; omega
  cases P with
  | zero =>
    exact ⟨h.near.mono (by omega), ⟨by simp [cutStep, h.top.1], hnew⟩, htops, ⟨by have := h.bet.1; show s.bet.length ≤ _; omega, fun p hp => by have := h.bet.2 p hp; simp [cutStep]; omega⟩⟩
  | succ k =>
    rw [cutStep]
    cases mask.testBit j with
    | true =>
      refine ⟨h.near.mono (by omega), ⟨by simp [h.top.1], hnew⟩, htops, ⟨by have := h.bet.1; simp; omega, fun p hp => ?_⟩⟩
      simp only [cond_true, List.length_append, List.length_singleton] at hp ⊢
      rcases List.mem_append.1 hp with hp | hp
      · have := h.bet.2 p hp; omega
      · simp at hp
        have := h.topLe k
        subst hp
        simp only [List.getD_eq_getElem?_getD] at this
        exact ⟨by simpa using Nat.lt_succ_of_le this, by simp⟩
    | false =>
      refine ⟨((h.near.add (x := k) (i := j) (by omega)).add (x := j) (i := k) hj).mono (by omega), ⟨by simp [h.top.1], fun x hx => ?_⟩, ⟨by have := h.tops.1; simp; omega, h.tops.2⟩, ⟨by have := h.bet.1; simp; omega, h.bet.2⟩⟩
      rcases List.mem_or_eq_of_mem_set hx with hx | hx
      · exact h.top.2 x hx
      · rw [hx]; exact h.topLe k
end Go.Proofs.Ytnlaoainhlfemaa

set_option linter.unusedVariables false
set_option linter.unusedSimpArgs false
namespace Go.Proofs.Ytnlaoainhlfemaa
open Go

section
variable {P : Program} {ops : Array Oper} {Q : Exit → Act → World → Prop} {md : Region.Mode} {S : Bool → World → Prop} {k : Nat}

/-- whatever order comes: 'S false' holds of the worlds ahead of operation k, 'S true' of those behind it -/
def AnyT (P : Program) (md : Region.Mode) (ops : Array Oper) (Q : Exit → Act → World → Prop) (S : Bool → World → Prop) (k : Nat) : Nat → Array Bool → Act → World → Prop
  | 0, L, a, w => Region.ready md ops L = [] ∧ Q .normal a w
  | f + 1, L, a, w => (Region.ready md ops L = [] → Q .normal a w) ∧
      ∀ i ∈ Region.ready md ops L, wpOp P ops Q i (fun a' w' => S ((L.setIfInBounds i true).getD k true) w' ∧ AnyT P md ops Q S k f (L.setIfInBounds i true) a' w') a w

theorem AnyT.any : ∀ (f : Nat) (L : Array Bool) (a : Act) (w : World), AnyT P md ops Q S k f L a w → wpAny P md ops Q f L a w
  | 0, _, _, _, h => h
  | f + 1, _, _, _, h => ⟨h.1, fun i hi => wpOp_mono (fun a' w' h' => AnyT.any f _ a' w' h'.2) (h.2 i hi)⟩

theorem AnyT.first {i : Nat} {oi : Oper} {v : Value} {U : World → Prop} {G : Array Bool → Prop} (hi : ops[i]? = some oi)
    (hsel : ∀ (j : Nat) (o : Oper) cs b, ops[j]? = some o → o.op ≠ .select cs b)
    (hQ : ∀ c a w, Q (.panic c) (a.put oi.dst v) w → Q (.panic c) a w) (hik : i ≠ k)
    (hG : ∀ (L : Array Bool) (j : Nat), G L → i ∈ Region.ready md ops L → j ∈ Region.ready md ops L → j ≠ i → G (L.setIfInBounds j true))
    (hU : ∀ (L : Array Bool) (w : World), G L → S (L.getD k true) w → U w) :
    ∀ (f : Nat) (L : Array Bool) (a : Act) (w : World),
      (∀ j oj, ops[j]? = some oj → j ≠ i → L.getD j true = false → (∀ e ∈ oj.after, Region.binds md e = true → e.on ≠ i) → oi.apart ops oj = true) →
      i ∈ Region.ready md ops L → G L → YieldsIf P ops U oi v a → S (L.getD k true) w →
      AnyT P md ops Q S k f (L.setIfInBounds i true) (a.put oi.dst v) w → AnyT P md ops Q S k (f + 1) L a w := by
  have hkeep : ∀ (L : Array Bool), (L.setIfInBounds i true).getD k true = L.getD k true := fun L => getD_set_ne true hik
  intro f
  induction f with
  | zero =>
    intro L a w _ hr g hy hS H
    refine ⟨fun h => (by rw [h] at hr; cases hr), fun j hj => ?_⟩
    by_cases hji : j = i
    · subst hji
      exact hy.wpOp hi (hU L w g hS) ⟨by rw [hkeep]; exact hS, H⟩
    · have h1 := ready_mono hj hji
      rw [H.1] at h1
      cases h1
  | succ f ih =>
    intro L a w hfree hr g hy hS H
    refine ⟨fun h => (by rw [h] at hr; cases hr), fun j hj => ?_⟩
    by_cases hji : j = i
    · subst hji
      exact hy.wpOp hi (hU L w g hS) ⟨by rw [hkeep]; exact hS, H⟩
    · obtain ⟨hjun, oj, hoj, hall⟩ := mem_ready.1 hj
      have hiun := (mem_ready.1 hr).1
      have hnot : ∀ e ∈ oj.after, Region.binds md e = true → e.on ≠ i := fun e he hb heq => by
        have h1 := hall e he hb
        rw [heq] at h1
        rcases Nat.lt_or_ge i L.size with h' | h'
        · simp [h'] at hiun h1; rw [hiun] at h1; cases h1
        · simp [Array.getElem?_eq_none h'] at h1
      have h2 := wpOp_putIf hoj (hfree j oj hoj hji hjun hnot) (fun cs b => hsel i oi cs b hi) (fun cs b => hsel j oj cs b hoj) hQ hy (H.2 j (ready_mono hj hji))
      refine wpOp_mono (fun a' w' h3 => ?_) h2
      have e : (L.setIfInBounds i true).setIfInBounds j true = (L.setIfInBounds j true).setIfInBounds i true := Array.setIfInBounds_comm _ _ (Ne.symm hji)
      obtain ⟨hy', hS', H'⟩ := h3
      rw [e] at H'
      rw [e, hkeep] at hS'
      refine ⟨hS', ih (L.setIfInBounds j true) a' w' (fun m om hm hmi hun hno => hfree m om hm hmi ?_ hno) (ready_mono hr (Ne.symm hji)) (hG L j g hr hj hji) hy' hS' H'⟩
      by_cases hjm : j = m
      · subst hjm; exact hjun
      · rw [getD_set_ne true hjm] at hun; exact hun

/-- each of the operations rs comes next -/
def AllT (P : Program) (md : Region.Mode) (ops : Array Oper) (Q : Exit → Act → World → Prop) (S : Bool → World → Prop) (k : Nat) (f : Nat) (L : Array Bool) (a : Act) (w : World) (rs : List Nat) : Prop :=
  ∀ i ∈ rs, wpOp P ops Q i (fun a' w' => S ((L.setIfInBounds i true).getD k true) w' ∧ AnyT P md ops Q S k f (L.setIfInBounds i true) a' w') a w
theorem AllT.nil {f : Nat} {L : Array Bool} {a : Act} {w : World} : AllT P md ops Q S k f L a w [] := fun _ h => by cases h
theorem AllT.cons {f : Nat} {L : Array Bool} {a : Act} {w : World} {i : Nat} {o : Oper} {rs : List Nat} (ho : ops[i]? = some o)
    (h : ∀ K' : Act → World → Prop, Shut (∀ a w, S ((L.setIfInBounds i true).getD k true) w → (S ((L.setIfInBounds i true).getD k true) w → AnyT P md ops Q S k f (L.setIfInBounds i true) a w) → K' a w) →
      if Region.wanted o (yielded ops a.tmps) = true then Oper.wp P o a w K' Q else K' (a.put o.dst undef) w)
    (hs : AllT P md ops Q S k f L a w rs) : AllT P md ops Q S k f L a w (i :: rs) := fun j hj => by
  rcases List.mem_cons.1 hj with rfl | hj
  · exact wpOp_step ho (fun K' hK => h K' (fun a w hS hW => hK a w ⟨hS, hW hS⟩))
  · exact hs j hj
theorem AnyT.done {L : Array Bool} {a : Act} {w : World} (hr : Region.ready md ops L = []) (h : Q .normal a w) : ∀ f, AnyT P md ops Q S k f L a w
  | 0 => ⟨hr, h⟩
  | _ + 1 => ⟨fun _ => h, by rw [hr]; simp⟩
end
end Go.Proofs.Ytnlaoainhlfemaa

set_option maxRecDepth 100000
set_option linter.unusedVariables false
set_option linter.unusedSimpArgs false
namespace Go.Proofs.Ytnlaoainhlfemaa
open Go.RowKit

end Go.Proofs.Ytnlaoainhlfemaa

set_option maxRecDepth 100000
set_option linter.unusedVariables false
set_option linter.unusedSimpArgs false
namespace Go.Proofs.Ytnlaoainhlfemaa
open Go.RowKit

end Go.Proofs.Ytnlaoainhlfemaa

set_option maxRecDepth 100000
set_option linter.unusedVariables false
set_option linter.unusedSimpArgs false
namespace Go.Proofs.Ytnlaoainhlfemaa
open Go.RowKit

end Go.Proofs.Ytnlaoainhlfemaa

set_option linter.unusedVariables false
set_option linter.unusedSimpArgs false
set_option maxRecDepth 100000
namespace Go.Proofs.Ytnlaoainhlfemaa

/-- one more than the last place below k with a level of more than 1; 0 if there is none -/
def pN (t : List Nat) : Nat → Nat
  | 0 => 0
  | k + 1 => bif Nat.ble (t.getD k 0) 1 then pN t k else k + 1
def fillF (t : List Nat) (d : Nat) : Nat → Nat → List Nat
  | 0, _ => t
  | m + 1, i => fillF (t.set i (t.getD (i - d) 0)) d m (i + 1)
/-- the next smaller list -/
def succT (t : List Nat) : Option (List Nat) := match pN t t.length with
  | 0 => none
  | p + 1 => some (fillF t (p - (parN t (t.getD p 0) p - 1)) (t.length - p) p)
def treesF : Nat → List Nat → List (List Nat)
  | 0, _ => []
  | f + 1, t => t :: match succT t with
    | none => []
    | some t' => treesF f t'
/-- all trees with n nodes, in order -/
def treesN (n : Nat) : List (List Nat) := treesF 200 (List.range n)

def okT (n : Nat) : Bool := Nat.ble (treesN n).length 115 && (treesN n).all fun t => Nat.beq t.length n && (lvl t && (match canO 9 t with | none => false | some r => eqN r t) &&
  match pN t t.length with
    | 0 => true
    | p + 1 => Nat.blt 0 (parN t (t.getD p 0) p))
theorem okT_8 : (List.range 8).all (fun n => okT (n + 1)) = true := by decide +kernel
theorem treesN_at {n : Nat} (h1 : 1 ≤ n) (h8 : n ≤ 8) : (treesN n).length ≤ 115 ∧ ∀ t ∈ treesN n, t.length = n ∧ lvl t = true ∧ canO 9 t = some t ∧ ∀ p, pN t t.length = p + 1 → 0 < parN t (t.getD p 0) p := by
  have h := okT_8
  rw [List.all_eq_true] at h
  have h2 := h (n - 1) (List.mem_range.2 (by omega))
  rw [show n - 1 + 1 = n by omega, okT] at h2
  simp only [Bool.and_eq_true, List.all_eq_true] at h2
  refine ⟨Nat.le_of_ble_eq_true h2.1, fun t ht => ?_⟩
  obtain ⟨a, ⟨b, c⟩, d⟩ := h2.2 t ht
  refine ⟨Nat.eq_of_beq_eq_true a, b, ?_, fun p hp => ?_⟩
  · cases hc : canO 9 t with
    | none => rw [hc] at c; cases c
    | some r => rw [hc] at c; rw [eqN_iff.1 c]
  · rw [hp] at d
    simpa using d
end Go.Proofs.Ytnlaoainhlfemaa

set_option maxRecDepth 100000
set_option linter.unusedVariables false
set_option linter.unusedSimpArgs false
namespace Go.Proofs.Ytnlaoainhlfemaa
open Go.RowKit

theorem Grow.refl (w : World) (v : Value) : Grow w w v v := ⟨World.grownBy.refl _ _, .inl rfl⟩
theorem Grow.of_below {w w' : World} {v : Value} (h : Below w.heap.size w w') : w.grownBy w' v.ownBlock := ⟨h.os, h.tape, h.output, h.size, fun k hk _ => h.block k hk⟩
theorem Grow.trans {w w1 w2 : World} {v v1 v2 : Value} (h : Grow w w1 v v1) (h' : Grow w1 w2 v1 v2) : Grow w w2 v v2 := by
  refine ⟨⟨h'.1.os.trans h.1.os, h'.1.tape.trans h.1.tape, h'.1.output.trans h.1.output, Nat.le_trans h.1.size h'.1.size, fun k hk hne => ?_⟩, ?_⟩
  · refine (h'.1.block k (Nat.lt_of_lt_of_le hk h.1.size) ?_).trans (h.1.block k hk hne)
    rcases h.2 with h2 | ⟨g, h2, h3⟩
    · rw [h2]; exact hne
    · rw [h2]; intro e; injection e with e; omega
  · rcases h'.2 with h3 | ⟨g, h3, h4⟩
    · rw [h3]; exact h.2
    · exact .inr ⟨g, h3, Nat.le_trans h.1.size h4⟩
theorem Grow.pre {w w1 w2 : World} {v v2 : Value} (hb : Below w.heap.size w w1) (h : Grow w1 w2 v v2) : Grow w w2 v v2 := Grow.trans ⟨Grow.of_below hb, .inl rfl⟩ h

end Go.Proofs.Ytnlaoainhlfemaa

set_option maxRecDepth 100000
set_option linter.unusedVariables false
set_option linter.unusedSimpArgs false
namespace Go.Proofs.Ytnlaoainhlfemaa
open Go.RowKit

end Go.Proofs.Ytnlaoainhlfemaa

set_option maxRecDepth 100000
set_option linter.unusedVariables false
set_option linter.unusedSimpArgs false
namespace Go.Proofs.Ytnlaoainhlfemaa
open Go.RowKit

/-- the list that is grafted -/
def graL (u : List Nat) (node : Nat) (v : List Nat) : List Nat := u.take (endN u node) ++ (v.map fun x => u.getD node 0 + 1 + x) ++ u.drop (endN u node)
theorem w64_in' (n : Int) (h : -9223372036854775808 ≤ n ∧ n ≤ 9223372036854775807) : wrap64 n = n := by unfold wrap64; omega

end Go.Proofs.Ytnlaoainhlfemaa

set_option maxRecDepth 100000
set_option linter.unusedVariables false
set_option linter.unusedSimpArgs false
namespace Go.Proofs.Ytnlaoainhlfemaa
open Go.RowKit

def SmallF (f : List (List Nat)) : Prop := f.length ≤ 19 ∧ ∀ b ∈ f, b.length ≤ 1000
theorem ndN_le {f : List (List Nat)} (h : ∀ b ∈ f, b.length ≤ 1000) : ndN f ≤ f.length * 1000 := by
  induction f with
  | nil => simp [ndN]
  | cons x xs ih =>
    have := ih fun b hb => h b (by simp [hb])
    have := h x (by simp)
    simp [ndN, Nat.add_mul]; omega
theorem SmallF.nd {f : List (List Nat)} (h : SmallF f) : f.length ≤ 1000000 ∧ ndN f ≤ 1000000 := by
  have := ndN_le h.2
  have := h.1
  omega
end Go.Proofs.Ytnlaoainhlfemaa

set_option linter.unusedVariables false
set_option linter.unusedSimpArgs false
set_option maxRecDepth 100000
namespace Go.Proofs.Ytnlaoainhlfemaa

end Go.Proofs.Ytnlaoainhlfemaa

set_option maxRecDepth 100000
set_option linter.unusedVariables false
set_option linter.unusedSimpArgs false
namespace Go.Proofs.Ytnlaoainhlfemaa
open Go.RowKit

end Go.Proofs.Ytnlaoainhlfemaa

set_option maxRecDepth 100000
set_option linter.unusedVariables false
set_option linter.unusedSimpArgs false
namespace Go.Proofs.Ytnlaoainhlfemaa
open Go.RowKit

def cz (s : SP) : SP × Nat := (s, 0)
theorem LL.app {w w' : World} {B : Nat} {vs1 vs2 : List Value} {xs ys : List (List Int)} {r : Value} {B' : Nat} (h1 : RR w B vs1 xs) (h2 : RR w B vs2 ys) (hb : Below w.heap.size w w') (ho : Own w' B' tL r (vs1 ++ vs2)) (hB : B ≤ B') : LL w' B r (xs ++ ys) := ⟨_, ho.mono hB, (h1.append h2).below hb⟩

theorem LL.one {W : World} {B : Nat} {u : Value} {zs : List Int} (h : OwnInts W B tI u zs) (hB : B ≤ W.heap.size) : LL (W.alloc (.cells #[u] tL)) B (.slice (some ⟨W.heap.size, 0, none⟩) 1 1) [zs] :=
  ⟨[u], (own_lit W tL [u] (by simp [maxLen])).mono hB, by have := (RR.nil (W.alloc (.cells #[u] tL)) B).snoc (h.below (below1 W (.cells #[u] tL))); simpa using this⟩
end Go.Proofs.Ytnlaoainhlfemaa

set_option maxRecDepth 100000
set_option linter.unusedVariables false
set_option linter.unusedSimpArgs false
namespace Go.Proofs.Ytnlaoainhlfemaa
open Go.RowKit

end Go.Proofs.Ytnlaoainhlfemaa

set_option maxRecDepth 100000
set_option linter.unusedVariables false
set_option linter.unusedSimpArgs false
namespace Go.Proofs.Ytnlaoainhlfemaa
open Go.RowKit

end Go.Proofs.Ytnlaoainhlfemaa

set_option maxRecDepth 100000
set_option linter.unusedVariables false
set_option linter.unusedSimpArgs false
namespace Go.Proofs.Ytnlaoainhlfemaa
open Go.RowKit

/- PLAIN -/
/-- what DeleteFunc has done: the first k are those that stay of the first j; from j on nothing has turned -/
structure DelS (q : List Nat → Bool) (bs xs : List (List Nat)) (vs us : List Value) (k j : Nat) : Prop where
  lenx : xs.length = bs.length
  lenu : us.length = bs.length
  kj : k < j
  jn : j ≤ bs.length
  pre : xs.take k = (bs.take j).filter q
  suf : xs.drop j = bs.drop j
  sub : (us.take k ++ us.drop j).Sublist vs
theorem DelS.at_ {q : List Nat → Bool} {bs xs : List (List Nat)} {vs us : List Value} {k j : Nat} (h : DelS q bs xs vs us k j) (hj : j < bs.length) : xs[j]? = bs[j]? := by
  have := congrArg (fun l => l[0]?) h.suf
  simpa [List.getElem?_drop] using this
theorem DelS.take {q : List Nat → Bool} {bs xs : List (List Nat)} {vs us : List Value} {k j : Nat} {b : List Nat} {u : Value} (h : DelS q bs xs vs us k j) (hb : bs[j]? = some b) (hu : us[j]? = some u) (hq : q b = true) : DelS q bs (xs.set k b) vs (us.set k u) (k + 1) (j + 1) := by
  have hj := (List.getElem?_eq_some_iff.1 hb).1
  have hkj := h.kj
  have hk : k < bs.length := by omega
  refine ⟨by rw [List.length_set]; exact h.lenx, by rw [List.length_set]; exact h.lenu, by omega, hj, ?_, ?_, ?_⟩
  · rw [List.take_add_one, List.getElem?_set_self (by rw [h.lenx]; exact hk), List.take_set_of_le (Nat.le_refl _), h.pre, List.take_add_one, hb, List.filter_append]
    simp [hq]
  · rw [List.drop_set_of_lt (by omega), ← List.drop_drop, h.suf, List.drop_drop]
  · rw [List.take_add_one, List.getElem?_set_self (by rw [h.lenu]; exact hk), List.take_set_of_le (Nat.le_refl _), List.drop_set_of_lt (by omega)]
    have : us.drop j = u :: us.drop (j + 1) := by
      rw [List.drop_eq_getElem_cons (by rw [h.lenu]; exact hj)]
      rw [(List.getElem?_eq_some_iff.1 hu).2]
    have hs := h.sub
    rw [this] at hs
    simpa using hs

end Go.Proofs.Ytnlaoainhlfemaa

set_option maxRecDepth 100000
set_option linter.unusedVariables false
set_option linter.unusedSimpArgs false
namespace Go.Proofs.Ytnlaoainhlfemaa
open Go.RowKit

def lenV (v : Value) : Nat := match v with
  | .slice _ n _ => n
  | _ => 0

theorem RR.keptAp {w w' : World} {B : Nat} {vs : List Value} {xss : List (List Int)} {v : Value} (h : RR w B vs xss) (hg : w.grownBy w' v.ownBlock) (ha : ∀ u ∈ vs, Apart u v) : RR w' B vs xss :=
  ⟨h.1, fun k u zs hu hz => (h.2 k u zs hu hz).kept hg (ha u (List.mem_of_getElem? hu))⟩

set_option maxHeartbeats 8000000 in
theorem i_treesOf (w : World) (n : Nat) (h1 : 1 ≤ n) (h8 : n ≤ 8) :
    Calls Try.prog 149 #[.int .i64 n] w fun e w' => ∃ x, e = .returned x ∧ LA w' w.heap.size x ((treesN n).map up) ∧ Below w.heap.size w w' := by
  obtain ⟨hlen, hall⟩ := treesN_at h1 h8
  have HLEN := Lib.hid hlen
  have HALL := Lib.hid hall
  clear hlen hall
  have OT := Lib.hid (show OwnInts ((w.alloc (.cells #[] tI)).alloc (.cells #[] tL)) w.heap.size tI (.slice (some ⟨w.heap.size, 0, none⟩) 0 0) [] from ⟨(own_lit w tI [] (by simp [maxLen])).alloc _, fun z hz => by simp at hz⟩)
  have OO := Lib.hid (show Own ((w.alloc (.cells #[] tI)).alloc (.cells #[] tL)) w.heap.size tL (.slice (some ⟨w.heap.size + 1, 0, none⟩) 0 0) [] from by
    have h := own_lit (w.alloc (.cells #[] tI)) tL [] (by simp [maxLen])
    rw [size_alloc'] at h
    exact h.mono (Nat.le_succ _))
  have BB := Lib.hid ((below1 w (.cells #[] tI)).trans ((below1 (w.alloc (.cells #[] tI)) (.cells #[] tL)).mono (by simp)))
  go_enter Try.func149, Try.ntmps149
  go_wp2_with fail
  generalize ((w.alloc (.cells #[] tI)).alloc (.cells #[] tL)) = w1 at OT OO BB ⊢
  go_loopw [3, 12] (fun tv x wr => ∃ i : Nat, i ≤ n ∧ x = .int .i64 i ∧ OwnInts wr w.heap.size tI tv (up (List.range i)) ∧ Own wr w.heap.size tL (.slice (some ⟨w.heap.size + 1, 0, none⟩) 0 0) [] ∧ Below w.heap.size w wr) (fun _ x _ => n - (intOf x).toNat)
  case atStart => exact ⟨0, Nat.zero_le _, rfl, OT.out, OO.out, BB.out⟩
  case round =>
    obtain ⟨i, hi, rfl, ht, ho, hb⟩ := hrel
    clear OT OO BB
    have HT := Lib.hid ht
    have HO := Lib.hid ho
    have HB := Lib.hid hb
    clear ht ho hb
    by_cases hlt : i < n
    · have hii : (i : Int) < (n : Int) := by omega
      have hz64 : In64 (i : Int) := by unfold In64; omega
      go_wp2_with (at_builtin; refine wpList_app1 T_int HT.out.1 (by rw [ints_len, up_len, List.length_range]; omega) HB.out.size (by rfl) rfl (by rfl) (by rfl) (by rfl) ?_; intro v1 w5 hown1 hgr1; have HN := Lib.hid hown1; have HB5 := Lib.hid (hgr1.below HB.out HB.out.size HT.out.1.ge); have HO5 := Lib.hid (HO.out.kept hgr1.1 (HO.out.bt.ne HT.out.1.bt (by decide))); clear hown1 hgr1)
      go_roundw
      case rel =>
        refine ⟨i + 1, by omega, by go_num, ?_, HO5.out, HB5.out⟩
        rw [List.range_succ, up_append]
        exact ⟨by simpa [ints, up] using HN.out, fun y hy => by rcases List.mem_append.1 hy with hy | hy; exact HT.out.2 y hy; simp [up] at hy; subst hy; exact hz64⟩
      case measure => simp [intOf]; omega
    · have hin : i = n := by omega
      subst hin
      obtain ⟨gt, ct, rfl⟩ : ∃ gt ct, u3 = .slice (some ⟨gt, 0, none⟩) i ct := by
        rcases HT.out.1.cases with ⟨_, hv⟩ | ⟨g, cap, cur, he, _⟩
        · have h2 := congrArg List.length hv
          rw [ints_len, up_len, List.length_range] at h2
          simp at h2; omega
        · rw [ints_len, up_len, List.length_range] at he; exact ⟨g, cap, he⟩
      go_wp2_with fail
      obtain ⟨wA, rfl⟩ : ∃ wA : World, wA = wr := ⟨_, rfl⟩
      go_loopw [4] (fun ov wr => ∃ (dn : List (List Nat)) (f : Nat) (t : List Nat) (vs : List Value), f + dn.length = 200 ∧ Hid (dn ++ treesF f t = treesN i) ∧ t.length = i ∧ OwnInts wr w.heap.size tI (.slice (some ⟨gt, 0, none⟩) i ct) (up t) ∧ Own wr w.heap.size tL ov vs ∧ RR wr w.heap.size vs (dn.map up) ∧ vs.Pairwise Apart ∧ (∀ u ∈ vs, Apart u (.slice (some ⟨gt, 0, none⟩) i ct)) ∧ Below w.heap.size w wr) (fun ov _ => 200 - lenV ov)
      case atStart => exact ⟨[], 200, List.range i, [], rfl, rfl, by simp, HT.out, HO.out, RR.nil _ _, List.Pairwise.nil, fun u hu => by simp at hu, HB.out⟩
      case round =>
        obtain ⟨dn, f, t, vs, hf, HTF, htl, ht, ho, hr, hap, hat, hb⟩ := hrel
        clear HT HO HB
        have hdl : dn.length ≤ 115 := by have h := congrArg List.length HTF.out; have h2 := HLEN.out; simp at h; omega
        obtain ⟨f', rfl⟩ : ∃ f', f = f' + 1 := ⟨f - 1, by omega⟩
        have htf := HTF.out
        rw [treesF] at htf
        have hmem : t ∈ treesN i := by rw [← htf]; simp
        obtain ⟨-, hlv, hcan, hpar⟩ := HALL.out t hmem
        have hvl : vs.length = dn.length := by rw [hr.1, List.length_map]
        have hvl2 : vs.length ≤ 115 := by omega
        have HVL := Lib.hid hvl
        have HT := Lib.hid ht
        have HO := Lib.hid ho
        have HR := Lib.hid hr
        have HAP := Lib.hid hap
        have HAT := Lib.hid hat
        have HB := Lib.hid hb
        have HTL := Lib.hid htl
        have HFF := Lib.hid hf
        have HTF2 := Lib.hid htf
        have HPAR := Lib.hid hpar
        have HLT := Lib.hid (show ∀ k, t.getD k 0 ≤ 8 from fun k => by
          cases hk : t[k]? with
          | none => simp [List.getD, hk]
          | some l => have := canO_lt hcan l (List.mem_of_getElem? hk); simp [List.getD, hk]; omega)
        obtain ⟨Ao, co, rfl, -, -⟩ := ho.cells.open_
        have HSC := Lib.hid (rfl : succT t = succT t)
        clear hf htl ht ho hr hap hat hb htf hmem hlv hcan hpar HTF hvl
        go_upto_region 8 with (first
          | (go_at_call 168; refine (lib_Clone _ _ (up t) HT.out.ints (by rw [up_len, HTL.out]; omega)).mono ?_; rintro e w2 ⟨r2, rfl, ho2, hb2⟩; obtain ⟨A5, c5, he5, -, -, -⟩ := ho2.ints.open_; rw [up_len] at he5; subst he5; have HAF := Lib.hid (HR.out.fresh (Nat.le_refl _) ho2.1.ge); have HTA := Lib.hid (show Apart (.slice A5 t.length c5) (.slice (some ⟨gt, 0, none⟩) i ct) from (apart_of_lt HT.out.1.lt ho2.1.ge).symm); have HO2 := Lib.hid (ho2.mono HB.out.size); have HBI := Lib.hid hb2; have HB2 := Lib.hid (HB.out.trans (hb2.mono HB.out.size)); have HOW := Lib.hid (HO.out.below hb2); have HT2 := Lib.hid (HT.out.below hb2); clear ho2 hb2)
          | (at_builtin; refine wpList_app1 T_row HOW.out (by omega) HB2.out.size (by rfl) rfl (by rfl) (by rfl) (by rfl) ?_; intro v1 w5 hown1 hgr1; have HN1 := Lib.hid hown1; have HR1 := Lib.hid (LL.snoc HOW.out (HR.out.below HBI.out) HO2.out hown1 hgr1.1); have HB5 := Lib.hid (hgr1.below HB2.out HB2.out.size HOW.out.ge); have HT5 := Lib.hid (HT2.out.kept hgr1.1 (HT2.out.1.bt.ne HOW.out.bt (by decide))); clear hown1 hgr1))
        have HAP5 := Lib.hid (pairApart_snoc HAP.out HAF.out)
        have HAT5 := Lib.hid (show ∀ u ∈ vs ++ [.slice A5 t.length c5], Apart u (.slice (some ⟨gt, 0, none⟩) i ct) from fun u hu => by
          rcases List.mem_append.1 hu with hu | hu
          · exact HAT.out u hu
          · simp at hu; subst hu; exact HTA.out)
        have HDN := Lib.hid (show RR w5 w.heap.size (vs ++ [.slice A5 t.length c5]) ((dn ++ [t]).map up) from by rw [List.map_append]; exact HR1.out)
        clear HAP HAF HAT HTA HO2 HBI HOW HT2 HR1 HT HO HR HB HB2
        generalize hvs : vs ++ [.slice A5 t.length c5] = vs5 at HN1 HAP5 HAT5 HDN
        obtain ⟨ad, zz, hae, h3t⟩ : ∃ ad : Addr, ∃ zz : Unit, (some (⟨gt, 0, none⟩ : Addr)) = some ad ∧ ∀ k, k < i → w5.cell? ⟨gt, k, none⟩ = some (.int .i64 (t.getD k 0 : Nat)) := by
          refine ⟨_, (), rfl, fun k hk => ?_⟩
          obtain ⟨A, c, e, -, -, h3⟩ := HT5.out.ints.open_
          obtain ⟨ad, z, hA, hz', -, hc⟩ := h3 k (by rw [up_len, HTL.out]; exact hk)
          simp only [Value.slice.injEq] at e
          obtain ⟨rfl, -, -⟩ := e
          injection hA with hA
          subst hA
          obtain ⟨l, hl, hzl⟩ := up_getD hz'
          rw [addr_add] at hc
          rw [hc, hzl]
          simp [List.getD, hl]
        have H3 := Lib.hid h3t
        clear h3t hae
        have hwi : IntKind.i64.wrap ((i : Int) - 1) = (i : Int) - 1 := IntWalk.i64_in _ (by omega)
        go_wp2_with fail
        go_loopw [6] (fun x wi => ∃ m : Nat, m ≤ i ∧ x = .int .i64 ((m : Int) - 1) ∧ Hid (pN t m = pN t i) ∧ w5 = wi) (fun x _ => (intOf x + 1).toNat)
        case atStart => exact ⟨i, Nat.le_refl _, rfl, rfl, rfl⟩
        case round =>
          obtain ⟨m, hm, rfl, HPN, rfl⟩ := hrel
          cases m with
          | zero =>
            have h0 : ((0 : Nat) : Int) - 1 = -1 := rfl
            rw [h0]
            clear h0 hm
            have HFIN := Lib.hid (show dn ++ [t] = treesN i from by
              have h := HTF2.out
              have hs : succT t = none := by unfold succT; rw [HTL.out, ← HPN.out]; rfl
              rw [hs] at h
              exact h)
            go_wp2_with fail
            go_ret
            refine ⟨_, rfl, ⟨vs5, HN1.out, ?_, HAP5.out⟩, HB5.out⟩
            rw [← HFIN.out]; exact HDN.out
          | succ k =>
            have h0 : ((k + 1 : Nat) : Int) - 1 = (k : Int) := by omega
            rw [h0]
            clear h0
            have hck := H3.out k (by omega)
            have hki : (k : Int) < (i : Int) := by omega
            have hk0 : (0 : Int) ≤ (k : Int) := by omega
            have hkd : decide ((0 : Int) ≤ (k : Int)) = true := by simp
            have hwk : IntKind.i64.wrap ((k : Int) - 1) = (k : Int) - 1 := IntWalk.i64_in _ (by omega)
            have hpk : pN t (k + 1) = bif Nat.ble (t.getD k 0) 1 then pN t k else k + 1 := rfl
            have HGK := Lib.hid (rfl : t.getD k 0 = t.getD k 0)
            generalize hL : t.getD k 0 = L at hck hpk
            have HL := Lib.hid hL
            clear hL
            by_cases hq : L ≤ 1
            · have hd : decide ((L : Int) ≤ 1) = true := by simp; omega
              have hq1 : (L : Int) ≤ 1 := by omega
              rw [Nat.ble_eq_true_of_le hq] at hpk
              have HPK := Lib.hid hpk
              clear hpk hq
              go_wp2_with fail
              go_roundw
              case rel => exact ⟨k, by omega, rfl, by rw [← HPN.out]; exact HPK.out.symm, by first | rfl | trivial⟩
              case measure => first | (simp [intOf]; done) | (simp [intOf]; omega)
            · have hd : decide ((L : Int) ≤ 1) = false := by simp; omega
              have hq1 : ¬ ((L : Int) ≤ 1) := by omega
              have hble : Nat.ble L 1 = false := by
                cases h : Nat.ble L 1 with
                | true => exact absurd (Nat.le_of_ble_eq_true h) hq
                | false => rfl
              rw [hble] at hpk
              have HPI := Lib.hid (show pN t i = k + 1 from by rw [← HPN.out]; exact hpk)
              have HPP := Lib.hid (show 0 < parN t L k from by rw [← HL.out]; exact HPAR.out k (by rw [HTL.out]; exact HPI.out))
              clear hpk hq hble
              go_wp2_with fail
              go_loopw [7] (fun x wi => ∃ m nd : Nat, m ≤ k ∧ x = .int .i64 ((m : Int) - 1) ∧ Hid (parN t L m = parN t L k) ∧ wi = w5.drewN nd) (fun x _ => (intOf x + 1).toNat)
              case atStart => exact ⟨k, 0, Nat.le_refl _, rfl, rfl, rfl⟩
              case round =>
                obtain ⟨m, nd, hm2, rfl, HQN, rfl⟩ := hrel
                cases m with
                | zero => exact absurd HPP.out (by rw [← HQN.out]; exact Nat.lt_irrefl 0)
                | succ s =>
                  have h0 : ((s + 1 : Nat) : Int) - 1 = (s : Int) := by omega
                  rw [h0]
                  clear h0
                  have hcs := H3.out s (by omega)
                  have hsi : (s : Int) < (i : Int) := by omega
                  have hs0 : (0 : Int) ≤ (s : Int) := by omega
                  have hws : IntKind.i64.wrap ((s : Int) - 1) = (s : Int) - 1 := IntWalk.i64_in _ (by omega)
                  have hLb : L ≤ 8 := by have := HLT.out k; rw [HL.out] at this; exact this
                  have hwL : IntKind.i64.wrap ((L : Int) - 1) = (L : Int) - 1 := IntWalk.i64_in _ (by omega)
                  have hps : parN t L (s + 1) = bif Nat.beq (t.getD s 0 + 1) L then s + 1 else parN t L s := rfl
                  generalize hS : t.getD s 0 = S at hcs hps
                  have HS := Lib.hid hS
                  clear hS
                  by_cases hq2 : S + 1 = L
                  · have hd2 : ((S : Int) != (L : Int) - 1) = false := by simp; omega
                    have HPQ := Lib.hid (show parN t L k = s + 1 from by rw [← HQN.out, hps, hq2, Nat.beq_refl]; rfl)
                    have HSU := Lib.hid (show succT t = some (fillF t (k - s) (i - k) k) from by
                      unfold succT
                      rw [HTL.out, HPI.out]
                      simp only
                      rw [HL.out, HPQ.out, Nat.add_sub_cancel])
                    clear hps hq2
                    go_wp2_with fail
                    go_quiet (fail)
                    go_wp2_with fail
                    rw [World.drewN_drewN]
                    have HT6 := Lib.hid (show OwnInts (w5.drewN (nd + nq)) w.heap.size tI (.slice (some ⟨gt, 0, none⟩) i ct) (up t) from HT5.out)
                    have HN6 := Lib.hid (HN1.out.drewN (nd + nq))
                    have HD6 := Lib.hid (HDN.out.below (below_drewN (Below.refl _ _) (nd + nq)))
                    have HB6 := Lib.hid (below_drewN HB5.out (nd + nq))
                    generalize (w5.drewN (nd + nq)) = w6 at HT6 HN6 HD6 HB6 ⊢
                    have hsk : s < k := by omega
                    have hwd : IntKind.i64.wrap ((k : Int) - (s : Int)) = (k : Int) - (s : Int) := IntWalk.i64_in _ (by omega)
                    clear hcs hck hd hd2 HT5 HN1 HDN HB5
                    go_loopw [8] (fun x wi => ∃ (c : Nat) (tt : List Nat), k ≤ c ∧ c ≤ i ∧ x = .int .i64 c ∧ tt.length = i ∧ Hid (∀ l ∈ tt, l ≤ 8) ∧ Hid (fillF tt (k - s) (i - c) c = fillF t (k - s) (i - k) k) ∧ OwnInts wi w.heap.size tI (.slice (some ⟨gt, 0, none⟩) i ct) (up tt) ∧ Own wi w.heap.size tL v1 vs5 ∧ RR wi w.heap.size vs5 ((dn ++ [t]).map up) ∧ Below w.heap.size w wi) (fun x _ => i - (intOf x).toNat)
                    case atStart => exact ⟨k, t, Nat.le_refl _, by omega, rfl, HTL.out, fun l hl => by obtain ⟨j, hj, rfl⟩ := List.getElem_of_mem hl; have := HLT.out j; simpa [List.getD, hj] using this, rfl, HT6.out, HN6.out, HD6.out, HB6.out⟩
                    case round =>
                      obtain ⟨c, tt, hkc, hci, rfl, htl, HTB, HFL, ht, ho, hr, hb⟩ := hrel
                      clear HT6 HN6 HD6 HB6
                      have HT := Lib.hid ht
                      have HO := Lib.hid ho
                      have HR := Lib.hid hr
                      have HB := Lib.hid hb
                      have HTL2 := Lib.hid htl
                      clear ht ho hr hb htl
                      by_cases hlt3 : c < i
                      · have hcc : (c : Int) < (i : Int) := by omega
                        have hc0 : (0 : Int) ≤ (c : Int) := by omega
                        obtain ⟨e, he⟩ : ∃ e, e = c - (k - s) := ⟨_, rfl⟩
                        have hwe : IntKind.i64.wrap ((c : Int) - ((k : Int) - (s : Int))) = (e : Int) := by rw [IntWalk.i64_in _ (by omega)]; omega
                        have hei : (e : Int) < (i : Int) := by omega
                        have he0 : (0 : Int) ≤ (e : Int) := by omega
                        have hce : wr.cell? ⟨gt, e, none⟩ = some (.int .i64 (tt.getD e 0 : Nat)) := by
                          obtain ⟨A, c', e', -, -, h3⟩ := HT.out.ints.open_
                          obtain ⟨ad, z, hA, hz', -, hc⟩ := h3 e (by rw [up_len, HTL2.out]; omega)
                          simp only [Value.slice.injEq] at e'
                          obtain ⟨rfl, -, -⟩ := e'
                          injection hA with hA
                          subst hA
                          obtain ⟨l, hl, hzl⟩ := up_getD hz'
                          rw [addr_add] at hc
                          rw [hc, hzl]
                          simp [List.getD, hl]
                        have hE8 : tt.getD e 0 ≤ 8 := by
                          cases hk : tt[e]? with
                          | none => simp [List.getD, hk]
                          | some l => have := HTB.out l (List.mem_of_getElem? hk); simpa [List.getD, hk] using this
                        have hfl := HFL.out
                        rw [show i - c = (i - (c + 1)) + 1 by omega, fillF, ← he] at hfl
                        generalize tt.getD e 0 = E at hce hE8 hfl
                        have HFL2 := Lib.hid hfl
                        obtain ⟨u0, -, q0, q1, -, -, hst, hgb⟩ := HT.out.1.storeAt (k := c) (by rw [ints_len, up_len, HTL2.out]; exact hlt3) (.int .i64 (E : Int))
                        have HST := Lib.hid (show OwnInts (wr.setCell ⟨gt, c, none⟩ (.int .i64 (E : Int))) w.heap.size tI (.slice (some ⟨gt, 0, none⟩) i ct) (up (tt.set c E)) from ⟨by simpa [ints, up, List.map_set] using hst, fun z hz => by
                          simp only [up, List.map_set] at hz
                          rcases List.mem_or_eq_of_mem_set hz with hz | hz
                          · exact HT.out.2 z hz
                          · rw [hz]; unfold In64; omega⟩)
                        have HO2 := Lib.hid (HO.out.kept hgb (HO.out.bt.ne (v' := .slice (some ⟨gt, 0, none⟩) i ct) HT.out.1.bt (by decide)))
                        have HR2 := Lib.hid (HR.out.keptAp (v := .slice (some ⟨gt, 0, none⟩) i ct) hgb HAT5.out)
                        have HB2 := Lib.hid (HB.out.setCell (p := ⟨gt, c, none⟩) (HT.out.1.ge gt rfl) (.int .i64 (E : Int)))
                        have HTB2 := Lib.hid (show ∀ l ∈ tt.set c E, l ≤ 8 from fun l hl => by
                          rcases List.mem_or_eq_of_mem_set hl with hl | hl
                          · exact HTB.out l hl
                          · omega)
                        clear hst hgb hfl he
                        go_wp2_with fail
                        go_roundw
                        case rel => exact ⟨c + 1, tt.set c E, by omega, by omega, by go_num, by rw [List.length_set]; exact HTL2.out, HTB2.out, HFL2.out, HST.out, HO2.out, HR2.out, HB2.out⟩
                        case measure => simp [intOf]; omega
                      · have hce : c = i := by omega
                        have hfl := HFL.out
                        rw [hce, Nat.sub_self, fillF] at hfl
                        have HNX := Lib.hid (show dn ++ [t] ++ treesF f' tt = treesN i from by
                          have h := HTF2.out
                          rw [HSU.out, ← hfl] at h
                          simpa using h)
                        have hcc : ¬ ((c : Int) < (i : Int)) := by omega
                        have HLN := Lib.hid (show (dn ++ [t]).length = dn.length + 1 from by simp)
                        clear hfl hce
                        go_wp2_with fail
                        go_roundw
                        case rel => exact ⟨dn ++ [t], f', tt, vs5, by rw [HLN.out]; have := HFF.out; omega, HNX.out, HTL2.out, HT.out, HO.out, HR.out, HAP5.out, HAT5.out, HB.out⟩
                        case measure =>
                          obtain ⟨A9, c9, h9, -, -⟩ := HO.out.cells.open_
                          have h10 : vs5.length = vs.length + 1 := by rw [← hvs]; simp
                          rw [h9]
                          show 200 - vs5.length < 200 - vs.length
                          omega
                  · have hd2 : ((S : Int) != (L : Int) - 1) = true := by simp; omega
                    have HPS := Lib.hid (show parN t L (s + 1) = parN t L s from by
                      rw [hps]
                      cases h : Nat.beq (S + 1) L with
                      | true => exact absurd (Nat.eq_of_beq_eq_true h) hq2
                      | false => rfl)
                    clear hps hq2
                    go_wp2_with fail
                    go_quiet (fail)
                    go_wp2_with fail
                    go_roundw
                    case rel => exact ⟨s, _, by omega, rfl, by rw [← HQN.out]; exact HPS.out.symm, by first | rfl | exact World.drewN_drewN ..⟩
                    case measure => first | (simp [intOf]; done) | (simp [intOf]; omega)
end Go.Proofs.Ytnlaoainhlfemaa

set_option maxRecDepth 100000
set_option linter.unusedVariables false
set_option linter.unusedSimpArgs false
namespace Go.Proofs.Ytnlaoainhlfemaa
open Go.RowKit

def Small (bs : List (List Nat)) : Prop := ∀ q ∈ bs, lvl q = true ∧ q.length ≤ 8
theorem Small.filter {bs : List (List Nat)} (h : Small bs) (p : List Nat → Bool) : Small (bs.filter p) := fun q hq => h q (List.mem_filter.1 hq).1
end Go.Proofs.Ytnlaoainhlfemaa

