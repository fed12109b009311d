/- Plain: a tree made from its neighbours is the canonical list of the list that is made without sorting. | Plain: a canonical tree cut up above the nodes of a mask: the program's pieces and skeleton and the reference's are made from the same lists. | Walks: isCutMask, checkCutMask of the program. | Plain: what holds of the program's state while it cuts a tree up. | A region that draws its order and stores at its end what it has loaded: those loads may be taken first. No program in sight. | Steps in a region that draws: append of one element, of a list, make. No program in sight. | Walks: l03Before, l03Sort, l16Skeleton of the reference. | Lists of lists of one's own whose rows can be read and lie apart from one another. | Walk: l03Sort of the reference. | Plain: all trees with n nodes, from a canonical list to the next smaller one. | Walks: equality of lists and of lists of lists, of the library and of the reference. -/
import Derived.Test.YtcbgopmonbgmgaaFa4
import Derived.Test.YtcbgopmonbgmgaaFa5
import Derived.Test.YtcbgopmonbgmgaaFa6
import Derived.OrdersHeld
import Derived.RegionTactic
import Derived.Deep.RegionHeld
import Derived.Test.YtcbgopmonbgmgaaFa3
import Derived.Test.YtcbgopmonbgmgaaFa2
import Derived.Deep.QuietTactic
import Derived.BigQuiet
import Derived.Deep.RegionLaw
import Derived.Test.YtcbgopmonbgmgaaFa1
set_option linter.unusedVariables false
set_option linter.unusedSimpArgs false
set_option maxRecDepth 100000
namespace Go.Proofs.Ytcbgopmonbgmgaa

/-- the list of the tree with a root whose nodes are joined to others, its branches as they come -/
def rawO : Nat → List (List Nat) → Nat → Nat → Option (List Nat)
  | 0, _, _, _ => none
  | f + 1, near, root, fr => match near[root]? with
    | none => none
    | some ns => match mapO (fun n => rawO f near n (root + 1)) (ns.filter fun n => !Nat.beq (n + 1) fr) with
      | none => none
      | some bs => some (rootN bs)

theorem mapO_imp {α β : Type} {g g' : α → Option β} : ∀ {xs : List α} {ys : List β}, (∀ x ∈ xs, ∀ y, g x = some y → g' x = some y) → mapO g xs = some ys → mapO g' xs = some ys
  | [], ys, _, h => by simpa [mapO] using h
  | x :: xs, ys, hg, h => by
    obtain ⟨y, ys', rfl, hy, h'⟩ := mapO_cons h
    rw [mapO, hg x (by simp) y hy, mapO_imp (fun z hz => hg z (by simp [hz])) h']
theorem mapO_of {α β : Type} {g : α → Option β} : ∀ {xs : List α} {ys : List β}, ys.length = xs.length → (∀ (k : Nat) (x : α), xs[k]? = some x → ∃ y, ys[k]? = some y ∧ g x = some y) → mapO g xs = some ys
  | [], [], _, _ => rfl
  | [], _ :: _, h, _ => by simp at h
  | _ :: _, [], h, _ => by simp at h
  | x :: xs, y :: ys, hl, h => by
    obtain ⟨y', h1, h2⟩ := h 0 x (by simp)
    simp at h1; subst h1
    rw [mapO, h2, mapO_of (by simpa using hl) (fun k z hz => by simpa using h (k + 1) z (by simpa using hz))]
theorem mapO_ex {α β : Type} {g : α → Option β} : ∀ {xs : List α}, (∀ x ∈ xs, ∃ y, g x = some y) → ∃ ys, mapO g xs = some ys
  | [], _ => ⟨[], rfl⟩
  | x :: xs, h => by
    obtain ⟨y, hy⟩ := h x (by simp)
    obtain ⟨ys, hys⟩ := mapO_ex (xs := xs) fun z hz => h z (by simp [hz])
    exact ⟨y :: ys, by rw [mapO, hy, hys]⟩

theorem addLast_snoc (x : Nat) : ∀ (out : List (List Nat)) (b : List Nat), addLast x (out ++ [b]) = out ++ [b ++ [x]]
  | [], b => rfl
  | [a], b => rfl
  | a :: c :: out, b => by
    have := addLast_snoc x (c :: out) b
    rw [List.cons_append] at this
    rw [List.cons_append, List.cons_append, addLast, this]
    rfl
theorem brF_append : ∀ (out : List (List Nat)) (a c : List Nat), brF out (a ++ c) = match brF out a with
    | none => none
    | some o => brF o c
  | out, [], c => rfl
  | out, x :: a, c => by
    rw [List.cons_append, brF, brF]
    cases brStep out x with
    | none => rfl
    | some o => exact brF_append o a c
theorem brF_rest : ∀ (out : List (List Nat)) (b c : List Nat), (∀ l ∈ c, 1 ≤ l) → brF (out ++ [b]) (bump c) = some (out ++ [b ++ c])
  | out, b, [], _ => by simp [bump, brF]
  | out, b, x :: c, h => by
    obtain ⟨x', rfl⟩ : ∃ x', x = x' + 1 := ⟨x - 1, by have := h x (by simp); omega⟩
    rw [bump, brF]
    have hs : brStep (out ++ [b]) (x' + 1 + 1) = some (out ++ [b ++ [x' + 1]]) := by
      have := addLast_snoc (x' + 1) out b
      cases ho : out ++ [b] with
      | nil => simp at ho
      | cons a os => rw [ho] at this; rw [brStep, this]
    rw [hs]
    have := brF_rest out (b ++ [x' + 1]) c fun l hl => h l (by simp [hl])
    simpa using this
theorem lvlF_pos : ∀ {p : Nat} {t : List Nat}, lvlF p t = true → ∀ l ∈ t, 1 ≤ l
  | p, [], _ => by simp
  | p, x :: t, h => by
    rw [lvlF] at h
    cases h1 : Nat.ble 1 x with
    | false => rw [h1] at h; cases h
    | true =>
      cases h2 : Nat.ble x (p + 1) with
      | false => rw [h1, h2] at h; cases h
      | true =>
        rw [h1, h2] at h
        intro l hl
        rcases List.mem_cons.1 hl with rfl | hl
        · exact Nat.le_of_ble_eq_true h1
        · exact lvlF_pos h l hl
theorem lvl_cons {t : List Nat} (h : lvl t = true) : ∃ c, t = 0 :: c ∧ lvlF 0 c = true := by
  cases t with
  | nil => cases h
  | cons a c =>
    rw [lvl] at h
    cases h1 : Nat.beq a 0 with
    | false => rw [h1] at h; cases h
    | true => rw [h1] at h; have := Nat.eq_of_beq_eq_true h1; subst this; exact ⟨c, rfl, h⟩
theorem brF_bumps : ∀ (out bs : List (List Nat)), (∀ b ∈ bs, lvl b = true) → brF out (bumps bs) = some (out ++ bs)
  | out, [], _ => by simp [bumps, brF]
  | out, b :: bs, h => by
    obtain ⟨c, rfl, hc⟩ := lvl_cons (h b (by simp))
    rw [bumps, brF_append, bump, brF]
    have : brStep out (0 + 1) = some (out ++ [[0]]) := rfl
    rw [this]
    simp only
    rw [brF_rest out [0] c (lvlF_pos hc)]
    simp only
    rw [brF_bumps _ bs fun x hx => h x (by simp [hx])]
    simp
theorem brO_root {bs : List (List Nat)} (h : ∀ b ∈ bs, lvl b = true) : brO (rootN bs) = some bs := by
  rw [rootN, brO, brF_bumps [] bs h]; rfl
theorem lvlF_bump : ∀ {p : Nat} {t d : List Nat}, lvlF p t = true → (∀ q, lvlF q d = true) → lvlF (p + 1) (bump t ++ d) = true
  | p, [], d, _, hd => hd _
  | p, x :: t, d, h, hd => by
    rw [lvlF] at h
    cases h1 : Nat.ble 1 x with
    | false => rw [h1] at h; cases h
    | true =>
      cases h2 : Nat.ble x (p + 1) with
      | false => rw [h1, h2] at h; cases h
      | true =>
        rw [h1, h2] at h
        rw [bump, List.cons_append, lvlF, Nat.ble_eq_true_of_le (by omega), Nat.ble_eq_true_of_le (by have := Nat.le_of_ble_eq_true h2; omega)]
        exact lvlF_bump h hd
theorem lvlF_bumps : ∀ {bs : List (List Nat)}, (∀ b ∈ bs, lvl b = true) → ∀ q, lvlF q (bumps bs) = true
  | [], _, q => rfl
  | b :: bs, h, q => by
    obtain ⟨c, rfl, hc⟩ := lvl_cons (h b (by simp))
    rw [bumps, bump, List.cons_append, lvlF]
    simp only [Nat.zero_add, Nat.ble_eq_true_of_le (Nat.le_refl 1), Nat.ble_eq_true_of_le (show 1 ≤ q + 1 by omega), cond_true]
    exact lvlF_bump hc (lvlF_bumps fun x hx => h x (by simp [hx]))
theorem lvl_root {bs : List (List Nat)} (h : ∀ b ∈ bs, lvl b = true) : lvl (rootN bs) = true := by
  rw [rootN, lvl]; exact lvlF_bumps h 0

theorem canO_9 {t : List Nat} (ht : lvl t = true) (hl : t.length ≤ 8) : canO 8 t = canO 9 t := by
  have h := lev8 (p := fun t => match canO 8 t, canO 9 t with | some a, some b => eqN a b | _, _ => false) (by decide +kernel) ht hl
  cases h8 : canO 8 t with
  | none => rw [h8] at h; cases h
  | some a =>
    cases h9 : canO 9 t with
    | none => rw [h8, h9] at h; cases h
    | some b => rw [h8, h9] at h; rw [eqN_iff.1 h]
theorem canO_rootN {bs : List (List Nat)} {cs : List (List Nat)} (h : ∀ b ∈ bs, lvl b = true) (hm : mapO (canO 8) bs = some cs) : canO 9 (rootN bs) = some (rootN (srtD cs)) := by
  rw [canO, brO_root h]
  simp only
  rw [hm]

theorem len_bumps_mem {b : List Nat} {bs : List (List Nat)} (h : b ∈ bs) : b.length + 1 ≤ (rootN bs).length := by
  rw [rootN, List.length_cons, bumps_len]
  have := brLen_memb h
  omega
theorem tfO_raw : ∀ {f : Nat} {near : List (List Nat)} {root fr : Nat} {q : List Nat}, rawO f near root fr = some q → q.length ≤ 8 → lvl q = true ∧ tfO f near root fr = canO 9 q
  | 0, near, root, fr, q, h, _ => by cases h
  | f + 1, near, root, fr, q, h, h8 => by
    rw [rawO] at h
    rw [tfO]
    cases hn : near[root]? with
    | none => rw [hn] at h; cases h
    | some ns =>
      rw [hn] at h
      simp only at h ⊢
      cases hm : mapO (fun n => rawO f near n (root + 1)) (ns.filter fun n => !Nat.beq (n + 1) fr) with
      | none => rw [hm] at h; cases h
      | some raws =>
        rw [hm] at h
        simp only [Option.some.injEq] at h
        subst h
        have hall : ∀ b ∈ raws, lvl b = true ∧ b.length ≤ 8 ∧ ∃ x ∈ (ns.filter fun n => !Nat.beq (n + 1) fr), rawO f near x (root + 1) = some b := by
          intro b hb
          obtain ⟨x, hx, hxb⟩ := mapO_all hm b hb
          have hl := len_bumps_mem hb
          exact ⟨(tfO_raw hxb (by omega)).1, by omega, x, hx, hxb⟩
        have hlv : ∀ b ∈ raws, lvl b = true := fun b hb => (hall b hb).1
        refine ⟨lvl_root hlv, ?_⟩
        obtain ⟨cs, hcs⟩ := mapO_ex (g := canO 9) (xs := raws) fun b hb => by
          obtain ⟨r, hr, -, -⟩ := canO_8 (hall b hb).1 (hall b hb).2.1
          exact ⟨r, hr⟩
        have hm2 : mapO (fun n => tfO f near n (root + 1)) (ns.filter fun n => !Nat.beq (n + 1) fr) = some cs := by
          refine mapO_of (by rw [mapO_len hcs, mapO_len hm]) fun k x hx => ?_
          obtain ⟨b, hb, hxb⟩ := mapO_get hm k x hx
          obtain ⟨c, hc, hbc⟩ := mapO_get hcs k b hb
          have hbm := List.mem_of_getElem? hb
          exact ⟨c, hc, by rw [(tfO_raw hxb (hall b hbm).2.1).2, hbc]⟩
        rw [hm2]
        simp only
        have h1 : mapO (canO 8) raws = some cs := mapO_imp (fun b hb y hy => by rw [canO_9 (hall b hb).1 (hall b hb).2.1]; exact hy) hcs
        have hcl : ∀ c ∈ cs, lvl c = true ∧ canO 8 c = some c := by
          intro c hc
          obtain ⟨b, hb, hbc⟩ := mapO_all hcs c hc
          obtain ⟨r, hr, h2, h3⟩ := canO_8 (hall b hb).1 (hall b hb).2.1
          rw [hbc] at hr
          injection hr with hr
          subst hr
          exact ⟨h2, by rw [canO_9 h2 (by rw [canO_len hbc]; exact (hall b hb).2.1)]; exact h3⟩
        have h2 : mapO (canO 8) cs = some cs := mapO_of rfl fun k c hc => ⟨c, hc, (hcl c (List.mem_of_getElem? hc)).2⟩
        rw [canO_rootN hlv h1, canO_rootN (fun c hc => (hcl c hc).1) h2]
end Go.Proofs.Ytcbgopmonbgmgaa

set_option linter.unusedVariables false
set_option linter.unusedSimpArgs false
set_option maxRecDepth 100000
namespace Go.Proofs.Ytcbgopmonbgmgaa

/-- what the program knows of the nodes so far: the neighbours in the pieces, the piece of each node, the pieces' roots, the joints -/
structure CutS where
  near : List (List Nat)
  top : List Nat
  tops : List Nat
  bet : List (Nat × Nat)
def cutStep (mask : Nat) (s : CutS) (i p : Nat) : CutS :=
  match p with
  | 0 => ⟨s.near, s.top.set i s.tops.length, s.tops ++ [i], s.bet⟩
  | k + 1 => bif mask.testBit i then ⟨s.near, s.top.set i s.tops.length, s.tops ++ [i], s.bet ++ [(s.top.getD k 0, s.tops.length)]⟩
    else ⟨addAt i k (addAt k i s.near), s.top.set i (s.top.getD k 0), s.tops, s.bet⟩
end Go.Proofs.Ytcbgopmonbgmgaa

set_option maxRecDepth 100000
set_option linter.unusedVariables false
set_option linter.unusedSimpArgs false
namespace Go.Proofs.Ytcbgopmonbgmgaa
open Go.RowKit

end Go.Proofs.Ytcbgopmonbgmgaa

set_option linter.unusedVariables false
set_option linter.unusedSimpArgs false
namespace Go.Proofs.Ytcbgopmonbgmgaa

structure CI (n j : Nat) (s : CutS) : Prop where
  near : NB s.near (2 * j) n
  top : s.top.length = n ∧ ∀ x ∈ s.top, x ≤ s.tops.length
  tops : s.tops.length ≤ j ∧ ∀ x ∈ s.tops, x < n
  bet : s.bet.length ≤ j ∧ ∀ p ∈ s.bet, p.1 < s.tops.length ∧ p.2 < s.tops.length
theorem CI.topLe {n j : Nat} {s : CutS} (h : CI n j s) (k : Nat) : s.top.getD k 0 ≤ s.tops.length := by
  cases hx : s.top[k]? with
  | none => simp [List.getD, hx]
  | some x => have := h.top.2 x (List.mem_of_getElem? hx); simpa [List.getD, hx] using this
theorem CI.step {n j P mask : Nat} {s : CutS} (h : CI n j s) (hj : j < n) (hP : P ≤ j) : CI n (j + 1) (cutStep mask s j P) := by
  have hnew : ∀ x ∈ s.top.set j s.tops.length, x ≤ (s.tops ++ [j]).length := by
    intro x hx
    rcases List.mem_or_eq_of_mem_set hx with hx | hx
    · have := h.top.2 x hx; simp; omega
    · simp [hx]
  have htops : (s.tops ++ [j]).length ≤ j + 1 ∧ ∀ x ∈ s.tops ++ [j], x < n := by
    refine ⟨by have := h.tops.1; simp; omega, fun x hx => ?_⟩
    rcases List.mem_append.1 hx with hx | hx
    · exact h.tops.2 x hx
    · simp at hx; omega
  cases P with
  | zero =>
    exact ⟨h.near.mono (by omega), ⟨by simp [cutStep, h.top.1], hnew⟩, htops, ⟨by have := h.bet.1; show s.bet.length ≤ _; omega, fun p hp => by have := h.bet.2 p hp; simp [cutStep]; omega⟩⟩
  | succ k =>
    rw [cutStep]
    cases mask.testBit j with
    | true =>
      refine ⟨h.near.mono (by omega), ⟨by simp [h.top.1], hnew⟩, htops, ⟨by have := h.bet.1; simp; omega, fun p hp => ?_⟩⟩
      simp only [cond_true, List.length_append, List.length_singleton] at hp ⊢
      rcases List.mem_append.1 hp with hp | hp
      · have := h.bet.2 p hp; omega
      · simp at hp
        have := h.topLe k
        subst hp
        simp only [List.getD_eq_getElem?_getD] at this
        exact ⟨by simpa using Nat.lt_succ_of_le this, by simp⟩
    | false =>
      refine ⟨((h.near.add (x := k) (i := j) (by omega)).add (x := j) (i := k) hj).mono (by omega), ⟨by simp [h.top.1], fun x hx => ?_⟩, ⟨by have := h.tops.1; simp; omega, h.tops.2⟩, ⟨by have := h.bet.1; simp; omega, h.bet.2⟩⟩
      rcases List.mem_or_eq_of_mem_set hx with hx | hx
      · exact h.top.2 x hx
      · rw [hx]; exact h.topLe k
end Go.Proofs.Ytcbgopmonbgmgaa

set_option linter.unusedVariables false
set_option linter.unusedSimpArgs false
namespace Go.Proofs.Ytcbgopmonbgmgaa
open Go

section
variable {P : Program} {ops : Array Oper} {Q : Exit → Act → World → Prop} {md : Region.Mode} {S : Bool → World → Prop} {k : Nat}

/-- whatever order comes: 'S false' holds of the worlds ahead of operation k, 'S true' of those behind it -/
def AnyT (P : Program) (md : Region.Mode) (ops : Array Oper) (Q : Exit → Act → World → Prop) (S : Bool → World → Prop) (k : Nat) : Nat → Array Bool → Act → World → Prop
  | 0, L, a, w => Region.ready md ops L = [] ∧ Q .normal a w
  | f + 1, L, a, w => (Region.ready md ops L = [] → Q .normal a w) ∧
      ∀ i ∈ Region.ready md ops L, wpOp P ops Q i (fun a' w' => S ((L.setIfInBounds i true).getD k true) w' ∧ AnyT P md ops Q S k f (L.setIfInBounds i true) a' w') a w

theorem AnyT.any : ∀ (f : Nat) (L : Array Bool) (a : Act) (w : World), AnyT P md ops Q S k f L a w → wpAny P md ops Q f L a w
  | 0, _, _, _, h => h
  | f + 1, _, _, _, h => ⟨h.1, fun i hi => wpOp_mono (fun a' w' h' => AnyT.any f _ a' w' h'.2) (h.2 i hi)⟩

theorem AnyT.first {i : Nat} {oi : Oper} {v : Value} {U : World → Prop} {G : Array Bool → Prop} (hi : ops[i]? = some oi)
    (hsel : ∀ (j : Nat) (o : Oper) cs b, ops[j]? = some o → o.op ≠ .select cs b)
    (hQ : ∀ c a w, Q (.panic c) (a.put oi.dst v) w → Q (.panic c) a w) (hik : i ≠ k)
    (hG : ∀ (L : Array Bool) (j : Nat), G L → i ∈ Region.ready md ops L → j ∈ Region.ready md ops L → j ≠ i → G (L.setIfInBounds j true))
    (hU : ∀ (L : Array Bool) (w : World), G L → S (L.getD k true) w → U w) :
    ∀ (f : Nat) (L : Array Bool) (a : Act) (w : World),
      (∀ j oj, ops[j]? = some oj → j ≠ i → L.getD j true = false → (∀ e ∈ oj.after, Region.binds md e = true → e.on ≠ i) → oi.apart ops oj = true) →
      i ∈ Region.ready md ops L → G L → YieldsIf P ops U oi v a → S (L.getD k true) w →
      AnyT P md ops Q S k f (L.setIfInBounds i true) (a.put oi.dst v) w → AnyT P md ops Q S k (f + 1) L a w := by
  have hkeep : ∀ (L : Array Bool), (L.setIfInBounds i true).getD k true = L.getD k true := fun L => getD_set_ne true hik
  intro f
  induction f with
  | zero =>
    intro L a w _ hr g hy hS H
    refine ⟨fun h => (by rw [h] at hr; cases hr), fun j hj => ?_⟩
    by_cases hji : j = i
    · subst hji
      exact hy.wpOp hi (hU L w g hS) ⟨by rw [hkeep]; exact hS, H⟩
    · have h1 := ready_mono hj hji
      rw [H.1] at h1
      cases h1
  | succ f ih =>
    intro L a w hfree hr g hy hS H
    refine ⟨fun h => (by rw [h] at hr; cases hr), fun j hj => ?_⟩
    by_cases hji : j = i
    · subst hji
      exact hy.wpOp hi (hU L w g hS) ⟨by rw [hkeep]; exact hS, H⟩
    · obtain ⟨hjun, oj, hoj, hall⟩ := mem_ready.1 hj
      have hiun := (mem_ready.1 hr).1
      have hnot : ∀ e ∈ oj.after, Region.binds md e = true → e.on ≠ i := fun e he hb heq => by
        have h1 := hall e he hb
        rw [heq] at h1
        rcases Nat.lt_or_ge i L.size with h' | h'
        · simp [h'] at hiun h1; rw [hiun] at h1; cases h1
        · simp [Array.getElem?_eq_none h'] at h1
      have h2 := wpOp_putIf hoj (hfree j oj hoj hji hjun hnot) (fun cs b => hsel i oi cs b hi) (fun cs b => hsel j oj cs b hoj) hQ hy (H.2 j (ready_mono hj hji))
      refine wpOp_mono (fun a' w' h3 => ?_) h2
      have e : (L.setIfInBounds i true).setIfInBounds j true = (L.setIfInBounds j true).setIfInBounds i true := Array.setIfInBounds_comm _ _ (Ne.symm hji)
      obtain ⟨hy', hS', H'⟩ := h3
      rw [e] at H'
      rw [e, hkeep] at hS'
      refine ⟨hS', ih (L.setIfInBounds j true) a' w' (fun m om hm hmi hun hno => hfree m om hm hmi ?_ hno) (ready_mono hr (Ne.symm hji)) (hG L j g hr hj hji) hy' hS' H'⟩
      by_cases hjm : j = m
      · subst hjm; exact hjun
      · rw [getD_set_ne true hjm] at hun; exact hun

/-- each of the operations rs comes next -/
def AllT (P : Program) (md : Region.Mode) (ops : Array Oper) (Q : Exit → Act → World → Prop) (S : Bool → World → Prop) (k : Nat) (f : Nat) (L : Array Bool) (a : Act) (w : World) (rs : List Nat) : Prop :=
  ∀ i ∈ rs, wpOp P ops Q i (fun a' w' => S ((L.setIfInBounds i true).getD k true) w' ∧ AnyT P md ops Q S k f (L.setIfInBounds i true) a' w') a w
theorem AllT.nil {f : Nat} {L : Array Bool} {a : Act} {w : World} : AllT P md ops Q S k f L a w [] := fun _ h => by cases h
theorem AllT.cons {f : Nat} {L : Array Bool} {a : Act} {w : World} {i : Nat} {o : Oper} {rs : List Nat} (ho : ops[i]? = some o)
    (h : ∀ K' : Act → World → Prop, Shut (∀ a w, S ((L.setIfInBounds i true).getD k true) w → (S ((L.setIfInBounds i true).getD k true) w → AnyT P md ops Q S k f (L.setIfInBounds i true) a w) → K' a w) →
      if Region.wanted o (yielded ops a.tmps) = true then Oper.wp P o a w K' Q else K' (a.put o.dst undef) w)
    (hs : AllT P md ops Q S k f L a w rs) : AllT P md ops Q S k f L a w (i :: rs) := fun j hj => by
  rcases List.mem_cons.1 hj with rfl | hj
  · exact wpOp_step ho (fun K' hK => h K' (fun a w hS hW => hK a w ⟨hS, hW hS⟩))
  · exact hs j hj
theorem AnyT.done {L : Array Bool} {a : Act} {w : World} (hr : Region.ready md ops L = []) (h : Q .normal a w) : ∀ f, AnyT P md ops Q S k f L a w
  | 0 => ⟨hr, h⟩
  | _ + 1 => ⟨fun _ => h, by rw [hr]; simp⟩
theorem AnyT.begin {id : Nat} {a : Act} {w : World} (hm : P.follows .mixedOrders = true) (h : AnyT P .any ops Q S k ops.size (Array.replicate ops.size false) a w.drew) : (Code.region id ops true).wp P Q a w :=
  wp_region_any hm (AnyT.any _ _ _ _ h)
end
end Go.Proofs.Ytcbgopmonbgmgaa

set_option maxRecDepth 100000
set_option linter.unusedVariables false
set_option linter.unusedSimpArgs false
namespace Go.Proofs.Ytcbgopmonbgmgaa
open Go.RowKit

/-- append of one element, met in a region that draws, where the element lies anywhere -/
theorem stp_app1 {P : Program} {ops : Array Oper} {o : Oper} {a : Act} {K : Act → World → Prop} {Q : Exit → Act → World → Prop} {E : Prop} {s x : Operand} {t : TypeId}
    {e : TypeId} {z : Value} {bytes : Nat} {B : Nat} {v : Value} {vs : List Value} {W : World} {u : Value} {ad : Addr}
    (T : ElemT P t e z bytes) (hown : Own W B e v vs) (hlen : vs.length < 1099511627776) (hB : B ≤ W.heap.size) (hu : u.oneCell' = true)
    (hgd : o.guard = none) (ho : o.op = .call { callee := .builtin .append, args := #[s, x], argTypes := #[t, t] }) (hs : a.eval s = v)
    (hx : a.eval x = .slice (some ad) 1 1) (hc : W.cell? ad = some u)
    (h : ∀ v' w', Own w' B e v' (vs ++ [u]) → Grow W w' v v' → K (a.put o.dst v') w') :
    if Region.wanted o (yielded ops a.tmps) = true then Oper.wp P o a W K Q else E := by
  have hw : Region.wanted o (yielded ops a.tmps) = true := by simp [Region.wanted, hgd]
  rw [if_pos hw]
  obtain ⟨i, hi, hz, h1, h2⟩ := info_parts T.info
  have hby := T.small
  obtain ⟨v', w', hrun, r1, r2, _, r3⟩ := run_append_own_at (P := P) W B t o.type e i z 1 bytes T.under hi hz h1 h2 (by rw [T.one]; rfl) (by omega) v vs.length vs hown ad 1 1 [u] rfl
    (fun j u' hj => by
      cases j with
      | zero =>
        simp at hj; subst hj
        exact hc
      | succ j => simp at hj) (by simpa using hu) (by simp only [maxLen]; omega) (by have := Nat.mul_le_mul_left (vs.length + 1) hby; omega) hB
  unfold Oper.wp execOp
  simp only [ho, resolve, invoke, builtin, Sem.run_bind, Sem.run_pure, Result.andThen_ok, List.map_toArray, List.map_cons, List.map_nil, hs, hx, hrun]
  refine h v' w' ?_ ⟨r2, ?_⟩
  · unfold Own; simpa using r1
  · rcases r3 with r3 | r3
    · exact .inl r3
    · exact .inr ⟨_, r3, Nat.le_refl _⟩

/-- the run of append of a list -/
theorem run_appN' {P : Program} {t e : TypeId} {z : Value} {bytes : Nat} {B : Nat} {v : Value} {vs : List Value} {W : World} {y : Value} {us : List Value}
    (T : ElemT P t e z bytes) (ty : TypeId) (hown : Own W B e v vs) (hy : Cells W y us) (hlen : vs.length + us.length < 1099511627776) (hB : B ≤ W.heap.size) (hu : ∀ u ∈ us, u.oneCell' = true) :
    ∃ v' w', (Builtin.append_ #[t, t] ty #[v, y]).run P W = .ok v' w' ∧ Own w' B e v' (vs ++ us) ∧ Grow W w' v v' := by
  obtain ⟨i, hi, hz, h1, h2⟩ := info_parts T.info
  have hby := T.small
  obtain ⟨A, c, rfl, hy1, hy2, hy3⟩ := hy
  cases A with
  | none =>
    have hus : us = [] := by
      cases us with
      | nil => rfl
      | cons u us => obtain ⟨ad, h, _⟩ := hy3 0 u rfl; cases h
    subst hus
    have hrun : (Builtin.append_ #[t, t] ty #[v, .slice none 0 c]).run P W = .ok v W := by
      rcases hown.cases with ⟨rfl, rfl⟩ | ⟨g, cap, cur, rfl, _, _, _, hnc, _⟩
      · simp [Builtin.append_, run_underlying T.under, sizeOf, typeInfo, hi, Builtin.lenOf, Builtin.firstCells]
      · simp [Builtin.append_, run_underlying T.under, sizeOf, typeInfo, hi, Builtin.lenOf, Builtin.firstCells, hnc, storeCells]
    exact ⟨v, W, hrun, by simpa using hown, World.grownBy.refl W _, .inl rfl⟩
  | some ad =>
    obtain ⟨v', w', hrun, r1, r2, _, r3⟩ := run_append_own_at (P := P) W B t ty e i z 1 bytes T.under hi hz h1 h2 (by rw [T.one]; rfl) (by omega) v vs.length vs hown ad us.length c us (by simp)
      (fun j u' hj => by obtain ⟨ad', h, hc⟩ := hy3 j u' hj; injection h with h; subst h; exact hc) hu (by simp only [maxLen]; omega) (by have := Nat.mul_le_mul_left (vs.length + us.length) hby; omega) hB
    refine ⟨v', w', hrun, ?_, r2, ?_⟩
    · unfold Own; simpa using r1
    · rcases r3 with r3 | r3
      · exact .inl r3
      · exact .inr ⟨_, r3, by simp⟩

/-- append of a list, met in a region that draws -/
theorem stp_appN {P : Program} {ops : Array Oper} {o : Oper} {a : Act} {K : Act → World → Prop} {Q : Exit → Act → World → Prop} {E : Prop} {s x : Operand} {t : TypeId}
    {e : TypeId} {z : Value} {bytes : Nat} {B : Nat} {v : Value} {vs : List Value} {W : World} {y : Value} {us : List Value}
    (T : ElemT P t e z bytes) (hown : Own W B e v vs) (hy : Cells W y us) (hlen : vs.length + us.length < 1099511627776) (hB : B ≤ W.heap.size) (hu : ∀ u ∈ us, u.oneCell' = true)
    (hgd : o.guard = none) (ho : o.op = .call { callee := .builtin .append, args := #[s, x], argTypes := #[t, t] }) (hs : a.eval s = v) (hx : a.eval x = y)
    (h : ∀ v' w', Own w' B e v' (vs ++ us) → Grow W w' v v' → K (a.put o.dst v') w') :
    if Region.wanted o (yielded ops a.tmps) = true then Oper.wp P o a W K Q else E := by
  have hw : Region.wanted o (yielded ops a.tmps) = true := by simp [Region.wanted, hgd]
  rw [if_pos hw]
  obtain ⟨v', w', hrun, r1, r2⟩ := run_appN' T o.type hown hy hlen hB hu
  unfold Oper.wp execOp
  simp only [ho, resolve, invoke, builtin, Sem.run_bind, Sem.run_pure, Result.andThen_ok, List.map_toArray, List.map_cons, List.map_nil, hs, hx, hrun]
  exact h v' w' r1 r2

end Go.Proofs.Ytcbgopmonbgmgaa

set_option maxRecDepth 100000
set_option linter.unusedVariables false
set_option linter.unusedSimpArgs false
namespace Go.Proofs.Ytcbgopmonbgmgaa
open Go.RowKit

theorem s_l03Before (w : World) (v v' : Value) (a b : List Nat) (ha : Ints w v (up a)) (hb : Ints w v' (up b)) :
    Calls Try.prog 178 #[v, v'] w fun e w' => e = .returned (.bool (befN a b)) ∧ ∃ n, w' = w.drewN n := by
  have HA := Lib.hid ha
  have HB := Lib.hid hb
  obtain ⟨A, c, rfl, -, -, -⟩ := ha.open_
  obtain ⟨A', c', rfl, -, -, -⟩ := hb.open_
  rw [up_len] at HA ⊢
  rw [up_len] at HB ⊢
  clear ha hb
  by_cases h : a.length = b.length
  · have HE := Lib.hid (show befN a b = ltN b a by rw [befN, h, Nat.beq_refl]; rfl)
    rw [HE.out]
    have hd : ((a.length : Int) != (b.length : Int)) = false := by simp [h]
    clear h
    go_enter Try.func178, Try.ntmps178
    go_wp2_with (go_at_call 150; refine (s_l01Less _ _ _ (up b) (up a) HB.out HA.out).mono ?_; rintro e w1 ⟨rfl, n, rfl⟩; rw [lessL_up])
    go_ret
    exact ⟨rfl, _, rfl⟩
  · have HE := Lib.hid (show befN a b = decide ((a.length : Int) < (b.length : Int)) by
      have hb : Nat.beq a.length b.length = false := by
        cases hb : Nat.beq a.length b.length with
        | true => exact absurd (Nat.eq_of_beq_eq_true hb) h
        | false => rfl
      rw [befN, hb]
      simp only [cond_false]
      by_cases h2 : a.length < b.length
      · rw [(blt_iff _ _).2 h2]; exact (decide_eq_true (by omega)).symm
      · have : Nat.blt a.length b.length = false := by
          cases hh : Nat.blt a.length b.length with
          | true => exact absurd ((blt_iff _ _).1 hh) h2
          | false => rfl
        rw [this]; exact (decide_eq_false (by omega)).symm)
    rw [HE.out]
    have hd : ((a.length : Int) != (b.length : Int)) = true := by simp; omega
    clear h
    go_enter Try.func178, Try.ntmps178
    go_wp2_with fail
    all_goals (go_ret; exact ⟨ret_bool (by first | rfl | simp_all | (simp; omega)), 0, rfl⟩)

end Go.Proofs.Ytcbgopmonbgmgaa

set_option maxRecDepth 100000
set_option linter.unusedVariables false
set_option linter.unusedSimpArgs false
namespace Go.Proofs.Ytcbgopmonbgmgaa
open Go.RowKit

theorem pairApart_perm {vs vs' : List Value} (h : vs.Pairwise Apart) (hp : vs'.Perm vs) : vs'.Pairwise Apart := (hp.pairwise_iff fun h => h.symm).2 h
theorem pairApart_cons {vs : List Value} {u : Value} (h : vs.Pairwise Apart) (hu : ∀ x ∈ vs, Apart x u) : (u :: vs).Pairwise Apart := List.pairwise_cons.2 ⟨fun x hx => (hu x hx).symm, h⟩
theorem pairApart_snoc {vs : List Value} {u : Value} (h : vs.Pairwise Apart) (hu : ∀ x ∈ vs, Apart x u) : (vs ++ [u]).Pairwise Apart := pairApart_perm (pairApart_cons h hu) (List.perm_append_singleton u vs)
/-- a row that has just been made lies apart from rows that were there -/
theorem RR.fresh {w : World} {B M : Nat} {vs : List Value} {xss : List (List Int)} {u : Value} (h : RR w B vs xss) (hM : w.heap.size ≤ M) (hu : ∀ b, u.ownBlock = some b → M ≤ b) : ∀ x ∈ vs, Apart x u := by
  intro x hx
  obtain ⟨k, hk, rfl⟩ := List.getElem_of_mem hx
  have hz : xss[k]? = some (xss[k]'(by rw [← h.1]; exact hk)) := List.getElem?_eq_getElem _
  exact apart_of_lt (fun b hb => Nat.lt_of_lt_of_le ((h.2 k _ _ (List.getElem?_eq_getElem hk) hz).1.lt b hb) hM) hu

def LA (w : World) (B : Nat) (v : Value) (xss : List (List Int)) : Prop := ∃ vs, Own w B tL v vs ∧ RR w B vs xss ∧ vs.Pairwise Apart
section
variable {w w' : World} {B : Nat} {v : Value} {xss : List (List Int)}
theorem LA.ll (h : LA w B v xss) : LL w B v xss := by obtain ⟨vs, h1, h2, -⟩ := h; exact ⟨vs, h1, h2⟩
theorem LA.below (h : LA w B v xss) (hb : Below w.heap.size w w') : LA w' B v xss := by obtain ⟨vs, h1, h2, h3⟩ := h; exact ⟨vs, h1.below hb, h2.below hb, h3⟩
theorem LA.mono {B' : Nat} (h : LA w B v xss) (hB : B' ≤ B) : LA w B' v xss := by obtain ⟨vs, h1, h2, h3⟩ := h; exact ⟨vs, h1.mono hB, h2.mono hB, h3⟩
theorem LA.rows (h : LA w B v xss) : Rows w v xss := h.ll.rows
theorem LA.nil (w : World) (B : Nat) : LA w B (.slice none 0 0) [] := ⟨[], Own.nil _ _ _, RR.nil _ _, List.Pairwise.nil⟩
theorem LA.or (h : LA w B v xss) : OR w B w.heap.size tL tI v xss := by
  obtain ⟨vs, h1, h2, h3⟩ := h
  refine ⟨vs, h1, h1.lt, h2.1, fun k u zs hu hz => OI.of (h2.2 k u zs hu hz), fun i j u u' hij hu hu' => ?_⟩
  have hi := (List.getElem?_eq_some_iff.1 hu).1
  have hj := (List.getElem?_eq_some_iff.1 hu').1
  have := List.pairwise_iff_getElem.1 h3 i j hi hj hij
  rw [(List.getElem?_eq_some_iff.1 hu).2, (List.getElem?_eq_some_iff.1 hu').2] at this
  exact this
end
end Go.Proofs.Ytcbgopmonbgmgaa

set_option maxRecDepth 100000
set_option linter.unusedVariables false
set_option linter.unusedSimpArgs false
namespace Go.Proofs.Ytcbgopmonbgmgaa
open Go.RowKit

theorem ints_oneT (zs : List Int) : ∀ u ∈ ints zs, u.oneCell' = true := by
  intro u hu
  obtain ⟨z, _, rfl⟩ := List.mem_map.1 hu
  rfl
theorem s_l01OwnT (w : World) (v : Value) (zs : List Int) (ha : Ints w v zs) (hn : zs.length ≤ 4294967296) :
    Calls Try.prog 110 #[v] w fun e w' => ∃ r, e = .returned r ∧ OwnInts w' w.heap.size tI r zs ∧ Below w.heap.size w w' := by
  obtain ⟨A, c, rfl, l1, l2, h3⟩ := ha.open_
  have HA := Lib.hid ha
  clear h3 ha
  have OL := Lib.hid (own_lit w tI [] (by simp [maxLen]))
  have B1 := Lib.hid (below1 w (.cells #[] tI))
  go_enter Try.func110, Try.ntmps110
  go_wp2_with (at_builtin; refine wpList_appN T_int OL.out (HA.out.below B1.out).1 (by rw [ints_len]; simp; omega) B1.out.size (ints_oneT _) rfl (by rfl) (by rfl) (by rfl) ?_; intro v1 w2 hown1 hgr1)
  go_ret
  exact ⟨_, rfl, ⟨by simpa using hown1, HA.out.2⟩, hgr1.below B1.out (by simp) OL.out.ge⟩

end Go.Proofs.Ytcbgopmonbgmgaa

set_option linter.unusedVariables false
set_option linter.unusedSimpArgs false
set_option maxRecDepth 100000
namespace Go.Proofs.Ytcbgopmonbgmgaa

/-- one more than the last place below k with a level of more than 1; 0 if there is none -/
def pN (t : List Nat) : Nat → Nat
  | 0 => 0
  | k + 1 => bif Nat.ble (t.getD k 0) 1 then pN t k else k + 1
def fillF (t : List Nat) (d : Nat) : Nat → Nat → List Nat
  | 0, _ => t
  | m + 1, i => fillF (t.set i (t.getD (i - d) 0)) d m (i + 1)
/-- the next smaller list -/
def succT (t : List Nat) : Option (List Nat) := match pN t t.length with
  | 0 => none
  | p + 1 => some (fillF t (p - (parN t (t.getD p 0) p - 1)) (t.length - p) p)
def treesF : Nat → List Nat → List (List Nat)
  | 0, _ => []
  | f + 1, t => t :: match succT t with
    | none => []
    | some t' => treesF f t'
/-- all trees with n nodes, in order -/
def treesN (n : Nat) : List (List Nat) := treesF 200 (List.range n)

def okT (n : Nat) : Bool := Nat.ble (treesN n).length 115 && (treesN n).all fun t => Nat.beq t.length n && (lvl t && (match canO 9 t with | none => false | some r => eqN r t) &&
  match pN t t.length with
    | 0 => true
    | p + 1 => Nat.blt 0 (parN t (t.getD p 0) p))
theorem okT_8 : (List.range 8).all (fun n => okT (n + 1)) = true := by decide +kernel
theorem treesN_at {n : Nat} (h1 : 1 ≤ n) (h8 : n ≤ 8) : (treesN n).length ≤ 115 ∧ ∀ t ∈ treesN n, t.length = n ∧ lvl t = true ∧ canO 9 t = some t ∧ ∀ p, pN t t.length = p + 1 → 0 < parN t (t.getD p 0) p := by
  have h := okT_8
  rw [List.all_eq_true] at h
  have h2 := h (n - 1) (List.mem_range.2 (by omega))
  rw [show n - 1 + 1 = n by omega, okT] at h2
  simp only [Bool.and_eq_true, List.all_eq_true] at h2
  refine ⟨Nat.le_of_ble_eq_true h2.1, fun t ht => ?_⟩
  obtain ⟨a, ⟨b, c⟩, d⟩ := h2.2 t ht
  refine ⟨Nat.eq_of_beq_eq_true a, b, ?_, fun p hp => ?_⟩
  · cases hc : canO 9 t with
    | none => rw [hc] at c; cases c
    | some r => rw [hc] at c; rw [eqN_iff.1 c]
  · rw [hp] at d
    simpa using d
end Go.Proofs.Ytcbgopmonbgmgaa

set_option maxRecDepth 100000
set_option linter.unusedVariables false
set_option linter.unusedSimpArgs false
namespace Go.Proofs.Ytcbgopmonbgmgaa
open Go.RowKit

set_option maxHeartbeats 400000 in
theorem s_l01Same (w : World) (a b : Value) (xs ys : List Int) (ha : Ints w a xs) (hb : Ints w b ys) :
    Calls Try.prog 77 #[a, b] w fun e w' => e = .returned (.bool (decide (xs = ys))) ∧ ∃ n, w' = w.drewN n := by
  obtain ⟨A, c, rfl, h1, h2, h3⟩ := ha.open_
  obtain ⟨B, d, rfl, g1, g2, g3⟩ := hb.open_
  clear ha hb
  have H3 := Lib.hid h3
  have G3 := Lib.hid g3
  clear h3 g3
  by_cases hl : xs.length = ys.length
  · have hl' : (((xs.length : Nat) : Int) != ((ys.length : Nat) : Int)) = false := by simp [hl]
    have HL := Lib.hid hl
    clear hl
    have g4 : ys.length ≤ xs.length := by rw [HL.out]; omega
    have g5 : xs.length ≤ ys.length := by rw [HL.out]; omega
    go_enter Try.func77, Try.ntmps77
    go_wp2
    go_loopw [5] (fun i wr => ∃ k n : Nat, k ≤ xs.length ∧ i = .int .i64 k ∧ xs.take k = ys.take k ∧ wr = w.drewN n) (fun i _ => xs.length - (intOf i).toNat)
    case atStart => exact ⟨0, 0, Nat.zero_le _, rfl, rfl, rfl⟩
    case round =>
      obtain ⟨k, n, hk, rfl, ht, rfl⟩ := hrel
      have HT := Lib.hid ht
      clear ht
      by_cases hlt : k < xs.length
      · obtain ⟨ad, z, rfl, hz, hz2, hc⟩ := H3.out k hlt
        obtain ⟨ad', y, rfl, hy, hy2, hc'⟩ := G3.out k (by omega)
        have HZ := Lib.hid hz
        have HY := Lib.hid hy
        clear hz hy hz2 hy2
        go_wp2
        go_quiet (fail)
        go_wp2
        · have hne : (z != y) = true := by assumption
          go_ret
          refine ⟨ret_bool ?_, _, World.drewN_drewN _ _ _⟩
          symm
          simp only [decide_eq_false_iff_not]
          rintro rfl
          have := HZ.out.symm.trans HY.out
          simp at this hne
          exact hne this
        · have hne : (z != y) = false := by assumption
          go_roundw
          case rel => exact ⟨k + 1, _, by omega, by go_num, take_eq_succ HT.out HZ.out HY.out (by simpa using hne), rfl⟩
          case measure => simp [intOf]; omega
      · have : k = xs.length := by omega
        subst this
        go_wp2
        go_ret
        refine ⟨ret_bool ?_, _, rfl⟩
        have e := HT.out
        rw [List.take_length, List.take_of_length_le (by omega)] at e
        simp [e]
  · have hl' : (((xs.length : Nat) : Int) != ((ys.length : Nat) : Int)) = true := by simp; omega
    have HL := Lib.hid hl
    clear hl
    go_enter Try.func77, Try.ntmps77
    go_wp2
    go_ret
    refine ⟨ret_bool ?_, 0, rfl⟩
    have := HL.out
    symm
    simp only [decide_eq_false_iff_not]
    rintro rfl
    exact this rfl

set_option maxHeartbeats 400000 in
theorem lib_Equal (w : World) (a b : Value) (xs ys : List Int) (ha : Ints w a xs) (hb : Ints w b ys) :
    Calls Try.prog 126 #[a, b] w fun e w' => e = .returned (.bool (decide (xs = ys))) ∧ ∃ n, w' = w.drewN n := by
  obtain ⟨A, c, rfl, h1, h2, h3⟩ := ha.open_
  obtain ⟨B, d, rfl, g1, g2, g3⟩ := hb.open_
  clear ha hb
  have H3 := Lib.hid h3
  have G3 := Lib.hid g3
  clear h3 g3
  by_cases hl : xs.length = ys.length
  · have hl' : (((xs.length : Nat) : Int) != ((ys.length : Nat) : Int)) = false := by simp [hl]
    have HL := Lib.hid hl
    clear hl
    have g4 : ys.length ≤ xs.length := by rw [HL.out]; omega
    have g5 : xs.length ≤ ys.length := by rw [HL.out]; omega
    go_enter Try.func126, Try.ntmps126
    go_wp2
    go_loopw [13] (fun i wr => ∃ k n : Nat, k ≤ xs.length ∧ i = .int .i64 k ∧ xs.take k = ys.take k ∧ wr = w.drewN n) (fun i _ => xs.length - (intOf i).toNat)
    case atStart => exact ⟨0, 0, Nat.zero_le _, rfl, rfl, rfl⟩
    case round =>
      obtain ⟨k, n, hk, rfl, ht, rfl⟩ := hrel
      have HT := Lib.hid ht
      clear ht
      by_cases hlt : k < xs.length
      · obtain ⟨ad, z, rfl, hz, hz2, hc⟩ := H3.out k hlt
        obtain ⟨ad', y, rfl, hy, hy2, hc'⟩ := G3.out k (by omega)
        have HZ := Lib.hid hz
        have HY := Lib.hid hy
        clear hz hy hz2 hy2
        go_wp2
        go_quiet (fail)
        go_wp2
        · have hne : (z != y) = true := by assumption
          go_ret
          refine ⟨ret_bool ?_, _, World.drewN_drewN _ _ _⟩
          symm
          simp only [decide_eq_false_iff_not]
          rintro rfl
          have := HZ.out.symm.trans HY.out
          simp at this hne
          exact hne this
        · have hne : (z != y) = false := by assumption
          go_roundw
          case rel => exact ⟨k + 1, _, by omega, by go_num, take_eq_succ HT.out HZ.out HY.out (by simpa using hne), rfl⟩
          case measure => simp [intOf]; omega
      · have : k = xs.length := by omega
        subst this
        go_wp2
        go_ret
        refine ⟨ret_bool ?_, _, rfl⟩
        have e := HT.out
        rw [List.take_length, List.take_of_length_le (by omega)] at e
        simp [e]
  · have hl' : (((xs.length : Nat) : Int) != ((ys.length : Nat) : Int)) = true := by simp; omega
    have HL := Lib.hid hl
    clear hl
    go_enter Try.func126, Try.ntmps126
    go_wp2
    go_ret
    refine ⟨ret_bool ?_, 0, rfl⟩
    have := HL.out
    symm
    simp only [decide_eq_false_iff_not]
    rintro rfl
    exact this rfl

end Go.Proofs.Ytcbgopmonbgmgaa

