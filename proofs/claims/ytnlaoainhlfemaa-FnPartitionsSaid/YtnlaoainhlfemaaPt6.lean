/- Words: lists of structs that are stored into; equal ones in a list in order gathered with their numbers. No program in sight. | Plain: lists with equal ones once and with their numbers: the numbers add up, each element lies there. No walk. | Plain: sorting by insertion with numbers of equal ones gives what sorting and then putting equal ones together gives. No walk. | slices.SortFunc at lists of numbers: laid. | slices.SortFunc with 'slices.Compare(b, a)', at lists of one's own: the lists in descending order. | Walks: slices.Clone at numbers; the columns of both. | Walks: compareTrees, forestOf of the program: lists of trees in their order. -/
import Derived.Test.YtnlaoainhlfemaaPt5
import Derived.Shelf.SlSortCmp.Whole1
import Derived.Shelf.SlSortCmp.NoneTotal
import Derived.Shelf.SlGeneric
import Derived.Ground.SlsfProg
import Derived.Test.YtnlaoainhlfemaaPt2
import Derived.WalkSpells
import Derived.Deep.RegionLaw
import Derived.Test.YtnlaoainhlfemaaPt3
set_option maxRecDepth 100000
set_option linter.unusedVariables false
set_option linter.unusedSimpArgs false
namespace Go.Proofs.Ytnlaoainhlfemaa
open Go.RowKit

theorem keepCellG {w w' : World} {ad : Addr} {v : Value} (hb : Below w.heap.size w w') (h : w.cell? ad = some v) : w'.cell? ad = some v := by rw [hb.cell (World.block_lt_of_cell? w _ h)]; exact h
theorem below_growE (w : World) (os : Array Obj) : Below w.heap.size w (Go.Sort.grow w os) := ⟨rfl, rfl, rfl, by simp [Go.Sort.grow], fun k hk => Go.Sort.heap_grow_old _ _ hk⟩
/-- equal ones once, with their numbers: one more -/
def grpS {α : Type} (cmp : α → α → Int) (out : List (α × Nat)) (s : α) : List (α × Nat) := match out.getLast? with
  | none => [(s, 1)]
  | some (r, n) => if cmp r s = 0 then out.set (out.length - 1) (r, n + 1) else out ++ [(s, 1)]
def grpL {α : Type} (cmp : α → α → Int) (l : List α) : List (α × Nat) := l.foldl (grpS cmp) []
theorem grpL_snoc {α : Type} (cmp : α → α → Int) (l : List α) (s : α) : grpL cmp (l ++ [s]) = grpS cmp (grpL cmp l) s := by simp [grpL]
theorem grpS_last {α : Type} {cmp : α → α → Int} {out : List (α × Nat)} {s r : α} {n m : Nat} (h : out.length = m + 1) (hr : out[m]? = some (r, n)) : grpS cmp out s = if cmp r s = 0 then out.set m (r, n + 1) else out ++ [(s, 1)] := by
  unfold grpS
  rw [List.getLast?_eq_getElem?, h, Nat.add_sub_cancel, hr]
/-- is the last one equal? -/
def lastEq {α : Type} (cmp : α → α → Int) (L : List (α × Nat)) (y : α) : Bool := match L.getLast? with
  | none => false
  | some (r, _) => decide (cmp r y = 0)
theorem grp_false {α : Type} {cmp : α → α → Int} {L : List (α × Nat)} {y : α} (h : lastEq cmp L y = false) : grpS cmp L y = L ++ [(y, 1)] := by
  unfold grpS
  unfold lastEq at h
  cases hl : L.getLast? with
  | none => rw [List.getLast?_eq_none_iff.1 hl]; rfl
  | some x =>
    obtain ⟨r, n⟩ := x
    rw [hl] at h
    simp only at h ⊢
    rw [if_neg (of_decide_eq_false h)]
theorem grp_true {α : Type} {cmp : α → α → Int} {L : List (α × Nat)} {y : α} (h : lastEq cmp L y = true) : ∃ m r n, L.length = m + 1 ∧ L[m]? = some (r, n) ∧ grpS cmp L y = L.set m (r, n + 1) := by
  unfold lastEq at h
  cases hl : L.getLast? with
  | none => rw [hl] at h; cases h
  | some x =>
    obtain ⟨r, n⟩ := x
    rw [hl] at h
    have hne : L ≠ [] := fun e => by rw [e] at hl; cases hl
    have hpos : 0 < L.length := List.length_pos_iff.2 hne
    refine ⟨L.length - 1, r, n, by omega, by rw [← List.getLast?_eq_getElem?]; exact hl, ?_⟩
    unfold grpS
    rw [hl]
    simp only
    rw [if_pos (of_decide_eq_true h)]
theorem grpS_len {α : Type} (cmp : α → α → Int) (out : List (α × Nat)) (s : α) : (grpS cmp out s).length ≤ out.length + 1 := by
  unfold grpS
  split
  · simp
  · split <;> simp
theorem grpL_len {α : Type} (cmp : α → α → Int) (l : List α) : ∀ k, k ≤ l.length → (grpL cmp (l.take k)).length ≤ k ∧ ∀ x ∈ grpL cmp (l.take k), x.2 ≤ k := by
  intro k
  induction k with
  | zero => intro _; simp [grpL]
  | succ k ih =>
    intro hk
    have ih := ih (by omega)
    rw [List.take_add_one, List.getElem?_eq_getElem (by omega)]
    show (grpL cmp (l.take k ++ [l[k]])).length ≤ k + 1 ∧ ∀ x ∈ grpL cmp (l.take k ++ [l[k]]), x.2 ≤ k + 1
    rw [grpL_snoc]
    refine ⟨by have := grpS_len cmp (grpL cmp (l.take k)) l[k]; omega, fun x hx => ?_⟩
    unfold grpS at hx
    split at hx
    · simp at hx; subst hx; simp
    · rename_i r n hl
      have hn := ih.2 _ (List.mem_of_getLast? hl)
      split at hx
      · rcases List.mem_or_eq_of_mem_set hx with hx | hx
        · have := ih.2 x hx; omega
        · subst hx; simp at hn ⊢; omega
      · rcases List.mem_append.1 hx with hx | hx
        · have := ih.2 x hx; omega
        · simp at hx; subst hx; simp
end Go.Proofs.Ytnlaoainhlfemaa

set_option linter.unusedVariables false
set_option linter.unusedSimpArgs false
namespace Go.Proofs.Ytnlaoainhlfemaa

def cntS {α : Type} : List (α × Nat) → Nat
  | [] => 0
  | x :: xs => x.2 + cntS xs
theorem cntS_append {α : Type} (a b : List (α × Nat)) : cntS (a ++ b) = cntS a + cntS b := by
  induction a with
  | nil => simp [cntS]
  | cons x a ih => simp only [List.cons_append, cntS, ih]; omega
theorem list_last {α : Type} {L : List α} {m : Nat} {x : α} (h : L.length = m + 1) (hx : L[m]? = some x) : ∃ K, L = K ++ [x] ∧ K.length = m := by
  refine ⟨L.take m, ?_, by rw [List.length_take]; omega⟩
  have e := List.take_append_drop m L
  have hm : m < L.length := by omega
  have d : L.drop m = [x] := by
    rw [List.drop_eq_getElem_cons hm, List.drop_eq_nil_of_le (by omega)]
    rw [List.getElem?_eq_getElem hm] at hx
    injection hx with hx
    rw [hx]
  rw [← d, e]
theorem grpS_cases {α : Type} (cmp : α → α → Int) (L : List (α × Nat)) (y : α) : (grpS cmp L y = L ++ [(y, 1)]) ∨ ∃ K r n, L = K ++ [(r, n)] ∧ cmp r y = 0 ∧ grpS cmp L y = K ++ [(r, n + 1)] := by
  cases h : lastEq cmp L y with
  | false => exact .inl (grp_false h)
  | true =>
    obtain ⟨m, r, n, h1, h2, h3⟩ := grp_true h
    obtain ⟨K, e, hk⟩ := list_last h1 h2
    refine .inr ⟨K, r, n, e, ?_, ?_⟩
    · unfold lastEq at h
      rw [e, List.getLast?_concat] at h
      simpa using h
    · rw [h3, e]
      rw [List.set_append_right _ _ (by omega), ← hk, Nat.sub_self]
      rfl
theorem grpF_cnt {α : Type} (cmp : α → α → Int) : ∀ (l : List α) (L : List (α × Nat)), cntS (l.foldl (grpS cmp) L) = cntS L + l.length
  | [], L => rfl
  | y :: l, L => by
    rw [List.foldl_cons, grpF_cnt cmp l]
    have : cntS (grpS cmp L y) = cntS L + 1 := by
      rcases grpS_cases cmp L y with e | ⟨K, r, n, e1, -, e2⟩
      · rw [e, cntS_append]; rfl
      · rw [e2, e1, cntS_append, cntS_append]
        show cntS K + (n + 1 + 0) = cntS K + (n + 0) + 1
        omega
    rw [this, List.length_cons]
    omega
/-- the numbers add up -/
theorem grpL_cnt {α : Type} (cmp : α → α → Int) (l : List α) : cntS (grpL cmp l) = l.length := by
  unfold grpL
  rw [grpF_cnt]
  show 0 + _ = _
  omega
theorem grpF_mem {α : Type} (cmp : α → α → Int) (P : α → Prop) : ∀ (l : List α) (L : List (α × Nat)), (∀ y ∈ l, P y) → (∀ x ∈ L, P x.1) → ∀ x ∈ l.foldl (grpS cmp) L, P x.1
  | [], L, _, h => h
  | y :: l, L, hl, h => by
    rw [List.foldl_cons]
    refine grpF_mem cmp P l _ (fun z hz => hl z (List.mem_cons_of_mem _ hz)) fun x hx => ?_
    rcases grpS_cases cmp L y with e | ⟨K, r, n, e1, -, e2⟩
    · rw [e] at hx
      rcases List.mem_append.1 hx with hx | hx
      · exact h x hx
      · rw [List.mem_singleton] at hx
        rw [hx]
        exact hl y (List.mem_cons_self)
    · rw [e2] at hx
      rcases List.mem_append.1 hx with hx | hx
      · exact h x (by rw [e1]; exact List.mem_append_left _ hx)
      · rw [List.mem_singleton] at hx
        rw [hx]
        exact h (r, n) (by rw [e1]; simp)
/-- each entry is one of the list -/
theorem grpL_mem {α : Type} (cmp : α → α → Int) (P : α → Prop) {l : List α} (h : ∀ y ∈ l, P y) : ∀ x ∈ grpL cmp l, P x.1 := grpF_mem cmp P l [] h fun x hx => by cases hx
theorem grpF_all {α : Type} {cmp : α → α → Int} (hc : ∀ a b, cmp a b = 0 → a = b) : ∀ (l : List α) (L : List (α × Nat)), (∀ y, (y ∈ l ∨ ∃ x ∈ L, x.1 = y) → ∃ x ∈ l.foldl (grpS cmp) L, x.1 = y)
  | [], L, y, h => by
    rcases h with h | h
    · cases h
    · exact h
  | z :: l, L, y, h => by
    rw [List.foldl_cons]
    have keep : ∀ y, (y = z ∨ ∃ x ∈ L, x.1 = y) → ∃ x ∈ grpS cmp L z, x.1 = y := fun y hy => by
      rcases grpS_cases cmp L z with e | ⟨K, r, n, e1, e0, e2⟩
      · rw [e]
        rcases hy with hy | ⟨x, hx, hxy⟩
        · exact ⟨(z, 1), by simp, hy.symm⟩
        · exact ⟨x, List.mem_append_left _ hx, hxy⟩
      · rw [e2]
        rcases hy with hy | ⟨x, hx, hxy⟩
        · exact ⟨(r, n + 1), by simp, by rw [hy]; exact hc _ _ e0⟩
        · rw [e1] at hx
          rcases List.mem_append.1 hx with hx | hx
          · exact ⟨x, List.mem_append_left _ hx, hxy⟩
          · rw [List.mem_singleton] at hx
            exact ⟨(r, n + 1), by simp, by rw [← hxy, hx]⟩
    refine grpF_all hc l _ y ?_
    rcases h with h | h
    · rcases List.mem_cons.1 h with h | h
      · exact .inr (keep y (.inl h))
      · exact .inl h
    · exact .inr (keep y (.inr h))
/-- each one of the list is an entry -/
theorem grpL_all {α : Type} {cmp : α → α → Int} (hc : ∀ a b, cmp a b = 0 → a = b) {l : List α} {y : α} (h : y ∈ l) : ∃ x ∈ grpL cmp l, x.1 = y := grpF_all hc l [] y (.inl h)
end Go.Proofs.Ytnlaoainhlfemaa

set_option linter.unusedVariables false
set_option linter.unusedSimpArgs false
namespace Go.Proofs.Ytnlaoainhlfemaa

/-- one more, put into its place -/
def ins1 {α : Type} (lt : α → α → Bool) (p : α) : List (α × Nat) → List (α × Nat)
  | [] => [(p, 1)]
  | x :: xs => bif lt x.1 p then x :: ins1 lt p xs else bif lt p x.1 then (p, 1) :: x :: xs else (x.1, x.2 + 1) :: xs
def insF {α : Type} (lt : α → α → Bool) (G : List (α × Nat)) : List α → List (α × Nat)
  | [] => G
  | p :: ps => insF lt (ins1 lt p G) ps
def xpd {α : Type} : List (α × Nat) → List α
  | [] => []
  | x :: xs => List.replicate x.2 x.1 ++ xpd xs
section
variable {α : Type} {lt : α → α → Bool}
/-- strictly ascending, with numbers above 0 -/
structure AscG (lt : α → α → Bool) (G : List (α × Nat)) : Prop where
  asc : G.Pairwise fun x y => lt x.1 y.1 = true
  pos : ∀ x ∈ G, 0 < x.2
theorem ins1_mem (p : α) : ∀ {G : List (α × Nat)} {x : α × Nat}, x ∈ ins1 lt p G → x.1 = p ∨ ∃ y ∈ G, y.1 = x.1
  | [], x, h => by
    unfold ins1 at h
    rw [List.mem_singleton] at h
    exact .inl (by rw [h])
  | y :: G, x, h => by
    unfold ins1 at h
    cases h1 : lt y.1 p with
    | true =>
      rw [h1, cond_true] at h
      rcases List.mem_cons.1 h with rfl | h
      · exact .inr ⟨x, List.mem_cons_self, rfl⟩
      · rcases ins1_mem p h with h | ⟨z, hz, e⟩
        · exact .inl h
        · exact .inr ⟨z, List.mem_cons_of_mem _ hz, e⟩
    | false =>
      rw [h1, cond_false] at h
      cases h2 : lt p y.1 with
      | true =>
        rw [h2, cond_true] at h
        rcases List.mem_cons.1 h with rfl | h
        · exact .inl rfl
        · exact .inr ⟨x, h, rfl⟩
      | false =>
        rw [h2, cond_false] at h
        rcases List.mem_cons.1 h with rfl | h
        · exact .inr ⟨y, List.mem_cons_self, rfl⟩
        · exact .inr ⟨x, List.mem_cons_of_mem _ h, rfl⟩
theorem ins1_asc (h : STO lt) (p : α) : ∀ {G : List (α × Nat)}, AscG lt G → AscG lt (ins1 lt p G)
  | [], _ => by
    refine ⟨?_, ?_⟩
    · exact List.pairwise_singleton _ _
    · intro x hx
      unfold ins1 at hx
      rw [List.mem_singleton] at hx
      rw [hx]; exact Nat.one_pos
  | y :: G, hG => by
    obtain ⟨a1, a2⟩ := List.pairwise_cons.1 hG.asc
    have hG' : AscG lt G := ⟨a2, fun x hx => hG.pos x (List.mem_cons_of_mem _ hx)⟩
    have ih := ins1_asc h p hG'
    unfold ins1
    cases h1 : lt y.1 p with
    | true =>
      rw [cond_true]
      refine ⟨List.pairwise_cons.2 ⟨fun x hx => ?_, ih.asc⟩, fun x hx => ?_⟩
      · rcases ins1_mem p hx with e | ⟨z, hz, e⟩
        · rw [e]; exact h1
        · rw [← e]; exact a1 z hz
      · rcases List.mem_cons.1 hx with rfl | hx
        · exact hG.pos _ List.mem_cons_self
        · exact ih.pos x hx
    | false =>
      rw [cond_false]
      cases h2 : lt p y.1 with
      | true =>
        rw [cond_true]
        refine ⟨List.pairwise_cons.2 ⟨fun x hx => ?_, hG.asc⟩, fun x hx => ?_⟩
        · rcases List.mem_cons.1 hx with rfl | hx
          · exact h2
          · exact h.trans h2 (a1 x hx)
        · rcases List.mem_cons.1 hx with rfl | hx
          · exact Nat.one_pos
          · exact hG.pos x hx
      | false =>
        rw [cond_false]
        refine ⟨List.pairwise_cons.2 ⟨fun x hx => a1 x hx, a2⟩, fun x hx => ?_⟩
        rcases List.mem_cons.1 hx with rfl | hx
        · exact Nat.succ_pos _
        · exact hG'.pos x hx
theorem ins1_xpd (h : STO lt) (p : α) : ∀ G : List (α × Nat), (xpd (ins1 lt p G)).Perm (p :: xpd G)
  | [] => by
    show (List.replicate 1 p ++ []).Perm [p]
    exact .refl _
  | y :: G => by
    unfold ins1
    cases h1 : lt y.1 p with
    | true =>
      rw [cond_true]
      show (List.replicate y.2 y.1 ++ xpd (ins1 lt p G)).Perm (p :: (List.replicate y.2 y.1 ++ xpd G))
      exact ((ins1_xpd h p G).append_left _).trans List.perm_middle
    | false =>
      rw [cond_false]
      cases h2 : lt p y.1 with
      | true => rw [cond_true]; exact .refl _
      | false =>
        rw [cond_false]
        have e : p = y.1 := h.tri h2 h1
        show (List.replicate (y.2 + 1) y.1 ++ xpd G).Perm (p :: (List.replicate y.2 y.1 ++ xpd G))
        rw [List.replicate_succ, e]
        exact .refl _
theorem insF_ok (h : STO lt) : ∀ (ps : List α) {G : List (α × Nat)}, AscG lt G → AscG lt (insF lt G ps) ∧ (xpd (insF lt G ps)).Perm (ps ++ xpd G)
  | [], G, hG => ⟨hG, .refl _⟩
  | p :: ps, G, hG => by
    obtain ⟨a, b⟩ := insF_ok h ps (ins1_asc h p hG)
    refine ⟨a, b.trans ?_⟩
    refine ((ins1_xpd h p G).append_left ps).trans ?_
    exact List.perm_middle
theorem xpd_mem : ∀ {G : List (α × Nat)} {z : α}, z ∈ xpd G → ∃ x ∈ G, x.1 = z
  | [], z, h => by cases h
  | x :: G, z, h => by
    rcases List.mem_append.1 h with h | h
    · exact ⟨x, List.mem_cons_self, (List.mem_replicate.1 h).2.symm⟩
    · obtain ⟨y, hy, e⟩ := xpd_mem h
      exact ⟨y, List.mem_cons_of_mem _ hy, e⟩
theorem xpd_asc (h : STO lt) : ∀ {G : List (α × Nat)}, AscG lt G → AscS lt (xpd G)
  | [], _ => List.Pairwise.nil
  | x :: G, hG => by
    obtain ⟨a1, a2⟩ := List.pairwise_cons.1 hG.asc
    refine List.pairwise_append.2 ⟨?_, xpd_asc h ⟨a2, fun y hy => hG.pos y (List.mem_cons_of_mem _ hy)⟩, fun a ha b hb => ?_⟩
    · refine List.pairwise_replicate.2 (.inr ?_)
      cases hb : lt x.1 x.1 with
      | false => rfl
      | true => have := h.asymm hb; rw [hb] at this; cases this
    · obtain ⟨y, hy, e⟩ := xpd_mem hb
      rw [(List.mem_replicate.1 ha).2, ← e]
      exact h.asymm (a1 y hy)
theorem grp_rep {cmp : α → α → Int} (hc : ∀ a, cmp a a = 0) (K : List (α × Nat)) (r : α) : ∀ (n m : Nat), (List.replicate n r).foldl (grpS cmp) (K ++ [(r, m)]) = K ++ [(r, m + n)]
  | 0, m => rfl
  | n + 1, m => by
    rw [List.replicate_succ, List.foldl_cons]
    have e : grpS cmp (K ++ [(r, m)]) r = K ++ [(r, m + 1)] := by
      rw [grpS_last (m := K.length) (r := r) (n := m) (by simp) (by simp), if_pos (hc r)]
      rw [List.set_append_right _ _ (Nat.le_refl _), Nat.sub_self]
      rfl
    rw [e, grp_rep hc K r n (m + 1), show m + 1 + n = m + (n + 1) by omega]
/-- putting equal ones of an expanded list together -/
theorem grpF_xpd {cmp : α → α → Int} (h : STO lt) (hc : ∀ a b, cmp a b = 0 ↔ a = b) : ∀ (G K : List (α × Nat)), AscG lt (K ++ G) → (xpd G).foldl (grpS cmp) K = K ++ G
  | [], K, _ => by rw [List.append_nil]; rfl
  | x :: G, K, hG => by
    obtain ⟨r, n⟩ := x
    show (List.replicate n r ++ xpd G).foldl (grpS cmp) K = _
    have hn : 0 < n := hG.pos (r, n) (by simp)
    obtain ⟨n', rfl⟩ : ∃ k, n = k + 1 := ⟨n - 1, by omega⟩
    have e1 : grpS cmp K r = K ++ [(r, 1)] := by
      rcases grpS_cases cmp K r with e | ⟨K', q, m, e, e0, -⟩
      · exact e
      · exfalso
        have hq := (hc _ _).1 e0
        have hp := (List.pairwise_append.1 hG.asc).2.2 (q, m) (by rw [e]; simp) (r, n' + 1) (by simp)
        simp only at hp
        rw [hq] at hp
        have := h.asymm hp
        rw [hp] at this; cases this
    rw [List.foldl_append, List.replicate_succ, List.foldl_cons, e1, grp_rep (fun a => (hc a a).2 rfl) K r n' 1, grpF_xpd h hc G (K ++ [(r, 1 + n')]) (by
      rw [List.append_assoc, Nat.add_comm 1 n']
      exact hG), List.append_assoc, Nat.add_comm 1 n']
    rfl
/-- the reference's list and the program's -/
theorem insF_grp {cmp : α → α → Int} (h : STO lt) (hc : ∀ a b, cmp a b = 0 ↔ a = b) (ps : List α) : insF lt [] ps = grpL cmp (srtS lt ps) := by
  obtain ⟨a, b⟩ := insF_ok h ps (G := []) ⟨List.Pairwise.nil, fun x hx => by cases hx⟩
  have e : xpd (insF lt [] ps) = srtS lt ps := srtS_unique h (by
    have : xpd ([] : List (α × Nat)) = [] := rfl
    rw [this, List.append_nil] at b
    exact b) (xpd_asc h a)
  rw [← e]
  exact (grpF_xpd h hc _ [] a).symm
end
end Go.Proofs.Ytnlaoainhlfemaa

set_option maxRecDepth 100000
namespace Go.Proofs
open Go.Shelf Go.RowKit Go.Lib Go.Sort
shelf_lay_g SlLaysF.n6 Slsf 6 at Try 123 as Try.lsort
end Go.Proofs

set_option maxRecDepth 100000
set_option linter.unusedVariables false
set_option linter.unusedSimpArgs false
namespace Go.Proofs.Ytnlaoainhlfemaa
open Go.RowKit Go.Sort Go.Shelf

theorem i_canonDesc (w : World) (v v' : Value) (a b : List Int) (ha : Ints w v a) (hb : Ints w v' b) :
    Calls Try.prog 124 #[v, v'] w fun e w' => e = .returned (.int .i64 (cmpL b a)) ∧ w = w' := by
  have HA := Lib.hid ha
  have HB := Lib.hid hb
  obtain ⟨A, c, rfl, -, -, -⟩ := ha.open_
  obtain ⟨A', c', rfl, -, -, -⟩ := hb.open_
  clear ha hb
  go_enter Try.func124, Try.ntmps124
  go_wp2_with (go_at_call 125; refine (lib_Compare _ _ _ b a HB.out HA.out).mono ?_; rintro e w1 ⟨rfl, rfl⟩)
  go_ret
  exact ⟨rfl, rfl⟩

/-- a list of numbers of one's own, with what it holds -/
abbrev Row1s (w : World) (B : Nat) := {p : Value × List Nat // OwnInts w B tI p.1 (up p.2)}
instance (w : World) (B : Nat) : Inhabited (Row1s w B) := ⟨⟨(.slice none 0 0, []), OwnInts.nil _ _ _⟩⟩

theorem mkRows {w : World} {B : Nat} : ∀ {vs : List Value} {bs : List (List Nat)}, RR w B vs (bs.map up) → ∃ d : List (Row1s w B), d.map (fun x => x.1.1) = vs ∧ d.map (fun x => x.1.2) = bs
  | [], [], _ => ⟨[], rfl, rfl⟩
  | [], _ :: _, h => by have := h.1; simp at this
  | _ :: _, [], h => by have := h.1; simp at this
  | v :: vs, b :: bs, h => by
    obtain ⟨d, h1, h2⟩ := mkRows (vs := vs) (bs := bs) ⟨by have := h.1; simpa using this, fun k u zs hu hz => h.2 (k + 1) u zs (by simpa using hu) (by simpa using hz)⟩
    exact ⟨⟨(v, b), h.2 0 v (up b) (by simp) (by simp)⟩ :: d, by simp [h1], by simp [h2]⟩

theorem rowCmp {w : World} {B : Nat} (x y : Row1s w B) : ltOf (fun (x y : Row1s w B) => cmpL (up y.1.2) (up x.1.2)) x y = ltN y.1.2 x.1.2 := cmpL_up _ _
theorem rowSwo (w : World) (B : Nat) : SWO (ltOf fun (x y : Row1s w B) => cmpL (up y.1.2) (up x.1.2)) where
  irrefl x := by rw [rowCmp]; exact ltN_irrefl _
  trans x y z h1 h2 := by rw [rowCmp] at *; exact ltN_trans h2 h1
  ntrans x y z h1 h2 := by rw [rowCmp] at *; exact ltN_ntrans h2 h1

theorem lib_SortDesc (w : World) (B cap : Nat) (A : Option Addr) (vs : List Value) (bs : List (List Nat)) (h : Own w B tL (.slice A vs.length cap) vs) (hr : RR w B vs (bs.map up)) (hn : vs.length ≤ 1000) :
    Calls Try.prog 123 #[.slice A vs.length cap, .func (.func 124) #[] #[]] w fun e w' => e = .returned (.tuple #[]) ∧
      ∃ vs', vs'.length = vs.length ∧ Own w' B tL (.slice A vs.length cap) vs' ∧ RR w' B vs' ((srtD bs).map up) ∧ w.grownBy w' (Value.ownBlock (.slice A vs.length cap)) := by
  rcases h.cases with ⟨he, rfl⟩ | ⟨g, cap', cur, he, hBg, hgs, -⟩
  · simp only [Value.slice.injEq] at he
    obtain ⟨rfl, -, rfl⟩ := he
    have hb : bs = [] := by have h0 := hr.1; rw [List.length_map] at h0; exact List.eq_nil_of_length_eq_zero h0.symm
    subst hb
    refine (AnyF.slices_SortFunc_none { Try.lsort with } none 0 _ w).mono ?_
    rintro e w' ⟨rfl, rfl⟩
    exact ⟨rfl, [], rfl, h, hr, World.grownBy.refl _ _⟩
  · simp only [Value.slice.injEq] at he
    obtain ⟨rfl, -, rfl⟩ := he
    obtain ⟨d, hd1, hd2⟩ := mkRows hr
    have hdl : d.length = vs.length := by rw [← hd1, List.length_map]
    have ho : Own w B tL (.slice (some ⟨g, 0, none⟩) d.length cap) (d.map fun x => x.1.1) := by rw [hd1, hdl]; exact h
    have hone : OneCell (fun x : Row1s w B => x.1.1) := fun x => (RR.one x.2).oneCell _ (by simp)
    have eg : ∀ args w, (callFunc 124 args).run Try.prog w = .ok (.enter 124 args) w := enters_of Try.func124 (by kernel_rfl) rfl
    have hkeep : ∀ (x : Row1s w B) (m : Nat) (dk : Array (Row1s w B)) (os : Array Obj), OwnInts (sortWorld (fun x : Row1s w B => x.1.1) w g 0 m dk os) B tI x.1.1 (up x.1.2) := fun x m dk os =>
      x.2.kept (v' := .slice (some ⟨g, 0, none⟩) vs.length cap) (grownBy_srt dk) (x.2.1.ne_of_type h (by decide))
    have hcmp : CmpReads Try.prog 124 #[] (fun x : Row1s w B => x.1.1) (fun x y => cmpL (up y.1.2) (up x.1.2)) g 0 d.toArray.size w := fun m os dk _ x y =>
      (i_canonDesc _ _ _ _ _ (hkeep x m dk os).ints (hkeep y m dk os).ints).mono fun e w' ⟨he, hw⟩ => ⟨he, 0, hw.symm⟩
    have hcon := Any.slices_SortFunc Try.lsort (fun x : Row1s w B => x.1.1) hone _ (rowSwo w B) 124 #[] g 0 cap d.toArray w eg hcmp.lays (holds_own ho) hgs (by simp; omega)
    rw [List.size_toArray, hdl] at hcon
    refine hcon.mono ?_
    rintro e w' ⟨rfl, d', n, os, hp, hs, rfl⟩
    have hsz : d'.size = vs.length := by have := hp.1; simp at this; omega
    have hperm : d'.toList.Perm d := by
      have h3 := hp.2.2
      rw [← hsz] at h3
      simp only [Array.extract_size] at h3
      have e : (d.toArray.extract 0 d'.size).toList = d := by
        rw [show d'.size = d.toArray.size by simp; omega, Array.extract_size]
      rw [e] at h3
      exact h3
    have hdesc : Desc (d'.toList.map fun x => x.1.2) := by
      rw [Desc, List.pairwise_iff_getElem]
      intro i j hi hj hij
      simp at hi hj
      have h4 := hs i j (Nat.zero_le _) hij (by omega)
      rw [rowCmp, getElem!_pos d' i (by omega), getElem!_pos d' j (by omega)] at h4
      simpa using h4
    have hL : (d'.toList.map fun x => x.1.2) = srtD bs := srtD_unique (by rw [← hd2]; exact hperm.map _) hdesc
    have hl : d'.toList.length = d.length := by simp; omega
    have hfin := own_srt (n := n) (os := os) ho hl
    simp only [Array.toArray_toList] at hfin
    rw [hdl] at hfin
    refine ⟨rfl, d'.toList.map (fun x => x.1.1), by simp; omega, hfin, ⟨by rw [← hL]; simp, fun k u zs hu hz => ?_⟩, grownBy_srt d'⟩
    rw [← hL, List.map_map, List.getElem?_map] at hz
    rw [List.getElem?_map] at hu
    cases hx : d'.toList[k]? with
    | none => rw [hx] at hu; cases hu
    | some x =>
      rw [hx] at hu hz
      simp only [Option.map_some, Option.some.injEq, Function.comp] at hu hz
      subst hu; subst hz
      exact hkeep x _ _ _
end Go.Proofs.Ytnlaoainhlfemaa

set_option maxRecDepth 100000
set_option linter.unusedVariables false
set_option linter.unusedSimpArgs false
namespace Go.Proofs.Ytnlaoainhlfemaa
open Go.RowKit

theorem ints_oneV (zs : List Int) : ∀ u ∈ ints zs, u.oneCell' = true := by
  intro u hu
  obtain ⟨z, _, rfl⟩ := List.mem_map.1 hu
  rfl

set_option maxHeartbeats 1000000 in
theorem lib_Clone (w : World) (v : Value) (zs : List Int) (ha : Ints w v zs) (hn : zs.length ≤ 4294967296) :
    Calls Try.prog 168 #[v] w fun e w' => ∃ r, e = .returned r ∧ OwnInts w' w.heap.size tI r zs ∧ Below w.heap.size w w' := by
  obtain ⟨A, c, rfl, l1, l2, h3⟩ := ha.open_
  have HA := Lib.hid ha
  clear h3 ha
  have OL := Lib.hid (own_lit w tI [] (by simp [maxLen]))
  have B1 := Lib.hid (below1 w (.cells #[] tI))
  have en := fun (W : World) (a : Option Addr) (n c : Nat) => Lib.run_eql_slice_nil (P := Try.prog) W 25 2 a n c 0 0 Try.underlying25
  go_enter Try.func168, Try.ntmps168
  cases A with
  | none =>
    have HZ := Lib.hid (show zs = [] by
      obtain ⟨A, c', hv, -, -, h3⟩ := HA.out.open_
      simp only [Value.slice.injEq] at hv
      obtain ⟨rfl, -, -⟩ := hv
      cases zs with
      | nil => rfl
      | cons z r => obtain ⟨ad, _, hA, _⟩ := h3 0 (by simp); cases hA)
    go_wp2_with fail
    go_ret
    refine ⟨_, rfl, ?_, Below.refl _ _⟩
    rw [HZ.out]
    exact OwnInts.nil _ _ _
  | some ad =>
    go_wp2_with (at_builtin; refine wpList_appN T_int OL.out (HA.out.below B1.out).1 (by rw [ints_len]; simp; omega) B1.out.size (ints_oneV _) rfl (by rfl) (by rfl) (by rfl) ?_; intro v1 w2 hown1 hgr1)
    go_ret
    exact ⟨_, rfl, ⟨by simpa using hown1, HA.out.2⟩, hgr1.below B1.out (by simp) OL.out.ge⟩

end Go.Proofs.Ytnlaoainhlfemaa

set_option maxRecDepth 100000
set_option linter.unusedVariables false
set_option linter.unusedSimpArgs false
namespace Go.Proofs.Ytnlaoainhlfemaa
open Go.RowKit Go.Sort Go.Shelf

/-- the program's comparison of trees -/
def cmpT (a b : List Int) : Int := if a.length = b.length then cmpL b a else (a.length : Int) - b.length
theorem cmpT_up (a b : List Nat) : decide (cmpT (up a) (up b) < 0) = befN a b := by
  unfold cmpT befN
  rw [up_len, up_len]
  by_cases h : a.length = b.length
  · rw [if_pos h, h, Nat.beq_refl]
    exact cmpL_up b a
  · rw [if_neg h]
    have : Nat.beq a.length b.length = false := by
      cases hb : Nat.beq a.length b.length with
      | true => exact absurd (Nat.eq_of_beq_eq_true hb) h
      | false => rfl
    rw [this]
    simp only [cond_false]
    cases hlt : Nat.blt a.length b.length with
    | true => have := (blt_iff _ _).1 hlt; simp; omega
    | false => have : ¬ a.length < b.length := fun h2 => by rw [(blt_iff _ _).2 h2] at hlt; cases hlt
               simp; omega

theorem i_compareTrees (w : World) (v v' : Value) (a b : List Int) (ha : Ints w v a) (hb : Ints w v' b) :
    Calls Try.prog 119 #[v, v'] w fun e w' => e = .returned (.int .i64 (cmpT a b)) ∧ w = w' := by
  have HA := Lib.hid ha
  have HB := Lib.hid hb
  obtain ⟨A, c, rfl, l1, l2, -⟩ := ha.open_
  obtain ⟨A', c', rfl, m1, m2, -⟩ := hb.open_
  clear ha hb
  by_cases h : a.length = b.length
  · have HE := Lib.hid (show cmpT a b = cmpL b a by rw [cmpT, if_pos h])
    rw [HE.out]
    have hd : ((a.length : Int) != (b.length : Int)) = false := by simp [h]
    have HL := Lib.hid h
    clear h
    go_enter Try.func119, Try.ntmps119
    go_wp2_with (go_at_call 125; refine (lib_Compare _ _ _ b a HB.out HA.out).mono ?_; rintro e w1 ⟨rfl, rfl⟩)
    go_ret
    exact ⟨rfl, rfl⟩
  · have HE := Lib.hid (show cmpT a b = (a.length : Int) - b.length by rw [cmpT, if_neg h])
    rw [HE.out]
    have hd : ((a.length : Int) != (b.length : Int)) = true := by simp; omega
    have hw : IntKind.i64.wrap ((a.length : Int) - (b.length : Int)) = (a.length : Int) - (b.length : Int) := IntWalk.i64_in _ (by omega)
    clear h
    go_enter Try.func119, Try.ntmps119
    go_wp2_with fail
    go_ret
    exact ⟨rfl, rfl⟩

theorem treeCmp {w : World} {B : Nat} (x y : Row1s w B) : ltOf (fun (x y : Row1s w B) => cmpT (up x.1.2) (up y.1.2)) x y = befN x.1.2 y.1.2 := cmpT_up _ _
theorem treeSwo (w : World) (B : Nat) : SWO (ltOf fun (x y : Row1s w B) => cmpT (up x.1.2) (up y.1.2)) where
  irrefl x := by rw [treeCmp]; exact befN_irrefl _
  trans x y z h1 h2 := by rw [treeCmp] at *; exact befN_trans h1 h2
  ntrans x y z h1 h2 := by rw [treeCmp] at *; exact befN_ntrans h1 h2

/-- the insertion sort of the library, at a list of trees of one's own -/
theorem lib_insTrees (w : World) (B cap : Nat) (A : Option Addr) (vs : List Value) (bs : List (List Nat)) (h : Own w B tL (.slice A vs.length cap) vs) (hr : RR w B vs (bs.map up)) (hn : vs.length ≤ 1000) :
    Calls Try.prog 205 #[.slice A vs.length cap, .int .i64 0, .int .i64 vs.length, .func (.func 119) #[] #[]] w fun e w' => e = .returned (.tuple #[]) ∧
      ∃ vs', vs'.length = vs.length ∧ vs'.Perm vs ∧ Own w' B tL (.slice A vs.length cap) vs' ∧ RR w' B vs' ((srtB bs).map up) ∧ w.grownBy w' (Value.ownBlock (.slice A vs.length cap)) := by
  rcases h.cases with ⟨he, rfl⟩ | ⟨g, cap', cur, he, hBg, hgs, -⟩
  · simp only [Value.slice.injEq] at he
    obtain ⟨rfl, -, rfl⟩ := he
    have hb : bs = [] := by have h0 := hr.1; rw [List.length_map] at h0; exact List.eq_nil_of_length_eq_zero h0.symm
    subst hb
    refine (AnyF.insertionSortCmpFunc_none { Try.lsort with } none 0 _ w).mono ?_
    rintro e w' ⟨rfl, rfl⟩
    exact ⟨rfl, [], rfl, .refl _, h, hr, World.grownBy.refl _ _⟩
  · simp only [Value.slice.injEq] at he
    obtain ⟨rfl, -, rfl⟩ := he
    obtain ⟨d, hd1, hd2⟩ := mkRows hr
    have hdl : d.length = vs.length := by rw [← hd1, List.length_map]
    have ho : Own w B tL (.slice (some ⟨g, 0, none⟩) d.length cap) (d.map fun x => x.1.1) := by rw [hd1, hdl]; exact h
    have hone : OneCell (fun x : Row1s w B => x.1.1) := fun x => (RR.one x.2).oneCell _ (by simp)
    have eg : ∀ args w, (callFunc 119 args).run Try.prog w = .ok (.enter 119 args) w := enters_of Try.func119 (by kernel_rfl) rfl
    have hkeep : ∀ (x : Row1s w B) (m : Nat) (dk : Array (Row1s w B)) (os : Array Obj), OwnInts (sortWorld (fun x : Row1s w B => x.1.1) w g 0 m dk os) B tI x.1.1 (up x.1.2) := fun x m dk os =>
      x.2.kept (v' := .slice (some ⟨g, 0, none⟩) vs.length cap) (grownBy_srt dk) (x.2.1.ne_of_type h (by decide))
    have hcmp : CmpReads Try.prog 119 #[] (fun x : Row1s w B => x.1.1) (fun x y => cmpT (up x.1.2) (up y.1.2)) g 0 d.toArray.size w := fun m os dk _ x y =>
      (i_compareTrees _ _ _ _ _ (hkeep x m dk os).ints (hkeep y m dk os).ints).mono fun e w' ⟨he, hw⟩ => ⟨he, 0, hw.symm⟩
    have hcon := Any.insertionSortCmpFunc_one { Try.lsort with } (fun x : Row1s w B => x.1.1) hone _ 119 #[] g 0 cap 0 d.toArray.size d.toArray w eg hcmp (holds_own ho) (Nat.zero_le _) (Nat.le_refl _) (by simp; omega)
    rw [List.size_toArray, hdl] at hcon
    refine hcon.mono ?_
    rintro e w' ⟨rfl, n, rfl⟩
    have hins := insertionSort_holds (treeSwo w B) d.toArray 0 vs.length (Nat.zero_le _) (by simp; omega)
    generalize Sort.insertionSort (ltOf fun (x y : Row1s w B) => cmpT (up x.1.2) (up y.1.2)) d.toArray 0 vs.length = d' at hins ⊢
    obtain ⟨hp, hs⟩ := hins
    have hsz : d'.size = vs.length := by have := hp.1; simp at this; omega
    have hperm : d'.toList.Perm d := by
      have h3 := hp.2.2
      rw [← hsz] at h3
      simp only [Array.extract_size] at h3
      have e : (d.toArray.extract 0 d'.size).toList = d := by
        rw [show d'.size = d.toArray.size by simp; omega, Array.extract_size]
      rw [e] at h3
      exact h3
    have hasc : Asc (d'.toList.map fun x => x.1.2) := by
      rw [Asc, List.pairwise_iff_getElem]
      intro i j hi hj hij
      simp at hi hj
      have h4 := hs i j (Nat.zero_le _) hij (by omega)
      rw [treeCmp, getElem!_pos d' i (by omega), getElem!_pos d' j (by omega)] at h4
      simpa using h4
    have hL : (d'.toList.map fun x => x.1.2) = srtB bs := srtB_unique (by rw [← hd2]; exact hperm.map _) hasc
    have hl : d'.toList.length = d.length := by simp; omega
    have hfin := own_srt (n := n) (os := #[]) ho hl
    simp only [Array.toArray_toList] at hfin
    rw [hdl] at hfin
    rw [← sortWorld_none]
    refine ⟨rfl, d'.toList.map (fun x => x.1.1), by simp; omega, by rw [← hd1]; exact hperm.map _, hfin, ⟨by rw [← hL]; simp, fun k u zs hu hz => ?_⟩, grownBy_srt d'⟩
    rw [← hL, List.map_map, List.getElem?_map] at hz
    rw [List.getElem?_map] at hu
    cases hx : d'.toList[k]? with
    | none => rw [hx] at hu; cases hu
    | some x =>
      rw [hx] at hu hz
      simp only [Option.map_some, Option.some.injEq, Function.comp] at hu hz
      subst hu; subst hz
      exact hkeep x _ _ _

set_option maxHeartbeats 2000000 in
theorem lib_stable (w : World) (B cap : Nat) (A : Option Addr) (vs : List Value) (bs : List (List Nat)) (h : Own w B tL (.slice A vs.length cap) vs) (hr : RR w B vs (bs.map up)) (hn : vs.length ≤ 19) :
    Calls Try.prog 214 #[.slice A vs.length cap, .int .i64 vs.length, .func (.func 119) #[] #[]] w fun e w' => e = .returned (.tuple #[]) ∧
      ∃ vs', vs'.length = vs.length ∧ vs'.Perm vs ∧ Own w' B tL (.slice A vs.length cap) vs' ∧ RR w' B vs' ((srtB bs).map up) ∧ w.grownBy w' (Value.ownBlock (.slice A vs.length cap)) := by
  have hI := Lib.hid (lib_insTrees w B cap A vs bs h hr (by omega))
  have hn1 : ¬ ((20 : Int) ≤ (vs.length : Int)) := by omega
  have hn2 : ¬ ((20 : Int) < (vs.length : Int)) := by omega
  have hd1 : decide ((20 : Int) ≤ (vs.length : Int)) = false := by simp; omega
  have hd2 : decide ((20 : Int) < (vs.length : Int)) = false := by simp; omega
  clear hn
  clear h hr
  go_enter Try.func214, Try.ntmps214
  go_wp2_with fail
  refine wp_loop_rounds 1 ?_
  rw [rounds_succ]
  go_wp2_with (go_at_call 205; refine hI.out.mono ?_; rintro e w1 ⟨rfl, h1⟩; have H1 := Lib.hid h1; clear h1)
  refine wp_loop_rounds 1 ?_
  rw [rounds_succ]
  go_wp2_with fail
  go_end0
  exact ⟨rfl, H1.out⟩

theorem lib_SortStable (w : World) (B cap : Nat) (A : Option Addr) (vs : List Value) (bs : List (List Nat)) (h : Own w B tL (.slice A vs.length cap) vs) (hr : RR w B vs (bs.map up)) (hn : vs.length ≤ 19) :
    Calls Try.prog 181 #[.slice A vs.length cap, .func (.func 119) #[] #[]] w fun e w' => e = .returned (.tuple #[]) ∧
      ∃ vs', vs'.length = vs.length ∧ vs'.Perm vs ∧ Own w' B tL (.slice A vs.length cap) vs' ∧ RR w' B vs' ((srtB bs).map up) ∧ w.grownBy w' (Value.ownBlock (.slice A vs.length cap)) := by
  have hI := Lib.hid (lib_stable w B cap A vs bs h hr hn)
  clear h hr hn
  go_enter Try.func181, Try.ntmps181
  go_wp2_with (go_at_call 214; refine hI.out.mono ?_; rintro e w1 ⟨rfl, h1⟩; have H1 := Lib.hid h1; clear h1)
  go_end0
  exact ⟨rfl, H1.out⟩

set_option maxHeartbeats 2000000 in
theorem i_cloneRows (w : World) (v : Value) (xss : List (List Int)) (ha : Rows w v xss) (hn : xss.length ≤ 1000) (hl : ∀ zs ∈ xss, zs.length ≤ 1000) :
    Calls Try.prog 180 #[v] w fun e w' => ∃ x, e = .returned x ∧ LA w' w.heap.size x xss ∧ Below w.heap.size w w' := by
  obtain ⟨A, c, rfl, l1, l2, h3⟩ := ha.open_
  have H3 := Lib.hid h3
  have HL := Lib.hid hl
  have OL := Lib.hid (show Own (w.alloc (.cells #[] tL)) w.heap.size tL (.slice (some ⟨w.heap.size, 0, none⟩) 0 0) [] from own_lit w tL [] (by simp [maxLen]))
  clear h3 hl ha
  go_enter Try.func180, Try.ntmps180
  go_wp2_with fail
  go_loopw [3, 9] (fun o i wr => ∃ (j : Nat) (vs : List Value), j ≤ xss.length ∧ i = .int .i64 j ∧ Own wr w.heap.size tL o vs ∧ RR wr w.heap.size vs (xss.take j) ∧ vs.Pairwise Apart ∧ Below w.heap.size w wr) (fun _ i _ => xss.length - (intOf i).toNat)
  case atStart =>
    exact ⟨0, [], Nat.zero_le _, rfl, OL.out, RR.nil _ _, List.Pairwise.nil, below1 _ _⟩
  case round =>
    obtain ⟨j, vs, hj, rfl, hown, hrr, hap, hbw⟩ := hrel
    clear OL
    have HO := Lib.hid hown
    have HRR := Lib.hid hrr
    have HBW := Lib.hid hbw
    have HAP := Lib.hid hap
    clear hap
    by_cases hlt : j < xss.length
    · obtain ⟨ad, u, zs, rfl, hz, hu, hc0⟩ := H3.out j hlt
      have hc : wr.cell? (ad.add j) = some u := by
        rw [hbw.cell (by rw [block_add]; have := World.block_lt_of_cell? w _ hc0; rwa [block_add] at this)]; exact hc0
      have HU := Lib.hid (hu.below hbw)
      have HZL := Lib.hid (HL.out zs (List.mem_of_getElem? hz))
      have HTK := Lib.hid (show xss.take (j + 1) = xss.take j ++ [zs] by rw [List.take_add_one, hz]; rfl)
      have hvl : vs.length ≤ 1000 := by have h1 := hrr.1; rw [List.length_take] at h1; omega
      have hji : (j : Int) < (xss.length : Int) := by omega
      clear hown hrr hbw hz hu hc0
      go_wp2_with (first
        | (go_at_call 168; refine (lib_Clone _ _ zs HU.out (by have := HZL.out; omega)).mono ?_; rintro e w2 ⟨r2, rfl, ho2, hb2⟩; obtain ⟨A5, c5, he5, -, -, -⟩ := ho2.ints.open_; subst he5; have HAF := Lib.hid (HRR.out.fresh (Nat.le_refl _) ho2.1.ge); have HO2 := Lib.hid (ho2.mono HBW.out.size); have HBI := Lib.hid hb2; have HB2 := Lib.hid (HBW.out.trans (hb2.mono HBW.out.size)); have HOW := Lib.hid (HO.out.below hb2); clear ho2 hb2)
        | (at_builtin; refine wpList_app1 T_row HOW.out (by omega) HB2.out.size (by rfl) rfl (by rfl) (by rfl) (by rfl) ?_; intro v1 w5 hown1 hgr1; have HN1 := Lib.hid hown1; have HGR := Lib.hid hgr1.1; have HB5 := Lib.hid (hgr1.below HB2.out HB2.out.size HOW.out.ge); clear hown1 hgr1))
      go_roundw
      case rel =>
        refine ⟨j + 1, _, by omega, by go_num, HN1.out, ?_, pairApart_snoc HAP.out HAF.out, HB5.out⟩
        rw [HTK.out]
        exact LL.snoc HOW.out (HRR.out.below HBI.out) HO2.out HN1.out HGR.out
      case measure => simp [intOf]; omega
    · have : j = xss.length := by omega
      subst this
      rw [List.take_length] at HRR
      go_wp2_with fail
      go_ret
      exact ⟨_, rfl, ⟨vs, HO.out, HRR.out, HAP.out⟩, HBW.out⟩

theorem i_forestOf (w : World) (v : Value) (bs : List (List Nat)) (ha : Rows w v (bs.map up)) (hn : bs.length ≤ 19) (hl : ∀ b ∈ bs, b.length ≤ 1000) :
    Calls Try.prog 136 #[v] w fun e w' => ∃ x, e = .returned x ∧ LA w' w.heap.size x ((srtB bs).map up) ∧ Below w.heap.size w w' := by
  have HA := Lib.hid ha
  have HL := Lib.hid (show ∀ zs ∈ bs.map up, zs.length ≤ 1000 from fun zs hz => by obtain ⟨b, hb, rfl⟩ := List.mem_map.1 hz; rw [up_len]; exact hl b hb)
  obtain ⟨A, c, rfl, l1, l2, -⟩ := ha.open_
  clear ha hl
  rw [List.length_map] at l1 HA ⊢
  go_enter Try.func136, Try.ntmps136
  go_wp2_with (first
    | (go_at_call 180; refine (i_cloneRows _ _ (bs.map up) HA.out (by rw [List.length_map]; omega) HL.out).mono ?_; rintro e w1 ⟨x, rfl, ⟨vs, ho, hr, hpa⟩, hb⟩; have HPA := Lib.hid hpa; clear hpa; have hvl := hr.1; rw [List.length_map] at hvl; obtain ⟨A1, c1, rfl, -, -⟩ := ho.cells.open_; have HVL := Lib.hid hvl; have HO := Lib.hid ho; have HR := Lib.hid hr; have HB := Lib.hid hb; clear ho hr hb hvl)
    | (go_at_call 181; refine (lib_SortStable _ _ _ _ vs bs HO.out HR.out (by rw [HVL.out]; exact hn)).mono ?_; rintro e w2 ⟨rfl, vs', hl', hpm, ho', hr', hg'⟩; have HPM := Lib.hid hpm; clear hpm; have HO' := Lib.hid ho'; have HR' := Lib.hid hr'; have HG' := Lib.hid hg'; clear ho' hr' hg' hl'))
  go_ret
  exact ⟨_, rfl, ⟨vs', HO'.out, HR'.out, pairApart_perm HPA.out HPM.out⟩, HB.out.grown HG'.out HB.out.size HO.out.ge⟩
end Go.Proofs.Ytnlaoainhlfemaa

