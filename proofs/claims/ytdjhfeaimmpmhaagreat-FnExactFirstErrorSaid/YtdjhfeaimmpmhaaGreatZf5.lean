/- Plain facts on canonical lists: lengths and levels, the place where a branch is put in. | Plain: the order of lists of levels; two descending lists of the same elements are one. | Plain: the order of trees, and lists of trees in it. | Walks of tests: in a range, a number, all numbers. | The walk of the program's length at lists of numbers. | Monomials: words of memory; walks of isMonomial of the program and l13Degree of the reference. | Monomials and fields that came in: words of memory. No program in sight. | Fields, plain: what makes a field. No program in sight. | Walk: l13Is of the reference. -/
import Derived.Test.YtdjhfeaimmpmhaaGreatZf4
import Derived.Test.YtdjhfeaimmpmhaaGreatRows
import Derived.Test.YtdjhfeaimmpmhaaGreatZf1
import Derived.Test.YtdjhfeaimmpmhaaGreatZf3
import Derived.WalkLawsBesides
import Derived.BigGuardPart
set_option linter.unusedVariables false
set_option linter.unusedSimpArgs false
namespace Go.Proofs.YtdjhfeaimmpmhaaGreat

theorem up_cons (a : Nat) (t : List Nat) : up (a :: t) = (a : Int) :: up t := rfl
theorem cmpL_up : ∀ a b : List Nat, decide (cmpL (up a) (up b) < 0) = ltN a b
  | [], [] => rfl
  | [], _ :: _ => rfl
  | _ :: _, [] => rfl
  | a :: aa, b :: bs => by
    rw [up_cons, up_cons, cmpL, ltN, ← cmpL_up aa bs]
    cases h : Nat.beq a b with
    | true =>
      have := Nat.eq_of_beq_eq_true h
      subst this
      simp
    | false =>
      have hne := Nat.ne_of_beq_eq_false h
      rw [cond_false]
      by_cases hlt : a < b
      · rw [if_pos (by omega)]
        have : Nat.blt a b = true := by simp [hlt]
        simp [hlt]
      · rw [if_neg (by omega), if_pos (by omega)]
        have : Nat.blt a b = false := Bool.eq_false_iff.2 (by simp; omega)
        simp [this]
theorem lessL_up (a b : List Nat) : lessL (up a) (up b) = ltN a b := cmpL_up a b

/-- where a list is put in -/
def insAt (p : List Nat) : List (List Nat) → Nat
  | [] => 0
  | q :: qs => bif ltN q p then 0 else insAt p qs + 1
theorem insAt_le (p : List Nat) : ∀ qs : List (List Nat), insAt p qs ≤ qs.length
  | [] => Nat.le_refl _
  | q :: qs => by rw [insAt]; cases ltN q p <;> simp [insAt_le p qs]
theorem insD_at (p : List Nat) : ∀ qs : List (List Nat), insD p qs = qs.take (insAt p qs) ++ p :: qs.drop (insAt p qs)
  | [] => rfl
  | q :: qs => by rw [insD, insAt]; cases ltN q p <;> simp [insD_at p qs]
/-- before the place, no list is less; at the place, it is -/
theorem insAt_step (p : List Nat) : ∀ (qs : List (List Nat)) (k : Nat) (q : List Nat), k ≤ insAt p qs → qs[k]? = some q → (ltN q p = true ∧ k = insAt p qs) ∨ (ltN q p = false ∧ k + 1 ≤ insAt p qs)
  | [], k, q, hk, hq => by simp at hq
  | x :: qs, 0, q, hk, hq => by
    simp at hq; subst hq
    rw [insAt]
    cases h : ltN x p <;> simp
  | x :: qs, k + 1, q, hk, hq => by
    rw [insAt] at hk ⊢
    cases h : ltN x p with
    | true => rw [h] at hk; simp at hk
    | false =>
      rw [h] at hk
      simp only [cond_false] at hk ⊢
      rcases insAt_step p qs k q (by omega) (by simpa using hq) with ⟨h1, h2⟩ | ⟨h1, h2⟩
      · exact .inl ⟨h1, by omega⟩
      · exact .inr ⟨h1, by omega⟩
theorem srtF_snoc : ∀ (s ps : List (List Nat)) (p : List Nat), srtF s (ps ++ [p]) = insD p (srtF s ps)
  | s, [], p => rfl
  | s, q :: ps, p => by rw [List.cons_append, srtF, srtF, srtF_snoc]
theorem brLen_insD (p : List Nat) (qs : List (List Nat)) : brLen (insD p qs) = p.length + brLen qs := by
  rw [insD_at]
  have h := congrArg brLen (List.take_append_drop (insAt p qs) qs)
  rw [brLen_append] at h ⊢
  rw [brLen]
  omega
theorem len_insD (p : List Nat) (qs : List (List Nat)) : (insD p qs).length = qs.length + 1 := by
  rw [insD_at]
  have := insAt_le p qs
  simp
  omega
theorem mem_insD {p x : List Nat} {qs : List (List Nat)} (h : x ∈ insD p qs) : x = p ∨ x ∈ qs := by
  rw [insD_at] at h
  rcases List.mem_append.1 h with h | h
  · exact .inr (List.mem_of_mem_take h)
  · rcases List.mem_cons.1 h with h | h
    · exact .inl h
    · exact .inr (List.mem_of_mem_drop h)
theorem brLen_srtF : ∀ (s ps : List (List Nat)), brLen (srtF s ps) = brLen s + brLen ps
  | s, [] => rfl
  | s, p :: ps => by rw [srtF, brLen_srtF, brLen_insD, brLen]; omega
theorem len_srtF : ∀ (s ps : List (List Nat)), (srtF s ps).length = s.length + ps.length
  | s, [] => rfl
  | s, p :: ps => by rw [srtF, len_srtF, len_insD]; simp; omega
theorem mem_srtF {x : List Nat} : ∀ {s ps : List (List Nat)}, x ∈ srtF s ps → x ∈ s ∨ x ∈ ps
  | s, [], h => .inl h
  | s, p :: ps, h => by
    rw [srtF] at h
    rcases mem_srtF h with h | h
    · rcases mem_insD h with h | h
      · exact .inr (by simp [h])
      · exact .inl h
    · exact .inr (by simp [h])
theorem bump_len : ∀ b : List Nat, (bump b).length = b.length
  | [] => rfl
  | a :: aa => by simp [bump, bump_len aa]
theorem bumps_len : ∀ bs : List (List Nat), (bumps bs).length = brLen bs
  | [] => rfl
  | b :: bs => by simp [bumps, brLen, bump_len, bumps_len bs]
theorem bump_mem {l : Nat} : ∀ {b : List Nat}, l ∈ bump b → ∃ l' ∈ b, l = l' + 1
  | a :: aa, h => by
    rw [bump] at h
    rcases List.mem_cons.1 h with h | h
    · exact ⟨a, by simp, h⟩
    · obtain ⟨l', h1, h2⟩ := bump_mem h
      exact ⟨l', by simp [h1], h2⟩
theorem bumps_mem {l : Nat} : ∀ {bs : List (List Nat)}, l ∈ bumps bs → ∃ b ∈ bs, ∃ l' ∈ b, l = l' + 1
  | b :: bs, h => by
    rw [bumps] at h
    rcases List.mem_append.1 h with h | h
    · obtain ⟨l', h1, h2⟩ := bump_mem h
      exact ⟨b, by simp, l', h1, h2⟩
    · obtain ⟨b', h0, l', h1, h2⟩ := bumps_mem h
      exact ⟨b', by simp [h0], l', h1, h2⟩
theorem brLen_memb {b : List Nat} {bs : List (List Nat)} (h : b ∈ bs) : b.length ≤ brLen bs := by
  obtain ⟨k, hk, rfl⟩ := List.getElem_of_mem h
  exact brLen_mem (List.getElem?_eq_getElem hk)
theorem brLen_mapO {g : List Nat → Option (List Nat)} (hg : ∀ x y, g x = some y → y.length = x.length) : ∀ {xs ys : List (List Nat)}, mapO g xs = some ys → brLen ys = brLen xs
  | [], ys, h => by simp [mapO] at h; subst h; rfl
  | x :: xs, ys, h => by
    obtain ⟨y, ys', rfl, h1, h2⟩ := mapO_cons h
    rw [brLen, brLen, hg _ _ h1, brLen_mapO hg h2]
theorem canO_parts {f : Nat} {t r : List Nat} (h : canO (f + 1) t = some r) : ∃ bs cs, brO t = some bs ∧ mapO (canO f) bs = some cs ∧ r = rootN (srtD cs) := by
  rw [canO] at h
  split at h
  · cases h
  · rename_i bs hb
    split at h
    · cases h
    · rename_i cs hc
      injection h with h
      exact ⟨bs, cs, hb, hc, h.symm⟩
theorem brO_tot {t : List Nat} {bs : List (List Nat)} (h : brO t = some bs) : brLen bs + 1 = t.length := by
  cases t with
  | nil => cases h
  | cons a aa =>
    have := brF_tot (show brF [] aa = some bs from h)
    simp [brLen] at this
    simp [this]
theorem canO_len : ∀ {f : Nat} {t r : List Nat}, canO f t = some r → r.length = t.length
  | 0, t, r, h => by cases h
  | f + 1, t, r, h => by
    obtain ⟨bs, cs, h1, h2, rfl⟩ := canO_parts h
    have e1 := brO_tot h1
    have e2 := brLen_mapO (g := canO f) (fun x y hy => canO_len hy) h2
    rw [rootN, List.length_cons, bumps_len, srtD, brLen_srtF, e2]
    simp [brLen]
    exact e1
/-- a canonical list's levels are below its length -/
theorem canO_lt : ∀ {f : Nat} {t r : List Nat}, canO f t = some r → ∀ l ∈ r, l < r.length
  | 0, t, r, h => by cases h
  | f + 1, t, r, h => by
    obtain ⟨bs, cs, h1, h2, rfl⟩ := canO_parts h
    intro l hl
    rw [rootN] at hl ⊢
    rcases List.mem_cons.1 hl with rfl | hl
    · simp
    · obtain ⟨b, hb, l', hl', rfl⟩ := bumps_mem hl
      rw [List.length_cons, bumps_len]
      have hle := brLen_memb hb
      rcases mem_srtF hb with hb | hb
      · simp at hb
      · obtain ⟨x, hx, hxb⟩ := mapO_all h2 b hb
        have := canO_lt hxb l' hl'
        omega
theorem brStep_mem {o o' : List (List Nat)} {l : Nat} (h : brStep o l = some o') {b : List Nat} (hb : b ∈ o') {x : Nat} (hx : x ∈ b) : x ≤ l ∨ ∃ c ∈ o, x ∈ c := by
  rcases brStep_cases h with ⟨h1, rfl⟩ | ⟨h1, n, c, h2, h3, rfl⟩
  · rcases List.mem_append.1 hb with hb | hb
    · exact .inr ⟨b, hb, hx⟩
    · simp at hb; subst hb; simp at hx; exact .inl (by omega)
  · rcases List.mem_or_eq_of_mem_set hb with hb | rfl
    · exact .inr ⟨b, hb, hx⟩
    · rcases List.mem_append.1 hx with hx | hx
      · exact .inr ⟨c, List.mem_of_getElem? h3, hx⟩
      · simp at hx; exact .inl (by omega)
theorem brF_mem {M : Nat} : ∀ {ts : List Nat} {o r : List (List Nat)}, brF o ts = some r → (∀ l ∈ ts, l ≤ M) → (∀ b ∈ o, ∀ x ∈ b, x ≤ M) → ∀ b ∈ r, ∀ x ∈ b, x ≤ M
  | [], o, r, h, _, ho => by simp [brF] at h; subst h; exact ho
  | t :: ts, o, r, h, hl, ho => by
    rw [brF] at h
    cases hs : brStep o t with
    | none => rw [hs] at h; cases h
    | some o1 =>
      rw [hs] at h
      refine brF_mem (M := M) h (fun l hl' => hl l (by simp [hl'])) fun b hb x hx => ?_
      rcases brStep_mem hs hb hx with h1 | ⟨c, hc, hx⟩
      · exact Nat.le_trans h1 (hl t (by simp))
      · exact ho c hc x hx
theorem brO_mem {M : Nat} {t : List Nat} {bs : List (List Nat)} (h : brO t = some bs) (hl : ∀ l ∈ t, l ≤ M) : ∀ b ∈ bs, ∀ x ∈ b, x ≤ M := by
  cases t with
  | nil => cases h
  | cons a aa => exact brF_mem (show brF [] aa = some bs from h) (fun l hl' => hl l (by simp [hl'])) (fun b hb => by simp at hb)
theorem brO_lens {t : List Nat} {bs : List (List Nat)} (h : brO t = some bs) {N : Nat} (hn : t.length ≤ N) : bs.length ≤ N ∧ ∀ b ∈ bs, b.length ≤ N := by
  have e := brO_tot h
  refine ⟨?_, fun b hb => by have := brLen_memb hb; omega⟩
  cases t with
  | nil => cases h
  | cons a aa =>
    have : ∀ (ts : List Nat) (o r : List (List Nat)), brF o ts = some r → r.length ≤ o.length + ts.length := by
      intro ts
      induction ts with
      | nil => intro o r h; simp [brF] at h; subst h; simp
      | cons t ts ih =>
        intro o r h
        rw [brF] at h
        cases hs : brStep o t with
        | none => rw [hs] at h; cases h
        | some o1 =>
          rw [hs] at h
          have h1 := ih o1 r h
          have h2 : o1.length ≤ o.length + 1 := by
            rcases brStep_cases hs with ⟨_, rfl⟩ | ⟨_, n, c, h2, _, rfl⟩
            · simp
            · simp
          simp
          omega
    have := this aa [] bs h
    simp at this hn
    omega
theorem bumps_append : ∀ a b : List (List Nat), bumps (a ++ b) = bumps a ++ bumps b
  | [], b => rfl
  | x :: a, b => by simp [bumps, bumps_append a b]
theorem bump_append : ∀ a b : List Nat, bump (a ++ b) = bump a ++ bump b
  | [], b => rfl
  | x :: a, b => by simp [bump, bump_append a b]
end Go.Proofs.YtdjhfeaimmpmhaaGreat

set_option linter.unusedVariables false
set_option linter.unusedSimpArgs false
namespace Go.Proofs.YtdjhfeaimmpmhaaGreat

theorem blt_iff (a b : Nat) : Nat.blt a b = true ↔ a < b := by simp
theorem ltN_cons (a b : Nat) (s t : List Nat) : ltN (a :: s) (b :: t) = true ↔ a < b ∨ (a = b ∧ ltN s t = true) := by
  rw [ltN]
  cases h : Nat.beq a b with
  | true =>
    have := Nat.eq_of_beq_eq_true h
    subst this
    simp
  | false =>
    have hne := Nat.ne_of_beq_eq_false h
    simp [hne]
theorem ltN_irrefl : ∀ a : List Nat, ltN a a = false
  | [] => rfl
  | a :: s => by
    have := ltN_irrefl s
    cases h : ltN (a :: s) (a :: s) with
    | false => rfl
    | true => rcases (ltN_cons _ _ _ _).1 h with h | ⟨_, h⟩
              · omega
              · rw [this] at h; cases h
theorem ltN_trans : ∀ {a b c : List Nat}, ltN a b = true → ltN b c = true → ltN a c = true
  | [], [], c, h, h' => by cases h
  | [], _ :: _, [], h, h' => by cases h'
  | [], _ :: _, _ :: _, h, h' => rfl
  | _ :: _, [], c, h, h' => by cases h
  | _ :: _, _ :: _, [], h, h' => by cases h'
  | a :: s, b :: t, c :: u, h, h' => by
    rw [ltN_cons] at h h' ⊢
    rcases h with h | ⟨rfl, h⟩ <;> rcases h' with h' | ⟨rfl, h'⟩
    · exact .inl (by omega)
    · exact .inl h
    · exact .inl h'
    · exact .inr ⟨rfl, ltN_trans h h'⟩
theorem ltN_tri : ∀ {a b : List Nat}, ltN a b = false → ltN b a = false → a = b
  | [], [], _, _ => rfl
  | [], _ :: _, h, _ => by cases h
  | _ :: _, [], _, h => by cases h
  | a :: s, b :: t, h, h' => by
    have h1 : ¬ (a < b ∨ (a = b ∧ ltN s t = true)) := fun x => by rw [(ltN_cons a b s t).2 x] at h; cases h
    have h2 : ¬ (b < a ∨ (b = a ∧ ltN t s = true)) := fun x => by rw [(ltN_cons b a t s).2 x] at h'; cases h'
    have e : a = b := by omega
    subst e
    have h3 : ltN s t = false := by cases hh : ltN s t with
      | false => rfl
      | true => exact absurd (.inr ⟨rfl, hh⟩) h1
    have h4 : ltN t s = false := by cases hh : ltN t s with
      | false => rfl
      | true => exact absurd (.inr ⟨rfl, hh⟩) h2
    rw [ltN_tri h3 h4]
theorem ltN_ntrans {a b c : List Nat} (h : ltN a b = false) (h' : ltN b c = false) : ltN a c = false := by
  cases hh : ltN a c with
  | false => rfl
  | true =>
    cases hb : ltN b a with
    | true => rw [ltN_trans hb hh] at h'; cases h'
    | false =>
      have := ltN_tri h hb
      subst this
      rw [h'] at hh; cases hh
theorem ltN_asymm {a b : List Nat} (h : ltN a b = true) : ltN b a = false := by
  cases hh : ltN b a with
  | false => rfl
  | true => have := ltN_trans h hh; rw [ltN_irrefl] at this; cases this

/-- descending -/
def Desc (l : List (List Nat)) : Prop := l.Pairwise fun a b => ltN a b = false
theorem desc_unique : ∀ {l1 l2 : List (List Nat)}, l1.Perm l2 → Desc l1 → Desc l2 → l1 = l2
  | [], l2, h, _, _ => by simpa using h.symm.eq_nil.symm
  | a :: l1, [], h, _, _ => by simpa using h.eq_nil
  | a :: l1, b :: l2, h, h1, h2 => by
    rw [Desc, List.pairwise_cons] at h1 h2
    have e : a = b := by
      by_cases hab : a = b
      · exact hab
      · have ha : a ∈ b :: l2 := h.mem_iff.1 (by simp)
        have hb : b ∈ a :: l1 := h.mem_iff.2 (by simp)
        have ha2 : a ∈ l2 := by rcases List.mem_cons.1 ha with h | h; exact absurd h hab; exact h
        have hb2 : b ∈ l1 := by rcases List.mem_cons.1 hb with h | h; exact absurd h.symm hab; exact h
        exact ltN_tri (h1.1 b hb2) (h2.1 a ha2)
    subst e
    rw [desc_unique h.cons_inv h1.2 h2.2]
theorem insD_perm (p : List Nat) : ∀ qs : List (List Nat), (insD p qs).Perm (p :: qs)
  | [] => .refl _
  | q :: qs => by
    rw [insD]
    cases ltN q p with
    | true => exact .refl _
    | false => exact ((insD_perm p qs).cons q).trans (.swap p q qs)
theorem insD_desc {p : List Nat} : ∀ {qs : List (List Nat)}, Desc qs → Desc (insD p qs)
  | [], _ => by simp [insD, Desc]
  | q :: qs, h => by
    rw [Desc, List.pairwise_cons] at h
    rw [insD]
    cases hq : ltN q p with
    | true =>
      refine List.pairwise_cons.2 ⟨fun x hx => ?_, List.pairwise_cons.2 h⟩
      rcases List.mem_cons.1 hx with rfl | hx
      · exact ltN_asymm hq
      · cases hh : ltN p x with
        | false => rfl
        | true => have := h.1 x hx; rw [ltN_trans hq hh] at this; cases this
    | false =>
      refine List.pairwise_cons.2 ⟨fun x hx => ?_, insD_desc h.2⟩
      rcases mem_insD hx with rfl | hx
      · exact hq
      · exact h.1 x hx
theorem srtF_perm : ∀ (s ps : List (List Nat)), (srtF s ps).Perm (s ++ ps)
  | s, [] => by simp [srtF]
  | s, p :: ps => by
    rw [srtF]
    refine (srtF_perm _ ps).trans ?_
    refine ((insD_perm p s).append_right ps).trans ?_
    exact List.perm_middle.symm
theorem srtF_desc : ∀ {s ps : List (List Nat)}, Desc s → Desc (srtF s ps)
  | s, [], h => h
  | s, p :: ps, h => by rw [srtF]; exact srtF_desc (s := insD p s) (ps := ps) (insD_desc h)
theorem srtD_unique {l ps : List (List Nat)} (h : l.Perm ps) (hd : Desc l) : l = srtD ps :=
  desc_unique (h.trans (srtF_perm [] ps).symm) hd (srtF_desc (by simp [Desc]))
end Go.Proofs.YtdjhfeaimmpmhaaGreat

set_option linter.unusedVariables false
set_option linter.unusedSimpArgs false
namespace Go.Proofs.YtdjhfeaimmpmhaaGreat

theorem befN_iff (s t : List Nat) : befN s t = true ↔ s.length < t.length ∨ (s.length = t.length ∧ ltN t s = true) := by
  unfold befN
  cases h : Nat.beq s.length t.length with
  | true => have := Nat.eq_of_beq_eq_true h; simp [this]
  | false =>
    have := Nat.ne_of_beq_eq_false h
    simp only [cond_false, blt_iff]
    omega
theorem befN_irrefl (a : List Nat) : befN a a = false := by
  cases h : befN a a with
  | false => rfl
  | true =>
    rcases (befN_iff a a).1 h with h | ⟨-, h⟩
    · omega
    · rw [ltN_irrefl] at h; cases h
theorem befN_trans {a b c : List Nat} (h : befN a b = true) (h' : befN b c = true) : befN a c = true := by
  rw [befN_iff] at *
  rcases h with h | ⟨e, h⟩ <;> rcases h' with h' | ⟨e', h'⟩
  · left; omega
  · left; omega
  · left; omega
  · right; exact ⟨by omega, ltN_trans h' h⟩
theorem befN_tri {a b : List Nat} (h : befN a b = false) (h' : befN b a = false) : a = b := by
  have h1 : ¬ befN a b = true := by rw [h]; decide
  have h2 : ¬ befN b a = true := by rw [h']; decide
  rw [befN_iff] at h1 h2
  have e : a.length = b.length := by omega
  refine ltN_tri ?_ ?_
  · cases hh : ltN a b with
    | false => rfl
    | true => exact absurd (.inr ⟨e.symm, hh⟩) h2
  · cases hh : ltN b a with
    | false => rfl
    | true => exact absurd (.inr ⟨e, hh⟩) h1
theorem befN_asymm {a b : List Nat} (h : befN a b = true) : befN b a = false := by
  cases hh : befN b a with
  | false => rfl
  | true => have := befN_trans h hh; rw [befN_irrefl] at this; cases this
theorem befN_ntrans {a b c : List Nat} (h : befN a b = false) (h' : befN b c = false) : befN a c = false := by
  cases hh : befN a c with
  | false => rfl
  | true =>
    cases hb : befN b a with
    | true => rw [befN_trans hb hh] at h'; cases h'
    | false =>
      have := befN_tri h hb
      subst this
      rw [h'] at hh; cases hh

/-- ascending -/
def Asc (l : List (List Nat)) : Prop := l.Pairwise fun a b => befN b a = false
theorem asc_unique : ∀ {l1 l2 : List (List Nat)}, l1.Perm l2 → Asc l1 → Asc l2 → l1 = l2
  | [], l2, h, _, _ => by simpa using h.symm.eq_nil.symm
  | a :: l1, [], h, _, _ => by simpa using h.eq_nil
  | a :: l1, b :: l2, h, h1, h2 => by
    rw [Asc, List.pairwise_cons] at h1 h2
    have e : a = b := by
      by_cases hab : a = b
      · exact hab
      · have ha : a ∈ b :: l2 := h.mem_iff.1 (by simp)
        have hb : b ∈ a :: l1 := h.mem_iff.2 (by simp)
        have ha2 : a ∈ l2 := by rcases List.mem_cons.1 ha with h | h; exact absurd h hab; exact h
        have hb2 : b ∈ l1 := by rcases List.mem_cons.1 hb with h | h; exact absurd h.symm hab; exact h
        exact befN_tri (h2.1 a ha2) (h1.1 b hb2)
    subst e
    rw [asc_unique h.cons_inv h1.2 h2.2]
/-- a tree put into a forest, behind those that are not behind it -/
def insB (p : List Nat) : List (List Nat) → List (List Nat)
  | [] => [p]
  | q :: qs => bif befN p q then p :: q :: qs else q :: insB p qs
def srtBF (s : List (List Nat)) : List (List Nat) → List (List Nat)
  | [] => s
  | p :: ps => srtBF (insB p s) ps
/-- trees in their order -/
def srtB (ps : List (List Nat)) : List (List Nat) := srtBF [] ps
theorem insB_perm (p : List Nat) : ∀ qs : List (List Nat), (insB p qs).Perm (p :: qs)
  | [] => .refl _
  | q :: qs => by
    rw [insB]
    cases befN p q with
    | true => exact .refl _
    | false => exact ((insB_perm p qs).cons q).trans (.swap p q qs)
theorem mem_insB {p x : List Nat} {qs : List (List Nat)} (h : x ∈ insB p qs) : x = p ∨ x ∈ qs := by
  have := (insB_perm p qs).mem_iff.1 h
  simpa using this
theorem insB_asc {p : List Nat} : ∀ {qs : List (List Nat)}, Asc qs → Asc (insB p qs)
  | [], _ => by simp [insB, Asc]
  | q :: qs, h => by
    rw [Asc, List.pairwise_cons] at h
    rw [insB]
    cases hq : befN p q with
    | true =>
      refine List.pairwise_cons.2 ⟨fun x hx => ?_, List.pairwise_cons.2 h⟩
      rcases List.mem_cons.1 hx with rfl | hx
      · exact befN_asymm hq
      · cases hh : befN x p with
        | false => rfl
        | true => have := h.1 x hx; rw [befN_trans hh hq] at this; cases this
    | false =>
      refine List.pairwise_cons.2 ⟨fun x hx => ?_, insB_asc h.2⟩
      rcases mem_insB hx with rfl | hx
      · exact hq
      · exact h.1 x hx
theorem srtBF_perm : ∀ (s ps : List (List Nat)), (srtBF s ps).Perm (s ++ ps)
  | s, [] => by simp [srtBF]
  | s, p :: ps => by
    rw [srtBF]
    refine (srtBF_perm _ ps).trans ?_
    refine ((insB_perm p s).append_right ps).trans ?_
    exact List.perm_middle.symm
theorem srtBF_asc : ∀ {s ps : List (List Nat)}, Asc s → Asc (srtBF s ps)
  | s, [], h => h
  | s, p :: ps, h => by rw [srtBF]; exact srtBF_asc (s := insB p s) (ps := ps) (insB_asc h)
theorem srtB_unique {l ps : List (List Nat)} (h : l.Perm ps) (hd : Asc l) : l = srtB ps :=
  asc_unique (h.trans (srtBF_perm [] ps).symm) hd (srtBF_asc (by simp [Asc]))
theorem srtB_perm (ps : List (List Nat)) : (srtB ps).Perm ps := srtBF_perm [] ps
end Go.Proofs.YtdjhfeaimmpmhaaGreat

set_option linter.unusedVariables false
set_option linter.unusedSimpArgs false
namespace Go.Proofs.YtdjhfeaimmpmhaaGreat
open Go.RowKit

set_option maxHeartbeats 400000 in
theorem i_inRange (n lo hi : Int) (w : World) :
    Calls Tryz.prog 146 #[.int .i64 n, .int .i64 lo, .int .i64 hi] w fun e w' => e = .returned (.bool (inR n lo hi)) ∧ w = w' := by
  by_cases h1 : lo ≤ n
  · by_cases h2 : n ≤ hi
    · go_enter Tryz.func146, Tryz.ntmps146
      go_wp2
      go_ret
      exact ⟨ret_bool (by simp [inR, h1, h2]), rfl⟩
    · go_enter Tryz.func146, Tryz.ntmps146
      go_wp2
      go_ret
      exact ⟨ret_bool (by simp [inR, h1, h2]), rfl⟩
  · go_enter Tryz.func146, Tryz.ntmps146
    go_wp2
    go_ret
    exact ⟨ret_bool (by simp [inR]; omega), rfl⟩

set_option maxHeartbeats 400000 in
theorem s_l01In (n lo hi : Int) (w : World) :
    Calls Tryz.prog 172 #[.int .i64 n, .int .i64 lo, .int .i64 hi] w fun e w' => e = .returned (.bool (inR n lo hi)) ∧ w = w' := by
  by_cases h1 : lo ≤ n
  · by_cases h2 : n ≤ hi
    · go_enter Tryz.func172, Tryz.ntmps172
      go_wp2
      go_ret
      exact ⟨ret_bool (by simp [inR, h1, h2]), rfl⟩
    · go_enter Tryz.func172, Tryz.ntmps172
      go_wp2
      go_ret
      exact ⟨ret_bool (by simp [inR, h1, h2]), rfl⟩
  · go_enter Tryz.func172, Tryz.ntmps172
    go_wp2
    go_ret
    exact ⟨ret_bool (by simp [inR]; omega), rfl⟩

set_option maxHeartbeats 400000 in
theorem i_IsNumber (n : Int) (w : World) : Calls Tryz.prog 86 #[.int .i64 n] w fun e w' => e = .returned (.bool (isNum n)) ∧ w = w' := by
  go_enter Tryz.func86, Tryz.ntmps86
  go_wp2_with (go_at_call 146; refine (i_inRange _ _ _ _).mono ?_; rintro e w' ⟨rfl, rfl⟩)
  go_ret
  exact ⟨rfl, rfl⟩

set_option maxHeartbeats 400000 in
theorem s_IsNumber (n : Int) (w : World) : Calls Tryz.prog 121 #[.int .i64 n] w fun e w' => e = .returned (.bool (isNum n)) ∧ w = w' := by
  go_enter Tryz.func121, Tryz.ntmps121
  go_wp2_with (go_at_call 172; refine (s_l01In _ _ _ _).mono ?_; rintro e w' ⟨rfl, rfl⟩)
  go_ret
  exact ⟨rfl, rfl⟩

set_option maxHeartbeats 400000 in
theorem i_areNumbers1 (n : Int) (w : World) : Calls Tryz.prog 114 #[.int .i64 n] w fun e w' => e = .returned (.bool (!isNum n)) ∧ w = w' := by
  go_enter Tryz.func114, Tryz.ntmps114
  go_wp2_with (go_at_call 86; refine (i_IsNumber _ _).mono ?_; rintro e w' ⟨rfl, rfl⟩)
  go_ret
  exact ⟨rfl, rfl⟩

set_option maxHeartbeats 400000 in
theorem lib_IndexFuncI (w : World) (v : Value) (zs : List Int) (g : Nat) (p : Int → Bool) (ha : Ints w v zs)
    (hcf : ∀ (args : Array Value) (w : World), Sem.run Tryz.prog (callFunc g args) w = .ok (.enter g args) w)
    (hp : ∀ z : Int, Calls Tryz.prog g #[.int .i64 z] w fun e w' => e = .returned (.bool (p z)) ∧ w = w') :
    Calls Tryz.prog 163 #[v, .func (.func g) #[] #[]] w fun e w' => e = .returned (.int .i64 (idxF p zs)) ∧ w = w' := by
  obtain ⟨A, c, rfl, h1, h2, h3⟩ := ha.open_
  clear ha
  have H3 := Lib.hid h3
  have HP := Lib.hid hp
  clear h3 hp
  go_enter Tryz.func163, Tryz.ntmps163
  go_wp2_with fail
  go_loop [8] (fun i => ∃ k : Nat, k ≤ zs.length ∧ i = .int .i64 k ∧ Hid (∀ i y, i < k → zs[i]? = some y → p y = false)) (fun i => zs.length - (intOf i).toNat)
  case atStart => exact ⟨0, Nat.zero_le _, rfl, fun i y h => by omega⟩
  case round =>
    obtain ⟨k, hk, rfl, hI⟩ := hrel
    by_cases hlt : k < zs.length
    · obtain ⟨ad, z, rfl, hz, hz2, hc⟩ := H3.out k hlt
      have HZ := Lib.hid hz
      clear hz hz2
      go_wp2_with fail
      refine (HP.out z).mono ?_
      rintro e w' ⟨rfl, rfl⟩
      go_wp2_with fail
      · have hpz : p z = true := by assumption
        go_ret
        exact ⟨ret_int (idxF_hit hI.out HZ.out hpz).symm, rfl⟩
      · have hpz : p z = false := by assumption
        go_round
        case rel =>
          refine ⟨k + 1, by omega, by go_num, fun i y hi hy => ?_⟩
          by_cases e : i = k
          · subst e
            rw [HZ.out] at hy
            cases hy
            exact hpz
          · exact hI.out i y (by omega) hy
        case measure => simp [intOf]; omega
    · have : k = zs.length := by omega
      subst this
      go_wp2_with fail
      go_ret
      exact ⟨ret_int (idxF_miss hI.out).symm, rfl⟩

set_option maxHeartbeats 400000 in
theorem lib_ContainsFuncI (w : World) (v : Value) (zs : List Int) (g : Nat) (p : Int → Bool) (ha : Ints w v zs)
    (hcf : ∀ (args : Array Value) (w : World), Sem.run Tryz.prog (callFunc g args) w = .ok (.enter g args) w)
    (hp : ∀ z : Int, Calls Tryz.prog g #[.int .i64 z] w fun e w' => e = .returned (.bool (p z)) ∧ w = w') :
    Calls Tryz.prog 113 #[v, .func (.func g) #[] #[]] w fun e w' => e = .returned (.bool (zs.any p)) ∧ w = w' := by
  have HA := Lib.hid ha
  have HP := Lib.hid hp
  clear ha hp
  go_enter Tryz.func113, Tryz.ntmps113
  go_wp2_with (go_at_call 163; refine (lib_IndexFuncI _ _ _ _ _ HA.out hcf HP.out).mono ?_; rintro e w' ⟨rfl, rfl⟩)
  go_ret
  exact ⟨ret_bool (idxF_nonneg p zs), rfl⟩

set_option maxHeartbeats 400000 in
theorem i_areNumbers (w : World) (v : Value) (zs : List Int) (ha : Ints w v zs) : Calls Tryz.prog 54 #[v] w fun e w' => e = .returned (.bool (nums zs)) ∧ w = w' := by
  have HA := Lib.hid ha
  clear ha
  go_enter Tryz.func54, Tryz.ntmps54
  go_wp2_with (go_at_call 113; refine (lib_ContainsFuncI _ _ _ _ (fun z => !isNum z) HA.out (fun _ _ => by kernel_rfl) (fun z => i_areNumbers1 z _)).mono ?_; rintro e w' ⟨rfl, rfl⟩)
  go_ret
  exact ⟨ret_bool (by rw [any_not_nums, Bool.not_not]), rfl⟩

set_option maxHeartbeats 400000 in
theorem s_l01Numbers (w : World) (v : Value) (zs : List Int) (ha : Ints w v zs) : Calls Tryz.prog 61 #[v] w fun e w' => e = .returned (.bool (nums zs)) ∧ w = w' := by
  obtain ⟨A, c, rfl, h1, h2, h3⟩ := ha.open_
  clear ha
  have H3 := Lib.hid h3
  clear h3
  go_enter Tryz.func61, Tryz.ntmps61
  go_wp2_with fail
  go_loop [3] (fun i => ∃ k : Nat, k ≤ zs.length ∧ i = .int .i64 k ∧ Hid (∀ i y, i < k → zs[i]? = some y → isNum y = true)) (fun i => zs.length - (intOf i).toNat)
  case atStart => exact ⟨0, Nat.zero_le _, rfl, fun i y h => by omega⟩
  case round =>
    obtain ⟨k, hk, rfl, hI⟩ := hrel
    by_cases hlt : k < zs.length
    · obtain ⟨ad, z, rfl, hz, hz2, hc⟩ := H3.out k hlt
      have HZ := Lib.hid hz
      clear hz hz2
      go_wp2_with (go_at_call 121; refine (s_IsNumber _ _).mono ?_; rintro e w' ⟨rfl, rfl⟩)
      · have hpz : isNum z = false := by simpa using (by assumption : (!isNum z) = true)
        go_ret
        exact ⟨ret_bool (nums_false HZ.out hpz).symm, rfl⟩
      · have hpz : isNum z = true := by simpa using (by assumption : (!isNum z) = false)
        go_round
        case rel =>
          refine ⟨k + 1, by omega, by go_num, fun i y hi hy => ?_⟩
          by_cases e : i = k
          · subst e
            rw [HZ.out] at hy
            cases hy
            exact hpz
          · exact hI.out i y (by omega) hy
        case measure => simp [intOf]; omega
    · have : k = zs.length := by omega
      subst this
      go_wp2_with fail
      go_ret
      exact ⟨ret_bool (nums_all hI.out).symm, rfl⟩
end Go.Proofs.YtdjhfeaimmpmhaaGreat

set_option linter.unusedVariables false
set_option linter.unusedSimpArgs false
namespace Go.Proofs.YtdjhfeaimmpmhaaGreat
open Go.RowKit

set_option maxHeartbeats 400000 in
theorem lib_lengthI (w : World) (v : Value) (zs : List Int) (ha : Ints w v zs) : Calls Tryz.prog 154 #[v] w fun e w' => e = .returned (.int .i64 zs.length) ∧ w = w' := by
  obtain ⟨A, c, rfl, h1, h2, h3⟩ := ha.open_
  clear ha h3
  go_enter Tryz.func154, Tryz.ntmps154
  go_wp2
  go_ret
  exact ⟨rfl, rfl⟩

end Go.Proofs.YtdjhfeaimmpmhaaGreat

set_option maxRecDepth 100000
set_option linter.unusedVariables false
set_option linter.unusedSimpArgs false
namespace Go.Proofs.YtdjhfeaimmpmhaaGreat
open Go.RowKit

/-- a monomial: the factor and the powers -/
abbrev Mono := Int × List Int
/-- a monomial that can be read -/
def MonoArg (w : World) (v : Value) (m : Mono) : Prop := ∃ u, v = .agg #[.int .i64 m.1, u] ∧ In64 m.1 ∧ Ints w u m.2
theorem MonoArg.below {w w' : World} {v : Value} {m : Mono} (h : MonoArg w v m) (hb : Below w.heap.size w w') : MonoArg w' v m := by
  obtain ⟨u, rfl, h1, h2⟩ := h
  exact ⟨u, rfl, h1, h2.below hb⟩

end Go.Proofs.YtdjhfeaimmpmhaaGreat

set_option maxRecDepth 100000
set_option linter.unusedVariables false
set_option linter.unusedSimpArgs false
namespace Go.Proofs.YtdjhfeaimmpmhaaGreat
open Go.RowKit

/-- a list of monomials that can be read -/
def Monos (w : World) (v : Value) (ms : List Mono) : Prop :=
  ∃ A c, v = .slice A ms.length c ∧ ms.length ≤ c ∧ c ≤ maxLen ∧ ∀ (k : Nat) (m : Mono), ms[k]? = some m → ∃ b o u, A = some ⟨b, o, none⟩ ∧ In64 m.1 ∧ Ints w u m.2 ∧ w.cell? ⟨b, o + k * 2, none⟩ = some (.int .i64 m.1) ∧ w.cell? ⟨b, o + k * 2 + 1, none⟩ = some u
theorem Monos.below {w w' : World} {v : Value} {ms : List Mono} (h : Monos w v ms) (hb : Below w.heap.size w w') : Monos w' v ms := by
  obtain ⟨A, c, rfl, h1, h2, h3⟩ := h
  refine ⟨A, c, rfl, h1, h2, fun k m hm => ?_⟩
  obtain ⟨b, o, u, hA, hf, hu, hc, hc'⟩ := h3 k m hm
  refine ⟨b, o, u, hA, hf, hu.below hb, ?_, ?_⟩
  · rw [hb.cell (World.block_lt_of_cell? w _ hc)]; exact hc
  · rw [hb.cell (World.block_lt_of_cell? w _ hc')]; exact hc'
theorem Monos.open_ {w : World} {v : Value} {ms : List Mono} (h : Monos w v ms) : ∃ A c, v = .slice A ms.length c ∧ ms.length ≤ c ∧ c ≤ 9223372036854775807 ∧ ∀ (k : Nat), k < ms.length → ∃ b o m u, A = some ⟨b, o, none⟩ ∧ ms[k]? = some m ∧ In64 m.1 ∧ Ints w u m.2 ∧ w.cell? ⟨b, o + k * 2, none⟩ = some (.int .i64 m.1) ∧ w.cell? ⟨b, o + k * 2 + 1, none⟩ = some u := by
  obtain ⟨A, c, rfl, h1, h2, h3⟩ := h
  refine ⟨A, c, rfl, h1, by simpa [maxLen] using h2, fun k hk => ?_⟩
  obtain ⟨b, o, u, hA, hf, hu, hc, hc'⟩ := h3 k ms[k] (List.getElem?_eq_getElem hk)
  exact ⟨b, o, ms[k], u, hA, List.getElem?_eq_getElem hk, hf, hu, hc, hc'⟩
/-- lists of monomials that can be read -/
def MRows (w : World) (v : Value) (pss : List (List Mono)) : Prop :=
  ∃ vs, Cells w v vs ∧ vs.length = pss.length ∧ ∀ (k : Nat) (u : Value) (ms : List Mono), vs[k]? = some u → pss[k]? = some ms → Monos w u ms
theorem MRows.below {w w' : World} {v : Value} {pss : List (List Mono)} (h : MRows w v pss) (hb : Below w.heap.size w w') : MRows w' v pss := by
  obtain ⟨vs, h1, h2, h3⟩ := h
  exact ⟨vs, h1.below hb, h2, fun k u ms hu hm => (h3 k u ms hu hm).below hb⟩
theorem MRows.open_ {w : World} {v : Value} {pss : List (List Mono)} (h : MRows w v pss) : ∃ A c, v = .slice A pss.length c ∧ pss.length ≤ c ∧ c ≤ 9223372036854775807 ∧ ∀ (k : Nat), k < pss.length → ∃ ad u ms, A = some ad ∧ pss[k]? = some ms ∧ Monos w u ms ∧ w.cell? (ad.add k) = some u := by
  obtain ⟨vs, ⟨A, c, rfl, h1, h2, h3⟩, h4, h5⟩ := h
  rw [h4] at h1 ⊢
  refine ⟨A, c, rfl, h1, by simpa [maxLen] using h2, fun k hk => ?_⟩
  have hv : vs[k]? = some (vs[k]'(by rw [h4]; exact hk)) := List.getElem?_eq_getElem _
  obtain ⟨ad, hA, hc⟩ := h3 k _ hv
  exact ⟨ad, _, pss[k], hA, List.getElem?_eq_getElem hk, h5 k _ _ hv (List.getElem?_eq_getElem hk), hc⟩
end Go.Proofs.YtdjhfeaimmpmhaaGreat

set_option maxRecDepth 100000
set_option linter.unusedVariables false
set_option linter.unusedSimpArgs false
namespace Go.Proofs.YtdjhfeaimmpmhaaGreat
open Go.RowKit

end Go.Proofs.YtdjhfeaimmpmhaaGreat

set_option maxRecDepth 100000
set_option linter.unusedVariables false
set_option linter.unusedSimpArgs false
namespace Go.Proofs.YtdjhfeaimmpmhaaGreat
open Go.RowKit

theorem quiet_lessF {w : World} {n : Nat} {v v' : Value} {a b : List Int} (h : Ints w v a) (h' : Ints w v' b) :
    Calls Tryz.prog 214 #[v, v'] (w.drewN n) fun e w'' => e = .returned (.bool (lessL a b)) ∧ ∃ m, w'' = w.drewN m :=
  (s_l01Less _ _ _ a b (h.drewN n) (h'.drewN n)).mono fun _ _ ⟨he, m, hm⟩ => ⟨he, n + m, by rw [hm, World.drewN_drewN]⟩

end Go.Proofs.YtdjhfeaimmpmhaaGreat

