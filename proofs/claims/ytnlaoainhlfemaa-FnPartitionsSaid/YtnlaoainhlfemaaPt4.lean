/- Plain facts on canonical lists: lengths and levels, the place where a branch is put in. | Walks of tests: in a range, a number, all numbers. | The walk of the program's length at lists of numbers. | Monomials: words of memory; walks of isMonomial of the program and l13Degree of the reference. | Monomials and fields that came in: words of memory. No program in sight. | Fields, plain: what makes a field. No program in sight. | Walk: l13Is of the reference. | Walk: l03Canon of the reference. -/
import Derived.Test.YtnlaoainhlfemaaPt3
import Derived.Test.YtnlaoainhlfemaaRows
import Derived.Test.YtnlaoainhlfemaaPt1
import Derived.WalkLawsBesides
import Derived.BigGuardPart
set_option linter.unusedVariables false
set_option linter.unusedSimpArgs false
namespace Go.Proofs.Ytnlaoainhlfemaa

theorem up_cons (a : Nat) (t : List Nat) : up (a :: t) = (a : Int) :: up t := rfl
theorem cmpL_up : ∀ a b : List Nat, decide (cmpL (up a) (up b) < 0) = ltN a b
  | [], [] => rfl
  | [], _ :: _ => rfl
  | _ :: _, [] => rfl
  | a :: aa, b :: bs => by
    rw [up_cons, up_cons, cmpL, ltN, ← cmpL_up aa bs]
    cases h : Nat.beq a b with
    | true =>
      have := Nat.eq_of_beq_eq_true h
      subst this
      simp
    | false =>
      have hne := Nat.ne_of_beq_eq_false h
      rw [cond_false]
      by_cases hlt : a < b
      · rw [if_pos (by omega)]
        have : Nat.blt a b = true := by simp [hlt]
        simp [hlt]
      · rw [if_neg (by omega), if_pos (by omega)]
        have : Nat.blt a b = false := Bool.eq_false_iff.2 (by simp; omega)
        simp [this]
theorem lessL_up (a b : List Nat) : lessL (up a) (up b) = ltN a b := cmpL_up a b

/-- where a list is put in -/
def insAt (p : List Nat) : List (List Nat) → Nat
  | [] => 0
  | q :: qs => bif ltN q p then 0 else insAt p qs + 1
theorem insAt_le (p : List Nat) : ∀ qs : List (List Nat), insAt p qs ≤ qs.length
  | [] => Nat.le_refl _
  | q :: qs => by rw [insAt]; cases ltN q p <;> simp [insAt_le p qs]
theorem insD_at (p : List Nat) : ∀ qs : List (List Nat), insD p qs = qs.take (insAt p qs) ++ p :: qs.drop (insAt p qs)
  | [] => rfl
  | q :: qs => by rw [insD, insAt]; cases ltN q p <;> simp [insD_at p qs]
/-- before the place, no list is less; at the place, it is -/
theorem insAt_step (p : List Nat) : ∀ (qs : List (List Nat)) (k : Nat) (q : List Nat), k ≤ insAt p qs → qs[k]? = some q → (ltN q p = true ∧ k = insAt p qs) ∨ (ltN q p = false ∧ k + 1 ≤ insAt p qs)
  | [], k, q, hk, hq => by simp at hq
  | x :: qs, 0, q, hk, hq => by
    simp at hq; subst hq
    rw [insAt]
    cases h : ltN x p <;> simp
  | x :: qs, k + 1, q, hk, hq => by
    rw [insAt] at hk ⊢
    cases h : ltN x p with
    | true => rw [h] at hk; simp at hk
    | false =>
      rw [h] at hk
      simp only [cond_false] at hk ⊢
      rcases insAt_step p qs k q (by omega) (by simpa using hq) with ⟨h1, h2⟩ | ⟨h1, h2⟩
      · exact .inl ⟨h1, by omega⟩
      · exact .inr ⟨h1, by omega⟩
theorem srtF_snoc : ∀ (s ps : List (List Nat)) (p : List Nat), srtF s (ps ++ [p]) = insD p (srtF s ps)
  | s, [], p => rfl
  | s, q :: ps, p => by rw [List.cons_append, srtF, srtF, srtF_snoc]
theorem brLen_insD (p : List Nat) (qs : List (List Nat)) : brLen (insD p qs) = p.length + brLen qs := by
  rw [insD_at]
  have h := congrArg brLen (List.take_append_drop (insAt p qs) qs)
  rw [brLen_append] at h ⊢
  rw [brLen]
  omega
theorem len_insD (p : List Nat) (qs : List (List Nat)) : (insD p qs).length = qs.length + 1 := by
  rw [insD_at]
  have := insAt_le p qs
  simp
  omega
theorem mem_insD {p x : List Nat} {qs : List (List Nat)} (h : x ∈ insD p qs) : x = p ∨ x ∈ qs := by
  rw [insD_at] at h
  rcases List.mem_append.1 h with h | h
  · exact .inr (List.mem_of_mem_take h)
  · rcases List.mem_cons.1 h with h | h
    · exact .inl h
    · exact .inr (List.mem_of_mem_drop h)
theorem brLen_srtF : ∀ (s ps : List (List Nat)), brLen (srtF s ps) = brLen s + brLen ps
  | s, [] => rfl
  | s, p :: ps => by rw [srtF, brLen_srtF, brLen_insD, brLen]; omega
theorem len_srtF : ∀ (s ps : List (List Nat)), (srtF s ps).length = s.length + ps.length
  | s, [] => rfl
  | s, p :: ps => by rw [srtF, len_srtF, len_insD]; simp; omega
theorem mem_srtF {x : List Nat} : ∀ {s ps : List (List Nat)}, x ∈ srtF s ps → x ∈ s ∨ x ∈ ps
  | s, [], h => .inl h
  | s, p :: ps, h => by
    rw [srtF] at h
    rcases mem_srtF h with h | h
    · rcases mem_insD h with h | h
      · exact .inr (by simp [h])
      · exact .inl h
    · exact .inr (by simp [h])
theorem bump_len : ∀ b : List Nat, (bump b).length = b.length
  | [] => rfl
  | a :: aa => by simp [bump, bump_len aa]
theorem bumps_len : ∀ bs : List (List Nat), (bumps bs).length = brLen bs
  | [] => rfl
  | b :: bs => by simp [bumps, brLen, bump_len, bumps_len bs]
theorem bump_mem {l : Nat} : ∀ {b : List Nat}, l ∈ bump b → ∃ l' ∈ b, l = l' + 1
  | a :: aa, h => by
    rw [bump] at h
    rcases List.mem_cons.1 h with h | h
    · exact ⟨a, by simp, h⟩
    · obtain ⟨l', h1, h2⟩ := bump_mem h
      exact ⟨l', by simp [h1], h2⟩
theorem bumps_mem {l : Nat} : ∀ {bs : List (List Nat)}, l ∈ bumps bs → ∃ b ∈ bs, ∃ l' ∈ b, l = l' + 1
  | b :: bs, h => by
    rw [bumps] at h
    rcases List.mem_append.1 h with h | h
    · obtain ⟨l', h1, h2⟩ := bump_mem h
      exact ⟨b, by simp, l', h1, h2⟩
    · obtain ⟨b', h0, l', h1, h2⟩ := bumps_mem h
      exact ⟨b', by simp [h0], l', h1, h2⟩
theorem brLen_memb {b : List Nat} {bs : List (List Nat)} (h : b ∈ bs) : b.length ≤ brLen bs := by
  obtain ⟨k, hk, rfl⟩ := List.getElem_of_mem h
  exact brLen_mem (List.getElem?_eq_getElem hk)
theorem brLen_mapO {g : List Nat → Option (List Nat)} (hg : ∀ x y, g x = some y → y.length = x.length) : ∀ {xs ys : List (List Nat)}, mapO g xs = some ys → brLen ys = brLen xs
  | [], ys, h => by simp [mapO] at h; subst h; rfl
  | x :: xs, ys, h => by
    obtain ⟨y, ys', rfl, h1, h2⟩ := mapO_cons h
    rw [brLen, brLen, hg _ _ h1, brLen_mapO hg h2]
theorem canO_parts {f : Nat} {t r : List Nat} (h : canO (f + 1) t = some r) : ∃ bs cs, brO t = some bs ∧ mapO (canO f) bs = some cs ∧ r = rootN (srtD cs) := by
  rw [canO] at h
  split at h
  · cases h
  · rename_i bs hb
    split at h
    · cases h
    · rename_i cs hc
      injection h with h
      exact ⟨bs, cs, hb, hc, h.symm⟩
theorem brO_tot {t : List Nat} {bs : List (List Nat)} (h : brO t = some bs) : brLen bs + 1 = t.length := by
  cases t with
  | nil => cases h
  | cons a aa =>
    have := brF_tot (show brF [] aa = some bs from h)
    simp [brLen] at this
    simp [this]
theorem canO_len : ∀ {f : Nat} {t r : List Nat}, canO f t = some r → r.length = t.length
  | 0, t, r, h => by cases h
  | f + 1, t, r, h => by
    obtain ⟨bs, cs, h1, h2, rfl⟩ := canO_parts h
    have e1 := brO_tot h1
    have e2 := brLen_mapO (g := canO f) (fun x y hy => canO_len hy) h2
    rw [rootN, List.length_cons, bumps_len, srtD, brLen_srtF, e2]
    simp [brLen]
    exact e1
/-- a canonical list's levels are below its length -/
theorem canO_lt : ∀ {f : Nat} {t r : List Nat}, canO f t = some r → ∀ l ∈ r, l < r.length
  | 0, t, r, h => by cases h
  | f + 1, t, r, h => by
    obtain ⟨bs, cs, h1, h2, rfl⟩ := canO_parts h
    intro l hl
    rw [rootN] at hl ⊢
    rcases List.mem_cons.1 hl with rfl | hl
    · simp
    · obtain ⟨b, hb, l', hl', rfl⟩ := bumps_mem hl
      rw [List.length_cons, bumps_len]
      have hle := brLen_memb hb
      rcases mem_srtF hb with hb | hb
      · simp at hb
      · obtain ⟨x, hx, hxb⟩ := mapO_all h2 b hb
        have := canO_lt hxb l' hl'
        omega
theorem brStep_mem {o o' : List (List Nat)} {l : Nat} (h : brStep o l = some o') {b : List Nat} (hb : b ∈ o') {x : Nat} (hx : x ∈ b) : x ≤ l ∨ ∃ c ∈ o, x ∈ c := by
  rcases brStep_cases h with ⟨h1, rfl⟩ | ⟨h1, n, c, h2, h3, rfl⟩
  · rcases List.mem_append.1 hb with hb | hb
    · exact .inr ⟨b, hb, hx⟩
    · simp at hb; subst hb; simp at hx; exact .inl (by omega)
  · rcases List.mem_or_eq_of_mem_set hb with hb | rfl
    · exact .inr ⟨b, hb, hx⟩
    · rcases List.mem_append.1 hx with hx | hx
      · exact .inr ⟨c, List.mem_of_getElem? h3, hx⟩
      · simp at hx; exact .inl (by omega)
theorem brF_mem {M : Nat} : ∀ {ts : List Nat} {o r : List (List Nat)}, brF o ts = some r → (∀ l ∈ ts, l ≤ M) → (∀ b ∈ o, ∀ x ∈ b, x ≤ M) → ∀ b ∈ r, ∀ x ∈ b, x ≤ M
  | [], o, r, h, _, ho => by simp [brF] at h; subst h; exact ho
  | t :: ts, o, r, h, hl, ho => by
    rw [brF] at h
    cases hs : brStep o t with
    | none => rw [hs] at h; cases h
    | some o1 =>
      rw [hs] at h
      refine brF_mem (M := M) h (fun l hl' => hl l (by simp [hl'])) fun b hb x hx => ?_
      rcases brStep_mem hs hb hx with h1 | ⟨c, hc, hx⟩
      · exact Nat.le_trans h1 (hl t (by simp))
      · exact ho c hc x hx
theorem brO_mem {M : Nat} {t : List Nat} {bs : List (List Nat)} (h : brO t = some bs) (hl : ∀ l ∈ t, l ≤ M) : ∀ b ∈ bs, ∀ x ∈ b, x ≤ M := by
  cases t with
  | nil => cases h
  | cons a aa => exact brF_mem (show brF [] aa = some bs from h) (fun l hl' => hl l (by simp [hl'])) (fun b hb => by simp at hb)
theorem brO_lens {t : List Nat} {bs : List (List Nat)} (h : brO t = some bs) {N : Nat} (hn : t.length ≤ N) : bs.length ≤ N ∧ ∀ b ∈ bs, b.length ≤ N := by
  have e := brO_tot h
  refine ⟨?_, fun b hb => by have := brLen_memb hb; omega⟩
  cases t with
  | nil => cases h
  | cons a aa =>
    have : ∀ (ts : List Nat) (o r : List (List Nat)), brF o ts = some r → r.length ≤ o.length + ts.length := by
      intro ts
      induction ts with
      | nil => intro o r h; simp [brF] at h; subst h; simp
      | cons t ts ih =>
        intro o r h
        rw [brF] at h
        cases hs : brStep o t with
        | none => rw [hs] at h; cases h
        | some o1 =>
          rw [hs] at h
          have h1 := ih o1 r h
          have h2 : o1.length ≤ o.length + 1 := by
            rcases brStep_cases hs with ⟨_, rfl⟩ | ⟨_, n, c, h2, _, rfl⟩
            · simp
            · simp
          simp
          omega
    have := this aa [] bs h
    simp at this hn
    omega
theorem bumps_append : ∀ a b : List (List Nat), bumps (a ++ b) = bumps a ++ bumps b
  | [], b => rfl
  | x :: a, b => by simp [bumps, bumps_append a b]
theorem bump_append : ∀ a b : List Nat, bump (a ++ b) = bump a ++ bump b
  | [], b => rfl
  | x :: a, b => by simp [bump, bump_append a b]
end Go.Proofs.Ytnlaoainhlfemaa

set_option linter.unusedVariables false
set_option linter.unusedSimpArgs false
namespace Go.Proofs.Ytnlaoainhlfemaa
open Go.RowKit

set_option maxHeartbeats 400000 in
theorem i_inRange (n lo hi : Int) (w : World) :
    Calls Try.prog 64 #[.int .i64 n, .int .i64 lo, .int .i64 hi] w fun e w' => e = .returned (.bool (inR n lo hi)) ∧ w = w' := by
  by_cases h1 : lo ≤ n
  · by_cases h2 : n ≤ hi
    · go_enter Try.func64, Try.ntmps64
      go_wp2
      go_ret
      exact ⟨ret_bool (by simp [inR, h1, h2]), rfl⟩
    · go_enter Try.func64, Try.ntmps64
      go_wp2
      go_ret
      exact ⟨ret_bool (by simp [inR, h1, h2]), rfl⟩
  · go_enter Try.func64, Try.ntmps64
    go_wp2
    go_ret
    exact ⟨ret_bool (by simp [inR]; omega), rfl⟩

set_option maxHeartbeats 400000 in
theorem s_l01In (n lo hi : Int) (w : World) :
    Calls Try.prog 127 #[.int .i64 n, .int .i64 lo, .int .i64 hi] w fun e w' => e = .returned (.bool (inR n lo hi)) ∧ w = w' := by
  by_cases h1 : lo ≤ n
  · by_cases h2 : n ≤ hi
    · go_enter Try.func127, Try.ntmps127
      go_wp2
      go_ret
      exact ⟨ret_bool (by simp [inR, h1, h2]), rfl⟩
    · go_enter Try.func127, Try.ntmps127
      go_wp2
      go_ret
      exact ⟨ret_bool (by simp [inR, h1, h2]), rfl⟩
  · go_enter Try.func127, Try.ntmps127
    go_wp2
    go_ret
    exact ⟨ret_bool (by simp [inR]; omega), rfl⟩

end Go.Proofs.Ytnlaoainhlfemaa

set_option linter.unusedVariables false
set_option linter.unusedSimpArgs false
namespace Go.Proofs.Ytnlaoainhlfemaa
open Go.RowKit

end Go.Proofs.Ytnlaoainhlfemaa

set_option maxRecDepth 100000
set_option linter.unusedVariables false
set_option linter.unusedSimpArgs false
namespace Go.Proofs.Ytnlaoainhlfemaa
open Go.RowKit

/-- a monomial: the factor and the powers -/
abbrev Mono := Int × List Int
/-- a monomial that can be read -/
def MonoArg (w : World) (v : Value) (m : Mono) : Prop := ∃ u, v = .agg #[.int .i64 m.1, u] ∧ In64 m.1 ∧ Ints w u m.2
theorem MonoArg.below {w w' : World} {v : Value} {m : Mono} (h : MonoArg w v m) (hb : Below w.heap.size w w') : MonoArg w' v m := by
  obtain ⟨u, rfl, h1, h2⟩ := h
  exact ⟨u, rfl, h1, h2.below hb⟩

end Go.Proofs.Ytnlaoainhlfemaa

set_option maxRecDepth 100000
set_option linter.unusedVariables false
set_option linter.unusedSimpArgs false
namespace Go.Proofs.Ytnlaoainhlfemaa
open Go.RowKit

/-- a list of monomials that can be read -/
def Monos (w : World) (v : Value) (ms : List Mono) : Prop :=
  ∃ A c, v = .slice A ms.length c ∧ ms.length ≤ c ∧ c ≤ maxLen ∧ ∀ (k : Nat) (m : Mono), ms[k]? = some m → ∃ b o u, A = some ⟨b, o, none⟩ ∧ In64 m.1 ∧ Ints w u m.2 ∧ w.cell? ⟨b, o + k * 2, none⟩ = some (.int .i64 m.1) ∧ w.cell? ⟨b, o + k * 2 + 1, none⟩ = some u
theorem Monos.below {w w' : World} {v : Value} {ms : List Mono} (h : Monos w v ms) (hb : Below w.heap.size w w') : Monos w' v ms := by
  obtain ⟨A, c, rfl, h1, h2, h3⟩ := h
  refine ⟨A, c, rfl, h1, h2, fun k m hm => ?_⟩
  obtain ⟨b, o, u, hA, hf, hu, hc, hc'⟩ := h3 k m hm
  refine ⟨b, o, u, hA, hf, hu.below hb, ?_, ?_⟩
  · rw [hb.cell (World.block_lt_of_cell? w _ hc)]; exact hc
  · rw [hb.cell (World.block_lt_of_cell? w _ hc')]; exact hc'
theorem Monos.open_ {w : World} {v : Value} {ms : List Mono} (h : Monos w v ms) : ∃ A c, v = .slice A ms.length c ∧ ms.length ≤ c ∧ c ≤ 9223372036854775807 ∧ ∀ (k : Nat), k < ms.length → ∃ b o m u, A = some ⟨b, o, none⟩ ∧ ms[k]? = some m ∧ In64 m.1 ∧ Ints w u m.2 ∧ w.cell? ⟨b, o + k * 2, none⟩ = some (.int .i64 m.1) ∧ w.cell? ⟨b, o + k * 2 + 1, none⟩ = some u := by
  obtain ⟨A, c, rfl, h1, h2, h3⟩ := h
  refine ⟨A, c, rfl, h1, by simpa [maxLen] using h2, fun k hk => ?_⟩
  obtain ⟨b, o, u, hA, hf, hu, hc, hc'⟩ := h3 k ms[k] (List.getElem?_eq_getElem hk)
  exact ⟨b, o, ms[k], u, hA, List.getElem?_eq_getElem hk, hf, hu, hc, hc'⟩
/-- lists of monomials that can be read -/
def MRows (w : World) (v : Value) (pss : List (List Mono)) : Prop :=
  ∃ vs, Cells w v vs ∧ vs.length = pss.length ∧ ∀ (k : Nat) (u : Value) (ms : List Mono), vs[k]? = some u → pss[k]? = some ms → Monos w u ms
theorem MRows.below {w w' : World} {v : Value} {pss : List (List Mono)} (h : MRows w v pss) (hb : Below w.heap.size w w') : MRows w' v pss := by
  obtain ⟨vs, h1, h2, h3⟩ := h
  exact ⟨vs, h1.below hb, h2, fun k u ms hu hm => (h3 k u ms hu hm).below hb⟩
theorem MRows.open_ {w : World} {v : Value} {pss : List (List Mono)} (h : MRows w v pss) : ∃ A c, v = .slice A pss.length c ∧ pss.length ≤ c ∧ c ≤ 9223372036854775807 ∧ ∀ (k : Nat), k < pss.length → ∃ ad u ms, A = some ad ∧ pss[k]? = some ms ∧ Monos w u ms ∧ w.cell? (ad.add k) = some u := by
  obtain ⟨vs, ⟨A, c, rfl, h1, h2, h3⟩, h4, h5⟩ := h
  rw [h4] at h1 ⊢
  refine ⟨A, c, rfl, h1, by simpa [maxLen] using h2, fun k hk => ?_⟩
  have hv : vs[k]? = some (vs[k]'(by rw [h4]; exact hk)) := List.getElem?_eq_getElem _
  obtain ⟨ad, hA, hc⟩ := h3 k _ hv
  exact ⟨ad, _, pss[k], hA, List.getElem?_eq_getElem hk, h5 k _ _ hv (List.getElem?_eq_getElem hk), hc⟩
end Go.Proofs.Ytnlaoainhlfemaa

set_option maxRecDepth 100000
set_option linter.unusedVariables false
set_option linter.unusedSimpArgs false
namespace Go.Proofs.Ytnlaoainhlfemaa
open Go.RowKit

end Go.Proofs.Ytnlaoainhlfemaa

set_option maxRecDepth 100000
set_option linter.unusedVariables false
set_option linter.unusedSimpArgs false
namespace Go.Proofs.Ytnlaoainhlfemaa
open Go.RowKit

theorem quiet_lessF {w : World} {n : Nat} {v v' : Value} {a b : List Int} (h : Ints w v a) (h' : Ints w v' b) :
    Calls Try.prog 132 #[v, v'] (w.drewN n) fun e w'' => e = .returned (.bool (lessL a b)) ∧ ∃ m, w'' = w.drewN m :=
  (s_l01Less _ _ _ a b (h.drewN n) (h'.drewN n)).mono fun _ _ ⟨he, m, hm⟩ => ⟨he, n + m, by rw [hm, World.drewN_drewN]⟩

end Go.Proofs.Ytnlaoainhlfemaa

set_option maxRecDepth 100000
set_option linter.unusedVariables false
set_option linter.unusedSimpArgs false
namespace Go.Proofs.Ytnlaoainhlfemaa
open Go.RowKit

section
variable {w : World} {B : Nat} {vs us : List Value} {xss yss : List (List Int)}
theorem RR.append (h : RR w B vs xss) (h' : RR w B us yss) : RR w B (vs ++ us) (xss ++ yss) := by
  refine ⟨by simp [h.1, h'.1], fun k u zs hu hz => ?_⟩
  by_cases hlt : k < vs.length
  · rw [List.getElem?_append_left hlt] at hu
    rw [List.getElem?_append_left (by rw [← h.1]; exact hlt)] at hz
    exact h.2 k u zs hu hz
  · rw [List.getElem?_append_right (by omega)] at hu
    rw [List.getElem?_append_right (by rw [← h.1]; omega), ← h.1] at hz
    exact h'.2 _ u zs hu hz
theorem RR.take (h : RR w B vs xss) (k : Nat) : RR w B (vs.take k) (xss.take k) := by
  refine ⟨by simp [h.1], fun j u zs hu hz => ?_⟩
  rw [List.getElem?_take] at hu hz
  split at hu
  · rw [if_pos (by assumption)] at hz
    exact h.2 j u zs hu hz
  · cases hu
theorem RR.drop (h : RR w B vs xss) (k : Nat) : RR w B (vs.drop k) (xss.drop k) := by
  refine ⟨by simp [h.1], fun j u zs hu hz => ?_⟩
  rw [List.getElem?_drop] at hu hz
  exact h.2 _ u zs hu hz
theorem RR.one {u : Value} {zs : List Int} (h : OwnInts w B tI u zs) : RR w B [u] [zs] := (RR.nil w B).snoc h
theorem RR.insert {u : Value} {zs : List Int} (h : RR w B vs xss) (hu : OwnInts w B tI u zs) (k : Nat) : RR w B ([] ++ vs.take k ++ ([u] ++ vs.drop k)) (xss.take k ++ zs :: xss.drop k) :=
  (h.take k).append ((RR.one hu).append (h.drop k))
end

/-- 's[k:]' and 's[:k]' of a list of lists -/
theorem cells_from {w : World} {A : Option Addr} {n c : Nat} {vs : List Value} (h : Cells w (.slice A n c) vs) (hn : n = vs.length) (k : Nat) (hk : k ≤ vs.length) :
    ∃ y, (∀ W, (Instr.slice 24 (.slice A n c) (some (.int .i64 k)) none none).run Try.prog W = .ok y W) ∧ Cells w y (vs.drop k) := by
  obtain ⟨X, h1, h2⟩ := sliced_cells h (k := k) (m := vs.length) hk (Nat.le_refl _)
  rw [List.take_length] at h2
  exact ⟨_, fun W => by rw [sl_from Try.underlying24 sizeL W A n c k k rfl (by omega), hn, h1], h2⟩
theorem cells_to {w : World} {A : Option Addr} {n c : Nat} {vs : List Value} (h : Cells w (.slice A n c) vs) (hc : n ≤ c) (hn : n = vs.length) (k : Nat) (hk : k ≤ vs.length) :
    ∃ y, (∀ W, (Instr.slice 24 (.slice A n c) none (some (.int .i64 k)) none).run Try.prog W = .ok y W) ∧ Cells w y (vs.take k) := by
  obtain ⟨X, h1, h2⟩ := sliced_cells h (k := 0) (m := k) (Nat.zero_le _) hk
  simp only [List.drop_zero] at h2
  exact ⟨_, fun W => by rw [sl_to Try.underlying24 sizeL W A n c k k rfl (by omega), h1], h2⟩
theorem bdA (w : World) (n : Nat) (o : Obj) : Below w.heap.size w ((w.drewN n).alloc o) := (below_drewN (Below.refl _ _) n).alloc (Nat.le_refl _) _

set_option maxHeartbeats 8000000 in
theorem s_l03Canon : ∀ (f : Nat) (w : World) (v : Value) (t r : List Nat), Ints w v (up t) → canO f t = some r → t.length ≤ 1000 → (∀ l ∈ t, l ≤ 1000000) →
    Calls Try.prog 81 #[v] w fun e w' => ∃ x, e = .returned x ∧ OwnInts w' w.heap.size tI x (up r) ∧ Below w.heap.size w w' := by
  intro f
  induction f with
  | zero => intro w v t r _ h; cases h
  | succ f ih =>
    intro w v t r ha hcan hn hl
    obtain ⟨bs, cs, hb, hm, hr⟩ := canO_parts hcan
    have IH := Lib.hid ih
    have HA := Lib.hid ha
    have HB := Lib.hid hb
    have HM := Lib.hid hm
    have HR := Lib.hid hr
    have HL := Lib.hid hl
    have HLE := Lib.hid (brO_lens hb hn)
    have HLM := Lib.hid (brO_mem hb hl)
    have HRL := Lib.hid (show r.length ≤ 1000 by rw [canO_len hcan]; exact hn)
    have HCL := Lib.hid (mapO_len hm)
    have hbl : bs.length ≤ 1000 := HLE.out.1
    obtain ⟨A, c, rfl, -, -, -⟩ := ha.open_
    rw [up_len] at HA ⊢
    clear ih ha hb hm hr hl hcan
    go_enter Try.func81, Try.ntmps81
    go_wp2_with (go_at_call 131; refine (s_l03Parts _ _ t bs HA.out HB.out hn HL.out).mono ?_; rintro e w1 ⟨r1, rfl, ho1, hb1⟩; have HP := Lib.hid ho1.rows; have HB1 := Lib.hid hb1; obtain ⟨A1, c1, hr1, -, -, hrow1⟩ := ho1.rows.open_; rw [List.length_map] at hr1 hrow1; subst hr1; have HROW := Lib.hid hrow1; have OL := Lib.hid (show Own (w1.alloc (.cells #[] tL)) w1.heap.size tL (.slice (some ⟨w1.heap.size, 0, none⟩) 0 0) [] from own_lit w1 tL [] (by simp [maxLen])); clear ho1 hb1 hrow1)
    go_loopw [4, 5, 6, 7, 8] (fun sv i s6 s7 s8 wr => ∃ (j : Nat) (vs : List Value), j ≤ bs.length ∧ i = .int .i64 j ∧ Own wr w1.heap.size tL sv vs ∧ RR wr w1.heap.size vs ((srtF [] (cs.take j)).map up) ∧ Below w1.heap.size w1 wr) (fun _ i _ _ _ _ => bs.length - (intOf i).toNat)
    case atStart => exact ⟨0, [], Nat.zero_le _, rfl, OL.out, RR.nil _ _, below1 _ _⟩
    case round =>
      obtain ⟨j, vs, hj, rfl, hown, hrr, hbw⟩ := hrel
      clear OL
      have HO := Lib.hid hown
      have HRR := Lib.hid hrr
      have HBW := Lib.hid hbw
      obtain ⟨A2, c2, rfl, k1, k2⟩ := hown.cells.open_
      have hvl : vs.length = j := by rw [hrr.1, List.length_map, len_srtF, List.length_take, HCL.out]; simp; omega
      have HVL := Lib.hid hvl
      have HSL := Lib.hid (show (srtF [] (cs.take j)).length = j by rw [len_srtF, List.length_take, HCL.out]; simp; omega)
      rw [hvl] at HO k1 ⊢
      clear hown hrr hbw hvl
      by_cases hlt : j < bs.length
      · obtain ⟨ad, u, zs, rfl, hz, hu, hc0⟩ := HROW.out j hlt
        have hc : wr.cell? (ad.add j) = some u := by
          rw [HBW.out.cell (by rw [block_add]; have := World.block_lt_of_cell? w1 _ hc0; rwa [block_add] at this)]; exact hc0
        have hbj : bs[j]? = some (bs[j]'hlt) := List.getElem?_eq_getElem _
        obtain ⟨cj, hcj, hcan⟩ := mapO_get HM.out j _ hbj
        have hzb : zs = up (bs[j]'hlt) := by rw [List.getElem?_map, hbj] at hz; injection hz with hz; exact hz.symm
        subst hzb
        have HU := Lib.hid (hu.below HBW.out)
        have HCAN := Lib.hid hcan
        have HSN := Lib.hid (show srtF [] (cs.take (j + 1)) = insD cj (srtF [] (cs.take j)) by rw [List.take_add_one, hcj]; exact srtF_snoc _ _ _)
        have HBJ1 := Lib.hid (HLE.out.2 _ (List.mem_of_getElem? hbj))
        have HBJ2 := Lib.hid (HLM.out _ (List.mem_of_getElem? hbj))
        have hji : (j : Int) < (bs.length : Int) := by omega
        generalize hss : srtF [] (cs.take j) = ss at HRR HSN HSL
        generalize bs[j]'hlt = bj at HU HCAN HBJ1 HBJ2
        clear hz hu hc0 hbj hcj hcan hss
        go_wp2_with (go_at_call 81; refine (IH.out _ _ _ _ HU.out HCAN.out HBJ1.out HBJ2.out).mono ?_; rintro e w2 ⟨r2, rfl, ho2, hb2⟩; obtain ⟨A5, c5, he5, -, -, -⟩ := ho2.ints.open_; rw [up_len] at he5; subst he5; have HO2 := Lib.hid ho2; have HB2 := Lib.hid hb2; clear ho2 hb2)
        have HIN := Lib.hid (insD_at cj ss)
        have HST := Lib.hid (insAt_step cj ss)
        have HAL := Lib.hid (show insAt cj ss ≤ j from by have := insAt_le cj ss; rw [HSL.out] at this; exact this)
        have hj1 : j ≤ 1000 := by omega
        have HOW2 := Lib.hid (HO.out.below HB2.out)
        have HONE := Lib.hid HRR.out.oneCell
        generalize insAt cj ss = a at HIN HST HAL
        go_loopw [7] (fun i wi => ∃ (k n : Nat), k ≤ a ∧ i = .int .i64 k ∧ wi = w2.drewN n) (fun i _ => a - (intOf i).toNat)
        case atStart => exact ⟨0, 0, Nat.zero_le _, rfl, rfl⟩
        case round =>
          obtain ⟨k, n, hk, rfl, rfl⟩ := hrel
          have hrow : k < j → ∃ ad' u' q, A2 = some ad' ∧ w2.cell? (ad'.add k) = some u' ∧ Ints w2 u' (up q) ∧ ss[k]? = some q := by
            intro hkj
            have hu' : vs[k]? = some (vs[k]'(by rw [HVL.out]; exact hkj)) := List.getElem?_eq_getElem _
            have hq : ss[k]? = some (ss[k]'(by rw [HSL.out]; exact hkj)) := List.getElem?_eq_getElem _
            have hi := HRR.out.2 k _ _ hu' (by rw [List.getElem?_map, hq]; rfl)
            obtain ⟨ad', n', c', he, hc'⟩ := HOW2.out.cells.at_ hu'
            simp only [Value.slice.injEq] at he
            exact ⟨ad', _, _, he.1, hc', (hi.below HB2.out).ints, hq⟩
          by_cases hlt2 : k < a
          · obtain ⟨ad', u', q, rfl, hc', hq1, hq2⟩ := hrow (by have := HAL.out; omega)
            have hless : ltN q cj = false := by
              rcases HST.out k q (by omega) hq2 with ⟨_, h⟩ | ⟨h, _⟩
              · omega
              · exact h
            have HQ := Lib.hid hq1
            have hkj : (k : Int) < (j : Int) := by have := HAL.out; omega
            clear hq1 hq2 hrow
            go_wp2_with (go_at_call 132; refine (quiet_lessF HQ.out HO2.out.ints).mono ?_; rintro e w3 ⟨rfl, n3, rfl⟩; rw [lessL_up, hless])
            go_roundw
            case rel => exact ⟨k + 1, n3, by omega, by go_num, rfl⟩
            case measure => simp [intOf]; omega
          · have hka : a = k := by omega
            subst hka
            have haj := HAL.out
            obtain ⟨y1, hy1, hcy1⟩ := cells_from HOW2.out.cells HVL.out.symm a (by rw [HVL.out]; exact haj)
            obtain ⟨y2, hy2, hcy2⟩ := cells_to HOW2.out.cells k1 HVL.out.symm a (by rw [HVL.out]; exact haj)
            have HCY1 := Lib.hid hcy1
            have HCY2 := Lib.hid hcy2
            have hcase : (∃ ad' u' q, A2 = some ad' ∧ w2.cell? (ad'.add a) = some u' ∧ Ints w2 u' (up q) ∧ ltN q cj = true ∧ (a : Int) < (j : Int)) ∨ j = a := by
              by_cases h : a < j
              · obtain ⟨ad', u', q, h1, h2, h3, h4⟩ := hrow h
                refine .inl ⟨ad', u', q, h1, h2, h3, ?_, by omega⟩
                rcases HST.out a q (Nat.le_refl _) h4 with ⟨h, _⟩ | ⟨_, h⟩
                · exact h
                · omega
              · exact .inr (by omega)
            clear hcy1 hcy2 hrow hlt2 hk
            rcases hcase with ⟨ad', u', q, rfl, hc', hq1, hless, hkj⟩ | rfl
            · have HQ := Lib.hid hq1
              clear hq1
              go_wp2_with (first
                | (go_at_call 132; refine (quiet_lessF HQ.out HO2.out.ints).mono ?_; rintro e w3 ⟨rfl, n3, rfl⟩; rw [lessL_up, hless])
                | (at_builtin; refine wpList_appN T_row (B := w2.heap.size) (v := .slice (some ⟨w2.heap.size, 0, none⟩) 1 1) (vs := [.slice A5 cj.length c5]) (own_lit _ tL [.slice A5 cj.length c5] (by simp [maxLen])) (HCY1.out.below (bdA _ _ _)) (by have h := HVL.out; simp only [List.length_drop, List.length_cons, List.length_nil, h]; omega) (by simp) (fun u hu => HONE.out u (List.mem_of_mem_drop hu)) (by rfl) rfl (by rfl) (by rfl) ?_; intro v1 w3 hown1 hgr1; have HB3 := Lib.hid (hgr1.below (bdA _ _ _) (bdA _ _ _).size (fun b hb => by simp [Value.ownBlock] at hb; omega)); clear hgr1)
                | (at_builtin; refine wpList_appN T_row (B := w3.heap.size) (v := .slice (some ⟨w3.heap.size, 0, none⟩) 0 0) (vs := []) (own_lit w3 tL [] (by simp [maxLen])) ((HCY2.out.below HB3.out).below (below1 w3 _)) (by have h := HVL.out; simp only [List.length_take, List.length_nil, h]; omega) (by simp) (fun u hu => HONE.out u (List.mem_of_mem_take hu)) (by rfl) rfl (by rfl) (by rfl) ?_; intro v2 w4 hown2 hgr2; have HB4 := Lib.hid (hgr2.below (below1 w3 _) (below1 w3 _).size (fun b hb => by simp [Value.ownBlock] at hb; omega)); clear hgr2)
                | (at_builtin; refine wpList_appN T_row (B := w3.heap.size) (v := v2) hown2 (hown1.below HB4.out).cells (by have h := HVL.out; simp only [List.length_append, List.length_take, List.length_drop, List.length_cons, List.length_nil, h]; omega) HB4.out.size (fun u hu => by rcases List.mem_append.1 hu with hu | hu; (simp at hu; subst hu; exact (RR.one HO2.out).oneCell _ (by simp)); exact HONE.out u (List.mem_of_mem_drop hu)) (by rfl) rfl (by rfl) (by rfl) ?_; intro v3 w5 hown3 hgr3; have HB5 := Lib.hid (hgr3.below HB4.out HB4.out.size hown2.ge); clear hgr3))
              go_roundw
              case rel =>
                have b25 := HB3.out.trans (HB5.out.mono HB3.out.size)
                have bw5 := HB2.out.trans (b25.mono HB2.out.size)
                refine ⟨j + 1, _, by omega, by go_num, hown3.mono (Nat.le_trans HBW.out.size (Nat.le_trans HB2.out.size HB3.out.size)), ?_, HBW.out.trans (bw5.mono HBW.out.size)⟩
                rw [HSN.out, HIN.out, List.map_append, List.map_cons, List.map_take, List.map_drop]
                exact (HRR.out.below bw5).insert ((HO2.out.below b25).mono HBW.out.size) _
              case measure => simp [intOf]; omega
            · clear hc
              go_wp2_with (first
                | (at_builtin; refine wpList_appN T_row (B := w2.heap.size) (v := .slice (some ⟨w2.heap.size, 0, none⟩) 1 1) (vs := [.slice A5 cj.length c5]) (own_lit _ tL [.slice A5 cj.length c5] (by simp [maxLen])) (HCY1.out.below (bdA _ _ _)) (by have h := HVL.out; simp only [List.length_drop, List.length_cons, List.length_nil, h]; omega) (by simp) (fun u hu => HONE.out u (List.mem_of_mem_drop hu)) (by rfl) rfl (by rfl) (by rfl) ?_; intro v1 w3 hown1 hgr1; have HB3 := Lib.hid (hgr1.below (bdA _ _ _) (bdA _ _ _).size (fun b hb => by simp [Value.ownBlock] at hb; omega)); clear hgr1)
                | (at_builtin; refine wpList_appN T_row (B := w3.heap.size) (v := .slice (some ⟨w3.heap.size, 0, none⟩) 0 0) (vs := []) (own_lit w3 tL [] (by simp [maxLen])) ((HCY2.out.below HB3.out).below (below1 w3 _)) (by have h := HVL.out; simp only [List.length_take, List.length_nil, h]; omega) (by simp) (fun u hu => HONE.out u (List.mem_of_mem_take hu)) (by rfl) rfl (by rfl) (by rfl) ?_; intro v2 w4 hown2 hgr2; have HB4 := Lib.hid (hgr2.below (below1 w3 _) (below1 w3 _).size (fun b hb => by simp [Value.ownBlock] at hb; omega)); clear hgr2)
                | (at_builtin; refine wpList_appN T_row (B := w3.heap.size) (v := v2) hown2 (hown1.below HB4.out).cells (by have h := HVL.out; simp only [List.length_append, List.length_take, List.length_drop, List.length_cons, List.length_nil, h]; omega) HB4.out.size (fun u hu => by rcases List.mem_append.1 hu with hu | hu; (simp at hu; subst hu; exact (RR.one HO2.out).oneCell _ (by simp)); exact HONE.out u (List.mem_of_mem_drop hu)) (by rfl) rfl (by rfl) (by rfl) ?_; intro v3 w5 hown3 hgr3; have HB5 := Lib.hid (hgr3.below HB4.out HB4.out.size hown2.ge); clear hgr3))
              go_roundw
              case rel =>
                have b25 := HB3.out.trans (HB5.out.mono HB3.out.size)
                have bw5 := HB2.out.trans (b25.mono HB2.out.size)
                refine ⟨j + 1, _, by omega, by go_num, hown3.mono (Nat.le_trans HBW.out.size (Nat.le_trans HB2.out.size HB3.out.size)), ?_, HBW.out.trans (bw5.mono HBW.out.size)⟩
                rw [HSN.out, HIN.out, List.map_append, List.map_cons, List.map_take, List.map_drop]
                exact (HRR.out.below bw5).insert ((HO2.out.below b25).mono HBW.out.size) _
              case measure => simp [intOf]; omega
      · have : j = bs.length := by omega
        subst this
        have HE := Lib.hid (show rootN (srtF [] (cs.take bs.length)) = r by rw [← HCL.out, List.take_length]; exact HR.out.symm)
        have HSB := Lib.hid (show ∀ q ∈ srtF [] (cs.take bs.length), q.length ≤ 1000 ∧ ∀ l ∈ q, l < 1000 from fun q hq => by
          rcases mem_srtF hq with h | h
          · simp at h
          · obtain ⟨x, hx, hxq⟩ := mapO_all HM.out q (List.mem_of_mem_take h)
            have h1 := canO_len hxq
            have h2 := HLE.out.2 x hx
            exact ⟨by omega, fun l hl => by have := canO_lt hxq l hl; omega⟩)
        generalize hss : srtF [] (cs.take bs.length) = ss at HRR HSL HE HSB
        have HBT := Lib.hid (show ∀ j, brLen (ss.take j) ≤ 1000 from fun j => by
          have h1 := congrArg brLen (List.take_append_drop j ss)
          have h2 := HRL.out
          rw [← HE.out, rootN, List.length_cons, bumps_len] at h2
          rw [brLen_append] at h1
          omega)
        have OL2 := Lib.hid (show OwnInts (wr.alloc (.cells #[.int .i64 0] tI)) wr.heap.size tI (.slice (some ⟨wr.heap.size, 0, none⟩) 1 1) [0] from ⟨own_lit wr tI [.int .i64 0] (by simp [maxLen]), fun z hz => by simp at hz; subst hz; unfold In64; omega⟩)
        clear hss
        go_wp2_with fail
        obtain ⟨w3, rfl⟩ : ∃ w3 : World, w3 = wr := ⟨_, rfl⟩
        go_loopw [9, 10, 11] (fun o i s11 wq => ∃ j : Nat, j ≤ bs.length ∧ i = .int .i64 j ∧ OwnInts wq w3.heap.size tI o (up (0 :: bumps (ss.take j))) ∧ Below w3.heap.size w3 wq) (fun _ i _ _ => bs.length - (intOf i).toNat)
        case atStart => exact ⟨0, Nat.zero_le _, rfl, by simpa [up, bumps] using OL2.out, below1 _ _⟩
        case round =>
          obtain ⟨j, hj, rfl, ho, hb⟩ := hrel
          clear OL2
          have HOI := Lib.hid ho
          have HBQ := Lib.hid hb
          clear ho hb
          by_cases hlt : j < bs.length
          · have hu' : vs[j]? = some (vs[j]'(by rw [HVL.out]; exact hlt)) := List.getElem?_eq_getElem _
            have hq : ss[j]? = some (ss[j]'(by rw [HSL.out]; exact hlt)) := List.getElem?_eq_getElem _
            have hi := HRR.out.2 j _ _ hu' (by rw [List.getElem?_map, hq]; rfl)
            obtain ⟨ad', n', c', he, hc'⟩ := HO.out.cells.at_ hu'
            simp only [Value.slice.injEq] at he
            obtain ⟨rfl, -, -⟩ := he
            obtain ⟨Aq, cq, heq, l1, l2, hcq⟩ := hi.ints.open_
            have HQB := Lib.hid (HSB.out _ (List.mem_of_getElem? hq))
            have HSN := Lib.hid (show ss.take (j + 1) = ss.take j ++ [ss[j]'(by rw [HSL.out]; exact hlt)] by rw [List.take_add_one, hq]; rfl)
            rw [heq] at hc'
            generalize ss[j]'(by rw [HSL.out]; exact hlt) = q at HQB HSN hc' hcq l1
            rw [up_len] at hc' hcq l1
            have HCU := Lib.hid (show ∀ W : World, Below w3.heap.size w3 W → W.cell? (ad'.add j) = some (.slice Aq q.length cq) from fun W hW => by rw [hW.cell (by rw [block_add]; have := World.block_lt_of_cell? w3 _ hc'; rwa [block_add] at this)]; exact hc')
            have HCQ := Lib.hid hcq
            have hji : (j : Int) < (bs.length : Int) := by omega
            clear hu' hq hi hc' heq hcq
            go_wp2_with fail
            obtain ⟨wo, rfl⟩ : ∃ wo : World, wo = wr := ⟨_, rfl⟩
            go_loopw [9, 11] (fun o i wi => ∃ k : Nat, k ≤ q.length ∧ i = .int .i64 k ∧ OwnInts wi w3.heap.size tI o (up (0 :: bumps (ss.take j) ++ bump (q.take k))) ∧ Below w3.heap.size w3 wi) (fun _ i _ => q.length - (intOf i).toNat)
            case atStart => exact ⟨0, Nat.zero_le _, rfl, by simpa [bump] using HOI.out, HBQ.out⟩
            case round =>
              obtain ⟨k, hk, rfl, ho, hb⟩ := hrel
              clear HOI HBQ
              have HOI := Lib.hid ho
              have HBQ := Lib.hid hb
              have hcu := HCU.out _ hb
              clear ho hb
              by_cases hlt2 : k < q.length
              · obtain ⟨aq, z, rfl, hz, -, hcz0⟩ := HCQ.out k hlt2
                obtain ⟨l, hlk, hzl⟩ := up_getD hz
                have hcz : wr.cell? (aq.add k) = some (.int .i64 z) := by
                  rw [HBQ.out.cell (by rw [block_add]; have := World.block_lt_of_cell? w3 _ hcz0; rwa [block_add] at this)]; exact hcz0
                have hl1 := HQB.out.2 l (List.mem_of_getElem? hlk)
                have hwz : IntKind.i64.wrap (z + 1) = z + 1 := IntWalk.i64_in _ (by omega)
                have hz64 : In64 (z + 1) := by unfold In64; omega
                have HTK := Lib.hid (show bump (q.take (k + 1)) = bump (q.take k) ++ [l + 1] by rw [List.take_add_one, hlk, bump_append]; rfl)
                have HZL := Lib.hid hzl
                have HLN := Lib.hid (show (up (0 :: bumps (ss.take j) ++ bump (q.take k))).length ≤ 1000000 by
                  have h1 := HBT.out j
                  have h2 := HQB.out.1
                  rw [up_len, List.length_append, List.length_cons, bumps_len, bump_len, List.length_take]
                  omega)
                have hki : (k : Int) < (q.length : Int) := by omega
                clear hz hlk hcz0 hzl hl1
                go_wp2_with (at_builtin; refine wpList_app1 T_int HOI.out.1 (by rw [ints_len]; have := HLN.out; omega) HBQ.out.size (by rfl) rfl (by rfl) (by rfl) (by rfl) ?_; intro v1 w5 hown1 hgr1; have HN := Lib.hid hown1; have HB5 := Lib.hid (hgr1.below HBQ.out HBQ.out.size HOI.out.1.ge); clear hown1 hgr1)
                go_roundw
                case rel =>
                  refine ⟨k + 1, by omega, by go_num, ?_, HB5.out⟩
                  have e : up (0 :: bumps (ss.take j) ++ bump (q.take (k + 1))) = up (0 :: bumps (ss.take j) ++ bump (q.take k)) ++ [z + 1] := by
                    rw [HTK.out, ← List.append_assoc, up_append, HZL.out]; rfl
                  rw [e]
                  exact ⟨by simpa [ints] using HN.out, fun y hy => by rcases List.mem_append.1 hy with hy | hy; exact HOI.out.2 y hy; simp at hy; subst hy; exact hz64⟩
                case measure => simp [intOf]; omega
              · have : k = q.length := by omega
                subst this
                have e : up (0 :: bumps (ss.take j) ++ bump (q.take q.length)) = up (0 :: bumps (ss.take (j + 1))) := by
                  rw [List.take_length, HSN.out, bumps_append]; simp [bumps]
                have HOI2 := Lib.hid (e ▸ HOI.out)
                clear HOI e
                go_wp2_with fail
                go_roundw
                case rel => exact ⟨j + 1, by omega, by go_num, HOI2.out, HBQ.out⟩
                case measure => simp [intOf]; omega
          · have : j = bs.length := by omega
            subst this
            go_wp2_with fail
            go_ret
            have hfin := HOI.out
            rw [← HSL.out, List.take_length] at hfin
            have hr : up (0 :: bumps ss) = up r := by rw [← HE.out]; rfl
            rw [hr] at hfin
            have b13 := HBW.out.trans (HBQ.out.mono HBW.out.size)
            exact ⟨_, rfl, hfin.mono (Nat.le_trans HB1.out.size HBW.out.size), HB1.out.trans (b13.mono HB1.out.size)⟩
end Go.Proofs.Ytnlaoainhlfemaa

