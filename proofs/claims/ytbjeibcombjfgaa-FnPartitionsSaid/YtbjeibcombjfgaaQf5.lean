/- Plain: the order of trees, and lists of trees in it. | Walks of tests: in a range, a number, all numbers. | The walk of the program's length at lists of numbers. | Monomials: words of memory; walks of isMonomial of the program and l13Degree of the reference. | Monomials and fields that came in: words of memory. No program in sight. | Fields, plain: what makes a field. No program in sight. | Walk: l13Is of the reference. -/
import Derived.Test.YtbjeibcombjfgaaQf4
import Derived.Test.YtbjeibcombjfgaaRows
import Derived.Test.YtbjeibcombjfgaaQf1
import Derived.Test.YtbjeibcombjfgaaQf3
import Derived.WalkLawsBesides
import Derived.BigGuardPart
set_option linter.unusedVariables false
set_option linter.unusedSimpArgs false
namespace Go.Proofs.Ytbjeibcombjfgaa

theorem befN_iff (s t : List Nat) : befN s t = true ↔ s.length < t.length ∨ (s.length = t.length ∧ ltN t s = true) := by
  unfold befN
  cases h : Nat.beq s.length t.length with
  | true => have := Nat.eq_of_beq_eq_true h; simp [this]
  | false =>
    have := Nat.ne_of_beq_eq_false h
    simp only [cond_false, blt_iff]
    omega
theorem befN_irrefl (a : List Nat) : befN a a = false := by
  cases h : befN a a with
  | false => rfl
  | true =>
    rcases (befN_iff a a).1 h with h | ⟨-, h⟩
    · omega
    · rw [ltN_irrefl] at h; cases h
theorem befN_trans {a b c : List Nat} (h : befN a b = true) (h' : befN b c = true) : befN a c = true := by
  rw [befN_iff] at *
  rcases h with h | ⟨e, h⟩ <;> rcases h' with h' | ⟨e', h'⟩
  · left; omega
  · left; omega
  · left; omega
  · right; exact ⟨by omega, ltN_trans h' h⟩
theorem befN_tri {a b : List Nat} (h : befN a b = false) (h' : befN b a = false) : a = b := by
  have h1 : ¬ befN a b = true := by rw [h]; decide
  have h2 : ¬ befN b a = true := by rw [h']; decide
  rw [befN_iff] at h1 h2
  have e : a.length = b.length := by omega
  refine ltN_tri ?_ ?_
  · cases hh : ltN a b with
    | false => rfl
    | true => exact absurd (.inr ⟨e.symm, hh⟩) h2
  · cases hh : ltN b a with
    | false => rfl
    | true => exact absurd (.inr ⟨e, hh⟩) h1
theorem befN_asymm {a b : List Nat} (h : befN a b = true) : befN b a = false := by
  cases hh : befN b a with
  | false => rfl
  | true => have := befN_trans h hh; rw [befN_irrefl] at this; cases this
theorem befN_ntrans {a b c : List Nat} (h : befN a b = false) (h' : befN b c = false) : befN a c = false := by
  cases hh : befN a c with
  | false => rfl
  | true =>
    cases hb : befN b a with
    | true => rw [befN_trans hb hh] at h'; cases h'
    | false =>
      have := befN_tri h hb
      subst this
      rw [h'] at hh; cases hh

/-- ascending -/
def Asc (l : List (List Nat)) : Prop := l.Pairwise fun a b => befN b a = false
theorem asc_unique : ∀ {l1 l2 : List (List Nat)}, l1.Perm l2 → Asc l1 → Asc l2 → l1 = l2
  | [], l2, h, _, _ => by simpa using h.symm.eq_nil.symm
  | a :: l1, [], h, _, _ => by simpa using h.eq_nil
  | a :: l1, b :: l2, h, h1, h2 => by
    rw [Asc, List.pairwise_cons] at h1 h2
    have e : a = b := by
      by_cases hab : a = b
      · exact hab
      · have ha : a ∈ b :: l2 := h.mem_iff.1 (by simp)
        have hb : b ∈ a :: l1 := h.mem_iff.2 (by simp)
        have ha2 : a ∈ l2 := by rcases List.mem_cons.1 ha with h | h; exact absurd h hab; exact h
        have hb2 : b ∈ l1 := by rcases List.mem_cons.1 hb with h | h; exact absurd h.symm hab; exact h
        exact befN_tri (h2.1 a ha2) (h1.1 b hb2)
    subst e
    rw [asc_unique h.cons_inv h1.2 h2.2]
/-- a tree put into a forest, behind those that are not behind it -/
def insB (p : List Nat) : List (List Nat) → List (List Nat)
  | [] => [p]
  | q :: qs => bif befN p q then p :: q :: qs else q :: insB p qs
def srtBF (s : List (List Nat)) : List (List Nat) → List (List Nat)
  | [] => s
  | p :: ps => srtBF (insB p s) ps
/-- trees in their order -/
def srtB (ps : List (List Nat)) : List (List Nat) := srtBF [] ps
theorem insB_perm (p : List Nat) : ∀ qs : List (List Nat), (insB p qs).Perm (p :: qs)
  | [] => .refl _
  | q :: qs => by
    rw [insB]
    cases befN p q with
    | true => exact .refl _
    | false => exact ((insB_perm p qs).cons q).trans (.swap p q qs)
theorem mem_insB {p x : List Nat} {qs : List (List Nat)} (h : x ∈ insB p qs) : x = p ∨ x ∈ qs := by
  have := (insB_perm p qs).mem_iff.1 h
  simpa using this
theorem insB_asc {p : List Nat} : ∀ {qs : List (List Nat)}, Asc qs → Asc (insB p qs)
  | [], _ => by simp [insB, Asc]
  | q :: qs, h => by
    rw [Asc, List.pairwise_cons] at h
    rw [insB]
    cases hq : befN p q with
    | true =>
      refine List.pairwise_cons.2 ⟨fun x hx => ?_, List.pairwise_cons.2 h⟩
      rcases List.mem_cons.1 hx with rfl | hx
      · exact befN_asymm hq
      · cases hh : befN x p with
        | false => rfl
        | true => have := h.1 x hx; rw [befN_trans hh hq] at this; cases this
    | false =>
      refine List.pairwise_cons.2 ⟨fun x hx => ?_, insB_asc h.2⟩
      rcases mem_insB hx with rfl | hx
      · exact hq
      · exact h.1 x hx
theorem srtBF_perm : ∀ (s ps : List (List Nat)), (srtBF s ps).Perm (s ++ ps)
  | s, [] => by simp [srtBF]
  | s, p :: ps => by
    rw [srtBF]
    refine (srtBF_perm _ ps).trans ?_
    refine ((insB_perm p s).append_right ps).trans ?_
    exact List.perm_middle.symm
theorem srtBF_asc : ∀ {s ps : List (List Nat)}, Asc s → Asc (srtBF s ps)
  | s, [], h => h
  | s, p :: ps, h => by rw [srtBF]; exact srtBF_asc (s := insB p s) (ps := ps) (insB_asc h)
theorem srtB_unique {l ps : List (List Nat)} (h : l.Perm ps) (hd : Asc l) : l = srtB ps :=
  asc_unique (h.trans (srtBF_perm [] ps).symm) hd (srtBF_asc (by simp [Asc]))
theorem srtB_perm (ps : List (List Nat)) : (srtB ps).Perm ps := srtBF_perm [] ps
theorem srtBF_snoc : ∀ (s ps : List (List Nat)) (p : List Nat), srtBF s (ps ++ [p]) = insB p (srtBF s ps)
  | s, [], p => rfl
  | s, q :: ps, p => by rw [List.cons_append, srtBF, srtBF, srtBF_snoc]
/-- where a tree is put in -/
def insBAt (p : List Nat) : List (List Nat) → Nat
  | [] => 0
  | q :: qs => bif befN p q then 0 else insBAt p qs + 1
theorem insBAt_le (p : List Nat) : ∀ qs : List (List Nat), insBAt p qs ≤ qs.length
  | [] => Nat.le_refl _
  | q :: qs => by rw [insBAt]; cases befN p q <;> simp [insBAt_le p qs]
theorem insB_at (p : List Nat) : ∀ qs : List (List Nat), insB p qs = qs.take (insBAt p qs) ++ p :: qs.drop (insBAt p qs)
  | [] => rfl
  | q :: qs => by rw [insB, insBAt]; cases befN p q <;> simp [insB_at p qs]
theorem insBAt_step (p : List Nat) : ∀ (qs : List (List Nat)) (k : Nat) (q : List Nat), k ≤ insBAt p qs → qs[k]? = some q → (befN p q = true ∧ k = insBAt p qs) ∨ (befN p q = false ∧ k + 1 ≤ insBAt p qs)
  | [], k, q, hk, hq => by simp at hq
  | x :: qs, 0, q, hk, hq => by
    simp at hq; subst hq
    rw [insBAt]
    cases h : befN p x <;> simp
  | x :: qs, k + 1, q, hk, hq => by
    rw [insBAt] at hk ⊢
    cases h : befN p x with
    | true => rw [h] at hk; simp at hk
    | false =>
      rw [h] at hk
      simp only [cond_false] at hk ⊢
      rcases insBAt_step p qs k q (by omega) (by simpa using hq) with ⟨h1, h2⟩ | ⟨h1, h2⟩
      · exact .inl ⟨h1, by omega⟩
      · exact .inr ⟨h1, by omega⟩
end Go.Proofs.Ytbjeibcombjfgaa

set_option linter.unusedVariables false
set_option linter.unusedSimpArgs false
namespace Go.Proofs.Ytbjeibcombjfgaa
open Go.RowKit

set_option maxHeartbeats 400000 in
theorem i_inRange (n lo hi : Int) (w : World) :
    Calls Try.prog 62 #[.int .i64 n, .int .i64 lo, .int .i64 hi] w fun e w' => e = .returned (.bool (inR n lo hi)) ∧ w = w' := by
  by_cases h1 : lo ≤ n
  · by_cases h2 : n ≤ hi
    · go_enter Try.func62, Try.ntmps62
      go_wp2
      go_ret
      exact ⟨ret_bool (by simp [inR, h1, h2]), rfl⟩
    · go_enter Try.func62, Try.ntmps62
      go_wp2
      go_ret
      exact ⟨ret_bool (by simp [inR, h1, h2]), rfl⟩
  · go_enter Try.func62, Try.ntmps62
    go_wp2
    go_ret
    exact ⟨ret_bool (by simp [inR]; omega), rfl⟩

set_option maxHeartbeats 400000 in
theorem s_l01In (n lo hi : Int) (w : World) :
    Calls Try.prog 68 #[.int .i64 n, .int .i64 lo, .int .i64 hi] w fun e w' => e = .returned (.bool (inR n lo hi)) ∧ w = w' := by
  by_cases h1 : lo ≤ n
  · by_cases h2 : n ≤ hi
    · go_enter Try.func68, Try.ntmps68
      go_wp2
      go_ret
      exact ⟨ret_bool (by simp [inR, h1, h2]), rfl⟩
    · go_enter Try.func68, Try.ntmps68
      go_wp2
      go_ret
      exact ⟨ret_bool (by simp [inR, h1, h2]), rfl⟩
  · go_enter Try.func68, Try.ntmps68
    go_wp2
    go_ret
    exact ⟨ret_bool (by simp [inR]; omega), rfl⟩

set_option maxHeartbeats 400000 in
theorem i_IsNumber (n : Int) (w : World) : Calls Try.prog 173 #[.int .i64 n] w fun e w' => e = .returned (.bool (isNum n)) ∧ w = w' := by
  go_enter Try.func173, Try.ntmps173
  go_wp2_with (go_at_call 62; refine (i_inRange _ _ _ _).mono ?_; rintro e w' ⟨rfl, rfl⟩)
  go_ret
  exact ⟨rfl, rfl⟩

set_option maxHeartbeats 400000 in
theorem s_IsNumber (n : Int) (w : World) : Calls Try.prog 166 #[.int .i64 n] w fun e w' => e = .returned (.bool (isNum n)) ∧ w = w' := by
  go_enter Try.func166, Try.ntmps166
  go_wp2_with (go_at_call 68; refine (s_l01In _ _ _ _).mono ?_; rintro e w' ⟨rfl, rfl⟩)
  go_ret
  exact ⟨rfl, rfl⟩

set_option maxHeartbeats 400000 in
theorem i_areNumbers1 (n : Int) (w : World) : Calls Try.prog 172 #[.int .i64 n] w fun e w' => e = .returned (.bool (!isNum n)) ∧ w = w' := by
  go_enter Try.func172, Try.ntmps172
  go_wp2_with (go_at_call 173; refine (i_IsNumber _ _).mono ?_; rintro e w' ⟨rfl, rfl⟩)
  go_ret
  exact ⟨rfl, rfl⟩

set_option maxHeartbeats 400000 in
theorem lib_IndexFuncI (w : World) (v : Value) (zs : List Int) (g : Nat) (p : Int → Bool) (ha : Ints w v zs)
    (hcf : ∀ (args : Array Value) (w : World), Sem.run Try.prog (callFunc g args) w = .ok (.enter g args) w)
    (hp : ∀ z : Int, Calls Try.prog g #[.int .i64 z] w fun e w' => e = .returned (.bool (p z)) ∧ w = w') :
    Calls Try.prog 207 #[v, .func (.func g) #[] #[]] w fun e w' => e = .returned (.int .i64 (idxF p zs)) ∧ w = w' := by
  obtain ⟨A, c, rfl, h1, h2, h3⟩ := ha.open_
  clear ha
  have H3 := Lib.hid h3
  have HP := Lib.hid hp
  clear h3 hp
  go_enter Try.func207, Try.ntmps207
  go_wp2_with fail
  go_loop [8] (fun i => ∃ k : Nat, k ≤ zs.length ∧ i = .int .i64 k ∧ Hid (∀ i y, i < k → zs[i]? = some y → p y = false)) (fun i => zs.length - (intOf i).toNat)
  case atStart => exact ⟨0, Nat.zero_le _, rfl, fun i y h => by omega⟩
  case round =>
    obtain ⟨k, hk, rfl, hI⟩ := hrel
    by_cases hlt : k < zs.length
    · obtain ⟨ad, z, rfl, hz, hz2, hc⟩ := H3.out k hlt
      have HZ := Lib.hid hz
      clear hz hz2
      go_wp2_with fail
      refine (HP.out z).mono ?_
      rintro e w' ⟨rfl, rfl⟩
      go_wp2_with fail
      · have hpz : p z = true := by assumption
        go_ret
        exact ⟨ret_int (idxF_hit hI.out HZ.out hpz).symm, rfl⟩
      · have hpz : p z = false := by assumption
        go_round
        case rel =>
          refine ⟨k + 1, by omega, by go_num, fun i y hi hy => ?_⟩
          by_cases e : i = k
          · subst e
            rw [HZ.out] at hy
            cases hy
            exact hpz
          · exact hI.out i y (by omega) hy
        case measure => simp [intOf]; omega
    · have : k = zs.length := by omega
      subst this
      go_wp2_with fail
      go_ret
      exact ⟨ret_int (idxF_miss hI.out).symm, rfl⟩

set_option maxHeartbeats 400000 in
theorem lib_ContainsFuncI (w : World) (v : Value) (zs : List Int) (g : Nat) (p : Int → Bool) (ha : Ints w v zs)
    (hcf : ∀ (args : Array Value) (w : World), Sem.run Try.prog (callFunc g args) w = .ok (.enter g args) w)
    (hp : ∀ z : Int, Calls Try.prog g #[.int .i64 z] w fun e w' => e = .returned (.bool (p z)) ∧ w = w') :
    Calls Try.prog 171 #[v, .func (.func g) #[] #[]] w fun e w' => e = .returned (.bool (zs.any p)) ∧ w = w' := by
  have HA := Lib.hid ha
  have HP := Lib.hid hp
  clear ha hp
  go_enter Try.func171, Try.ntmps171
  go_wp2_with (go_at_call 207; refine (lib_IndexFuncI _ _ _ _ _ HA.out hcf HP.out).mono ?_; rintro e w' ⟨rfl, rfl⟩)
  go_ret
  exact ⟨ret_bool (idxF_nonneg p zs), rfl⟩

set_option maxHeartbeats 400000 in
theorem i_areNumbers (w : World) (v : Value) (zs : List Int) (ha : Ints w v zs) : Calls Try.prog 103 #[v] w fun e w' => e = .returned (.bool (nums zs)) ∧ w = w' := by
  have HA := Lib.hid ha
  clear ha
  go_enter Try.func103, Try.ntmps103
  go_wp2_with (go_at_call 171; refine (lib_ContainsFuncI _ _ _ _ (fun z => !isNum z) HA.out (fun _ _ => by kernel_rfl) (fun z => i_areNumbers1 z _)).mono ?_; rintro e w' ⟨rfl, rfl⟩)
  go_ret
  exact ⟨ret_bool (by rw [any_not_nums, Bool.not_not]), rfl⟩

set_option maxHeartbeats 400000 in
theorem s_l01Numbers (w : World) (v : Value) (zs : List Int) (ha : Ints w v zs) : Calls Try.prog 101 #[v] w fun e w' => e = .returned (.bool (nums zs)) ∧ w = w' := by
  obtain ⟨A, c, rfl, h1, h2, h3⟩ := ha.open_
  clear ha
  have H3 := Lib.hid h3
  clear h3
  go_enter Try.func101, Try.ntmps101
  go_wp2_with fail
  go_loop [3] (fun i => ∃ k : Nat, k ≤ zs.length ∧ i = .int .i64 k ∧ Hid (∀ i y, i < k → zs[i]? = some y → isNum y = true)) (fun i => zs.length - (intOf i).toNat)
  case atStart => exact ⟨0, Nat.zero_le _, rfl, fun i y h => by omega⟩
  case round =>
    obtain ⟨k, hk, rfl, hI⟩ := hrel
    by_cases hlt : k < zs.length
    · obtain ⟨ad, z, rfl, hz, hz2, hc⟩ := H3.out k hlt
      have HZ := Lib.hid hz
      clear hz hz2
      go_wp2_with (go_at_call 166; refine (s_IsNumber _ _).mono ?_; rintro e w' ⟨rfl, rfl⟩)
      · have hpz : isNum z = false := by simpa using (by assumption : (!isNum z) = true)
        go_ret
        exact ⟨ret_bool (nums_false HZ.out hpz).symm, rfl⟩
      · have hpz : isNum z = true := by simpa using (by assumption : (!isNum z) = false)
        go_round
        case rel =>
          refine ⟨k + 1, by omega, by go_num, fun i y hi hy => ?_⟩
          by_cases e : i = k
          · subst e
            rw [HZ.out] at hy
            cases hy
            exact hpz
          · exact hI.out i y (by omega) hy
        case measure => simp [intOf]; omega
    · have : k = zs.length := by omega
      subst this
      go_wp2_with fail
      go_ret
      exact ⟨ret_bool (nums_all hI.out).symm, rfl⟩
end Go.Proofs.Ytbjeibcombjfgaa

set_option linter.unusedVariables false
set_option linter.unusedSimpArgs false
namespace Go.Proofs.Ytbjeibcombjfgaa
open Go.RowKit

end Go.Proofs.Ytbjeibcombjfgaa

set_option maxRecDepth 100000
set_option linter.unusedVariables false
set_option linter.unusedSimpArgs false
namespace Go.Proofs.Ytbjeibcombjfgaa
open Go.RowKit

/-- a monomial: the factor and the powers -/
abbrev Mono := Int × List Int
/-- a monomial that can be read -/
def MonoArg (w : World) (v : Value) (m : Mono) : Prop := ∃ u, v = .agg #[.int .i64 m.1, u] ∧ In64 m.1 ∧ Ints w u m.2
theorem MonoArg.below {w w' : World} {v : Value} {m : Mono} (h : MonoArg w v m) (hb : Below w.heap.size w w') : MonoArg w' v m := by
  obtain ⟨u, rfl, h1, h2⟩ := h
  exact ⟨u, rfl, h1, h2.below hb⟩

end Go.Proofs.Ytbjeibcombjfgaa

set_option maxRecDepth 100000
set_option linter.unusedVariables false
set_option linter.unusedSimpArgs false
namespace Go.Proofs.Ytbjeibcombjfgaa
open Go.RowKit

/-- a list of monomials that can be read -/
def Monos (w : World) (v : Value) (ms : List Mono) : Prop :=
  ∃ A c, v = .slice A ms.length c ∧ ms.length ≤ c ∧ c ≤ maxLen ∧ ∀ (k : Nat) (m : Mono), ms[k]? = some m → ∃ b o u, A = some ⟨b, o, none⟩ ∧ In64 m.1 ∧ Ints w u m.2 ∧ w.cell? ⟨b, o + k * 2, none⟩ = some (.int .i64 m.1) ∧ w.cell? ⟨b, o + k * 2 + 1, none⟩ = some u
theorem Monos.below {w w' : World} {v : Value} {ms : List Mono} (h : Monos w v ms) (hb : Below w.heap.size w w') : Monos w' v ms := by
  obtain ⟨A, c, rfl, h1, h2, h3⟩ := h
  refine ⟨A, c, rfl, h1, h2, fun k m hm => ?_⟩
  obtain ⟨b, o, u, hA, hf, hu, hc, hc'⟩ := h3 k m hm
  refine ⟨b, o, u, hA, hf, hu.below hb, ?_, ?_⟩
  · rw [hb.cell (World.block_lt_of_cell? w _ hc)]; exact hc
  · rw [hb.cell (World.block_lt_of_cell? w _ hc')]; exact hc'
theorem Monos.open_ {w : World} {v : Value} {ms : List Mono} (h : Monos w v ms) : ∃ A c, v = .slice A ms.length c ∧ ms.length ≤ c ∧ c ≤ 9223372036854775807 ∧ ∀ (k : Nat), k < ms.length → ∃ b o m u, A = some ⟨b, o, none⟩ ∧ ms[k]? = some m ∧ In64 m.1 ∧ Ints w u m.2 ∧ w.cell? ⟨b, o + k * 2, none⟩ = some (.int .i64 m.1) ∧ w.cell? ⟨b, o + k * 2 + 1, none⟩ = some u := by
  obtain ⟨A, c, rfl, h1, h2, h3⟩ := h
  refine ⟨A, c, rfl, h1, by simpa [maxLen] using h2, fun k hk => ?_⟩
  obtain ⟨b, o, u, hA, hf, hu, hc, hc'⟩ := h3 k ms[k] (List.getElem?_eq_getElem hk)
  exact ⟨b, o, ms[k], u, hA, List.getElem?_eq_getElem hk, hf, hu, hc, hc'⟩
/-- lists of monomials that can be read -/
def MRows (w : World) (v : Value) (pss : List (List Mono)) : Prop :=
  ∃ vs, Cells w v vs ∧ vs.length = pss.length ∧ ∀ (k : Nat) (u : Value) (ms : List Mono), vs[k]? = some u → pss[k]? = some ms → Monos w u ms
theorem MRows.below {w w' : World} {v : Value} {pss : List (List Mono)} (h : MRows w v pss) (hb : Below w.heap.size w w') : MRows w' v pss := by
  obtain ⟨vs, h1, h2, h3⟩ := h
  exact ⟨vs, h1.below hb, h2, fun k u ms hu hm => (h3 k u ms hu hm).below hb⟩
theorem MRows.open_ {w : World} {v : Value} {pss : List (List Mono)} (h : MRows w v pss) : ∃ A c, v = .slice A pss.length c ∧ pss.length ≤ c ∧ c ≤ 9223372036854775807 ∧ ∀ (k : Nat), k < pss.length → ∃ ad u ms, A = some ad ∧ pss[k]? = some ms ∧ Monos w u ms ∧ w.cell? (ad.add k) = some u := by
  obtain ⟨vs, ⟨A, c, rfl, h1, h2, h3⟩, h4, h5⟩ := h
  rw [h4] at h1 ⊢
  refine ⟨A, c, rfl, h1, by simpa [maxLen] using h2, fun k hk => ?_⟩
  have hv : vs[k]? = some (vs[k]'(by rw [h4]; exact hk)) := List.getElem?_eq_getElem _
  obtain ⟨ad, hA, hc⟩ := h3 k _ hv
  exact ⟨ad, _, pss[k], hA, List.getElem?_eq_getElem hk, h5 k _ _ hv (List.getElem?_eq_getElem hk), hc⟩
end Go.Proofs.Ytbjeibcombjfgaa

set_option maxRecDepth 100000
set_option linter.unusedVariables false
set_option linter.unusedSimpArgs false
namespace Go.Proofs.Ytbjeibcombjfgaa
open Go.RowKit

end Go.Proofs.Ytbjeibcombjfgaa

set_option maxRecDepth 100000
set_option linter.unusedVariables false
set_option linter.unusedSimpArgs false
namespace Go.Proofs.Ytbjeibcombjfgaa
open Go.RowKit

theorem quiet_lessF {w : World} {n : Nat} {v v' : Value} {a b : List Int} (h : Ints w v a) (h' : Ints w v' b) :
    Calls Try.prog 155 #[v, v'] (w.drewN n) fun e w'' => e = .returned (.bool (lessL a b)) ∧ ∃ m, w'' = w.drewN m :=
  (s_l01Less _ _ _ a b (h.drewN n) (h'.drewN n)).mono fun _ _ ⟨he, m, hm⟩ => ⟨he, n + m, by rw [hm, World.drewN_drewN]⟩

end Go.Proofs.Ytbjeibcombjfgaa

