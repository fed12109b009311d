/- A region that draws its order: first operations that yield one value each in every world of a class S, in whatever order; then a tail in one order, which may write. No program in sight. -/
import Derived.Test.YtgnmnpjbmdifbaaGrowQ
import Derived.StillTail
set_option linter.unusedVariables false
set_option linter.unusedSimpArgs false
namespace Go.Proofs.Ytgnmnpjbmdifbaa
open Go Go.RowKit

section
variable {P : Program} {ops : Array Oper} {md : Region.Mode} {C : World → Prop} {n : Nat} {D : Array Bool → Act → Prop}

/-- so many steps, each by an operation of the head, whatever is picked; then D -/
def HeadQ (P : Program) (md : Region.Mode) (ops : Array Oper) (C : World → Prop) (n : Nat) (D : Array Bool → Act → Prop) : Nat → Array Bool → Act → Prop
  | 0, L, a => D L a
  | f + 1, L, a => Region.ready md ops L ≠ [] ∧ ∀ i ∈ Region.ready md ops L, i < n ∧ qOp P ops C i (HeadQ P md ops C n D f (L.setIfInBounds i true)) a

theorem HeadQ.any {g : Nat} {Q : Exit → Act → World → Prop} (hD : ∀ L a, D L a → ∀ w, C w → wpAny P md ops Q g L a w) : ∀ (f : Nat) (L : Array Bool) (a : Act) (w : World), C w → HeadQ P md ops C n D f L a → wpAny P md ops Q (f + g) L a w := by
  intro f
  induction f with
  | zero => intro L a w hw h; rw [Nat.zero_add]; exact hD L a h w hw
  | succ f ih =>
    intro L a w hw h
    have e : f + 1 + g = (f + g) + 1 := by omega
    rw [e]
    refine ⟨fun h0 => absurd h0 h.1, fun i hi => ?_⟩
    exact wpOp_of_qOp hw (fun a' w' hw' h' => ih _ a' w' hw' h') (h.2 i hi).2

theorem HeadQ.take {i : Nat} {oi : Oper} {v : Value} (hi : ops[i]? = some oi) (hsel : ∀ (j : Nat) (o : Oper) cs b, ops[j]? = some o → o.op ≠ .select cs b)
    (hs : Region.sinkB md ops n = true) (hc : Region.chainB md ops n = true) (hn : n < ops.size) (hin : i < n) (hD : ∀ L a, D L a → ∀ j ∈ Region.ready md ops L, n ≤ j) :
    ∀ (f : Nat) (L : Array Bool) (a : Act), HeadInv md ops n L →
      (∀ j oj, ops[j]? = some oj → j ≠ i → L.getD j true = false → (∀ e ∈ oj.after, Region.binds md e = true → e.on ≠ i) → oi.apart ops oj = true) →
      i ∈ Region.ready md ops L → YieldsIn P ops C oi v a →
      HeadQ P md ops C n D f (L.setIfInBounds i true) (a.put oi.dst v) → HeadQ P md ops C n D (f + 1) L a := by
  intro f
  induction f with
  | zero =>
    intro L a inv _ hr hy H
    have hun := (mem_ready.1 hr).1
    refine ⟨List.ne_nil_of_mem hr, fun j hj => ?_⟩
    have hjn : j < n := Nat.lt_of_not_le fun h => tail_waits hs hc hn inv _ i rfl hin hun j h hj
    by_cases hji : j = i
    · subst hji; exact ⟨hjn, hy.qOp hi H⟩
    · have := hD _ _ H j (ready_mono hj hji)
      omega
  | succ f ih =>
    intro L a inv hfree hr hy H
    have hun := (mem_ready.1 hr).1
    refine ⟨List.ne_nil_of_mem hr, fun j hj => ?_⟩
    have hjn : j < n := Nat.lt_of_not_le fun h => tail_waits hs hc hn inv _ i rfl hin hun j h hj
    by_cases hji : j = i
    · subst hji; exact ⟨hjn, hy.qOp hi H⟩
    · refine ⟨hjn, ?_⟩
      obtain ⟨hjun, oj, hoj, hall⟩ := mem_ready.1 hj
      have hnot : ∀ e ∈ oj.after, Region.binds md e = true → e.on ≠ i := by
        intro e he hb heq
        have h1 := hall e he hb
        rw [heq, getD_both hun] at h1
        cases h1
      have h2 := qOp_put hoj (hfree j oj hoj hji hjun hnot) (fun cs b => hsel i oi cs b hi) (fun cs b => hsel j oj cs b hoj) hy (H.2 j (ready_mono hj hji)).2
      refine qOp_mono (fun a' h3 => ?_) h2
      refine ih (L.setIfInBounds j true) a' (inv.set hj hjn) (fun k ok hk hki hun' hno => hfree k ok hk hki ?_ hno) (ready_mono hr (Ne.symm hji)) h3.1 ?_
      · by_cases hjk : j = k
        · subst hjk; exact hjun
        · rwa [getD_set_ne true hjk] at hun'
      · rw [Array.setIfInBounds_comm _ _ hji]
        exact h3.2

theorem HeadQ.lex {g : Nat} (hs : Region.noSelect ops = true) (hsk : Region.sinkB md ops n = true) (hc : Region.chainB md ops n = true) (hn : n < ops.size) {l' : List Oper} {Q : Exit → Act → World → Prop}
    (hl' : ∀ j, l'[j]? = ops[n + j]?) (hg : l'.length = g) :
    ∀ (l : List Oper) (k : Nat) (L : Array Bool) (a : Act), (∀ j, j < l.length → l[j]? = ops[k + j]?) → k + l.length = n → HeadInv md ops n L → Region.lexHead md ops g l.length k L = true →
      wpQuiet P ops C (fun a' => ∀ w', C w' → wpList P ops Q l' a' w') l a →
      HeadQ P md ops C n (fun L a => (∀ w', C w' → wpAny P md ops Q g L a w') ∧ ∀ j ∈ Region.ready md ops L, n ≤ j) l.length L a := by
  intro l
  induction l with
  | nil =>
    intro k L a _ hkn inv hB h
    simp only [List.length_nil, Nat.add_zero] at hkn
    subst hkn
    refine ⟨fun w' hw' => ?_, fun j hj => seqB_ready hB j hj⟩
    have := wpAny_of_seq (P := P) (Q' := Q) l' k L a w' hl' (by rw [hg]; exact hB) (h w' hw')
    rwa [hg] at this
  | cons o l ih =>
    intro k L a hl hkn inv hB h
    simp only [List.length_cons] at hkn hB ⊢
    have h0 : ops[k]? = some o := by simpa using (hl 0 (by simp)).symm
    simp only [Region.lexHead, Bool.and_eq_true] at hB
    obtain ⟨⟨hr, hf⟩, hB'⟩ := hB
    have hr' : k ∈ Region.ready md ops L := by simpa using hr
    have hst : qOp P ops C k (wpQuiet P ops C (fun a' => ∀ w', C w' → wpList P ops Q l' a' w') l) a := by unfold qOp; simp only [h0]; exact h
    obtain ⟨v, hy, hK⟩ := yieldsIn_of_qOp h0 hst
    refine HeadQ.take h0 (Region.noSelect_spec hs) hsk hc hn (by omega) (fun L a h => h.2) l.length L a inv (Region.free_spec h0 hf) hr' hy ?_
    refine ih (k + 1) _ _ (fun j hj => ?_) (by omega) (inv.set hr' (by omega)) hB' hK
    have := hl (j + 1) (by simp; omega)
    simpa [Nat.add_assoc, Nat.add_comm 1 j] using this

theorem wp_region_tail {id : Nat} {Q : Exit → Act → World → Prop} {a : Act} {w : World} {l : List Oper} (n : Nat) (S : World → Prop) (hm : P.follows .mixedOrders = true) (hB : Region.lexTailB .any l.toArray n = true) (hC : S w.drew)
    (h : Nonempty (GW S) → wpQuiet P l.toArray (fun w' => ∃ x : GW S, w' = x.w) (fun a' => ∀ w', (∃ x : GW S, w' = x.w) → wpList P l.toArray Q (l.drop n) a' w') (l.take n) a) : (Code.region id l.toArray true).wp P Q a w := by
  have hC' : (fun w' => ∃ x : GW S, w' = x.w) w.drew := ⟨⟨_, hC⟩, rfl⟩
  have h := h ⟨⟨_, hC⟩⟩
  simp only [Region.lexTailB, Bool.and_eq_true, decide_eq_true_eq] at hB
  obtain ⟨⟨⟨⟨h1, h2⟩, h3⟩, h4⟩, h5⟩ := hB
  have hsz : l.toArray.size = l.length := by simp
  have hnl : n < l.length := by rw [hsz] at h2; exact h2
  have htl : (l.take n).length = n := by rw [List.length_take]; omega
  refine wp_region_any hm ?_
  have inv : HeadInv .any l.toArray n (Array.replicate l.toArray.size false) := by
    refine ⟨by simp, fun j oj _ hl => ?_, fun t _ ht => getD_in (by simpa using ht) (getD_replicate_false _ _)⟩
    rw [getD_replicate_false] at hl
    cases hl
  have hq := HeadQ.lex (P := P) (md := .any) (ops := l.toArray) (C := fun w' => ∃ x : GW S, w' = x.w) (n := n) (g := l.toArray.size - n) (l' := l.drop n) (Q := Q) h1 h3 h4 h2 (fun j => by simp) (by simp)
    (l.take n) 0 (Array.replicate l.toArray.size false) a (fun j hj => by rw [htl] at hj; simp [hj]) (by omega) inv (by rw [htl]; exact h5) h
  have := HeadQ.any (g := l.toArray.size - n) (Q := Q) (fun L a h w hw => h.1 w hw) _ _ _ _ hC' hq
  rw [htl, show n + (l.toArray.size - n) = l.toArray.size by omega] at this
  exact this
end
end Go.Proofs.Ytgnmnpjbmdifbaa
