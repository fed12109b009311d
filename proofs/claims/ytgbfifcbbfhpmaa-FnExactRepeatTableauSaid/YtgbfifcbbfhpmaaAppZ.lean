/- append(s, make([]int64, k)...) at an owned list. No program in sight but for the types. -/
import Derived.Test.YtgbfifcbbfhpmaaRows
import Derived.Test.YtgbfifcbbfhpmaaMem
import Derived.Test.YtgbfifcbbfhpmaaL
import Derived.Test.YtgbfifcbbfhpmaaLR
import Derived.Lib.AppendZerosOnto
set_option maxRecDepth 100000
set_option linter.unusedVariables false
set_option linter.unusedSimpArgs false
namespace Go.Proofs.Ytgbfifcbbfhpmaa
open Go.RowKit

theorem zeroCells_int (k : Nat) : Builtin.zeroCells (Value.cells (.int .i64 0)) k = (List.replicate k (Value.int .i64 0)).toArray := by
  unfold Builtin.zeroCells
  apply Array.ext
  · simp [Value.cells]
  · intro i h1 h2
    simp [Value.cells, Nat.mod_one]

theorem own_grown (W : World) {B : Nat} (hB : B ≤ W.heap.size) (e : TypeId) (xs : List Value) (rest : Array Value) (cap : Nat) (h : xs.length ≤ cap) (hc : cap ≤ maxLen) (hr : rest.size = cap - xs.length) :
    Own (W.drew.alloc (.cells (xs.toArray ++ rest) e)) B e (.slice (some ⟨W.heap.size, 0, none⟩) xs.length cap) xs := by
  refine ⟨by simp, .inr ⟨W.heap.size, cap, _, rfl, hB, heap_alloc_new W.drew _, h, hc, ?_, ?_⟩⟩
  · simp only [Array.size_append, List.size_toArray, hr]
    omega
  · simp only [Array.toList_append, Nat.mul_one]
    exact List.take_left

set_option maxHeartbeats 1000000 in
/-- the run of append with k zeros -/
theorem run_appZ (W : World) (B : Nat) (ty : TypeId) (v : Value) (vs : List Value) (k : Nat) (hown : Own W B tI v vs) (h0 : 0 < k) (hn : vs.length + k ≤ 1000000) (hB : B ≤ W.heap.size) :
    ∃ v' w', (Builtin.append_ #[23, 3] ty #[v, .int .i64 (k : Int)]).run Try.prog W = .ok v' w' ∧ Own w' B tI v' (vs ++ List.replicate k (.int .i64 0)) ∧ Grow W w' v v' := by
  obtain ⟨i, hi, hz, h1, h2⟩ := info_parts T_int.info
  have hrl : (vs ++ List.replicate k (Value.int .i64 0)).length = vs.length + k := by simp
  rcases hown.cases with ⟨rfl, rfl⟩ | ⟨g, cap, cur, rfl, hBg, hgl, hg, hnc, hcm, hcs, htake⟩
  · have hr := Go.Lib.run_append_nil_zeros (P := Try.prog) W 23 3 ty tI i (.int .i64 0) .i64 .i64 T_int.under Try.underlying3 hi hz k h0 (by rw [h1]; omega) (by omega) (by rw [h2]; simp at hn; omega)
    have hge := grownCap_ge W k 0 tI
    have hcm := grownCap_le_maxLen W k 0 tI (by simp only [maxLen]; simp at hn; omega)
    rw [zeroCells_int] at hr
    have ho := own_grown W hB tI (List.replicate k (Value.int .i64 0)) (Builtin.zeroCells (Value.cells (.int .i64 0)) (grownCap W k 0 tI - k)) (grownCap W k 0 tI) (by simpa using hge) hcm (by rw [size_zeroCells]; simp [Value.cells])
    rw [List.length_replicate] at ho
    refine ⟨_, _, hr, by simpa using ho, ⟨rfl, rfl, rfl, by simp, fun b hb _ => heap_alloc_old W.drew _ hb⟩, .inr ⟨_, rfl, Nat.le_refl _⟩⟩
  · by_cases hroom : vs.length + k ≤ cap
    · have hst := run_storeCells_at Try.prog g vs.length tI (List.replicate k (Value.int .i64 0)) 0 cur W hg (by simp; omega) (by intro u hu; obtain ⟨-, rfl⟩ := List.mem_replicate.1 hu; rfl)
      simp only [Nat.add_zero] at hst
      have hw : IntKind.i64.wrap (k : Int) = k := by rw [IntKind.wrap_i64]; omega
      have h48i : ¬ (281474976710656 < (k : Int) * (i.bytes : Int)) := by rw [h2]; omega
      have hneg : ¬ ((k : Int) < 0) := by omega
      have hk0 : ¬ k = 0 := by omega
      have hns : ¬ (k * i.size = 0) := by rw [h1]; omega
      have hz2 : Builtin.zeroCells (Value.cells (.int .i64 0)) k = (List.replicate k (Value.int .i64 0)).toArray := zeroCells_int k
      have hr : (Builtin.append_ #[23, 3] ty #[.slice (some ⟨g, 0, none⟩) vs.length cap, .int .i64 (k : Int)]).run Try.prog W = .ok (.slice (some ⟨g, 0, none⟩) (vs.length + k) cap) (W.setRow g (cur.toList.take vs.length ++ List.replicate k (Value.int .i64 0) ++ cur.toList.drop (vs.length + (List.replicate k (Value.int .i64 0)).length)).toArray) := by
        simp only [Value.cells] at hz2
        simp [Builtin.append_, run_underlying T_int.under, run_underlying Try.underlying3, sizeOf, typeInfo, zeroValue, hi, hz, asInt, asIntOf, hw, hneg, hns, hk0, h48i, hroom, Value.cells, hz2, h1, Addr.add_lit, hst]
      refine ⟨_, _, hr, ?_, ⟨rfl, rfl, rfl, by simp, fun b _ hb => setRow_other W g b _ (fun e => hb (by simp [Value.ownBlock, e]))⟩, .inl rfl⟩
      refine ⟨by simp, .inr ⟨g, cap, _, ?_, hBg, setRow_heap W g cur _ tI _ hg, by rw [hrl]; exact hroom, hcm, ?_, ?_⟩⟩
      · rw [hrl]
      · simp only [List.size_toArray, List.length_append, List.length_take, List.length_drop, Array.length_toList, List.length_replicate]
        omega
      · rw [htake, Nat.mul_one]
        exact List.take_left
    · have hfc : (Builtin.firstCells i.size vs.length (.slice (some ⟨g, 0, none⟩) vs.length cap)).run Try.prog W.drew = .ok vs.toArray W.drew :=
        run_firstCells_some (P := Try.prog) W.drew i.size vs.length ⟨g, 0, none⟩ vs.length cap vs (by rw [h1]; simp) (fun j u hu => World.ownsRow.cells hown (g := g) rfl j u hu)
      have hr := Go.Lib.run_append_grow_zeros (P := Try.prog) W 23 3 ty tI i (.int .i64 0) .i64 .i64 T_int.under Try.underlying3 hi hz (some ⟨g, 0, none⟩) vs.length cap vs hfc k h0 (by rw [h1]; omega) (by omega) (by omega) (by rw [h2]; omega) (by rw [h2]; exact growslice_fits (by omega) (by omega))
      have hge := grownCap_ge W (vs.length + k) cap tI
      have hcm2 := grownCap_le_maxLen W (vs.length + k) cap tI (by simp only [maxLen]; omega)
      rw [zeroCells_int] at hr
      have ho := own_grown W hB tI (vs ++ List.replicate k (Value.int .i64 0)) (Builtin.zeroCells (Value.cells (.int .i64 0)) (grownCap W (vs.length + k) cap tI - (vs.length + k))) (grownCap W (vs.length + k) cap tI) (by rw [hrl]; exact hge) hcm2 (by rw [size_zeroCells, hrl]; simp [Value.cells])
      rw [hrl] at ho
      refine ⟨_, _, hr, ?_, ⟨rfl, rfl, rfl, by simp, fun b hb _ => heap_alloc_old W.drew _ hb⟩, .inr ⟨_, rfl, Nat.le_refl _⟩⟩
      rw [show vs.toArray ++ (List.replicate k (Value.int .i64 0)).toArray = (vs ++ List.replicate k (Value.int .i64 0)).toArray from by simp]
      exact ho

/-- append with k zeros, met in a region that draws -/
theorem step_appZ {ops : Array Oper} {o : Oper} {a : Act} {K : Act → World → Prop} {Q : Exit → Act → World → Prop} {E : Prop} {s x : Operand}
    {B : Nat} {v : Value} {vs : List Value} {W : World} {k : Nat}
    (hown : Own W B tI v vs) (h0 : 0 < k) (hn : vs.length + k ≤ 1000000) (hB : B ≤ W.heap.size)
    (hgd : o.guard = none) (ho : o.op = .call { callee := .builtin .append, args := #[s, x], argTypes := #[23, 3] }) (hs : a.eval s = v)
    (hx : a.eval x = .int .i64 (k : Int))
    (h : ∀ v' w', Own w' B tI v' (vs ++ List.replicate k (.int .i64 0)) → Grow W w' v v' → K (a.put o.dst v') w') :
    if Region.wanted o (yielded ops a.tmps) = true then Oper.wp Try.prog o a W K Q else E := by
  have hw : Region.wanted o (yielded ops a.tmps) = true := by simp [Region.wanted, hgd]
  rw [if_pos hw]
  obtain ⟨v', w', hrun, r1, r2⟩ := run_appZ W B o.type v vs k hown h0 hn hB
  unfold Oper.wp execOp
  simp only [ho, resolve, invoke, builtin, Sem.run_bind, Sem.run_pure, Result.andThen_ok, List.map_toArray, List.map_cons, List.map_nil, hs, hx, hrun]
  exact h v' w' r1 r2

/-- the run of append of a list -/
theorem run_appN {P : Program} {t e : TypeId} {z : Value} {bytes : Nat} {B : Nat} {v : Value} {vs : List Value} {W : World} {y : Value} {us : List Value}
    (T : ElemT P t e z bytes) (ty : TypeId) (hown : Own W B e v vs) (hy : Cells W y us) (hlen : vs.length + us.length < 1099511627776) (hB : B ≤ W.heap.size) (hu : ∀ u ∈ us, u.oneCell' = true) :
    ∃ v' w', (Builtin.append_ #[t, t] ty #[v, y]).run P W = .ok v' w' ∧ Own w' B e v' (vs ++ us) ∧ Grow W w' v v' := by
  obtain ⟨i, hi, hz, h1, h2⟩ := info_parts T.info
  have hby := T.small
  obtain ⟨A, c, rfl, hy1, hy2, hy3⟩ := hy
  cases A with
  | none =>
    have hus : us = [] := by
      cases us with
      | nil => rfl
      | cons u us => obtain ⟨ad, h, _⟩ := hy3 0 u rfl; cases h
    subst hus
    have hrun : (Builtin.append_ #[t, t] ty #[v, .slice none 0 c]).run P W = .ok v W := by
      rcases hown.cases with ⟨rfl, rfl⟩ | ⟨g, cap, cur, rfl, _, _, _, hnc, _⟩
      · simp [Builtin.append_, run_underlying T.under, sizeOf, typeInfo, hi, Builtin.lenOf, Builtin.firstCells]
      · simp [Builtin.append_, run_underlying T.under, sizeOf, typeInfo, hi, Builtin.lenOf, Builtin.firstCells, hnc, storeCells]
    exact ⟨v, W, hrun, by simpa using hown, World.grownBy.refl W _, .inl rfl⟩
  | some ad =>
    obtain ⟨v', w', hrun, r1, r2, _, r3⟩ := run_append_own_at (P := P) W B t ty e i z 1 bytes T.under hi hz h1 h2 (by rw [T.one]; rfl) (by omega) v vs.length vs hown ad us.length c us (by simp)
      (fun j u' hj => by obtain ⟨ad', h, hc⟩ := hy3 j u' hj; injection h with h; subst h; exact hc) hu (by simp only [maxLen]; omega) (by have := Nat.mul_le_mul_left (vs.length + us.length) hby; omega) hB
    refine ⟨v', w', hrun, ?_, r2, ?_⟩
    · unfold Own; simpa using r1
    · rcases r3 with r3 | r3
      · exact .inl r3
      · exact .inr ⟨_, r3, by simp⟩

/-- append of a list, met in a region that draws -/
theorem step_appN {P : Program} {ops : Array Oper} {o : Oper} {a : Act} {K : Act → World → Prop} {Q : Exit → Act → World → Prop} {E : Prop} {s x : Operand} {t : TypeId}
    {e : TypeId} {z : Value} {bytes : Nat} {B : Nat} {v : Value} {vs : List Value} {W : World} {y : Value} {us : List Value}
    (T : ElemT P t e z bytes) (hown : Own W B e v vs) (hy : Cells W y us) (hlen : vs.length + us.length < 1099511627776) (hB : B ≤ W.heap.size) (hu : ∀ u ∈ us, u.oneCell' = true)
    (hgd : o.guard = none) (ho : o.op = .call { callee := .builtin .append, args := #[s, x], argTypes := #[t, t] }) (hs : a.eval s = v) (hx : a.eval x = y)
    (h : ∀ v' w', Own w' B e v' (vs ++ us) → Grow W w' v v' → K (a.put o.dst v') w') :
    if Region.wanted o (yielded ops a.tmps) = true then Oper.wp P o a W K Q else E := by
  have hw : Region.wanted o (yielded ops a.tmps) = true := by simp [Region.wanted, hgd]
  rw [if_pos hw]
  obtain ⟨v', w', hrun, r1, r2⟩ := run_appN T o.type hown hy hlen hB hu
  unfold Oper.wp execOp
  simp only [ho, resolve, invoke, builtin, Sem.run_bind, Sem.run_pure, Result.andThen_ok, List.map_toArray, List.map_cons, List.map_nil, hs, hx, hrun]
  exact h v' w' r1 r2

/-- make, met in a region that draws -/
theorem step_mk {P : Program} {ops : Array Oper} {o : Oper} {a : Act} {K : Act → World → Prop} {Q : Exit → Act → World → Prop} {E : Prop} {t : TypeId} {l c : Operand}
    {e : TypeId} {z : Value} {bytes : Nat} (T : ElemT P t e z bytes) (n : Nat) (hn : n < 1099511627776) {W : World}
    (hgd : o.guard = none) (ho : o.op = .makeSlice t l c) (hl : a.eval l = .int .i64 (n : Int)) (hc : a.eval c = .int .i64 (n : Int))
    (h : ∀ w', Own w' W.heap.size e (.slice (some ⟨W.heap.size, 0, none⟩) n n) (List.replicate n z) → Below W.heap.size W w' → W.heap.size < w'.heap.size → K (a.put o.dst (.slice (some ⟨W.heap.size, 0, none⟩) n n)) w') :
    if Region.wanted o (yielded ops a.tmps) = true then Oper.wp P o a W K Q else E := by
  have hw : Region.wanted o (yielded ops a.tmps) = true := by simp [Region.wanted, hgd]
  rw [if_pos hw]
  have hrun := run_make T n hn W
  unfold Oper.wp execOp
  simp only [ho, hl, hc, hrun, Sem.run_bind, Result.andThen_ok]
  exact h _ (own_made W e z n (by simp only [maxLen]; omega)) ((Below.refl _ _).alloc (Nat.le_refl _) _) (by simp)
end Go.Proofs.Ytgbfifcbbfhpmaa
