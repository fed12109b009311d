/- Fields that came in, opened to the words of the Mono text. -/
import Derived.Test.YtgnmnpjbmdifbaaOpen2
import Derived.Test.YtgnmnpjbmdifbaaMono
import Derived.Deep.SlicePairs
set_option maxRecDepth 100000
set_option linter.unusedVariables false
set_option linter.unusedSimpArgs false
namespace Go.Proofs.Ytgnmnpjbmdifbaa
open Go.ChangeShapes Go.WideShapes Go.ChangeAt Go.RowKit Go.Deep Go.Joins

theorem spot_none {W : World} {a : Addr} {u : Value} (h : W.cell? a = some u) : a = ⟨a.block, a.off, none⟩ := by
  obtain ⟨b, o, s⟩ := a
  unfold World.cell? at h
  simp only at h
  split at h
  · cases s with
    | none => rfl
    | some n => simp at h
  · cases h

theorem monos_of_trod {H : Type} {enc : TypeId × Value → H} {W : World} {fuel : Nat} {v : Value} {x : DataW H × List MemPlace}
    (hf : DataW.trod enc Try.prog W 0 (fun _ => true) true fuel 108 [v] = some x) : ∃ ms, Monos W v ms := by
  rcases open_slice_pairs Try.underlying108 Try.underlying142 (by kernel_rfl) rfl rfl (by kernel_rfl) (by kernel_rfl) hf with ⟨hcs, _⟩ | ⟨a, len, cap, m, n, V0, V1, D0, D1, P0, P1, hcs, _, hl, hm, hmm, _, hx⟩
  · simp at hcs
    subst hcs
    exact ⟨[], none, 0, rfl, by simp, by simp [maxLen], fun k u hk => by simp at hk⟩
  · simp at hcs
    subst hcs
    simp only [if_true] at hmm
    have hmm' := hmm.symm
    subst hmm'
    have each : ∀ i, i < len → ∃ q : Mono, V0 i = .int .i64 q.1 ∧ In64 q.1 ∧ Ints W (V1 i) q.2 := by
      intro i hi
      obtain ⟨-, -, h0, h1⟩ := hx i (by omega)
      obtain ⟨z, e0, -, wz⟩ := DataW.trod_int Try.underlying2 h0
      obtain ⟨zs, hzs⟩ := ints_of_trod h1
      simp at e0
      exact ⟨(z, zs), e0, in64_of_wf wz, hzs⟩
    obtain ⟨f, hq⟩ := choose_lt each
    refine ⟨(List.range len).map f, some a, cap, by simp, by simpa using hl, hm, fun k q hk => ?_⟩
    have hk' : k < len := by simpa using (List.getElem?_eq_some_iff.1 hk).1
    simp [hk'] at hk
    subst hk
    obtain ⟨e0, h64, hI⟩ := hq k hk'
    obtain ⟨c0, c1, -, -⟩ := hx k (by omega)
    have ha := spot_none (hx 0 (by omega)).1
    simp only [Nat.zero_mul, Addr.add, if_true] at ha
    refine ⟨a.block, a.off, V1 k, by rw [← ha], h64, hI, ?_, ?_⟩
    · rw [e0] at c0
      rw [← c0]
      congr 1
      rw [ha]
      try (by_cases hk0 : k * 2 = 0 <;> simp [Addr.add, hk0])
    · rw [← c1]
      congr 1

theorem mrows_of_trod {H : Type} {enc : TypeId × Value → H} {W : World} {fuel : Nat} {v : Value} {x : DataW H × List MemPlace}
    (hf : DataW.trod enc Try.prog W 0 (fun _ => true) true fuel 33 [v] = some x) : ∃ pss, MRows W v pss := by
  rcases open_slice1 Try.underlying33 (by kernel_rfl) hf with ⟨hcs, _⟩ | ⟨a, len, cap, m, n, V, D, Pl, hcs, _, hl, hm, hmm, _, hx⟩
  · simp at hcs
    subst hcs
    exact ⟨[], [], ⟨none, 0, rfl, by simp, by simp [maxLen], fun k u hk => by simp at hk⟩, rfl, fun k u x hu => by simp at hu⟩
  · simp at hcs
    subst hcs
    simp only [if_true] at hmm
    have hmm' := hmm.symm
    subst hmm'
    have each : ∀ i, i < len → ∃ ms : List Mono, Monos W (V i) ms := fun i hi => monos_of_trod (hx i (by omega)).2
    obtain ⟨f, hq⟩ := choose_lt each
    refine ⟨(List.range len).map f, (List.range len).map V, ⟨some a, cap, by simp, by simpa using hl, hm, fun k u hk => ⟨a, rfl, ?_⟩⟩, by simp, fun k u ms hu hz => ?_⟩
    · have hk' : k < len := by simpa using (List.getElem?_eq_some_iff.1 hk).1
      simp [hk'] at hk
      subst hk
      exact (hx k (by omega)).1
    · have hk' : k < len := by simpa using (List.getElem?_eq_some_iff.1 hu).1
      simp [hk'] at hu hz
      subst hu; subst hz
      exact hq k hk'

theorem open_field {H : Type} {enc : TypeId × Value → H} {W : World} {base : Nat} {v : Value} {d : DataW H} {p : List MemPlace}
    (hv : Value.okWide Try.prog W .any base 35 v) (h : DataW.Trod enc Try.prog W 0 (fun _ => true) true 35 v d p) : ∃ d : Int × List (List Mono), FieldArg W v d.1 d.2 := by
  obtain ⟨c0, c1, y0, y1, m, rfl, rfl, rfl, hy0, hy1⟩ := open_agg2 Try.underlying35 (by kernel_rfl) (by kernel_rfl) hv h
  obtain ⟨z, e0, -, wz⟩ := DataW.trod_int Try.underlying2 hy0
  obtain ⟨pss, hp⟩ := mrows_of_trod hy1
  simp at e0
  subst e0
  exact ⟨(z, pss), c1, rfl, in64_of_wf wz, hp⟩

theorem open_rows {H : Type} {enc : TypeId × Value → H} {W : World} {base : Nat} {v : Value} {d : DataW H} {p : List MemPlace}
    (hv : Value.okWide Try.prog W .any base 22 v) (h : DataW.Trod enc Try.prog W 0 (fun _ => true) true 22 v d p) : ∃ xss, Rows W v xss := by
  obtain ⟨a, len, cap, rfl⟩ := okWide_slice Try.underlying22 hv
  obtain ⟨fuel, hf⟩ := h
  exact rows_of_trod (v := .slice a len cap) (by simpa [Value.cells] using hf)
end Go.Proofs.Ytgnmnpjbmdifbaa
