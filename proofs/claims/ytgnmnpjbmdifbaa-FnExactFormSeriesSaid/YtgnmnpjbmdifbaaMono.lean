/- Monomials and fields that came in: words of memory. No program in sight. -/
import Derived.Test.YtgnmnpjbmdifbaaFld2
set_option maxRecDepth 100000
set_option linter.unusedVariables false
set_option linter.unusedSimpArgs false
namespace Go.Proofs.Ytgnmnpjbmdifbaa
open Go.RowKit

/-- a list of monomials that can be read -/
def Monos (w : World) (v : Value) (ms : List Mono) : Prop :=
  ∃ A c, v = .slice A ms.length c ∧ ms.length ≤ c ∧ c ≤ maxLen ∧ ∀ (k : Nat) (m : Mono), ms[k]? = some m → ∃ b o u, A = some ⟨b, o, none⟩ ∧ In64 m.1 ∧ Ints w u m.2 ∧ w.cell? ⟨b, o + k * 2, none⟩ = some (.int .i64 m.1) ∧ w.cell? ⟨b, o + k * 2 + 1, none⟩ = some u
theorem Monos.below {w w' : World} {v : Value} {ms : List Mono} (h : Monos w v ms) (hb : Below w.heap.size w w') : Monos w' v ms := by
  obtain ⟨A, c, rfl, h1, h2, h3⟩ := h
  refine ⟨A, c, rfl, h1, h2, fun k m hm => ?_⟩
  obtain ⟨b, o, u, hA, hf, hu, hc, hc'⟩ := h3 k m hm
  refine ⟨b, o, u, hA, hf, hu.below hb, ?_, ?_⟩
  · rw [hb.cell (World.block_lt_of_cell? w _ hc)]; exact hc
  · rw [hb.cell (World.block_lt_of_cell? w _ hc')]; exact hc'
theorem Monos.open_ {w : World} {v : Value} {ms : List Mono} (h : Monos w v ms) : ∃ A c, v = .slice A ms.length c ∧ ms.length ≤ c ∧ c ≤ 9223372036854775807 ∧ ∀ (k : Nat), k < ms.length → ∃ b o m u, A = some ⟨b, o, none⟩ ∧ ms[k]? = some m ∧ In64 m.1 ∧ Ints w u m.2 ∧ w.cell? ⟨b, o + k * 2, none⟩ = some (.int .i64 m.1) ∧ w.cell? ⟨b, o + k * 2 + 1, none⟩ = some u := by
  obtain ⟨A, c, rfl, h1, h2, h3⟩ := h
  refine ⟨A, c, rfl, h1, by simpa [maxLen] using h2, fun k hk => ?_⟩
  obtain ⟨b, o, u, hA, hf, hu, hc, hc'⟩ := h3 k ms[k] (List.getElem?_eq_getElem hk)
  exact ⟨b, o, ms[k], u, hA, List.getElem?_eq_getElem hk, hf, hu, hc, hc'⟩
/-- lists of monomials that can be read -/
def MRows (w : World) (v : Value) (pss : List (List Mono)) : Prop :=
  ∃ vs, Cells w v vs ∧ vs.length = pss.length ∧ ∀ (k : Nat) (u : Value) (ms : List Mono), vs[k]? = some u → pss[k]? = some ms → Monos w u ms
theorem MRows.below {w w' : World} {v : Value} {pss : List (List Mono)} (h : MRows w v pss) (hb : Below w.heap.size w w') : MRows w' v pss := by
  obtain ⟨vs, h1, h2, h3⟩ := h
  exact ⟨vs, h1.below hb, h2, fun k u ms hu hm => (h3 k u ms hu hm).below hb⟩
theorem MRows.open_ {w : World} {v : Value} {pss : List (List Mono)} (h : MRows w v pss) : ∃ A c, v = .slice A pss.length c ∧ pss.length ≤ c ∧ c ≤ 9223372036854775807 ∧ ∀ (k : Nat), k < pss.length → ∃ ad u ms, A = some ad ∧ pss[k]? = some ms ∧ Monos w u ms ∧ w.cell? (ad.add k) = some u := by
  obtain ⟨vs, ⟨A, c, rfl, h1, h2, h3⟩, h4, h5⟩ := h
  rw [h4] at h1 ⊢
  refine ⟨A, c, rfl, h1, by simpa [maxLen] using h2, fun k hk => ?_⟩
  have hv : vs[k]? = some (vs[k]'(by rw [h4]; exact hk)) := List.getElem?_eq_getElem _
  obtain ⟨ad, hA, hc⟩ := h3 k _ hv
  exact ⟨ad, _, pss[k], hA, List.getElem?_eq_getElem hk, h5 k _ _ hv (List.getElem?_eq_getElem hk), hc⟩
def FieldArg (w : World) (v : Value) (n : Int) (pss : List (List Mono)) : Prop := ∃ vp, v = .agg #[.int .i64 n, vp] ∧ In64 n ∧ MRows w vp pss

end Go.Proofs.Ytgnmnpjbmdifbaa
