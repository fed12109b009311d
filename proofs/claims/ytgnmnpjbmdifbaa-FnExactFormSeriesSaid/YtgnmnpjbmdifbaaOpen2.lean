/- Lists of lists and tableaus that came in, opened to the words of the Mem text. -/
import Derived.Test.YtgnmnpjbmdifbaaRows
import Derived.Test.YtgnmnpjbmdifbaaMem
import Derived.Test.YtgnmnpjbmdifbaaOpen
import Derived.Test.YtgnmnpjbmdifbaaLR
import Derived.Deep.Matrix
import Derived.Lib.SmallJoins
set_option maxRecDepth 100000
set_option linter.unusedVariables false
set_option linter.unusedSimpArgs false
namespace Go.Proofs.Ytgnmnpjbmdifbaa
open Go.ChangeShapes Go.WideShapes Go.ChangeAt Go.RowKit Go.Deep Go.Joins

theorem ints_of_trod {H : Type} {enc : TypeId × Value → H} {W : World} {fuel : Nat} {v : Value} {x : DataW H × List MemPlace}
    (hf : DataW.trod enc Try.prog W 0 (fun _ => true) true fuel 23 [v] = some x) : ∃ zs, Ints W v zs := by
  rcases open_ints Try.underlying23 Try.underlying2 (by kernel_rfl) hf with ⟨hcs, _⟩ | ⟨x, l, c, zs, hcs, _, hl, hm, hz, _, hcell, hwz⟩
  · simp at hcs
    subst hcs
    exact ⟨[], ⟨none, 0, rfl, by simp [ints], by simp [maxLen], fun k u hk => by simp [ints] at hk⟩, fun z hz => by simp at hz⟩
  · simp at hcs
    subst hcs
    have hz' : zs.length = c := by simpa using hz
    have hlen : (ints (zs.take l)).length = l := by simp [ints]; omega
    refine ⟨zs.take l, ⟨some x, c, by rw [hlen], by rw [hlen]; exact hl, hm, fun k u hk => ⟨x, rfl, ?_⟩⟩, fun z hz => in64_of_wf (hwz z (List.mem_of_mem_take hz))⟩
    have hk2 : k < (ints (zs.take l)).length := (List.getElem?_eq_some_iff.1 hk).1
    rw [hlen] at hk2
    rw [hcell k (by omega)]
    have e : (ints (zs.take l))[k]? = some (.int .i64 (zs.getD k 0)) := by
      simp [ints, List.getElem?_take, hk2, List.getD, show k < zs.length by omega]
    rw [e] at hk
    exact hk

theorem rows_of_trod {H : Type} {enc : TypeId × Value → H} {W : World} {fuel : Nat} {v : Value} {x : DataW H × List MemPlace}
    (hf : DataW.trod enc Try.prog W 0 (fun _ => true) true fuel 22 [v] = some x) : ∃ xss, Rows W v xss := by
  rcases open_int_rows Try.underlying22 Try.underlying23 Try.underlying2 (by kernel_rfl) (by kernel_rfl) hf with ⟨hcs, _⟩ | ⟨a, len, cap, A, L, C, Z, hcs, _, hl, hm, _, hr⟩
  · simp at hcs
    subst hcs
    exact ⟨[], [], ⟨none, 0, rfl, by simp, by simp [maxLen], fun k u hk => by simp at hk⟩, rfl, fun k u x hu => by simp at hu⟩
  · simp at hcs
    subst hcs
    refine ⟨(List.range len).map fun r => (Z r).take (L r), (List.range len).map fun r => .slice (A r) (L r) (C r), ⟨some a, cap, by simp, by simpa using hl, hm, fun k u hk => ⟨a, rfl, ?_⟩⟩, by simp, fun k u zs hu hz => ?_⟩
    · have hk' : k < len := by simpa using (List.getElem?_eq_some_iff.1 hk).1
      simp [hk'] at hk
      subst hk
      exact (hr k (by omega)).1
    · have hk' : k < len := by simpa using (List.getElem?_eq_some_iff.1 hu).1
      simp [hk'] at hu hz
      subst hu; subst hz
      obtain ⟨_, h1, h2, h3, h4, h5, h6⟩ := hr k (by omega)
      have hlen : (ints ((Z k).take (L k))).length = L k := by simp [ints]; omega
      refine ⟨⟨A k, C k, by rw [hlen], by rw [hlen]; exact h1, h2, fun j u hj => ?_⟩, fun z hz => in64_of_wf (h4 z (List.mem_of_mem_take hz))⟩
      have hj2 : j < (ints ((Z k).take (L k))).length := (List.getElem?_eq_some_iff.1 hj).1
      rw [hlen] at hj2
      cases hA : A k with
      | none => have := h5 hA; omega
      | some a' =>
        refine ⟨a', rfl, ?_⟩
        rw [(h6 a' hA).2 j (by omega)]
        have e : (ints ((Z k).take (L k)))[j]? = some (.int .i64 ((Z k).getD j 0)) := by
          simp [ints, List.getElem?_take, hj2, List.getD, show j < (Z k).length by omega]
        rw [e] at hj
        exact hj

theorem open_Tab {H : Type} {enc : TypeId × Value → H} {W : World} {base : Nat} {v : Value} {d : DataW H} {p : List MemPlace}
    (hv : Value.okWide Try.prog W .any base 25 v) (h : DataW.Trod enc Try.prog W 0 (fun _ => true) true 25 v d p) : ∃ A Bs, TabArg W v A Bs := by
  obtain ⟨c0, c1, y0, y1, m, rfl, rfl, rfl, hy0, hy1⟩ := open_agg2 Try.underlying25 (by kernel_rfl) (by kernel_rfl) hv h
  obtain ⟨A, hA⟩ := rows_of_trod hy0
  obtain ⟨Bs, hB⟩ := ints_of_trod hy1
  exact ⟨A, Bs, c0, c1, rfl, hA, hB⟩
end Go.Proofs.Ytgnmnpjbmdifbaa
