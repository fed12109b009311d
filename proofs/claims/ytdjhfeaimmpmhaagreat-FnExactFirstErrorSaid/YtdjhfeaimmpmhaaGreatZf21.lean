/- Arguments that came in, opened to the words of the Mem text. -/
import Derived.Test.YtdjhfeaimmpmhaaGreatRows
import Derived.Test.YtdjhfeaimmpmhaaGreatZf1
import Derived.WalkKit
import Derived.ProofKit
import Derived.OpenShut
set_option maxRecDepth 100000
set_option linter.unusedVariables false
set_option linter.unusedSimpArgs false
namespace Go.Proofs.YtdjhfeaimmpmhaaGreat
open Go.ChangeShapes Go.WideShapes Go.ChangeAt Go.RowKit

theorem in64_of_wf {z : Int} (h : (Lit.int .i64 z).wf = true) : In64 z := by
  simp [Lit.wf, IntKind.min, IntKind.max, IntKind.signed, IntKind.bits] at h
  unfold In64
  omega

theorem open_Ints {H : Type} {enc : TypeId × Value → H} {W : World} {base : Nat} {v : Value} {d : DataW H} {p : List MemPlace}
    (hv : Value.okWide Tryz.prog W .any base 24 v) (h : DataW.Trod enc Tryz.prog W 0 (fun _ => true) true 24 v d p) : ∃ zs, Ints W v zs := by
  obtain ⟨a, len, cap, rfl⟩ := okWide_slice Tryz.underlying24 hv
  obtain ⟨fuel, hf⟩ := h
  rcases open_ints Tryz.underlying24 Tryz.underlying2 (by kernel_rfl) hf with ⟨hcs, _⟩ | ⟨x, l, c, zs, hcs, _, hl, hm, hz, _, hcell, hwz⟩
  · simp [Value.cells] at hcs
    obtain ⟨rfl, rfl, rfl⟩ := hcs
    exact ⟨[], ⟨none, 0, rfl, by simp [ints], by simp [maxLen], fun k u hk => by simp [ints] at hk⟩, fun z hz => by simp at hz⟩
  · simp [Value.cells] at hcs
    obtain ⟨rfl, rfl, rfl⟩ := hcs
    have hz' : zs.length = cap := by simpa using hz
    have hlen : (ints (zs.take len)).length = len := by simp [ints]; omega
    refine ⟨zs.take len, ⟨some x, cap, by rw [hlen], by rw [hlen]; exact hl, hm, fun k u hk => ⟨x, rfl, ?_⟩⟩, fun z hz => in64_of_wf (hwz z (List.mem_of_mem_take hz))⟩
    have hk2 : k < (ints (zs.take len)).length := (List.getElem?_eq_some_iff.1 hk).1
    rw [hlen] at hk2
    rw [hcell k (by omega)]
    have e : (ints (zs.take len))[k]? = some (.int .i64 (zs.getD k 0)) := by
      simp [ints, List.getElem?_take, hk2, List.getD, show k < zs.length by omega]
    rw [e] at hk
    exact hk
end Go.Proofs.YtdjhfeaimmpmhaaGreat

