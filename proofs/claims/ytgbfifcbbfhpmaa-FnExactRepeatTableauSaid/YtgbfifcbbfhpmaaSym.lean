/- Walks: IsSymmetric of the program and of the reference. -/
import Derived.Test.YtgbfifcbbfhpmaaRows
import Derived.Test.YtgbfifcbbfhpmaaMem
import Derived.Test.YtgbfifcbbfhpmaaMem2
import Derived.Test.YtgbfifcbbfhpmaaNum
import Derived.Test.YtgbfifcbbfhpmaaA
import Derived.Test.YtgbfifcbbfhpmaaB
import Derived.Test.YtgbfifcbbfhpmaaLR
import Derived.Test.YtgbfifcbbfhpmaaTab
import Derived.WalkLawsBesides
import Derived.BigGuardPart
import Derived.Deep.QuietTactic
import Derived.BigQuiet
set_option linter.unusedVariables false
set_option linter.unusedSimpArgs false
namespace Go.Proofs.Ytgbfifcbbfhpmaa
open Go.RowKit

/-- the number in row i and column k -/
def ent (A : List (List Int)) (i k : Nat) : Int := (A.getD i []).getD k 0
theorem ent_eq {A : List (List Int)} {i k : Nat} {zs : List Int} {z : Int} (h : A[i]? = some zs) (hz : zs[k]? = some z) : ent A i k = z := by simp [ent, List.getD, h, hz]

/-- what the test for a tableau says -/
structure IsTab (A : List (List Int)) (Bs : List Int) : Prop where
  lo : 1 ≤ Bs.length
  hi : Bs.length ≤ 8
  len : A.length = Bs.length
  row : ∀ zs ∈ A, zs.length = Bs.length ∧ nums zs = true
  num : nums Bs = true
theorem isTab_of {A : List (List Int)} {Bs : List Int} (h : tabB A Bs = true) : IsTab A Bs := by
  simp only [tabB, Bool.and_eq_true, decide_eq_true_eq, List.all_eq_true, inR_iff] at h
  obtain ⟨⟨⟨h1, h2⟩, h3⟩, h4⟩ := h
  refine ⟨by omega, by omega, h2, fun zs hz => ?_, h3⟩
  have := h4 zs hz
  simpa [rowB] using this

/-- an entry of a tableau's matrix, in memory -/
theorem Rows.ent {w : World} {B : Option Addr} {c m n : Nat} {A : List (List Int)} (h : Rows w (.slice B m c) A) (hr : ∀ zs ∈ A, zs.length = n ∧ nums zs = true) {i k : Nat} (hi : i < A.length) (hk : k < n) :
    ∃ ad ad' c', B = some ad ∧ w.cell? (ad.add i) = some (.slice (some ad') n c') ∧ w.cell? (ad'.add k) = some (.int .i64 (ent A i k)) ∧ n ≤ c' ∧ c' ≤ 9223372036854775807 ∧ 0 ≤ Proofs.Ytgbfifcbbfhpmaa.ent A i k ∧ Proofs.Ytgbfifcbbfhpmaa.ent A i k ≤ 10006 := by
  obtain ⟨vs, hc, hl, hv⟩ := h
  obtain ⟨zs, hz⟩ : ∃ zs, A[i]? = some zs := ⟨_, List.getElem?_eq_getElem hi⟩
  have hzl := hr zs (List.mem_of_getElem? hz)
  obtain ⟨u, hu⟩ : ∃ u, vs[i]? = some u := ⟨_, List.getElem?_eq_getElem (by omega)⟩
  obtain ⟨ad, n', c0, e0, hcell⟩ := hc.at_ hu
  have hi := hv i u zs hu hz
  obtain ⟨B', c', rfl, h1, h2, h3⟩ := hi.open_
  obtain ⟨ad', z, hB, hzk, hin, hcz⟩ := h3 k (by omega)
  subst hB
  simp only [Value.slice.injEq] at e0
  have he := ent_eq hz hzk
  have hnb := nums_iff.1 hzl.2 z (List.mem_of_getElem? hzk)
  refine ⟨ad, ad', c', e0.1, by rw [hcell, hzl.1], by rw [he]; exact hcz, by omega, h2, ?_⟩
  rw [he]
  exact hnb

def symAt (A : List (List Int)) (Bs : List Int) (n i k : Nat) : Bool := decide ((ent A i k + ent A (n - 1 - i) (n - 1 - k)) % 10007 = Bs.getD k 0)
def symB (A : List (List Int)) (Bs : List Int) : Bool := (List.range Bs.length).all fun i => (List.range Bs.length).all fun k => symAt A Bs Bs.length i k
def symR (A : List (List Int)) (Bs : List Int) : Bool := tabB A Bs && symB A Bs
def tabC (A : List (List Int)) (Bs : List Int) : Int := if tabB A Bs then 0 else 1

set_option maxHeartbeats 400000 in
theorem im_stages (w : World) (v : Value) (A : List (List Int)) (Bs : List Int) (ha : TabArg w v A Bs) :
    Calls Try.prog 62 #[v] w fun e w' => e = .returned (.int .i64 Bs.length) ∧ Below w.heap.size w w' := by
  obtain ⟨va, vb, rfl, ha1, ha2⟩ := ha
  have BB := Lib.hid (below1 w (.cells #[va, vb] 27))
  obtain ⟨A2, c2, rfl, k1, k2, _⟩ := ha2.open_
  clear ha1 ha2
  go_enter Try.func62, Try.ntmps62
  go_wp2
  go_ret
  exact ⟨rfl, BB.out⟩

end Go.Proofs.Ytgbfifcbbfhpmaa
