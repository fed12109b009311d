/-
  No cell of these rows narrows 'for every input' (looked for: loops, veiled, ifaces, maps, wideKeys, modest, calm, conditions, laid).
  DERIVED. THE GIVEN ROWS OF THIS SEAT. 10 by the template 'for every input the law returns true; each argument reads behind the call as it read before'; 0 by the template 'total and deterministic' (their statements: YtgnmnpjbmdifbaaTotals.lean).
  GIVEN WITH THE SEED: the statements are not yours to turn. If you find one false, say at which input.
  Laid BY PROGRAM, IN A SANDBOX (cutbox-rows.mjs): the forced cells as the released guide's own fill.sh prints them over the translation 93af59d628430298… (all of the seat's roots in one cut). By AI agents, Wed Nov 11 2026. No macro, syntax, notation, axiom, sorry.
-/
import Derived.Test.YtgnmnpjbmdifbaaChecked
import GoSem.Claim
import GoSem.ClaimJoined
import GoSem.ClaimMapViews
import Derived.JoinedTies
import Derived.KernelRfl
namespace Go.Proofs.Ytgnmnpjbmdifbaa
/- THE CELL 'sum', in the pinned program and in every row, IS THE sha256 OF THE DUMP (.gsa) THAT YtgnmnpjbmdifbaaProg.lean LOADS. Nothing in Lean hashes anything: it is a label: what it is worth is what the hold of that sum in a sandbox is worth. -/
noncomputable def Try.pinned : Pinned := { name := "ytgnmnpjbmdifbaa", sum := "93af59d628430298fdda173d99364dfa15f0b0433584b0c991eee0ad7e5e89c1", checked := Try.checked }
namespace Rows
def none {H : Type} : Left H := { results := [], args := [] }

/-- 'laws.FnExactIsSymmetric': WHATEVER THE INPUT: true; the input reads as it did. -/
def fnExactIsSymmetricSpec : ChangeSpec := { name := "fnExactIsSymmetric", fn := fun _ => fun
  | [d] => { results := [.lit (.bool true)], args := [d] }
  | _ => none }
def fnExactIsSymmetricRow : OpenClaim := { program := "ytgnmnpjbmdifbaa", sum := "93af59d628430298fdda173d99364dfa15f0b0433584b0c991eee0ad7e5e89c1", func := "loop.example/g01100/laws.FnExactIsSymmetric", spec := "fnExactIsSymmetric", unfollowed := true, recurses := true, plainKeys := false, apart := false }
def FnExactIsSymmetricSaid : Prop := fnExactIsSymmetricRow.holds Try.pinned (OpenSpec.ofChange fnExactIsSymmetricSpec)

/-- ITS FALSE NEIGHBOUR: 'it returns false'. Refute it at one input. -/
def fnExactIsSymmetricWrong : ChangeSpec := { name := "fnExactIsSymmetric", fn := fun _ => fun
  | [d] => { results := [.lit (.bool false)], args := [d] }
  | _ => none }
def FnExactIsSymmetricWrongFalsely : Prop := fnExactIsSymmetricRow.holds Try.pinned (OpenSpec.ofChange fnExactIsSymmetricWrong)

/-- 'laws.FnExactIsField': WHATEVER THE INPUT: true; the input reads as it did. -/
def fnExactIsFieldSpec : ChangeSpec := { name := "fnExactIsField", fn := fun _ => fun
  | [d] => { results := [.lit (.bool true)], args := [d] }
  | _ => none }
def fnExactIsFieldRow : OpenClaim := { program := "ytgnmnpjbmdifbaa", sum := "93af59d628430298fdda173d99364dfa15f0b0433584b0c991eee0ad7e5e89c1", func := "loop.example/g01100/laws.FnExactIsField", spec := "fnExactIsField", plainKeys := false, apart := false }
def FnExactIsFieldSaid : Prop := fnExactIsFieldRow.holds Try.pinned (OpenSpec.ofChange fnExactIsFieldSpec)

/-- ITS FALSE NEIGHBOUR: 'it returns false'. Refute it at one input. -/
def fnExactIsFieldWrong : ChangeSpec := { name := "fnExactIsField", fn := fun _ => fun
  | [d] => { results := [.lit (.bool false)], args := [d] }
  | _ => none }
def FnExactIsFieldWrongFalsely : Prop := fnExactIsFieldRow.holds Try.pinned (OpenSpec.ofChange fnExactIsFieldWrong)

/-- 'laws.FnExactScaleVectors': WHATEVER THE INPUT: true; the input reads as it did. -/
def fnExactScaleVectorsSpec : ChangeSpec := { name := "fnExactScaleVectors", fn := fun _ => fun
  | [d1, d2, d3] => { results := [.lit (.bool true)], args := [d1, d2, d3] }
  | _ => none }
def fnExactScaleVectorsRow : OpenClaim := { program := "ytgnmnpjbmdifbaa", sum := "93af59d628430298fdda173d99364dfa15f0b0433584b0c991eee0ad7e5e89c1", func := "loop.example/g01100/laws.FnExactScaleVectors", spec := "fnExactScaleVectors", unfollowed := true, recurses := true, plainKeys := false, apart := false }
def FnExactScaleVectorsSaid : Prop := fnExactScaleVectorsRow.holds Try.pinned (OpenSpec.ofChange fnExactScaleVectorsSpec)

/-- ITS FALSE NEIGHBOUR: 'it returns false'. Refute it at one input. -/
def fnExactScaleVectorsWrong : ChangeSpec := { name := "fnExactScaleVectors", fn := fun _ => fun
  | [d1, d2, d3] => { results := [.lit (.bool false)], args := [d1, d2, d3] }
  | _ => none }
def FnExactScaleVectorsWrongFalsely : Prop := fnExactScaleVectorsRow.holds Try.pinned (OpenSpec.ofChange fnExactScaleVectorsWrong)

/-- 'laws.FnExactEvaluateVectors': WHATEVER THE INPUT: true; the input reads as it did. -/
def fnExactEvaluateVectorsSpec : ChangeSpec := { name := "fnExactEvaluateVectors", fn := fun _ => fun
  | [d1, d2, d3] => { results := [.lit (.bool true)], args := [d1, d2, d3] }
  | _ => none }
def fnExactEvaluateVectorsRow : OpenClaim := { program := "ytgnmnpjbmdifbaa", sum := "93af59d628430298fdda173d99364dfa15f0b0433584b0c991eee0ad7e5e89c1", func := "loop.example/g01100/laws.FnExactEvaluateVectors", spec := "fnExactEvaluateVectors", unfollowed := true, recurses := true, plainKeys := false, apart := false }
def FnExactEvaluateVectorsSaid : Prop := fnExactEvaluateVectorsRow.holds Try.pinned (OpenSpec.ofChange fnExactEvaluateVectorsSpec)

/-- ITS FALSE NEIGHBOUR: 'it returns false'. Refute it at one input. -/
def fnExactEvaluateVectorsWrong : ChangeSpec := { name := "fnExactEvaluateVectors", fn := fun _ => fun
  | [d1, d2, d3] => { results := [.lit (.bool false)], args := [d1, d2, d3] }
  | _ => none }
def FnExactEvaluateVectorsWrongFalsely : Prop := fnExactEvaluateVectorsRow.holds Try.pinned (OpenSpec.ofChange fnExactEvaluateVectorsWrong)

/-- 'laws.FnExactFormSeries': WHATEVER THE INPUT: true; the input reads as it did. -/
def fnExactFormSeriesSpec : ChangeSpec := { name := "fnExactFormSeries", fn := fun _ => fun
  | [d1, d2, d3] => { results := [.lit (.bool true)], args := [d1, d2, d3] }
  | _ => none }
def fnExactFormSeriesRow : OpenClaim := { program := "ytgnmnpjbmdifbaa", sum := "93af59d628430298fdda173d99364dfa15f0b0433584b0c991eee0ad7e5e89c1", func := "loop.example/g01100/laws.FnExactFormSeries", spec := "fnExactFormSeries", unfollowed := true, recurses := true, plainKeys := false, apart := false }
def FnExactFormSeriesSaid : Prop := fnExactFormSeriesRow.holds Try.pinned (OpenSpec.ofChange fnExactFormSeriesSpec)

/-- ITS FALSE NEIGHBOUR: 'it returns false'. Refute it at one input. -/
def fnExactFormSeriesWrong : ChangeSpec := { name := "fnExactFormSeries", fn := fun _ => fun
  | [d1, d2, d3] => { results := [.lit (.bool false)], args := [d1, d2, d3] }
  | _ => none }
def FnExactFormSeriesWrongFalsely : Prop := fnExactFormSeriesRow.holds Try.pinned (OpenSpec.ofChange fnExactFormSeriesWrong)

/-- 'laws.FnExactSkeletonOf': WHATEVER THE INPUT: true; the input reads as it did. -/
def fnExactSkeletonOfSpec : ChangeSpec := { name := "fnExactSkeletonOf", fn := fun _ => fun
  | [d1, d2] => { results := [.lit (.bool true)], args := [d1, d2] }
  | _ => none }
def fnExactSkeletonOfRow : OpenClaim := { program := "ytgnmnpjbmdifbaa", sum := "93af59d628430298fdda173d99364dfa15f0b0433584b0c991eee0ad7e5e89c1", func := "loop.example/g01100/laws.FnExactSkeletonOf", spec := "fnExactSkeletonOf", unfollowed := true, recurses := true, plainKeys := false, apart := false }
def FnExactSkeletonOfSaid : Prop := fnExactSkeletonOfRow.holds Try.pinned (OpenSpec.ofChange fnExactSkeletonOfSpec)

/-- ITS FALSE NEIGHBOUR: 'it returns false'. Refute it at one input. -/
def fnExactSkeletonOfWrong : ChangeSpec := { name := "fnExactSkeletonOf", fn := fun _ => fun
  | [d1, d2] => { results := [.lit (.bool false)], args := [d1, d2] }
  | _ => none }
def FnExactSkeletonOfWrongFalsely : Prop := fnExactSkeletonOfRow.holds Try.pinned (OpenSpec.ofChange fnExactSkeletonOfWrong)

/-- 'laws.FnExactFreeConditions': WHATEVER THE INPUT: true; the input reads as it did. -/
def fnExactFreeConditionsSpec : ChangeSpec := { name := "fnExactFreeConditions", fn := fun _ => fun
  | [d] => { results := [.lit (.bool true)], args := [d] }
  | _ => none }
def fnExactFreeConditionsRow : OpenClaim := { program := "ytgnmnpjbmdifbaa", sum := "93af59d628430298fdda173d99364dfa15f0b0433584b0c991eee0ad7e5e89c1", func := "loop.example/g01100/laws.FnExactFreeConditions", spec := "fnExactFreeConditions", unfollowed := true, recurses := true, plainKeys := false, apart := false }
def FnExactFreeConditionsSaid : Prop := fnExactFreeConditionsRow.holds Try.pinned (OpenSpec.ofChange fnExactFreeConditionsSpec)

/-- ITS FALSE NEIGHBOUR: 'it returns false'. Refute it at one input. -/
def fnExactFreeConditionsWrong : ChangeSpec := { name := "fnExactFreeConditions", fn := fun _ => fun
  | [d] => { results := [.lit (.bool false)], args := [d] }
  | _ => none }
def FnExactFreeConditionsWrongFalsely : Prop := fnExactFreeConditionsRow.holds Try.pinned (OpenSpec.ofChange fnExactFreeConditionsWrong)

/-- 'laws.FnExactPiecesOf': WHATEVER THE INPUT: true; the input reads as it did. -/
def fnExactPiecesOfSpec : ChangeSpec := { name := "fnExactPiecesOf", fn := fun _ => fun
  | [d1, d2] => { results := [.lit (.bool true)], args := [d1, d2] }
  | _ => none }
def fnExactPiecesOfRow : OpenClaim := { program := "ytgnmnpjbmdifbaa", sum := "93af59d628430298fdda173d99364dfa15f0b0433584b0c991eee0ad7e5e89c1", func := "loop.example/g01100/laws.FnExactPiecesOf", spec := "fnExactPiecesOf", unfollowed := true, recurses := true, plainKeys := false, apart := false }
def FnExactPiecesOfSaid : Prop := fnExactPiecesOfRow.holds Try.pinned (OpenSpec.ofChange fnExactPiecesOfSpec)

/-- ITS FALSE NEIGHBOUR: 'it returns false'. Refute it at one input. -/
def fnExactPiecesOfWrong : ChangeSpec := { name := "fnExactPiecesOf", fn := fun _ => fun
  | [d1, d2] => { results := [.lit (.bool false)], args := [d1, d2] }
  | _ => none }
def FnExactPiecesOfWrongFalsely : Prop := fnExactPiecesOfRow.holds Try.pinned (OpenSpec.ofChange fnExactPiecesOfWrong)

/-- 'laws.FnExactHamiltonianOf': WHATEVER THE INPUT: true; the input reads as it did. -/
def fnExactHamiltonianOfSpec : ChangeSpec := { name := "fnExactHamiltonianOf", fn := fun _ => fun
  | [d] => { results := [.lit (.bool true)], args := [d] }
  | _ => none }
def fnExactHamiltonianOfRow : OpenClaim := { program := "ytgnmnpjbmdifbaa", sum := "93af59d628430298fdda173d99364dfa15f0b0433584b0c991eee0ad7e5e89c1", func := "loop.example/g01100/laws.FnExactHamiltonianOf", spec := "fnExactHamiltonianOf", unfollowed := true, recurses := true, plainKeys := false, apart := false }
def FnExactHamiltonianOfSaid : Prop := fnExactHamiltonianOfRow.holds Try.pinned (OpenSpec.ofChange fnExactHamiltonianOfSpec)

/-- ITS FALSE NEIGHBOUR: 'it returns false'. Refute it at one input. -/
def fnExactHamiltonianOfWrong : ChangeSpec := { name := "fnExactHamiltonianOf", fn := fun _ => fun
  | [d] => { results := [.lit (.bool false)], args := [d] }
  | _ => none }
def FnExactHamiltonianOfWrongFalsely : Prop := fnExactHamiltonianOfRow.holds Try.pinned (OpenSpec.ofChange fnExactHamiltonianOfWrong)

/-- 'laws.FnExactPartitionsOf': WHATEVER THE INPUT: true; the input reads as it did. -/
def fnExactPartitionsOfSpec : ChangeSpec := { name := "fnExactPartitionsOf", fn := fun _ => fun
  | [d] => { results := [.lit (.bool true)], args := [d] }
  | _ => none }
def fnExactPartitionsOfRow : OpenClaim := { program := "ytgnmnpjbmdifbaa", sum := "93af59d628430298fdda173d99364dfa15f0b0433584b0c991eee0ad7e5e89c1", func := "loop.example/g01100/laws.FnExactPartitionsOf", spec := "fnExactPartitionsOf", unfollowed := true, recurses := true, plainKeys := false, apart := false }
def FnExactPartitionsOfSaid : Prop := fnExactPartitionsOfRow.holds Try.pinned (OpenSpec.ofChange fnExactPartitionsOfSpec)

/-- ITS FALSE NEIGHBOUR: 'it returns false'. Refute it at one input. -/
def fnExactPartitionsOfWrong : ChangeSpec := { name := "fnExactPartitionsOf", fn := fun _ => fun
  | [d] => { results := [.lit (.bool false)], args := [d] }
  | _ => none }
def FnExactPartitionsOfWrongFalsely : Prop := fnExactPartitionsOfRow.holds Try.pinned (OpenSpec.ofChange fnExactPartitionsOfWrong)

/- THE SECOND FORM. 'bulk': how many values and letters a reading holds, each counted each time it is reached (what is shared counts as often as it is met; a slice's spare places count too). A statement '..UptoSaid' is the law's where the arguments, and the package variables that the reading takes, are together of bulk at most 1048576: NARROWER than '..Said'. Prove '..Said' where nothing that the law and all that it calls make is longer than what came in: it says more and counts as full. Else prove '..UptoSaid'. A law counts once. -/
mutual
def uptoBulk {H : Type} : DataW H → Nat
  | .lit (.string bytes) => bytes.length + 1
  | .lit _ => 1
  | .nil => 1
  | .ptr d => uptoBulk d + 1
  | .slice elems spare => uptoBulkAll elems + uptoBulkAll spare + 1
  | .agg parts => uptoBulkAll parts + 1
  | .iface _ d => uptoBulk d + 1
  | .map entries => uptoBulkEntries entries + 1
  | .held _ => 1
def uptoBulkAll {H : Type} : List (DataW H) → Nat
  | [] => 0
  | d :: r => uptoBulk d + uptoBulkAll r
def uptoBulkEntries {H : Type} : List (Lit × DataW H) → Nat
  | [] => 0
  | x :: r => uptoBulkEntry x + uptoBulkEntries r
def uptoBulkEntry {H : Type} : Lit × DataW H → Nat
  | (.string bytes, d) => bytes.length + uptoBulk d + 1
  | (_, d) => uptoBulk d + 1
 end
def uptoSmall : (H : Type) → List (DataW H) → Bool := fun _ ds => decide (uptoBulkAll ds ≤ 1048576)
def OpenSpec.upto (s : _root_.Go.ChangeSpec) : _root_.Go.OpenSpec := { _root_.Go.OpenSpec.ofChange s with cond := some uptoSmall }

/-- 'laws.FnExactIsSymmetric', WHERE WHAT IT READS IS OF BULK AT MOST 1048576: true; the input reads as it did. -/
def fnExactIsSymmetricUptoRow : OpenClaim := { program := "ytgnmnpjbmdifbaa", sum := "93af59d628430298fdda173d99364dfa15f0b0433584b0c991eee0ad7e5e89c1", func := "loop.example/g01100/laws.FnExactIsSymmetric", spec := "fnExactIsSymmetric", unfollowed := true, recurses := true, plainKeys := false, apart := false, narrowed := true }
def FnExactIsSymmetricUptoSaid : Prop := fnExactIsSymmetricUptoRow.holds Try.pinned (OpenSpec.upto fnExactIsSymmetricSpec)

/-- 'laws.FnExactIsField', WHERE WHAT IT READS IS OF BULK AT MOST 1048576: true; the input reads as it did. -/
def fnExactIsFieldUptoRow : OpenClaim := { program := "ytgnmnpjbmdifbaa", sum := "93af59d628430298fdda173d99364dfa15f0b0433584b0c991eee0ad7e5e89c1", func := "loop.example/g01100/laws.FnExactIsField", spec := "fnExactIsField", plainKeys := false, apart := false, narrowed := true }
def FnExactIsFieldUptoSaid : Prop := fnExactIsFieldUptoRow.holds Try.pinned (OpenSpec.upto fnExactIsFieldSpec)

/-- 'laws.FnExactScaleVectors', WHERE WHAT IT READS IS OF BULK AT MOST 1048576: true; the input reads as it did. -/
def fnExactScaleVectorsUptoRow : OpenClaim := { program := "ytgnmnpjbmdifbaa", sum := "93af59d628430298fdda173d99364dfa15f0b0433584b0c991eee0ad7e5e89c1", func := "loop.example/g01100/laws.FnExactScaleVectors", spec := "fnExactScaleVectors", unfollowed := true, recurses := true, plainKeys := false, apart := false, narrowed := true }
def FnExactScaleVectorsUptoSaid : Prop := fnExactScaleVectorsUptoRow.holds Try.pinned (OpenSpec.upto fnExactScaleVectorsSpec)

/-- 'laws.FnExactEvaluateVectors', WHERE WHAT IT READS IS OF BULK AT MOST 1048576: true; the input reads as it did. -/
def fnExactEvaluateVectorsUptoRow : OpenClaim := { program := "ytgnmnpjbmdifbaa", sum := "93af59d628430298fdda173d99364dfa15f0b0433584b0c991eee0ad7e5e89c1", func := "loop.example/g01100/laws.FnExactEvaluateVectors", spec := "fnExactEvaluateVectors", unfollowed := true, recurses := true, plainKeys := false, apart := false, narrowed := true }
def FnExactEvaluateVectorsUptoSaid : Prop := fnExactEvaluateVectorsUptoRow.holds Try.pinned (OpenSpec.upto fnExactEvaluateVectorsSpec)

/-- 'laws.FnExactFormSeries', WHERE WHAT IT READS IS OF BULK AT MOST 1048576: true; the input reads as it did. -/
def fnExactFormSeriesUptoRow : OpenClaim := { program := "ytgnmnpjbmdifbaa", sum := "93af59d628430298fdda173d99364dfa15f0b0433584b0c991eee0ad7e5e89c1", func := "loop.example/g01100/laws.FnExactFormSeries", spec := "fnExactFormSeries", unfollowed := true, recurses := true, plainKeys := false, apart := false, narrowed := true }
def FnExactFormSeriesUptoSaid : Prop := fnExactFormSeriesUptoRow.holds Try.pinned (OpenSpec.upto fnExactFormSeriesSpec)

/-- 'laws.FnExactSkeletonOf', WHERE WHAT IT READS IS OF BULK AT MOST 1048576: true; the input reads as it did. -/
def fnExactSkeletonOfUptoRow : OpenClaim := { program := "ytgnmnpjbmdifbaa", sum := "93af59d628430298fdda173d99364dfa15f0b0433584b0c991eee0ad7e5e89c1", func := "loop.example/g01100/laws.FnExactSkeletonOf", spec := "fnExactSkeletonOf", unfollowed := true, recurses := true, plainKeys := false, apart := false, narrowed := true }
def FnExactSkeletonOfUptoSaid : Prop := fnExactSkeletonOfUptoRow.holds Try.pinned (OpenSpec.upto fnExactSkeletonOfSpec)

/-- 'laws.FnExactFreeConditions', WHERE WHAT IT READS IS OF BULK AT MOST 1048576: true; the input reads as it did. -/
def fnExactFreeConditionsUptoRow : OpenClaim := { program := "ytgnmnpjbmdifbaa", sum := "93af59d628430298fdda173d99364dfa15f0b0433584b0c991eee0ad7e5e89c1", func := "loop.example/g01100/laws.FnExactFreeConditions", spec := "fnExactFreeConditions", unfollowed := true, recurses := true, plainKeys := false, apart := false, narrowed := true }
def FnExactFreeConditionsUptoSaid : Prop := fnExactFreeConditionsUptoRow.holds Try.pinned (OpenSpec.upto fnExactFreeConditionsSpec)

/-- 'laws.FnExactPiecesOf', WHERE WHAT IT READS IS OF BULK AT MOST 1048576: true; the input reads as it did. -/
def fnExactPiecesOfUptoRow : OpenClaim := { program := "ytgnmnpjbmdifbaa", sum := "93af59d628430298fdda173d99364dfa15f0b0433584b0c991eee0ad7e5e89c1", func := "loop.example/g01100/laws.FnExactPiecesOf", spec := "fnExactPiecesOf", unfollowed := true, recurses := true, plainKeys := false, apart := false, narrowed := true }
def FnExactPiecesOfUptoSaid : Prop := fnExactPiecesOfUptoRow.holds Try.pinned (OpenSpec.upto fnExactPiecesOfSpec)

/-- 'laws.FnExactHamiltonianOf', WHERE WHAT IT READS IS OF BULK AT MOST 1048576: true; the input reads as it did. -/
def fnExactHamiltonianOfUptoRow : OpenClaim := { program := "ytgnmnpjbmdifbaa", sum := "93af59d628430298fdda173d99364dfa15f0b0433584b0c991eee0ad7e5e89c1", func := "loop.example/g01100/laws.FnExactHamiltonianOf", spec := "fnExactHamiltonianOf", unfollowed := true, recurses := true, plainKeys := false, apart := false, narrowed := true }
def FnExactHamiltonianOfUptoSaid : Prop := fnExactHamiltonianOfUptoRow.holds Try.pinned (OpenSpec.upto fnExactHamiltonianOfSpec)

/-- 'laws.FnExactPartitionsOf', WHERE WHAT IT READS IS OF BULK AT MOST 1048576: true; the input reads as it did. -/
def fnExactPartitionsOfUptoRow : OpenClaim := { program := "ytgnmnpjbmdifbaa", sum := "93af59d628430298fdda173d99364dfa15f0b0433584b0c991eee0ad7e5e89c1", func := "loop.example/g01100/laws.FnExactPartitionsOf", spec := "fnExactPartitionsOf", unfollowed := true, recurses := true, plainKeys := false, apart := false, narrowed := true }
def FnExactPartitionsOfUptoSaid : Prop := fnExactPartitionsOfUptoRow.holds Try.pinned (OpenSpec.upto fnExactPartitionsOfSpec)

end Rows
end Go.Proofs.Ytgnmnpjbmdifbaa
