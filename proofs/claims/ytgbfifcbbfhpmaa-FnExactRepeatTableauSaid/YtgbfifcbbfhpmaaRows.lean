/-
  No cell of these rows narrows 'for every input' (looked for: loops, veiled, ifaces, maps, wideKeys, modest, calm, conditions, laid).
  DERIVED. THE GIVEN ROWS OF THIS SEAT. 8 by the template 'for every input the law returns true; each argument reads behind the call as it read before'; 0 by the template 'total and deterministic' (their statements: YtgbfifcbbfhpmaaTotals.lean).
  GIVEN WITH THE SEED: the statements are not yours to turn. If you find one false, say at which input.
  Laid BY PROGRAM, IN A SANDBOX (cutbox-rows.mjs): the forced cells as the released guide's own fill.sh prints them over the translation 8cd73c3417e0d920… (all of the seat's roots in one cut). By AI agents, Wed Nov 11 2026. No macro, syntax, notation, axiom, sorry.
-/
import Derived.Test.YtgbfifcbbfhpmaaChecked
import GoSem.Claim
import GoSem.ClaimJoined
import GoSem.ClaimMapViews
import Derived.JoinedTies
import Derived.KernelRfl
namespace Go.Proofs.Ytgbfifcbbfhpmaa
/- THE CELL 'sum', in the pinned program and in every row, IS THE sha256 OF THE DUMP (.gsa) THAT YtgbfifcbbfhpmaaProg.lean LOADS. Nothing in Lean hashes anything: it is a label: what it is worth is what the hold of that sum in a sandbox is worth. -/
noncomputable def Try.pinned : Pinned := { name := "ytgbfifcbbfhpmaa", sum := "8cd73c3417e0d920b69bb55928fd162095910dcfbda9585fd280f27097c462d7", checked := Try.checked }
namespace Rows
def none {H : Type} : Left H := { results := [], args := [] }

/-- 'laws.FnExactAdjointTableau': WHATEVER THE INPUT: true; the input reads as it did. -/
def fnExactAdjointTableauSpec : ChangeSpec := { name := "fnExactAdjointTableau", fn := fun _ => fun
  | [d] => { results := [.lit (.bool true)], args := [d] }
  | _ => none }
def fnExactAdjointTableauRow : OpenClaim := { program := "ytgbfifcbbfhpmaa", sum := "8cd73c3417e0d920b69bb55928fd162095910dcfbda9585fd280f27097c462d7", func := "loop.example/g01100/laws.FnExactAdjointTableau", spec := "fnExactAdjointTableau", unfollowed := true, recurses := true, plainKeys := false, apart := false }
def FnExactAdjointTableauSaid : Prop := fnExactAdjointTableauRow.holds Try.pinned (OpenSpec.ofChange fnExactAdjointTableauSpec)

/-- ITS FALSE NEIGHBOUR: 'it returns false'. Refute it at one input. -/
def fnExactAdjointTableauWrong : ChangeSpec := { name := "fnExactAdjointTableau", fn := fun _ => fun
  | [d] => { results := [.lit (.bool false)], args := [d] }
  | _ => none }
def FnExactAdjointTableauWrongFalsely : Prop := fnExactAdjointTableauRow.holds Try.pinned (OpenSpec.ofChange fnExactAdjointTableauWrong)

/-- 'laws.FnExactCollocationTableau': WHATEVER THE INPUT: true; the input reads as it did. -/
def fnExactCollocationTableauSpec : ChangeSpec := { name := "fnExactCollocationTableau", fn := fun _ => fun
  | [d] => { results := [.lit (.bool true)], args := [d] }
  | _ => none }
def fnExactCollocationTableauRow : OpenClaim := { program := "ytgbfifcbbfhpmaa", sum := "8cd73c3417e0d920b69bb55928fd162095910dcfbda9585fd280f27097c462d7", func := "loop.example/g01100/laws.FnExactCollocationTableau", spec := "fnExactCollocationTableau", unfollowed := true, recurses := true, plainKeys := false, apart := false }
def FnExactCollocationTableauSaid : Prop := fnExactCollocationTableauRow.holds Try.pinned (OpenSpec.ofChange fnExactCollocationTableauSpec)

/-- ITS FALSE NEIGHBOUR: 'it returns false'. Refute it at one input. -/
def fnExactCollocationTableauWrong : ChangeSpec := { name := "fnExactCollocationTableau", fn := fun _ => fun
  | [d] => { results := [.lit (.bool false)], args := [d] }
  | _ => none }
def FnExactCollocationTableauWrongFalsely : Prop := fnExactCollocationTableauRow.holds Try.pinned (OpenSpec.ofChange fnExactCollocationTableauWrong)

/-- 'laws.FnExactRepeatTableau': WHATEVER THE INPUT: true; the input reads as it did. -/
def fnExactRepeatTableauSpec : ChangeSpec := { name := "fnExactRepeatTableau", fn := fun _ => fun
  | [d1, d2] => { results := [.lit (.bool true)], args := [d1, d2] }
  | _ => none }
def fnExactRepeatTableauRow : OpenClaim := { program := "ytgbfifcbbfhpmaa", sum := "8cd73c3417e0d920b69bb55928fd162095910dcfbda9585fd280f27097c462d7", func := "loop.example/g01100/laws.FnExactRepeatTableau", spec := "fnExactRepeatTableau", unfollowed := true, recurses := true, plainKeys := false, apart := false }
def FnExactRepeatTableauSaid : Prop := fnExactRepeatTableauRow.holds Try.pinned (OpenSpec.ofChange fnExactRepeatTableauSpec)

/-- ITS FALSE NEIGHBOUR: 'it returns false'. Refute it at one input. -/
def fnExactRepeatTableauWrong : ChangeSpec := { name := "fnExactRepeatTableau", fn := fun _ => fun
  | [d1, d2] => { results := [.lit (.bool false)], args := [d1, d2] }
  | _ => none }
def FnExactRepeatTableauWrongFalsely : Prop := fnExactRepeatTableauRow.holds Try.pinned (OpenSpec.ofChange fnExactRepeatTableauWrong)

/-- 'laws.FnExactIsCollocation': WHATEVER THE INPUT: true; the input reads as it did. -/
def fnExactIsCollocationSpec : ChangeSpec := { name := "fnExactIsCollocation", fn := fun _ => fun
  | [d] => { results := [.lit (.bool true)], args := [d] }
  | _ => none }
def fnExactIsCollocationRow : OpenClaim := { program := "ytgbfifcbbfhpmaa", sum := "8cd73c3417e0d920b69bb55928fd162095910dcfbda9585fd280f27097c462d7", func := "loop.example/g01100/laws.FnExactIsCollocation", spec := "fnExactIsCollocation", unfollowed := true, recurses := true, plainKeys := false, apart := false }
def FnExactIsCollocationSaid : Prop := fnExactIsCollocationRow.holds Try.pinned (OpenSpec.ofChange fnExactIsCollocationSpec)

/-- ITS FALSE NEIGHBOUR: 'it returns false'. Refute it at one input. -/
def fnExactIsCollocationWrong : ChangeSpec := { name := "fnExactIsCollocation", fn := fun _ => fun
  | [d] => { results := [.lit (.bool false)], args := [d] }
  | _ => none }
def FnExactIsCollocationWrongFalsely : Prop := fnExactIsCollocationRow.holds Try.pinned (OpenSpec.ofChange fnExactIsCollocationWrong)

/-- 'laws.FnExactIsField': WHATEVER THE INPUT: true; the input reads as it did. -/
def fnExactIsFieldSpec : ChangeSpec := { name := "fnExactIsField", fn := fun _ => fun
  | [d] => { results := [.lit (.bool true)], args := [d] }
  | _ => none }
def fnExactIsFieldRow : OpenClaim := { program := "ytgbfifcbbfhpmaa", sum := "8cd73c3417e0d920b69bb55928fd162095910dcfbda9585fd280f27097c462d7", func := "loop.example/g01100/laws.FnExactIsField", spec := "fnExactIsField", plainKeys := false, apart := false }
def FnExactIsFieldSaid : Prop := fnExactIsFieldRow.holds Try.pinned (OpenSpec.ofChange fnExactIsFieldSpec)

/-- ITS FALSE NEIGHBOUR: 'it returns false'. Refute it at one input. -/
def fnExactIsFieldWrong : ChangeSpec := { name := "fnExactIsField", fn := fun _ => fun
  | [d] => { results := [.lit (.bool false)], args := [d] }
  | _ => none }
def FnExactIsFieldWrongFalsely : Prop := fnExactIsFieldRow.holds Try.pinned (OpenSpec.ofChange fnExactIsFieldWrong)

/-- 'laws.FnExactScaleVectors': WHATEVER THE INPUT: true; the input reads as it did. -/
def fnExactScaleVectorsSpec : ChangeSpec := { name := "fnExactScaleVectors", fn := fun _ => fun
  | [d1, d2, d3] => { results := [.lit (.bool true)], args := [d1, d2, d3] }
  | _ => none }
def fnExactScaleVectorsRow : OpenClaim := { program := "ytgbfifcbbfhpmaa", sum := "8cd73c3417e0d920b69bb55928fd162095910dcfbda9585fd280f27097c462d7", func := "loop.example/g01100/laws.FnExactScaleVectors", spec := "fnExactScaleVectors", unfollowed := true, recurses := true, plainKeys := false, apart := false }
def FnExactScaleVectorsSaid : Prop := fnExactScaleVectorsRow.holds Try.pinned (OpenSpec.ofChange fnExactScaleVectorsSpec)

/-- ITS FALSE NEIGHBOUR: 'it returns false'. Refute it at one input. -/
def fnExactScaleVectorsWrong : ChangeSpec := { name := "fnExactScaleVectors", fn := fun _ => fun
  | [d1, d2, d3] => { results := [.lit (.bool false)], args := [d1, d2, d3] }
  | _ => none }
def FnExactScaleVectorsWrongFalsely : Prop := fnExactScaleVectorsRow.holds Try.pinned (OpenSpec.ofChange fnExactScaleVectorsWrong)

/-- 'laws.FnExactEvaluateVectors': WHATEVER THE INPUT: true; the input reads as it did. -/
def fnExactEvaluateVectorsSpec : ChangeSpec := { name := "fnExactEvaluateVectors", fn := fun _ => fun
  | [d1, d2, d3] => { results := [.lit (.bool true)], args := [d1, d2, d3] }
  | _ => none }
def fnExactEvaluateVectorsRow : OpenClaim := { program := "ytgbfifcbbfhpmaa", sum := "8cd73c3417e0d920b69bb55928fd162095910dcfbda9585fd280f27097c462d7", func := "loop.example/g01100/laws.FnExactEvaluateVectors", spec := "fnExactEvaluateVectors", unfollowed := true, recurses := true, plainKeys := false, apart := false }
def FnExactEvaluateVectorsSaid : Prop := fnExactEvaluateVectorsRow.holds Try.pinned (OpenSpec.ofChange fnExactEvaluateVectorsSpec)

/-- ITS FALSE NEIGHBOUR: 'it returns false'. Refute it at one input. -/
def fnExactEvaluateVectorsWrong : ChangeSpec := { name := "fnExactEvaluateVectors", fn := fun _ => fun
  | [d1, d2, d3] => { results := [.lit (.bool false)], args := [d1, d2, d3] }
  | _ => none }
def FnExactEvaluateVectorsWrongFalsely : Prop := fnExactEvaluateVectorsRow.holds Try.pinned (OpenSpec.ofChange fnExactEvaluateVectorsWrong)

/-- 'laws.FnExactFormSeries': WHATEVER THE INPUT: true; the input reads as it did. -/
def fnExactFormSeriesSpec : ChangeSpec := { name := "fnExactFormSeries", fn := fun _ => fun
  | [d1, d2, d3] => { results := [.lit (.bool true)], args := [d1, d2, d3] }
  | _ => none }
def fnExactFormSeriesRow : OpenClaim := { program := "ytgbfifcbbfhpmaa", sum := "8cd73c3417e0d920b69bb55928fd162095910dcfbda9585fd280f27097c462d7", func := "loop.example/g01100/laws.FnExactFormSeries", spec := "fnExactFormSeries", unfollowed := true, recurses := true, plainKeys := false, apart := false }
def FnExactFormSeriesSaid : Prop := fnExactFormSeriesRow.holds Try.pinned (OpenSpec.ofChange fnExactFormSeriesSpec)

/-- ITS FALSE NEIGHBOUR: 'it returns false'. Refute it at one input. -/
def fnExactFormSeriesWrong : ChangeSpec := { name := "fnExactFormSeries", fn := fun _ => fun
  | [d1, d2, d3] => { results := [.lit (.bool false)], args := [d1, d2, d3] }
  | _ => none }
def FnExactFormSeriesWrongFalsely : Prop := fnExactFormSeriesRow.holds Try.pinned (OpenSpec.ofChange fnExactFormSeriesWrong)

/- THE SECOND FORM. 'bulk': how many values and letters a reading holds, each counted each time it is reached (what is shared counts as often as it is met; a slice's spare places count too). A statement '..UptoSaid' is the law's where the arguments, and the package variables that the reading takes, are together of bulk at most 1048576: NARROWER than '..Said'. Prove '..Said' where nothing that the law and all that it calls make is longer than what came in: it says more and counts as full. Else prove '..UptoSaid'. A law counts once. -/
mutual
def uptoBulk {H : Type} : DataW H → Nat
  | .lit (.string bytes) => bytes.length + 1
  | .lit _ => 1
  | .nil => 1
  | .ptr d => uptoBulk d + 1
  | .slice elems spare => uptoBulkAll elems + uptoBulkAll spare + 1
  | .agg parts => uptoBulkAll parts + 1
  | .iface _ d => uptoBulk d + 1
  | .map entries => uptoBulkEntries entries + 1
  | .held _ => 1
def uptoBulkAll {H : Type} : List (DataW H) → Nat
  | [] => 0
  | d :: r => uptoBulk d + uptoBulkAll r
def uptoBulkEntries {H : Type} : List (Lit × DataW H) → Nat
  | [] => 0
  | x :: r => uptoBulkEntry x + uptoBulkEntries r
def uptoBulkEntry {H : Type} : Lit × DataW H → Nat
  | (.string bytes, d) => bytes.length + uptoBulk d + 1
  | (_, d) => uptoBulk d + 1
 end
def uptoSmall : (H : Type) → List (DataW H) → Bool := fun _ ds => decide (uptoBulkAll ds ≤ 1048576)
def OpenSpec.upto (s : _root_.Go.ChangeSpec) : _root_.Go.OpenSpec := { _root_.Go.OpenSpec.ofChange s with cond := some uptoSmall }

/-- 'laws.FnExactAdjointTableau', WHERE WHAT IT READS IS OF BULK AT MOST 1048576: true; the input reads as it did. -/
def fnExactAdjointTableauUptoRow : OpenClaim := { program := "ytgbfifcbbfhpmaa", sum := "8cd73c3417e0d920b69bb55928fd162095910dcfbda9585fd280f27097c462d7", func := "loop.example/g01100/laws.FnExactAdjointTableau", spec := "fnExactAdjointTableau", unfollowed := true, recurses := true, plainKeys := false, apart := false, narrowed := true }
def FnExactAdjointTableauUptoSaid : Prop := fnExactAdjointTableauUptoRow.holds Try.pinned (OpenSpec.upto fnExactAdjointTableauSpec)

/-- 'laws.FnExactCollocationTableau', WHERE WHAT IT READS IS OF BULK AT MOST 1048576: true; the input reads as it did. -/
def fnExactCollocationTableauUptoRow : OpenClaim := { program := "ytgbfifcbbfhpmaa", sum := "8cd73c3417e0d920b69bb55928fd162095910dcfbda9585fd280f27097c462d7", func := "loop.example/g01100/laws.FnExactCollocationTableau", spec := "fnExactCollocationTableau", unfollowed := true, recurses := true, plainKeys := false, apart := false, narrowed := true }
def FnExactCollocationTableauUptoSaid : Prop := fnExactCollocationTableauUptoRow.holds Try.pinned (OpenSpec.upto fnExactCollocationTableauSpec)

/-- 'laws.FnExactRepeatTableau', WHERE WHAT IT READS IS OF BULK AT MOST 1048576: true; the input reads as it did. -/
def fnExactRepeatTableauUptoRow : OpenClaim := { program := "ytgbfifcbbfhpmaa", sum := "8cd73c3417e0d920b69bb55928fd162095910dcfbda9585fd280f27097c462d7", func := "loop.example/g01100/laws.FnExactRepeatTableau", spec := "fnExactRepeatTableau", unfollowed := true, recurses := true, plainKeys := false, apart := false, narrowed := true }
def FnExactRepeatTableauUptoSaid : Prop := fnExactRepeatTableauUptoRow.holds Try.pinned (OpenSpec.upto fnExactRepeatTableauSpec)

/-- 'laws.FnExactIsCollocation', WHERE WHAT IT READS IS OF BULK AT MOST 1048576: true; the input reads as it did. -/
def fnExactIsCollocationUptoRow : OpenClaim := { program := "ytgbfifcbbfhpmaa", sum := "8cd73c3417e0d920b69bb55928fd162095910dcfbda9585fd280f27097c462d7", func := "loop.example/g01100/laws.FnExactIsCollocation", spec := "fnExactIsCollocation", unfollowed := true, recurses := true, plainKeys := false, apart := false, narrowed := true }
def FnExactIsCollocationUptoSaid : Prop := fnExactIsCollocationUptoRow.holds Try.pinned (OpenSpec.upto fnExactIsCollocationSpec)

/-- 'laws.FnExactIsField', WHERE WHAT IT READS IS OF BULK AT MOST 1048576: true; the input reads as it did. -/
def fnExactIsFieldUptoRow : OpenClaim := { program := "ytgbfifcbbfhpmaa", sum := "8cd73c3417e0d920b69bb55928fd162095910dcfbda9585fd280f27097c462d7", func := "loop.example/g01100/laws.FnExactIsField", spec := "fnExactIsField", plainKeys := false, apart := false, narrowed := true }
def FnExactIsFieldUptoSaid : Prop := fnExactIsFieldUptoRow.holds Try.pinned (OpenSpec.upto fnExactIsFieldSpec)

/-- 'laws.FnExactScaleVectors', WHERE WHAT IT READS IS OF BULK AT MOST 1048576: true; the input reads as it did. -/
def fnExactScaleVectorsUptoRow : OpenClaim := { program := "ytgbfifcbbfhpmaa", sum := "8cd73c3417e0d920b69bb55928fd162095910dcfbda9585fd280f27097c462d7", func := "loop.example/g01100/laws.FnExactScaleVectors", spec := "fnExactScaleVectors", unfollowed := true, recurses := true, plainKeys := false, apart := false, narrowed := true }
def FnExactScaleVectorsUptoSaid : Prop := fnExactScaleVectorsUptoRow.holds Try.pinned (OpenSpec.upto fnExactScaleVectorsSpec)

/-- 'laws.FnExactEvaluateVectors', WHERE WHAT IT READS IS OF BULK AT MOST 1048576: true; the input reads as it did. -/
def fnExactEvaluateVectorsUptoRow : OpenClaim := { program := "ytgbfifcbbfhpmaa", sum := "8cd73c3417e0d920b69bb55928fd162095910dcfbda9585fd280f27097c462d7", func := "loop.example/g01100/laws.FnExactEvaluateVectors", spec := "fnExactEvaluateVectors", unfollowed := true, recurses := true, plainKeys := false, apart := false, narrowed := true }
def FnExactEvaluateVectorsUptoSaid : Prop := fnExactEvaluateVectorsUptoRow.holds Try.pinned (OpenSpec.upto fnExactEvaluateVectorsSpec)

/-- 'laws.FnExactFormSeries', WHERE WHAT IT READS IS OF BULK AT MOST 1048576: true; the input reads as it did. -/
def fnExactFormSeriesUptoRow : OpenClaim := { program := "ytgbfifcbbfhpmaa", sum := "8cd73c3417e0d920b69bb55928fd162095910dcfbda9585fd280f27097c462d7", func := "loop.example/g01100/laws.FnExactFormSeries", spec := "fnExactFormSeries", unfollowed := true, recurses := true, plainKeys := false, apart := false, narrowed := true }
def FnExactFormSeriesUptoSaid : Prop := fnExactFormSeriesUptoRow.holds Try.pinned (OpenSpec.upto fnExactFormSeriesSpec)

end Rows
end Go.Proofs.Ytgbfifcbbfhpmaa
