/-
  No cell of these rows narrows 'for every input' (looked for: loops, veiled, ifaces, maps, wideKeys, modest, calm, conditions, laid).
  DERIVED. THE GIVEN ROWS OF THIS SEAT. 6 by the template 'for every input the law returns true; each argument reads behind the call as it read before'; 0 by the template 'total and deterministic' (their statements: YthkiokgfeckbeaaTotals.lean).
  GIVEN WITH THE SEED: the statements are not yours to turn. If you find one false, say at which input.
  Laid BY PROGRAM, IN A SANDBOX (cutbox-rows.mjs): the forced cells as the released guide's own fill.sh prints them over the translation 74048df990f549eb… (all of the seat's roots in one cut). By AI agents, Wed Nov 11 2026. No macro, syntax, notation, axiom, sorry.
-/
import Derived.Test.YthkiokgfeckbeaaChecked
import GoSem.Claim
import GoSem.ClaimJoined
import GoSem.ClaimMapViews
import Derived.JoinedTies
import Derived.KernelRfl
namespace Go.Proofs.Ythkiokgfeckbeaa
/- THE CELL 'sum', in the pinned program and in every row, IS THE sha256 OF THE DUMP (.gsa) THAT YthkiokgfeckbeaaProg.lean LOADS. Nothing in Lean hashes anything: it is a label: what it is worth is what the hold of that sum in a sandbox is worth. -/
noncomputable def Try.pinned : Pinned := { name := "ythkiokgfeckbeaa", sum := "74048df990f549ebb82fa4f2a4c3cd4c544e54dd7e4f6a31627f2e71b43c0160", checked := Try.checked }
namespace Rows
def none {H : Type} : Left H := { results := [], args := [] }

/-- 'laws.FnExactSymplecticFault': WHATEVER THE INPUT: true; the input reads as it did. -/
def fnExactSymplecticFaultSpec : ChangeSpec := { name := "fnExactSymplecticFault", fn := fun _ => fun
  | [d] => { results := [.lit (.bool true)], args := [d] }
  | _ => none }
def fnExactSymplecticFaultRow : OpenClaim := { program := "ythkiokgfeckbeaa", sum := "74048df990f549ebb82fa4f2a4c3cd4c544e54dd7e4f6a31627f2e71b43c0160", func := "loop.example/g01100/laws.FnExactSymplecticFault", spec := "fnExactSymplecticFault", unfollowed := true, recurses := true, apart := false }
def FnExactSymplecticFaultSaid : Prop := fnExactSymplecticFaultRow.holds Try.pinned (OpenSpec.ofChange fnExactSymplecticFaultSpec)

/-- ITS FALSE NEIGHBOUR: 'it returns false'. Refute it at one input. -/
def fnExactSymplecticFaultWrong : ChangeSpec := { name := "fnExactSymplecticFault", fn := fun _ => fun
  | [d] => { results := [.lit (.bool false)], args := [d] }
  | _ => none }
def FnExactSymplecticFaultWrongFalsely : Prop := fnExactSymplecticFaultRow.holds Try.pinned (OpenSpec.ofChange fnExactSymplecticFaultWrong)

/-- 'laws.FnExactScaleTableau': WHATEVER THE INPUT: true; the input reads as it did. -/
def fnExactScaleTableauSpec : ChangeSpec := { name := "fnExactScaleTableau", fn := fun _ => fun
  | [d1, d2] => { results := [.lit (.bool true)], args := [d1, d2] }
  | _ => none }
def fnExactScaleTableauRow : OpenClaim := { program := "ythkiokgfeckbeaa", sum := "74048df990f549ebb82fa4f2a4c3cd4c544e54dd7e4f6a31627f2e71b43c0160", func := "loop.example/g01100/laws.FnExactScaleTableau", spec := "fnExactScaleTableau", unfollowed := true, recurses := true, apart := false }
def FnExactScaleTableauSaid : Prop := fnExactScaleTableauRow.holds Try.pinned (OpenSpec.ofChange fnExactScaleTableauSpec)

/-- ITS FALSE NEIGHBOUR: 'it returns false'. Refute it at one input. -/
def fnExactScaleTableauWrong : ChangeSpec := { name := "fnExactScaleTableau", fn := fun _ => fun
  | [d1, d2] => { results := [.lit (.bool false)], args := [d1, d2] }
  | _ => none }
def FnExactScaleTableauWrongFalsely : Prop := fnExactScaleTableauRow.holds Try.pinned (OpenSpec.ofChange fnExactScaleTableauWrong)

/-- 'laws.FnExactAdjointTableau': WHATEVER THE INPUT: true; the input reads as it did. -/
def fnExactAdjointTableauSpec : ChangeSpec := { name := "fnExactAdjointTableau", fn := fun _ => fun
  | [d] => { results := [.lit (.bool true)], args := [d] }
  | _ => none }
def fnExactAdjointTableauRow : OpenClaim := { program := "ythkiokgfeckbeaa", sum := "74048df990f549ebb82fa4f2a4c3cd4c544e54dd7e4f6a31627f2e71b43c0160", func := "loop.example/g01100/laws.FnExactAdjointTableau", spec := "fnExactAdjointTableau", unfollowed := true, recurses := true, apart := false }
def FnExactAdjointTableauSaid : Prop := fnExactAdjointTableauRow.holds Try.pinned (OpenSpec.ofChange fnExactAdjointTableauSpec)

/-- ITS FALSE NEIGHBOUR: 'it returns false'. Refute it at one input. -/
def fnExactAdjointTableauWrong : ChangeSpec := { name := "fnExactAdjointTableau", fn := fun _ => fun
  | [d] => { results := [.lit (.bool false)], args := [d] }
  | _ => none }
def FnExactAdjointTableauWrongFalsely : Prop := fnExactAdjointTableauRow.holds Try.pinned (OpenSpec.ofChange fnExactAdjointTableauWrong)

/-- 'laws.FnExactCollocationTableau': WHATEVER THE INPUT: true; the input reads as it did. -/
def fnExactCollocationTableauSpec : ChangeSpec := { name := "fnExactCollocationTableau", fn := fun _ => fun
  | [d] => { results := [.lit (.bool true)], args := [d] }
  | _ => none }
def fnExactCollocationTableauRow : OpenClaim := { program := "ythkiokgfeckbeaa", sum := "74048df990f549ebb82fa4f2a4c3cd4c544e54dd7e4f6a31627f2e71b43c0160", func := "loop.example/g01100/laws.FnExactCollocationTableau", spec := "fnExactCollocationTableau", unfollowed := true, recurses := true, apart := false }
def FnExactCollocationTableauSaid : Prop := fnExactCollocationTableauRow.holds Try.pinned (OpenSpec.ofChange fnExactCollocationTableauSpec)

/-- ITS FALSE NEIGHBOUR: 'it returns false'. Refute it at one input. -/
def fnExactCollocationTableauWrong : ChangeSpec := { name := "fnExactCollocationTableau", fn := fun _ => fun
  | [d] => { results := [.lit (.bool false)], args := [d] }
  | _ => none }
def FnExactCollocationTableauWrongFalsely : Prop := fnExactCollocationTableauRow.holds Try.pinned (OpenSpec.ofChange fnExactCollocationTableauWrong)

/-- 'laws.FnExactRepeatTableau': WHATEVER THE INPUT: true; the input reads as it did. -/
def fnExactRepeatTableauSpec : ChangeSpec := { name := "fnExactRepeatTableau", fn := fun _ => fun
  | [d1, d2] => { results := [.lit (.bool true)], args := [d1, d2] }
  | _ => none }
def fnExactRepeatTableauRow : OpenClaim := { program := "ythkiokgfeckbeaa", sum := "74048df990f549ebb82fa4f2a4c3cd4c544e54dd7e4f6a31627f2e71b43c0160", func := "loop.example/g01100/laws.FnExactRepeatTableau", spec := "fnExactRepeatTableau", unfollowed := true, recurses := true, apart := false }
def FnExactRepeatTableauSaid : Prop := fnExactRepeatTableauRow.holds Try.pinned (OpenSpec.ofChange fnExactRepeatTableauSpec)

/-- ITS FALSE NEIGHBOUR: 'it returns false'. Refute it at one input. -/
def fnExactRepeatTableauWrong : ChangeSpec := { name := "fnExactRepeatTableau", fn := fun _ => fun
  | [d1, d2] => { results := [.lit (.bool false)], args := [d1, d2] }
  | _ => none }
def FnExactRepeatTableauWrongFalsely : Prop := fnExactRepeatTableauRow.holds Try.pinned (OpenSpec.ofChange fnExactRepeatTableauWrong)

/-- 'laws.FnExactIsCollocation': WHATEVER THE INPUT: true; the input reads as it did. -/
def fnExactIsCollocationSpec : ChangeSpec := { name := "fnExactIsCollocation", fn := fun _ => fun
  | [d] => { results := [.lit (.bool true)], args := [d] }
  | _ => none }
def fnExactIsCollocationRow : OpenClaim := { program := "ythkiokgfeckbeaa", sum := "74048df990f549ebb82fa4f2a4c3cd4c544e54dd7e4f6a31627f2e71b43c0160", func := "loop.example/g01100/laws.FnExactIsCollocation", spec := "fnExactIsCollocation", unfollowed := true, recurses := true, apart := false }
def FnExactIsCollocationSaid : Prop := fnExactIsCollocationRow.holds Try.pinned (OpenSpec.ofChange fnExactIsCollocationSpec)

/-- ITS FALSE NEIGHBOUR: 'it returns false'. Refute it at one input. -/
def fnExactIsCollocationWrong : ChangeSpec := { name := "fnExactIsCollocation", fn := fun _ => fun
  | [d] => { results := [.lit (.bool false)], args := [d] }
  | _ => none }
def FnExactIsCollocationWrongFalsely : Prop := fnExactIsCollocationRow.holds Try.pinned (OpenSpec.ofChange fnExactIsCollocationWrong)

/- THE SECOND FORM. 'bulk': how many values and letters a reading holds, each counted each time it is reached (what is shared counts as often as it is met; a slice's spare places count too). A statement '..UptoSaid' is the law's where the arguments, and the package variables that the reading takes, are together of bulk at most 1048576: NARROWER than '..Said'. Prove '..Said' where nothing that the law and all that it calls make is longer than what came in: it says more and counts as full. Else prove '..UptoSaid'. A law counts once. -/
mutual
def uptoBulk {H : Type} : DataW H → Nat
  | .lit (.string bytes) => bytes.length + 1
  | .lit _ => 1
  | .nil => 1
  | .ptr d => uptoBulk d + 1
  | .slice elems spare => uptoBulkAll elems + uptoBulkAll spare + 1
  | .agg parts => uptoBulkAll parts + 1
  | .iface _ d => uptoBulk d + 1
  | .map entries => uptoBulkEntries entries + 1
  | .held _ => 1
def uptoBulkAll {H : Type} : List (DataW H) → Nat
  | [] => 0
  | d :: r => uptoBulk d + uptoBulkAll r
def uptoBulkEntries {H : Type} : List (Lit × DataW H) → Nat
  | [] => 0
  | x :: r => uptoBulkEntry x + uptoBulkEntries r
def uptoBulkEntry {H : Type} : Lit × DataW H → Nat
  | (.string bytes, d) => bytes.length + uptoBulk d + 1
  | (_, d) => uptoBulk d + 1
 end
def uptoSmall : (H : Type) → List (DataW H) → Bool := fun _ ds => decide (uptoBulkAll ds ≤ 1048576)
def OpenSpec.upto (s : _root_.Go.ChangeSpec) : _root_.Go.OpenSpec := { _root_.Go.OpenSpec.ofChange s with cond := some uptoSmall }

/-- 'laws.FnExactSymplecticFault', WHERE WHAT IT READS IS OF BULK AT MOST 1048576: true; the input reads as it did. -/
def fnExactSymplecticFaultUptoRow : OpenClaim := { program := "ythkiokgfeckbeaa", sum := "74048df990f549ebb82fa4f2a4c3cd4c544e54dd7e4f6a31627f2e71b43c0160", func := "loop.example/g01100/laws.FnExactSymplecticFault", spec := "fnExactSymplecticFault", unfollowed := true, recurses := true, apart := false, narrowed := true }
def FnExactSymplecticFaultUptoSaid : Prop := fnExactSymplecticFaultUptoRow.holds Try.pinned (OpenSpec.upto fnExactSymplecticFaultSpec)

/-- 'laws.FnExactScaleTableau', WHERE WHAT IT READS IS OF BULK AT MOST 1048576: true; the input reads as it did. -/
def fnExactScaleTableauUptoRow : OpenClaim := { program := "ythkiokgfeckbeaa", sum := "74048df990f549ebb82fa4f2a4c3cd4c544e54dd7e4f6a31627f2e71b43c0160", func := "loop.example/g01100/laws.FnExactScaleTableau", spec := "fnExactScaleTableau", unfollowed := true, recurses := true, apart := false, narrowed := true }
def FnExactScaleTableauUptoSaid : Prop := fnExactScaleTableauUptoRow.holds Try.pinned (OpenSpec.upto fnExactScaleTableauSpec)

/-- 'laws.FnExactAdjointTableau', WHERE WHAT IT READS IS OF BULK AT MOST 1048576: true; the input reads as it did. -/
def fnExactAdjointTableauUptoRow : OpenClaim := { program := "ythkiokgfeckbeaa", sum := "74048df990f549ebb82fa4f2a4c3cd4c544e54dd7e4f6a31627f2e71b43c0160", func := "loop.example/g01100/laws.FnExactAdjointTableau", spec := "fnExactAdjointTableau", unfollowed := true, recurses := true, apart := false, narrowed := true }
def FnExactAdjointTableauUptoSaid : Prop := fnExactAdjointTableauUptoRow.holds Try.pinned (OpenSpec.upto fnExactAdjointTableauSpec)

/-- 'laws.FnExactCollocationTableau', WHERE WHAT IT READS IS OF BULK AT MOST 1048576: true; the input reads as it did. -/
def fnExactCollocationTableauUptoRow : OpenClaim := { program := "ythkiokgfeckbeaa", sum := "74048df990f549ebb82fa4f2a4c3cd4c544e54dd7e4f6a31627f2e71b43c0160", func := "loop.example/g01100/laws.FnExactCollocationTableau", spec := "fnExactCollocationTableau", unfollowed := true, recurses := true, apart := false, narrowed := true }
def FnExactCollocationTableauUptoSaid : Prop := fnExactCollocationTableauUptoRow.holds Try.pinned (OpenSpec.upto fnExactCollocationTableauSpec)

/-- 'laws.FnExactRepeatTableau', WHERE WHAT IT READS IS OF BULK AT MOST 1048576: true; the input reads as it did. -/
def fnExactRepeatTableauUptoRow : OpenClaim := { program := "ythkiokgfeckbeaa", sum := "74048df990f549ebb82fa4f2a4c3cd4c544e54dd7e4f6a31627f2e71b43c0160", func := "loop.example/g01100/laws.FnExactRepeatTableau", spec := "fnExactRepeatTableau", unfollowed := true, recurses := true, apart := false, narrowed := true }
def FnExactRepeatTableauUptoSaid : Prop := fnExactRepeatTableauUptoRow.holds Try.pinned (OpenSpec.upto fnExactRepeatTableauSpec)

/-- 'laws.FnExactIsCollocation', WHERE WHAT IT READS IS OF BULK AT MOST 1048576: true; the input reads as it did. -/
def fnExactIsCollocationUptoRow : OpenClaim := { program := "ythkiokgfeckbeaa", sum := "74048df990f549ebb82fa4f2a4c3cd4c544e54dd7e4f6a31627f2e71b43c0160", func := "loop.example/g01100/laws.FnExactIsCollocation", spec := "fnExactIsCollocation", unfollowed := true, recurses := true, apart := false, narrowed := true }
def FnExactIsCollocationUptoSaid : Prop := fnExactIsCollocationUptoRow.holds Try.pinned (OpenSpec.upto fnExactIsCollocationSpec)

end Rows
end Go.Proofs.Ythkiokgfeckbeaa
