/-
  No cell of these rows narrows 'for every input' (looked for: loops, veiled, ifaces, maps, wideKeys, modest, calm, conditions, laid).
  DERIVED. THE GIVEN ROWS OF THIS SEAT. 9 by the template 'for every input the law returns true; each argument reads behind the call as it read before'; 0 by the template 'total and deterministic' (their statements: YtbjeibcombjfgaaTotals.lean).
  GIVEN WITH THE SEED: the statements are not yours to turn. If you find one false, say at which input.
  Laid BY PROGRAM, IN A SANDBOX (cutbox-rows.mjs): the forced cells as the released guide's own fill.sh prints them over the translation 8309224877a0d370… (all of the seat's roots in one cut). By AI agents, Wed Nov 11 2026. No macro, syntax, notation, axiom, sorry.
-/
import Derived.Test.YtbjeibcombjfgaaChecked
import GoSem.Claim
import GoSem.ClaimJoined
import GoSem.ClaimMapViews
import Derived.JoinedTies
import Derived.KernelRfl
namespace Go.Proofs.Ytbjeibcombjfgaa
/- THE CELL 'sum', in the pinned program and in every row, IS THE sha256 OF THE DUMP (.gsa) THAT YtbjeibcombjfgaaProg.lean LOADS. Nothing in Lean hashes anything: it is a label: what it is worth is what the hold of that sum in a sandbox is worth. -/
noncomputable def Try.pinned : Pinned := { name := "ytbjeibcombjfgaa", sum := "8309224877a0d370153d83b0736a63ec9edaabe5151b88662e857d4c42d3c6cb", checked := Try.checked }
namespace Rows
def none {H : Type} : Left H := { results := [], args := [] }

/-- 'laws.FnRepeats': WHATEVER THE INPUT: true; the input reads as it did. -/
def fnRepeatsSpec : ChangeSpec := { name := "fnRepeats", fn := fun _ => fun
  | [d] => { results := [.lit (.bool true)], args := [d] }
  | _ => none }
def fnRepeatsRow : OpenClaim := { program := "ytbjeibcombjfgaa", sum := "8309224877a0d370153d83b0736a63ec9edaabe5151b88662e857d4c42d3c6cb", func := "loop.example/g01100/laws.FnRepeats", spec := "fnRepeats", unfollowed := true, recurses := true, apart := false }
def FnRepeatsSaid : Prop := fnRepeatsRow.holds Try.pinned (OpenSpec.ofChange fnRepeatsSpec)

/-- ITS FALSE NEIGHBOUR: 'it returns false'. Refute it at one input. -/
def fnRepeatsWrong : ChangeSpec := { name := "fnRepeats", fn := fun _ => fun
  | [d] => { results := [.lit (.bool false)], args := [d] }
  | _ => none }
def FnRepeatsWrongFalsely : Prop := fnRepeatsRow.holds Try.pinned (OpenSpec.ofChange fnRepeatsWrong)

/-- 'laws.FnAdjoints': WHATEVER THE INPUT: true; the input reads as it did. -/
def fnAdjointsSpec : ChangeSpec := { name := "fnAdjoints", fn := fun _ => fun
  | [d] => { results := [.lit (.bool true)], args := [d] }
  | _ => none }
def fnAdjointsRow : OpenClaim := { program := "ytbjeibcombjfgaa", sum := "8309224877a0d370153d83b0736a63ec9edaabe5151b88662e857d4c42d3c6cb", func := "loop.example/g01100/laws.FnAdjoints", spec := "fnAdjoints", unfollowed := true, recurses := true, apart := false }
def FnAdjointsSaid : Prop := fnAdjointsRow.holds Try.pinned (OpenSpec.ofChange fnAdjointsSpec)

/-- ITS FALSE NEIGHBOUR: 'it returns false'. Refute it at one input. -/
def fnAdjointsWrong : ChangeSpec := { name := "fnAdjoints", fn := fun _ => fun
  | [d] => { results := [.lit (.bool false)], args := [d] }
  | _ => none }
def FnAdjointsWrongFalsely : Prop := fnAdjointsRow.holds Try.pinned (OpenSpec.ofChange fnAdjointsWrong)

/-- 'laws.FnAssumptions': WHATEVER THE INPUT: true; the input reads as it did. -/
def fnAssumptionsSpec : ChangeSpec := { name := "fnAssumptions", fn := fun _ => fun
  | [d] => { results := [.lit (.bool true)], args := [d] }
  | _ => none }
def fnAssumptionsRow : OpenClaim := { program := "ytbjeibcombjfgaa", sum := "8309224877a0d370153d83b0736a63ec9edaabe5151b88662e857d4c42d3c6cb", func := "loop.example/g01100/laws.FnAssumptions", spec := "fnAssumptions", unfollowed := true, recurses := true, apart := false }
def FnAssumptionsSaid : Prop := fnAssumptionsRow.holds Try.pinned (OpenSpec.ofChange fnAssumptionsSpec)

/-- ITS FALSE NEIGHBOUR: 'it returns false'. Refute it at one input. -/
def fnAssumptionsWrong : ChangeSpec := { name := "fnAssumptions", fn := fun _ => fun
  | [d] => { results := [.lit (.bool false)], args := [d] }
  | _ => none }
def FnAssumptionsWrongFalsely : Prop := fnAssumptionsRow.holds Try.pinned (OpenSpec.ofChange fnAssumptionsWrong)

/-- 'laws.FnFreeTrees': WHATEVER THE INPUT: true; the input reads as it did. -/
def fnFreeTreesSpec : ChangeSpec := { name := "fnFreeTrees", fn := fun _ => fun
  | [d] => { results := [.lit (.bool true)], args := [d] }
  | _ => none }
def fnFreeTreesRow : OpenClaim := { program := "ytbjeibcombjfgaa", sum := "8309224877a0d370153d83b0736a63ec9edaabe5151b88662e857d4c42d3c6cb", func := "loop.example/g01100/laws.FnFreeTrees", spec := "fnFreeTrees", unfollowed := true, recurses := true, apart := false }
def FnFreeTreesSaid : Prop := fnFreeTreesRow.holds Try.pinned (OpenSpec.ofChange fnFreeTreesSpec)

/-- ITS FALSE NEIGHBOUR: 'it returns false'. Refute it at one input. -/
def fnFreeTreesWrong : ChangeSpec := { name := "fnFreeTrees", fn := fun _ => fun
  | [d] => { results := [.lit (.bool false)], args := [d] }
  | _ => none }
def FnFreeTreesWrongFalsely : Prop := fnFreeTreesRow.holds Try.pinned (OpenSpec.ofChange fnFreeTreesWrong)

/-- 'laws.FnExactSkeletonOf': WHATEVER THE INPUT: true; the input reads as it did. -/
def fnExactSkeletonOfSpec : ChangeSpec := { name := "fnExactSkeletonOf", fn := fun _ => fun
  | [d1, d2] => { results := [.lit (.bool true)], args := [d1, d2] }
  | _ => none }
def fnExactSkeletonOfRow : OpenClaim := { program := "ytbjeibcombjfgaa", sum := "8309224877a0d370153d83b0736a63ec9edaabe5151b88662e857d4c42d3c6cb", func := "loop.example/g01100/laws.FnExactSkeletonOf", spec := "fnExactSkeletonOf", unfollowed := true, recurses := true, apart := false }
def FnExactSkeletonOfSaid : Prop := fnExactSkeletonOfRow.holds Try.pinned (OpenSpec.ofChange fnExactSkeletonOfSpec)

/-- ITS FALSE NEIGHBOUR: 'it returns false'. Refute it at one input. -/
def fnExactSkeletonOfWrong : ChangeSpec := { name := "fnExactSkeletonOf", fn := fun _ => fun
  | [d1, d2] => { results := [.lit (.bool false)], args := [d1, d2] }
  | _ => none }
def FnExactSkeletonOfWrongFalsely : Prop := fnExactSkeletonOfRow.holds Try.pinned (OpenSpec.ofChange fnExactSkeletonOfWrong)

/-- 'laws.FnExactFreeConditions': WHATEVER THE INPUT: true; the input reads as it did. -/
def fnExactFreeConditionsSpec : ChangeSpec := { name := "fnExactFreeConditions", fn := fun _ => fun
  | [d] => { results := [.lit (.bool true)], args := [d] }
  | _ => none }
def fnExactFreeConditionsRow : OpenClaim := { program := "ytbjeibcombjfgaa", sum := "8309224877a0d370153d83b0736a63ec9edaabe5151b88662e857d4c42d3c6cb", func := "loop.example/g01100/laws.FnExactFreeConditions", spec := "fnExactFreeConditions", unfollowed := true, recurses := true, apart := false }
def FnExactFreeConditionsSaid : Prop := fnExactFreeConditionsRow.holds Try.pinned (OpenSpec.ofChange fnExactFreeConditionsSpec)

/-- ITS FALSE NEIGHBOUR: 'it returns false'. Refute it at one input. -/
def fnExactFreeConditionsWrong : ChangeSpec := { name := "fnExactFreeConditions", fn := fun _ => fun
  | [d] => { results := [.lit (.bool false)], args := [d] }
  | _ => none }
def FnExactFreeConditionsWrongFalsely : Prop := fnExactFreeConditionsRow.holds Try.pinned (OpenSpec.ofChange fnExactFreeConditionsWrong)

/-- 'laws.FnExactPiecesOf': WHATEVER THE INPUT: true; the input reads as it did. -/
def fnExactPiecesOfSpec : ChangeSpec := { name := "fnExactPiecesOf", fn := fun _ => fun
  | [d1, d2] => { results := [.lit (.bool true)], args := [d1, d2] }
  | _ => none }
def fnExactPiecesOfRow : OpenClaim := { program := "ytbjeibcombjfgaa", sum := "8309224877a0d370153d83b0736a63ec9edaabe5151b88662e857d4c42d3c6cb", func := "loop.example/g01100/laws.FnExactPiecesOf", spec := "fnExactPiecesOf", unfollowed := true, recurses := true, apart := false }
def FnExactPiecesOfSaid : Prop := fnExactPiecesOfRow.holds Try.pinned (OpenSpec.ofChange fnExactPiecesOfSpec)

/-- ITS FALSE NEIGHBOUR: 'it returns false'. Refute it at one input. -/
def fnExactPiecesOfWrong : ChangeSpec := { name := "fnExactPiecesOf", fn := fun _ => fun
  | [d1, d2] => { results := [.lit (.bool false)], args := [d1, d2] }
  | _ => none }
def FnExactPiecesOfWrongFalsely : Prop := fnExactPiecesOfRow.holds Try.pinned (OpenSpec.ofChange fnExactPiecesOfWrong)

/-- 'laws.FnExactHamiltonianOf': WHATEVER THE INPUT: true; the input reads as it did. -/
def fnExactHamiltonianOfSpec : ChangeSpec := { name := "fnExactHamiltonianOf", fn := fun _ => fun
  | [d] => { results := [.lit (.bool true)], args := [d] }
  | _ => none }
def fnExactHamiltonianOfRow : OpenClaim := { program := "ytbjeibcombjfgaa", sum := "8309224877a0d370153d83b0736a63ec9edaabe5151b88662e857d4c42d3c6cb", func := "loop.example/g01100/laws.FnExactHamiltonianOf", spec := "fnExactHamiltonianOf", unfollowed := true, recurses := true, apart := false }
def FnExactHamiltonianOfSaid : Prop := fnExactHamiltonianOfRow.holds Try.pinned (OpenSpec.ofChange fnExactHamiltonianOfSpec)

/-- ITS FALSE NEIGHBOUR: 'it returns false'. Refute it at one input. -/
def fnExactHamiltonianOfWrong : ChangeSpec := { name := "fnExactHamiltonianOf", fn := fun _ => fun
  | [d] => { results := [.lit (.bool false)], args := [d] }
  | _ => none }
def FnExactHamiltonianOfWrongFalsely : Prop := fnExactHamiltonianOfRow.holds Try.pinned (OpenSpec.ofChange fnExactHamiltonianOfWrong)

/-- 'laws.FnPartitions': WHATEVER THE INPUT: true; the input reads as it did. -/
def fnPartitionsSpec : ChangeSpec := { name := "fnPartitions", fn := fun _ => fun
  | [d] => { results := [.lit (.bool true)], args := [d] }
  | _ => none }
def fnPartitionsRow : OpenClaim := { program := "ytbjeibcombjfgaa", sum := "8309224877a0d370153d83b0736a63ec9edaabe5151b88662e857d4c42d3c6cb", func := "loop.example/g01100/laws.FnPartitions", spec := "fnPartitions", unfollowed := true, recurses := true, apart := false }
def FnPartitionsSaid : Prop := fnPartitionsRow.holds Try.pinned (OpenSpec.ofChange fnPartitionsSpec)

/-- ITS FALSE NEIGHBOUR: 'it returns false'. Refute it at one input. -/
def fnPartitionsWrong : ChangeSpec := { name := "fnPartitions", fn := fun _ => fun
  | [d] => { results := [.lit (.bool false)], args := [d] }
  | _ => none }
def FnPartitionsWrongFalsely : Prop := fnPartitionsRow.holds Try.pinned (OpenSpec.ofChange fnPartitionsWrong)

/- THE SECOND FORM. 'bulk': how many values and letters a reading holds, each counted each time it is reached (what is shared counts as often as it is met; a slice's spare places count too). A statement '..UptoSaid' is the law's where the arguments, and the package variables that the reading takes, are together of bulk at most 1048576: NARROWER than '..Said'. Prove '..Said' where nothing that the law and all that it calls make is longer than what came in: it says more and counts as full. Else prove '..UptoSaid'. A law counts once. -/
mutual
def uptoBulk {H : Type} : DataW H → Nat
  | .lit (.string bytes) => bytes.length + 1
  | .lit _ => 1
  | .nil => 1
  | .ptr d => uptoBulk d + 1
  | .slice elems spare => uptoBulkAll elems + uptoBulkAll spare + 1
  | .agg parts => uptoBulkAll parts + 1
  | .iface _ d => uptoBulk d + 1
  | .map entries => uptoBulkEntries entries + 1
  | .held _ => 1
def uptoBulkAll {H : Type} : List (DataW H) → Nat
  | [] => 0
  | d :: r => uptoBulk d + uptoBulkAll r
def uptoBulkEntries {H : Type} : List (Lit × DataW H) → Nat
  | [] => 0
  | x :: r => uptoBulkEntry x + uptoBulkEntries r
def uptoBulkEntry {H : Type} : Lit × DataW H → Nat
  | (.string bytes, d) => bytes.length + uptoBulk d + 1
  | (_, d) => uptoBulk d + 1
 end
def uptoSmall : (H : Type) → List (DataW H) → Bool := fun _ ds => decide (uptoBulkAll ds ≤ 1048576)
def OpenSpec.upto (s : _root_.Go.ChangeSpec) : _root_.Go.OpenSpec := { _root_.Go.OpenSpec.ofChange s with cond := some uptoSmall }

/-- 'laws.FnRepeats', WHERE WHAT IT READS IS OF BULK AT MOST 1048576: true; the input reads as it did. -/
def fnRepeatsUptoRow : OpenClaim := { program := "ytbjeibcombjfgaa", sum := "8309224877a0d370153d83b0736a63ec9edaabe5151b88662e857d4c42d3c6cb", func := "loop.example/g01100/laws.FnRepeats", spec := "fnRepeats", unfollowed := true, recurses := true, apart := false, narrowed := true }
def FnRepeatsUptoSaid : Prop := fnRepeatsUptoRow.holds Try.pinned (OpenSpec.upto fnRepeatsSpec)

/-- 'laws.FnAdjoints', WHERE WHAT IT READS IS OF BULK AT MOST 1048576: true; the input reads as it did. -/
def fnAdjointsUptoRow : OpenClaim := { program := "ytbjeibcombjfgaa", sum := "8309224877a0d370153d83b0736a63ec9edaabe5151b88662e857d4c42d3c6cb", func := "loop.example/g01100/laws.FnAdjoints", spec := "fnAdjoints", unfollowed := true, recurses := true, apart := false, narrowed := true }
def FnAdjointsUptoSaid : Prop := fnAdjointsUptoRow.holds Try.pinned (OpenSpec.upto fnAdjointsSpec)

/-- 'laws.FnAssumptions', WHERE WHAT IT READS IS OF BULK AT MOST 1048576: true; the input reads as it did. -/
def fnAssumptionsUptoRow : OpenClaim := { program := "ytbjeibcombjfgaa", sum := "8309224877a0d370153d83b0736a63ec9edaabe5151b88662e857d4c42d3c6cb", func := "loop.example/g01100/laws.FnAssumptions", spec := "fnAssumptions", unfollowed := true, recurses := true, apart := false, narrowed := true }
def FnAssumptionsUptoSaid : Prop := fnAssumptionsUptoRow.holds Try.pinned (OpenSpec.upto fnAssumptionsSpec)

/-- 'laws.FnFreeTrees', WHERE WHAT IT READS IS OF BULK AT MOST 1048576: true; the input reads as it did. -/
def fnFreeTreesUptoRow : OpenClaim := { program := "ytbjeibcombjfgaa", sum := "8309224877a0d370153d83b0736a63ec9edaabe5151b88662e857d4c42d3c6cb", func := "loop.example/g01100/laws.FnFreeTrees", spec := "fnFreeTrees", unfollowed := true, recurses := true, apart := false, narrowed := true }
def FnFreeTreesUptoSaid : Prop := fnFreeTreesUptoRow.holds Try.pinned (OpenSpec.upto fnFreeTreesSpec)

/-- 'laws.FnExactSkeletonOf', WHERE WHAT IT READS IS OF BULK AT MOST 1048576: true; the input reads as it did. -/
def fnExactSkeletonOfUptoRow : OpenClaim := { program := "ytbjeibcombjfgaa", sum := "8309224877a0d370153d83b0736a63ec9edaabe5151b88662e857d4c42d3c6cb", func := "loop.example/g01100/laws.FnExactSkeletonOf", spec := "fnExactSkeletonOf", unfollowed := true, recurses := true, apart := false, narrowed := true }
def FnExactSkeletonOfUptoSaid : Prop := fnExactSkeletonOfUptoRow.holds Try.pinned (OpenSpec.upto fnExactSkeletonOfSpec)

/-- 'laws.FnExactFreeConditions', WHERE WHAT IT READS IS OF BULK AT MOST 1048576: true; the input reads as it did. -/
def fnExactFreeConditionsUptoRow : OpenClaim := { program := "ytbjeibcombjfgaa", sum := "8309224877a0d370153d83b0736a63ec9edaabe5151b88662e857d4c42d3c6cb", func := "loop.example/g01100/laws.FnExactFreeConditions", spec := "fnExactFreeConditions", unfollowed := true, recurses := true, apart := false, narrowed := true }
def FnExactFreeConditionsUptoSaid : Prop := fnExactFreeConditionsUptoRow.holds Try.pinned (OpenSpec.upto fnExactFreeConditionsSpec)

/-- 'laws.FnExactPiecesOf', WHERE WHAT IT READS IS OF BULK AT MOST 1048576: true; the input reads as it did. -/
def fnExactPiecesOfUptoRow : OpenClaim := { program := "ytbjeibcombjfgaa", sum := "8309224877a0d370153d83b0736a63ec9edaabe5151b88662e857d4c42d3c6cb", func := "loop.example/g01100/laws.FnExactPiecesOf", spec := "fnExactPiecesOf", unfollowed := true, recurses := true, apart := false, narrowed := true }
def FnExactPiecesOfUptoSaid : Prop := fnExactPiecesOfUptoRow.holds Try.pinned (OpenSpec.upto fnExactPiecesOfSpec)

/-- 'laws.FnExactHamiltonianOf', WHERE WHAT IT READS IS OF BULK AT MOST 1048576: true; the input reads as it did. -/
def fnExactHamiltonianOfUptoRow : OpenClaim := { program := "ytbjeibcombjfgaa", sum := "8309224877a0d370153d83b0736a63ec9edaabe5151b88662e857d4c42d3c6cb", func := "loop.example/g01100/laws.FnExactHamiltonianOf", spec := "fnExactHamiltonianOf", unfollowed := true, recurses := true, apart := false, narrowed := true }
def FnExactHamiltonianOfUptoSaid : Prop := fnExactHamiltonianOfUptoRow.holds Try.pinned (OpenSpec.upto fnExactHamiltonianOfSpec)

/-- 'laws.FnPartitions', WHERE WHAT IT READS IS OF BULK AT MOST 1048576: true; the input reads as it did. -/
def fnPartitionsUptoRow : OpenClaim := { program := "ytbjeibcombjfgaa", sum := "8309224877a0d370153d83b0736a63ec9edaabe5151b88662e857d4c42d3c6cb", func := "loop.example/g01100/laws.FnPartitions", spec := "fnPartitions", unfollowed := true, recurses := true, apart := false, narrowed := true }
def FnPartitionsUptoSaid : Prop := fnPartitionsUptoRow.holds Try.pinned (OpenSpec.upto fnPartitionsSpec)

end Rows
end Go.Proofs.Ytbjeibcombjfgaa
