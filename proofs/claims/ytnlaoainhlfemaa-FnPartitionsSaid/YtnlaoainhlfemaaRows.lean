/-
  No cell of these rows narrows 'for every input' (looked for: loops, veiled, ifaces, maps, wideKeys, modest, calm, conditions, laid).
  DERIVED. THE GIVEN ROWS OF THIS SEAT. 5 by the template 'for every input the law returns true; each argument reads behind the call as it read before'; 0 by the template 'total and deterministic' (their statements: YtnlaoainhlfemaaTotals.lean).
  GIVEN WITH THE SEED: the statements are not yours to turn. If you find one false, say at which input.
  Laid BY PROGRAM, IN A SANDBOX (cutbox-rows.mjs): the forced cells as the released guide's own fill.sh prints them over the translation ce6530e5b43322b1… (all of the seat's roots in one cut). By AI agents, Wed Nov 11 2026. No macro, syntax, notation, axiom, sorry.
-/
import Derived.Test.YtnlaoainhlfemaaChecked
import GoSem.Claim
import GoSem.ClaimJoined
import GoSem.ClaimMapViews
import Derived.JoinedTies
import Derived.KernelRfl
namespace Go.Proofs.Ytnlaoainhlfemaa
/- THE CELL 'sum', in the pinned program and in every row, IS THE sha256 OF THE DUMP (.gsa) THAT YtnlaoainhlfemaaProg.lean LOADS. Nothing in Lean hashes anything: it is a label: what it is worth is what the hold of that sum in a sandbox is worth. -/
noncomputable def Try.pinned : Pinned := { name := "ytnlaoainhlfemaa", sum := "ce6530e5b43322b11a22eb3759521cdd07f08d2a0379cbb566076beb12f36320", checked := Try.checked }
namespace Rows
def none {H : Type} : Left H := { results := [], args := [] }

/-- 'laws.FnAdjoints': WHATEVER THE INPUT: true; the input reads as it did. -/
def fnAdjointsSpec : ChangeSpec := { name := "fnAdjoints", fn := fun _ => fun
  | [d] => { results := [.lit (.bool true)], args := [d] }
  | _ => none }
def fnAdjointsRow : OpenClaim := { program := "ytnlaoainhlfemaa", sum := "ce6530e5b43322b11a22eb3759521cdd07f08d2a0379cbb566076beb12f36320", func := "loop.example/g01100/laws.FnAdjoints", spec := "fnAdjoints", unfollowed := true, recurses := true, plainKeys := false, apart := false }
def FnAdjointsSaid : Prop := fnAdjointsRow.holds Try.pinned (OpenSpec.ofChange fnAdjointsSpec)

/-- ITS FALSE NEIGHBOUR: 'it returns false'. Refute it at one input. -/
def fnAdjointsWrong : ChangeSpec := { name := "fnAdjoints", fn := fun _ => fun
  | [d] => { results := [.lit (.bool false)], args := [d] }
  | _ => none }
def FnAdjointsWrongFalsely : Prop := fnAdjointsRow.holds Try.pinned (OpenSpec.ofChange fnAdjointsWrong)

/-- 'laws.FnAssumptions': WHATEVER THE INPUT: true; the input reads as it did. -/
def fnAssumptionsSpec : ChangeSpec := { name := "fnAssumptions", fn := fun _ => fun
  | [d] => { results := [.lit (.bool true)], args := [d] }
  | _ => none }
def fnAssumptionsRow : OpenClaim := { program := "ytnlaoainhlfemaa", sum := "ce6530e5b43322b11a22eb3759521cdd07f08d2a0379cbb566076beb12f36320", func := "loop.example/g01100/laws.FnAssumptions", spec := "fnAssumptions", unfollowed := true, recurses := true, plainKeys := false, apart := false }
def FnAssumptionsSaid : Prop := fnAssumptionsRow.holds Try.pinned (OpenSpec.ofChange fnAssumptionsSpec)

/-- ITS FALSE NEIGHBOUR: 'it returns false'. Refute it at one input. -/
def fnAssumptionsWrong : ChangeSpec := { name := "fnAssumptions", fn := fun _ => fun
  | [d] => { results := [.lit (.bool false)], args := [d] }
  | _ => none }
def FnAssumptionsWrongFalsely : Prop := fnAssumptionsRow.holds Try.pinned (OpenSpec.ofChange fnAssumptionsWrong)

/-- 'laws.FnExactLinearField': WHATEVER THE INPUT: true; the input reads as it did. -/
def fnExactLinearFieldSpec : ChangeSpec := { name := "fnExactLinearField", fn := fun _ => fun
  | [d] => { results := [.lit (.bool true)], args := [d] }
  | _ => none }
def fnExactLinearFieldRow : OpenClaim := { program := "ytnlaoainhlfemaa", sum := "ce6530e5b43322b11a22eb3759521cdd07f08d2a0379cbb566076beb12f36320", func := "loop.example/g01100/laws.FnExactLinearField", spec := "fnExactLinearField", unfollowed := true, recurses := true, plainKeys := false, apart := false }
def FnExactLinearFieldSaid : Prop := fnExactLinearFieldRow.holds Try.pinned (OpenSpec.ofChange fnExactLinearFieldSpec)

/-- ITS FALSE NEIGHBOUR: 'it returns false'. Refute it at one input. -/
def fnExactLinearFieldWrong : ChangeSpec := { name := "fnExactLinearField", fn := fun _ => fun
  | [d] => { results := [.lit (.bool false)], args := [d] }
  | _ => none }
def FnExactLinearFieldWrongFalsely : Prop := fnExactLinearFieldRow.holds Try.pinned (OpenSpec.ofChange fnExactLinearFieldWrong)

/-- 'laws.FnPartitions': WHATEVER THE INPUT: true; the input reads as it did. -/
def fnPartitionsSpec : ChangeSpec := { name := "fnPartitions", fn := fun _ => fun
  | [d] => { results := [.lit (.bool true)], args := [d] }
  | _ => none }
def fnPartitionsRow : OpenClaim := { program := "ytnlaoainhlfemaa", sum := "ce6530e5b43322b11a22eb3759521cdd07f08d2a0379cbb566076beb12f36320", func := "loop.example/g01100/laws.FnPartitions", spec := "fnPartitions", unfollowed := true, recurses := true, plainKeys := false, apart := false }
def FnPartitionsSaid : Prop := fnPartitionsRow.holds Try.pinned (OpenSpec.ofChange fnPartitionsSpec)

/-- ITS FALSE NEIGHBOUR: 'it returns false'. Refute it at one input. -/
def fnPartitionsWrong : ChangeSpec := { name := "fnPartitions", fn := fun _ => fun
  | [d] => { results := [.lit (.bool false)], args := [d] }
  | _ => none }
def FnPartitionsWrongFalsely : Prop := fnPartitionsRow.holds Try.pinned (OpenSpec.ofChange fnPartitionsWrong)

/-- 'laws.FnExactPartitionsOf': WHATEVER THE INPUT: true; the input reads as it did. -/
def fnExactPartitionsOfSpec : ChangeSpec := { name := "fnExactPartitionsOf", fn := fun _ => fun
  | [d] => { results := [.lit (.bool true)], args := [d] }
  | _ => none }
def fnExactPartitionsOfRow : OpenClaim := { program := "ytnlaoainhlfemaa", sum := "ce6530e5b43322b11a22eb3759521cdd07f08d2a0379cbb566076beb12f36320", func := "loop.example/g01100/laws.FnExactPartitionsOf", spec := "fnExactPartitionsOf", unfollowed := true, recurses := true, plainKeys := false, apart := false }
def FnExactPartitionsOfSaid : Prop := fnExactPartitionsOfRow.holds Try.pinned (OpenSpec.ofChange fnExactPartitionsOfSpec)

/-- ITS FALSE NEIGHBOUR: 'it returns false'. Refute it at one input. -/
def fnExactPartitionsOfWrong : ChangeSpec := { name := "fnExactPartitionsOf", fn := fun _ => fun
  | [d] => { results := [.lit (.bool false)], args := [d] }
  | _ => none }
def FnExactPartitionsOfWrongFalsely : Prop := fnExactPartitionsOfRow.holds Try.pinned (OpenSpec.ofChange fnExactPartitionsOfWrong)

/- THE SECOND FORM. 'bulk': how many values and letters a reading holds, each counted each time it is reached (what is shared counts as often as it is met; a slice's spare places count too). A statement '..UptoSaid' is the law's where the arguments, and the package variables that the reading takes, are together of bulk at most 1048576: NARROWER than '..Said'. Prove '..Said' where nothing that the law and all that it calls make is longer than what came in: it says more and counts as full. Else prove '..UptoSaid'. A law counts once. -/
mutual
def uptoBulk {H : Type} : DataW H → Nat
  | .lit (.string bytes) => bytes.length + 1
  | .lit _ => 1
  | .nil => 1
  | .ptr d => uptoBulk d + 1
  | .slice elems spare => uptoBulkAll elems + uptoBulkAll spare + 1
  | .agg parts => uptoBulkAll parts + 1
  | .iface _ d => uptoBulk d + 1
  | .map entries => uptoBulkEntries entries + 1
  | .held _ => 1
def uptoBulkAll {H : Type} : List (DataW H) → Nat
  | [] => 0
  | d :: r => uptoBulk d + uptoBulkAll r
def uptoBulkEntries {H : Type} : List (Lit × DataW H) → Nat
  | [] => 0
  | x :: r => uptoBulkEntry x + uptoBulkEntries r
def uptoBulkEntry {H : Type} : Lit × DataW H → Nat
  | (.string bytes, d) => bytes.length + uptoBulk d + 1
  | (_, d) => uptoBulk d + 1
 end
def uptoSmall : (H : Type) → List (DataW H) → Bool := fun _ ds => decide (uptoBulkAll ds ≤ 1048576)
def OpenSpec.upto (s : _root_.Go.ChangeSpec) : _root_.Go.OpenSpec := { _root_.Go.OpenSpec.ofChange s with cond := some uptoSmall }

/-- 'laws.FnAdjoints', WHERE WHAT IT READS IS OF BULK AT MOST 1048576: true; the input reads as it did. -/
def fnAdjointsUptoRow : OpenClaim := { program := "ytnlaoainhlfemaa", sum := "ce6530e5b43322b11a22eb3759521cdd07f08d2a0379cbb566076beb12f36320", func := "loop.example/g01100/laws.FnAdjoints", spec := "fnAdjoints", unfollowed := true, recurses := true, plainKeys := false, apart := false, narrowed := true }
def FnAdjointsUptoSaid : Prop := fnAdjointsUptoRow.holds Try.pinned (OpenSpec.upto fnAdjointsSpec)

/-- 'laws.FnAssumptions', WHERE WHAT IT READS IS OF BULK AT MOST 1048576: true; the input reads as it did. -/
def fnAssumptionsUptoRow : OpenClaim := { program := "ytnlaoainhlfemaa", sum := "ce6530e5b43322b11a22eb3759521cdd07f08d2a0379cbb566076beb12f36320", func := "loop.example/g01100/laws.FnAssumptions", spec := "fnAssumptions", unfollowed := true, recurses := true, plainKeys := false, apart := false, narrowed := true }
def FnAssumptionsUptoSaid : Prop := fnAssumptionsUptoRow.holds Try.pinned (OpenSpec.upto fnAssumptionsSpec)

/-- 'laws.FnExactLinearField', WHERE WHAT IT READS IS OF BULK AT MOST 1048576: true; the input reads as it did. -/
def fnExactLinearFieldUptoRow : OpenClaim := { program := "ytnlaoainhlfemaa", sum := "ce6530e5b43322b11a22eb3759521cdd07f08d2a0379cbb566076beb12f36320", func := "loop.example/g01100/laws.FnExactLinearField", spec := "fnExactLinearField", unfollowed := true, recurses := true, plainKeys := false, apart := false, narrowed := true }
def FnExactLinearFieldUptoSaid : Prop := fnExactLinearFieldUptoRow.holds Try.pinned (OpenSpec.upto fnExactLinearFieldSpec)

/-- 'laws.FnPartitions', WHERE WHAT IT READS IS OF BULK AT MOST 1048576: true; the input reads as it did. -/
def fnPartitionsUptoRow : OpenClaim := { program := "ytnlaoainhlfemaa", sum := "ce6530e5b43322b11a22eb3759521cdd07f08d2a0379cbb566076beb12f36320", func := "loop.example/g01100/laws.FnPartitions", spec := "fnPartitions", unfollowed := true, recurses := true, plainKeys := false, apart := false, narrowed := true }
def FnPartitionsUptoSaid : Prop := fnPartitionsUptoRow.holds Try.pinned (OpenSpec.upto fnPartitionsSpec)

/-- 'laws.FnExactPartitionsOf', WHERE WHAT IT READS IS OF BULK AT MOST 1048576: true; the input reads as it did. -/
def fnExactPartitionsOfUptoRow : OpenClaim := { program := "ytnlaoainhlfemaa", sum := "ce6530e5b43322b11a22eb3759521cdd07f08d2a0379cbb566076beb12f36320", func := "loop.example/g01100/laws.FnExactPartitionsOf", spec := "fnExactPartitionsOf", unfollowed := true, recurses := true, plainKeys := false, apart := false, narrowed := true }
def FnExactPartitionsOfUptoSaid : Prop := fnExactPartitionsOfUptoRow.holds Try.pinned (OpenSpec.upto fnExactPartitionsOfSpec)

end Rows
end Go.Proofs.Ytnlaoainhlfemaa
