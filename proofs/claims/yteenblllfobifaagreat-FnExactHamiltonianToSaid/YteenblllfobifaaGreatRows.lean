/-
  No cell of these rows narrows 'for every input' (looked for: loops, veiled, ifaces, maps, wideKeys, modest, calm, conditions, laid).
  DERIVED. THE GIVEN ROWS OF THIS SEAT. 11 by the template 'for every input the law returns true; each argument reads behind the call as it read before'; 0 by the template 'total and deterministic' (their statements: YteenblllfobifaaGreatTotals.lean).
  GIVEN WITH THE SEED: the statements are not yours to turn. If you find one false, say at which input.
  Laid BY PROGRAM, IN A SANDBOX (cutbox-rows.mjs): the forced cells as the released guide's own fill.sh prints them over the translation a2de21b22f5b92ae… (all of the seat's roots in one cut). By AI agents, Wed Nov 11 2026. No macro, syntax, notation, axiom, sorry.
-/
import Derived.Test.YteenblllfobifaaGreatChecked
import GoSem.Claim
import GoSem.ClaimJoined
import GoSem.ClaimMapViews
import Derived.JoinedTies
import Derived.KernelRfl
namespace Go.Proofs.YteenblllfobifaaGreat
/- THE CELL 'sum', in the pinned program and in every row, IS THE sha256 OF THE DUMP (.gsa) THAT YteenblllfobifaaGreatProg.lean LOADS. Nothing in Lean hashes anything: it is a label: what it is worth is what the hold of that sum in a sandbox is worth. -/
noncomputable def Tryz.pinned : Pinned := { name := "yteenblllfobifaagreat", sum := "a2de21b22f5b92ae3e350c625f2dfdce0dd6318f5ec1cd5aafc75e84bb4d4d04", checked := Tryz.checked }
namespace Rows
def none {H : Type} : Left H := { results := [], args := [] }

/-- 'laws.FnExactSymplecticTo': WHATEVER THE INPUT: true; the input reads as it did. -/
def fnExactSymplecticToSpec : ChangeSpec := { name := "fnExactSymplecticTo", fn := fun _ => fun
  | [d] => { results := [.lit (.bool true)], args := [d] }
  | _ => none }
def fnExactSymplecticToRow : OpenClaim := { program := "yteenblllfobifaagreat", sum := "a2de21b22f5b92ae3e350c625f2dfdce0dd6318f5ec1cd5aafc75e84bb4d4d04", func := "loop.example/g01100/laws.FnExactSymplecticTo", spec := "fnExactSymplecticTo", unfollowed := true, recurses := true, apart := false }
def FnExactSymplecticToSaid : Prop := fnExactSymplecticToRow.holds Tryz.pinned (OpenSpec.ofChange fnExactSymplecticToSpec)

/-- ITS FALSE NEIGHBOUR: 'it returns false'. Refute it at one input. -/
def fnExactSymplecticToWrong : ChangeSpec := { name := "fnExactSymplecticTo", fn := fun _ => fun
  | [d] => { results := [.lit (.bool false)], args := [d] }
  | _ => none }
def FnExactSymplecticToWrongFalsely : Prop := fnExactSymplecticToRow.holds Tryz.pinned (OpenSpec.ofChange fnExactSymplecticToWrong)

/-- 'laws.FnExactHamiltonianTo': WHATEVER THE INPUT: true; the input reads as it did. -/
def fnExactHamiltonianToSpec : ChangeSpec := { name := "fnExactHamiltonianTo", fn := fun _ => fun
  | [d] => { results := [.lit (.bool true)], args := [d] }
  | _ => none }
def fnExactHamiltonianToRow : OpenClaim := { program := "yteenblllfobifaagreat", sum := "a2de21b22f5b92ae3e350c625f2dfdce0dd6318f5ec1cd5aafc75e84bb4d4d04", func := "loop.example/g01100/laws.FnExactHamiltonianTo", spec := "fnExactHamiltonianTo", unfollowed := true, recurses := true, apart := false }
def FnExactHamiltonianToSaid : Prop := fnExactHamiltonianToRow.holds Tryz.pinned (OpenSpec.ofChange fnExactHamiltonianToSpec)

/-- ITS FALSE NEIGHBOUR: 'it returns false'. Refute it at one input. -/
def fnExactHamiltonianToWrong : ChangeSpec := { name := "fnExactHamiltonianTo", fn := fun _ => fun
  | [d] => { results := [.lit (.bool false)], args := [d] }
  | _ => none }
def FnExactHamiltonianToWrongFalsely : Prop := fnExactHamiltonianToRow.holds Tryz.pinned (OpenSpec.ofChange fnExactHamiltonianToWrong)

/-- 'laws.FnExactFirstError': WHATEVER THE INPUT: true; the input reads as it did. -/
def fnExactFirstErrorSpec : ChangeSpec := { name := "fnExactFirstError", fn := fun _ => fun
  | [d] => { results := [.lit (.bool true)], args := [d] }
  | _ => none }
def fnExactFirstErrorRow : OpenClaim := { program := "yteenblllfobifaagreat", sum := "a2de21b22f5b92ae3e350c625f2dfdce0dd6318f5ec1cd5aafc75e84bb4d4d04", func := "loop.example/g01100/laws.FnExactFirstError", spec := "fnExactFirstError", unfollowed := true, recurses := true, apart := false }
def FnExactFirstErrorSaid : Prop := fnExactFirstErrorRow.holds Tryz.pinned (OpenSpec.ofChange fnExactFirstErrorSpec)

/-- ITS FALSE NEIGHBOUR: 'it returns false'. Refute it at one input. -/
def fnExactFirstErrorWrong : ChangeSpec := { name := "fnExactFirstError", fn := fun _ => fun
  | [d] => { results := [.lit (.bool false)], args := [d] }
  | _ => none }
def FnExactFirstErrorWrongFalsely : Prop := fnExactFirstErrorRow.holds Tryz.pinned (OpenSpec.ofChange fnExactFirstErrorWrong)

/-- 'laws.FnExactSubstituteMap': WHATEVER THE INPUT: true; the input reads as it did. -/
def fnExactSubstituteMapSpec : ChangeSpec := { name := "fnExactSubstituteMap", fn := fun _ => fun
  | [d1, d2] => { results := [.lit (.bool true)], args := [d1, d2] }
  | _ => none }
def fnExactSubstituteMapRow : OpenClaim := { program := "yteenblllfobifaagreat", sum := "a2de21b22f5b92ae3e350c625f2dfdce0dd6318f5ec1cd5aafc75e84bb4d4d04", func := "loop.example/g01100/laws.FnExactSubstituteMap", spec := "fnExactSubstituteMap", unfollowed := true, recurses := true, apart := false }
def FnExactSubstituteMapSaid : Prop := fnExactSubstituteMapRow.holds Tryz.pinned (OpenSpec.ofChange fnExactSubstituteMapSpec)

/-- ITS FALSE NEIGHBOUR: 'it returns false'. Refute it at one input. -/
def fnExactSubstituteMapWrong : ChangeSpec := { name := "fnExactSubstituteMap", fn := fun _ => fun
  | [d1, d2] => { results := [.lit (.bool false)], args := [d1, d2] }
  | _ => none }
def FnExactSubstituteMapWrongFalsely : Prop := fnExactSubstituteMapRow.holds Tryz.pinned (OpenSpec.ofChange fnExactSubstituteMapWrong)

/-- 'laws.FnExactReducedOrder': WHATEVER THE INPUT: true; the input reads as it did. -/
def fnExactReducedOrderSpec : ChangeSpec := { name := "fnExactReducedOrder", fn := fun _ => fun
  | [d] => { results := [.lit (.bool true)], args := [d] }
  | _ => none }
def fnExactReducedOrderRow : OpenClaim := { program := "yteenblllfobifaagreat", sum := "a2de21b22f5b92ae3e350c625f2dfdce0dd6318f5ec1cd5aafc75e84bb4d4d04", func := "loop.example/g01100/laws.FnExactReducedOrder", spec := "fnExactReducedOrder", unfollowed := true, recurses := true, apart := false }
def FnExactReducedOrderSaid : Prop := fnExactReducedOrderRow.holds Tryz.pinned (OpenSpec.ofChange fnExactReducedOrderSpec)

/-- ITS FALSE NEIGHBOUR: 'it returns false'. Refute it at one input. -/
def fnExactReducedOrderWrong : ChangeSpec := { name := "fnExactReducedOrder", fn := fun _ => fun
  | [d] => { results := [.lit (.bool false)], args := [d] }
  | _ => none }
def FnExactReducedOrderWrongFalsely : Prop := fnExactReducedOrderRow.holds Tryz.pinned (OpenSpec.ofChange fnExactReducedOrderWrong)

/-- 'laws.FnExactSubstitutionInverse': WHATEVER THE INPUT: true; the input reads as it did. -/
def fnExactSubstitutionInverseSpec : ChangeSpec := { name := "fnExactSubstitutionInverse", fn := fun _ => fun
  | [d] => { results := [.lit (.bool true)], args := [d] }
  | _ => none }
def fnExactSubstitutionInverseRow : OpenClaim := { program := "yteenblllfobifaagreat", sum := "a2de21b22f5b92ae3e350c625f2dfdce0dd6318f5ec1cd5aafc75e84bb4d4d04", func := "loop.example/g01100/laws.FnExactSubstitutionInverse", spec := "fnExactSubstitutionInverse", unfollowed := true, recurses := true, apart := false }
def FnExactSubstitutionInverseSaid : Prop := fnExactSubstitutionInverseRow.holds Tryz.pinned (OpenSpec.ofChange fnExactSubstitutionInverseSpec)

/-- ITS FALSE NEIGHBOUR: 'it returns false'. Refute it at one input. -/
def fnExactSubstitutionInverseWrong : ChangeSpec := { name := "fnExactSubstitutionInverse", fn := fun _ => fun
  | [d] => { results := [.lit (.bool false)], args := [d] }
  | _ => none }
def FnExactSubstitutionInverseWrongFalsely : Prop := fnExactSubstitutionInverseRow.holds Tryz.pinned (OpenSpec.ofChange fnExactSubstitutionInverseWrong)

/-- 'laws.FnExactModifiedMap': WHATEVER THE INPUT: true; the input reads as it did. -/
def fnExactModifiedMapSpec : ChangeSpec := { name := "fnExactModifiedMap", fn := fun _ => fun
  | [d] => { results := [.lit (.bool true)], args := [d] }
  | _ => none }
def fnExactModifiedMapRow : OpenClaim := { program := "yteenblllfobifaagreat", sum := "a2de21b22f5b92ae3e350c625f2dfdce0dd6318f5ec1cd5aafc75e84bb4d4d04", func := "loop.example/g01100/laws.FnExactModifiedMap", spec := "fnExactModifiedMap", unfollowed := true, recurses := true, apart := false }
def FnExactModifiedMapSaid : Prop := fnExactModifiedMapRow.holds Tryz.pinned (OpenSpec.ofChange fnExactModifiedMapSpec)

/-- ITS FALSE NEIGHBOUR: 'it returns false'. Refute it at one input. -/
def fnExactModifiedMapWrong : ChangeSpec := { name := "fnExactModifiedMap", fn := fun _ => fun
  | [d] => { results := [.lit (.bool false)], args := [d] }
  | _ => none }
def FnExactModifiedMapWrongFalsely : Prop := fnExactModifiedMapRow.holds Tryz.pinned (OpenSpec.ofChange fnExactModifiedMapWrong)

/-- 'laws.FnExactSubstitutionPower': WHATEVER THE INPUT: true; the input reads as it did. -/
def fnExactSubstitutionPowerSpec : ChangeSpec := { name := "fnExactSubstitutionPower", fn := fun _ => fun
  | [d1, d2] => { results := [.lit (.bool true)], args := [d1, d2] }
  | _ => none }
def fnExactSubstitutionPowerRow : OpenClaim := { program := "yteenblllfobifaagreat", sum := "a2de21b22f5b92ae3e350c625f2dfdce0dd6318f5ec1cd5aafc75e84bb4d4d04", func := "loop.example/g01100/laws.FnExactSubstitutionPower", spec := "fnExactSubstitutionPower", unfollowed := true, recurses := true, apart := false }
def FnExactSubstitutionPowerSaid : Prop := fnExactSubstitutionPowerRow.holds Tryz.pinned (OpenSpec.ofChange fnExactSubstitutionPowerSpec)

/-- ITS FALSE NEIGHBOUR: 'it returns false'. Refute it at one input. -/
def fnExactSubstitutionPowerWrong : ChangeSpec := { name := "fnExactSubstitutionPower", fn := fun _ => fun
  | [d1, d2] => { results := [.lit (.bool false)], args := [d1, d2] }
  | _ => none }
def FnExactSubstitutionPowerWrongFalsely : Prop := fnExactSubstitutionPowerRow.holds Tryz.pinned (OpenSpec.ofChange fnExactSubstitutionPowerWrong)

/-- 'laws.FnExactModifyingMap': WHATEVER THE INPUT: true; the input reads as it did. -/
def fnExactModifyingMapSpec : ChangeSpec := { name := "fnExactModifyingMap", fn := fun _ => fun
  | [d] => { results := [.lit (.bool true)], args := [d] }
  | _ => none }
def fnExactModifyingMapRow : OpenClaim := { program := "yteenblllfobifaagreat", sum := "a2de21b22f5b92ae3e350c625f2dfdce0dd6318f5ec1cd5aafc75e84bb4d4d04", func := "loop.example/g01100/laws.FnExactModifyingMap", spec := "fnExactModifyingMap", unfollowed := true, recurses := true, apart := false }
def FnExactModifyingMapSaid : Prop := fnExactModifyingMapRow.holds Tryz.pinned (OpenSpec.ofChange fnExactModifyingMapSpec)

/-- ITS FALSE NEIGHBOUR: 'it returns false'. Refute it at one input. -/
def fnExactModifyingMapWrong : ChangeSpec := { name := "fnExactModifyingMap", fn := fun _ => fun
  | [d] => { results := [.lit (.bool false)], args := [d] }
  | _ => none }
def FnExactModifyingMapWrongFalsely : Prop := fnExactModifyingMapRow.holds Tryz.pinned (OpenSpec.ofChange fnExactModifyingMapWrong)

/-- 'laws.FnExactFreeNumbersOf': WHATEVER THE INPUT: true; the input reads as it did. -/
def fnExactFreeNumbersOfSpec : ChangeSpec := { name := "fnExactFreeNumbersOf", fn := fun _ => fun
  | [d] => { results := [.lit (.bool true)], args := [d] }
  | _ => none }
def fnExactFreeNumbersOfRow : OpenClaim := { program := "yteenblllfobifaagreat", sum := "a2de21b22f5b92ae3e350c625f2dfdce0dd6318f5ec1cd5aafc75e84bb4d4d04", func := "loop.example/g01100/laws.FnExactFreeNumbersOf", spec := "fnExactFreeNumbersOf", unfollowed := true, recurses := true, apart := false }
def FnExactFreeNumbersOfSaid : Prop := fnExactFreeNumbersOfRow.holds Tryz.pinned (OpenSpec.ofChange fnExactFreeNumbersOfSpec)

/-- ITS FALSE NEIGHBOUR: 'it returns false'. Refute it at one input. -/
def fnExactFreeNumbersOfWrong : ChangeSpec := { name := "fnExactFreeNumbersOf", fn := fun _ => fun
  | [d] => { results := [.lit (.bool false)], args := [d] }
  | _ => none }
def FnExactFreeNumbersOfWrongFalsely : Prop := fnExactFreeNumbersOfRow.holds Tryz.pinned (OpenSpec.ofChange fnExactFreeNumbersOfWrong)

/-- 'laws.FnExactErrorMap': WHATEVER THE INPUT: true; the input reads as it did. -/
def fnExactErrorMapSpec : ChangeSpec := { name := "fnExactErrorMap", fn := fun _ => fun
  | [d] => { results := [.lit (.bool true)], args := [d] }
  | _ => none }
def fnExactErrorMapRow : OpenClaim := { program := "yteenblllfobifaagreat", sum := "a2de21b22f5b92ae3e350c625f2dfdce0dd6318f5ec1cd5aafc75e84bb4d4d04", func := "loop.example/g01100/laws.FnExactErrorMap", spec := "fnExactErrorMap", unfollowed := true, recurses := true, apart := false }
def FnExactErrorMapSaid : Prop := fnExactErrorMapRow.holds Tryz.pinned (OpenSpec.ofChange fnExactErrorMapSpec)

/-- ITS FALSE NEIGHBOUR: 'it returns false'. Refute it at one input. -/
def fnExactErrorMapWrong : ChangeSpec := { name := "fnExactErrorMap", fn := fun _ => fun
  | [d] => { results := [.lit (.bool false)], args := [d] }
  | _ => none }
def FnExactErrorMapWrongFalsely : Prop := fnExactErrorMapRow.holds Tryz.pinned (OpenSpec.ofChange fnExactErrorMapWrong)

/- THE SECOND FORM. 'bulk': how many values and letters a reading holds, each counted each time it is reached (what is shared counts as often as it is met; a slice's spare places count too). A statement '..UptoSaid' is the law's where the arguments, and the package variables that the reading takes, are together of bulk at most 1048576: NARROWER than '..Said'. Prove '..Said' where nothing that the law and all that it calls make is longer than what came in: it says more and counts as full. Else prove '..UptoSaid'. A law counts once. -/
mutual
def uptoBulk {H : Type} : DataW H → Nat
  | .lit (.string bytes) => bytes.length + 1
  | .lit _ => 1
  | .nil => 1
  | .ptr d => uptoBulk d + 1
  | .slice elems spare => uptoBulkAll elems + uptoBulkAll spare + 1
  | .agg parts => uptoBulkAll parts + 1
  | .iface _ d => uptoBulk d + 1
  | .map entries => uptoBulkEntries entries + 1
  | .held _ => 1
def uptoBulkAll {H : Type} : List (DataW H) → Nat
  | [] => 0
  | d :: r => uptoBulk d + uptoBulkAll r
def uptoBulkEntries {H : Type} : List (Lit × DataW H) → Nat
  | [] => 0
  | x :: r => uptoBulkEntry x + uptoBulkEntries r
def uptoBulkEntry {H : Type} : Lit × DataW H → Nat
  | (.string bytes, d) => bytes.length + uptoBulk d + 1
  | (_, d) => uptoBulk d + 1
 end
def uptoSmall : (H : Type) → List (DataW H) → Bool := fun _ ds => decide (uptoBulkAll ds ≤ 1048576)
def OpenSpec.upto (s : _root_.Go.ChangeSpec) : _root_.Go.OpenSpec := { _root_.Go.OpenSpec.ofChange s with cond := some uptoSmall }

/-- 'laws.FnExactSymplecticTo', WHERE WHAT IT READS IS OF BULK AT MOST 1048576: true; the input reads as it did. -/
def fnExactSymplecticToUptoRow : OpenClaim := { program := "yteenblllfobifaagreat", sum := "a2de21b22f5b92ae3e350c625f2dfdce0dd6318f5ec1cd5aafc75e84bb4d4d04", func := "loop.example/g01100/laws.FnExactSymplecticTo", spec := "fnExactSymplecticTo", unfollowed := true, recurses := true, apart := false, narrowed := true }
def FnExactSymplecticToUptoSaid : Prop := fnExactSymplecticToUptoRow.holds Tryz.pinned (OpenSpec.upto fnExactSymplecticToSpec)

/-- 'laws.FnExactHamiltonianTo', WHERE WHAT IT READS IS OF BULK AT MOST 1048576: true; the input reads as it did. -/
def fnExactHamiltonianToUptoRow : OpenClaim := { program := "yteenblllfobifaagreat", sum := "a2de21b22f5b92ae3e350c625f2dfdce0dd6318f5ec1cd5aafc75e84bb4d4d04", func := "loop.example/g01100/laws.FnExactHamiltonianTo", spec := "fnExactHamiltonianTo", unfollowed := true, recurses := true, apart := false, narrowed := true }
def FnExactHamiltonianToUptoSaid : Prop := fnExactHamiltonianToUptoRow.holds Tryz.pinned (OpenSpec.upto fnExactHamiltonianToSpec)

/-- 'laws.FnExactFirstError', WHERE WHAT IT READS IS OF BULK AT MOST 1048576: true; the input reads as it did. -/
def fnExactFirstErrorUptoRow : OpenClaim := { program := "yteenblllfobifaagreat", sum := "a2de21b22f5b92ae3e350c625f2dfdce0dd6318f5ec1cd5aafc75e84bb4d4d04", func := "loop.example/g01100/laws.FnExactFirstError", spec := "fnExactFirstError", unfollowed := true, recurses := true, apart := false, narrowed := true }
def FnExactFirstErrorUptoSaid : Prop := fnExactFirstErrorUptoRow.holds Tryz.pinned (OpenSpec.upto fnExactFirstErrorSpec)

/-- 'laws.FnExactSubstituteMap', WHERE WHAT IT READS IS OF BULK AT MOST 1048576: true; the input reads as it did. -/
def fnExactSubstituteMapUptoRow : OpenClaim := { program := "yteenblllfobifaagreat", sum := "a2de21b22f5b92ae3e350c625f2dfdce0dd6318f5ec1cd5aafc75e84bb4d4d04", func := "loop.example/g01100/laws.FnExactSubstituteMap", spec := "fnExactSubstituteMap", unfollowed := true, recurses := true, apart := false, narrowed := true }
def FnExactSubstituteMapUptoSaid : Prop := fnExactSubstituteMapUptoRow.holds Tryz.pinned (OpenSpec.upto fnExactSubstituteMapSpec)

/-- 'laws.FnExactReducedOrder', WHERE WHAT IT READS IS OF BULK AT MOST 1048576: true; the input reads as it did. -/
def fnExactReducedOrderUptoRow : OpenClaim := { program := "yteenblllfobifaagreat", sum := "a2de21b22f5b92ae3e350c625f2dfdce0dd6318f5ec1cd5aafc75e84bb4d4d04", func := "loop.example/g01100/laws.FnExactReducedOrder", spec := "fnExactReducedOrder", unfollowed := true, recurses := true, apart := false, narrowed := true }
def FnExactReducedOrderUptoSaid : Prop := fnExactReducedOrderUptoRow.holds Tryz.pinned (OpenSpec.upto fnExactReducedOrderSpec)

/-- 'laws.FnExactSubstitutionInverse', WHERE WHAT IT READS IS OF BULK AT MOST 1048576: true; the input reads as it did. -/
def fnExactSubstitutionInverseUptoRow : OpenClaim := { program := "yteenblllfobifaagreat", sum := "a2de21b22f5b92ae3e350c625f2dfdce0dd6318f5ec1cd5aafc75e84bb4d4d04", func := "loop.example/g01100/laws.FnExactSubstitutionInverse", spec := "fnExactSubstitutionInverse", unfollowed := true, recurses := true, apart := false, narrowed := true }
def FnExactSubstitutionInverseUptoSaid : Prop := fnExactSubstitutionInverseUptoRow.holds Tryz.pinned (OpenSpec.upto fnExactSubstitutionInverseSpec)

/-- 'laws.FnExactModifiedMap', WHERE WHAT IT READS IS OF BULK AT MOST 1048576: true; the input reads as it did. -/
def fnExactModifiedMapUptoRow : OpenClaim := { program := "yteenblllfobifaagreat", sum := "a2de21b22f5b92ae3e350c625f2dfdce0dd6318f5ec1cd5aafc75e84bb4d4d04", func := "loop.example/g01100/laws.FnExactModifiedMap", spec := "fnExactModifiedMap", unfollowed := true, recurses := true, apart := false, narrowed := true }
def FnExactModifiedMapUptoSaid : Prop := fnExactModifiedMapUptoRow.holds Tryz.pinned (OpenSpec.upto fnExactModifiedMapSpec)

/-- 'laws.FnExactSubstitutionPower', WHERE WHAT IT READS IS OF BULK AT MOST 1048576: true; the input reads as it did. -/
def fnExactSubstitutionPowerUptoRow : OpenClaim := { program := "yteenblllfobifaagreat", sum := "a2de21b22f5b92ae3e350c625f2dfdce0dd6318f5ec1cd5aafc75e84bb4d4d04", func := "loop.example/g01100/laws.FnExactSubstitutionPower", spec := "fnExactSubstitutionPower", unfollowed := true, recurses := true, apart := false, narrowed := true }
def FnExactSubstitutionPowerUptoSaid : Prop := fnExactSubstitutionPowerUptoRow.holds Tryz.pinned (OpenSpec.upto fnExactSubstitutionPowerSpec)

/-- 'laws.FnExactModifyingMap', WHERE WHAT IT READS IS OF BULK AT MOST 1048576: true; the input reads as it did. -/
def fnExactModifyingMapUptoRow : OpenClaim := { program := "yteenblllfobifaagreat", sum := "a2de21b22f5b92ae3e350c625f2dfdce0dd6318f5ec1cd5aafc75e84bb4d4d04", func := "loop.example/g01100/laws.FnExactModifyingMap", spec := "fnExactModifyingMap", unfollowed := true, recurses := true, apart := false, narrowed := true }
def FnExactModifyingMapUptoSaid : Prop := fnExactModifyingMapUptoRow.holds Tryz.pinned (OpenSpec.upto fnExactModifyingMapSpec)

/-- 'laws.FnExactFreeNumbersOf', WHERE WHAT IT READS IS OF BULK AT MOST 1048576: true; the input reads as it did. -/
def fnExactFreeNumbersOfUptoRow : OpenClaim := { program := "yteenblllfobifaagreat", sum := "a2de21b22f5b92ae3e350c625f2dfdce0dd6318f5ec1cd5aafc75e84bb4d4d04", func := "loop.example/g01100/laws.FnExactFreeNumbersOf", spec := "fnExactFreeNumbersOf", unfollowed := true, recurses := true, apart := false, narrowed := true }
def FnExactFreeNumbersOfUptoSaid : Prop := fnExactFreeNumbersOfUptoRow.holds Tryz.pinned (OpenSpec.upto fnExactFreeNumbersOfSpec)

/-- 'laws.FnExactErrorMap', WHERE WHAT IT READS IS OF BULK AT MOST 1048576: true; the input reads as it did. -/
def fnExactErrorMapUptoRow : OpenClaim := { program := "yteenblllfobifaagreat", sum := "a2de21b22f5b92ae3e350c625f2dfdce0dd6318f5ec1cd5aafc75e84bb4d4d04", func := "loop.example/g01100/laws.FnExactErrorMap", spec := "fnExactErrorMap", unfollowed := true, recurses := true, apart := false, narrowed := true }
def FnExactErrorMapUptoSaid : Prop := fnExactErrorMapUptoRow.holds Tryz.pinned (OpenSpec.upto fnExactErrorMapSpec)

end Rows
end Go.Proofs.YteenblllfobifaaGreat
