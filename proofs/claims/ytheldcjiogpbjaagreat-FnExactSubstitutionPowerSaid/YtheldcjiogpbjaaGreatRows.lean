/-
  No cell of these rows narrows 'for every input' (looked for: loops, veiled, ifaces, maps, wideKeys, modest, calm, conditions, laid).
  DERIVED. THE GIVEN ROWS OF THIS SEAT. 12 by the template 'for every input the law returns true; each argument reads behind the call as it read before'; 0 by the template 'total and deterministic' (their statements: YtheldcjiogpbjaaGreatTotals.lean).
  GIVEN WITH THE SEED: the statements are not yours to turn. If you find one false, say at which input.
  Laid BY PROGRAM, IN A SANDBOX (cutbox-rows.mjs): the forced cells as the released guide's own fill.sh prints them over the translation b4a70c83d689c292… (all of the seat's roots in one cut). By AI agents, Wed Nov 11 2026. No macro, syntax, notation, axiom, sorry.
-/
import Derived.Test.YtheldcjiogpbjaaGreatChecked
import GoSem.Claim
import GoSem.ClaimJoined
import GoSem.ClaimMapViews
import Derived.JoinedTies
import Derived.KernelRfl
namespace Go.Proofs.YtheldcjiogpbjaaGreat
/- THE CELL 'sum', in the pinned program and in every row, IS THE sha256 OF THE DUMP (.gsa) THAT YtheldcjiogpbjaaGreatProg.lean LOADS. Nothing in Lean hashes anything: it is a label: what it is worth is what the hold of that sum in a sandbox is worth. -/
noncomputable def Tryz.pinned : Pinned := { name := "ytheldcjiogpbjaagreat", sum := "b4a70c83d689c2924ec1861ee3fca63abccdbd807e7a990b0b2170c81a24be53", checked := Tryz.checked }
namespace Rows
def none {H : Type} : Left H := { results := [], args := [] }

/-- 'laws.FnExactSubstituteMap': WHATEVER THE INPUT: true; the input reads as it did. -/
def fnExactSubstituteMapSpec : ChangeSpec := { name := "fnExactSubstituteMap", fn := fun _ => fun
  | [d1, d2] => { results := [.lit (.bool true)], args := [d1, d2] }
  | _ => none }
def fnExactSubstituteMapRow : OpenClaim := { program := "ytheldcjiogpbjaagreat", sum := "b4a70c83d689c2924ec1861ee3fca63abccdbd807e7a990b0b2170c81a24be53", func := "loop.example/g01100/laws.FnExactSubstituteMap", spec := "fnExactSubstituteMap", unfollowed := true, recurses := true, apart := false }
def FnExactSubstituteMapSaid : Prop := fnExactSubstituteMapRow.holds Tryz.pinned (OpenSpec.ofChange fnExactSubstituteMapSpec)

/-- ITS FALSE NEIGHBOUR: 'it returns false'. Refute it at one input. -/
def fnExactSubstituteMapWrong : ChangeSpec := { name := "fnExactSubstituteMap", fn := fun _ => fun
  | [d1, d2] => { results := [.lit (.bool false)], args := [d1, d2] }
  | _ => none }
def FnExactSubstituteMapWrongFalsely : Prop := fnExactSubstituteMapRow.holds Tryz.pinned (OpenSpec.ofChange fnExactSubstituteMapWrong)

/-- 'laws.FnExactCommuteTo': WHATEVER THE INPUT: true; the input reads as it did. -/
def fnExactCommuteToSpec : ChangeSpec := { name := "fnExactCommuteTo", fn := fun _ => fun
  | [d1, d2] => { results := [.lit (.bool true)], args := [d1, d2] }
  | _ => none }
def fnExactCommuteToRow : OpenClaim := { program := "ytheldcjiogpbjaagreat", sum := "b4a70c83d689c2924ec1861ee3fca63abccdbd807e7a990b0b2170c81a24be53", func := "loop.example/g01100/laws.FnExactCommuteTo", spec := "fnExactCommuteTo", unfollowed := true, recurses := true, apart := false }
def FnExactCommuteToSaid : Prop := fnExactCommuteToRow.holds Tryz.pinned (OpenSpec.ofChange fnExactCommuteToSpec)

/-- ITS FALSE NEIGHBOUR: 'it returns false'. Refute it at one input. -/
def fnExactCommuteToWrong : ChangeSpec := { name := "fnExactCommuteTo", fn := fun _ => fun
  | [d1, d2] => { results := [.lit (.bool false)], args := [d1, d2] }
  | _ => none }
def FnExactCommuteToWrongFalsely : Prop := fnExactCommuteToRow.holds Tryz.pinned (OpenSpec.ofChange fnExactCommuteToWrong)

/-- 'laws.FnExactConjugateMap': WHATEVER THE INPUT: true; the input reads as it did. -/
def fnExactConjugateMapSpec : ChangeSpec := { name := "fnExactConjugateMap", fn := fun _ => fun
  | [d1, d2] => { results := [.lit (.bool true)], args := [d1, d2] }
  | _ => none }
def fnExactConjugateMapRow : OpenClaim := { program := "ytheldcjiogpbjaagreat", sum := "b4a70c83d689c2924ec1861ee3fca63abccdbd807e7a990b0b2170c81a24be53", func := "loop.example/g01100/laws.FnExactConjugateMap", spec := "fnExactConjugateMap", unfollowed := true, recurses := true, apart := false }
def FnExactConjugateMapSaid : Prop := fnExactConjugateMapRow.holds Tryz.pinned (OpenSpec.ofChange fnExactConjugateMapSpec)

/-- ITS FALSE NEIGHBOUR: 'it returns false'. Refute it at one input. -/
def fnExactConjugateMapWrong : ChangeSpec := { name := "fnExactConjugateMap", fn := fun _ => fun
  | [d1, d2] => { results := [.lit (.bool false)], args := [d1, d2] }
  | _ => none }
def FnExactConjugateMapWrongFalsely : Prop := fnExactConjugateMapRow.holds Tryz.pinned (OpenSpec.ofChange fnExactConjugateMapWrong)

/-- 'laws.FnExactReducedOrder': WHATEVER THE INPUT: true; the input reads as it did. -/
def fnExactReducedOrderSpec : ChangeSpec := { name := "fnExactReducedOrder", fn := fun _ => fun
  | [d] => { results := [.lit (.bool true)], args := [d] }
  | _ => none }
def fnExactReducedOrderRow : OpenClaim := { program := "ytheldcjiogpbjaagreat", sum := "b4a70c83d689c2924ec1861ee3fca63abccdbd807e7a990b0b2170c81a24be53", func := "loop.example/g01100/laws.FnExactReducedOrder", spec := "fnExactReducedOrder", unfollowed := true, recurses := true, apart := false }
def FnExactReducedOrderSaid : Prop := fnExactReducedOrderRow.holds Tryz.pinned (OpenSpec.ofChange fnExactReducedOrderSpec)

/-- ITS FALSE NEIGHBOUR: 'it returns false'. Refute it at one input. -/
def fnExactReducedOrderWrong : ChangeSpec := { name := "fnExactReducedOrder", fn := fun _ => fun
  | [d] => { results := [.lit (.bool false)], args := [d] }
  | _ => none }
def FnExactReducedOrderWrongFalsely : Prop := fnExactReducedOrderRow.holds Tryz.pinned (OpenSpec.ofChange fnExactReducedOrderWrong)

/-- 'laws.FnExactSubstitutionInverse': WHATEVER THE INPUT: true; the input reads as it did. -/
def fnExactSubstitutionInverseSpec : ChangeSpec := { name := "fnExactSubstitutionInverse", fn := fun _ => fun
  | [d] => { results := [.lit (.bool true)], args := [d] }
  | _ => none }
def fnExactSubstitutionInverseRow : OpenClaim := { program := "ytheldcjiogpbjaagreat", sum := "b4a70c83d689c2924ec1861ee3fca63abccdbd807e7a990b0b2170c81a24be53", func := "loop.example/g01100/laws.FnExactSubstitutionInverse", spec := "fnExactSubstitutionInverse", unfollowed := true, recurses := true, apart := false }
def FnExactSubstitutionInverseSaid : Prop := fnExactSubstitutionInverseRow.holds Tryz.pinned (OpenSpec.ofChange fnExactSubstitutionInverseSpec)

/-- ITS FALSE NEIGHBOUR: 'it returns false'. Refute it at one input. -/
def fnExactSubstitutionInverseWrong : ChangeSpec := { name := "fnExactSubstitutionInverse", fn := fun _ => fun
  | [d] => { results := [.lit (.bool false)], args := [d] }
  | _ => none }
def FnExactSubstitutionInverseWrongFalsely : Prop := fnExactSubstitutionInverseRow.holds Tryz.pinned (OpenSpec.ofChange fnExactSubstitutionInverseWrong)

/-- 'laws.FnExactIsSymmetricMap': WHATEVER THE INPUT: true; the input reads as it did. -/
def fnExactIsSymmetricMapSpec : ChangeSpec := { name := "fnExactIsSymmetricMap", fn := fun _ => fun
  | [d] => { results := [.lit (.bool true)], args := [d] }
  | _ => none }
def fnExactIsSymmetricMapRow : OpenClaim := { program := "ytheldcjiogpbjaagreat", sum := "b4a70c83d689c2924ec1861ee3fca63abccdbd807e7a990b0b2170c81a24be53", func := "loop.example/g01100/laws.FnExactIsSymmetricMap", spec := "fnExactIsSymmetricMap", unfollowed := true, recurses := true, apart := false }
def FnExactIsSymmetricMapSaid : Prop := fnExactIsSymmetricMapRow.holds Tryz.pinned (OpenSpec.ofChange fnExactIsSymmetricMapSpec)

/-- ITS FALSE NEIGHBOUR: 'it returns false'. Refute it at one input. -/
def fnExactIsSymmetricMapWrong : ChangeSpec := { name := "fnExactIsSymmetricMap", fn := fun _ => fun
  | [d] => { results := [.lit (.bool false)], args := [d] }
  | _ => none }
def FnExactIsSymmetricMapWrongFalsely : Prop := fnExactIsSymmetricMapRow.holds Tryz.pinned (OpenSpec.ofChange fnExactIsSymmetricMapWrong)

/-- 'laws.FnExactAdjointMap': WHATEVER THE INPUT: true; the input reads as it did. -/
def fnExactAdjointMapSpec : ChangeSpec := { name := "fnExactAdjointMap", fn := fun _ => fun
  | [d] => { results := [.lit (.bool true)], args := [d] }
  | _ => none }
def fnExactAdjointMapRow : OpenClaim := { program := "ytheldcjiogpbjaagreat", sum := "b4a70c83d689c2924ec1861ee3fca63abccdbd807e7a990b0b2170c81a24be53", func := "loop.example/g01100/laws.FnExactAdjointMap", spec := "fnExactAdjointMap", unfollowed := true, recurses := true, apart := false }
def FnExactAdjointMapSaid : Prop := fnExactAdjointMapRow.holds Tryz.pinned (OpenSpec.ofChange fnExactAdjointMapSpec)

/-- ITS FALSE NEIGHBOUR: 'it returns false'. Refute it at one input. -/
def fnExactAdjointMapWrong : ChangeSpec := { name := "fnExactAdjointMap", fn := fun _ => fun
  | [d] => { results := [.lit (.bool false)], args := [d] }
  | _ => none }
def FnExactAdjointMapWrongFalsely : Prop := fnExactAdjointMapRow.holds Tryz.pinned (OpenSpec.ofChange fnExactAdjointMapWrong)

/-- 'laws.FnExactModifiedMap': WHATEVER THE INPUT: true; the input reads as it did. -/
def fnExactModifiedMapSpec : ChangeSpec := { name := "fnExactModifiedMap", fn := fun _ => fun
  | [d] => { results := [.lit (.bool true)], args := [d] }
  | _ => none }
def fnExactModifiedMapRow : OpenClaim := { program := "ytheldcjiogpbjaagreat", sum := "b4a70c83d689c2924ec1861ee3fca63abccdbd807e7a990b0b2170c81a24be53", func := "loop.example/g01100/laws.FnExactModifiedMap", spec := "fnExactModifiedMap", unfollowed := true, recurses := true, apart := false }
def FnExactModifiedMapSaid : Prop := fnExactModifiedMapRow.holds Tryz.pinned (OpenSpec.ofChange fnExactModifiedMapSpec)

/-- ITS FALSE NEIGHBOUR: 'it returns false'. Refute it at one input. -/
def fnExactModifiedMapWrong : ChangeSpec := { name := "fnExactModifiedMap", fn := fun _ => fun
  | [d] => { results := [.lit (.bool false)], args := [d] }
  | _ => none }
def FnExactModifiedMapWrongFalsely : Prop := fnExactModifiedMapRow.holds Tryz.pinned (OpenSpec.ofChange fnExactModifiedMapWrong)

/-- 'laws.FnExactSubstitutionPower': WHATEVER THE INPUT: true; the input reads as it did. -/
def fnExactSubstitutionPowerSpec : ChangeSpec := { name := "fnExactSubstitutionPower", fn := fun _ => fun
  | [d1, d2] => { results := [.lit (.bool true)], args := [d1, d2] }
  | _ => none }
def fnExactSubstitutionPowerRow : OpenClaim := { program := "ytheldcjiogpbjaagreat", sum := "b4a70c83d689c2924ec1861ee3fca63abccdbd807e7a990b0b2170c81a24be53", func := "loop.example/g01100/laws.FnExactSubstitutionPower", spec := "fnExactSubstitutionPower", unfollowed := true, recurses := true, apart := false }
def FnExactSubstitutionPowerSaid : Prop := fnExactSubstitutionPowerRow.holds Tryz.pinned (OpenSpec.ofChange fnExactSubstitutionPowerSpec)

/-- ITS FALSE NEIGHBOUR: 'it returns false'. Refute it at one input. -/
def fnExactSubstitutionPowerWrong : ChangeSpec := { name := "fnExactSubstitutionPower", fn := fun _ => fun
  | [d1, d2] => { results := [.lit (.bool false)], args := [d1, d2] }
  | _ => none }
def FnExactSubstitutionPowerWrongFalsely : Prop := fnExactSubstitutionPowerRow.holds Tryz.pinned (OpenSpec.ofChange fnExactSubstitutionPowerWrong)

/-- 'laws.FnExactModifyingMap': WHATEVER THE INPUT: true; the input reads as it did. -/
def fnExactModifyingMapSpec : ChangeSpec := { name := "fnExactModifyingMap", fn := fun _ => fun
  | [d] => { results := [.lit (.bool true)], args := [d] }
  | _ => none }
def fnExactModifyingMapRow : OpenClaim := { program := "ytheldcjiogpbjaagreat", sum := "b4a70c83d689c2924ec1861ee3fca63abccdbd807e7a990b0b2170c81a24be53", func := "loop.example/g01100/laws.FnExactModifyingMap", spec := "fnExactModifyingMap", unfollowed := true, recurses := true, apart := false }
def FnExactModifyingMapSaid : Prop := fnExactModifyingMapRow.holds Tryz.pinned (OpenSpec.ofChange fnExactModifyingMapSpec)

/-- ITS FALSE NEIGHBOUR: 'it returns false'. Refute it at one input. -/
def fnExactModifyingMapWrong : ChangeSpec := { name := "fnExactModifyingMap", fn := fun _ => fun
  | [d] => { results := [.lit (.bool false)], args := [d] }
  | _ => none }
def FnExactModifyingMapWrongFalsely : Prop := fnExactModifyingMapRow.holds Tryz.pinned (OpenSpec.ofChange fnExactModifyingMapWrong)

/-- 'laws.FnExactFreeNumbersOf': WHATEVER THE INPUT: true; the input reads as it did. -/
def fnExactFreeNumbersOfSpec : ChangeSpec := { name := "fnExactFreeNumbersOf", fn := fun _ => fun
  | [d] => { results := [.lit (.bool true)], args := [d] }
  | _ => none }
def fnExactFreeNumbersOfRow : OpenClaim := { program := "ytheldcjiogpbjaagreat", sum := "b4a70c83d689c2924ec1861ee3fca63abccdbd807e7a990b0b2170c81a24be53", func := "loop.example/g01100/laws.FnExactFreeNumbersOf", spec := "fnExactFreeNumbersOf", unfollowed := true, recurses := true, apart := false }
def FnExactFreeNumbersOfSaid : Prop := fnExactFreeNumbersOfRow.holds Tryz.pinned (OpenSpec.ofChange fnExactFreeNumbersOfSpec)

/-- ITS FALSE NEIGHBOUR: 'it returns false'. Refute it at one input. -/
def fnExactFreeNumbersOfWrong : ChangeSpec := { name := "fnExactFreeNumbersOf", fn := fun _ => fun
  | [d] => { results := [.lit (.bool false)], args := [d] }
  | _ => none }
def FnExactFreeNumbersOfWrongFalsely : Prop := fnExactFreeNumbersOfRow.holds Tryz.pinned (OpenSpec.ofChange fnExactFreeNumbersOfWrong)

/-- 'laws.FnExactErrorMap': WHATEVER THE INPUT: true; the input reads as it did. -/
def fnExactErrorMapSpec : ChangeSpec := { name := "fnExactErrorMap", fn := fun _ => fun
  | [d] => { results := [.lit (.bool true)], args := [d] }
  | _ => none }
def fnExactErrorMapRow : OpenClaim := { program := "ytheldcjiogpbjaagreat", sum := "b4a70c83d689c2924ec1861ee3fca63abccdbd807e7a990b0b2170c81a24be53", func := "loop.example/g01100/laws.FnExactErrorMap", spec := "fnExactErrorMap", unfollowed := true, recurses := true, apart := false }
def FnExactErrorMapSaid : Prop := fnExactErrorMapRow.holds Tryz.pinned (OpenSpec.ofChange fnExactErrorMapSpec)

/-- ITS FALSE NEIGHBOUR: 'it returns false'. Refute it at one input. -/
def fnExactErrorMapWrong : ChangeSpec := { name := "fnExactErrorMap", fn := fun _ => fun
  | [d] => { results := [.lit (.bool false)], args := [d] }
  | _ => none }
def FnExactErrorMapWrongFalsely : Prop := fnExactErrorMapRow.holds Tryz.pinned (OpenSpec.ofChange fnExactErrorMapWrong)

/- THE SECOND FORM. 'bulk': how many values and letters a reading holds, each counted each time it is reached (what is shared counts as often as it is met; a slice's spare places count too). A statement '..UptoSaid' is the law's where the arguments, and the package variables that the reading takes, are together of bulk at most 1048576: NARROWER than '..Said'. Prove '..Said' where nothing that the law and all that it calls make is longer than what came in: it says more and counts as full. Else prove '..UptoSaid'. A law counts once. -/
mutual
def uptoBulk {H : Type} : DataW H → Nat
  | .lit (.string bytes) => bytes.length + 1
  | .lit _ => 1
  | .nil => 1
  | .ptr d => uptoBulk d + 1
  | .slice elems spare => uptoBulkAll elems + uptoBulkAll spare + 1
  | .agg parts => uptoBulkAll parts + 1
  | .iface _ d => uptoBulk d + 1
  | .map entries => uptoBulkEntries entries + 1
  | .held _ => 1
def uptoBulkAll {H : Type} : List (DataW H) → Nat
  | [] => 0
  | d :: r => uptoBulk d + uptoBulkAll r
def uptoBulkEntries {H : Type} : List (Lit × DataW H) → Nat
  | [] => 0
  | x :: r => uptoBulkEntry x + uptoBulkEntries r
def uptoBulkEntry {H : Type} : Lit × DataW H → Nat
  | (.string bytes, d) => bytes.length + uptoBulk d + 1
  | (_, d) => uptoBulk d + 1
 end
def uptoSmall : (H : Type) → List (DataW H) → Bool := fun _ ds => decide (uptoBulkAll ds ≤ 1048576)
def OpenSpec.upto (s : _root_.Go.ChangeSpec) : _root_.Go.OpenSpec := { _root_.Go.OpenSpec.ofChange s with cond := some uptoSmall }

/-- 'laws.FnExactSubstituteMap', WHERE WHAT IT READS IS OF BULK AT MOST 1048576: true; the input reads as it did. -/
def fnExactSubstituteMapUptoRow : OpenClaim := { program := "ytheldcjiogpbjaagreat", sum := "b4a70c83d689c2924ec1861ee3fca63abccdbd807e7a990b0b2170c81a24be53", func := "loop.example/g01100/laws.FnExactSubstituteMap", spec := "fnExactSubstituteMap", unfollowed := true, recurses := true, apart := false, narrowed := true }
def FnExactSubstituteMapUptoSaid : Prop := fnExactSubstituteMapUptoRow.holds Tryz.pinned (OpenSpec.upto fnExactSubstituteMapSpec)

/-- 'laws.FnExactCommuteTo', WHERE WHAT IT READS IS OF BULK AT MOST 1048576: true; the input reads as it did. -/
def fnExactCommuteToUptoRow : OpenClaim := { program := "ytheldcjiogpbjaagreat", sum := "b4a70c83d689c2924ec1861ee3fca63abccdbd807e7a990b0b2170c81a24be53", func := "loop.example/g01100/laws.FnExactCommuteTo", spec := "fnExactCommuteTo", unfollowed := true, recurses := true, apart := false, narrowed := true }
def FnExactCommuteToUptoSaid : Prop := fnExactCommuteToUptoRow.holds Tryz.pinned (OpenSpec.upto fnExactCommuteToSpec)

/-- 'laws.FnExactConjugateMap', WHERE WHAT IT READS IS OF BULK AT MOST 1048576: true; the input reads as it did. -/
def fnExactConjugateMapUptoRow : OpenClaim := { program := "ytheldcjiogpbjaagreat", sum := "b4a70c83d689c2924ec1861ee3fca63abccdbd807e7a990b0b2170c81a24be53", func := "loop.example/g01100/laws.FnExactConjugateMap", spec := "fnExactConjugateMap", unfollowed := true, recurses := true, apart := false, narrowed := true }
def FnExactConjugateMapUptoSaid : Prop := fnExactConjugateMapUptoRow.holds Tryz.pinned (OpenSpec.upto fnExactConjugateMapSpec)

/-- 'laws.FnExactReducedOrder', WHERE WHAT IT READS IS OF BULK AT MOST 1048576: true; the input reads as it did. -/
def fnExactReducedOrderUptoRow : OpenClaim := { program := "ytheldcjiogpbjaagreat", sum := "b4a70c83d689c2924ec1861ee3fca63abccdbd807e7a990b0b2170c81a24be53", func := "loop.example/g01100/laws.FnExactReducedOrder", spec := "fnExactReducedOrder", unfollowed := true, recurses := true, apart := false, narrowed := true }
def FnExactReducedOrderUptoSaid : Prop := fnExactReducedOrderUptoRow.holds Tryz.pinned (OpenSpec.upto fnExactReducedOrderSpec)

/-- 'laws.FnExactSubstitutionInverse', WHERE WHAT IT READS IS OF BULK AT MOST 1048576: true; the input reads as it did. -/
def fnExactSubstitutionInverseUptoRow : OpenClaim := { program := "ytheldcjiogpbjaagreat", sum := "b4a70c83d689c2924ec1861ee3fca63abccdbd807e7a990b0b2170c81a24be53", func := "loop.example/g01100/laws.FnExactSubstitutionInverse", spec := "fnExactSubstitutionInverse", unfollowed := true, recurses := true, apart := false, narrowed := true }
def FnExactSubstitutionInverseUptoSaid : Prop := fnExactSubstitutionInverseUptoRow.holds Tryz.pinned (OpenSpec.upto fnExactSubstitutionInverseSpec)

/-- 'laws.FnExactIsSymmetricMap', WHERE WHAT IT READS IS OF BULK AT MOST 1048576: true; the input reads as it did. -/
def fnExactIsSymmetricMapUptoRow : OpenClaim := { program := "ytheldcjiogpbjaagreat", sum := "b4a70c83d689c2924ec1861ee3fca63abccdbd807e7a990b0b2170c81a24be53", func := "loop.example/g01100/laws.FnExactIsSymmetricMap", spec := "fnExactIsSymmetricMap", unfollowed := true, recurses := true, apart := false, narrowed := true }
def FnExactIsSymmetricMapUptoSaid : Prop := fnExactIsSymmetricMapUptoRow.holds Tryz.pinned (OpenSpec.upto fnExactIsSymmetricMapSpec)

/-- 'laws.FnExactAdjointMap', WHERE WHAT IT READS IS OF BULK AT MOST 1048576: true; the input reads as it did. -/
def fnExactAdjointMapUptoRow : OpenClaim := { program := "ytheldcjiogpbjaagreat", sum := "b4a70c83d689c2924ec1861ee3fca63abccdbd807e7a990b0b2170c81a24be53", func := "loop.example/g01100/laws.FnExactAdjointMap", spec := "fnExactAdjointMap", unfollowed := true, recurses := true, apart := false, narrowed := true }
def FnExactAdjointMapUptoSaid : Prop := fnExactAdjointMapUptoRow.holds Tryz.pinned (OpenSpec.upto fnExactAdjointMapSpec)

/-- 'laws.FnExactModifiedMap', WHERE WHAT IT READS IS OF BULK AT MOST 1048576: true; the input reads as it did. -/
def fnExactModifiedMapUptoRow : OpenClaim := { program := "ytheldcjiogpbjaagreat", sum := "b4a70c83d689c2924ec1861ee3fca63abccdbd807e7a990b0b2170c81a24be53", func := "loop.example/g01100/laws.FnExactModifiedMap", spec := "fnExactModifiedMap", unfollowed := true, recurses := true, apart := false, narrowed := true }
def FnExactModifiedMapUptoSaid : Prop := fnExactModifiedMapUptoRow.holds Tryz.pinned (OpenSpec.upto fnExactModifiedMapSpec)

/-- 'laws.FnExactSubstitutionPower', WHERE WHAT IT READS IS OF BULK AT MOST 1048576: true; the input reads as it did. -/
def fnExactSubstitutionPowerUptoRow : OpenClaim := { program := "ytheldcjiogpbjaagreat", sum := "b4a70c83d689c2924ec1861ee3fca63abccdbd807e7a990b0b2170c81a24be53", func := "loop.example/g01100/laws.FnExactSubstitutionPower", spec := "fnExactSubstitutionPower", unfollowed := true, recurses := true, apart := false, narrowed := true }
def FnExactSubstitutionPowerUptoSaid : Prop := fnExactSubstitutionPowerUptoRow.holds Tryz.pinned (OpenSpec.upto fnExactSubstitutionPowerSpec)

/-- 'laws.FnExactModifyingMap', WHERE WHAT IT READS IS OF BULK AT MOST 1048576: true; the input reads as it did. -/
def fnExactModifyingMapUptoRow : OpenClaim := { program := "ytheldcjiogpbjaagreat", sum := "b4a70c83d689c2924ec1861ee3fca63abccdbd807e7a990b0b2170c81a24be53", func := "loop.example/g01100/laws.FnExactModifyingMap", spec := "fnExactModifyingMap", unfollowed := true, recurses := true, apart := false, narrowed := true }
def FnExactModifyingMapUptoSaid : Prop := fnExactModifyingMapUptoRow.holds Tryz.pinned (OpenSpec.upto fnExactModifyingMapSpec)

/-- 'laws.FnExactFreeNumbersOf', WHERE WHAT IT READS IS OF BULK AT MOST 1048576: true; the input reads as it did. -/
def fnExactFreeNumbersOfUptoRow : OpenClaim := { program := "ytheldcjiogpbjaagreat", sum := "b4a70c83d689c2924ec1861ee3fca63abccdbd807e7a990b0b2170c81a24be53", func := "loop.example/g01100/laws.FnExactFreeNumbersOf", spec := "fnExactFreeNumbersOf", unfollowed := true, recurses := true, apart := false, narrowed := true }
def FnExactFreeNumbersOfUptoSaid : Prop := fnExactFreeNumbersOfUptoRow.holds Tryz.pinned (OpenSpec.upto fnExactFreeNumbersOfSpec)

/-- 'laws.FnExactErrorMap', WHERE WHAT IT READS IS OF BULK AT MOST 1048576: true; the input reads as it did. -/
def fnExactErrorMapUptoRow : OpenClaim := { program := "ytheldcjiogpbjaagreat", sum := "b4a70c83d689c2924ec1861ee3fca63abccdbd807e7a990b0b2170c81a24be53", func := "loop.example/g01100/laws.FnExactErrorMap", spec := "fnExactErrorMap", unfollowed := true, recurses := true, apart := false, narrowed := true }
def FnExactErrorMapUptoSaid : Prop := fnExactErrorMapUptoRow.holds Tryz.pinned (OpenSpec.upto fnExactErrorMapSpec)

end Rows
end Go.Proofs.YtheldcjiogpbjaaGreat
