/-
  No cell of these rows narrows 'for every input' (looked for: loops, veiled, ifaces, maps, wideKeys, modest, calm, conditions, laid).
  DERIVED. THE GIVEN ROWS OF THIS SEAT. 12 by the template 'for every input the law returns true; each argument reads behind the call as it read before'; 0 by the template 'total and deterministic' (their statements: YtngdpoeondnchaaGreatTotals.lean).
  GIVEN WITH THE SEED: the statements are not yours to turn. If you find one false, say at which input.
  Laid BY PROGRAM, IN A SANDBOX (cutbox-rows.mjs): the forced cells as the released guide's own fill.sh prints them over the translation f631be8ec7be5426… (all of the seat's roots in one cut). By AI agents, Wed Nov 11 2026. No macro, syntax, notation, axiom, sorry.
-/
import Derived.Test.YtngdpoeondnchaaGreatChecked
import GoSem.Claim
import GoSem.ClaimJoined
import GoSem.ClaimMapViews
import Derived.JoinedTies
import Derived.KernelRfl
namespace Go.Proofs.YtngdpoeondnchaaGreat
/- THE CELL 'sum', in the pinned program and in every row, IS THE sha256 OF THE DUMP (.gsa) THAT YtngdpoeondnchaaGreatProg.lean LOADS. Nothing in Lean hashes anything: it is a label: what it is worth is what the hold of that sum in a sandbox is worth. -/
noncomputable def Tryz.pinned : Pinned := { name := "ytngdpoeondnchaagreat", sum := "f631be8ec7be54263ef946158634660088485eca491fd67051277709bf0166f2", checked := Tryz.checked }
namespace Rows
def none {H : Type} : Left H := { results := [], args := [] }

/-- 'laws.FnSubstitutedProducts': WHATEVER THE INPUT: true; the input reads as it did. -/
def fnSubstitutedProductsSpec : ChangeSpec := { name := "fnSubstitutedProducts", fn := fun _ => fun
  | [d] => { results := [.lit (.bool true)], args := [d] }
  | _ => none }
def fnSubstitutedProductsRow : OpenClaim := { program := "ytngdpoeondnchaagreat", sum := "f631be8ec7be54263ef946158634660088485eca491fd67051277709bf0166f2", func := "loop.example/g01100/laws.FnSubstitutedProducts", spec := "fnSubstitutedProducts", unfollowed := true, recurses := true, apart := false }
def FnSubstitutedProductsSaid : Prop := fnSubstitutedProductsRow.holds Tryz.pinned (OpenSpec.ofChange fnSubstitutedProductsSpec)

/-- ITS FALSE NEIGHBOUR: 'it returns false'. Refute it at one input. -/
def fnSubstitutedProductsWrong : ChangeSpec := { name := "fnSubstitutedProducts", fn := fun _ => fun
  | [d] => { results := [.lit (.bool false)], args := [d] }
  | _ => none }
def FnSubstitutedProductsWrongFalsely : Prop := fnSubstitutedProductsRow.holds Tryz.pinned (OpenSpec.ofChange fnSubstitutedProductsWrong)

/-- 'laws.FnExactCommuteTo': WHATEVER THE INPUT: true; the input reads as it did. -/
def fnExactCommuteToSpec : ChangeSpec := { name := "fnExactCommuteTo", fn := fun _ => fun
  | [d1, d2] => { results := [.lit (.bool true)], args := [d1, d2] }
  | _ => none }
def fnExactCommuteToRow : OpenClaim := { program := "ytngdpoeondnchaagreat", sum := "f631be8ec7be54263ef946158634660088485eca491fd67051277709bf0166f2", func := "loop.example/g01100/laws.FnExactCommuteTo", spec := "fnExactCommuteTo", unfollowed := true, recurses := true, apart := false }
def FnExactCommuteToSaid : Prop := fnExactCommuteToRow.holds Tryz.pinned (OpenSpec.ofChange fnExactCommuteToSpec)

/-- ITS FALSE NEIGHBOUR: 'it returns false'. Refute it at one input. -/
def fnExactCommuteToWrong : ChangeSpec := { name := "fnExactCommuteTo", fn := fun _ => fun
  | [d1, d2] => { results := [.lit (.bool false)], args := [d1, d2] }
  | _ => none }
def FnExactCommuteToWrongFalsely : Prop := fnExactCommuteToRow.holds Tryz.pinned (OpenSpec.ofChange fnExactCommuteToWrong)

/-- 'laws.FnExactConjugateMap': WHATEVER THE INPUT: true; the input reads as it did. -/
def fnExactConjugateMapSpec : ChangeSpec := { name := "fnExactConjugateMap", fn := fun _ => fun
  | [d1, d2] => { results := [.lit (.bool true)], args := [d1, d2] }
  | _ => none }
def fnExactConjugateMapRow : OpenClaim := { program := "ytngdpoeondnchaagreat", sum := "f631be8ec7be54263ef946158634660088485eca491fd67051277709bf0166f2", func := "loop.example/g01100/laws.FnExactConjugateMap", spec := "fnExactConjugateMap", unfollowed := true, recurses := true, apart := false }
def FnExactConjugateMapSaid : Prop := fnExactConjugateMapRow.holds Tryz.pinned (OpenSpec.ofChange fnExactConjugateMapSpec)

/-- ITS FALSE NEIGHBOUR: 'it returns false'. Refute it at one input. -/
def fnExactConjugateMapWrong : ChangeSpec := { name := "fnExactConjugateMap", fn := fun _ => fun
  | [d1, d2] => { results := [.lit (.bool false)], args := [d1, d2] }
  | _ => none }
def FnExactConjugateMapWrongFalsely : Prop := fnExactConjugateMapRow.holds Tryz.pinned (OpenSpec.ofChange fnExactConjugateMapWrong)

/-- 'laws.FnExactIsSymmetricMap': WHATEVER THE INPUT: true; the input reads as it did. -/
def fnExactIsSymmetricMapSpec : ChangeSpec := { name := "fnExactIsSymmetricMap", fn := fun _ => fun
  | [d] => { results := [.lit (.bool true)], args := [d] }
  | _ => none }
def fnExactIsSymmetricMapRow : OpenClaim := { program := "ytngdpoeondnchaagreat", sum := "f631be8ec7be54263ef946158634660088485eca491fd67051277709bf0166f2", func := "loop.example/g01100/laws.FnExactIsSymmetricMap", spec := "fnExactIsSymmetricMap", unfollowed := true, recurses := true, apart := false }
def FnExactIsSymmetricMapSaid : Prop := fnExactIsSymmetricMapRow.holds Tryz.pinned (OpenSpec.ofChange fnExactIsSymmetricMapSpec)

/-- ITS FALSE NEIGHBOUR: 'it returns false'. Refute it at one input. -/
def fnExactIsSymmetricMapWrong : ChangeSpec := { name := "fnExactIsSymmetricMap", fn := fun _ => fun
  | [d] => { results := [.lit (.bool false)], args := [d] }
  | _ => none }
def FnExactIsSymmetricMapWrongFalsely : Prop := fnExactIsSymmetricMapRow.holds Tryz.pinned (OpenSpec.ofChange fnExactIsSymmetricMapWrong)

/-- 'laws.FnExactAdjointMap': WHATEVER THE INPUT: true; the input reads as it did. -/
def fnExactAdjointMapSpec : ChangeSpec := { name := "fnExactAdjointMap", fn := fun _ => fun
  | [d] => { results := [.lit (.bool true)], args := [d] }
  | _ => none }
def fnExactAdjointMapRow : OpenClaim := { program := "ytngdpoeondnchaagreat", sum := "f631be8ec7be54263ef946158634660088485eca491fd67051277709bf0166f2", func := "loop.example/g01100/laws.FnExactAdjointMap", spec := "fnExactAdjointMap", unfollowed := true, recurses := true, apart := false }
def FnExactAdjointMapSaid : Prop := fnExactAdjointMapRow.holds Tryz.pinned (OpenSpec.ofChange fnExactAdjointMapSpec)

/-- ITS FALSE NEIGHBOUR: 'it returns false'. Refute it at one input. -/
def fnExactAdjointMapWrong : ChangeSpec := { name := "fnExactAdjointMap", fn := fun _ => fun
  | [d] => { results := [.lit (.bool false)], args := [d] }
  | _ => none }
def FnExactAdjointMapWrongFalsely : Prop := fnExactAdjointMapRow.holds Tryz.pinned (OpenSpec.ofChange fnExactAdjointMapWrong)

/-- 'laws.FnExactComposeSteps': WHATEVER THE INPUT: true; the input reads as it did. -/
def fnExactComposeStepsSpec : ChangeSpec := { name := "fnExactComposeSteps", fn := fun _ => fun
  | [d1, d2] => { results := [.lit (.bool true)], args := [d1, d2] }
  | _ => none }
def fnExactComposeStepsRow : OpenClaim := { program := "ytngdpoeondnchaagreat", sum := "f631be8ec7be54263ef946158634660088485eca491fd67051277709bf0166f2", func := "loop.example/g01100/laws.FnExactComposeSteps", spec := "fnExactComposeSteps", unfollowed := true, recurses := true, apart := false }
def FnExactComposeStepsSaid : Prop := fnExactComposeStepsRow.holds Tryz.pinned (OpenSpec.ofChange fnExactComposeStepsSpec)

/-- ITS FALSE NEIGHBOUR: 'it returns false'. Refute it at one input. -/
def fnExactComposeStepsWrong : ChangeSpec := { name := "fnExactComposeSteps", fn := fun _ => fun
  | [d1, d2] => { results := [.lit (.bool false)], args := [d1, d2] }
  | _ => none }
def FnExactComposeStepsWrongFalsely : Prop := fnExactComposeStepsRow.holds Tryz.pinned (OpenSpec.ofChange fnExactComposeStepsWrong)

/-- 'laws.FnExactSymmetrizeMap': WHATEVER THE INPUT: true; the input reads as it did. -/
def fnExactSymmetrizeMapSpec : ChangeSpec := { name := "fnExactSymmetrizeMap", fn := fun _ => fun
  | [d] => { results := [.lit (.bool true)], args := [d] }
  | _ => none }
def fnExactSymmetrizeMapRow : OpenClaim := { program := "ytngdpoeondnchaagreat", sum := "f631be8ec7be54263ef946158634660088485eca491fd67051277709bf0166f2", func := "loop.example/g01100/laws.FnExactSymmetrizeMap", spec := "fnExactSymmetrizeMap", unfollowed := true, recurses := true, apart := false }
def FnExactSymmetrizeMapSaid : Prop := fnExactSymmetrizeMapRow.holds Tryz.pinned (OpenSpec.ofChange fnExactSymmetrizeMapSpec)

/-- ITS FALSE NEIGHBOUR: 'it returns false'. Refute it at one input. -/
def fnExactSymmetrizeMapWrong : ChangeSpec := { name := "fnExactSymmetrizeMap", fn := fun _ => fun
  | [d] => { results := [.lit (.bool false)], args := [d] }
  | _ => none }
def FnExactSymmetrizeMapWrongFalsely : Prop := fnExactSymmetrizeMapRow.holds Tryz.pinned (OpenSpec.ofChange fnExactSymmetrizeMapWrong)

/-- 'laws.FnExactRefineMap': WHATEVER THE INPUT: true; the input reads as it did. -/
def fnExactRefineMapSpec : ChangeSpec := { name := "fnExactRefineMap", fn := fun _ => fun
  | [d1, d2] => { results := [.lit (.bool true)], args := [d1, d2] }
  | _ => none }
def fnExactRefineMapRow : OpenClaim := { program := "ytngdpoeondnchaagreat", sum := "f631be8ec7be54263ef946158634660088485eca491fd67051277709bf0166f2", func := "loop.example/g01100/laws.FnExactRefineMap", spec := "fnExactRefineMap", unfollowed := true, recurses := true, apart := false }
def FnExactRefineMapSaid : Prop := fnExactRefineMapRow.holds Tryz.pinned (OpenSpec.ofChange fnExactRefineMapSpec)

/-- ITS FALSE NEIGHBOUR: 'it returns false'. Refute it at one input. -/
def fnExactRefineMapWrong : ChangeSpec := { name := "fnExactRefineMap", fn := fun _ => fun
  | [d1, d2] => { results := [.lit (.bool false)], args := [d1, d2] }
  | _ => none }
def FnExactRefineMapWrongFalsely : Prop := fnExactRefineMapRow.holds Tryz.pinned (OpenSpec.ofChange fnExactRefineMapWrong)

/-- 'laws.FnSubstitutions': WHATEVER THE INPUT: true; the input reads as it did. -/
def fnSubstitutionsSpec : ChangeSpec := { name := "fnSubstitutions", fn := fun _ => fun
  | [d] => { results := [.lit (.bool true)], args := [d] }
  | _ => none }
def fnSubstitutionsRow : OpenClaim := { program := "ytngdpoeondnchaagreat", sum := "f631be8ec7be54263ef946158634660088485eca491fd67051277709bf0166f2", func := "loop.example/g01100/laws.FnSubstitutions", spec := "fnSubstitutions", unfollowed := true, recurses := true, apart := false }
def FnSubstitutionsSaid : Prop := fnSubstitutionsRow.holds Tryz.pinned (OpenSpec.ofChange fnSubstitutionsSpec)

/-- ITS FALSE NEIGHBOUR: 'it returns false'. Refute it at one input. -/
def fnSubstitutionsWrong : ChangeSpec := { name := "fnSubstitutions", fn := fun _ => fun
  | [d] => { results := [.lit (.bool false)], args := [d] }
  | _ => none }
def FnSubstitutionsWrongFalsely : Prop := fnSubstitutionsRow.holds Tryz.pinned (OpenSpec.ofChange fnSubstitutionsWrong)

/-- 'laws.FnExactExtrapolateMap': WHATEVER THE INPUT: true; the input reads as it did. -/
def fnExactExtrapolateMapSpec : ChangeSpec := { name := "fnExactExtrapolateMap", fn := fun _ => fun
  | [d1, d2] => { results := [.lit (.bool true)], args := [d1, d2] }
  | _ => none }
def fnExactExtrapolateMapRow : OpenClaim := { program := "ytngdpoeondnchaagreat", sum := "f631be8ec7be54263ef946158634660088485eca491fd67051277709bf0166f2", func := "loop.example/g01100/laws.FnExactExtrapolateMap", spec := "fnExactExtrapolateMap", unfollowed := true, recurses := true, apart := false }
def FnExactExtrapolateMapSaid : Prop := fnExactExtrapolateMapRow.holds Tryz.pinned (OpenSpec.ofChange fnExactExtrapolateMapSpec)

/-- ITS FALSE NEIGHBOUR: 'it returns false'. Refute it at one input. -/
def fnExactExtrapolateMapWrong : ChangeSpec := { name := "fnExactExtrapolateMap", fn := fun _ => fun
  | [d1, d2] => { results := [.lit (.bool false)], args := [d1, d2] }
  | _ => none }
def FnExactExtrapolateMapWrongFalsely : Prop := fnExactExtrapolateMapRow.holds Tryz.pinned (OpenSpec.ofChange fnExactExtrapolateMapWrong)

/-- 'laws.FnSubstitutionPowers': WHATEVER THE INPUT: true; the input reads as it did. -/
def fnSubstitutionPowersSpec : ChangeSpec := { name := "fnSubstitutionPowers", fn := fun _ => fun
  | [d] => { results := [.lit (.bool true)], args := [d] }
  | _ => none }
def fnSubstitutionPowersRow : OpenClaim := { program := "ytngdpoeondnchaagreat", sum := "f631be8ec7be54263ef946158634660088485eca491fd67051277709bf0166f2", func := "loop.example/g01100/laws.FnSubstitutionPowers", spec := "fnSubstitutionPowers", unfollowed := true, recurses := true, apart := false }
def FnSubstitutionPowersSaid : Prop := fnSubstitutionPowersRow.holds Tryz.pinned (OpenSpec.ofChange fnSubstitutionPowersSpec)

/-- ITS FALSE NEIGHBOUR: 'it returns false'. Refute it at one input. -/
def fnSubstitutionPowersWrong : ChangeSpec := { name := "fnSubstitutionPowers", fn := fun _ => fun
  | [d] => { results := [.lit (.bool false)], args := [d] }
  | _ => none }
def FnSubstitutionPowersWrongFalsely : Prop := fnSubstitutionPowersRow.holds Tryz.pinned (OpenSpec.ofChange fnSubstitutionPowersWrong)

/-- 'laws.FnExactRaiseOrder': WHATEVER THE INPUT: true; the input reads as it did. -/
def fnExactRaiseOrderSpec : ChangeSpec := { name := "fnExactRaiseOrder", fn := fun _ => fun
  | [d] => { results := [.lit (.bool true)], args := [d] }
  | _ => none }
def fnExactRaiseOrderRow : OpenClaim := { program := "ytngdpoeondnchaagreat", sum := "f631be8ec7be54263ef946158634660088485eca491fd67051277709bf0166f2", func := "loop.example/g01100/laws.FnExactRaiseOrder", spec := "fnExactRaiseOrder", unfollowed := true, recurses := true, apart := false }
def FnExactRaiseOrderSaid : Prop := fnExactRaiseOrderRow.holds Tryz.pinned (OpenSpec.ofChange fnExactRaiseOrderSpec)

/-- ITS FALSE NEIGHBOUR: 'it returns false'. Refute it at one input. -/
def fnExactRaiseOrderWrong : ChangeSpec := { name := "fnExactRaiseOrder", fn := fun _ => fun
  | [d] => { results := [.lit (.bool false)], args := [d] }
  | _ => none }
def FnExactRaiseOrderWrongFalsely : Prop := fnExactRaiseOrderRow.holds Tryz.pinned (OpenSpec.ofChange fnExactRaiseOrderWrong)

/- THE SECOND FORM. 'bulk': how many values and letters a reading holds, each counted each time it is reached (what is shared counts as often as it is met; a slice's spare places count too). A statement '..UptoSaid' is the law's where the arguments, and the package variables that the reading takes, are together of bulk at most 1048576: NARROWER than '..Said'. Prove '..Said' where nothing that the law and all that it calls make is longer than what came in: it says more and counts as full. Else prove '..UptoSaid'. A law counts once. -/
mutual
def uptoBulk {H : Type} : DataW H → Nat
  | .lit (.string bytes) => bytes.length + 1
  | .lit _ => 1
  | .nil => 1
  | .ptr d => uptoBulk d + 1
  | .slice elems spare => uptoBulkAll elems + uptoBulkAll spare + 1
  | .agg parts => uptoBulkAll parts + 1
  | .iface _ d => uptoBulk d + 1
  | .map entries => uptoBulkEntries entries + 1
  | .held _ => 1
def uptoBulkAll {H : Type} : List (DataW H) → Nat
  | [] => 0
  | d :: r => uptoBulk d + uptoBulkAll r
def uptoBulkEntries {H : Type} : List (Lit × DataW H) → Nat
  | [] => 0
  | x :: r => uptoBulkEntry x + uptoBulkEntries r
def uptoBulkEntry {H : Type} : Lit × DataW H → Nat
  | (.string bytes, d) => bytes.length + uptoBulk d + 1
  | (_, d) => uptoBulk d + 1
 end
def uptoSmall : (H : Type) → List (DataW H) → Bool := fun _ ds => decide (uptoBulkAll ds ≤ 1048576)
def OpenSpec.upto (s : _root_.Go.ChangeSpec) : _root_.Go.OpenSpec := { _root_.Go.OpenSpec.ofChange s with cond := some uptoSmall }

/-- 'laws.FnSubstitutedProducts', WHERE WHAT IT READS IS OF BULK AT MOST 1048576: true; the input reads as it did. -/
def fnSubstitutedProductsUptoRow : OpenClaim := { program := "ytngdpoeondnchaagreat", sum := "f631be8ec7be54263ef946158634660088485eca491fd67051277709bf0166f2", func := "loop.example/g01100/laws.FnSubstitutedProducts", spec := "fnSubstitutedProducts", unfollowed := true, recurses := true, apart := false, narrowed := true }
def FnSubstitutedProductsUptoSaid : Prop := fnSubstitutedProductsUptoRow.holds Tryz.pinned (OpenSpec.upto fnSubstitutedProductsSpec)

/-- 'laws.FnExactCommuteTo', WHERE WHAT IT READS IS OF BULK AT MOST 1048576: true; the input reads as it did. -/
def fnExactCommuteToUptoRow : OpenClaim := { program := "ytngdpoeondnchaagreat", sum := "f631be8ec7be54263ef946158634660088485eca491fd67051277709bf0166f2", func := "loop.example/g01100/laws.FnExactCommuteTo", spec := "fnExactCommuteTo", unfollowed := true, recurses := true, apart := false, narrowed := true }
def FnExactCommuteToUptoSaid : Prop := fnExactCommuteToUptoRow.holds Tryz.pinned (OpenSpec.upto fnExactCommuteToSpec)

/-- 'laws.FnExactConjugateMap', WHERE WHAT IT READS IS OF BULK AT MOST 1048576: true; the input reads as it did. -/
def fnExactConjugateMapUptoRow : OpenClaim := { program := "ytngdpoeondnchaagreat", sum := "f631be8ec7be54263ef946158634660088485eca491fd67051277709bf0166f2", func := "loop.example/g01100/laws.FnExactConjugateMap", spec := "fnExactConjugateMap", unfollowed := true, recurses := true, apart := false, narrowed := true }
def FnExactConjugateMapUptoSaid : Prop := fnExactConjugateMapUptoRow.holds Tryz.pinned (OpenSpec.upto fnExactConjugateMapSpec)

/-- 'laws.FnExactIsSymmetricMap', WHERE WHAT IT READS IS OF BULK AT MOST 1048576: true; the input reads as it did. -/
def fnExactIsSymmetricMapUptoRow : OpenClaim := { program := "ytngdpoeondnchaagreat", sum := "f631be8ec7be54263ef946158634660088485eca491fd67051277709bf0166f2", func := "loop.example/g01100/laws.FnExactIsSymmetricMap", spec := "fnExactIsSymmetricMap", unfollowed := true, recurses := true, apart := false, narrowed := true }
def FnExactIsSymmetricMapUptoSaid : Prop := fnExactIsSymmetricMapUptoRow.holds Tryz.pinned (OpenSpec.upto fnExactIsSymmetricMapSpec)

/-- 'laws.FnExactAdjointMap', WHERE WHAT IT READS IS OF BULK AT MOST 1048576: true; the input reads as it did. -/
def fnExactAdjointMapUptoRow : OpenClaim := { program := "ytngdpoeondnchaagreat", sum := "f631be8ec7be54263ef946158634660088485eca491fd67051277709bf0166f2", func := "loop.example/g01100/laws.FnExactAdjointMap", spec := "fnExactAdjointMap", unfollowed := true, recurses := true, apart := false, narrowed := true }
def FnExactAdjointMapUptoSaid : Prop := fnExactAdjointMapUptoRow.holds Tryz.pinned (OpenSpec.upto fnExactAdjointMapSpec)

/-- 'laws.FnExactComposeSteps', WHERE WHAT IT READS IS OF BULK AT MOST 1048576: true; the input reads as it did. -/
def fnExactComposeStepsUptoRow : OpenClaim := { program := "ytngdpoeondnchaagreat", sum := "f631be8ec7be54263ef946158634660088485eca491fd67051277709bf0166f2", func := "loop.example/g01100/laws.FnExactComposeSteps", spec := "fnExactComposeSteps", unfollowed := true, recurses := true, apart := false, narrowed := true }
def FnExactComposeStepsUptoSaid : Prop := fnExactComposeStepsUptoRow.holds Tryz.pinned (OpenSpec.upto fnExactComposeStepsSpec)

/-- 'laws.FnExactSymmetrizeMap', WHERE WHAT IT READS IS OF BULK AT MOST 1048576: true; the input reads as it did. -/
def fnExactSymmetrizeMapUptoRow : OpenClaim := { program := "ytngdpoeondnchaagreat", sum := "f631be8ec7be54263ef946158634660088485eca491fd67051277709bf0166f2", func := "loop.example/g01100/laws.FnExactSymmetrizeMap", spec := "fnExactSymmetrizeMap", unfollowed := true, recurses := true, apart := false, narrowed := true }
def FnExactSymmetrizeMapUptoSaid : Prop := fnExactSymmetrizeMapUptoRow.holds Tryz.pinned (OpenSpec.upto fnExactSymmetrizeMapSpec)

/-- 'laws.FnExactRefineMap', WHERE WHAT IT READS IS OF BULK AT MOST 1048576: true; the input reads as it did. -/
def fnExactRefineMapUptoRow : OpenClaim := { program := "ytngdpoeondnchaagreat", sum := "f631be8ec7be54263ef946158634660088485eca491fd67051277709bf0166f2", func := "loop.example/g01100/laws.FnExactRefineMap", spec := "fnExactRefineMap", unfollowed := true, recurses := true, apart := false, narrowed := true }
def FnExactRefineMapUptoSaid : Prop := fnExactRefineMapUptoRow.holds Tryz.pinned (OpenSpec.upto fnExactRefineMapSpec)

/-- 'laws.FnSubstitutions', WHERE WHAT IT READS IS OF BULK AT MOST 1048576: true; the input reads as it did. -/
def fnSubstitutionsUptoRow : OpenClaim := { program := "ytngdpoeondnchaagreat", sum := "f631be8ec7be54263ef946158634660088485eca491fd67051277709bf0166f2", func := "loop.example/g01100/laws.FnSubstitutions", spec := "fnSubstitutions", unfollowed := true, recurses := true, apart := false, narrowed := true }
def FnSubstitutionsUptoSaid : Prop := fnSubstitutionsUptoRow.holds Tryz.pinned (OpenSpec.upto fnSubstitutionsSpec)

/-- 'laws.FnExactExtrapolateMap', WHERE WHAT IT READS IS OF BULK AT MOST 1048576: true; the input reads as it did. -/
def fnExactExtrapolateMapUptoRow : OpenClaim := { program := "ytngdpoeondnchaagreat", sum := "f631be8ec7be54263ef946158634660088485eca491fd67051277709bf0166f2", func := "loop.example/g01100/laws.FnExactExtrapolateMap", spec := "fnExactExtrapolateMap", unfollowed := true, recurses := true, apart := false, narrowed := true }
def FnExactExtrapolateMapUptoSaid : Prop := fnExactExtrapolateMapUptoRow.holds Tryz.pinned (OpenSpec.upto fnExactExtrapolateMapSpec)

/-- 'laws.FnSubstitutionPowers', WHERE WHAT IT READS IS OF BULK AT MOST 1048576: true; the input reads as it did. -/
def fnSubstitutionPowersUptoRow : OpenClaim := { program := "ytngdpoeondnchaagreat", sum := "f631be8ec7be54263ef946158634660088485eca491fd67051277709bf0166f2", func := "loop.example/g01100/laws.FnSubstitutionPowers", spec := "fnSubstitutionPowers", unfollowed := true, recurses := true, apart := false, narrowed := true }
def FnSubstitutionPowersUptoSaid : Prop := fnSubstitutionPowersUptoRow.holds Tryz.pinned (OpenSpec.upto fnSubstitutionPowersSpec)

/-- 'laws.FnExactRaiseOrder', WHERE WHAT IT READS IS OF BULK AT MOST 1048576: true; the input reads as it did. -/
def fnExactRaiseOrderUptoRow : OpenClaim := { program := "ytngdpoeondnchaagreat", sum := "f631be8ec7be54263ef946158634660088485eca491fd67051277709bf0166f2", func := "loop.example/g01100/laws.FnExactRaiseOrder", spec := "fnExactRaiseOrder", unfollowed := true, recurses := true, apart := false, narrowed := true }
def FnExactRaiseOrderUptoSaid : Prop := fnExactRaiseOrderUptoRow.holds Tryz.pinned (OpenSpec.upto fnExactRaiseOrderSpec)

end Rows
end Go.Proofs.YtngdpoeondnchaaGreat
