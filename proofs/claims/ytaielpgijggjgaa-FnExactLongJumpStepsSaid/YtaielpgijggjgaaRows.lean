/-
  No cell of these rows narrows 'for every input' (looked for: loops, veiled, ifaces, maps, wideKeys, modest, calm, conditions, laid).
  DERIVED. THE GIVEN ROWS OF THIS SEAT. 6 by the template 'for every input the law returns true; each argument reads behind the call as it read before'; 0 by the template 'total and deterministic' (their statements: YtaielpgijggjgaaTotals.lean).
  GIVEN WITH THE SEED: the statements are not yours to turn. If you find one false, say at which input.
  Laid BY PROGRAM, IN A SANDBOX (cutbox-rows.mjs): the forced cells as the released guide's own fill.sh prints them over the translation 8bbe71acd1e73130… (all of the seat's roots in one cut). By AI agents, Wed Nov 11 2026. No macro, syntax, notation, axiom, sorry.
-/
import Derived.Test.YtaielpgijggjgaaChecked
import GoSem.Claim
import GoSem.ClaimJoined
import GoSem.ClaimMapViews
import Derived.JoinedTies
import Derived.KernelRfl
namespace Go.Proofs.Ytaielpgijggjgaa
/- THE CELL 'sum', in the pinned program and in every row, IS THE sha256 OF THE DUMP (.gsa) THAT YtaielpgijggjgaaProg.lean LOADS. Nothing in Lean hashes anything: it is a label: what it is worth is what the hold of that sum in a sandbox is worth. -/
noncomputable def Try.pinned : Pinned := { name := "ytaielpgijggjgaa", sum := "8bbe71acd1e73130cb82b06dcc2f829e0e4b3f4a67256228294a1c310848ce08", checked := Try.checked }
namespace Rows
def none {H : Type} : Left H := { results := [], args := [] }

/-- 'laws.FnExactSubstitutionUnit': WHATEVER THE INPUT: true; the input reads as it did. -/
def fnExactSubstitutionUnitSpec : ChangeSpec := { name := "fnExactSubstitutionUnit", fn := fun _ => fun
  | [] => { results := [.lit (.bool true)], args := [] }
  | _ => none }
def fnExactSubstitutionUnitRow : OpenClaim := { program := "ytaielpgijggjgaa", sum := "8bbe71acd1e73130cb82b06dcc2f829e0e4b3f4a67256228294a1c310848ce08", func := "loop.example/g01100/laws.FnExactSubstitutionUnit", spec := "fnExactSubstitutionUnit", apart := false }
def FnExactSubstitutionUnitSaid : Prop := fnExactSubstitutionUnitRow.holds Try.pinned (OpenSpec.ofChange fnExactSubstitutionUnitSpec)

/-- ITS FALSE NEIGHBOUR: 'it returns false'. Refute it at one input. -/
def fnExactSubstitutionUnitWrong : ChangeSpec := { name := "fnExactSubstitutionUnit", fn := fun _ => fun
  | [] => { results := [.lit (.bool false)], args := [] }
  | _ => none }
def FnExactSubstitutionUnitWrongFalsely : Prop := fnExactSubstitutionUnitRow.holds Try.pinned (OpenSpec.ofChange fnExactSubstitutionUnitWrong)

/-- 'laws.FnExactStepSums': WHATEVER THE INPUT: true; the input reads as it did. -/
def fnExactStepSumsSpec : ChangeSpec := { name := "fnExactStepSums", fn := fun _ => fun
  | [d] => { results := [.lit (.bool true)], args := [d] }
  | _ => none }
def fnExactStepSumsRow : OpenClaim := { program := "ytaielpgijggjgaa", sum := "8bbe71acd1e73130cb82b06dcc2f829e0e4b3f4a67256228294a1c310848ce08", func := "loop.example/g01100/laws.FnExactStepSums", spec := "fnExactStepSums", unfollowed := true, recurses := true, apart := false }
def FnExactStepSumsSaid : Prop := fnExactStepSumsRow.holds Try.pinned (OpenSpec.ofChange fnExactStepSumsSpec)

/-- ITS FALSE NEIGHBOUR: 'it returns false'. Refute it at one input. -/
def fnExactStepSumsWrong : ChangeSpec := { name := "fnExactStepSums", fn := fun _ => fun
  | [d] => { results := [.lit (.bool false)], args := [d] }
  | _ => none }
def FnExactStepSumsWrongFalsely : Prop := fnExactStepSumsRow.holds Try.pinned (OpenSpec.ofChange fnExactStepSumsWrong)

/-- 'laws.FnExactIsSymmetric': WHATEVER THE INPUT: true; the input reads as it did. -/
def fnExactIsSymmetricSpec : ChangeSpec := { name := "fnExactIsSymmetric", fn := fun _ => fun
  | [d] => { results := [.lit (.bool true)], args := [d] }
  | _ => none }
def fnExactIsSymmetricRow : OpenClaim := { program := "ytaielpgijggjgaa", sum := "8bbe71acd1e73130cb82b06dcc2f829e0e4b3f4a67256228294a1c310848ce08", func := "loop.example/g01100/laws.FnExactIsSymmetric", spec := "fnExactIsSymmetric", unfollowed := true, recurses := true, apart := false }
def FnExactIsSymmetricSaid : Prop := fnExactIsSymmetricRow.holds Try.pinned (OpenSpec.ofChange fnExactIsSymmetricSpec)

/-- ITS FALSE NEIGHBOUR: 'it returns false'. Refute it at one input. -/
def fnExactIsSymmetricWrong : ChangeSpec := { name := "fnExactIsSymmetric", fn := fun _ => fun
  | [d] => { results := [.lit (.bool false)], args := [d] }
  | _ => none }
def FnExactIsSymmetricWrongFalsely : Prop := fnExactIsSymmetricRow.holds Try.pinned (OpenSpec.ofChange fnExactIsSymmetricWrong)

/-- 'laws.FnExactIsSymplectic': WHATEVER THE INPUT: true; the input reads as it did. -/
def fnExactIsSymplecticSpec : ChangeSpec := { name := "fnExactIsSymplectic", fn := fun _ => fun
  | [d] => { results := [.lit (.bool true)], args := [d] }
  | _ => none }
def fnExactIsSymplecticRow : OpenClaim := { program := "ytaielpgijggjgaa", sum := "8bbe71acd1e73130cb82b06dcc2f829e0e4b3f4a67256228294a1c310848ce08", func := "loop.example/g01100/laws.FnExactIsSymplectic", spec := "fnExactIsSymplectic", unfollowed := true, recurses := true, apart := false }
def FnExactIsSymplecticSaid : Prop := fnExactIsSymplecticRow.holds Try.pinned (OpenSpec.ofChange fnExactIsSymplecticSpec)

/-- ITS FALSE NEIGHBOUR: 'it returns false'. Refute it at one input. -/
def fnExactIsSymplecticWrong : ChangeSpec := { name := "fnExactIsSymplectic", fn := fun _ => fun
  | [d] => { results := [.lit (.bool false)], args := [d] }
  | _ => none }
def FnExactIsSymplecticWrongFalsely : Prop := fnExactIsSymplecticRow.holds Try.pinned (OpenSpec.ofChange fnExactIsSymplecticWrong)

/-- 'laws.FnExactJumpSteps': WHATEVER THE INPUT: true; the input reads as it did. -/
def fnExactJumpStepsSpec : ChangeSpec := { name := "fnExactJumpSteps", fn := fun _ => fun
  | [d] => { results := [.lit (.bool true)], args := [d] }
  | _ => none }
def fnExactJumpStepsRow : OpenClaim := { program := "ytaielpgijggjgaa", sum := "8bbe71acd1e73130cb82b06dcc2f829e0e4b3f4a67256228294a1c310848ce08", func := "loop.example/g01100/laws.FnExactJumpSteps", spec := "fnExactJumpSteps", apart := false }
def FnExactJumpStepsSaid : Prop := fnExactJumpStepsRow.holds Try.pinned (OpenSpec.ofChange fnExactJumpStepsSpec)

/-- ITS FALSE NEIGHBOUR: 'it returns false'. Refute it at one input. -/
def fnExactJumpStepsWrong : ChangeSpec := { name := "fnExactJumpSteps", fn := fun _ => fun
  | [d] => { results := [.lit (.bool false)], args := [d] }
  | _ => none }
def FnExactJumpStepsWrongFalsely : Prop := fnExactJumpStepsRow.holds Try.pinned (OpenSpec.ofChange fnExactJumpStepsWrong)

/-- 'laws.FnExactLongJumpSteps': WHATEVER THE INPUT: true; the input reads as it did. -/
def fnExactLongJumpStepsSpec : ChangeSpec := { name := "fnExactLongJumpSteps", fn := fun _ => fun
  | [d] => { results := [.lit (.bool true)], args := [d] }
  | _ => none }
def fnExactLongJumpStepsRow : OpenClaim := { program := "ytaielpgijggjgaa", sum := "8bbe71acd1e73130cb82b06dcc2f829e0e4b3f4a67256228294a1c310848ce08", func := "loop.example/g01100/laws.FnExactLongJumpSteps", spec := "fnExactLongJumpSteps", apart := false }
def FnExactLongJumpStepsSaid : Prop := fnExactLongJumpStepsRow.holds Try.pinned (OpenSpec.ofChange fnExactLongJumpStepsSpec)

/-- ITS FALSE NEIGHBOUR: 'it returns false'. Refute it at one input. -/
def fnExactLongJumpStepsWrong : ChangeSpec := { name := "fnExactLongJumpSteps", fn := fun _ => fun
  | [d] => { results := [.lit (.bool false)], args := [d] }
  | _ => none }
def FnExactLongJumpStepsWrongFalsely : Prop := fnExactLongJumpStepsRow.holds Try.pinned (OpenSpec.ofChange fnExactLongJumpStepsWrong)

/- THE SECOND FORM. 'bulk': how many values and letters a reading holds, each counted each time it is reached (what is shared counts as often as it is met; a slice's spare places count too). A statement '..UptoSaid' is the law's where the arguments, and the package variables that the reading takes, are together of bulk at most 1048576: NARROWER than '..Said'. Prove '..Said' where nothing that the law and all that it calls make is longer than what came in: it says more and counts as full. Else prove '..UptoSaid'. A law counts once. -/
mutual
def uptoBulk {H : Type} : DataW H → Nat
  | .lit (.string bytes) => bytes.length + 1
  | .lit _ => 1
  | .nil => 1
  | .ptr d => uptoBulk d + 1
  | .slice elems spare => uptoBulkAll elems + uptoBulkAll spare + 1
  | .agg parts => uptoBulkAll parts + 1
  | .iface _ d => uptoBulk d + 1
  | .map entries => uptoBulkEntries entries + 1
  | .held _ => 1
def uptoBulkAll {H : Type} : List (DataW H) → Nat
  | [] => 0
  | d :: r => uptoBulk d + uptoBulkAll r
def uptoBulkEntries {H : Type} : List (Lit × DataW H) → Nat
  | [] => 0
  | x :: r => uptoBulkEntry x + uptoBulkEntries r
def uptoBulkEntry {H : Type} : Lit × DataW H → Nat
  | (.string bytes, d) => bytes.length + uptoBulk d + 1
  | (_, d) => uptoBulk d + 1
 end
def uptoSmall : (H : Type) → List (DataW H) → Bool := fun _ ds => decide (uptoBulkAll ds ≤ 1048576)
def OpenSpec.upto (s : _root_.Go.ChangeSpec) : _root_.Go.OpenSpec := { _root_.Go.OpenSpec.ofChange s with cond := some uptoSmall }

/-- 'laws.FnExactSubstitutionUnit', WHERE WHAT IT READS IS OF BULK AT MOST 1048576: true; the input reads as it did. -/
def fnExactSubstitutionUnitUptoRow : OpenClaim := { program := "ytaielpgijggjgaa", sum := "8bbe71acd1e73130cb82b06dcc2f829e0e4b3f4a67256228294a1c310848ce08", func := "loop.example/g01100/laws.FnExactSubstitutionUnit", spec := "fnExactSubstitutionUnit", apart := false, narrowed := true }
def FnExactSubstitutionUnitUptoSaid : Prop := fnExactSubstitutionUnitUptoRow.holds Try.pinned (OpenSpec.upto fnExactSubstitutionUnitSpec)

/-- 'laws.FnExactStepSums', WHERE WHAT IT READS IS OF BULK AT MOST 1048576: true; the input reads as it did. -/
def fnExactStepSumsUptoRow : OpenClaim := { program := "ytaielpgijggjgaa", sum := "8bbe71acd1e73130cb82b06dcc2f829e0e4b3f4a67256228294a1c310848ce08", func := "loop.example/g01100/laws.FnExactStepSums", spec := "fnExactStepSums", unfollowed := true, recurses := true, apart := false, narrowed := true }
def FnExactStepSumsUptoSaid : Prop := fnExactStepSumsUptoRow.holds Try.pinned (OpenSpec.upto fnExactStepSumsSpec)

/-- 'laws.FnExactIsSymmetric', WHERE WHAT IT READS IS OF BULK AT MOST 1048576: true; the input reads as it did. -/
def fnExactIsSymmetricUptoRow : OpenClaim := { program := "ytaielpgijggjgaa", sum := "8bbe71acd1e73130cb82b06dcc2f829e0e4b3f4a67256228294a1c310848ce08", func := "loop.example/g01100/laws.FnExactIsSymmetric", spec := "fnExactIsSymmetric", unfollowed := true, recurses := true, apart := false, narrowed := true }
def FnExactIsSymmetricUptoSaid : Prop := fnExactIsSymmetricUptoRow.holds Try.pinned (OpenSpec.upto fnExactIsSymmetricSpec)

/-- 'laws.FnExactIsSymplectic', WHERE WHAT IT READS IS OF BULK AT MOST 1048576: true; the input reads as it did. -/
def fnExactIsSymplecticUptoRow : OpenClaim := { program := "ytaielpgijggjgaa", sum := "8bbe71acd1e73130cb82b06dcc2f829e0e4b3f4a67256228294a1c310848ce08", func := "loop.example/g01100/laws.FnExactIsSymplectic", spec := "fnExactIsSymplectic", unfollowed := true, recurses := true, apart := false, narrowed := true }
def FnExactIsSymplecticUptoSaid : Prop := fnExactIsSymplecticUptoRow.holds Try.pinned (OpenSpec.upto fnExactIsSymplecticSpec)

/-- 'laws.FnExactJumpSteps', WHERE WHAT IT READS IS OF BULK AT MOST 1048576: true; the input reads as it did. -/
def fnExactJumpStepsUptoRow : OpenClaim := { program := "ytaielpgijggjgaa", sum := "8bbe71acd1e73130cb82b06dcc2f829e0e4b3f4a67256228294a1c310848ce08", func := "loop.example/g01100/laws.FnExactJumpSteps", spec := "fnExactJumpSteps", apart := false, narrowed := true }
def FnExactJumpStepsUptoSaid : Prop := fnExactJumpStepsUptoRow.holds Try.pinned (OpenSpec.upto fnExactJumpStepsSpec)

/-- 'laws.FnExactLongJumpSteps', WHERE WHAT IT READS IS OF BULK AT MOST 1048576: true; the input reads as it did. -/
def fnExactLongJumpStepsUptoRow : OpenClaim := { program := "ytaielpgijggjgaa", sum := "8bbe71acd1e73130cb82b06dcc2f829e0e4b3f4a67256228294a1c310848ce08", func := "loop.example/g01100/laws.FnExactLongJumpSteps", spec := "fnExactLongJumpSteps", apart := false, narrowed := true }
def FnExactLongJumpStepsUptoSaid : Prop := fnExactLongJumpStepsUptoRow.holds Try.pinned (OpenSpec.upto fnExactLongJumpStepsSpec)

end Rows
end Go.Proofs.Ytaielpgijggjgaa
