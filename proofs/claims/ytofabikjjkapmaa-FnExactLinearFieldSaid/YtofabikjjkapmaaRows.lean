/-
  No cell of these rows narrows 'for every input' (looked for: loops, veiled, ifaces, maps, wideKeys, modest, calm, conditions, laid).
  DERIVED. THE GIVEN ROWS OF THIS SEAT. 2 by the template 'for every input the law returns true; each argument reads behind the call as it read before'; 0 by the template 'total and deterministic' (their statements: YtofabikjjkapmaaTotals.lean).
  GIVEN WITH THE SEED: the statements are not yours to turn. If you find one false, say at which input.
  Laid BY PROGRAM, IN A SANDBOX (cutbox-rows.mjs): the forced cells as the released guide's own fill.sh prints them over the translation b66679d2d936164b… (all of the seat's roots in one cut). By AI agents, Wed Nov 11 2026. No macro, syntax, notation, axiom, sorry.
-/
import Derived.Test.YtofabikjjkapmaaChecked
import GoSem.Claim
import GoSem.ClaimJoined
import GoSem.ClaimMapViews
import Derived.JoinedTies
import Derived.KernelRfl
namespace Go.Proofs.Ytofabikjjkapmaa
/- THE CELL 'sum', in the pinned program and in every row, IS THE sha256 OF THE DUMP (.gsa) THAT YtofabikjjkapmaaProg.lean LOADS. Nothing in Lean hashes anything: it is a label: what it is worth is what the hold of that sum in a sandbox is worth. -/
noncomputable def Try.pinned : Pinned := { name := "ytofabikjjkapmaa", sum := "b66679d2d936164be29e811a41693931a4bbda78ab8954b7c7e07aa961af3e0f", checked := Try.checked }
namespace Rows
def none {H : Type} : Left H := { results := [], args := [] }

/-- 'laws.FnExactLinearField': WHATEVER THE INPUT: true; the input reads as it did. -/
def fnExactLinearFieldSpec : ChangeSpec := { name := "fnExactLinearField", fn := fun _ => fun
  | [d] => { results := [.lit (.bool true)], args := [d] }
  | _ => none }
def fnExactLinearFieldRow : OpenClaim := { program := "ytofabikjjkapmaa", sum := "b66679d2d936164be29e811a41693931a4bbda78ab8954b7c7e07aa961af3e0f", func := "loop.example/g01100/laws.FnExactLinearField", spec := "fnExactLinearField", unfollowed := true, recurses := true, plainKeys := false, apart := false }
def FnExactLinearFieldSaid : Prop := fnExactLinearFieldRow.holds Try.pinned (OpenSpec.ofChange fnExactLinearFieldSpec)

/-- ITS FALSE NEIGHBOUR: 'it returns false'. Refute it at one input. -/
def fnExactLinearFieldWrong : ChangeSpec := { name := "fnExactLinearField", fn := fun _ => fun
  | [d] => { results := [.lit (.bool false)], args := [d] }
  | _ => none }
def FnExactLinearFieldWrongFalsely : Prop := fnExactLinearFieldRow.holds Try.pinned (OpenSpec.ofChange fnExactLinearFieldWrong)

/-- 'laws.FnExactPartitionsOf': WHATEVER THE INPUT: true; the input reads as it did. -/
def fnExactPartitionsOfSpec : ChangeSpec := { name := "fnExactPartitionsOf", fn := fun _ => fun
  | [d] => { results := [.lit (.bool true)], args := [d] }
  | _ => none }
def fnExactPartitionsOfRow : OpenClaim := { program := "ytofabikjjkapmaa", sum := "b66679d2d936164be29e811a41693931a4bbda78ab8954b7c7e07aa961af3e0f", func := "loop.example/g01100/laws.FnExactPartitionsOf", spec := "fnExactPartitionsOf", unfollowed := true, recurses := true, plainKeys := false, apart := false }
def FnExactPartitionsOfSaid : Prop := fnExactPartitionsOfRow.holds Try.pinned (OpenSpec.ofChange fnExactPartitionsOfSpec)

/-- ITS FALSE NEIGHBOUR: 'it returns false'. Refute it at one input. -/
def fnExactPartitionsOfWrong : ChangeSpec := { name := "fnExactPartitionsOf", fn := fun _ => fun
  | [d] => { results := [.lit (.bool false)], args := [d] }
  | _ => none }
def FnExactPartitionsOfWrongFalsely : Prop := fnExactPartitionsOfRow.holds Try.pinned (OpenSpec.ofChange fnExactPartitionsOfWrong)

/- THE SECOND FORM. 'bulk': how many values and letters a reading holds, each counted each time it is reached (what is shared counts as often as it is met; a slice's spare places count too). A statement '..UptoSaid' is the law's where the arguments, and the package variables that the reading takes, are together of bulk at most 1048576: NARROWER than '..Said'. Prove '..Said' where nothing that the law and all that it calls make is longer than what came in: it says more and counts as full. Else prove '..UptoSaid'. A law counts once. -/
mutual
def uptoBulk {H : Type} : DataW H → Nat
  | .lit (.string bytes) => bytes.length + 1
  | .lit _ => 1
  | .nil => 1
  | .ptr d => uptoBulk d + 1
  | .slice elems spare => uptoBulkAll elems + uptoBulkAll spare + 1
  | .agg parts => uptoBulkAll parts + 1
  | .iface _ d => uptoBulk d + 1
  | .map entries => uptoBulkEntries entries + 1
  | .held _ => 1
def uptoBulkAll {H : Type} : List (DataW H) → Nat
  | [] => 0
  | d :: r => uptoBulk d + uptoBulkAll r
def uptoBulkEntries {H : Type} : List (Lit × DataW H) → Nat
  | [] => 0
  | x :: r => uptoBulkEntry x + uptoBulkEntries r
def uptoBulkEntry {H : Type} : Lit × DataW H → Nat
  | (.string bytes, d) => bytes.length + uptoBulk d + 1
  | (_, d) => uptoBulk d + 1
 end
def uptoSmall : (H : Type) → List (DataW H) → Bool := fun _ ds => decide (uptoBulkAll ds ≤ 1048576)
def OpenSpec.upto (s : _root_.Go.ChangeSpec) : _root_.Go.OpenSpec := { _root_.Go.OpenSpec.ofChange s with cond := some uptoSmall }

/-- 'laws.FnExactLinearField', WHERE WHAT IT READS IS OF BULK AT MOST 1048576: true; the input reads as it did. -/
def fnExactLinearFieldUptoRow : OpenClaim := { program := "ytofabikjjkapmaa", sum := "b66679d2d936164be29e811a41693931a4bbda78ab8954b7c7e07aa961af3e0f", func := "loop.example/g01100/laws.FnExactLinearField", spec := "fnExactLinearField", unfollowed := true, recurses := true, plainKeys := false, apart := false, narrowed := true }
def FnExactLinearFieldUptoSaid : Prop := fnExactLinearFieldUptoRow.holds Try.pinned (OpenSpec.upto fnExactLinearFieldSpec)

/-- 'laws.FnExactPartitionsOf', WHERE WHAT IT READS IS OF BULK AT MOST 1048576: true; the input reads as it did. -/
def fnExactPartitionsOfUptoRow : OpenClaim := { program := "ytofabikjjkapmaa", sum := "b66679d2d936164be29e811a41693931a4bbda78ab8954b7c7e07aa961af3e0f", func := "loop.example/g01100/laws.FnExactPartitionsOf", spec := "fnExactPartitionsOf", unfollowed := true, recurses := true, plainKeys := false, apart := false, narrowed := true }
def FnExactPartitionsOfUptoSaid : Prop := fnExactPartitionsOfUptoRow.holds Try.pinned (OpenSpec.upto fnExactPartitionsOfSpec)

end Rows
end Go.Proofs.Ytofabikjjkapmaa
