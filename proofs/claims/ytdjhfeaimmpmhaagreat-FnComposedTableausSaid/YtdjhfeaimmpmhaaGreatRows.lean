/-
  No cell of these rows narrows 'for every input' (looked for: loops, veiled, ifaces, maps, wideKeys, modest, calm, conditions, laid).
  DERIVED. THE GIVEN ROWS OF THIS SEAT. 6 by the template 'for every input the law returns true; each argument reads behind the call as it read before'; 0 by the template 'total and deterministic' (their statements: YtdjhfeaimmpmhaaGreatTotals.lean).
  GIVEN WITH THE SEED: the statements are not yours to turn. If you find one false, say at which input.
  Laid BY PROGRAM, IN A SANDBOX (cutbox-rows.mjs): the forced cells as the released guide's own fill.sh prints them over the translation 45c56816665addf4… (all of the seat's roots in one cut). By AI agents, Wed Nov 11 2026. No macro, syntax, notation, axiom, sorry.
-/
import Derived.Test.YtdjhfeaimmpmhaaGreatChecked
import GoSem.Claim
import GoSem.ClaimJoined
import GoSem.ClaimMapViews
import Derived.JoinedTies
import Derived.KernelRfl
namespace Go.Proofs.YtdjhfeaimmpmhaaGreat
/- THE CELL 'sum', in the pinned program and in every row, IS THE sha256 OF THE DUMP (.gsa) THAT YtdjhfeaimmpmhaaGreatProg.lean LOADS. Nothing in Lean hashes anything: it is a label: what it is worth is what the hold of that sum in a sandbox is worth. -/
noncomputable def Tryz.pinned : Pinned := { name := "ytdjhfeaimmpmhaagreat", sum := "45c56816665addf4b41efef46e9152552d05ae0b0935ca817be5bfd213878844", checked := Tryz.checked }
namespace Rows
def none {H : Type} : Left H := { results := [], args := [] }

/-- 'laws.FnHamiltonianMaps': WHATEVER THE INPUT: true; the input reads as it did. -/
def fnHamiltonianMapsSpec : ChangeSpec := { name := "fnHamiltonianMaps", fn := fun _ => fun
  | [d] => { results := [.lit (.bool true)], args := [d] }
  | _ => none }
def fnHamiltonianMapsRow : OpenClaim := { program := "ytdjhfeaimmpmhaagreat", sum := "45c56816665addf4b41efef46e9152552d05ae0b0935ca817be5bfd213878844", func := "loop.example/g01100/laws.FnHamiltonianMaps", spec := "fnHamiltonianMaps", unfollowed := true, recurses := true, apart := false }
def FnHamiltonianMapsSaid : Prop := fnHamiltonianMapsRow.holds Tryz.pinned (OpenSpec.ofChange fnHamiltonianMapsSpec)

/-- ITS FALSE NEIGHBOUR: 'it returns false'. Refute it at one input. -/
def fnHamiltonianMapsWrong : ChangeSpec := { name := "fnHamiltonianMaps", fn := fun _ => fun
  | [d] => { results := [.lit (.bool false)], args := [d] }
  | _ => none }
def FnHamiltonianMapsWrongFalsely : Prop := fnHamiltonianMapsRow.holds Tryz.pinned (OpenSpec.ofChange fnHamiltonianMapsWrong)

/-- 'laws.FnAdjointMaps': WHATEVER THE INPUT: true; the input reads as it did. -/
def fnAdjointMapsSpec : ChangeSpec := { name := "fnAdjointMaps", fn := fun _ => fun
  | [d] => { results := [.lit (.bool true)], args := [d] }
  | _ => none }
def fnAdjointMapsRow : OpenClaim := { program := "ytdjhfeaimmpmhaagreat", sum := "45c56816665addf4b41efef46e9152552d05ae0b0935ca817be5bfd213878844", func := "loop.example/g01100/laws.FnAdjointMaps", spec := "fnAdjointMaps", unfollowed := true, recurses := true, apart := false }
def FnAdjointMapsSaid : Prop := fnAdjointMapsRow.holds Tryz.pinned (OpenSpec.ofChange fnAdjointMapsSpec)

/-- ITS FALSE NEIGHBOUR: 'it returns false'. Refute it at one input. -/
def fnAdjointMapsWrong : ChangeSpec := { name := "fnAdjointMaps", fn := fun _ => fun
  | [d] => { results := [.lit (.bool false)], args := [d] }
  | _ => none }
def FnAdjointMapsWrongFalsely : Prop := fnAdjointMapsRow.holds Tryz.pinned (OpenSpec.ofChange fnAdjointMapsWrong)

/-- 'laws.FnExactSymplecticTo': WHATEVER THE INPUT: true; the input reads as it did. -/
def fnExactSymplecticToSpec : ChangeSpec := { name := "fnExactSymplecticTo", fn := fun _ => fun
  | [d] => { results := [.lit (.bool true)], args := [d] }
  | _ => none }
def fnExactSymplecticToRow : OpenClaim := { program := "ytdjhfeaimmpmhaagreat", sum := "45c56816665addf4b41efef46e9152552d05ae0b0935ca817be5bfd213878844", func := "loop.example/g01100/laws.FnExactSymplecticTo", spec := "fnExactSymplecticTo", unfollowed := true, recurses := true, apart := false }
def FnExactSymplecticToSaid : Prop := fnExactSymplecticToRow.holds Tryz.pinned (OpenSpec.ofChange fnExactSymplecticToSpec)

/-- ITS FALSE NEIGHBOUR: 'it returns false'. Refute it at one input. -/
def fnExactSymplecticToWrong : ChangeSpec := { name := "fnExactSymplecticTo", fn := fun _ => fun
  | [d] => { results := [.lit (.bool false)], args := [d] }
  | _ => none }
def FnExactSymplecticToWrongFalsely : Prop := fnExactSymplecticToRow.holds Tryz.pinned (OpenSpec.ofChange fnExactSymplecticToWrong)

/-- 'laws.FnExactHamiltonianTo': WHATEVER THE INPUT: true; the input reads as it did. -/
def fnExactHamiltonianToSpec : ChangeSpec := { name := "fnExactHamiltonianTo", fn := fun _ => fun
  | [d] => { results := [.lit (.bool true)], args := [d] }
  | _ => none }
def fnExactHamiltonianToRow : OpenClaim := { program := "ytdjhfeaimmpmhaagreat", sum := "45c56816665addf4b41efef46e9152552d05ae0b0935ca817be5bfd213878844", func := "loop.example/g01100/laws.FnExactHamiltonianTo", spec := "fnExactHamiltonianTo", unfollowed := true, recurses := true, apart := false }
def FnExactHamiltonianToSaid : Prop := fnExactHamiltonianToRow.holds Tryz.pinned (OpenSpec.ofChange fnExactHamiltonianToSpec)

/-- ITS FALSE NEIGHBOUR: 'it returns false'. Refute it at one input. -/
def fnExactHamiltonianToWrong : ChangeSpec := { name := "fnExactHamiltonianTo", fn := fun _ => fun
  | [d] => { results := [.lit (.bool false)], args := [d] }
  | _ => none }
def FnExactHamiltonianToWrongFalsely : Prop := fnExactHamiltonianToRow.holds Tryz.pinned (OpenSpec.ofChange fnExactHamiltonianToWrong)

/-- 'laws.FnExactFirstError': WHATEVER THE INPUT: true; the input reads as it did. -/
def fnExactFirstErrorSpec : ChangeSpec := { name := "fnExactFirstError", fn := fun _ => fun
  | [d] => { results := [.lit (.bool true)], args := [d] }
  | _ => none }
def fnExactFirstErrorRow : OpenClaim := { program := "ytdjhfeaimmpmhaagreat", sum := "45c56816665addf4b41efef46e9152552d05ae0b0935ca817be5bfd213878844", func := "loop.example/g01100/laws.FnExactFirstError", spec := "fnExactFirstError", unfollowed := true, recurses := true, apart := false }
def FnExactFirstErrorSaid : Prop := fnExactFirstErrorRow.holds Tryz.pinned (OpenSpec.ofChange fnExactFirstErrorSpec)

/-- ITS FALSE NEIGHBOUR: 'it returns false'. Refute it at one input. -/
def fnExactFirstErrorWrong : ChangeSpec := { name := "fnExactFirstError", fn := fun _ => fun
  | [d] => { results := [.lit (.bool false)], args := [d] }
  | _ => none }
def FnExactFirstErrorWrongFalsely : Prop := fnExactFirstErrorRow.holds Tryz.pinned (OpenSpec.ofChange fnExactFirstErrorWrong)

/-- 'laws.FnComposedTableaus': WHATEVER THE INPUT: true; the input reads as it did. -/
def fnComposedTableausSpec : ChangeSpec := { name := "fnComposedTableaus", fn := fun _ => fun
  | [d] => { results := [.lit (.bool true)], args := [d] }
  | _ => none }
def fnComposedTableausRow : OpenClaim := { program := "ytdjhfeaimmpmhaagreat", sum := "45c56816665addf4b41efef46e9152552d05ae0b0935ca817be5bfd213878844", func := "loop.example/g01100/laws.FnComposedTableaus", spec := "fnComposedTableaus", unfollowed := true, recurses := true, apart := false }
def FnComposedTableausSaid : Prop := fnComposedTableausRow.holds Tryz.pinned (OpenSpec.ofChange fnComposedTableausSpec)

/-- ITS FALSE NEIGHBOUR: 'it returns false'. Refute it at one input. -/
def fnComposedTableausWrong : ChangeSpec := { name := "fnComposedTableaus", fn := fun _ => fun
  | [d] => { results := [.lit (.bool false)], args := [d] }
  | _ => none }
def FnComposedTableausWrongFalsely : Prop := fnComposedTableausRow.holds Tryz.pinned (OpenSpec.ofChange fnComposedTableausWrong)

/- THE SECOND FORM. 'bulk': how many values and letters a reading holds, each counted each time it is reached (what is shared counts as often as it is met; a slice's spare places count too). A statement '..UptoSaid' is the law's where the arguments, and the package variables that the reading takes, are together of bulk at most 1048576: NARROWER than '..Said'. Prove '..Said' where nothing that the law and all that it calls make is longer than what came in: it says more and counts as full. Else prove '..UptoSaid'. A law counts once. -/
mutual
def uptoBulk {H : Type} : DataW H → Nat
  | .lit (.string bytes) => bytes.length + 1
  | .lit _ => 1
  | .nil => 1
  | .ptr d => uptoBulk d + 1
  | .slice elems spare => uptoBulkAll elems + uptoBulkAll spare + 1
  | .agg parts => uptoBulkAll parts + 1
  | .iface _ d => uptoBulk d + 1
  | .map entries => uptoBulkEntries entries + 1
  | .held _ => 1
def uptoBulkAll {H : Type} : List (DataW H) → Nat
  | [] => 0
  | d :: r => uptoBulk d + uptoBulkAll r
def uptoBulkEntries {H : Type} : List (Lit × DataW H) → Nat
  | [] => 0
  | x :: r => uptoBulkEntry x + uptoBulkEntries r
def uptoBulkEntry {H : Type} : Lit × DataW H → Nat
  | (.string bytes, d) => bytes.length + uptoBulk d + 1
  | (_, d) => uptoBulk d + 1
 end
def uptoSmall : (H : Type) → List (DataW H) → Bool := fun _ ds => decide (uptoBulkAll ds ≤ 1048576)
def OpenSpec.upto (s : _root_.Go.ChangeSpec) : _root_.Go.OpenSpec := { _root_.Go.OpenSpec.ofChange s with cond := some uptoSmall }

/-- 'laws.FnHamiltonianMaps', WHERE WHAT IT READS IS OF BULK AT MOST 1048576: true; the input reads as it did. -/
def fnHamiltonianMapsUptoRow : OpenClaim := { program := "ytdjhfeaimmpmhaagreat", sum := "45c56816665addf4b41efef46e9152552d05ae0b0935ca817be5bfd213878844", func := "loop.example/g01100/laws.FnHamiltonianMaps", spec := "fnHamiltonianMaps", unfollowed := true, recurses := true, apart := false, narrowed := true }
def FnHamiltonianMapsUptoSaid : Prop := fnHamiltonianMapsUptoRow.holds Tryz.pinned (OpenSpec.upto fnHamiltonianMapsSpec)

/-- 'laws.FnAdjointMaps', WHERE WHAT IT READS IS OF BULK AT MOST 1048576: true; the input reads as it did. -/
def fnAdjointMapsUptoRow : OpenClaim := { program := "ytdjhfeaimmpmhaagreat", sum := "45c56816665addf4b41efef46e9152552d05ae0b0935ca817be5bfd213878844", func := "loop.example/g01100/laws.FnAdjointMaps", spec := "fnAdjointMaps", unfollowed := true, recurses := true, apart := false, narrowed := true }
def FnAdjointMapsUptoSaid : Prop := fnAdjointMapsUptoRow.holds Tryz.pinned (OpenSpec.upto fnAdjointMapsSpec)

/-- 'laws.FnExactSymplecticTo', WHERE WHAT IT READS IS OF BULK AT MOST 1048576: true; the input reads as it did. -/
def fnExactSymplecticToUptoRow : OpenClaim := { program := "ytdjhfeaimmpmhaagreat", sum := "45c56816665addf4b41efef46e9152552d05ae0b0935ca817be5bfd213878844", func := "loop.example/g01100/laws.FnExactSymplecticTo", spec := "fnExactSymplecticTo", unfollowed := true, recurses := true, apart := false, narrowed := true }
def FnExactSymplecticToUptoSaid : Prop := fnExactSymplecticToUptoRow.holds Tryz.pinned (OpenSpec.upto fnExactSymplecticToSpec)

/-- 'laws.FnExactHamiltonianTo', WHERE WHAT IT READS IS OF BULK AT MOST 1048576: true; the input reads as it did. -/
def fnExactHamiltonianToUptoRow : OpenClaim := { program := "ytdjhfeaimmpmhaagreat", sum := "45c56816665addf4b41efef46e9152552d05ae0b0935ca817be5bfd213878844", func := "loop.example/g01100/laws.FnExactHamiltonianTo", spec := "fnExactHamiltonianTo", unfollowed := true, recurses := true, apart := false, narrowed := true }
def FnExactHamiltonianToUptoSaid : Prop := fnExactHamiltonianToUptoRow.holds Tryz.pinned (OpenSpec.upto fnExactHamiltonianToSpec)

/-- 'laws.FnExactFirstError', WHERE WHAT IT READS IS OF BULK AT MOST 1048576: true; the input reads as it did. -/
def fnExactFirstErrorUptoRow : OpenClaim := { program := "ytdjhfeaimmpmhaagreat", sum := "45c56816665addf4b41efef46e9152552d05ae0b0935ca817be5bfd213878844", func := "loop.example/g01100/laws.FnExactFirstError", spec := "fnExactFirstError", unfollowed := true, recurses := true, apart := false, narrowed := true }
def FnExactFirstErrorUptoSaid : Prop := fnExactFirstErrorUptoRow.holds Tryz.pinned (OpenSpec.upto fnExactFirstErrorSpec)

/-- 'laws.FnComposedTableaus', WHERE WHAT IT READS IS OF BULK AT MOST 1048576: true; the input reads as it did. -/
def fnComposedTableausUptoRow : OpenClaim := { program := "ytdjhfeaimmpmhaagreat", sum := "45c56816665addf4b41efef46e9152552d05ae0b0935ca817be5bfd213878844", func := "loop.example/g01100/laws.FnComposedTableaus", spec := "fnComposedTableaus", unfollowed := true, recurses := true, apart := false, narrowed := true }
def FnComposedTableausUptoSaid : Prop := fnComposedTableausUptoRow.holds Tryz.pinned (OpenSpec.upto fnComposedTableausSpec)

end Rows
end Go.Proofs.YtdjhfeaimmpmhaaGreat
