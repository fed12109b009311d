/-
  No cell of these rows narrows 'for every input' (looked for: loops, veiled, ifaces, maps, wideKeys, modest, calm, conditions, laid).
  DERIVED. THE GIVEN ROWS OF THIS SEAT. 3 by the template 'for every input the law returns true; each argument reads behind the call as it read before'; 0 by the template 'total and deterministic' (their statements: YtofabikjjkapmaaGreatTotals.lean).
  GIVEN WITH THE SEED: the statements are not yours to turn. If you find one false, say at which input.
  Laid BY PROGRAM, IN A SANDBOX (cutbox-rows.mjs): the forced cells as the released guide's own fill.sh prints them over the translation fde9aae8b6ccdbd4… (all of the seat's roots in one cut). By AI agents, Wed Nov 11 2026. No macro, syntax, notation, axiom, sorry.
-/
import Derived.Test.YtofabikjjkapmaaGreatChecked
import GoSem.Claim
import GoSem.ClaimJoined
import GoSem.ClaimMapViews
import Derived.JoinedTies
import Derived.KernelRfl
namespace Go.Proofs.YtofabikjjkapmaaGreat
/- THE CELL 'sum', in the pinned program and in every row, IS THE sha256 OF THE DUMP (.gsa) THAT YtofabikjjkapmaaGreatProg.lean LOADS. Nothing in Lean hashes anything: it is a label: what it is worth is what the hold of that sum in a sandbox is worth. -/
noncomputable def Tryz.pinned : Pinned := { name := "ytofabikjjkapmaagreat", sum := "fde9aae8b6ccdbd42e99f434a4547e45df0e117a6519e9fcf035147f5ac66ac3", checked := Tryz.checked }
namespace Rows
def none {H : Type} : Left H := { results := [], args := [] }

/-- 'laws.FnSymplecticMaps': WHATEVER THE INPUT: true; the input reads as it did. -/
def fnSymplecticMapsSpec : ChangeSpec := { name := "fnSymplecticMaps", fn := fun _ => fun
  | [d] => { results := [.lit (.bool true)], args := [d] }
  | _ => none }
def fnSymplecticMapsRow : OpenClaim := { program := "ytofabikjjkapmaagreat", sum := "fde9aae8b6ccdbd42e99f434a4547e45df0e117a6519e9fcf035147f5ac66ac3", func := "loop.example/g01100/laws.FnSymplecticMaps", spec := "fnSymplecticMaps", unfollowed := true, recurses := true, apart := false }
def FnSymplecticMapsSaid : Prop := fnSymplecticMapsRow.holds Tryz.pinned (OpenSpec.ofChange fnSymplecticMapsSpec)

/-- ITS FALSE NEIGHBOUR: 'it returns false'. Refute it at one input. -/
def fnSymplecticMapsWrong : ChangeSpec := { name := "fnSymplecticMaps", fn := fun _ => fun
  | [d] => { results := [.lit (.bool false)], args := [d] }
  | _ => none }
def FnSymplecticMapsWrongFalsely : Prop := fnSymplecticMapsRow.holds Tryz.pinned (OpenSpec.ofChange fnSymplecticMapsWrong)

/-- 'laws.FnCollocations': WHATEVER THE INPUT: true; the input reads as it did. -/
def fnCollocationsSpec : ChangeSpec := { name := "fnCollocations", fn := fun _ => fun
  | [d] => { results := [.lit (.bool true)], args := [d] }
  | _ => none }
def fnCollocationsRow : OpenClaim := { program := "ytofabikjjkapmaagreat", sum := "fde9aae8b6ccdbd42e99f434a4547e45df0e117a6519e9fcf035147f5ac66ac3", func := "loop.example/g01100/laws.FnCollocations", spec := "fnCollocations", unfollowed := true, recurses := true, apart := false }
def FnCollocationsSaid : Prop := fnCollocationsRow.holds Tryz.pinned (OpenSpec.ofChange fnCollocationsSpec)

/-- ITS FALSE NEIGHBOUR: 'it returns false'. Refute it at one input. -/
def fnCollocationsWrong : ChangeSpec := { name := "fnCollocations", fn := fun _ => fun
  | [d] => { results := [.lit (.bool false)], args := [d] }
  | _ => none }
def FnCollocationsWrongFalsely : Prop := fnCollocationsRow.holds Tryz.pinned (OpenSpec.ofChange fnCollocationsWrong)

/-- 'laws.FnSymplecticTableaus': WHATEVER THE INPUT: true; the input reads as it did. -/
def fnSymplecticTableausSpec : ChangeSpec := { name := "fnSymplecticTableaus", fn := fun _ => fun
  | [d] => { results := [.lit (.bool true)], args := [d] }
  | _ => none }
def fnSymplecticTableausRow : OpenClaim := { program := "ytofabikjjkapmaagreat", sum := "fde9aae8b6ccdbd42e99f434a4547e45df0e117a6519e9fcf035147f5ac66ac3", func := "loop.example/g01100/laws.FnSymplecticTableaus", spec := "fnSymplecticTableaus", unfollowed := true, recurses := true, apart := false }
def FnSymplecticTableausSaid : Prop := fnSymplecticTableausRow.holds Tryz.pinned (OpenSpec.ofChange fnSymplecticTableausSpec)

/-- ITS FALSE NEIGHBOUR: 'it returns false'. Refute it at one input. -/
def fnSymplecticTableausWrong : ChangeSpec := { name := "fnSymplecticTableaus", fn := fun _ => fun
  | [d] => { results := [.lit (.bool false)], args := [d] }
  | _ => none }
def FnSymplecticTableausWrongFalsely : Prop := fnSymplecticTableausRow.holds Tryz.pinned (OpenSpec.ofChange fnSymplecticTableausWrong)

/- THE SECOND FORM. 'bulk': how many values and letters a reading holds, each counted each time it is reached (what is shared counts as often as it is met; a slice's spare places count too). A statement '..UptoSaid' is the law's where the arguments, and the package variables that the reading takes, are together of bulk at most 1048576: NARROWER than '..Said'. Prove '..Said' where nothing that the law and all that it calls make is longer than what came in: it says more and counts as full. Else prove '..UptoSaid'. A law counts once. -/
mutual
def uptoBulk {H : Type} : DataW H → Nat
  | .lit (.string bytes) => bytes.length + 1
  | .lit _ => 1
  | .nil => 1
  | .ptr d => uptoBulk d + 1
  | .slice elems spare => uptoBulkAll elems + uptoBulkAll spare + 1
  | .agg parts => uptoBulkAll parts + 1
  | .iface _ d => uptoBulk d + 1
  | .map entries => uptoBulkEntries entries + 1
  | .held _ => 1
def uptoBulkAll {H : Type} : List (DataW H) → Nat
  | [] => 0
  | d :: r => uptoBulk d + uptoBulkAll r
def uptoBulkEntries {H : Type} : List (Lit × DataW H) → Nat
  | [] => 0
  | x :: r => uptoBulkEntry x + uptoBulkEntries r
def uptoBulkEntry {H : Type} : Lit × DataW H → Nat
  | (.string bytes, d) => bytes.length + uptoBulk d + 1
  | (_, d) => uptoBulk d + 1
 end
def uptoSmall : (H : Type) → List (DataW H) → Bool := fun _ ds => decide (uptoBulkAll ds ≤ 1048576)
def OpenSpec.upto (s : _root_.Go.ChangeSpec) : _root_.Go.OpenSpec := { _root_.Go.OpenSpec.ofChange s with cond := some uptoSmall }

/-- 'laws.FnSymplecticMaps', WHERE WHAT IT READS IS OF BULK AT MOST 1048576: true; the input reads as it did. -/
def fnSymplecticMapsUptoRow : OpenClaim := { program := "ytofabikjjkapmaagreat", sum := "fde9aae8b6ccdbd42e99f434a4547e45df0e117a6519e9fcf035147f5ac66ac3", func := "loop.example/g01100/laws.FnSymplecticMaps", spec := "fnSymplecticMaps", unfollowed := true, recurses := true, apart := false, narrowed := true }
def FnSymplecticMapsUptoSaid : Prop := fnSymplecticMapsUptoRow.holds Tryz.pinned (OpenSpec.upto fnSymplecticMapsSpec)

/-- 'laws.FnCollocations', WHERE WHAT IT READS IS OF BULK AT MOST 1048576: true; the input reads as it did. -/
def fnCollocationsUptoRow : OpenClaim := { program := "ytofabikjjkapmaagreat", sum := "fde9aae8b6ccdbd42e99f434a4547e45df0e117a6519e9fcf035147f5ac66ac3", func := "loop.example/g01100/laws.FnCollocations", spec := "fnCollocations", unfollowed := true, recurses := true, apart := false, narrowed := true }
def FnCollocationsUptoSaid : Prop := fnCollocationsUptoRow.holds Tryz.pinned (OpenSpec.upto fnCollocationsSpec)

/-- 'laws.FnSymplecticTableaus', WHERE WHAT IT READS IS OF BULK AT MOST 1048576: true; the input reads as it did. -/
def fnSymplecticTableausUptoRow : OpenClaim := { program := "ytofabikjjkapmaagreat", sum := "fde9aae8b6ccdbd42e99f434a4547e45df0e117a6519e9fcf035147f5ac66ac3", func := "loop.example/g01100/laws.FnSymplecticTableaus", spec := "fnSymplecticTableaus", unfollowed := true, recurses := true, apart := false, narrowed := true }
def FnSymplecticTableausUptoSaid : Prop := fnSymplecticTableausUptoRow.holds Tryz.pinned (OpenSpec.upto fnSymplecticTableausSpec)

end Rows
end Go.Proofs.YtofabikjjkapmaaGreat
