/-
  DERIVED. GIVEN WITH THE SEED: THE CARDS: each row of YtnnfjjadehgmeaaDoorRows.lean that lists a variable, with what it lists TIED to the program's text (the seventh form; the later family's looks); each row that meets fmt, with fmt's text TOLD by the authors' own Lean function (tested against real Go, not proved from fmt's source: count such statements apart). THE CARD IS WHAT COUNTS. Prove the row's statement (the work); the ties are given (YtnnfjjadehgmeaaDoorTie.lean); close each card by the builder's one call (the guide's Derived/Test/ToyasCard.lean, 'card_holds'). Laid BY PROGRAM, IN A SANDBOX (cutbox-door.mjs). By AI agents, Wed Nov 11 2026. No macro, syntax, notation, axiom, sorry.
-/
import Derived.Test.YtnnfjjadehgmeaaDoorRows
import GoSem.ClaimSeven
namespace Go.Proofs.YtnnfjjadehgmeaaDoor
namespace Rows

/-- THE TIED CARD OF 'laws.FnExactFieldText'. -/
def fnExactFieldTextCard : Claim7 := { stood := { row := fnExactFieldTextRow, standIns := [], harness := (true, "e3cbdbf424f013a7962255c7b9731f27f4db8cdebb30697e5e3707b427f1a66e"), looks := false }, kinds := [], alts := [], laidByText := true, laidKinds := [.data, .data, .data], laidTests := true, laidLooks := .later }
def FnExactFieldTextCardSaid : Prop := Claim7.holds Tryd.pinned (.plain (OpenSpec.ofChange fnExactFieldTextSpec)) fnExactFieldTextCard

/-- THE SECOND FORM's CARD OF 'laws.FnExactFieldText'. -/
def fnExactFieldTextUptoCard : Claim7 := { stood := { row := fnExactFieldTextUptoRow, standIns := [], harness := (true, "e3cbdbf424f013a7962255c7b9731f27f4db8cdebb30697e5e3707b427f1a66e"), looks := false }, kinds := [], alts := [], laidByText := true, laidKinds := [.data, .data, .data], laidTests := true, laidLooks := .later }
def FnExactFieldTextUptoCardSaid : Prop := Claim7.holds Tryd.pinned (.plain (OpenSpec.upto fnExactFieldTextSpec)) fnExactFieldTextUptoCard
end Rows
end Go.Proofs.YtnnfjjadehgmeaaDoor
