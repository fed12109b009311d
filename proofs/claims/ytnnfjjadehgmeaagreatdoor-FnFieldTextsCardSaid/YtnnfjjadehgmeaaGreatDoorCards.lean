/-
  DERIVED. GIVEN WITH THE SEED: THE CARDS: each row of YtnnfjjadehgmeaaGreatDoorRows.lean that lists a variable, with what it lists TIED to the program's text (the seventh form; the later family's looks); each row that meets fmt, with fmt's text TOLD by the authors' own Lean function (tested against real Go, not proved from fmt's source: count such statements apart). THE CARD IS WHAT COUNTS. Prove the row's statement (the work); the ties are given (YtnnfjjadehgmeaaGreatDoorTie.lean); close each card by the builder's one call (the guide's Derived/Test/ToyasCard.lean, 'card_holds'). Laid BY PROGRAM, IN A SANDBOX (cutbox-door.mjs). By AI agents, Wed Nov 11 2026. No macro, syntax, notation, axiom, sorry.
-/
import Derived.Test.YtnnfjjadehgmeaaGreatDoorRows
import GoSem.ClaimSeven
namespace Go.Proofs.YtnnfjjadehgmeaaGreatDoor
namespace Rows

/-- THE TIED CARD OF 'laws.FnExactParseField'. -/
def fnExactParseFieldCard : Claim7 := { stood := { row := fnExactParseFieldRow, standIns := [], harness := (true, "93f2ec1db88072a2cd0c56c1dbb99b9240caddab492348d5ed81d8ec840f41ae"), looks := true }, kinds := [], alts := [], laidByText := true, laidKinds := [.data, .data, .data, .data, .sentinel, .sentinel, .pinned], laidTests := true, laidLooks := .later }
def FnExactParseFieldCardSaid : Prop := Claim7.holds Tryz.pinned (.plain (OpenSpec.ofChange fnExactParseFieldSpec)) fnExactParseFieldCard

/-- THE TIED CARD OF 'laws.FnFieldTexts'. -/
def fnFieldTextsCard : Claim7 := { stood := { row := fnFieldTextsRow, standIns := [], harness := (true, "93f2ec1db88072a2cd0c56c1dbb99b9240caddab492348d5ed81d8ec840f41ae"), looks := true }, kinds := [], alts := [], laidByText := true, laidKinds := [.data, .data, .data, .data, .sentinel, .sentinel, .pinned], laidTests := true, laidLooks := .later }
def FnFieldTextsCardSaid : Prop := Claim7.holds Tryz.pinned (.plain (OpenSpec.ofChange fnFieldTextsSpec)) fnFieldTextsCard

/-- THE SECOND FORM's CARD OF 'laws.FnExactParseField'. -/
def fnExactParseFieldUptoCard : Claim7 := { stood := { row := fnExactParseFieldUptoRow, standIns := [], harness := (true, "93f2ec1db88072a2cd0c56c1dbb99b9240caddab492348d5ed81d8ec840f41ae"), looks := true }, kinds := [], alts := [], laidByText := true, laidKinds := [.data, .data, .data, .data, .sentinel, .sentinel, .pinned], laidTests := true, laidLooks := .later }
def FnExactParseFieldUptoCardSaid : Prop := Claim7.holds Tryz.pinned (.plain (OpenSpec.upto fnExactParseFieldSpec)) fnExactParseFieldUptoCard

/-- THE SECOND FORM's CARD OF 'laws.FnFieldTexts'. -/
def fnFieldTextsUptoCard : Claim7 := { stood := { row := fnFieldTextsUptoRow, standIns := [], harness := (true, "93f2ec1db88072a2cd0c56c1dbb99b9240caddab492348d5ed81d8ec840f41ae"), looks := true }, kinds := [], alts := [], laidByText := true, laidKinds := [.data, .data, .data, .data, .sentinel, .sentinel, .pinned], laidTests := true, laidLooks := .later }
def FnFieldTextsUptoCardSaid : Prop := Claim7.holds Tryz.pinned (.plain (OpenSpec.upto fnFieldTextsSpec)) fnFieldTextsUptoCard
end Rows
end Go.Proofs.YtnnfjjadehgmeaaGreatDoor
