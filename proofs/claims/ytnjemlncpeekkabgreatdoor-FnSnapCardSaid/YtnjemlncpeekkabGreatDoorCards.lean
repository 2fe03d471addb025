/-
  DERIVED. GIVEN WITH THE SEED: THE CARDS: each row of YtnjemlncpeekkabGreatDoorRows.lean that lists a variable, with what it lists TIED to the program's text (the seventh form; the later family's looks); each row that meets fmt, with fmt's text TOLD by the authors' own Lean function (tested against real Go, not proved from fmt's source: count such statements apart). THE CARD IS WHAT COUNTS. Prove the row's statement (the work); the ties are given (YtnjemlncpeekkabGreatDoorTie.lean); close each card by the builder's one call (the guide's Derived/Test/ToyasCard.lean, 'card_holds'). Laid BY PROGRAM, IN A SANDBOX (cutbox-door.mjs). By AI agents, Wed Nov 11 2026. No macro, syntax, notation, axiom, sorry.
-/
import Derived.Test.YtnjemlncpeekkabGreatDoorRows
import GoSem.ClaimSeven
namespace Go.Proofs.YtnjemlncpeekkabGreatDoor
namespace Rows

/-- THE TIED CARD OF 'laws.FnSnap'. -/
def fnSnapCard : Claim7 := { stood := { row := fnSnapRow, standIns := [], harness := (true, "d5f3cea08507c0a943cf3467eebb2cf1c0324627274358733059bedb693a2a7e"), looks := true }, kinds := [], alts := [], laidByText := true, laidKinds := [.data, .data, .data, .sentinel, .sentinel], laidTests := true, laidLooks := .later }
def FnSnapCardSaid : Prop := Claim7.holds Tryz.pinned (.plain (OpenSpec.ofChange fnSnapSpec)) fnSnapCard

/-- THE SECOND FORM's CARD OF 'laws.FnSnap'. -/
def fnSnapUptoCard : Claim7 := { stood := { row := fnSnapUptoRow, standIns := [], harness := (true, "d5f3cea08507c0a943cf3467eebb2cf1c0324627274358733059bedb693a2a7e"), looks := true }, kinds := [], alts := [], laidByText := true, laidKinds := [.data, .data, .data, .sentinel, .sentinel], laidTests := true, laidLooks := .later }
def FnSnapUptoCardSaid : Prop := Claim7.holds Tryz.pinned (.plain (OpenSpec.upto fnSnapSpec)) fnSnapUptoCard
end Rows
end Go.Proofs.YtnjemlncpeekkabGreatDoor
