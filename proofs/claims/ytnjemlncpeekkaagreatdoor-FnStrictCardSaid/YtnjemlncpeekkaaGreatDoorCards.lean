/-
  DERIVED. GIVEN WITH THE SEED: THE CARDS: each row of YtnjemlncpeekkaaGreatDoorRows.lean that lists a variable, with what it lists TIED to the program's text (the seventh form; the later family's looks); each row that meets fmt, with fmt's text TOLD by the authors' own Lean function (tested against real Go, not proved from fmt's source: count such statements apart). THE CARD IS WHAT COUNTS. Prove the row's statement (the work); the ties are given (YtnjemlncpeekkaaGreatDoorTie.lean); close each card by the builder's one call (the guide's Derived/Test/ToyasCard.lean, 'card_holds'). Laid BY PROGRAM, IN A SANDBOX (cutbox-door.mjs). By AI agents, Wed Nov 11 2026. No macro, syntax, notation, axiom, sorry.
-/
import Derived.Test.YtnjemlncpeekkaaGreatDoorRows
import GoSem.ClaimSeven
namespace Go.Proofs.YtnjemlncpeekkaaGreatDoor
namespace Rows

/-- THE TIED CARD OF 'laws.FnStrict'. -/
def fnStrictCard : Claim7 := { stood := { row := fnStrictRow, standIns := [], harness := (true, "2d37dc1bf0fcc2455a1d5fa11827cdb48c638a1e77aeaf2b85c36e1d0d33745e"), looks := true }, kinds := [], alts := [], laidByText := true, laidKinds := [.data, .data, .data, .sentinel, .sentinel], laidTests := true, laidLooks := .later }
def FnStrictCardSaid : Prop := Claim7.holds Tryz.pinned (.plain (OpenSpec.ofChange fnStrictSpec)) fnStrictCard

/-- THE SECOND FORM's CARD OF 'laws.FnStrict'. -/
def fnStrictUptoCard : Claim7 := { stood := { row := fnStrictUptoRow, standIns := [], harness := (true, "2d37dc1bf0fcc2455a1d5fa11827cdb48c638a1e77aeaf2b85c36e1d0d33745e"), looks := true }, kinds := [], alts := [], laidByText := true, laidKinds := [.data, .data, .data, .sentinel, .sentinel], laidTests := true, laidLooks := .later }
def FnStrictUptoCardSaid : Prop := Claim7.holds Tryz.pinned (.plain (OpenSpec.upto fnStrictSpec)) fnStrictUptoCard
end Rows
end Go.Proofs.YtnjemlncpeekkaaGreatDoor
