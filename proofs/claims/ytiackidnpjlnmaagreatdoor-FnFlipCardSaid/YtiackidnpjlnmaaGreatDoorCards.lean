/-
  DERIVED. GIVEN WITH THE SEED: THE CARDS: each row of YtiackidnpjlnmaaGreatDoorRows.lean that lists a variable, with what it lists TIED to the program's text (the seventh form; the later family's looks); each row that meets fmt, with fmt's text TOLD by the authors' own Lean function (tested against real Go, not proved from fmt's source: count such statements apart). THE CARD IS WHAT COUNTS. Prove the row's statement (the work); the ties are given (YtiackidnpjlnmaaGreatDoorTie.lean); close each card by the builder's one call (the guide's Derived/Test/ToyasCard.lean, 'card_holds'). Laid BY PROGRAM, IN A SANDBOX (cutbox-door.mjs). By AI agents, Wed Nov 11 2026. No macro, syntax, notation, axiom, sorry.
-/
import Derived.Test.YtiackidnpjlnmaaGreatDoorRows
import GoSem.ClaimSeven
namespace Go.Proofs.YtiackidnpjlnmaaGreatDoor
namespace Rows

/-- THE TIED CARD OF 'laws.FnFlip'. -/
def fnFlipCard : Claim7 := { stood := { row := fnFlipRow, standIns := [], harness := (true, "ef9fd976388338264aba2e1bfc1a50dd3fb8225d739f888dcbdcd0522ddf54ef"), looks := true }, kinds := [], alts := [], laidByText := true, laidKinds := [.data, .data, .data, .sentinel, .sentinel], laidTests := true, laidLooks := .later }
def FnFlipCardSaid : Prop := Claim7.holds Tryz.pinned (.plain (OpenSpec.ofChange fnFlipSpec)) fnFlipCard

/-- THE SECOND FORM's CARD OF 'laws.FnFlip'. -/
def fnFlipUptoCard : Claim7 := { stood := { row := fnFlipUptoRow, standIns := [], harness := (true, "ef9fd976388338264aba2e1bfc1a50dd3fb8225d739f888dcbdcd0522ddf54ef"), looks := true }, kinds := [], alts := [], laidByText := true, laidKinds := [.data, .data, .data, .sentinel, .sentinel], laidTests := true, laidLooks := .later }
def FnFlipUptoCardSaid : Prop := Claim7.holds Tryz.pinned (.plain (OpenSpec.upto fnFlipSpec)) fnFlipUptoCard
end Rows
end Go.Proofs.YtiackidnpjlnmaaGreatDoor
