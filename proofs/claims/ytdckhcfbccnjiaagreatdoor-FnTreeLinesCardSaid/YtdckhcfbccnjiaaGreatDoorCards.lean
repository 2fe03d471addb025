/-
  DERIVED. GIVEN WITH THE SEED: THE CARDS: each row of YtdckhcfbccnjiaaGreatDoorRows.lean that lists a variable, with what it lists TIED to the program's text (the seventh form; the later family's looks); each row that meets fmt, with fmt's text TOLD by the authors' own Lean function (tested against real Go, not proved from fmt's source: count such statements apart). THE CARD IS WHAT COUNTS. Prove the row's statement (the work); the ties are given (YtdckhcfbccnjiaaGreatDoorTie.lean); close each card by the builder's one call (the guide's Derived/Test/ToyasCard.lean, 'card_holds'). Laid BY PROGRAM, IN A SANDBOX (cutbox-door.mjs). By AI agents, Wed Nov 11 2026. No macro, syntax, notation, axiom, sorry.
-/
import Derived.Test.YtdckhcfbccnjiaaGreatDoorRows
import GoSem.ClaimSeven
namespace Go.Proofs.YtdckhcfbccnjiaaGreatDoor
namespace Rows

/-- THE TIED CARD OF 'laws.FnWays'. -/
def fnWaysCard : Claim7 := { stood := { row := fnWaysRow, standIns := [], harness := (true, "21bba9146fa924b946d259d5d519c1a25031417bccc03abc702d91d56935c29e"), looks := false }, kinds := [], alts := [], laidByText := true, laidKinds := [.data, .data, .data], laidTests := true, laidLooks := .later }
def FnWaysCardSaid : Prop := Claim7.holds Tryz.pinned (.plain (OpenSpec.ofChange fnWaysSpec)) fnWaysCard

/-- THE TIED CARD OF 'laws.FnTreeLines'. -/
def fnTreeLinesCard : Claim7 := { stood := { row := fnTreeLinesRow, standIns := [], harness := (true, "21bba9146fa924b946d259d5d519c1a25031417bccc03abc702d91d56935c29e"), looks := false }, kinds := [], alts := [], laidByText := true, laidKinds := [.data, .data, .data], laidTests := true, laidLooks := .later }
def FnTreeLinesCardSaid : Prop := Claim7.holds Tryz.pinned (.plain (OpenSpec.ofChange fnTreeLinesSpec)) fnTreeLinesCard

/-- THE SECOND FORM's CARD OF 'laws.FnWays'. -/
def fnWaysUptoCard : Claim7 := { stood := { row := fnWaysUptoRow, standIns := [], harness := (true, "21bba9146fa924b946d259d5d519c1a25031417bccc03abc702d91d56935c29e"), looks := false }, kinds := [], alts := [], laidByText := true, laidKinds := [.data, .data, .data], laidTests := true, laidLooks := .later }
def FnWaysUptoCardSaid : Prop := Claim7.holds Tryz.pinned (.plain (OpenSpec.upto fnWaysSpec)) fnWaysUptoCard

/-- THE SECOND FORM's CARD OF 'laws.FnTreeLines'. -/
def fnTreeLinesUptoCard : Claim7 := { stood := { row := fnTreeLinesUptoRow, standIns := [], harness := (true, "21bba9146fa924b946d259d5d519c1a25031417bccc03abc702d91d56935c29e"), looks := false }, kinds := [], alts := [], laidByText := true, laidKinds := [.data, .data, .data], laidTests := true, laidLooks := .later }
def FnTreeLinesUptoCardSaid : Prop := Claim7.holds Tryz.pinned (.plain (OpenSpec.upto fnTreeLinesSpec)) fnTreeLinesUptoCard
end Rows
end Go.Proofs.YtdckhcfbccnjiaaGreatDoor
