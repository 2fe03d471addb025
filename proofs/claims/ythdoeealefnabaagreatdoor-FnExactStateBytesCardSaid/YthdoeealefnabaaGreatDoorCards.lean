/-
  DERIVED. GIVEN WITH THE SEED: THE CARDS: each row of YthdoeealefnabaaGreatDoorRows.lean that lists a variable, with what it lists TIED to the program's text (the seventh form; the later family's looks); each row that meets fmt, with fmt's text TOLD by the authors' own Lean function (tested against real Go, not proved from fmt's source: count such statements apart). THE CARD IS WHAT COUNTS. Prove the row's statement (the work); the ties are given (YthdoeealefnabaaGreatDoorTie.lean); close each card by the builder's one call (the guide's Derived/Test/ToyasCard.lean, 'card_holds'). Laid BY PROGRAM, IN A SANDBOX (cutbox-door.mjs). By AI agents, Wed Nov 11 2026. No macro, syntax, notation, axiom, sorry.
-/
import Derived.Test.YthdoeealefnabaaGreatDoorRows
import GoSem.ClaimSeven
namespace Go.Proofs.YthdoeealefnabaaGreatDoor
namespace Rows

/-- THE TIED CARD OF 'laws.FnExactStateBytes'. -/
def fnExactStateBytesCard : Claim7 := { stood := { row := fnExactStateBytesRow, standIns := [], harness := (true, "f2b38a5bc16a054856af5e7a59bf5ce76c94265d9410a454d569edfb0dd603cb"), looks := false }, kinds := [], alts := [], laidByText := true, laidKinds := [.data, .data, .data], laidTests := true, laidLooks := .later }
def FnExactStateBytesCardSaid : Prop := Claim7.holds Tryz.pinned (.plain (OpenSpec.ofChange fnExactStateBytesSpec)) fnExactStateBytesCard

/-- THE SECOND FORM's CARD OF 'laws.FnExactStateBytes'. -/
def fnExactStateBytesUptoCard : Claim7 := { stood := { row := fnExactStateBytesUptoRow, standIns := [], harness := (true, "f2b38a5bc16a054856af5e7a59bf5ce76c94265d9410a454d569edfb0dd603cb"), looks := false }, kinds := [], alts := [], laidByText := true, laidKinds := [.data, .data, .data], laidTests := true, laidLooks := .later }
def FnExactStateBytesUptoCardSaid : Prop := Claim7.holds Tryz.pinned (.plain (OpenSpec.upto fnExactStateBytesSpec)) fnExactStateBytesUptoCard
end Rows
end Go.Proofs.YthdoeealefnabaaGreatDoor
