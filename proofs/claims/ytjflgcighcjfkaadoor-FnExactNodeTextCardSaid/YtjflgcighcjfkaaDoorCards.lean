/-
  DERIVED. GIVEN WITH THE SEED: THE CARDS: each row of YtjflgcighcjfkaaDoorRows.lean that lists a variable, with what it lists TIED to the program's text (the seventh form; the later family's looks); each row that meets fmt, with fmt's text TOLD by the authors' own Lean function (tested against real Go, not proved from fmt's source: count such statements apart). THE CARD IS WHAT COUNTS. Prove the row's statement (the work); the ties are given (YtjflgcighcjfkaaDoorTie.lean); close each card by the builder's one call (the guide's Derived/Test/ToyasCard.lean, 'card_holds'). Laid BY PROGRAM, IN A SANDBOX (cutbox-door.mjs). By AI agents, Wed Nov 11 2026. No macro, syntax, notation, axiom, sorry.
-/
import Derived.Test.YtjflgcighcjfkaaDoorRows
import GoSem.ClaimSeven
namespace Go.Proofs.YtjflgcighcjfkaaDoor
namespace Rows

/-- THE TIED CARD OF 'laws.FnExactTotalsText'. -/
def fnExactTotalsTextCard : Claim7 := { stood := { row := fnExactTotalsTextRow, standIns := [], harness := (true, "c10faa16e30179885c5f594d3fb892d05bb9467148b2883893c682ed34cd1017"), looks := false }, kinds := [], alts := [], laidByText := true, laidKinds := [.data, .data, .data], laidTests := true, laidLooks := .later }
def FnExactTotalsTextCardSaid : Prop := Claim7.holds Tryd.pinned (.plain (OpenSpec.ofChange fnExactTotalsTextSpec)) fnExactTotalsTextCard

/-- THE TIED CARD OF 'laws.FnExactWindowText'. -/
def fnExactWindowTextCard : Claim7 := { stood := { row := fnExactWindowTextRow, standIns := [], harness := (true, "c10faa16e30179885c5f594d3fb892d05bb9467148b2883893c682ed34cd1017"), looks := false }, kinds := [], alts := [], laidByText := true, laidKinds := [.data, .data, .data], laidTests := true, laidLooks := .later }
def FnExactWindowTextCardSaid : Prop := Claim7.holds Tryd.pinned (.plain (OpenSpec.ofChange fnExactWindowTextSpec)) fnExactWindowTextCard

/-- THE TIED CARD OF 'laws.FnExactScoreText'. -/
def fnExactScoreTextCard : Claim7 := { stood := { row := fnExactScoreTextRow, standIns := [], harness := (true, "c10faa16e30179885c5f594d3fb892d05bb9467148b2883893c682ed34cd1017"), looks := false }, kinds := [], alts := [], laidByText := true, laidKinds := [.data, .data, .data], laidTests := true, laidLooks := .later }
def FnExactScoreTextCardSaid : Prop := Claim7.holds Tryd.pinned (.plain (OpenSpec.ofChange fnExactScoreTextSpec)) fnExactScoreTextCard

/-- THE TIED CARD OF 'laws.FnExactWayText'. -/
def fnExactWayTextCard : Claim7 := { stood := { row := fnExactWayTextRow, standIns := [], harness := (true, "c10faa16e30179885c5f594d3fb892d05bb9467148b2883893c682ed34cd1017"), looks := false }, kinds := [], alts := [], laidByText := true, laidKinds := [.data, .data, .data], laidTests := true, laidLooks := .later }
def FnExactWayTextCardSaid : Prop := Claim7.holds Tryd.pinned (.plain (OpenSpec.ofChange fnExactWayTextSpec)) fnExactWayTextCard

/-- THE TIED CARD OF 'laws.FnExactNodeText'. -/
def fnExactNodeTextCard : Claim7 := { stood := { row := fnExactNodeTextRow, standIns := [], harness := (true, "c10faa16e30179885c5f594d3fb892d05bb9467148b2883893c682ed34cd1017"), looks := false }, kinds := [], alts := [], laidByText := true, laidKinds := [.data, .data, .data], laidTests := true, laidLooks := .later }
def FnExactNodeTextCardSaid : Prop := Claim7.holds Tryd.pinned (.plain (OpenSpec.ofChange fnExactNodeTextSpec)) fnExactNodeTextCard

/-- THE SECOND FORM's CARD OF 'laws.FnExactTotalsText'. -/
def fnExactTotalsTextUptoCard : Claim7 := { stood := { row := fnExactTotalsTextUptoRow, standIns := [], harness := (true, "c10faa16e30179885c5f594d3fb892d05bb9467148b2883893c682ed34cd1017"), looks := false }, kinds := [], alts := [], laidByText := true, laidKinds := [.data, .data, .data], laidTests := true, laidLooks := .later }
def FnExactTotalsTextUptoCardSaid : Prop := Claim7.holds Tryd.pinned (.plain (OpenSpec.upto fnExactTotalsTextSpec)) fnExactTotalsTextUptoCard

/-- THE SECOND FORM's CARD OF 'laws.FnExactWindowText'. -/
def fnExactWindowTextUptoCard : Claim7 := { stood := { row := fnExactWindowTextUptoRow, standIns := [], harness := (true, "c10faa16e30179885c5f594d3fb892d05bb9467148b2883893c682ed34cd1017"), looks := false }, kinds := [], alts := [], laidByText := true, laidKinds := [.data, .data, .data], laidTests := true, laidLooks := .later }
def FnExactWindowTextUptoCardSaid : Prop := Claim7.holds Tryd.pinned (.plain (OpenSpec.upto fnExactWindowTextSpec)) fnExactWindowTextUptoCard

/-- THE SECOND FORM's CARD OF 'laws.FnExactScoreText'. -/
def fnExactScoreTextUptoCard : Claim7 := { stood := { row := fnExactScoreTextUptoRow, standIns := [], harness := (true, "c10faa16e30179885c5f594d3fb892d05bb9467148b2883893c682ed34cd1017"), looks := false }, kinds := [], alts := [], laidByText := true, laidKinds := [.data, .data, .data], laidTests := true, laidLooks := .later }
def FnExactScoreTextUptoCardSaid : Prop := Claim7.holds Tryd.pinned (.plain (OpenSpec.upto fnExactScoreTextSpec)) fnExactScoreTextUptoCard

/-- THE SECOND FORM's CARD OF 'laws.FnExactWayText'. -/
def fnExactWayTextUptoCard : Claim7 := { stood := { row := fnExactWayTextUptoRow, standIns := [], harness := (true, "c10faa16e30179885c5f594d3fb892d05bb9467148b2883893c682ed34cd1017"), looks := false }, kinds := [], alts := [], laidByText := true, laidKinds := [.data, .data, .data], laidTests := true, laidLooks := .later }
def FnExactWayTextUptoCardSaid : Prop := Claim7.holds Tryd.pinned (.plain (OpenSpec.upto fnExactWayTextSpec)) fnExactWayTextUptoCard

/-- THE SECOND FORM's CARD OF 'laws.FnExactNodeText'. -/
def fnExactNodeTextUptoCard : Claim7 := { stood := { row := fnExactNodeTextUptoRow, standIns := [], harness := (true, "c10faa16e30179885c5f594d3fb892d05bb9467148b2883893c682ed34cd1017"), looks := false }, kinds := [], alts := [], laidByText := true, laidKinds := [.data, .data, .data], laidTests := true, laidLooks := .later }
def FnExactNodeTextUptoCardSaid : Prop := Claim7.holds Tryd.pinned (.plain (OpenSpec.upto fnExactNodeTextSpec)) fnExactNodeTextUptoCard
end Rows
end Go.Proofs.YtjflgcighcjfkaaDoor
