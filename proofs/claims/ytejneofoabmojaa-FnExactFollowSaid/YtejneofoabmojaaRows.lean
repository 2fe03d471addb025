/-
  No cell of these rows narrows 'for every input' (looked for: loops, veiled, ifaces, maps, wideKeys, modest, calm, conditions, laid).
  DERIVED. THE GIVEN ROWS OF THIS SEAT. 8 by the template 'for every input the law returns true; each argument reads behind the call as it read before'; 0 by the template 'total and deterministic' (their statements: YtejneofoabmojaaTotals.lean).
  GIVEN WITH THE SEED: the statements are not yours to turn. If you find one false, say at which input.
  Laid BY PROGRAM, IN A SANDBOX (cutbox-rows.mjs): the forced cells as the released guide's own fill.sh prints them over the translation 195ee04d47e64975… (all of the seat's roots in one cut). By AI agents, Wed Nov 11 2026. No macro, syntax, notation, axiom, sorry.
-/
import Derived.Test.YtejneofoabmojaaChecked
import GoSem.Claim
import GoSem.ClaimJoined
import GoSem.ClaimMapViews
import Derived.JoinedTies
import Derived.KernelRfl
namespace Go.Proofs.Ytejneofoabmojaa
/- THE CELL 'sum', in the pinned program and in every row, IS THE sha256 OF THE DUMP (.gsa) THAT YtejneofoabmojaaProg.lean LOADS. Nothing in Lean hashes anything: it is a label: what it is worth is what the hold of that sum in a sandbox is worth. -/
noncomputable def Try.pinned : Pinned := { name := "ytejneofoabmojaa", sum := "195ee04d47e649755a7dcd65fe9c11cbd73290d187ea995ff1092d49742448d6", checked := Try.checked }
namespace Rows
def none {H : Type} : Left H := { results := [], args := [] }

/-- 'laws.FnExactFullMask': WHATEVER THE INPUT: true; the input reads as it did. -/
def fnExactFullMaskSpec : ChangeSpec := { name := "fnExactFullMask", fn := fun _ => fun
  | [d] => { results := [.lit (.bool true)], args := [d] }
  | _ => none }
def fnExactFullMaskRow : OpenClaim := { program := "ytejneofoabmojaa", sum := "195ee04d47e649755a7dcd65fe9c11cbd73290d187ea995ff1092d49742448d6", func := "loop.example/g00477/laws.FnExactFullMask", spec := "fnExactFullMask", unfollowed := true, recurses := true, apart := false }
def FnExactFullMaskSaid : Prop := fnExactFullMaskRow.holds Try.pinned (OpenSpec.ofChange fnExactFullMaskSpec)

/-- ITS FALSE NEIGHBOUR: 'it returns false'. Refute it at one input. -/
def fnExactFullMaskWrong : ChangeSpec := { name := "fnExactFullMask", fn := fun _ => fun
  | [d] => { results := [.lit (.bool false)], args := [d] }
  | _ => none }
def FnExactFullMaskWrongFalsely : Prop := fnExactFullMaskRow.holds Try.pinned (OpenSpec.ofChange fnExactFullMaskWrong)

/-- 'laws.FnExactAllRoom': WHATEVER THE INPUT: true; the input reads as it did. -/
def fnExactAllRoomSpec : ChangeSpec := { name := "fnExactAllRoom", fn := fun _ => fun
  | [d] => { results := [.lit (.bool true)], args := [d] }
  | _ => none }
def fnExactAllRoomRow : OpenClaim := { program := "ytejneofoabmojaa", sum := "195ee04d47e649755a7dcd65fe9c11cbd73290d187ea995ff1092d49742448d6", func := "loop.example/g00477/laws.FnExactAllRoom", spec := "fnExactAllRoom", unfollowed := true, recurses := true, apart := false }
def FnExactAllRoomSaid : Prop := fnExactAllRoomRow.holds Try.pinned (OpenSpec.ofChange fnExactAllRoomSpec)

/-- ITS FALSE NEIGHBOUR: 'it returns false'. Refute it at one input. -/
def fnExactAllRoomWrong : ChangeSpec := { name := "fnExactAllRoom", fn := fun _ => fun
  | [d] => { results := [.lit (.bool false)], args := [d] }
  | _ => none }
def FnExactAllRoomWrongFalsely : Prop := fnExactAllRoomRow.holds Try.pinned (OpenSpec.ofChange fnExactAllRoomWrong)

/-- 'laws.FnExactWayOk': WHATEVER THE INPUT: true; the input reads as it did. -/
def fnExactWayOkSpec : ChangeSpec := { name := "fnExactWayOk", fn := fun _ => fun
  | [d1, d2] => { results := [.lit (.bool true)], args := [d1, d2] }
  | _ => none }
def fnExactWayOkRow : OpenClaim := { program := "ytejneofoabmojaa", sum := "195ee04d47e649755a7dcd65fe9c11cbd73290d187ea995ff1092d49742448d6", func := "loop.example/g00477/laws.FnExactWayOk", spec := "fnExactWayOk", unfollowed := true, recurses := true, apart := false }
def FnExactWayOkSaid : Prop := fnExactWayOkRow.holds Try.pinned (OpenSpec.ofChange fnExactWayOkSpec)

/-- ITS FALSE NEIGHBOUR: 'it returns false'. Refute it at one input. -/
def fnExactWayOkWrong : ChangeSpec := { name := "fnExactWayOk", fn := fun _ => fun
  | [d1, d2] => { results := [.lit (.bool false)], args := [d1, d2] }
  | _ => none }
def FnExactWayOkWrongFalsely : Prop := fnExactWayOkRow.holds Try.pinned (OpenSpec.ofChange fnExactWayOkWrong)

/-- 'laws.FnExactWayRoom': WHATEVER THE INPUT: true; the input reads as it did. -/
def fnExactWayRoomSpec : ChangeSpec := { name := "fnExactWayRoom", fn := fun _ => fun
  | [d1, d2] => { results := [.lit (.bool true)], args := [d1, d2] }
  | _ => none }
def fnExactWayRoomRow : OpenClaim := { program := "ytejneofoabmojaa", sum := "195ee04d47e649755a7dcd65fe9c11cbd73290d187ea995ff1092d49742448d6", func := "loop.example/g00477/laws.FnExactWayRoom", spec := "fnExactWayRoom", unfollowed := true, recurses := true, apart := false }
def FnExactWayRoomSaid : Prop := fnExactWayRoomRow.holds Try.pinned (OpenSpec.ofChange fnExactWayRoomSpec)

/-- ITS FALSE NEIGHBOUR: 'it returns false'. Refute it at one input. -/
def fnExactWayRoomWrong : ChangeSpec := { name := "fnExactWayRoom", fn := fun _ => fun
  | [d1, d2] => { results := [.lit (.bool false)], args := [d1, d2] }
  | _ => none }
def FnExactWayRoomWrongFalsely : Prop := fnExactWayRoomRow.holds Try.pinned (OpenSpec.ofChange fnExactWayRoomWrong)

/-- 'laws.FnExactWayMeets': WHATEVER THE INPUT: true; the input reads as it did. -/
def fnExactWayMeetsSpec : ChangeSpec := { name := "fnExactWayMeets", fn := fun _ => fun
  | [d1, d2, d3] => { results := [.lit (.bool true)], args := [d1, d2, d3] }
  | _ => none }
def fnExactWayMeetsRow : OpenClaim := { program := "ytejneofoabmojaa", sum := "195ee04d47e649755a7dcd65fe9c11cbd73290d187ea995ff1092d49742448d6", func := "loop.example/g00477/laws.FnExactWayMeets", spec := "fnExactWayMeets", unfollowed := true, recurses := true, apart := false }
def FnExactWayMeetsSaid : Prop := fnExactWayMeetsRow.holds Try.pinned (OpenSpec.ofChange fnExactWayMeetsSpec)

/-- ITS FALSE NEIGHBOUR: 'it returns false'. Refute it at one input. -/
def fnExactWayMeetsWrong : ChangeSpec := { name := "fnExactWayMeets", fn := fun _ => fun
  | [d1, d2, d3] => { results := [.lit (.bool false)], args := [d1, d2, d3] }
  | _ => none }
def FnExactWayMeetsWrongFalsely : Prop := fnExactWayMeetsRow.holds Try.pinned (OpenSpec.ofChange fnExactWayMeetsWrong)

/-- 'laws.FnExactEntriesOk': WHATEVER THE INPUT: true; the input reads as it did. -/
def fnExactEntriesOkSpec : ChangeSpec := { name := "fnExactEntriesOk", fn := fun _ => fun
  | [d1, d2] => { results := [.lit (.bool true)], args := [d1, d2] }
  | _ => none }
def fnExactEntriesOkRow : OpenClaim := { program := "ytejneofoabmojaa", sum := "195ee04d47e649755a7dcd65fe9c11cbd73290d187ea995ff1092d49742448d6", func := "loop.example/g00477/laws.FnExactEntriesOk", spec := "fnExactEntriesOk", unfollowed := true, recurses := true, apart := false }
def FnExactEntriesOkSaid : Prop := fnExactEntriesOkRow.holds Try.pinned (OpenSpec.ofChange fnExactEntriesOkSpec)

/-- ITS FALSE NEIGHBOUR: 'it returns false'. Refute it at one input. -/
def fnExactEntriesOkWrong : ChangeSpec := { name := "fnExactEntriesOk", fn := fun _ => fun
  | [d1, d2] => { results := [.lit (.bool false)], args := [d1, d2] }
  | _ => none }
def FnExactEntriesOkWrongFalsely : Prop := fnExactEntriesOkRow.holds Try.pinned (OpenSpec.ofChange fnExactEntriesOkWrong)

/-- 'laws.FnExactFollow': WHATEVER THE INPUT: true; the input reads as it did. -/
def fnExactFollowSpec : ChangeSpec := { name := "fnExactFollow", fn := fun _ => fun
  | [d1, d2, d3] => { results := [.lit (.bool true)], args := [d1, d2, d3] }
  | _ => none }
def fnExactFollowRow : OpenClaim := { program := "ytejneofoabmojaa", sum := "195ee04d47e649755a7dcd65fe9c11cbd73290d187ea995ff1092d49742448d6", func := "loop.example/g00477/laws.FnExactFollow", spec := "fnExactFollow", unfollowed := true, recurses := true, apart := false }
def FnExactFollowSaid : Prop := fnExactFollowRow.holds Try.pinned (OpenSpec.ofChange fnExactFollowSpec)

/-- ITS FALSE NEIGHBOUR: 'it returns false'. Refute it at one input. -/
def fnExactFollowWrong : ChangeSpec := { name := "fnExactFollow", fn := fun _ => fun
  | [d1, d2, d3] => { results := [.lit (.bool false)], args := [d1, d2, d3] }
  | _ => none }
def FnExactFollowWrongFalsely : Prop := fnExactFollowRow.holds Try.pinned (OpenSpec.ofChange fnExactFollowWrong)

/-- 'laws.FnExactReplySame': WHATEVER THE INPUT: true; the input reads as it did. -/
def fnExactReplySameSpec : ChangeSpec := { name := "fnExactReplySame", fn := fun _ => fun
  | [d1, d2] => { results := [.lit (.bool true)], args := [d1, d2] }
  | _ => none }
def fnExactReplySameRow : OpenClaim := { program := "ytejneofoabmojaa", sum := "195ee04d47e649755a7dcd65fe9c11cbd73290d187ea995ff1092d49742448d6", func := "loop.example/g00477/laws.FnExactReplySame", spec := "fnExactReplySame", apart := false }
def FnExactReplySameSaid : Prop := fnExactReplySameRow.holds Try.pinned (OpenSpec.ofChange fnExactReplySameSpec)

/-- ITS FALSE NEIGHBOUR: 'it returns false'. Refute it at one input. -/
def fnExactReplySameWrong : ChangeSpec := { name := "fnExactReplySame", fn := fun _ => fun
  | [d1, d2] => { results := [.lit (.bool false)], args := [d1, d2] }
  | _ => none }
def FnExactReplySameWrongFalsely : Prop := fnExactReplySameRow.holds Try.pinned (OpenSpec.ofChange fnExactReplySameWrong)

/- THE SECOND FORM. 'bulk': how many values and letters a reading holds, each counted each time it is reached (what is shared counts as often as it is met; a slice's spare places count too). A statement '..UptoSaid' is the law's where the arguments, and the package variables that the reading takes, are together of bulk at most 1048576: NARROWER than '..Said'. Prove '..Said' where nothing that the law and all that it calls make is longer than what came in: it says more and counts as full. Else prove '..UptoSaid'. A law counts once. -/
mutual
def uptoBulk {H : Type} : DataW H → Nat
  | .lit (.string bytes) => bytes.length + 1
  | .lit _ => 1
  | .nil => 1
  | .ptr d => uptoBulk d + 1
  | .slice elems spare => uptoBulkAll elems + uptoBulkAll spare + 1
  | .agg parts => uptoBulkAll parts + 1
  | .iface _ d => uptoBulk d + 1
  | .map entries => uptoBulkEntries entries + 1
  | .held _ => 1
def uptoBulkAll {H : Type} : List (DataW H) → Nat
  | [] => 0
  | d :: r => uptoBulk d + uptoBulkAll r
def uptoBulkEntries {H : Type} : List (Lit × DataW H) → Nat
  | [] => 0
  | x :: r => uptoBulkEntry x + uptoBulkEntries r
def uptoBulkEntry {H : Type} : Lit × DataW H → Nat
  | (.string bytes, d) => bytes.length + uptoBulk d + 1
  | (_, d) => uptoBulk d + 1
 end
def uptoSmall : (H : Type) → List (DataW H) → Bool := fun _ ds => decide (uptoBulkAll ds ≤ 1048576)
def OpenSpec.upto (s : _root_.Go.ChangeSpec) : _root_.Go.OpenSpec := { _root_.Go.OpenSpec.ofChange s with cond := some uptoSmall }

/-- 'laws.FnExactFullMask', WHERE WHAT IT READS IS OF BULK AT MOST 1048576: true; the input reads as it did. -/
def fnExactFullMaskUptoRow : OpenClaim := { program := "ytejneofoabmojaa", sum := "195ee04d47e649755a7dcd65fe9c11cbd73290d187ea995ff1092d49742448d6", func := "loop.example/g00477/laws.FnExactFullMask", spec := "fnExactFullMask", unfollowed := true, recurses := true, apart := false, narrowed := true }
def FnExactFullMaskUptoSaid : Prop := fnExactFullMaskUptoRow.holds Try.pinned (OpenSpec.upto fnExactFullMaskSpec)

/-- 'laws.FnExactAllRoom', WHERE WHAT IT READS IS OF BULK AT MOST 1048576: true; the input reads as it did. -/
def fnExactAllRoomUptoRow : OpenClaim := { program := "ytejneofoabmojaa", sum := "195ee04d47e649755a7dcd65fe9c11cbd73290d187ea995ff1092d49742448d6", func := "loop.example/g00477/laws.FnExactAllRoom", spec := "fnExactAllRoom", unfollowed := true, recurses := true, apart := false, narrowed := true }
def FnExactAllRoomUptoSaid : Prop := fnExactAllRoomUptoRow.holds Try.pinned (OpenSpec.upto fnExactAllRoomSpec)

/-- 'laws.FnExactWayOk', WHERE WHAT IT READS IS OF BULK AT MOST 1048576: true; the input reads as it did. -/
def fnExactWayOkUptoRow : OpenClaim := { program := "ytejneofoabmojaa", sum := "195ee04d47e649755a7dcd65fe9c11cbd73290d187ea995ff1092d49742448d6", func := "loop.example/g00477/laws.FnExactWayOk", spec := "fnExactWayOk", unfollowed := true, recurses := true, apart := false, narrowed := true }
def FnExactWayOkUptoSaid : Prop := fnExactWayOkUptoRow.holds Try.pinned (OpenSpec.upto fnExactWayOkSpec)

/-- 'laws.FnExactWayRoom', WHERE WHAT IT READS IS OF BULK AT MOST 1048576: true; the input reads as it did. -/
def fnExactWayRoomUptoRow : OpenClaim := { program := "ytejneofoabmojaa", sum := "195ee04d47e649755a7dcd65fe9c11cbd73290d187ea995ff1092d49742448d6", func := "loop.example/g00477/laws.FnExactWayRoom", spec := "fnExactWayRoom", unfollowed := true, recurses := true, apart := false, narrowed := true }
def FnExactWayRoomUptoSaid : Prop := fnExactWayRoomUptoRow.holds Try.pinned (OpenSpec.upto fnExactWayRoomSpec)

/-- 'laws.FnExactWayMeets', WHERE WHAT IT READS IS OF BULK AT MOST 1048576: true; the input reads as it did. -/
def fnExactWayMeetsUptoRow : OpenClaim := { program := "ytejneofoabmojaa", sum := "195ee04d47e649755a7dcd65fe9c11cbd73290d187ea995ff1092d49742448d6", func := "loop.example/g00477/laws.FnExactWayMeets", spec := "fnExactWayMeets", unfollowed := true, recurses := true, apart := false, narrowed := true }
def FnExactWayMeetsUptoSaid : Prop := fnExactWayMeetsUptoRow.holds Try.pinned (OpenSpec.upto fnExactWayMeetsSpec)

/-- 'laws.FnExactEntriesOk', WHERE WHAT IT READS IS OF BULK AT MOST 1048576: true; the input reads as it did. -/
def fnExactEntriesOkUptoRow : OpenClaim := { program := "ytejneofoabmojaa", sum := "195ee04d47e649755a7dcd65fe9c11cbd73290d187ea995ff1092d49742448d6", func := "loop.example/g00477/laws.FnExactEntriesOk", spec := "fnExactEntriesOk", unfollowed := true, recurses := true, apart := false, narrowed := true }
def FnExactEntriesOkUptoSaid : Prop := fnExactEntriesOkUptoRow.holds Try.pinned (OpenSpec.upto fnExactEntriesOkSpec)

/-- 'laws.FnExactFollow', WHERE WHAT IT READS IS OF BULK AT MOST 1048576: true; the input reads as it did. -/
def fnExactFollowUptoRow : OpenClaim := { program := "ytejneofoabmojaa", sum := "195ee04d47e649755a7dcd65fe9c11cbd73290d187ea995ff1092d49742448d6", func := "loop.example/g00477/laws.FnExactFollow", spec := "fnExactFollow", unfollowed := true, recurses := true, apart := false, narrowed := true }
def FnExactFollowUptoSaid : Prop := fnExactFollowUptoRow.holds Try.pinned (OpenSpec.upto fnExactFollowSpec)

/-- 'laws.FnExactReplySame', WHERE WHAT IT READS IS OF BULK AT MOST 1048576: true; the input reads as it did. -/
def fnExactReplySameUptoRow : OpenClaim := { program := "ytejneofoabmojaa", sum := "195ee04d47e649755a7dcd65fe9c11cbd73290d187ea995ff1092d49742448d6", func := "loop.example/g00477/laws.FnExactReplySame", spec := "fnExactReplySame", apart := false, narrowed := true }
def FnExactReplySameUptoSaid : Prop := fnExactReplySameUptoRow.holds Try.pinned (OpenSpec.upto fnExactReplySameSpec)

end Rows
end Go.Proofs.Ytejneofoabmojaa
