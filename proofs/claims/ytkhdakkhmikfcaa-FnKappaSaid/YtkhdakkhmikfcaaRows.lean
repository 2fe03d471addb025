/-
  No cell of these rows narrows 'for every input' (looked for: loops, veiled, ifaces, maps, wideKeys, modest, calm, conditions, laid).
  DERIVED. THE GIVEN ROWS OF THIS SEAT. 8 by the template 'for every input the law returns true; each argument reads behind the call as it read before'; 0 by the template 'total and deterministic' (their statements: YtkhdakkhmikfcaaTotals.lean).
  GIVEN WITH THE SEED: the statements are not yours to turn. If you find one false, say at which input.
  Laid BY PROGRAM, IN A SANDBOX (cutbox-rows.mjs): the forced cells as the released guide's own fill.sh prints them over the translation b435525c9bafc9aa… (all of the seat's roots in one cut). By AI agents, Wed Nov 11 2026. No macro, syntax, notation, axiom, sorry.
-/
import Derived.Test.YtkhdakkhmikfcaaChecked
import GoSem.Claim
import GoSem.ClaimJoined
import GoSem.ClaimMapViews
import Derived.JoinedTies
import Derived.KernelRfl
namespace Go.Proofs.Ytkhdakkhmikfcaa
/- THE CELL 'sum', in the pinned program and in every row, IS THE sha256 OF THE DUMP (.gsa) THAT YtkhdakkhmikfcaaProg.lean LOADS. Nothing in Lean hashes anything: it is a label: what it is worth is what the hold of that sum in a sandbox is worth. -/
noncomputable def Try.pinned : Pinned := { name := "ytkhdakkhmikfcaa", sum := "b435525c9bafc9aaf4abde6a69f6f13d1c53ce1000dc585980b01003d1a1bda6", checked := Try.checked }
namespace Rows
def none {H : Type} : Left H := { results := [], args := [] }

/-- 'laws.FnExactRight': WHATEVER THE INPUT: true; the input reads as it did. -/
def fnExactRightSpec : ChangeSpec := { name := "fnExactRight", fn := fun _ => fun
  | [d1, d2] => { results := [.lit (.bool true)], args := [d1, d2] }
  | _ => none }
def fnExactRightRow : OpenClaim := { program := "ytkhdakkhmikfcaa", sum := "b435525c9bafc9aaf4abde6a69f6f13d1c53ce1000dc585980b01003d1a1bda6", func := "loop.example/g00477/laws.FnExactRight", spec := "fnExactRight", unfollowed := true, recurses := true, plainKeys := false, apart := false }
def FnExactRightSaid : Prop := fnExactRightRow.holds Try.pinned (OpenSpec.ofChange fnExactRightSpec)

/-- ITS FALSE NEIGHBOUR: 'it returns false'. Refute it at one input. -/
def fnExactRightWrong : ChangeSpec := { name := "fnExactRight", fn := fun _ => fun
  | [d1, d2] => { results := [.lit (.bool false)], args := [d1, d2] }
  | _ => none }
def FnExactRightWrongFalsely : Prop := fnExactRightRow.holds Try.pinned (OpenSpec.ofChange fnExactRightWrong)

/-- 'laws.FnExactLastRight': WHATEVER THE INPUT: true; the input reads as it did. -/
def fnExactLastRightSpec : ChangeSpec := { name := "fnExactLastRight", fn := fun _ => fun
  | [d1, d2] => { results := [.lit (.bool true)], args := [d1, d2] }
  | _ => none }
def fnExactLastRightRow : OpenClaim := { program := "ytkhdakkhmikfcaa", sum := "b435525c9bafc9aaf4abde6a69f6f13d1c53ce1000dc585980b01003d1a1bda6", func := "loop.example/g00477/laws.FnExactLastRight", spec := "fnExactLastRight", unfollowed := true, recurses := true, plainKeys := false, apart := false }
def FnExactLastRightSaid : Prop := fnExactLastRightRow.holds Try.pinned (OpenSpec.ofChange fnExactLastRightSpec)

/-- ITS FALSE NEIGHBOUR: 'it returns false'. Refute it at one input. -/
def fnExactLastRightWrong : ChangeSpec := { name := "fnExactLastRight", fn := fun _ => fun
  | [d1, d2] => { results := [.lit (.bool false)], args := [d1, d2] }
  | _ => none }
def FnExactLastRightWrongFalsely : Prop := fnExactLastRightRow.holds Try.pinned (OpenSpec.ofChange fnExactLastRightWrong)

/-- 'laws.FnExactCount': WHATEVER THE INPUT: true; the input reads as it did. -/
def fnExactCountSpec : ChangeSpec := { name := "fnExactCount", fn := fun _ => fun
  | [d1, d2] => { results := [.lit (.bool true)], args := [d1, d2] }
  | _ => none }
def fnExactCountRow : OpenClaim := { program := "ytkhdakkhmikfcaa", sum := "b435525c9bafc9aaf4abde6a69f6f13d1c53ce1000dc585980b01003d1a1bda6", func := "loop.example/g00477/laws.FnExactCount", spec := "fnExactCount", unfollowed := true, recurses := true, plainKeys := false, apart := false }
def FnExactCountSaid : Prop := fnExactCountRow.holds Try.pinned (OpenSpec.ofChange fnExactCountSpec)

/-- ITS FALSE NEIGHBOUR: 'it returns false'. Refute it at one input. -/
def fnExactCountWrong : ChangeSpec := { name := "fnExactCount", fn := fun _ => fun
  | [d1, d2] => { results := [.lit (.bool false)], args := [d1, d2] }
  | _ => none }
def FnExactCountWrongFalsely : Prop := fnExactCountRow.holds Try.pinned (OpenSpec.ofChange fnExactCountWrong)

/-- 'laws.FnExactKappa': WHATEVER THE INPUT: true; the input reads as it did. -/
def fnExactKappaSpec : ChangeSpec := { name := "fnExactKappa", fn := fun _ => fun
  | [d1, d2] => { results := [.lit (.bool true)], args := [d1, d2] }
  | _ => none }
def fnExactKappaRow : OpenClaim := { program := "ytkhdakkhmikfcaa", sum := "b435525c9bafc9aaf4abde6a69f6f13d1c53ce1000dc585980b01003d1a1bda6", func := "loop.example/g00477/laws.FnExactKappa", spec := "fnExactKappa", unfollowed := true, recurses := true, plainKeys := false, apart := false }
def FnExactKappaSaid : Prop := fnExactKappaRow.holds Try.pinned (OpenSpec.ofChange fnExactKappaSpec)

/-- ITS FALSE NEIGHBOUR: 'it returns false'. Refute it at one input. -/
def fnExactKappaWrong : ChangeSpec := { name := "fnExactKappa", fn := fun _ => fun
  | [d1, d2] => { results := [.lit (.bool false)], args := [d1, d2] }
  | _ => none }
def FnExactKappaWrongFalsely : Prop := fnExactKappaRow.holds Try.pinned (OpenSpec.ofChange fnExactKappaWrong)

/-- 'laws.FnExactRecall': WHATEVER THE INPUT: true; the input reads as it did. -/
def fnExactRecallSpec : ChangeSpec := { name := "fnExactRecall", fn := fun _ => fun
  | [d1, d2, d3] => { results := [.lit (.bool true)], args := [d1, d2, d3] }
  | _ => none }
def fnExactRecallRow : OpenClaim := { program := "ytkhdakkhmikfcaa", sum := "b435525c9bafc9aaf4abde6a69f6f13d1c53ce1000dc585980b01003d1a1bda6", func := "loop.example/g00477/laws.FnExactRecall", spec := "fnExactRecall", unfollowed := true, recurses := true, plainKeys := false, apart := false }
def FnExactRecallSaid : Prop := fnExactRecallRow.holds Try.pinned (OpenSpec.ofChange fnExactRecallSpec)

/-- ITS FALSE NEIGHBOUR: 'it returns false'. Refute it at one input. -/
def fnExactRecallWrong : ChangeSpec := { name := "fnExactRecall", fn := fun _ => fun
  | [d1, d2, d3] => { results := [.lit (.bool false)], args := [d1, d2, d3] }
  | _ => none }
def FnExactRecallWrongFalsely : Prop := fnExactRecallRow.holds Try.pinned (OpenSpec.ofChange fnExactRecallWrong)

/-- 'laws.FnExactAccuracy': WHATEVER THE INPUT: true; the input reads as it did. -/
def fnExactAccuracySpec : ChangeSpec := { name := "fnExactAccuracy", fn := fun _ => fun
  | [d1, d2] => { results := [.lit (.bool true)], args := [d1, d2] }
  | _ => none }
def fnExactAccuracyRow : OpenClaim := { program := "ytkhdakkhmikfcaa", sum := "b435525c9bafc9aaf4abde6a69f6f13d1c53ce1000dc585980b01003d1a1bda6", func := "loop.example/g00477/laws.FnExactAccuracy", spec := "fnExactAccuracy", unfollowed := true, recurses := true, plainKeys := false, apart := false }
def FnExactAccuracySaid : Prop := fnExactAccuracyRow.holds Try.pinned (OpenSpec.ofChange fnExactAccuracySpec)

/-- ITS FALSE NEIGHBOUR: 'it returns false'. Refute it at one input. -/
def fnExactAccuracyWrong : ChangeSpec := { name := "fnExactAccuracy", fn := fun _ => fun
  | [d1, d2] => { results := [.lit (.bool false)], args := [d1, d2] }
  | _ => none }
def FnExactAccuracyWrongFalsely : Prop := fnExactAccuracyRow.holds Try.pinned (OpenSpec.ofChange fnExactAccuracyWrong)

/-- 'laws.FnExactScoreAdd': WHATEVER THE INPUT: true; the input reads as it did. -/
def fnExactScoreAddSpec : ChangeSpec := { name := "fnExactScoreAdd", fn := fun _ => fun
  | [d1, d2, d3, d4] => { results := [.lit (.bool true)], args := [d1, d2, d3, d4] }
  | _ => none }
def fnExactScoreAddRow : OpenClaim := { program := "ytkhdakkhmikfcaa", sum := "b435525c9bafc9aaf4abde6a69f6f13d1c53ce1000dc585980b01003d1a1bda6", func := "loop.example/g00477/laws.FnExactScoreAdd", spec := "fnExactScoreAdd", unfollowed := true, recurses := true, plainKeys := false, apart := false }
def FnExactScoreAddSaid : Prop := fnExactScoreAddRow.holds Try.pinned (OpenSpec.ofChange fnExactScoreAddSpec)

/-- ITS FALSE NEIGHBOUR: 'it returns false'. Refute it at one input. -/
def fnExactScoreAddWrong : ChangeSpec := { name := "fnExactScoreAdd", fn := fun _ => fun
  | [d1, d2, d3, d4] => { results := [.lit (.bool false)], args := [d1, d2, d3, d4] }
  | _ => none }
def FnExactScoreAddWrongFalsely : Prop := fnExactScoreAddRow.holds Try.pinned (OpenSpec.ofChange fnExactScoreAddWrong)

/-- 'laws.FnKappa': WHATEVER THE INPUT: true; the input reads as it did. -/
def fnKappaSpec : ChangeSpec := { name := "fnKappa", fn := fun _ => fun
  | [d] => { results := [.lit (.bool true)], args := [d] }
  | _ => none }
def fnKappaRow : OpenClaim := { program := "ytkhdakkhmikfcaa", sum := "b435525c9bafc9aaf4abde6a69f6f13d1c53ce1000dc585980b01003d1a1bda6", func := "loop.example/g00477/laws.FnKappa", spec := "fnKappa", unfollowed := true, recurses := true, plainKeys := false, apart := false }
def FnKappaSaid : Prop := fnKappaRow.holds Try.pinned (OpenSpec.ofChange fnKappaSpec)

/-- ITS FALSE NEIGHBOUR: 'it returns false'. Refute it at one input. -/
def fnKappaWrong : ChangeSpec := { name := "fnKappa", fn := fun _ => fun
  | [d] => { results := [.lit (.bool false)], args := [d] }
  | _ => none }
def FnKappaWrongFalsely : Prop := fnKappaRow.holds Try.pinned (OpenSpec.ofChange fnKappaWrong)

/- THE SECOND FORM. 'bulk': how many values and letters a reading holds, each counted each time it is reached (what is shared counts as often as it is met; a slice's spare places count too). A statement '..UptoSaid' is the law's where the arguments, and the package variables that the reading takes, are together of bulk at most 1048576: NARROWER than '..Said'. Prove '..Said' where nothing that the law and all that it calls make is longer than what came in: it says more and counts as full. Else prove '..UptoSaid'. A law counts once. -/
mutual
def uptoBulk {H : Type} : DataW H → Nat
  | .lit (.string bytes) => bytes.length + 1
  | .lit _ => 1
  | .nil => 1
  | .ptr d => uptoBulk d + 1
  | .slice elems spare => uptoBulkAll elems + uptoBulkAll spare + 1
  | .agg parts => uptoBulkAll parts + 1
  | .iface _ d => uptoBulk d + 1
  | .map entries => uptoBulkEntries entries + 1
  | .held _ => 1
def uptoBulkAll {H : Type} : List (DataW H) → Nat
  | [] => 0
  | d :: r => uptoBulk d + uptoBulkAll r
def uptoBulkEntries {H : Type} : List (Lit × DataW H) → Nat
  | [] => 0
  | x :: r => uptoBulkEntry x + uptoBulkEntries r
def uptoBulkEntry {H : Type} : Lit × DataW H → Nat
  | (.string bytes, d) => bytes.length + uptoBulk d + 1
  | (_, d) => uptoBulk d + 1
 end
def uptoSmall : (H : Type) → List (DataW H) → Bool := fun _ ds => decide (uptoBulkAll ds ≤ 1048576)
def OpenSpec.upto (s : _root_.Go.ChangeSpec) : _root_.Go.OpenSpec := { _root_.Go.OpenSpec.ofChange s with cond := some uptoSmall }

/-- 'laws.FnExactRight', WHERE WHAT IT READS IS OF BULK AT MOST 1048576: true; the input reads as it did. -/
def fnExactRightUptoRow : OpenClaim := { program := "ytkhdakkhmikfcaa", sum := "b435525c9bafc9aaf4abde6a69f6f13d1c53ce1000dc585980b01003d1a1bda6", func := "loop.example/g00477/laws.FnExactRight", spec := "fnExactRight", unfollowed := true, recurses := true, plainKeys := false, apart := false, narrowed := true }
def FnExactRightUptoSaid : Prop := fnExactRightUptoRow.holds Try.pinned (OpenSpec.upto fnExactRightSpec)

/-- 'laws.FnExactLastRight', WHERE WHAT IT READS IS OF BULK AT MOST 1048576: true; the input reads as it did. -/
def fnExactLastRightUptoRow : OpenClaim := { program := "ytkhdakkhmikfcaa", sum := "b435525c9bafc9aaf4abde6a69f6f13d1c53ce1000dc585980b01003d1a1bda6", func := "loop.example/g00477/laws.FnExactLastRight", spec := "fnExactLastRight", unfollowed := true, recurses := true, plainKeys := false, apart := false, narrowed := true }
def FnExactLastRightUptoSaid : Prop := fnExactLastRightUptoRow.holds Try.pinned (OpenSpec.upto fnExactLastRightSpec)

/-- 'laws.FnExactCount', WHERE WHAT IT READS IS OF BULK AT MOST 1048576: true; the input reads as it did. -/
def fnExactCountUptoRow : OpenClaim := { program := "ytkhdakkhmikfcaa", sum := "b435525c9bafc9aaf4abde6a69f6f13d1c53ce1000dc585980b01003d1a1bda6", func := "loop.example/g00477/laws.FnExactCount", spec := "fnExactCount", unfollowed := true, recurses := true, plainKeys := false, apart := false, narrowed := true }
def FnExactCountUptoSaid : Prop := fnExactCountUptoRow.holds Try.pinned (OpenSpec.upto fnExactCountSpec)

/-- 'laws.FnExactKappa', WHERE WHAT IT READS IS OF BULK AT MOST 1048576: true; the input reads as it did. -/
def fnExactKappaUptoRow : OpenClaim := { program := "ytkhdakkhmikfcaa", sum := "b435525c9bafc9aaf4abde6a69f6f13d1c53ce1000dc585980b01003d1a1bda6", func := "loop.example/g00477/laws.FnExactKappa", spec := "fnExactKappa", unfollowed := true, recurses := true, plainKeys := false, apart := false, narrowed := true }
def FnExactKappaUptoSaid : Prop := fnExactKappaUptoRow.holds Try.pinned (OpenSpec.upto fnExactKappaSpec)

/-- 'laws.FnExactRecall', WHERE WHAT IT READS IS OF BULK AT MOST 1048576: true; the input reads as it did. -/
def fnExactRecallUptoRow : OpenClaim := { program := "ytkhdakkhmikfcaa", sum := "b435525c9bafc9aaf4abde6a69f6f13d1c53ce1000dc585980b01003d1a1bda6", func := "loop.example/g00477/laws.FnExactRecall", spec := "fnExactRecall", unfollowed := true, recurses := true, plainKeys := false, apart := false, narrowed := true }
def FnExactRecallUptoSaid : Prop := fnExactRecallUptoRow.holds Try.pinned (OpenSpec.upto fnExactRecallSpec)

/-- 'laws.FnExactAccuracy', WHERE WHAT IT READS IS OF BULK AT MOST 1048576: true; the input reads as it did. -/
def fnExactAccuracyUptoRow : OpenClaim := { program := "ytkhdakkhmikfcaa", sum := "b435525c9bafc9aaf4abde6a69f6f13d1c53ce1000dc585980b01003d1a1bda6", func := "loop.example/g00477/laws.FnExactAccuracy", spec := "fnExactAccuracy", unfollowed := true, recurses := true, plainKeys := false, apart := false, narrowed := true }
def FnExactAccuracyUptoSaid : Prop := fnExactAccuracyUptoRow.holds Try.pinned (OpenSpec.upto fnExactAccuracySpec)

/-- 'laws.FnExactScoreAdd', WHERE WHAT IT READS IS OF BULK AT MOST 1048576: true; the input reads as it did. -/
def fnExactScoreAddUptoRow : OpenClaim := { program := "ytkhdakkhmikfcaa", sum := "b435525c9bafc9aaf4abde6a69f6f13d1c53ce1000dc585980b01003d1a1bda6", func := "loop.example/g00477/laws.FnExactScoreAdd", spec := "fnExactScoreAdd", unfollowed := true, recurses := true, plainKeys := false, apart := false, narrowed := true }
def FnExactScoreAddUptoSaid : Prop := fnExactScoreAddUptoRow.holds Try.pinned (OpenSpec.upto fnExactScoreAddSpec)

/-- 'laws.FnKappa', WHERE WHAT IT READS IS OF BULK AT MOST 1048576: true; the input reads as it did. -/
def fnKappaUptoRow : OpenClaim := { program := "ytkhdakkhmikfcaa", sum := "b435525c9bafc9aaf4abde6a69f6f13d1c53ce1000dc585980b01003d1a1bda6", func := "loop.example/g00477/laws.FnKappa", spec := "fnKappa", unfollowed := true, recurses := true, plainKeys := false, apart := false, narrowed := true }
def FnKappaUptoSaid : Prop := fnKappaUptoRow.holds Try.pinned (OpenSpec.upto fnKappaSpec)

end Rows
end Go.Proofs.Ytkhdakkhmikfcaa
