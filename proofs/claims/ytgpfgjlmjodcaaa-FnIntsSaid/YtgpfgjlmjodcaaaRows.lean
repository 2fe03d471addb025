/-
  No cell of these rows narrows 'for every input' (looked for: loops, veiled, ifaces, maps, wideKeys, modest, calm, conditions, laid).
  DERIVED. THE GIVEN ROWS OF THIS SEAT. 7 by the template 'for every input the law returns true; each argument reads behind the call as it read before'; 0 by the template 'total and deterministic' (their statements: YtgpfgjlmjodcaaaTotals.lean).
  GIVEN WITH THE SEED: the statements are not yours to turn. If you find one false, say at which input.
  Laid BY PROGRAM, IN A SANDBOX (cutbox-rows.mjs): the forced cells as the released guide's own fill.sh prints them over the translation 2f0a576194c62034… (all of the seat's roots in one cut). By AI agents, Wed Nov 11 2026. No macro, syntax, notation, axiom, sorry.
-/
import Derived.Test.YtgpfgjlmjodcaaaChecked
import GoSem.Claim
import GoSem.ClaimJoined
import GoSem.ClaimMapViews
import Derived.JoinedTies
import Derived.KernelRfl
namespace Go.Proofs.Ytgpfgjlmjodcaaa
/- THE CELL 'sum', in the pinned program and in every row, IS THE sha256 OF THE DUMP (.gsa) THAT YtgpfgjlmjodcaaaProg.lean LOADS. Nothing in Lean hashes anything: it is a label: what it is worth is what the hold of that sum in a sandbox is worth. -/
noncomputable def Try.pinned : Pinned := { name := "ytgpfgjlmjodcaaa", sum := "2f0a576194c62034e682fc4c1fc39467b9bccd7921042a6efdf3262aad80447c", checked := Try.checked }
namespace Rows
def none {H : Type} : Left H := { results := [], args := [] }

/-- 'laws.FnExactPutInts': WHATEVER THE INPUT: true; the input reads as it did. -/
def fnExactPutIntsSpec : ChangeSpec := { name := "fnExactPutInts", fn := fun _ => fun
  | [d] => { results := [.lit (.bool true)], args := [d] }
  | _ => none }
def fnExactPutIntsRow : OpenClaim := { program := "ytgpfgjlmjodcaaa", sum := "2f0a576194c62034e682fc4c1fc39467b9bccd7921042a6efdf3262aad80447c", func := "loop.example/g00477/laws.FnExactPutInts", spec := "fnExactPutInts", apart := false }
def FnExactPutIntsSaid : Prop := fnExactPutIntsRow.holds Try.pinned (OpenSpec.ofChange fnExactPutIntsSpec)

/-- ITS FALSE NEIGHBOUR: 'it returns false'. Refute it at one input. -/
def fnExactPutIntsWrong : ChangeSpec := { name := "fnExactPutInts", fn := fun _ => fun
  | [d] => { results := [.lit (.bool false)], args := [d] }
  | _ => none }
def FnExactPutIntsWrongFalsely : Prop := fnExactPutIntsRow.holds Try.pinned (OpenSpec.ofChange fnExactPutIntsWrong)

/-- 'laws.FnExactGetInts': WHATEVER THE INPUT: true; the input reads as it did. -/
def fnExactGetIntsSpec : ChangeSpec := { name := "fnExactGetInts", fn := fun _ => fun
  | [d1, d2] => { results := [.lit (.bool true)], args := [d1, d2] }
  | _ => none }
def fnExactGetIntsRow : OpenClaim := { program := "ytgpfgjlmjodcaaa", sum := "2f0a576194c62034e682fc4c1fc39467b9bccd7921042a6efdf3262aad80447c", func := "loop.example/g00477/laws.FnExactGetInts", spec := "fnExactGetInts", apart := false }
def FnExactGetIntsSaid : Prop := fnExactGetIntsRow.holds Try.pinned (OpenSpec.ofChange fnExactGetIntsSpec)

/-- ITS FALSE NEIGHBOUR: 'it returns false'. Refute it at one input. -/
def fnExactGetIntsWrong : ChangeSpec := { name := "fnExactGetInts", fn := fun _ => fun
  | [d1, d2] => { results := [.lit (.bool false)], args := [d1, d2] }
  | _ => none }
def FnExactGetIntsWrongFalsely : Prop := fnExactGetIntsRow.holds Try.pinned (OpenSpec.ofChange fnExactGetIntsWrong)

/-- 'laws.FnExactPutWindow': WHATEVER THE INPUT: true; the input reads as it did. -/
def fnExactPutWindowSpec : ChangeSpec := { name := "fnExactPutWindow", fn := fun _ => fun
  | [d] => { results := [.lit (.bool true)], args := [d] }
  | _ => none }
def fnExactPutWindowRow : OpenClaim := { program := "ytgpfgjlmjodcaaa", sum := "2f0a576194c62034e682fc4c1fc39467b9bccd7921042a6efdf3262aad80447c", func := "loop.example/g00477/laws.FnExactPutWindow", spec := "fnExactPutWindow", apart := false }
def FnExactPutWindowSaid : Prop := fnExactPutWindowRow.holds Try.pinned (OpenSpec.ofChange fnExactPutWindowSpec)

/-- ITS FALSE NEIGHBOUR: 'it returns false'. Refute it at one input. -/
def fnExactPutWindowWrong : ChangeSpec := { name := "fnExactPutWindow", fn := fun _ => fun
  | [d] => { results := [.lit (.bool false)], args := [d] }
  | _ => none }
def FnExactPutWindowWrongFalsely : Prop := fnExactPutWindowRow.holds Try.pinned (OpenSpec.ofChange fnExactPutWindowWrong)

/-- 'laws.FnExactGetWindow': WHATEVER THE INPUT: true; the input reads as it did. -/
def fnExactGetWindowSpec : ChangeSpec := { name := "fnExactGetWindow", fn := fun _ => fun
  | [d1, d2] => { results := [.lit (.bool true)], args := [d1, d2] }
  | _ => none }
def fnExactGetWindowRow : OpenClaim := { program := "ytgpfgjlmjodcaaa", sum := "2f0a576194c62034e682fc4c1fc39467b9bccd7921042a6efdf3262aad80447c", func := "loop.example/g00477/laws.FnExactGetWindow", spec := "fnExactGetWindow", apart := false }
def FnExactGetWindowSaid : Prop := fnExactGetWindowRow.holds Try.pinned (OpenSpec.ofChange fnExactGetWindowSpec)

/-- ITS FALSE NEIGHBOUR: 'it returns false'. Refute it at one input. -/
def fnExactGetWindowWrong : ChangeSpec := { name := "fnExactGetWindow", fn := fun _ => fun
  | [d1, d2] => { results := [.lit (.bool false)], args := [d1, d2] }
  | _ => none }
def FnExactGetWindowWrongFalsely : Prop := fnExactGetWindowRow.holds Try.pinned (OpenSpec.ofChange fnExactGetWindowWrong)

/-- 'laws.FnExactPutTree': WHATEVER THE INPUT: true; the input reads as it did. -/
def fnExactPutTreeSpec : ChangeSpec := { name := "fnExactPutTree", fn := fun _ => fun
  | [d] => { results := [.lit (.bool true)], args := [d] }
  | _ => none }
def fnExactPutTreeRow : OpenClaim := { program := "ytgpfgjlmjodcaaa", sum := "2f0a576194c62034e682fc4c1fc39467b9bccd7921042a6efdf3262aad80447c", func := "loop.example/g00477/laws.FnExactPutTree", spec := "fnExactPutTree", apart := false }
def FnExactPutTreeSaid : Prop := fnExactPutTreeRow.holds Try.pinned (OpenSpec.ofChange fnExactPutTreeSpec)

/-- ITS FALSE NEIGHBOUR: 'it returns false'. Refute it at one input. -/
def fnExactPutTreeWrong : ChangeSpec := { name := "fnExactPutTree", fn := fun _ => fun
  | [d] => { results := [.lit (.bool false)], args := [d] }
  | _ => none }
def FnExactPutTreeWrongFalsely : Prop := fnExactPutTreeRow.holds Try.pinned (OpenSpec.ofChange fnExactPutTreeWrong)

/-- 'laws.FnExactGetTree': WHATEVER THE INPUT: true; the input reads as it did. -/
def fnExactGetTreeSpec : ChangeSpec := { name := "fnExactGetTree", fn := fun _ => fun
  | [d1, d2] => { results := [.lit (.bool true)], args := [d1, d2] }
  | _ => none }
def fnExactGetTreeRow : OpenClaim := { program := "ytgpfgjlmjodcaaa", sum := "2f0a576194c62034e682fc4c1fc39467b9bccd7921042a6efdf3262aad80447c", func := "loop.example/g00477/laws.FnExactGetTree", spec := "fnExactGetTree", apart := false }
def FnExactGetTreeSaid : Prop := fnExactGetTreeRow.holds Try.pinned (OpenSpec.ofChange fnExactGetTreeSpec)

/-- ITS FALSE NEIGHBOUR: 'it returns false'. Refute it at one input. -/
def fnExactGetTreeWrong : ChangeSpec := { name := "fnExactGetTree", fn := fun _ => fun
  | [d1, d2] => { results := [.lit (.bool false)], args := [d1, d2] }
  | _ => none }
def FnExactGetTreeWrongFalsely : Prop := fnExactGetTreeRow.holds Try.pinned (OpenSpec.ofChange fnExactGetTreeWrong)

/-- 'laws.FnInts': WHATEVER THE INPUT: true; the input reads as it did. -/
def fnIntsSpec : ChangeSpec := { name := "fnInts", fn := fun _ => fun
  | [d] => { results := [.lit (.bool true)], args := [d] }
  | _ => none }
def fnIntsRow : OpenClaim := { program := "ytgpfgjlmjodcaaa", sum := "2f0a576194c62034e682fc4c1fc39467b9bccd7921042a6efdf3262aad80447c", func := "loop.example/g00477/laws.FnInts", spec := "fnInts", apart := false }
def FnIntsSaid : Prop := fnIntsRow.holds Try.pinned (OpenSpec.ofChange fnIntsSpec)

/-- ITS FALSE NEIGHBOUR: 'it returns false'. Refute it at one input. -/
def fnIntsWrong : ChangeSpec := { name := "fnInts", fn := fun _ => fun
  | [d] => { results := [.lit (.bool false)], args := [d] }
  | _ => none }
def FnIntsWrongFalsely : Prop := fnIntsRow.holds Try.pinned (OpenSpec.ofChange fnIntsWrong)

/- THE SECOND FORM. 'bulk': how many values and letters a reading holds, each counted each time it is reached (what is shared counts as often as it is met; a slice's spare places count too). A statement '..UptoSaid' is the law's where the arguments, and the package variables that the reading takes, are together of bulk at most 1048576: NARROWER than '..Said'. Prove '..Said' where nothing that the law and all that it calls make is longer than what came in: it says more and counts as full. Else prove '..UptoSaid'. A law counts once. -/
mutual
def uptoBulk {H : Type} : DataW H → Nat
  | .lit (.string bytes) => bytes.length + 1
  | .lit _ => 1
  | .nil => 1
  | .ptr d => uptoBulk d + 1
  | .slice elems spare => uptoBulkAll elems + uptoBulkAll spare + 1
  | .agg parts => uptoBulkAll parts + 1
  | .iface _ d => uptoBulk d + 1
  | .map entries => uptoBulkEntries entries + 1
  | .held _ => 1
def uptoBulkAll {H : Type} : List (DataW H) → Nat
  | [] => 0
  | d :: r => uptoBulk d + uptoBulkAll r
def uptoBulkEntries {H : Type} : List (Lit × DataW H) → Nat
  | [] => 0
  | x :: r => uptoBulkEntry x + uptoBulkEntries r
def uptoBulkEntry {H : Type} : Lit × DataW H → Nat
  | (.string bytes, d) => bytes.length + uptoBulk d + 1
  | (_, d) => uptoBulk d + 1
 end
def uptoSmall : (H : Type) → List (DataW H) → Bool := fun _ ds => decide (uptoBulkAll ds ≤ 1048576)
def OpenSpec.upto (s : _root_.Go.ChangeSpec) : _root_.Go.OpenSpec := { _root_.Go.OpenSpec.ofChange s with cond := some uptoSmall }

/-- 'laws.FnExactPutInts', WHERE WHAT IT READS IS OF BULK AT MOST 1048576: true; the input reads as it did. -/
def fnExactPutIntsUptoRow : OpenClaim := { program := "ytgpfgjlmjodcaaa", sum := "2f0a576194c62034e682fc4c1fc39467b9bccd7921042a6efdf3262aad80447c", func := "loop.example/g00477/laws.FnExactPutInts", spec := "fnExactPutInts", apart := false, narrowed := true }
def FnExactPutIntsUptoSaid : Prop := fnExactPutIntsUptoRow.holds Try.pinned (OpenSpec.upto fnExactPutIntsSpec)

/-- 'laws.FnExactGetInts', WHERE WHAT IT READS IS OF BULK AT MOST 1048576: true; the input reads as it did. -/
def fnExactGetIntsUptoRow : OpenClaim := { program := "ytgpfgjlmjodcaaa", sum := "2f0a576194c62034e682fc4c1fc39467b9bccd7921042a6efdf3262aad80447c", func := "loop.example/g00477/laws.FnExactGetInts", spec := "fnExactGetInts", apart := false, narrowed := true }
def FnExactGetIntsUptoSaid : Prop := fnExactGetIntsUptoRow.holds Try.pinned (OpenSpec.upto fnExactGetIntsSpec)

/-- 'laws.FnExactPutWindow', WHERE WHAT IT READS IS OF BULK AT MOST 1048576: true; the input reads as it did. -/
def fnExactPutWindowUptoRow : OpenClaim := { program := "ytgpfgjlmjodcaaa", sum := "2f0a576194c62034e682fc4c1fc39467b9bccd7921042a6efdf3262aad80447c", func := "loop.example/g00477/laws.FnExactPutWindow", spec := "fnExactPutWindow", apart := false, narrowed := true }
def FnExactPutWindowUptoSaid : Prop := fnExactPutWindowUptoRow.holds Try.pinned (OpenSpec.upto fnExactPutWindowSpec)

/-- 'laws.FnExactGetWindow', WHERE WHAT IT READS IS OF BULK AT MOST 1048576: true; the input reads as it did. -/
def fnExactGetWindowUptoRow : OpenClaim := { program := "ytgpfgjlmjodcaaa", sum := "2f0a576194c62034e682fc4c1fc39467b9bccd7921042a6efdf3262aad80447c", func := "loop.example/g00477/laws.FnExactGetWindow", spec := "fnExactGetWindow", apart := false, narrowed := true }
def FnExactGetWindowUptoSaid : Prop := fnExactGetWindowUptoRow.holds Try.pinned (OpenSpec.upto fnExactGetWindowSpec)

/-- 'laws.FnExactPutTree', WHERE WHAT IT READS IS OF BULK AT MOST 1048576: true; the input reads as it did. -/
def fnExactPutTreeUptoRow : OpenClaim := { program := "ytgpfgjlmjodcaaa", sum := "2f0a576194c62034e682fc4c1fc39467b9bccd7921042a6efdf3262aad80447c", func := "loop.example/g00477/laws.FnExactPutTree", spec := "fnExactPutTree", apart := false, narrowed := true }
def FnExactPutTreeUptoSaid : Prop := fnExactPutTreeUptoRow.holds Try.pinned (OpenSpec.upto fnExactPutTreeSpec)

/-- 'laws.FnExactGetTree', WHERE WHAT IT READS IS OF BULK AT MOST 1048576: true; the input reads as it did. -/
def fnExactGetTreeUptoRow : OpenClaim := { program := "ytgpfgjlmjodcaaa", sum := "2f0a576194c62034e682fc4c1fc39467b9bccd7921042a6efdf3262aad80447c", func := "loop.example/g00477/laws.FnExactGetTree", spec := "fnExactGetTree", apart := false, narrowed := true }
def FnExactGetTreeUptoSaid : Prop := fnExactGetTreeUptoRow.holds Try.pinned (OpenSpec.upto fnExactGetTreeSpec)

/-- 'laws.FnInts', WHERE WHAT IT READS IS OF BULK AT MOST 1048576: true; the input reads as it did. -/
def fnIntsUptoRow : OpenClaim := { program := "ytgpfgjlmjodcaaa", sum := "2f0a576194c62034e682fc4c1fc39467b9bccd7921042a6efdf3262aad80447c", func := "loop.example/g00477/laws.FnInts", spec := "fnInts", apart := false, narrowed := true }
def FnIntsUptoSaid : Prop := fnIntsUptoRow.holds Try.pinned (OpenSpec.upto fnIntsSpec)

end Rows
end Go.Proofs.Ytgpfgjlmjodcaaa
