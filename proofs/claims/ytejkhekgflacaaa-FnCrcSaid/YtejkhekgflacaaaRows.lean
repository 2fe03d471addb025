/-
  No cell of these rows narrows 'for every input' (looked for: loops, veiled, ifaces, maps, wideKeys, modest, calm, conditions, laid).
  DERIVED. THE GIVEN ROWS OF THIS SEAT. 6 by the template 'for every input the law returns true; each argument reads behind the call as it read before'; 0 by the template 'total and deterministic' (their statements: YtejkhekgflacaaaTotals.lean).
  GIVEN WITH THE SEED: the statements are not yours to turn. If you find one false, say at which input.
  Laid BY PROGRAM, IN A SANDBOX (cutbox-rows.mjs): the forced cells as the released guide's own fill.sh prints them over the translation c1f08c5dc3170ed6… (all of the seat's roots in one cut). By AI agents, Wed Nov 11 2026. No macro, syntax, notation, axiom, sorry.
-/
import Derived.Test.YtejkhekgflacaaaChecked
import GoSem.Claim
import GoSem.ClaimJoined
import GoSem.ClaimMapViews
import Derived.JoinedTies
import Derived.KernelRfl
namespace Go.Proofs.Ytejkhekgflacaaa
/- THE CELL 'sum', in the pinned program and in every row, IS THE sha256 OF THE DUMP (.gsa) THAT YtejkhekgflacaaaProg.lean LOADS. Nothing in Lean hashes anything: it is a label: what it is worth is what the hold of that sum in a sandbox is worth. -/
noncomputable def Try.pinned : Pinned := { name := "ytejkhekgflacaaa", sum := "c1f08c5dc3170ed69cc95a6e901aeb82ad17a10f9f04e9615481e57590cbdb1f", checked := Try.checked }
namespace Rows
def none {H : Type} : Left H := { results := [], args := [] }

/-- 'laws.FnExactHexText': WHATEVER THE INPUT: true; the input reads as it did. -/
def fnExactHexTextSpec : ChangeSpec := { name := "fnExactHexText", fn := fun _ => fun
  | [d] => { results := [.lit (.bool true)], args := [d] }
  | _ => none }
def fnExactHexTextRow : OpenClaim := { program := "ytejkhekgflacaaa", sum := "c1f08c5dc3170ed69cc95a6e901aeb82ad17a10f9f04e9615481e57590cbdb1f", func := "loop.example/g00477/laws.FnExactHexText", spec := "fnExactHexText", apart := false }
def FnExactHexTextSaid : Prop := fnExactHexTextRow.holds Try.pinned (OpenSpec.ofChange fnExactHexTextSpec)

/-- ITS FALSE NEIGHBOUR: 'it returns false'. Refute it at one input. -/
def fnExactHexTextWrong : ChangeSpec := { name := "fnExactHexText", fn := fun _ => fun
  | [d] => { results := [.lit (.bool false)], args := [d] }
  | _ => none }
def FnExactHexTextWrongFalsely : Prop := fnExactHexTextRow.holds Try.pinned (OpenSpec.ofChange fnExactHexTextWrong)

/-- 'laws.FnExactCrc': WHATEVER THE INPUT: true; the input reads as it did. -/
def fnExactCrcSpec : ChangeSpec := { name := "fnExactCrc", fn := fun _ => fun
  | [d] => { results := [.lit (.bool true)], args := [d] }
  | _ => none }
def fnExactCrcRow : OpenClaim := { program := "ytejkhekgflacaaa", sum := "c1f08c5dc3170ed69cc95a6e901aeb82ad17a10f9f04e9615481e57590cbdb1f", func := "loop.example/g00477/laws.FnExactCrc", spec := "fnExactCrc", apart := false }
def FnExactCrcSaid : Prop := fnExactCrcRow.holds Try.pinned (OpenSpec.ofChange fnExactCrcSpec)

/-- ITS FALSE NEIGHBOUR: 'it returns false'. Refute it at one input. -/
def fnExactCrcWrong : ChangeSpec := { name := "fnExactCrc", fn := fun _ => fun
  | [d] => { results := [.lit (.bool false)], args := [d] }
  | _ => none }
def FnExactCrcWrongFalsely : Prop := fnExactCrcRow.holds Try.pinned (OpenSpec.ofChange fnExactCrcWrong)

/-- 'laws.FnExactPutInt': WHATEVER THE INPUT: true; the input reads as it did. -/
def fnExactPutIntSpec : ChangeSpec := { name := "fnExactPutInt", fn := fun _ => fun
  | [d] => { results := [.lit (.bool true)], args := [d] }
  | _ => none }
def fnExactPutIntRow : OpenClaim := { program := "ytejkhekgflacaaa", sum := "c1f08c5dc3170ed69cc95a6e901aeb82ad17a10f9f04e9615481e57590cbdb1f", func := "loop.example/g00477/laws.FnExactPutInt", spec := "fnExactPutInt", apart := false }
def FnExactPutIntSaid : Prop := fnExactPutIntRow.holds Try.pinned (OpenSpec.ofChange fnExactPutIntSpec)

/-- ITS FALSE NEIGHBOUR: 'it returns false'. Refute it at one input. -/
def fnExactPutIntWrong : ChangeSpec := { name := "fnExactPutInt", fn := fun _ => fun
  | [d] => { results := [.lit (.bool false)], args := [d] }
  | _ => none }
def FnExactPutIntWrongFalsely : Prop := fnExactPutIntRow.holds Try.pinned (OpenSpec.ofChange fnExactPutIntWrong)

/-- 'laws.FnCrc': WHATEVER THE INPUT: true; the input reads as it did. -/
def fnCrcSpec : ChangeSpec := { name := "fnCrc", fn := fun _ => fun
  | [d] => { results := [.lit (.bool true)], args := [d] }
  | _ => none }
def fnCrcRow : OpenClaim := { program := "ytejkhekgflacaaa", sum := "c1f08c5dc3170ed69cc95a6e901aeb82ad17a10f9f04e9615481e57590cbdb1f", func := "loop.example/g00477/laws.FnCrc", spec := "fnCrc", apart := false }
def FnCrcSaid : Prop := fnCrcRow.holds Try.pinned (OpenSpec.ofChange fnCrcSpec)

/-- ITS FALSE NEIGHBOUR: 'it returns false'. Refute it at one input. -/
def fnCrcWrong : ChangeSpec := { name := "fnCrc", fn := fun _ => fun
  | [d] => { results := [.lit (.bool false)], args := [d] }
  | _ => none }
def FnCrcWrongFalsely : Prop := fnCrcRow.holds Try.pinned (OpenSpec.ofChange fnCrcWrong)

/-- 'laws.FnExactHexOf': WHATEVER THE INPUT: true; the input reads as it did. -/
def fnExactHexOfSpec : ChangeSpec := { name := "fnExactHexOf", fn := fun _ => fun
  | [d] => { results := [.lit (.bool true)], args := [d] }
  | _ => none }
def fnExactHexOfRow : OpenClaim := { program := "ytejkhekgflacaaa", sum := "c1f08c5dc3170ed69cc95a6e901aeb82ad17a10f9f04e9615481e57590cbdb1f", func := "loop.example/g00477/laws.FnExactHexOf", spec := "fnExactHexOf", inPlace := ["internal/bytealg.IndexByteString"], apart := false }
def FnExactHexOfSaid : Prop := fnExactHexOfRow.holds Try.pinned (OpenSpec.ofChange fnExactHexOfSpec)

/-- ITS FALSE NEIGHBOUR: 'it returns false'. Refute it at one input. -/
def fnExactHexOfWrong : ChangeSpec := { name := "fnExactHexOf", fn := fun _ => fun
  | [d] => { results := [.lit (.bool false)], args := [d] }
  | _ => none }
def FnExactHexOfWrongFalsely : Prop := fnExactHexOfRow.holds Try.pinned (OpenSpec.ofChange fnExactHexOfWrong)

/-- 'laws.FnExactGetInt': WHATEVER THE INPUT: true; the input reads as it did. -/
def fnExactGetIntSpec : ChangeSpec := { name := "fnExactGetInt", fn := fun _ => fun
  | [d1, d2] => { results := [.lit (.bool true)], args := [d1, d2] }
  | _ => none }
def fnExactGetIntRow : OpenClaim := { program := "ytejkhekgflacaaa", sum := "c1f08c5dc3170ed69cc95a6e901aeb82ad17a10f9f04e9615481e57590cbdb1f", func := "loop.example/g00477/laws.FnExactGetInt", spec := "fnExactGetInt", apart := false }
def FnExactGetIntSaid : Prop := fnExactGetIntRow.holds Try.pinned (OpenSpec.ofChange fnExactGetIntSpec)

/-- ITS FALSE NEIGHBOUR: 'it returns false'. Refute it at one input. -/
def fnExactGetIntWrong : ChangeSpec := { name := "fnExactGetInt", fn := fun _ => fun
  | [d1, d2] => { results := [.lit (.bool false)], args := [d1, d2] }
  | _ => none }
def FnExactGetIntWrongFalsely : Prop := fnExactGetIntRow.holds Try.pinned (OpenSpec.ofChange fnExactGetIntWrong)

/- THE SECOND FORM. 'bulk': how many values and letters a reading holds, each counted each time it is reached (what is shared counts as often as it is met; a slice's spare places count too). A statement '..UptoSaid' is the law's where the arguments, and the package variables that the reading takes, are together of bulk at most 1048576: NARROWER than '..Said'. Prove '..Said' where nothing that the law and all that it calls make is longer than what came in: it says more and counts as full. Else prove '..UptoSaid'. A law counts once. -/
mutual
def uptoBulk {H : Type} : DataW H → Nat
  | .lit (.string bytes) => bytes.length + 1
  | .lit _ => 1
  | .nil => 1
  | .ptr d => uptoBulk d + 1
  | .slice elems spare => uptoBulkAll elems + uptoBulkAll spare + 1
  | .agg parts => uptoBulkAll parts + 1
  | .iface _ d => uptoBulk d + 1
  | .map entries => uptoBulkEntries entries + 1
  | .held _ => 1
def uptoBulkAll {H : Type} : List (DataW H) → Nat
  | [] => 0
  | d :: r => uptoBulk d + uptoBulkAll r
def uptoBulkEntries {H : Type} : List (Lit × DataW H) → Nat
  | [] => 0
  | x :: r => uptoBulkEntry x + uptoBulkEntries r
def uptoBulkEntry {H : Type} : Lit × DataW H → Nat
  | (.string bytes, d) => bytes.length + uptoBulk d + 1
  | (_, d) => uptoBulk d + 1
 end
def uptoSmall : (H : Type) → List (DataW H) → Bool := fun _ ds => decide (uptoBulkAll ds ≤ 1048576)
def OpenSpec.upto (s : _root_.Go.ChangeSpec) : _root_.Go.OpenSpec := { _root_.Go.OpenSpec.ofChange s with cond := some uptoSmall }

/-- 'laws.FnExactHexText', WHERE WHAT IT READS IS OF BULK AT MOST 1048576: true; the input reads as it did. -/
def fnExactHexTextUptoRow : OpenClaim := { program := "ytejkhekgflacaaa", sum := "c1f08c5dc3170ed69cc95a6e901aeb82ad17a10f9f04e9615481e57590cbdb1f", func := "loop.example/g00477/laws.FnExactHexText", spec := "fnExactHexText", apart := false, narrowed := true }
def FnExactHexTextUptoSaid : Prop := fnExactHexTextUptoRow.holds Try.pinned (OpenSpec.upto fnExactHexTextSpec)

/-- 'laws.FnExactCrc', WHERE WHAT IT READS IS OF BULK AT MOST 1048576: true; the input reads as it did. -/
def fnExactCrcUptoRow : OpenClaim := { program := "ytejkhekgflacaaa", sum := "c1f08c5dc3170ed69cc95a6e901aeb82ad17a10f9f04e9615481e57590cbdb1f", func := "loop.example/g00477/laws.FnExactCrc", spec := "fnExactCrc", apart := false, narrowed := true }
def FnExactCrcUptoSaid : Prop := fnExactCrcUptoRow.holds Try.pinned (OpenSpec.upto fnExactCrcSpec)

/-- 'laws.FnExactPutInt', WHERE WHAT IT READS IS OF BULK AT MOST 1048576: true; the input reads as it did. -/
def fnExactPutIntUptoRow : OpenClaim := { program := "ytejkhekgflacaaa", sum := "c1f08c5dc3170ed69cc95a6e901aeb82ad17a10f9f04e9615481e57590cbdb1f", func := "loop.example/g00477/laws.FnExactPutInt", spec := "fnExactPutInt", apart := false, narrowed := true }
def FnExactPutIntUptoSaid : Prop := fnExactPutIntUptoRow.holds Try.pinned (OpenSpec.upto fnExactPutIntSpec)

/-- 'laws.FnCrc', WHERE WHAT IT READS IS OF BULK AT MOST 1048576: true; the input reads as it did. -/
def fnCrcUptoRow : OpenClaim := { program := "ytejkhekgflacaaa", sum := "c1f08c5dc3170ed69cc95a6e901aeb82ad17a10f9f04e9615481e57590cbdb1f", func := "loop.example/g00477/laws.FnCrc", spec := "fnCrc", apart := false, narrowed := true }
def FnCrcUptoSaid : Prop := fnCrcUptoRow.holds Try.pinned (OpenSpec.upto fnCrcSpec)

/-- 'laws.FnExactHexOf', WHERE WHAT IT READS IS OF BULK AT MOST 1048576: true; the input reads as it did. -/
def fnExactHexOfUptoRow : OpenClaim := { program := "ytejkhekgflacaaa", sum := "c1f08c5dc3170ed69cc95a6e901aeb82ad17a10f9f04e9615481e57590cbdb1f", func := "loop.example/g00477/laws.FnExactHexOf", spec := "fnExactHexOf", inPlace := ["internal/bytealg.IndexByteString"], apart := false, narrowed := true }
def FnExactHexOfUptoSaid : Prop := fnExactHexOfUptoRow.holds Try.pinned (OpenSpec.upto fnExactHexOfSpec)

/-- 'laws.FnExactGetInt', WHERE WHAT IT READS IS OF BULK AT MOST 1048576: true; the input reads as it did. -/
def fnExactGetIntUptoRow : OpenClaim := { program := "ytejkhekgflacaaa", sum := "c1f08c5dc3170ed69cc95a6e901aeb82ad17a10f9f04e9615481e57590cbdb1f", func := "loop.example/g00477/laws.FnExactGetInt", spec := "fnExactGetInt", apart := false, narrowed := true }
def FnExactGetIntUptoSaid : Prop := fnExactGetIntUptoRow.holds Try.pinned (OpenSpec.upto fnExactGetIntSpec)

end Rows
end Go.Proofs.Ytejkhekgflacaaa
