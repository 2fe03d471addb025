/- Texts split and joined, numbers read: no program in sight. -/
import Derived.Test.YtiackidnpjlnmaaGreatDoorVkBr
import Derived.Test.YtiackidnpjlnmaaGreatDoorVkBs
import Derived.Lib.ItoaLen
import Derived.Lib.AtoiAllCases
import Derived.Lib.IndexMore
namespace Go.Vk
open Go.Proofs
def kw (c:UInt8):List UInt8→List (List UInt8)
 | []=>[[]]
 | x::r=>if x=c then []::kw c r else match kw c r with
  | []=>[[x]]
  | h::t=>(x::h)::t
theorem HL {c:UInt8} {w r:List UInt8} (h:c∉w):kw c (w++c::r)=w::kw c r:=by
 induction w with
 | nil=>simp [kw]
 | cons x w ih =>
  have h1:¬x=c:=fun e=>h (by simp [e]);rw [List.cons_append,kw,if_neg h1,ih (fun g=>h (by simp [g]))]
theorem HO {c:UInt8} {w:List UInt8} (h:c∉w):kw c w=[w]:=by
 induction w with
 | nil=>rfl
 | cons x w ih =>
  have h1:¬x=c:=fun e=>h (by simp [e]);rw [kw,if_neg h1,ih (fun g=>h (by simp [g]))]
end Go.Vk
