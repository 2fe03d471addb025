/- FnFlip returns true for every input: the card. Condition: the package variables that the row lists start as the text lays them; the card ties them. -/
import Derived.Test.YtiackidnpjlnmaaGreatDoorCFnB
import Derived.Carry
import Derived.Lay
import Derived.LaidLaws
import Derived.Stop.LaidErr
import Derived.SevenTiedAt
import Derived.MakeChecks
import Derived.Test.YtiackidnpjlnmaaGreatDoorRows
import Derived.Test.YtiackidnpjlnmaaGreatDoorCards
import Derived.Test.YtiackidnpjlnmaaGreatDoorTie
namespace Go.Proofs.YtiackidnpjlnmaaGreatDoor
open Go.ChangeShapes Go.WideShapes Go.ChangeAt Go.RowKit Go.Vk
theorem fnFlip_card:Rows.FnFlipCardSaid :=
 Claim7.holds_tied_plain_at .later [] [.data,.data,.data,.sentinel,.sentinel] true (true,"ef9fd976388338264aba2e1bfc1a50dd3fb8225d739f888dcbdcd0522ddf54ef") true
  fnFlip_holds (fun _ h=>by cases h) (by kernel_rfl) (fun _ h=>by cases h) fnFlip_row_tie rfl ⟨rfl,rfl⟩ (by kernel_rfl) rfl
  (fun f fn hf hfn=>by
   obtain rfl:f=3:=(Option.some.inj ((show Tryz.prog.funcNamed "loop.example/g00477/laws.FnFlip" = some 3 by kernel_rfl).symm.trans hf)).symm;obtain rfl:fn=Tryz.f3:=(Option.some.inj (Tryz.func3.symm.trans hfn)).symm;refine ⟨by kernel_rfl,fun j t ht=>?_⟩;rw [Tryz.params3] at ht;rcases j with _|j
   ·obtain rfl:22=t:=by simpa using ht
    exact (show Tryz.prog.wantsStandIn 22=false by kernel_rfl)
   simp at ht)
  (by kernel_rfl)
#print axioms fnFlip_card
end Go.Proofs.YtiackidnpjlnmaaGreatDoor
