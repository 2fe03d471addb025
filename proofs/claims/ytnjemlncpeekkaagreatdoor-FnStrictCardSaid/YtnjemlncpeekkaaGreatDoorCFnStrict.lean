/- FnStrict returns true for every input: the card. Condition: the package variables that the row lists start as the text lays them; the card ties them. -/
import Derived.Test.YtnjemlncpeekkaaGreatDoorCFnB
import Derived.Carry
import Derived.Lay
import Derived.LaidLaws
import Derived.Stop.LaidErr
import Derived.SevenTiedAt
import Derived.MakeChecks
import Derived.Test.YtnjemlncpeekkaaGreatDoorRows
import Derived.Test.YtnjemlncpeekkaaGreatDoorCards
import Derived.Test.YtnjemlncpeekkaaGreatDoorTie
namespace Go.Proofs.YtnjemlncpeekkaaGreatDoor
open Go.ChangeShapes Go.WideShapes Go.ChangeAt Go.RowKit Go.Vk
theorem fnStrict_card:Rows.FnStrictCardSaid :=
 Claim7.holds_tied_plain_at .later [] [.data,.data,.data,.sentinel,.sentinel] true (true,"2d37dc1bf0fcc2455a1d5fa11827cdb48c638a1e77aeaf2b85c36e1d0d33745e") true
  fnStrict_holds (fun _ h=>by cases h) Tryz.k1 (fun _ h=>by cases h) fnStrict_row_tie rfl ⟨rfl,rfl⟩ (by kernel_rfl) rfl
  (fun f fn hf hfn=>by
   obtain rfl:f=3:=(Option.some.inj ((show Tryz.prog.funcNamed "loop.example/g00477/laws.FnStrict" = some 3 by kernel_rfl).symm.trans hf)).symm;obtain rfl:fn=Tryz.f3:=(Option.some.inj (Tryz.func3.symm.trans hfn)).symm;refine ⟨Tryz.k2,fun j t ht=>?_⟩;rw [Tryz.params3] at ht;rcases j with _|j
   ·obtain rfl:22=t:=by simpa using ht
    exact (show Tryz.prog.wantsStandIn 22=false by kernel_rfl)
   simp at ht)
  Tryz.k3
#print axioms fnStrict_card
end Go.Proofs.YtnjemlncpeekkaaGreatDoor
