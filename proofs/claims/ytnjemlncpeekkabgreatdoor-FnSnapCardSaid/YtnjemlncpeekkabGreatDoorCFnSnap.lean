/- FnSnap returns true for every input: the card. Condition: the package variables that the row lists start as the text lays them; the card ties them. -/
import Derived.Test.YtnjemlncpeekkabGreatDoorCFnB
import Derived.Carry
import Derived.Lay
import Derived.LaidLaws
import Derived.Stop.LaidErr
import Derived.SevenTiedAt
import Derived.MakeChecks
import Derived.Test.YtnjemlncpeekkabGreatDoorRows
import Derived.Test.YtnjemlncpeekkabGreatDoorCards
import Derived.Test.YtnjemlncpeekkabGreatDoorTie
namespace Go.Proofs.YtnjemlncpeekkabGreatDoor
open Go.ChangeShapes Go.WideShapes Go.ChangeAt Go.RowKit Go.Vk
theorem fnSnap_card:Rows.FnSnapCardSaid :=
 Claim7.holds_tied_plain_at .later [] [.data,.data,.data,.sentinel,.sentinel] true (true,"d5f3cea08507c0a943cf3467eebb2cf1c0324627274358733059bedb693a2a7e") true
  fnSnap_holds (fun _ h=>by cases h) Tryz.k1 (fun _ h=>by cases h) fnSnap_row_tie rfl ⟨rfl,rfl⟩ (by kernel_rfl) rfl
  (fun f fn hf hfn=>by
   obtain rfl:f=3:=(Option.some.inj ((show Tryz.prog.funcNamed "loop.example/g00477/laws.FnSnap" = some 3 by kernel_rfl).symm.trans hf)).symm;obtain rfl:fn=Tryz.f3:=(Option.some.inj (Tryz.func3.symm.trans hfn)).symm;refine ⟨Tryz.k2,fun j t ht=>?_⟩;rw [Tryz.params3] at ht;rcases j with _|j
   ·obtain rfl:22=t:=by simpa using ht
    exact (show Tryz.prog.wantsStandIn 22=false by kernel_rfl)
   simp at ht)
  Tryz.k3
#print axioms fnSnap_card
end Go.Proofs.YtnjemlncpeekkabGreatDoor
