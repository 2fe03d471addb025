/- Closed facts of the row. -/
import Derived.JoinedOf
import Derived.Carry
import Derived.Lay
import Derived.LaidLaws
import Derived.Stop.LaidErr
import Derived.SevenTiedAt
import Derived.MakeChecks
import Derived.Test.YtnjemlncpeekkabGreatDoorRows
namespace Go.Proofs.YtnjemlncpeekkabGreatDoor
open Go.ChangeShapes Go.WideShapes Go.RowKit
theorem Tryz.laidC:laidOutB Tryz.prog=true:=by kernel_rfl
theorem Tryz.rowedC:mapsRowed Tryz.prog=true:=by kernel_rfl
theorem Tryz.j1:(Rows.fnSnapRow.inPlace==Tryz.prog.inPlace 3)=true:=by kernel_rfl
theorem Tryz.j2:(Rows.fnSnapRow.unfollowed==Tryz.prog.unfollowed 3)=true:=by kernel_rfl
theorem Tryz.j3:(Rows.fnSnapRow.recurses==Tryz.prog.recurses 3)=true:=by kernel_rfl
theorem Tryz.j4:(Rows.fnSnapRow.named==Tryz.prog.varsNamed 3)=true:=by kernel_rfl
theorem Tryz.joinC:joinedFacts Tryz.prog 3 Tryz.f3 Rows.fnSnapSpec Rows.fnSnapRow=true:=by
 unfold joinedFacts;rw [Tryz.laidC,Tryz.rowedC,Tryz.j1,Tryz.j2,Tryz.j3,Tryz.j4]
 kernel_rfl
end Go.Proofs.YtnjemlncpeekkabGreatDoor
