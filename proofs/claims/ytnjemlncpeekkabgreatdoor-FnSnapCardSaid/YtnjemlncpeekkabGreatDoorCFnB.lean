/- The row. -/
import Derived.Test.YtnjemlncpeekkabGreatDoorCFnA
import Derived.Test.YtnjemlncpeekkabGreatDoorWRJ
import Derived.Test.YtnjemlncpeekkabGreatDoorPTs
import Derived.Test.YtnjemlncpeekkabGreatDoorVkBr
import Derived.Test.YtnjemlncpeekkabGreatDoorVkSh
import Derived.Carry
import Derived.Lay
import Derived.LaidLaws
import Derived.Stop.LaidErr
import Derived.SevenTiedAt
import Derived.MakeChecks
import Derived.Test.YtnjemlncpeekkabGreatDoorRows
namespace Go.Proofs.YtnjemlncpeekkabGreatDoor
open Go.ChangeShapes Go.WideShapes Go.ChangeAt Go.RowKit Go.Vk
theorem Tryz.ownC:ownKnob Tryz.prog.godebug=none:=by kernel_rfl
theorem Tryz.fullC:XL Tryz.prog=true:=by kernel_rfl
theorem Tryz.pow10 {W:World} (h:laidMetH Tryz.prog Rows.fnSnapRow.laid W):(MJ Tryz.prog).rd W [] () []:=by
 rw [MakeChecks.laidMetH_plain _ _ _ (by kernel_rfl)] at h;have h:=laidMet.tail (laidMet.tail (h));exact YS (Lib.tabIs_of_head (g:=1) (t:=326) (e:=301) (n:=20) (by kernel_rfl) (by kernel_rfl) (by kernel_rfl) (by kernel_rfl) (by kernel_rfl) (by kernel_rfl) (show laidMet Tryz.prog ((_,Lib.tabData .u64 Lib.pow10Tab)::_) W from h))
theorem Tryz.rowE (u:TypeId) (h:Tryz.prog.typeName? 3 u=some "*errors.errorString"):u=348 :=
 typeName_ptr_named (nm := "errors.errorString") (by rw [show "*" ++ "errors.errorString" = "*errors.errorString" by decide];kernel_rfl) (by kernel_rfl) (by decide) u (by rw [show "*" ++ "errors.errorString" = "*errors.errorString" by decide];exact h)
theorem Tryz.gl {W:World} (h:laidMetH Tryz.prog Rows.fnSnapRow.laid W) (hsh:W.ShapedOpen Tryz.prog):(eGl Tryz.prog).rd W [] () []:=by
 have hp:=Tryz.pow10 h;rw [MakeChecks.laidMetH_plain _ _ _ (by kernel_rfl)] at h;obtain ⟨m,hm⟩:=cell_of_shapedOpen_int (P:=Tryz.prog) (g:=0) (t:=3) (zero := #[.int .i64 0]) (k:=.i64) hsh (of_decide_eq_true (by kernel_rfl)) (by kernel_rfl) rfl (by kernel_rfl) (by kernel_rfl) (by kernel_rfl);obtain ⟨a1,_,a2,_,_,_⟩:=laid_sentinel (te:=350) (ms:=Tryz.prog.methodsAt 147) (tp:=348) (g:=2) (ti:=147) (ts:=9) (f:=⟨"s",9,0,false,"","errors",0⟩) (laidMet.tail (laidMet.tail (laidMet.tail (laidMet.tail (h))))) (by kernel_rfl) (by kernel_rfl) (by kernel_rfl) Tryz.rowE (by kernel_rfl) (by kernel_rfl) rfl rfl (by kernel_rfl) (by kernel_rfl) (by kernel_rfl);obtain ⟨b1,_,b2,_,_,_⟩:=laid_sentinel (te:=350) (ms:=Tryz.prog.methodsAt 147) (tp:=348) (g:=3) (ti:=147) (ts:=9) (f:=⟨"s",9,0,false,"","errors",0⟩) (laidMet.tail (laidMet.tail (laidMet.tail (h)))) (by kernel_rfl) (by kernel_rfl) (by kernel_rfl) Tryz.rowE (by kernel_rfl) (by kernel_rfl) rfl rfl (by kernel_rfl) (by kernel_rfl) (by kernel_rfl);exact YZ hp (by kernel_rfl) hm a2 b2
theorem opn_t5:Opn Tryz.prog 5 (nV (Value.int .u8) (fun _=>rfl)) (Od .u8):=Xe (Kq (by kernel_rfl))
theorem opn_t22:Opn Tryz.prog 22 (cn (nV (Value.int .u8) (fun _=>rfl)) 5) (fun xs=>xs.length≤maxLen∧∀x∈xs,(Od .u8) x):=Tm nZ opn_t5 (by kernel_rfl)
set_option maxRecDepth 100000 in
theorem fnSnap_lifted (os:Os) (started:os.Started) (H:Type) (enc:TypeId×Value→H) :
  ReturnsInHanded {} Tryz.checked os 3 .any (fun w args=>(Rows.fnSnapSpec.pre enc Tryz.prog Tryz.f3 Rows.fnSnapRow.domain false w args∧laidMetH Tryz.prog Rows.fnSnapRow.laid w)∧sizedMet enc Tryz.prog Tryz.f3 (OpenSpec.ofChange Rows.fnSnapSpec) false w args) (Rows.fnSnapSpec.post enc Tryz.prog Tryz.f3 false true false false):=by
 refine Tw (C:=Tryz.checked) (X:=fun w _=>laidMetH Tryz.prog Rows.fnSnapRow.laid w) (fun _ _ _ hh h=>h.of_heap hh) Tryz.ownC started (by kernel_rfl) Tryz.func3
  (ChangeSpec.witness_shaped (enc:=enc) (C:=Tryz.checked) (os:=os) (X:=fun w _=>laidMetH Tryz.prog Rows.fnSnapRow.laid w) false (World.laidAll Tryz.prog os Rows.fnSnapRow.laid) #[.slice none 0 0] 8 (World.laidAll_os _ _ _)
   (World.shaped_of_ZipB (by kernel_rfl) (by kernel_rfl)) (by kernel_rfl) (by kernel_rfl) (by kernel_rfl)
   (by rw [MakeChecks.laidMetH_plain _ _ _ (by kernel_rfl)];exact laidMet_laidAll _ (by kernel_rfl) (by kernel_rfl))) ?_
 intro W base args ds gs before hval0 hW hL hsh;have hW':=hW;obtain ⟨p,q,hA0,hV,rfl,hfz,hnd⟩:=hW;have hA:DataW.TrodAll enc Tryz.prog W 0 (fun _=>true) true Tryz.f3.params.toList args.toList ds p:=hA0;rw [Tryz.params3] at hA;obtain ⟨v0,d0,rfl,rfl,h0⟩:=trodAll_one hA;obtain ⟨a0,g0,ok0⟩:=YD (et:=5) nZ opn_t22 (hval0 0 22 v0 rfl rfl) h0;obtain ⟨s0,c0,e0⟩:=ee g0;obtain rfl:=(List.cons.inj e0).1;have gT:=Tryz.gl hL hsh;refine (IP W (PC (Wi ok0.2)) g0 gT).mono fun e W' ⟨he,hg⟩=>?_;subst he;exact ⟨_,rfl,Va hW' rfl Tryz.laidC Tryz.rowedC Tryz.fullC (by rw [Tryz.params3];decide) rfl (by kernel_rfl) rfl hg.below⟩
theorem fnSnap_holds:Rows.FnSnapSaid :=
 OpenClaim.holds_of_wide 3 Tryz.f3 rfl rfl rfl rfl rfl rfl rfl ⟨rfl,rfl,rfl,rfl,rfl⟩ rfl rfl rfl rfl rfl (by kernel_rfl) Tryz.func3 Tryz.joinC
  (of_decide_eq_true (by kernel_rfl)) (by unfold Func.isWrapper;first|(rw [if_pos (by decide +kernel)];kernel_rfl)|(rw [if_neg (by decide +kernel)];exact ⟨rfl,rfl⟩))
  (fun os started H enc _=>fnSnap_lifted os started H enc)
theorem Tryz.k1:Rows.fnSnapRow.wfByText (OpenSpec.ofChange Rows.fnSnapSpec)=true:=by kernel_rfl
theorem Tryz.k2:true=Tryz.prog.looks []:=by kernel_rfl
theorem Tryz.k3:false=Rows.fnSnapRow.goesBy Tryz.prog:=by kernel_rfl
end Go.Proofs.YtnjemlncpeekkabGreatDoor
