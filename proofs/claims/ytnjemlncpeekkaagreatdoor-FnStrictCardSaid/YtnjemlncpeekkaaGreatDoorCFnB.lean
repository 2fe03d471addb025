/- The row. -/
import Derived.Test.YtnjemlncpeekkaaGreatDoorCFnA
import Derived.Test.YtnjemlncpeekkaaGreatDoorWQI
import Derived.Test.YtnjemlncpeekkaaGreatDoorPTk
import Derived.Test.YtnjemlncpeekkaaGreatDoorVkBr
import Derived.Test.YtnjemlncpeekkaaGreatDoorVkSh
import Derived.Carry
import Derived.Lay
import Derived.LaidLaws
import Derived.Stop.LaidErr
import Derived.SevenTiedAt
import Derived.MakeChecks
import Derived.Test.YtnjemlncpeekkaaGreatDoorRows
namespace Go.Proofs.YtnjemlncpeekkaaGreatDoor
open Go.ChangeShapes Go.WideShapes Go.ChangeAt Go.RowKit Go.Vk
theorem Tryz.ownC:ownKnob Tryz.prog.godebug=none:=by kernel_rfl
theorem Tryz.fullC:VE Tryz.prog=true:=by kernel_rfl
theorem Tryz.pow10 {W:World} (h:laidMetH Tryz.prog Rows.fnStrictRow.laid W):(KO Tryz.prog).rd W [] () []:=by
 rw [MakeChecks.laidMetH_plain _ _ _ (by kernel_rfl)] at h;have h:=laidMet.tail (laidMet.tail (h));exact Wo (Lib.tabIs_of_head (g:=3) (t:=331) (e:=309) (n:=20) (by kernel_rfl) (by kernel_rfl) (by kernel_rfl) (by kernel_rfl) (by kernel_rfl) (by kernel_rfl) (show laidMet Tryz.prog ((_,Lib.tabData .u64 Lib.pow10Tab)::_) W from h))
theorem Tryz.rowE (u:TypeId) (h:Tryz.prog.typeName? 3 u=some "*errors.errorString"):u=340 :=
 typeName_ptr_named (nm := "errors.errorString") (by rw [show "*" ++ "errors.errorString" = "*errors.errorString" by decide];kernel_rfl) (by kernel_rfl) (by decide) u (by rw [show "*" ++ "errors.errorString" = "*errors.errorString" by decide];exact h)
theorem Tryz.gl {W:World} (h:laidMetH Tryz.prog Rows.fnStrictRow.laid W) (hsh:W.ShapedOpen Tryz.prog):(eGl Tryz.prog).rd W [] () []:=by
 have hp:=Tryz.pow10 h;rw [MakeChecks.laidMetH_plain _ _ _ (by kernel_rfl)] at h;obtain ⟨m,hm⟩:=cell_of_shapedOpen_int (P:=Tryz.prog) (g:=0) (t:=3) (zero := #[.int .i64 0]) (k:=.i64) hsh (of_decide_eq_true (by kernel_rfl)) (by kernel_rfl) rfl (by kernel_rfl) (by kernel_rfl) (by kernel_rfl);obtain ⟨a1,_,a2,_,_,_⟩:=laid_sentinel (te:=342) (ms:=Tryz.prog.methodsAt 182) (tp:=340) (g:=1) (ti:=182) (ts:=9) (f:=⟨"s",9,0,false,"","errors",0⟩) (laidMet.tail (laidMet.tail (laidMet.tail (laidMet.tail (h))))) (by kernel_rfl) (by kernel_rfl) (by kernel_rfl) Tryz.rowE (by kernel_rfl) (by kernel_rfl) rfl rfl (by kernel_rfl) (by kernel_rfl) (by kernel_rfl);obtain ⟨b1,_,b2,_,_,_⟩:=laid_sentinel (te:=342) (ms:=Tryz.prog.methodsAt 182) (tp:=340) (g:=2) (ti:=182) (ts:=9) (f:=⟨"s",9,0,false,"","errors",0⟩) (laidMet.tail (laidMet.tail (laidMet.tail (h)))) (by kernel_rfl) (by kernel_rfl) (by kernel_rfl) Tryz.rowE (by kernel_rfl) (by kernel_rfl) rfl rfl (by kernel_rfl) (by kernel_rfl) (by kernel_rfl);exact WP hp (by kernel_rfl) hm a2 b2
theorem opn_t5:Opn Tryz.prog 5 (nh (Value.int .u8) (fun _=>rfl)) (Mg .u8):=UF (IH (by kernel_rfl))
theorem opn_t22:Opn Tryz.prog 22 (bU (nh (Value.int .u8) (fun _=>rfl)) 5) (fun xs=>xs.length≤maxLen∧∀x∈xs,(Mg .u8) x):=RZ (oB (by kernel_rfl)) opn_t5 (by kernel_rfl)
set_option maxRecDepth 100000 in
theorem fnStrict_lifted (os:Os) (started:os.Started) (H:Type) (enc:TypeId×Value→H) :
  ReturnsInHanded {} Tryz.checked os 3 .any (fun w args=>(Rows.fnStrictSpec.pre enc Tryz.prog Tryz.f3 Rows.fnStrictRow.domain false w args∧laidMetH Tryz.prog Rows.fnStrictRow.laid w)∧sizedMet enc Tryz.prog Tryz.f3 (OpenSpec.ofChange Rows.fnStrictSpec) false w args) (Rows.fnStrictSpec.post enc Tryz.prog Tryz.f3 false true false false):=by
 refine Sa (C:=Tryz.checked) (X:=fun w _=>laidMetH Tryz.prog Rows.fnStrictRow.laid w) (fun _ _ _ hh h=>h.of_heap hh) Tryz.ownC started (by kernel_rfl) Tryz.func3
  (ChangeSpec.witness_shaped (enc:=enc) (C:=Tryz.checked) (os:=os) (X:=fun w _=>laidMetH Tryz.prog Rows.fnStrictRow.laid w) false (World.laidAll Tryz.prog os Rows.fnStrictRow.laid) #[.slice none 0 0] 8 (World.laidAll_os _ _ _)
   (World.shaped_of_ZipB (by kernel_rfl) (by kernel_rfl)) (by kernel_rfl) (by kernel_rfl) (by kernel_rfl)
   (by rw [MakeChecks.laidMetH_plain _ _ _ (by kernel_rfl)];exact laidMet_laidAll _ (by kernel_rfl) (by kernel_rfl))) ?_
 intro W base args ds gs before hval0 hW hL hsh;have hW':=hW;obtain ⟨p,q,hA0,hV,rfl,hfz,hnd⟩:=hW;have hA:DataW.TrodAll enc Tryz.prog W 0 (fun _=>true) true Tryz.f3.params.toList args.toList ds p:=hA0;rw [Tryz.params3] at hA;obtain ⟨v0,d0,rfl,rfl,h0⟩:=trodAll_one hA;obtain ⟨a0,g0,ok0⟩:=WH (et:=5) (oB (by kernel_rfl)) opn_t22 (hval0 0 22 v0 rfl rfl) h0;obtain ⟨s0,c0,e0⟩:=dM g0;obtain rfl:=(List.cons.inj e0).1;have gT:=Tryz.gl hL hsh;refine (Go.Vk.Fd W (KG (UP ok0.2)) g0 gT).mono fun e W' ⟨he,hg⟩=>?_;subst he;exact ⟨_,rfl,TP hW' rfl Tryz.laidC Tryz.rowedC Tryz.fullC (by rw [Tryz.params3];decide) rfl (by kernel_rfl) rfl hg.below⟩
theorem fnStrict_holds:Rows.FnStrictSaid :=
 OpenClaim.holds_of_wide 3 Tryz.f3 rfl rfl rfl rfl rfl rfl rfl ⟨rfl,rfl,rfl,rfl,rfl⟩ rfl rfl rfl rfl rfl (by kernel_rfl) Tryz.func3 Tryz.joinC
  (of_decide_eq_true (by kernel_rfl)) (by unfold Func.isWrapper;first|(rw [if_pos (by decide +kernel)];kernel_rfl)|(rw [if_neg (by decide +kernel)];exact ⟨rfl,rfl⟩))
  (fun os started H enc _=>fnStrict_lifted os started H enc)
theorem Tryz.k1:Rows.fnStrictRow.wfByText (OpenSpec.ofChange Rows.fnStrictSpec)=true:=by kernel_rfl
theorem Tryz.k2:true=Tryz.prog.looks []:=by kernel_rfl
theorem Tryz.k3:false=Rows.fnStrictRow.goesBy Tryz.prog:=by kernel_rfl
end Go.Proofs.YtnjemlncpeekkaaGreatDoor
