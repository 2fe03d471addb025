/- FnExactPutInt returns true for every input. -/
import Derived.Test.YtejkhekgflacaaaR1W
import Derived.Test.YtejkhekgflacaaaP3
import Derived.Test.YtejkhekgflacaaaVkO
import Derived.Test.YtejkhekgflacaaaRows
namespace Go.Proofs.Ytejkhekgflacaaa
open Go.ChangeShapes Go.WideShapes Go.ChangeAt Go.RowKit Go.Vk

theorem Try.ownC : ownKnob Try.prog.godebug = none := by kernel_rfl
theorem Try.laidC : laidOutB Try.prog = true := by kernel_rfl
theorem Try.rowedC : mapsRowed Try.prog = true := by kernel_rfl
theorem Try.fullC : fullB Try.prog = true := by kernel_rfl

set_option maxRecDepth 100000 in
theorem fnExactPutInt_lifted (os : Os) (started : os.Started) (H : Type) (enc : TypeId × Value → H) :
    ReturnsInHanded {} Try.checked os 5 .any (Rows.fnExactPutIntSpec.pre6 enc Try.prog Try.f5 Rows.fnExactPutIntRow.domain false) (Rows.fnExactPutIntSpec.post enc Try.prog Try.f5 false true false false) := by
  refine returnsInHanded_of_change (C := Try.checked) Try.ownC started (by kernel_rfl) Try.func5
    (ChangeSpec.witness6 (enc := enc) (C := Try.checked) false ⟨#[], #[.int .i64 0], []⟩ 8 (by kernel_rfl) (by kernel_rfl) (by kernel_rfl) (by kernel_rfl)) ?_
  intro W base args ds gs before hval0 hW hcnd _
  have hW' := hW
  obtain ⟨p, q, hA0, hV, rfl, hfz, hnd⟩ := hW
  have hA : DataW.TrodAll enc Try.prog W 0 (fun _ => true) true Try.f5.params.toList args.toList ds p := hA0
  rw [Try.params5] at hA
  obtain ⟨v0, d0, rfl, rfl, h0⟩ := trodAll_one hA
  obtain ⟨x, rfl, rfl, rfl, hx⟩ := open_int (show Try.prog.underlying 3 = some (.int .i64) from in3) (hval0 0 3 v0 rfl rfl) h0
  refine (laws_FnExactPutInt_ok W (exactPutInt hx)).mono fun e W' ⟨he, hg⟩ => ?_
  subst he
  exact ⟨_, rfl, law_post hW' rfl Try.laidC Try.rowedC Try.fullC (by rw [Try.params5]; decide) rfl (by kernel_rfl) rfl hg.below⟩

theorem fnExactPutInt_holds : Rows.FnExactPutIntSaid :=
  OpenClaim.holds_of_wide 5 Try.f5 rfl rfl rfl rfl rfl rfl rfl ⟨rfl, rfl, rfl, rfl, rfl⟩ rfl rfl rfl rfl rfl (by kernel_rfl) Try.func5 (by kernel_rfl)
    (of_decide_eq_true (by kernel_rfl)) (by unfold Func.isWrapper; first | (rw [if_pos (by decide +kernel)]; kernel_rfl) | (rw [if_neg (by decide +kernel)]; exact ⟨rfl, rfl⟩))
    (fun os started H enc _ => fnExactPutInt_lifted os started H enc)
#print axioms fnExactPutInt_holds
end Go.Proofs.Ytejkhekgflacaaa
