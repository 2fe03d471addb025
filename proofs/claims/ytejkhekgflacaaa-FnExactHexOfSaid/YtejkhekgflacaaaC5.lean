/- FnExactHexOf returns true for every input. -/
import Derived.Test.YtejkhekgflacaaaR1W
import Derived.Test.YtejkhekgflacaaaP5
import Derived.Test.YtejkhekgflacaaaVkO
import Derived.Test.YtejkhekgflacaaaRows
namespace Go.Proofs.Ytejkhekgflacaaa
open Go.ChangeShapes Go.WideShapes Go.ChangeAt Go.RowKit Go.Vk

theorem Try.ownC : ownKnob Try.prog.godebug = none := by kernel_rfl
theorem Try.laidC : laidOutB Try.prog = true := by kernel_rfl
theorem Try.rowedC : mapsRowed Try.prog = true := by kernel_rfl
theorem Try.fullC : fullB Try.prog = true := by kernel_rfl

set_option maxRecDepth 100000 in
theorem fnExactHexOf_lifted (os : Os) (started : os.Started) (H : Type) (enc : TypeId × Value → H) :
    ReturnsInHanded {} Try.checked os 7 .any (Rows.fnExactHexOfSpec.pre6 enc Try.prog Try.f7 Rows.fnExactHexOfRow.domain false) (Rows.fnExactHexOfSpec.post enc Try.prog Try.f7 false true false false) := by
  refine returnsInHanded_of_change (C := Try.checked) Try.ownC started (by kernel_rfl) Try.func7
    (ChangeSpec.witness6 (enc := enc) (C := Try.checked) false ⟨#[], #[.string ⟨#[]⟩], []⟩ 8 (by kernel_rfl) (by kernel_rfl) (by kernel_rfl) (by kernel_rfl)) ?_
  intro W base args ds gs before hval0 hW hcnd _
  have hW' := hW
  obtain ⟨p, q, hA0, hV, rfl, hfz, hnd⟩ := hW
  have hA : DataW.TrodAll enc Try.prog W 0 (fun _ => true) true Try.f7.params.toList args.toList ds p := hA0
  rw [Try.params7] at hA
  obtain ⟨v0, d0, rfl, rfl, h0⟩ := trodAll_one hA
  obtain ⟨s, rfl, _⟩ := Go.ChangeMaps.open_string (show Try.prog.underlying 9 = some .string from st9) (hval0 0 9 v0 rfl rfl) h0
  obtain ⟨⟨l⟩⟩ := s
  refine (laws_FnExactHexOf_ok W (exactHexOf l)).mono fun e W' ⟨he, hg⟩ => ?_
  subst he
  exact ⟨_, rfl, law_post hW' rfl Try.laidC Try.rowedC Try.fullC (by rw [Try.params7]; decide) rfl (by kernel_rfl) rfl hg.below⟩

theorem fnExactHexOf_holds : Rows.FnExactHexOfSaid :=
  OpenClaim.holds_of_wide 7 Try.f7 rfl rfl rfl rfl rfl rfl rfl ⟨rfl, rfl, rfl, rfl, rfl⟩ rfl rfl rfl rfl rfl (by kernel_rfl) Try.func7 (by kernel_rfl)
    (of_decide_eq_true (by kernel_rfl)) (by unfold Func.isWrapper; first | (rw [if_pos (by decide +kernel)]; kernel_rfl) | (rw [if_neg (by decide +kernel)]; exact ⟨rfl, rfl⟩))
    (fun os started H enc _ => fnExactHexOf_lifted os started H enc)
#print axioms fnExactHexOf_holds
end Go.Proofs.Ytejkhekgflacaaa
