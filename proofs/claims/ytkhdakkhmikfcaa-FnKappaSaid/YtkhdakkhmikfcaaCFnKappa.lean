/- FnKappa returns true for every input. -/
import Derived.Test.YtkhdakkhmikfcaaWLKappaB
import Derived.Test.YtkhdakkhmikfcaaPK
import Derived.Test.YtkhdakkhmikfcaaVkS
import Derived.Test.YtkhdakkhmikfcaaVkV
import Derived.Carry
import Derived.Test.YtkhdakkhmikfcaaRows
namespace Go.Proofs.Ytkhdakkhmikfcaa
open Go.ChangeShapes Go.WideShapes Go.ChangeAt Go.RowKit Go.Vk

theorem Try.ownC : ownKnob Try.prog.godebug = none := by kernel_rfl
theorem Try.laidC : laidOutB Try.prog = true := by kernel_rfl
theorem Try.rowedC : mapsRowed Try.prog = true := by kernel_rfl
theorem Try.fullC : fullB Try.prog = true := by kernel_rfl
theorem opn_t5 : Opn Try.prog 5 (eVal (Value.int .u8) (fun _ => rfl)) (IntOk .u8) := opn_int (isInt_of (by kernel_rfl))
theorem opn_t46 : Opn Try.prog 46 (eList (eVal (Value.int .u8) (fun _ => rfl)) 5) (fun xs => xs.length ≤ maxLen ∧ ∀ x ∈ xs, (IntOk .u8) x) := opn_list (isSl_of (by kernel_rfl)) opn_t5 (by kernel_rfl)
set_option maxRecDepth 100000 in
theorem fnKappa_lifted (os : Os) (started : os.Started) (H : Type) (enc : TypeId × Value → H) :
    ReturnsInHanded {} Try.checked os 10 .any (Rows.fnKappaSpec.pre6 enc Try.prog Try.f10 Rows.fnKappaRow.domain false) (Rows.fnKappaSpec.post enc Try.prog Try.f10 false true false false) := by
  refine returnsInHanded_of_change (C := Try.checked) Try.ownC started (by kernel_rfl) Try.func10
    (ChangeSpec.witness6 (enc := enc) (C := Try.checked) false ⟨#[], #[.slice none 0 0], []⟩ 8 (by kernel_rfl) (by kernel_rfl) (by kernel_rfl) (by kernel_rfl)) ?_
  intro W base args ds gs before hval0 hW hcnd _
  have hW' := hW
  obtain ⟨p, q, hA0, hV, rfl, hfz, hnd⟩ := hW
  have hA : DataW.TrodAll enc Try.prog W 0 (fun _ => true) true Try.f10.params.toList args.toList ds p := hA0
  rw [Try.params10] at hA
  obtain ⟨v0, d0, rfl, rfl, h0⟩ := trodAll_one hA
  obtain ⟨a0, g0, ok0⟩ := arg_sl (et := 5) (isSl_of (by kernel_rfl)) opn_t46 (hval0 0 46 v0 rfl rfl) h0
  obtain ⟨s0, c0, e0⟩ := rd_sl1 g0
  obtain rfl := (List.cons.inj e0).1
  refine (laws_FnKappa_ok W (kappa_holds a0) g0).mono fun e W' ⟨he, hg⟩ => ?_
  subst he
  exact ⟨_, rfl, law_post hW' rfl Try.laidC Try.rowedC Try.fullC (by rw [Try.params10]; decide) rfl (by kernel_rfl) rfl hg.below⟩

theorem fnKappa_holds : Rows.FnKappaSaid :=
  OpenClaim.holds_of_wide 10 Try.f10 rfl rfl rfl rfl rfl rfl rfl ⟨rfl, rfl, rfl, rfl, rfl⟩ rfl rfl rfl rfl rfl (by kernel_rfl) Try.func10 (by kernel_rfl)
    (of_decide_eq_true (by kernel_rfl)) (by unfold Func.isWrapper; first | (rw [if_pos (by decide +kernel)]; kernel_rfl) | (rw [if_neg (by decide +kernel)]; exact ⟨rfl, rfl⟩))
    (fun os started H enc _ => fnKappa_lifted os started H enc)
#print axioms fnKappa_holds
end Go.Proofs.Ytkhdakkhmikfcaa
