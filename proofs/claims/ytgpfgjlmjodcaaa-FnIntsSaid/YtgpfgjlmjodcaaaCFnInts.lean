/- FnInts returns true for every input. -/
import Derived.Test.YtgpfgjlmjodcaaaRWD
import Derived.Test.YtgpfgjlmjodcaaaPN
import Derived.Test.YtgpfgjlmjodcaaaVkS
import Derived.Carry
import Derived.Test.YtgpfgjlmjodcaaaRows
namespace Go.Proofs.Ytgpfgjlmjodcaaa
open Go.ChangeShapes Go.WideShapes Go.ChangeAt Go.RowKit Go.Vk

theorem Try.ownC : ownKnob Try.prog.godebug = none := by kernel_rfl
theorem Try.laidC : laidOutB Try.prog = true := by kernel_rfl
theorem Try.rowedC : mapsRowed Try.prog = true := by kernel_rfl
theorem Try.fullC : fullB Try.prog = true := by kernel_rfl
theorem opn_t5 : Opn Try.prog 5 (eVal (Value.int .u8) (fun _ => rfl)) (IntOk .u8) := opn_int (isInt_of (by kernel_rfl))
theorem opn_t23 : Opn Try.prog 23 (eList (eVal (Value.int .u8) (fun _ => rfl)) 5) (fun xs => xs.length ≤ maxLen ∧ ∀ x ∈ xs, (IntOk .u8) x) := opn_list (isSl_of (by kernel_rfl)) opn_t5 (by kernel_rfl)
set_option maxRecDepth 100000 in
theorem fnInts_lifted (os : Os) (started : os.Started) (H : Type) (enc : TypeId × Value → H) :
    ReturnsInHanded {} Try.checked os 9 .any (Rows.fnIntsSpec.pre6 enc Try.prog Try.f9 Rows.fnIntsRow.domain false) (Rows.fnIntsSpec.post enc Try.prog Try.f9 false true false false) := by
  refine returnsInHanded_of_change (C := Try.checked) Try.ownC started (by kernel_rfl) Try.func9
    (ChangeSpec.witness6 (enc := enc) (C := Try.checked) false ⟨#[], #[.slice none 0 0], []⟩ 8 (by kernel_rfl) (by kernel_rfl) (by kernel_rfl) (by kernel_rfl)) ?_
  intro W base args ds gs before hval0 hW hcnd _
  have hW' := hW
  obtain ⟨p, q, hA0, hV, rfl, hfz, hnd⟩ := hW
  have hA : DataW.TrodAll enc Try.prog W 0 (fun _ => true) true Try.f9.params.toList args.toList ds p := hA0
  rw [Try.params9] at hA
  obtain ⟨v0, d0, rfl, rfl, h0⟩ := trodAll_one hA
  obtain ⟨a0, g0, ok0⟩ := arg_sl (et := 5) (isSl_of (by kernel_rfl)) opn_t23 (hval0 0 23 v0 rfl rfl) h0
  obtain ⟨s0, c0, e0⟩ := rd_sl1 g0
  obtain rfl := (List.cons.inj e0).1
  refine (laws_FnInts_ok W (ints_holds a0) g0).mono fun e W' ⟨he, hg⟩ => ?_
  subst he
  exact ⟨_, rfl, law_post hW' rfl Try.laidC Try.rowedC Try.fullC (by rw [Try.params9]; decide) rfl (by kernel_rfl) rfl hg.below⟩

theorem fnInts_holds : Rows.FnIntsSaid :=
  OpenClaim.holds_of_wide 9 Try.f9 rfl rfl rfl rfl rfl rfl rfl ⟨rfl, rfl, rfl, rfl, rfl⟩ rfl rfl rfl rfl rfl (by kernel_rfl) Try.func9 (by kernel_rfl)
    (of_decide_eq_true (by kernel_rfl)) (by unfold Func.isWrapper; first | (rw [if_pos (by decide +kernel)]; kernel_rfl) | (rw [if_neg (by decide +kernel)]; exact ⟨rfl, rfl⟩))
    (fun os started H enc _ => fnInts_lifted os started H enc)
#print axioms fnInts_holds
end Go.Proofs.Ytgpfgjlmjodcaaa
