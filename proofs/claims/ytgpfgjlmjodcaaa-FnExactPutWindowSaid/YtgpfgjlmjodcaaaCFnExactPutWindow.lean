/- FnExactPutWindow returns true for every input. -/
import Derived.Test.YtgpfgjlmjodcaaaRWD
import Derived.Test.YtgpfgjlmjodcaaaPF
import Derived.Test.YtgpfgjlmjodcaaaVkS
import Derived.Carry
import Derived.Test.YtgpfgjlmjodcaaaRows
namespace Go.Proofs.Ytgpfgjlmjodcaaa
open Go.ChangeShapes Go.WideShapes Go.ChangeAt Go.RowKit Go.Vk

theorem Try.ownC : ownKnob Try.prog.godebug = none := by kernel_rfl
theorem Try.laidC : laidOutB Try.prog = true := by kernel_rfl
theorem Try.rowedC : mapsRowed Try.prog = true := by kernel_rfl
theorem Try.fullC : fullB Try.prog = true := by kernel_rfl
theorem opn_t3 : Opn Try.prog 3 (eVal (Value.int .i64) (fun _ => rfl)) (IntOk .i64) := opn_int (isInt_of (by kernel_rfl))
theorem opn_t22 : Opn Try.prog 22 (eList (eVal (Value.int .i64) (fun _ => rfl)) 3) (fun xs => xs.length ≤ maxLen ∧ ∀ x ∈ xs, (IntOk .i64) x) := opn_list (isSl_of (by kernel_rfl)) opn_t3 (by kernel_rfl)
theorem opn_t35 : Opn Try.prog 35 (eList (eList (eVal (Value.int .i64) (fun _ => rfl)) 3) 22) (fun xs => xs.length ≤ maxLen ∧ ∀ x ∈ xs, (fun xs => xs.length ≤ maxLen ∧ ∀ x ∈ xs, (IntOk .i64) x) x) := opn_list (isSl_of (by kernel_rfl)) opn_t22 (by kernel_rfl)
theorem fo37 : fieldsOf Try.prog 37 = some [(35, 0)] := by kernel_rfl
theorem opn_t37 : Opn Try.prog 37 (eTlaws_Window) (fun (x : Tlaws_Window) => (fun xs => xs.length ≤ maxLen ∧ ∀ x ∈ xs, (fun xs => xs.length ≤ maxLen ∧ ∀ x ∈ xs, (IntOk .i64) x) x) x.Rows_) := opn_iso (opn_struct fo37 (opnF_one opn_t35 (by kernel_rfl)) (by kernel_rfl)) (fun a => (⟨a⟩ : Tlaws_Window)) (fun _ => rfl)
set_option maxRecDepth 100000 in
theorem fnExactPutWindow_lifted (os : Os) (started : os.Started) (H : Type) (enc : TypeId × Value → H) :
    ReturnsInHanded {} Try.checked os 5 .any (Rows.fnExactPutWindowSpec.pre6 enc Try.prog Try.f5 Rows.fnExactPutWindowRow.domain false) (Rows.fnExactPutWindowSpec.post enc Try.prog Try.f5 false true false false) := by
  refine returnsInHanded_of_change (C := Try.checked) Try.ownC started (by kernel_rfl) Try.func5
    (ChangeSpec.witness6 (enc := enc) (C := Try.checked) false ⟨#[], #[.agg #[.slice none 0 0]], []⟩ 8 (by kernel_rfl) (by kernel_rfl) (by kernel_rfl) (by kernel_rfl)) ?_
  intro W base args ds gs before hval0 hW hcnd _
  have hW' := hW
  obtain ⟨p, q, hA0, hV, rfl, hfz, hnd⟩ := hW
  have hA : DataW.TrodAll enc Try.prog W 0 (fun _ => true) true Try.f5.params.toList args.toList ds p := hA0
  rw [Try.params5] at hA
  obtain ⟨v0, d0, rfl, rfl, h0⟩ := trodAll_one hA
  obtain ⟨a0, cs0, rfl, g0, ok0⟩ := arg_struct fo37 opn_t37 (hval0 0 37 v0 rfl rfl) h0
  refine (laws_FnExactPutWindow_ok W (exactPutWindow (Nat.lt_of_le_of_lt ok0.1 (by decide)) (fun y hy => Nat.lt_of_le_of_lt (ok0.2 y hy).1 (by decide))) g0).mono fun e W' ⟨he, hg⟩ => ?_
  subst he
  exact ⟨_, rfl, law_post hW' rfl Try.laidC Try.rowedC Try.fullC (by rw [Try.params5]; decide) rfl (by kernel_rfl) rfl hg.below⟩

theorem fnExactPutWindow_holds : Rows.FnExactPutWindowSaid :=
  OpenClaim.holds_of_wide 5 Try.f5 rfl rfl rfl rfl rfl rfl rfl ⟨rfl, rfl, rfl, rfl, rfl⟩ rfl rfl rfl rfl rfl (by kernel_rfl) Try.func5 (by kernel_rfl)
    (of_decide_eq_true (by kernel_rfl)) (by unfold Func.isWrapper; first | (rw [if_pos (by decide +kernel)]; kernel_rfl) | (rw [if_neg (by decide +kernel)]; exact ⟨rfl, rfl⟩))
    (fun os started H enc _ => fnExactPutWindow_lifted os started H enc)
#print axioms fnExactPutWindow_holds
end Go.Proofs.Ytgpfgjlmjodcaaa
