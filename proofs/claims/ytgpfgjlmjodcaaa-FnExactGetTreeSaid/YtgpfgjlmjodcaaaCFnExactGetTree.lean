/- FnExactGetTree returns true for every input. -/
import Derived.Test.YtgpfgjlmjodcaaaRWD
import Derived.Test.YtgpfgjlmjodcaaaPK
import Derived.Test.YtgpfgjlmjodcaaaVkS
import Derived.Carry
import Derived.Test.YtgpfgjlmjodcaaaRows
namespace Go.Proofs.Ytgpfgjlmjodcaaa
open Go.ChangeShapes Go.WideShapes Go.ChangeAt Go.RowKit Go.Vk

theorem Try.ownC : ownKnob Try.prog.godebug = none := by kernel_rfl
theorem Try.laidC : laidOutB Try.prog = true := by kernel_rfl
theorem Try.rowedC : mapsRowed Try.prog = true := by kernel_rfl
theorem Try.fullC : fullB Try.prog = true := by kernel_rfl
theorem opn_t5 : Opn Try.prog 5 (eVal (Value.int .u8) (fun _ => rfl)) (IntOk .u8) := opn_int (isInt_of (by kernel_rfl))
theorem opn_t23 : Opn Try.prog 23 (eList (eVal (Value.int .u8) (fun _ => rfl)) 5) (fun xs => xs.length ≤ maxLen ∧ ∀ x ∈ xs, (IntOk .u8) x) := opn_list (isSl_of (by kernel_rfl)) opn_t5 (by kernel_rfl)
theorem opn_t3 : Opn Try.prog 3 (eVal (Value.int .i64) (fun _ => rfl)) (IntOk .i64) := opn_int (isInt_of (by kernel_rfl))
set_option maxRecDepth 100000 in
theorem fnExactGetTree_lifted (os : Os) (started : os.Started) (H : Type) (enc : TypeId × Value → H) :
    ReturnsInHanded {} Try.checked os 8 .any (Rows.fnExactGetTreeSpec.pre6 enc Try.prog Try.f8 Rows.fnExactGetTreeRow.domain false) (Rows.fnExactGetTreeSpec.post enc Try.prog Try.f8 false true false false) := by
  refine returnsInHanded_of_change (C := Try.checked) Try.ownC started (by kernel_rfl) Try.func8
    (ChangeSpec.witness6 (enc := enc) (C := Try.checked) false ⟨#[], #[.slice none 0 0, .int .i64 0], []⟩ 8 (by kernel_rfl) (by kernel_rfl) (by kernel_rfl) (by kernel_rfl)) ?_
  intro W base args ds gs before hval0 hW hcnd _
  have hW' := hW
  obtain ⟨p, q, hA0, hV, rfl, hfz, hnd⟩ := hW
  have hA : DataW.TrodAll enc Try.prog W 0 (fun _ => true) true Try.f8.params.toList args.toList ds p := hA0
  rw [Try.params8] at hA
  obtain ⟨v0, v1, d0, d1, p0, p1, rfl, rfl, rfl, h0, h1⟩ := trodAll_two hA
  obtain ⟨a0, g0, ok0⟩ := arg_sl (et := 5) (isSl_of (by kernel_rfl)) opn_t23 (hval0 0 23 v0 rfl rfl) h0
  obtain ⟨s0, c0, e0⟩ := rd_sl1 g0
  obtain rfl := (List.cons.inj e0).1
  obtain ⟨a1, rfl, rfl, rfl, ok1⟩ := open_int (show Try.prog.underlying 3 = some (.int .i64) by kernel_rfl) (hval0 1 3 v1 rfl rfl) h1
  refine (laws_FnExactGetTree_ok W (exactGetTree (bytesOk ok0.2) (i64Ok ok1)) g0).mono fun e W' ⟨he, hg⟩ => ?_
  subst he
  exact ⟨_, rfl, law_post hW' rfl Try.laidC Try.rowedC Try.fullC (by rw [Try.params8]; decide) rfl (by kernel_rfl) rfl hg.below⟩

theorem fnExactGetTree_holds : Rows.FnExactGetTreeSaid :=
  OpenClaim.holds_of_wide 8 Try.f8 rfl rfl rfl rfl rfl rfl rfl ⟨rfl, rfl, rfl, rfl, rfl⟩ rfl rfl rfl rfl rfl (by kernel_rfl) Try.func8 (by kernel_rfl)
    (of_decide_eq_true (by kernel_rfl)) (by unfold Func.isWrapper; first | (rw [if_pos (by decide +kernel)]; kernel_rfl) | (rw [if_neg (by decide +kernel)]; exact ⟨rfl, rfl⟩))
    (fun os started H enc _ => fnExactGetTree_lifted os started H enc)
#print axioms fnExactGetTree_holds
end Go.Proofs.Ytgpfgjlmjodcaaa
