/- FnExactGetInt returns true for every input. -/
import Derived.Test.YtejkhekgflacaaaR1W
import Derived.Test.YtejkhekgflacaaaP4
import Derived.Test.YtejkhekgflacaaaVkO
import Derived.Test.YtejkhekgflacaaaRows
namespace Go.Proofs.Ytejkhekgflacaaa
open Go.ChangeShapes Go.WideShapes Go.ChangeAt Go.RowKit Go.Vk

theorem Try.ownC : ownKnob Try.prog.godebug = none := by kernel_rfl
theorem Try.laidC : laidOutB Try.prog = true := by kernel_rfl
theorem Try.rowedC : mapsRowed Try.prog = true := by kernel_rfl
theorem Try.fullC : fullB Try.prog = true := by kernel_rfl

theorem in5c : isInt Try.prog 5 .u8 := isInt_of (by kernel_rfl)
theorem bytesOk {p : List Int} (h : ∀ x ∈ p, IntOk .u8 x) : Bytes p := fun x hx => by
  have := h x hx
  simp [IntOk, Lit.wf, IntKind.min, IntKind.max, IntKind.signed, IntKind.bits] at this
  exact ⟨by omega, by omega⟩

set_option maxRecDepth 100000 in
theorem fnExactGetInt_lifted (os : Os) (started : os.Started) (H : Type) (enc : TypeId × Value → H) :
    ReturnsInHanded {} Try.checked os 8 .any (Rows.fnExactGetIntSpec.pre6 enc Try.prog Try.f8 Rows.fnExactGetIntRow.domain false) (Rows.fnExactGetIntSpec.post enc Try.prog Try.f8 false true false false) := by
  refine returnsInHanded_of_change (C := Try.checked) Try.ownC started (by kernel_rfl) Try.func8
    (ChangeSpec.witness6 (enc := enc) (C := Try.checked) false ⟨#[], #[.slice none 0 0, .int .i64 0], []⟩ 8 (by kernel_rfl) (by kernel_rfl) (by kernel_rfl) (by kernel_rfl)) ?_
  intro W base args ds gs before hval0 hW hcnd _
  have hW' := hW
  obtain ⟨p, q, hA0, hV, rfl, hfz, hnd⟩ := hW
  have hA : DataW.TrodAll enc Try.prog W 0 (fun _ => true) true Try.f8.params.toList args.toList ds p := hA0
  rw [Try.params8] at hA
  obtain ⟨v0, v1, d0, d1, p0, p1, rfl, rfl, rfl, h0, h1⟩ := trodAll_two hA
  obtain ⟨b, hb, _, hok⟩ := arg_sl sl22 (opn_list sl22 (opn_int in5c) rfl) (hval0 0 22 v0 rfl rfl) h0
  obtain ⟨x, rfl, rfl, rfl, hx⟩ := open_int (show Try.prog.underlying 3 = some (.int .i64) from in3) (hval0 1 3 v1 rfl rfl) h1
  refine (laws_FnExactGetInt_ok W (exactGetInt (bytesOk hok) hx) hb).mono fun e W' ⟨he, hg⟩ => ?_
  subst he
  exact ⟨_, rfl, law_post hW' rfl Try.laidC Try.rowedC Try.fullC (by rw [Try.params8]; decide) rfl (by kernel_rfl) rfl hg.below⟩

theorem fnExactGetInt_holds : Rows.FnExactGetIntSaid :=
  OpenClaim.holds_of_wide 8 Try.f8 rfl rfl rfl rfl rfl rfl rfl ⟨rfl, rfl, rfl, rfl, rfl⟩ rfl rfl rfl rfl rfl (by kernel_rfl) Try.func8 (by kernel_rfl)
    (of_decide_eq_true (by kernel_rfl)) (by unfold Func.isWrapper; first | (rw [if_pos (by decide +kernel)]; kernel_rfl) | (rw [if_neg (by decide +kernel)]; exact ⟨rfl, rfl⟩))
    (fun os started H enc _ => fnExactGetInt_lifted os started H enc)
#print axioms fnExactGetInt_holds
end Go.Proofs.Ytejkhekgflacaaa
