/- FnTreeBytes returns true for every input. -/
import Derived.Test.YtdckhcfbccnjiaaGreatWLTF
import Derived.Test.YtdckhcfbccnjiaaGreatR2H
import Derived.Test.YtdckhcfbccnjiaaGreatVkQ
import Derived.Carry
import Derived.Test.YtdckhcfbccnjiaaGreatRows
namespace Go.Proofs.YtdckhcfbccnjiaaGreat
open Go.ChangeShapes Go.WideShapes Go.ChangeAt Go.RowKit Go.Vk
theorem Tryz.ownC : ownKnob Tryz.prog.godebug = none := by kernel_rfl
theorem Tryz.laidC : laidOutB Tryz.prog = true := by kernel_rfl
theorem Tryz.rowedC : mapsRowed Tryz.prog = true := by kernel_rfl
theorem Tryz.fullC : DD Tryz.prog = true := by kernel_rfl
theorem opn_t5 : Opn Tryz.prog 5 (kg (Value.int .u8) (fun _ => rfl)) (Bc .u8) := CS (uX (by kernel_rfl))
theorem opn_t22 : Opn Tryz.prog 22 (ad (kg (Value.int .u8) (fun _ => rfl)) 5) (fun xs => xs.length ≤ maxLen ∧ ∀ x ∈ xs, (Bc .u8) x) := BR (lZ (by kernel_rfl)) opn_t5 (by kernel_rfl)
set_option maxRecDepth 100000 in
theorem fnTreeBytes_lifted (os : Os) (started : os.Started) (H : Type) (enc : TypeId × Value → H) :
    ReturnsInHanded {} Tryz.checked os 3 .any (Rows.fnTreeBytesSpec.pre6 enc Tryz.prog Tryz.f3 Rows.fnTreeBytesRow.domain false) (Rows.fnTreeBytesSpec.post enc Tryz.prog Tryz.f3 false true false false) := by
  refine returnsInHanded_of_change (C := Tryz.checked) Tryz.ownC started (by kernel_rfl) Tryz.func3
    (ChangeSpec.witness6 (enc := enc) (C := Tryz.checked) false ⟨#[], #[.slice none 0 0], []⟩ 8 (by kernel_rfl) (by kernel_rfl) (by kernel_rfl) (by kernel_rfl)) ?_
  intro W base args ds gs before hval0 hW hcnd _
  have hW' := hW
  obtain ⟨p, q, hA0, hV, rfl, hfz, hnd⟩ := hW
  have hA : DataW.TrodAll enc Tryz.prog W 0 (fun _ => true) true Tryz.f3.params.toList args.toList ds p := hA0
  rw [Tryz.params3] at hA
  obtain ⟨v0, d0, rfl, rfl, h0⟩ := trodAll_one hA
  obtain ⟨a0, g0, ok0⟩ := EC (et := 5) (lZ (by kernel_rfl)) opn_t22 (hval0 0 22 v0 rfl rfl) h0
  obtain ⟨s0, c0, e0⟩ := ao g0
  obtain rfl := (List.cons.inj e0).1
  refine (qU W (tL) g0).mono fun e W' ⟨he, hg⟩ => ?_
  subst he
  exact ⟨_, rfl, AC hW' rfl Tryz.laidC Tryz.rowedC Tryz.fullC (by rw [Tryz.params3]; decide) rfl (by kernel_rfl) rfl hg.below⟩
theorem fnTreeBytes_holds : Rows.FnTreeBytesSaid :=
  OpenClaim.holds_of_wide 3 Tryz.f3 rfl rfl rfl rfl rfl rfl rfl ⟨rfl, rfl, rfl, rfl, rfl⟩ rfl rfl rfl rfl rfl (by kernel_rfl) Tryz.func3 (by kernel_rfl)
    (of_decide_eq_true (by kernel_rfl)) (by unfold Func.isWrapper; first | (rw [if_pos (by decide +kernel)]; kernel_rfl) | (rw [if_neg (by decide +kernel)]; exact ⟨rfl, rfl⟩))
    (fun os started H enc _ => fnTreeBytes_lifted os started H enc)
#print axioms fnTreeBytes_holds
end Go.Proofs.YtdckhcfbccnjiaaGreat
