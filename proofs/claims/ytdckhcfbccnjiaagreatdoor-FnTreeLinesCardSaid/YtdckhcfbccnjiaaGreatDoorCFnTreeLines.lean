/- FnTreeLines returns true for every input: the card. Condition: the package variables that the row lists start as the text lays them; the card ties them. -/
import Derived.Test.YtdckhcfbccnjiaaGreatDoorWTlF
import Derived.Test.YtdckhcfbccnjiaaGreatDoorPTl
import Derived.Test.YtdckhcfbccnjiaaGreatDoorVkP
import Derived.Carry
import Derived.Lay
import Derived.LaidLaws
import Derived.Stop.LaidErr
import Derived.SevenTiedAt
import Derived.MakeChecks
import Derived.Test.YtdckhcfbccnjiaaGreatDoorRows
import Derived.Test.YtdckhcfbccnjiaaGreatDoorCards
import Derived.Test.YtdckhcfbccnjiaaGreatDoorTie
namespace Go.Proofs.YtdckhcfbccnjiaaGreatDoor
open Go.ChangeShapes Go.WideShapes Go.ChangeAt Go.RowKit Go.Vk
theorem Tryz.ownC : ownKnob Tryz.prog.godebug = none := by kernel_rfl
theorem Tryz.laidC : laidOutB Tryz.prog = true := by kernel_rfl
theorem Tryz.rowedC : mapsRowed Tryz.prog = true := by kernel_rfl
theorem Tryz.fullC : AF Tryz.prog = true := by kernel_rfl
theorem Tryz.pow10 {W : World} (h : laidMetH Tryz.prog Rows.fnTreeLinesRow.laid W) : (ol Tryz.prog).rd W [] () [] := by
  rw [MakeChecks.laidMetH_plain _ _ _ (by kernel_rfl)] at h
  have h := laidMet.tail (laidMet.tail (h))
  exact BR (Lib.tabIs_of_head (g := 1) (t := 200) (e := 110) (n := 20) (by kernel_rfl) (by kernel_rfl) (by kernel_rfl) (by kernel_rfl) (by kernel_rfl) (by kernel_rfl) (show laidMet Tryz.prog ((_, Lib.tabData .u64 Lib.pow10Tab) :: _) W from h))
theorem opn_t5 : Opn Tryz.prog 5 (jf (Value.int .u8) (fun _ => rfl)) (yj .u8) := Ae (sK (by kernel_rfl))
theorem opn_t22 : Opn Tryz.prog 22 (af (jf (Value.int .u8) (fun _ => rfl)) 5) (fun xs => xs.length ≤ maxLen ∧ ∀ x ∈ xs, (yj .u8) x) := zp (kY (by kernel_rfl)) opn_t5 (by kernel_rfl)
set_option maxRecDepth 100000 in
theorem fnTreeLines_lifted (os : Os) (started : os.Started) (H : Type) (enc : TypeId × Value → H) :
    ReturnsInHanded {} Tryz.checked os 4 .any (fun w args => (Rows.fnTreeLinesSpec.pre enc Tryz.prog Tryz.f4 Rows.fnTreeLinesRow.domain false w args ∧ laidMetH Tryz.prog Rows.fnTreeLinesRow.laid w) ∧ sizedMet enc Tryz.prog Tryz.f4 (OpenSpec.ofChange Rows.fnTreeLinesSpec) false w args) (Rows.fnTreeLinesSpec.post enc Tryz.prog Tryz.f4 false true false false) := by
  refine returnsInHanded_of_change_and (C := Tryz.checked) (X := fun w _ => laidMetH Tryz.prog Rows.fnTreeLinesRow.laid w) (fun _ _ _ hh h => h.of_heap hh) Tryz.ownC started (by kernel_rfl) Tryz.func4
    (ChangeSpec.witness_shaped (enc := enc) (C := Tryz.checked) (os := os) (X := fun w _ => laidMetH Tryz.prog Rows.fnTreeLinesRow.laid w) false (World.laidAll Tryz.prog os Rows.fnTreeLinesRow.laid) #[.slice none 0 0] 8 (World.laidAll_os _ _ _)
      (World.shaped_of_ZipB (by kernel_rfl) (by kernel_rfl)) (by kernel_rfl) (by kernel_rfl) (by kernel_rfl)
      (by rw [MakeChecks.laidMetH_plain _ _ _ (by kernel_rfl)]; exact laidMet_laidAll _ (by kernel_rfl) (by kernel_rfl))) ?_
  intro W base args ds gs before hval0 hW hcnd _ hL _
  have hW' := hW
  obtain ⟨p, q, hA0, hV, rfl, hfz, hnd⟩ := hW
  have hA : DataW.TrodAll enc Tryz.prog W 0 (fun _ => true) true Tryz.f4.params.toList args.toList ds p := hA0
  rw [Tryz.params4] at hA
  obtain ⟨v0, d0, rfl, rfl, h0⟩ := trodAll_one hA
  obtain ⟨a0, g0, ok0⟩ := Bm (et := 5) (kY (by kernel_rfl)) opn_t22 (hval0 0 22 v0 rfl rfl) h0
  obtain ⟨s0, c0, e0⟩ := am g0
  obtain rfl := (List.cons.inj e0).1
  have gT := Tryz.pow10 hL
  refine (pL W (rQ) g0 gT).mono fun e W' ⟨he, hg⟩ => ?_
  subst he
  exact ⟨_, rfl, zd hW' rfl Tryz.laidC Tryz.rowedC Tryz.fullC (by rw [Tryz.params4]; decide) rfl (by kernel_rfl) rfl hg.below⟩
theorem fnTreeLines_holds : Rows.FnTreeLinesSaid :=
  OpenClaim.holds_of_wide 4 Tryz.f4 rfl rfl rfl rfl rfl rfl rfl ⟨rfl, rfl, rfl, rfl, rfl⟩ rfl rfl rfl rfl rfl (by kernel_rfl) Tryz.func4 (by kernel_rfl)
    (of_decide_eq_true (by kernel_rfl)) (by unfold Func.isWrapper; first | (rw [if_pos (by decide +kernel)]; kernel_rfl) | (rw [if_neg (by decide +kernel)]; exact ⟨rfl, rfl⟩))
    (fun os started H enc _ => fnTreeLines_lifted os started H enc)
theorem fnTreeLines_card : Rows.FnTreeLinesCardSaid :=
  Claim7.holds_tied_plain_at .later [] [.data, .data, .data] true (true, "21bba9146fa924b946d259d5d519c1a25031417bccc03abc702d91d56935c29e") false
    fnTreeLines_holds (fun _ h => by cases h) (by kernel_rfl) (fun _ h => by cases h) fnTreeLines_row_tie rfl ⟨rfl, rfl⟩ (by kernel_rfl) rfl
    (fun f fn hf hfn => by
      obtain rfl : f = 4 := (Option.some.inj ((show Tryz.prog.funcNamed "loop.example/g00477/laws.FnTreeLines" = some 4 by kernel_rfl).symm.trans hf)).symm
      obtain rfl : fn = Tryz.f4 := (Option.some.inj (Tryz.func4.symm.trans hfn)).symm
      refine ⟨by kernel_rfl, fun j t ht => ?_⟩
      rw [Tryz.params4] at ht
      rcases j with _ | j
      · obtain rfl : 22 = t := by simpa using ht
        exact (show Tryz.prog.wantsStandIn 22 = false by kernel_rfl)
      · simp at ht)
    (by kernel_rfl)
#print axioms fnTreeLines_card
end Go.Proofs.YtdckhcfbccnjiaaGreatDoor
