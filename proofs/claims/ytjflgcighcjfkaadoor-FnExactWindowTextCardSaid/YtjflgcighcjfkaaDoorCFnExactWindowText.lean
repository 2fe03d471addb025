/- FnExactWindowText returns true for every input: the card. Condition: the package variables that the row lists start as the text lays them; the card ties them. -/
import Derived.Test.YtjflgcighcjfkaaDoorWWindowText
import Derived.Test.YtjflgcighcjfkaaDoorPWi
import Derived.Test.YtjflgcighcjfkaaDoorVkS
import Derived.Test.YtjflgcighcjfkaaDoorVkV
import Derived.Carry
import Derived.Lay
import Derived.LaidLaws
import Derived.Stop.LaidErr
import Derived.SevenTiedAt
import Derived.MakeChecks
import Derived.Test.YtjflgcighcjfkaaDoorRows
import Derived.Test.YtjflgcighcjfkaaDoorCards
import Derived.Test.YtjflgcighcjfkaaDoorTie
namespace Go.Proofs.YtjflgcighcjfkaaDoor
open Go.ChangeShapes Go.WideShapes Go.ChangeAt Go.RowKit Go.Vk

theorem Tryd.ownC : ownKnob Tryd.prog.godebug = none := by kernel_rfl
theorem Tryd.laidC : laidOutB Tryd.prog = true := by kernel_rfl
theorem Tryd.rowedC : mapsRowed Tryd.prog = true := by kernel_rfl
theorem Tryd.fullC : fullB Tryd.prog = true := by kernel_rfl
theorem Tryd.pow10 {W : World} (h : laidMetH Tryd.prog Rows.fnExactWindowTextRow.laid W) : (ePow10 Tryd.prog).rd W [] () [] := by
  rw [MakeChecks.laidMetH_plain _ _ _ (by kernel_rfl)] at h
  have h := laidMet.tail (laidMet.tail (h))
  exact rd_tab (Lib.tabIs_of_head (g := 1) (t := 169) (e := 162) (n := 20) (by kernel_rfl) (by kernel_rfl) (by kernel_rfl) (by kernel_rfl) (by kernel_rfl) (by kernel_rfl) (show laidMet Tryd.prog ((_, Lib.tabData .u64 Lib.pow10Tab) :: _) W from h))
theorem opn_t3 : Opn Tryd.prog 3 (eVal (Value.int .i64) (fun _ => rfl)) (IntOk .i64) := opn_int (isInt_of (by kernel_rfl))
theorem opn_t22 : Opn Tryd.prog 22 (eList (eVal (Value.int .i64) (fun _ => rfl)) 3) (fun xs => xs.length ≤ maxLen ∧ ∀ x ∈ xs, (IntOk .i64) x) := opn_list (isSl_of (by kernel_rfl)) opn_t3 (by kernel_rfl)
theorem opn_t27 : Opn Tryd.prog 27 (eList (eList (eVal (Value.int .i64) (fun _ => rfl)) 3) 22) (fun xs => xs.length ≤ maxLen ∧ ∀ x ∈ xs, (fun xs => xs.length ≤ maxLen ∧ ∀ x ∈ xs, (IntOk .i64) x) x) := opn_list (isSl_of (by kernel_rfl)) opn_t22 (by kernel_rfl)
theorem fo29 : fieldsOf Tryd.prog 29 = some [(27, 0)] := by kernel_rfl
theorem opn_t29 : Opn Tryd.prog 29 (eTlaws_Window) (fun (x : Tlaws_Window) => (fun xs => xs.length ≤ maxLen ∧ ∀ x ∈ xs, (fun xs => xs.length ≤ maxLen ∧ ∀ x ∈ xs, (IntOk .i64) x) x) x.Rows_) := opn_iso (opn_struct fo29 (opnF_one opn_t27 (by kernel_rfl)) (by kernel_rfl)) (fun a => (⟨a⟩ : Tlaws_Window)) (fun _ => rfl)
set_option maxRecDepth 100000 in
theorem fnExactWindowText_lifted (os : Os) (started : os.Started) (H : Type) (enc : TypeId × Value → H) :
    ReturnsInHanded {} Tryd.checked os 4 .any (fun w args => (Rows.fnExactWindowTextSpec.pre enc Tryd.prog Tryd.f4 Rows.fnExactWindowTextRow.domain false w args ∧ laidMetH Tryd.prog Rows.fnExactWindowTextRow.laid w) ∧ sizedMet enc Tryd.prog Tryd.f4 (OpenSpec.ofChange Rows.fnExactWindowTextSpec) false w args) (Rows.fnExactWindowTextSpec.post enc Tryd.prog Tryd.f4 false true false false) := by
  refine returnsInHanded_of_change_and (C := Tryd.checked) (X := fun w _ => laidMetH Tryd.prog Rows.fnExactWindowTextRow.laid w) (fun _ _ _ hh h => h.of_heap hh) Tryd.ownC started (by kernel_rfl) Tryd.func4
    (ChangeSpec.witness_shaped (enc := enc) (C := Tryd.checked) (os := os) (X := fun w _ => laidMetH Tryd.prog Rows.fnExactWindowTextRow.laid w) false (World.laidAll Tryd.prog os Rows.fnExactWindowTextRow.laid) #[.agg #[.slice none 0 0]] 8 (World.laidAll_os _ _ _)
      (World.shaped_of_ZipB (by kernel_rfl) (by kernel_rfl)) (by kernel_rfl) (by kernel_rfl) (by kernel_rfl)
      (by rw [MakeChecks.laidMetH_plain _ _ _ (by kernel_rfl)]; exact laidMet_laidAll _ (by kernel_rfl) (by kernel_rfl))) ?_
  intro W base args ds gs before hval0 hW hcnd _ hL _
  have hW' := hW
  obtain ⟨p, q, hA0, hV, rfl, hfz, hnd⟩ := hW
  have hA : DataW.TrodAll enc Tryd.prog W 0 (fun _ => true) true Tryd.f4.params.toList args.toList ds p := hA0
  rw [Tryd.params4] at hA
  obtain ⟨v0, d0, rfl, rfl, h0⟩ := trodAll_one hA
  obtain ⟨a0, cs0, rfl, g0, ok0⟩ := arg_struct fo29 opn_t29 (hval0 0 29 v0 rfl rfl) h0
  have gT := Tryd.pow10 hL
  refine (laws_FnExactWindowText_ok W (exact_WindowText ok0 (fun s0 => windowText_same s0)) g0 gT).mono fun e W' ⟨he, hg⟩ => ?_
  subst he
  exact ⟨_, rfl, law_post hW' rfl Tryd.laidC Tryd.rowedC Tryd.fullC (by rw [Tryd.params4]; decide) rfl (by kernel_rfl) rfl hg.below⟩

theorem fnExactWindowText_holds : Rows.FnExactWindowTextSaid :=
  OpenClaim.holds_of_wide 4 Tryd.f4 rfl rfl rfl rfl rfl rfl rfl ⟨rfl, rfl, rfl, rfl, rfl⟩ rfl rfl rfl rfl rfl (by kernel_rfl) Tryd.func4 (by kernel_rfl)
    (of_decide_eq_true (by kernel_rfl)) (by unfold Func.isWrapper; first | (rw [if_pos (by decide +kernel)]; kernel_rfl) | (rw [if_neg (by decide +kernel)]; exact ⟨rfl, rfl⟩))
    (fun os started H enc _ => fnExactWindowText_lifted os started H enc)
theorem fnExactWindowText_card : Rows.FnExactWindowTextCardSaid :=
  Claim7.holds_tied_plain_at .later [] [.data, .data, .data] true (true, "c10faa16e30179885c5f594d3fb892d05bb9467148b2883893c682ed34cd1017") false
    fnExactWindowText_holds (fun _ h => by cases h) (by kernel_rfl) (fun _ h => by cases h) fnExactWindowText_row_tie rfl ⟨rfl, rfl⟩ (by kernel_rfl) rfl
    (fun f fn hf hfn => by
      obtain rfl : f = 4 := (Option.some.inj ((show Tryd.prog.funcNamed "loop.example/g00477/laws.FnExactWindowText" = some 4 by kernel_rfl).symm.trans hf)).symm
      obtain rfl : fn = Tryd.f4 := (Option.some.inj (Tryd.func4.symm.trans hfn)).symm
      refine ⟨by kernel_rfl, fun j t ht => ?_⟩
      rw [Tryd.params4] at ht
      rcases j with _ | j
      · obtain rfl : 29 = t := by simpa using ht
        exact (show Tryd.prog.wantsStandIn 29 = false by kernel_rfl)
      · simp at ht)
    (by kernel_rfl)
#print axioms fnExactWindowText_card
end Go.Proofs.YtjflgcighcjfkaaDoor
