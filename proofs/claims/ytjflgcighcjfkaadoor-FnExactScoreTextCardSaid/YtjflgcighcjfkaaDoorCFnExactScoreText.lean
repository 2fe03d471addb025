/- FnExactScoreText returns true for every input: the card. Condition: the package variables that the row lists start as the text lays them; the card ties them. -/
import Derived.Test.YtjflgcighcjfkaaDoorWScoreText
import Derived.Test.YtjflgcighcjfkaaDoorPSc
import Derived.Test.YtjflgcighcjfkaaDoorVkS
import Derived.Test.YtjflgcighcjfkaaDoorVkV
import Derived.Carry
import Derived.Lay
import Derived.LaidLaws
import Derived.Stop.LaidErr
import Derived.SevenTiedAt
import Derived.MakeChecks
import Derived.Test.YtjflgcighcjfkaaDoorRows
import Derived.Test.YtjflgcighcjfkaaDoorCards
import Derived.Test.YtjflgcighcjfkaaDoorTie
namespace Go.Proofs.YtjflgcighcjfkaaDoor
open Go.ChangeShapes Go.WideShapes Go.ChangeAt Go.RowKit Go.Vk

theorem Tryd.ownC : ownKnob Tryd.prog.godebug = none := by kernel_rfl
theorem Tryd.laidC : laidOutB Tryd.prog = true := by kernel_rfl
theorem Tryd.rowedC : mapsRowed Tryd.prog = true := by kernel_rfl
theorem Tryd.fullC : fullB Tryd.prog = true := by kernel_rfl
theorem Tryd.pow10 {W : World} (h : laidMetH Tryd.prog Rows.fnExactScoreTextRow.laid W) : (ePow10 Tryd.prog).rd W [] () [] := by
  rw [MakeChecks.laidMetH_plain _ _ _ (by kernel_rfl)] at h
  have h := laidMet.tail (laidMet.tail (h))
  exact rd_tab (Lib.tabIs_of_head (g := 1) (t := 169) (e := 162) (n := 20) (by kernel_rfl) (by kernel_rfl) (by kernel_rfl) (by kernel_rfl) (by kernel_rfl) (by kernel_rfl) (show laidMet Tryd.prog ((_, Lib.tabData .u64 Lib.pow10Tab) :: _) W from h))
theorem opn_t3 : Opn Tryd.prog 3 (eVal (Value.int .i64) (fun _ => rfl)) (IntOk .i64) := opn_int (isInt_of (by kernel_rfl))
theorem opn_t22 : Opn Tryd.prog 22 (eList (eVal (Value.int .i64) (fun _ => rfl)) 3) (fun xs => xs.length ≤ maxLen ∧ ∀ x ∈ xs, (IntOk .i64) x) := opn_list (isSl_of (by kernel_rfl)) opn_t3 (by kernel_rfl)
theorem opn_t27 : Opn Tryd.prog 27 (eList (eList (eVal (Value.int .i64) (fun _ => rfl)) 3) 22) (fun xs => xs.length ≤ maxLen ∧ ∀ x ∈ xs, (fun xs => xs.length ≤ maxLen ∧ ∀ x ∈ xs, (IntOk .i64) x) x) := opn_list (isSl_of (by kernel_rfl)) opn_t22 (by kernel_rfl)
theorem fo131 : fieldsOf Tryd.prog 131 = some [(3, 0), (3, 1)] := by kernel_rfl
theorem opn_t131 : Opn Tryd.prog 131 (eTlaws_Pair) (fun (x : Tlaws_Pair) => (IntOk .i64) x.Truth_ ∧ (IntOk .i64) x.Said_) := opn_map (opn_struct (e := (ePair (eVal (Value.int .i64) (fun _ => rfl)) (eVal (Value.int .i64) (fun _ => rfl)))) fo131 (opnF_cons opn_t3 (by kernel_rfl) (opnF_one opn_t3 (by kernel_rfl)) (by decide)) (by kernel_rfl)) (fun a => (⟨a.1, a.2⟩ : Tlaws_Pair)) (fun h => by obtain ⟨_, _, rfl, rfl, rfl⟩ := h; rfl) (fun h => h)
theorem opn_t36 : Opn Tryd.prog 36 (eList (eTlaws_Pair) 131) (fun xs => xs.length ≤ maxLen ∧ ∀ x ∈ xs, (fun (x : Tlaws_Pair) => (IntOk .i64) x.Truth_ ∧ (IntOk .i64) x.Said_) x) := opn_list (isSl_of (by kernel_rfl)) opn_t131 (by kernel_rfl)
theorem fo38 : fieldsOf Tryd.prog 38 = some [(27, 0), (36, 1)] := by kernel_rfl
theorem opn_t38 : Opn Tryd.prog 38 (eTlaws_Score) (fun (x : Tlaws_Score) => (fun xs => xs.length ≤ maxLen ∧ ∀ x ∈ xs, (fun xs => xs.length ≤ maxLen ∧ ∀ x ∈ xs, (IntOk .i64) x) x) x.Table_ ∧ (fun xs => xs.length ≤ maxLen ∧ ∀ x ∈ xs, (fun (x : Tlaws_Pair) => (IntOk .i64) x.Truth_ ∧ (IntOk .i64) x.Said_) x) x.Last_) := opn_iso (opn_struct fo38 (opnF_cons opn_t27 (by kernel_rfl) (opnF_one opn_t36 (by kernel_rfl)) (by decide)) (by kernel_rfl)) (fun a => (⟨a.1, a.2⟩ : Tlaws_Score)) (fun _ => rfl)
set_option maxRecDepth 100000 in
theorem fnExactScoreText_lifted (os : Os) (started : os.Started) (H : Type) (enc : TypeId × Value → H) :
    ReturnsInHanded {} Tryd.checked os 5 .any (fun w args => (Rows.fnExactScoreTextSpec.pre enc Tryd.prog Tryd.f5 Rows.fnExactScoreTextRow.domain false w args ∧ laidMetH Tryd.prog Rows.fnExactScoreTextRow.laid w) ∧ sizedMet enc Tryd.prog Tryd.f5 (OpenSpec.ofChange Rows.fnExactScoreTextSpec) false w args) (Rows.fnExactScoreTextSpec.post enc Tryd.prog Tryd.f5 false true false false) := by
  refine returnsInHanded_of_change_and (C := Tryd.checked) (X := fun w _ => laidMetH Tryd.prog Rows.fnExactScoreTextRow.laid w) (fun _ _ _ hh h => h.of_heap hh) Tryd.ownC started (by kernel_rfl) Tryd.func5
    (ChangeSpec.witness_shaped (enc := enc) (C := Tryd.checked) (os := os) (X := fun w _ => laidMetH Tryd.prog Rows.fnExactScoreTextRow.laid w) false (World.laidAll Tryd.prog os Rows.fnExactScoreTextRow.laid) #[.int .i64 0, .agg #[.slice none 0 0, .slice none 0 0]] 8 (World.laidAll_os _ _ _)
      (World.shaped_of_ZipB (by kernel_rfl) (by kernel_rfl)) (by kernel_rfl) (by kernel_rfl) (by kernel_rfl)
      (by rw [MakeChecks.laidMetH_plain _ _ _ (by kernel_rfl)]; exact laidMet_laidAll _ (by kernel_rfl) (by kernel_rfl))) ?_
  intro W base args ds gs before hval0 hW hcnd _ hL _
  have hW' := hW
  obtain ⟨p, q, hA0, hV, rfl, hfz, hnd⟩ := hW
  have hA : DataW.TrodAll enc Tryd.prog W 0 (fun _ => true) true Tryd.f5.params.toList args.toList ds p := hA0
  rw [Tryd.params5] at hA
  obtain ⟨v0, v1, d0, d1, p0, p1, rfl, rfl, rfl, h0, h1⟩ := trodAll_two hA
  obtain ⟨a0, rfl, rfl, rfl, ok0⟩ := open_int (show Tryd.prog.underlying 3 = some (.int .i64) by kernel_rfl) (hval0 0 3 v0 rfl rfl) h0
  obtain ⟨a1, cs1, rfl, g1, ok1⟩ := arg_struct fo38 opn_t38 (hval0 1 38 v1 rfl rfl) h1
  have gT := Tryd.pow10 hL
  refine (laws_FnExactScoreText_ok W (exact_ScoreText ok1 (fun s1 => scoreText_same s1)) g1 gT).mono fun e W' ⟨he, hg⟩ => ?_
  subst he
  exact ⟨_, rfl, law_post hW' rfl Tryd.laidC Tryd.rowedC Tryd.fullC (by rw [Tryd.params5]; decide) rfl (by kernel_rfl) rfl hg.below⟩

theorem fnExactScoreText_holds : Rows.FnExactScoreTextSaid :=
  OpenClaim.holds_of_wide 5 Tryd.f5 rfl rfl rfl rfl rfl rfl rfl ⟨rfl, rfl, rfl, rfl, rfl⟩ rfl rfl rfl rfl rfl (by kernel_rfl) Tryd.func5 (by kernel_rfl)
    (of_decide_eq_true (by kernel_rfl)) (by unfold Func.isWrapper; first | (rw [if_pos (by decide +kernel)]; kernel_rfl) | (rw [if_neg (by decide +kernel)]; exact ⟨rfl, rfl⟩))
    (fun os started H enc _ => fnExactScoreText_lifted os started H enc)
theorem fnExactScoreText_card : Rows.FnExactScoreTextCardSaid :=
  Claim7.holds_tied_plain_at .later [] [.data, .data, .data] true (true, "c10faa16e30179885c5f594d3fb892d05bb9467148b2883893c682ed34cd1017") false
    fnExactScoreText_holds (fun _ h => by cases h) (by kernel_rfl) (fun _ h => by cases h) fnExactScoreText_row_tie rfl ⟨rfl, rfl⟩ (by kernel_rfl) rfl
    (fun f fn hf hfn => by
      obtain rfl : f = 5 := (Option.some.inj ((show Tryd.prog.funcNamed "loop.example/g00477/laws.FnExactScoreText" = some 5 by kernel_rfl).symm.trans hf)).symm
      obtain rfl : fn = Tryd.f5 := (Option.some.inj (Tryd.func5.symm.trans hfn)).symm
      refine ⟨by kernel_rfl, fun j t ht => ?_⟩
      rw [Tryd.params5] at ht
      rcases j with _ | _ | j
      · obtain rfl : 3 = t := by simpa using ht
        exact (show Tryd.prog.wantsStandIn 3 = false by kernel_rfl)
      · obtain rfl : 38 = t := by simpa using ht
        exact (show Tryd.prog.wantsStandIn 38 = false by kernel_rfl)
      · simp at ht)
    (by kernel_rfl)
#print axioms fnExactScoreText_card
end Go.Proofs.YtjflgcighcjfkaaDoor
