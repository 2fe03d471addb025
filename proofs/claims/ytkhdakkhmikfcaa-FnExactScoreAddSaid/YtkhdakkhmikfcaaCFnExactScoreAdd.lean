/- FnExactScoreAdd returns true for every input. -/
import Derived.Test.YtkhdakkhmikfcaaWScoreAddB
import Derived.Test.YtkhdakkhmikfcaaPS
import Derived.Test.YtkhdakkhmikfcaaVkS
import Derived.Test.YtkhdakkhmikfcaaVkV
import Derived.Carry
import Derived.Test.YtkhdakkhmikfcaaRows
namespace Go.Proofs.Ytkhdakkhmikfcaa
open Go.ChangeShapes Go.WideShapes Go.ChangeAt Go.RowKit Go.Vk

theorem Try.ownC : ownKnob Try.prog.godebug = none := by kernel_rfl
theorem Try.laidC : laidOutB Try.prog = true := by kernel_rfl
theorem Try.rowedC : mapsRowed Try.prog = true := by kernel_rfl
theorem Try.fullC : fullB Try.prog = true := by kernel_rfl
theorem opn_t3 : Opn Try.prog 3 (eVal (Value.int .i64) (fun _ => rfl)) (IntOk .i64) := opn_int (isInt_of (by kernel_rfl))
theorem opn_t53 : Opn Try.prog 53 (eList (eVal (Value.int .i64) (fun _ => rfl)) 3) (fun xs => xs.length ≤ maxLen ∧ ∀ x ∈ xs, (IntOk .i64) x) := opn_list (isSl_of (by kernel_rfl)) opn_t3 (by kernel_rfl)
theorem opn_t22 : Opn Try.prog 22 (eList (eList (eVal (Value.int .i64) (fun _ => rfl)) 3) 53) (fun xs => xs.length ≤ maxLen ∧ ∀ x ∈ xs, (fun xs => xs.length ≤ maxLen ∧ ∀ x ∈ xs, (IntOk .i64) x) x) := opn_list (isSl_of (by kernel_rfl)) opn_t53 (by kernel_rfl)
theorem fo75 : fieldsOf Try.prog 75 = some [(3, 0), (3, 1)] := by kernel_rfl
theorem opn_t75 : Opn Try.prog 75 (eTlaws_Pair) (fun (x : Tlaws_Pair) => (IntOk .i64) x.Truth_ ∧ (IntOk .i64) x.Said_) := opn_map (opn_struct (e := (ePair (eVal (Value.int .i64) (fun _ => rfl)) (eVal (Value.int .i64) (fun _ => rfl)))) fo75 (opnF_cons opn_t3 (by kernel_rfl) (opnF_one opn_t3 (by kernel_rfl)) (by decide)) (by kernel_rfl)) (fun a => (⟨a.1, a.2⟩ : Tlaws_Pair)) (fun h => by obtain ⟨_, _, rfl, rfl, rfl⟩ := h; rfl) (fun h => h)
theorem opn_t23 : Opn Try.prog 23 (eList (eTlaws_Pair) 75) (fun xs => xs.length ≤ maxLen ∧ ∀ x ∈ xs, (fun (x : Tlaws_Pair) => (IntOk .i64) x.Truth_ ∧ (IntOk .i64) x.Said_) x) := opn_list (isSl_of (by kernel_rfl)) opn_t75 (by kernel_rfl)
theorem fo25 : fieldsOf Try.prog 25 = some [(22, 0), (23, 1)] := by kernel_rfl
theorem opn_t25 : Opn Try.prog 25 (eTlaws_Score) (fun (x : Tlaws_Score) => (fun xs => xs.length ≤ maxLen ∧ ∀ x ∈ xs, (fun xs => xs.length ≤ maxLen ∧ ∀ x ∈ xs, (IntOk .i64) x) x) x.Table_ ∧ (fun xs => xs.length ≤ maxLen ∧ ∀ x ∈ xs, (fun (x : Tlaws_Pair) => (IntOk .i64) x.Truth_ ∧ (IntOk .i64) x.Said_) x) x.Last_) := opn_iso (opn_struct fo25 (opnF_cons opn_t22 (by kernel_rfl) (opnF_one opn_t23 (by kernel_rfl)) (by decide)) (by kernel_rfl)) (fun a => (⟨a.1, a.2⟩ : Tlaws_Score)) (fun _ => rfl)
set_option maxRecDepth 100000 in
theorem fnExactScoreAdd_lifted (os : Os) (started : os.Started) (H : Type) (enc : TypeId × Value → H) :
    ReturnsInHanded {} Try.checked os 9 .any (Rows.fnExactScoreAddSpec.pre6 enc Try.prog Try.f9 Rows.fnExactScoreAddRow.domain false) (Rows.fnExactScoreAddSpec.post enc Try.prog Try.f9 false true false false) := by
  refine returnsInHanded_of_change (C := Try.checked) Try.ownC started (by kernel_rfl) Try.func9
    (ChangeSpec.witness6 (enc := enc) (C := Try.checked) false ⟨#[], #[.int .i64 0, .agg #[.slice none 0 0, .slice none 0 0], .int .i64 0, .int .i64 0], []⟩ 8 (by kernel_rfl) (by kernel_rfl) (by kernel_rfl) (by kernel_rfl)) ?_
  intro W base args ds gs before hval0 hW hcnd _
  have hW' := hW
  obtain ⟨p, q, hA0, hV, rfl, hfz, hnd⟩ := hW
  have hA : DataW.TrodAll enc Try.prog W 0 (fun _ => true) true Try.f9.params.toList args.toList ds p := hA0
  rw [Try.params9] at hA
  obtain ⟨v0, v1, v2, v3, d0, d1, d2, d3, p0, p1, p2, p3, rfl, rfl, rfl, h0, h1, h2, h3⟩ := trodAll_four hA
  obtain ⟨a0, rfl, rfl, rfl, ok0⟩ := open_int (show Try.prog.underlying 3 = some (.int .i64) by kernel_rfl) (hval0 0 3 v0 rfl rfl) h0
  obtain ⟨a1, cs1, rfl, g1, ok1⟩ := arg_struct fo25 opn_t25 (hval0 1 25 v1 rfl rfl) h1
  obtain ⟨a2, rfl, rfl, rfl, ok2⟩ := open_int (show Try.prog.underlying 3 = some (.int .i64) by kernel_rfl) (hval0 2 3 v2 rfl rfl) h2
  obtain ⟨a3, rfl, rfl, rfl, ok3⟩ := open_int (show Try.prog.underlying 3 = some (.int .i64) by kernel_rfl) (hval0 3 3 v3 rfl rfl) h3
  refine (laws_FnExactScoreAdd_ok W (exact_ScoreAdd ok1 (fun s b => add_same s b)) g1).mono fun e W' ⟨he, hg⟩ => ?_
  subst he
  exact ⟨_, rfl, law_post hW' rfl Try.laidC Try.rowedC Try.fullC (by rw [Try.params9]; decide) rfl (by kernel_rfl) rfl hg.below⟩

theorem fnExactScoreAdd_holds : Rows.FnExactScoreAddSaid :=
  OpenClaim.holds_of_wide 9 Try.f9 rfl rfl rfl rfl rfl rfl rfl ⟨rfl, rfl, rfl, rfl, rfl⟩ rfl rfl rfl rfl rfl (by kernel_rfl) Try.func9 (by kernel_rfl)
    (of_decide_eq_true (by kernel_rfl)) (by unfold Func.isWrapper; first | (rw [if_pos (by decide +kernel)]; kernel_rfl) | (rw [if_neg (by decide +kernel)]; exact ⟨rfl, rfl⟩))
    (fun os started H enc _ => fnExactScoreAdd_lifted os started H enc)
#print axioms fnExactScoreAdd_holds
end Go.Proofs.Ytkhdakkhmikfcaa
