/- FnExactReplySame returns true for every input. -/
import Derived.Test.YtejneofoabmojaaWReplySame
import Derived.Test.YtejneofoabmojaaPEn
import Derived.Test.YtejneofoabmojaaVkS
import Derived.Test.YtejneofoabmojaaVkV
import Derived.Carry
import Derived.Test.YtejneofoabmojaaRows
namespace Go.Proofs.Ytejneofoabmojaa
open Go.ChangeShapes Go.WideShapes Go.ChangeAt Go.RowKit Go.Vk

theorem Try.ownC : ownKnob Try.prog.godebug = none := by kernel_rfl
theorem Try.laidC : laidOutB Try.prog = true := by kernel_rfl
theorem Try.rowedC : mapsRowed Try.prog = true := by kernel_rfl
theorem Try.fullC : fullB Try.prog = true := by kernel_rfl
theorem opn_t3 : Opn Try.prog 3 (eVal (Value.int .i64) (fun _ => rfl)) (IntOk .i64) := opn_int (isInt_of (by kernel_rfl))
theorem opn_t22 : Opn Try.prog 22 (eList (eVal (Value.int .i64) (fun _ => rfl)) 3) (fun xs => xs.length ≤ maxLen ∧ ∀ x ∈ xs, (IntOk .i64) x) := opn_list (isSl_of (by kernel_rfl)) opn_t3 (by kernel_rfl)
theorem opn_t5 : Opn Try.prog 5 (eVal (Value.int .u8) (fun _ => rfl)) (IntOk .u8) := opn_int (isInt_of (by kernel_rfl))
theorem opn_t82 : Opn Try.prog 82 (eList (eVal (Value.int .u8) (fun _ => rfl)) 5) (fun xs => xs.length ≤ maxLen ∧ ∀ x ∈ xs, (IntOk .u8) x) := opn_list (isSl_of (by kernel_rfl)) opn_t5 (by kernel_rfl)
theorem opn_t4 : Opn Try.prog 4 eBool (fun _ => True) := opn_bool (show Try.prog.underlying 4 = some .bool by kernel_rfl)
theorem fo128 : fieldsOf Try.prog 128 = some [(3, 0), (3, 1), (3, 2), (3, 3), (3, 4), (3, 5), (4, 6), (4, 7)] := by kernel_rfl
theorem opn_t128 : Opn Try.prog 128 (eTlaws_Step) (fun (x : Tlaws_Step) => (IntOk .i64) x.Said_ ∧ (IntOk .i64) x.Bit_ ∧ (IntOk .i64) x.Weight_ ∧ (IntOk .i64) x.Grow_ ∧ (IntOk .i64) x.Young_ ∧ (IntOk .i64) x.Det_ ∧ (fun _ => True) x.Began_ ∧ (fun _ => True) x.Swapped_) := opn_map (opn_struct (e := (ePair (eVal (Value.int .i64) (fun _ => rfl)) (ePair (eVal (Value.int .i64) (fun _ => rfl)) (ePair (eVal (Value.int .i64) (fun _ => rfl)) (ePair (eVal (Value.int .i64) (fun _ => rfl)) (ePair (eVal (Value.int .i64) (fun _ => rfl)) (ePair (eVal (Value.int .i64) (fun _ => rfl)) (ePair (eBool) (eBool))))))))) fo128 (opnF_cons opn_t3 (by kernel_rfl) (opnF_cons opn_t3 (by kernel_rfl) (opnF_cons opn_t3 (by kernel_rfl) (opnF_cons opn_t3 (by kernel_rfl) (opnF_cons opn_t3 (by kernel_rfl) (opnF_cons opn_t3 (by kernel_rfl) (opnF_cons opn_t4 (by kernel_rfl) (opnF_one opn_t4 (by kernel_rfl)) (by decide)) (by decide)) (by decide)) (by decide)) (by decide)) (by decide)) (by decide)) (by kernel_rfl)) (fun a => (⟨a.1, a.2.1, a.2.2.1, a.2.2.2.1, a.2.2.2.2.1, a.2.2.2.2.2.1, a.2.2.2.2.2.2.1, a.2.2.2.2.2.2.2⟩ : Tlaws_Step)) (fun h => by obtain ⟨_, _, rfl, rfl, ⟨_, _, rfl, rfl, ⟨_, _, rfl, rfl, ⟨_, _, rfl, rfl, ⟨_, _, rfl, rfl, ⟨_, _, rfl, rfl, ⟨_, _, rfl, rfl, rfl⟩⟩⟩⟩⟩⟩⟩ := h; rfl) (fun h => h)
theorem opn_t68 : Opn Try.prog 68 (eList (eTlaws_Step) 128) (fun xs => xs.length ≤ maxLen ∧ ∀ x ∈ xs, (fun (x : Tlaws_Step) => (IntOk .i64) x.Said_ ∧ (IntOk .i64) x.Bit_ ∧ (IntOk .i64) x.Weight_ ∧ (IntOk .i64) x.Grow_ ∧ (IntOk .i64) x.Young_ ∧ (IntOk .i64) x.Det_ ∧ (fun _ => True) x.Began_ ∧ (fun _ => True) x.Swapped_) x) := opn_list (isSl_of (by kernel_rfl)) opn_t128 (by kernel_rfl)
theorem fo84 : fieldsOf Try.prog 84 = some [(3, 0), (3, 1), (3, 2), (22, 3), (82, 4), (68, 5)] := by kernel_rfl
theorem opn_t84 : Opn Try.prog 84 (eTlaws_Reply) (fun (x : Tlaws_Reply) => (IntOk .i64) x.Code_ ∧ (IntOk .i64) x.At_ ∧ (IntOk .i64) x.Says_ ∧ (fun xs => xs.length ≤ maxLen ∧ ∀ x ∈ xs, (IntOk .i64) x) x.Votes_ ∧ (fun xs => xs.length ≤ maxLen ∧ ∀ x ∈ xs, (IntOk .u8) x) x.Bytes_ ∧ (fun xs => xs.length ≤ maxLen ∧ ∀ x ∈ xs, (fun (x : Tlaws_Step) => (IntOk .i64) x.Said_ ∧ (IntOk .i64) x.Bit_ ∧ (IntOk .i64) x.Weight_ ∧ (IntOk .i64) x.Grow_ ∧ (IntOk .i64) x.Young_ ∧ (IntOk .i64) x.Det_ ∧ (fun _ => True) x.Began_ ∧ (fun _ => True) x.Swapped_) x) x.Steps_) := opn_iso (opn_struct fo84 (opnF_cons opn_t3 (by kernel_rfl) (opnF_cons opn_t3 (by kernel_rfl) (opnF_cons opn_t3 (by kernel_rfl) (opnF_cons opn_t22 (by kernel_rfl) (opnF_cons opn_t82 (by kernel_rfl) (opnF_one opn_t68 (by kernel_rfl)) (by decide)) (by decide)) (by decide)) (by decide)) (by decide)) (by kernel_rfl)) (fun a => (⟨a.1, a.2.1, a.2.2.1, a.2.2.2.1, a.2.2.2.2.1, a.2.2.2.2.2⟩ : Tlaws_Reply)) (fun _ => rfl)
set_option maxRecDepth 100000 in
theorem fnExactReplySame_lifted (os : Os) (started : os.Started) (H : Type) (enc : TypeId × Value → H) :
    ReturnsInHanded {} Try.checked os 10 .any (Rows.fnExactReplySameSpec.pre6 enc Try.prog Try.f10 Rows.fnExactReplySameRow.domain false) (Rows.fnExactReplySameSpec.post enc Try.prog Try.f10 false true false false) := by
  refine returnsInHanded_of_change (C := Try.checked) Try.ownC started (by kernel_rfl) Try.func10
    (ChangeSpec.witness6 (enc := enc) (C := Try.checked) false ⟨#[], #[.agg #[.int .i64 0, .int .i64 0, .int .i64 0, .slice none 0 0, .slice none 0 0, .slice none 0 0], .agg #[.int .i64 0, .int .i64 0, .int .i64 0, .slice none 0 0, .slice none 0 0, .slice none 0 0]], []⟩ 8 (by kernel_rfl) (by kernel_rfl) (by kernel_rfl) (by kernel_rfl)) ?_
  intro W base args ds gs before hval0 hW hcnd _
  have hW' := hW
  obtain ⟨p, q, hA0, hV, rfl, hfz, hnd⟩ := hW
  have hA : DataW.TrodAll enc Try.prog W 0 (fun _ => true) true Try.f10.params.toList args.toList ds p := hA0
  rw [Try.params10] at hA
  obtain ⟨v0, v1, d0, d1, p0, p1, rfl, rfl, rfl, h0, h1⟩ := trodAll_two hA
  obtain ⟨a0, cs0, rfl, g0, ok0⟩ := arg_struct fo84 opn_t84 (hval0 0 84 v0 rfl rfl) h0
  obtain ⟨a1, cs1, rfl, g1, ok1⟩ := arg_struct fo84 opn_t84 (hval0 1 84 v1 rfl rfl) h1
  refine (laws_FnExactReplySame_ok W (exact_ReplySame ok0 ok1 (fun s0 _ => reply_same s0)) g0 g1).mono fun e W' ⟨he, hg⟩ => ?_
  subst he
  exact ⟨_, rfl, law_post hW' rfl Try.laidC Try.rowedC Try.fullC (by rw [Try.params10]; decide) rfl (by kernel_rfl) rfl hg.below⟩

theorem fnExactReplySame_holds : Rows.FnExactReplySameSaid :=
  OpenClaim.holds_of_wide 10 Try.f10 rfl rfl rfl rfl rfl rfl rfl ⟨rfl, rfl, rfl, rfl, rfl⟩ rfl rfl rfl rfl rfl (by kernel_rfl) Try.func10 (by kernel_rfl)
    (of_decide_eq_true (by kernel_rfl)) (by unfold Func.isWrapper; first | (rw [if_pos (by decide +kernel)]; kernel_rfl) | (rw [if_neg (by decide +kernel)]; exact ⟨rfl, rfl⟩))
    (fun os started H enc _ => fnExactReplySame_lifted os started H enc)
#print axioms fnExactReplySame_holds
end Go.Proofs.Ytejneofoabmojaa
