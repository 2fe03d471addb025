/- FnExactPutTree returns true for every input. -/
import Derived.Test.YtgpfgjlmjodcaaaRWD
import Derived.Test.YtgpfgjlmjodcaaaPH
import Derived.Test.YtgpfgjlmjodcaaaVkS
import Derived.Carry
import Derived.Test.YtgpfgjlmjodcaaaRows
namespace Go.Proofs.Ytgpfgjlmjodcaaa
open Go.ChangeShapes Go.WideShapes Go.ChangeAt Go.RowKit Go.Vk

theorem Try.ownC : ownKnob Try.prog.godebug = none := by kernel_rfl
theorem Try.laidC : laidOutB Try.prog = true := by kernel_rfl
theorem Try.rowedC : mapsRowed Try.prog = true := by kernel_rfl
theorem Try.fullC : fullB Try.prog = true := by kernel_rfl
theorem opn_t4 : Opn Try.prog 4 eBool (fun _ => True) := opn_bool (show Try.prog.underlying 4 = some .bool by kernel_rfl)
theorem opn_t3 : Opn Try.prog 3 (eVal (Value.int .i64) (fun _ => rfl)) (IntOk .i64) := opn_int (isInt_of (by kernel_rfl))
theorem fo111 : fieldsOf Try.prog 111 = some [(3, 0), (3, 1)] := by kernel_rfl
theorem opn_t111 : Opn Try.prog 111 (eTlaws_Fork) (fun (x : Tlaws_Fork) => (IntOk .i64) x.Attr_ ∧ (IntOk .i64) x.At_) := opn_map (opn_struct (e := (ePair (eVal (Value.int .i64) (fun _ => rfl)) (eVal (Value.int .i64) (fun _ => rfl)))) fo111 (opnF_cons opn_t3 (by kernel_rfl) (opnF_one opn_t3 (by kernel_rfl)) (by decide)) (by kernel_rfl)) (fun a => (⟨a.1, a.2⟩ : Tlaws_Fork)) (fun h => by obtain ⟨_, _, rfl, rfl, rfl⟩ := h; rfl) (fun h => h)
theorem opn_t22 : Opn Try.prog 22 (eList (eVal (Value.int .i64) (fun _ => rfl)) 3) (fun xs => xs.length ≤ maxLen ∧ ∀ x ∈ xs, (IntOk .i64) x) := opn_list (isSl_of (by kernel_rfl)) opn_t3 (by kernel_rfl)
theorem opn_t35 : Opn Try.prog 35 (eList (eList (eVal (Value.int .i64) (fun _ => rfl)) 3) 22) (fun xs => xs.length ≤ maxLen ∧ ∀ x ∈ xs, (fun xs => xs.length ≤ maxLen ∧ ∀ x ∈ xs, (IntOk .i64) x) x) := opn_list (isSl_of (by kernel_rfl)) opn_t22 (by kernel_rfl)
theorem fo112 : fieldsOf Try.prog 112 = some [(22, 0), (35, 1)] := by kernel_rfl
theorem opn_t112 : Opn Try.prog 112 (eTlaws_Stats) (fun (x : Tlaws_Stats) => (fun xs => xs.length ≤ maxLen ∧ ∀ x ∈ xs, (IntOk .i64) x) x.Totals_ ∧ (fun xs => xs.length ≤ maxLen ∧ ∀ x ∈ xs, (fun xs => xs.length ≤ maxLen ∧ ∀ x ∈ xs, (IntOk .i64) x) x) x.Cells_) := opn_iso (opn_struct fo112 (opnF_cons opn_t22 (by kernel_rfl) (opnF_one opn_t35 (by kernel_rfl)) (by decide)) (by kernel_rfl)) (fun a => (⟨a.1, a.2⟩ : Tlaws_Stats)) (fun _ => rfl)
theorem fo114 : fieldsOf Try.prog 114 = some [(4, 0), (111, 1), (22, 3), (3, 4), (112, 5), (3, 7), (22, 8), (3, 9), (3, 10), (3, 11)] := by kernel_rfl
theorem opn_t114 : Opn Try.prog 114 (eTlaws_Node) (fun (x : Tlaws_Node) => (fun _ => True) x.Leaf_ ∧ (fun (x : Tlaws_Fork) => (IntOk .i64) x.Attr_ ∧ (IntOk .i64) x.At_) x.Fork_ ∧ (fun xs => xs.length ≤ maxLen ∧ ∀ x ∈ xs, (IntOk .i64) x) x.Kids_ ∧ (IntOk .i64) x.Miss_ ∧ (fun (x : Tlaws_Stats) => (fun xs => xs.length ≤ maxLen ∧ ∀ x ∈ xs, (IntOk .i64) x) x.Totals_ ∧ (fun xs => xs.length ≤ maxLen ∧ ∀ x ∈ xs, (fun xs => xs.length ≤ maxLen ∧ ∀ x ∈ xs, (IntOk .i64) x) x) x.Cells_) x.Stats_ ∧ (IntOk .i64) x.Since_ ∧ (fun xs => xs.length ≤ maxLen ∧ ∀ x ∈ xs, (IntOk .i64) x) x.Attrs_ ∧ (IntOk .i64) x.Depth_ ∧ (IntOk .i64) x.Up_ ∧ (IntOk .i64) x.Born_) := opn_iso (opn_struct fo114 (opnF_cons opn_t4 (by kernel_rfl) (opnF_cons opn_t111 (by kernel_rfl) (opnF_cons opn_t22 (by kernel_rfl) (opnF_cons opn_t3 (by kernel_rfl) (opnF_cons opn_t112 (by kernel_rfl) (opnF_cons opn_t3 (by kernel_rfl) (opnF_cons opn_t22 (by kernel_rfl) (opnF_cons opn_t3 (by kernel_rfl) (opnF_cons opn_t3 (by kernel_rfl) (opnF_one opn_t3 (by kernel_rfl)) (by decide)) (by decide)) (by decide)) (by decide)) (by decide)) (by decide)) (by decide)) (by decide)) (by decide)) (by kernel_rfl)) (fun a => (⟨a.1, a.2.1, a.2.2.1, a.2.2.2.1, a.2.2.2.2.1, a.2.2.2.2.2.1, a.2.2.2.2.2.2.1, a.2.2.2.2.2.2.2.1, a.2.2.2.2.2.2.2.2.1, a.2.2.2.2.2.2.2.2.2⟩ : Tlaws_Node)) (fun _ => rfl)
theorem opn_t47 : Opn Try.prog 47 (eList (eTlaws_Node) 114) (fun xs => xs.length ≤ maxLen ∧ ∀ x ∈ xs, (fun (x : Tlaws_Node) => (fun _ => True) x.Leaf_ ∧ (fun (x : Tlaws_Fork) => (IntOk .i64) x.Attr_ ∧ (IntOk .i64) x.At_) x.Fork_ ∧ (fun xs => xs.length ≤ maxLen ∧ ∀ x ∈ xs, (IntOk .i64) x) x.Kids_ ∧ (IntOk .i64) x.Miss_ ∧ (fun (x : Tlaws_Stats) => (fun xs => xs.length ≤ maxLen ∧ ∀ x ∈ xs, (IntOk .i64) x) x.Totals_ ∧ (fun xs => xs.length ≤ maxLen ∧ ∀ x ∈ xs, (fun xs => xs.length ≤ maxLen ∧ ∀ x ∈ xs, (IntOk .i64) x) x) x.Cells_) x.Stats_ ∧ (IntOk .i64) x.Since_ ∧ (fun xs => xs.length ≤ maxLen ∧ ∀ x ∈ xs, (IntOk .i64) x) x.Attrs_ ∧ (IntOk .i64) x.Depth_ ∧ (IntOk .i64) x.Up_ ∧ (IntOk .i64) x.Born_) x) := opn_list (isSl_of (by kernel_rfl)) opn_t114 (by kernel_rfl)
theorem fo49 : fieldsOf Try.prog 49 = some [(47, 0), (3, 1)] := by kernel_rfl
theorem opn_t49 : Opn Try.prog 49 (eTlaws_Tree) (fun (x : Tlaws_Tree) => (fun xs => xs.length ≤ maxLen ∧ ∀ x ∈ xs, (fun (x : Tlaws_Node) => (fun _ => True) x.Leaf_ ∧ (fun (x : Tlaws_Fork) => (IntOk .i64) x.Attr_ ∧ (IntOk .i64) x.At_) x.Fork_ ∧ (fun xs => xs.length ≤ maxLen ∧ ∀ x ∈ xs, (IntOk .i64) x) x.Kids_ ∧ (IntOk .i64) x.Miss_ ∧ (fun (x : Tlaws_Stats) => (fun xs => xs.length ≤ maxLen ∧ ∀ x ∈ xs, (IntOk .i64) x) x.Totals_ ∧ (fun xs => xs.length ≤ maxLen ∧ ∀ x ∈ xs, (fun xs => xs.length ≤ maxLen ∧ ∀ x ∈ xs, (IntOk .i64) x) x) x.Cells_) x.Stats_ ∧ (IntOk .i64) x.Since_ ∧ (fun xs => xs.length ≤ maxLen ∧ ∀ x ∈ xs, (IntOk .i64) x) x.Attrs_ ∧ (IntOk .i64) x.Depth_ ∧ (IntOk .i64) x.Up_ ∧ (IntOk .i64) x.Born_) x) x.Nodes_ ∧ (IntOk .i64) x.Seen_) := opn_iso (opn_struct fo49 (opnF_cons opn_t47 (by kernel_rfl) (opnF_one opn_t3 (by kernel_rfl)) (by decide)) (by kernel_rfl)) (fun a => (⟨a.1, a.2⟩ : Tlaws_Tree)) (fun _ => rfl)
set_option maxRecDepth 100000 in
theorem fnExactPutTree_lifted (os : Os) (started : os.Started) (H : Type) (enc : TypeId × Value → H) :
    ReturnsInHanded {} Try.checked os 7 .any (Rows.fnExactPutTreeSpec.pre6 enc Try.prog Try.f7 Rows.fnExactPutTreeRow.domain false) (Rows.fnExactPutTreeSpec.post enc Try.prog Try.f7 false true false false) := by
  refine returnsInHanded_of_change (C := Try.checked) Try.ownC started (by kernel_rfl) Try.func7
    (ChangeSpec.witness6 (enc := enc) (C := Try.checked) false ⟨#[], #[.agg #[.slice none 0 0, .int .i64 0]], []⟩ 8 (by kernel_rfl) (by kernel_rfl) (by kernel_rfl) (by kernel_rfl)) ?_
  intro W base args ds gs before hval0 hW hcnd _
  have hW' := hW
  obtain ⟨p, q, hA0, hV, rfl, hfz, hnd⟩ := hW
  have hA : DataW.TrodAll enc Try.prog W 0 (fun _ => true) true Try.f7.params.toList args.toList ds p := hA0
  rw [Try.params7] at hA
  obtain ⟨v0, d0, rfl, rfl, h0⟩ := trodAll_one hA
  obtain ⟨a0, cs0, rfl, g0, ok0⟩ := arg_struct fo49 opn_t49 (hval0 0 49 v0 rfl rfl) h0
  refine (laws_FnExactPutTree_ok W (exactPutTree (⟨Nat.lt_of_le_of_lt ok0.1.1 (by decide), fun y hy => ⟨Nat.lt_of_le_of_lt (ok0.1.2 y hy).2.2.1.1 (by decide), Nat.lt_of_le_of_lt (ok0.1.2 y hy).2.2.2.2.1.1.1 (by decide), Nat.lt_of_le_of_lt (ok0.1.2 y hy).2.2.2.2.1.2.1 (by decide), fun z hz => Nat.lt_of_le_of_lt ((ok0.1.2 y hy).2.2.2.2.1.2.2 z hz).1 (by decide), Nat.lt_of_le_of_lt (ok0.1.2 y hy).2.2.2.2.2.2.1.1 (by decide)⟩⟩ : OkT a0)) g0).mono fun e W' ⟨he, hg⟩ => ?_
  subst he
  exact ⟨_, rfl, law_post hW' rfl Try.laidC Try.rowedC Try.fullC (by rw [Try.params7]; decide) rfl (by kernel_rfl) rfl hg.below⟩

theorem fnExactPutTree_holds : Rows.FnExactPutTreeSaid :=
  OpenClaim.holds_of_wide 7 Try.f7 rfl rfl rfl rfl rfl rfl rfl ⟨rfl, rfl, rfl, rfl, rfl⟩ rfl rfl rfl rfl rfl (by kernel_rfl) Try.func7 (by kernel_rfl)
    (of_decide_eq_true (by kernel_rfl)) (by unfold Func.isWrapper; first | (rw [if_pos (by decide +kernel)]; kernel_rfl) | (rw [if_neg (by decide +kernel)]; exact ⟨rfl, rfl⟩))
    (fun os started H enc _ => fnExactPutTree_lifted os started H enc)
#print axioms fnExactPutTree_holds
end Go.Proofs.Ytgpfgjlmjodcaaa
