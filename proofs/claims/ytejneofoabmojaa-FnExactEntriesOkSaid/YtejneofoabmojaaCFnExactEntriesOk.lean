/- FnExactEntriesOk returns true for every input. -/
import Derived.Test.YtejneofoabmojaaWEntriesOkB
import Derived.Test.YtejneofoabmojaaPEn
import Derived.Test.YtejneofoabmojaaVkS
import Derived.Test.YtejneofoabmojaaVkV
import Derived.Carry
import Derived.Test.YtejneofoabmojaaRows
namespace Go.Proofs.Ytejneofoabmojaa
open Go.ChangeShapes Go.WideShapes Go.ChangeAt Go.RowKit Go.Vk

theorem Try.ownC : ownKnob Try.prog.godebug = none := by kernel_rfl
theorem Try.laidC : laidOutB Try.prog = true := by kernel_rfl
theorem Try.rowedC : mapsRowed Try.prog = true := by kernel_rfl
theorem Try.fullC : fullB Try.prog = true := by kernel_rfl
theorem opn_t9 : Opn Try.prog 9 eStr (fun s => s.length ≤ maxLen) := opn_str (isStr_of (by kernel_rfl))
theorem opn_t3 : Opn Try.prog 3 (eVal (Value.int .i64) (fun _ => rfl)) (IntOk .i64) := opn_int (isInt_of (by kernel_rfl))
theorem opn_t22 : Opn Try.prog 22 (eList (eVal (Value.int .i64) (fun _ => rfl)) 3) (fun xs => xs.length ≤ maxLen ∧ ∀ x ∈ xs, (IntOk .i64) x) := opn_list (isSl_of (by kernel_rfl)) opn_t3 (by kernel_rfl)
theorem opn_t23 : Opn Try.prog 23 (eList (eStr) 9) (fun xs => xs.length ≤ maxLen ∧ ∀ x ∈ xs, (fun (s : List UInt8) => s.length ≤ maxLen) x) := opn_list (isSl_of (by kernel_rfl)) opn_t9 (by kernel_rfl)
theorem fo25 : fieldsOf Try.prog 25 = some [(9, 0), (22, 1), (23, 2)] := by kernel_rfl
theorem opn_t25 : Opn Try.prog 25 (eTlaws_Attr) (fun (x : Tlaws_Attr) => (fun (s : List UInt8) => s.length ≤ maxLen) x.Name_ ∧ (fun xs => xs.length ≤ maxLen ∧ ∀ x ∈ xs, (IntOk .i64) x) x.Cuts_ ∧ (fun xs => xs.length ≤ maxLen ∧ ∀ x ∈ xs, (fun (s : List UInt8) => s.length ≤ maxLen) x) x.Values_) := opn_iso (opn_struct fo25 (opnF_cons opn_t9 (by kernel_rfl) (opnF_cons opn_t22 (by kernel_rfl) (opnF_one opn_t23 (by kernel_rfl)) (by decide)) (by decide)) (by kernel_rfl)) (fun a => (⟨a.1, a.2.1, a.2.2⟩ : Tlaws_Attr)) (fun _ => rfl)
theorem opn_t32 : Opn Try.prog 32 (eList (eTlaws_Attr) 25) (fun xs => xs.length ≤ maxLen ∧ ∀ x ∈ xs, (fun (x : Tlaws_Attr) => (fun (s : List UInt8) => s.length ≤ maxLen) x.Name_ ∧ (fun xs => xs.length ≤ maxLen ∧ ∀ x ∈ xs, (IntOk .i64) x) x.Cuts_ ∧ (fun xs => xs.length ≤ maxLen ∧ ∀ x ∈ xs, (fun (s : List UInt8) => s.length ≤ maxLen) x) x.Values_) x) := opn_list (isSl_of (by kernel_rfl)) opn_t25 (by kernel_rfl)
theorem fo34 : fieldsOf Try.prog 34 = some [(32, 0), (23, 1)] := by kernel_rfl
theorem opn_t34 : Opn Try.prog 34 (eTlaws_Schema) (fun (x : Tlaws_Schema) => (fun xs => xs.length ≤ maxLen ∧ ∀ x ∈ xs, (fun (x : Tlaws_Attr) => (fun (s : List UInt8) => s.length ≤ maxLen) x.Name_ ∧ (fun xs => xs.length ≤ maxLen ∧ ∀ x ∈ xs, (IntOk .i64) x) x.Cuts_ ∧ (fun xs => xs.length ≤ maxLen ∧ ∀ x ∈ xs, (fun (s : List UInt8) => s.length ≤ maxLen) x) x.Values_) x) x.Attrs_ ∧ (fun xs => xs.length ≤ maxLen ∧ ∀ x ∈ xs, (fun (s : List UInt8) => s.length ≤ maxLen) x) x.Classes_) := opn_iso (opn_struct fo34 (opnF_cons opn_t32 (by kernel_rfl) (opnF_one opn_t23 (by kernel_rfl)) (by decide)) (by kernel_rfl)) (fun a => (⟨a.1, a.2⟩ : Tlaws_Schema)) (fun _ => rfl)
theorem fo53 : fieldsOf Try.prog 53 = some [(22, 0), (3, 1)] := by kernel_rfl
theorem opn_t53 : Opn Try.prog 53 (eTlaws_Ex) (fun (x : Tlaws_Ex) => (fun xs => xs.length ≤ maxLen ∧ ∀ x ∈ xs, (IntOk .i64) x) x.Bins_ ∧ (IntOk .i64) x.Class_) := opn_iso (opn_struct fo53 (opnF_cons opn_t22 (by kernel_rfl) (opnF_one opn_t3 (by kernel_rfl)) (by decide)) (by kernel_rfl)) (fun a => (⟨a.1, a.2⟩ : Tlaws_Ex)) (fun _ => rfl)
theorem fo109 : fieldsOf Try.prog 109 = some [(53, 0), (3, 2)] := by kernel_rfl
theorem opn_t109 : Opn Try.prog 109 (eTlaws_Entry) (fun (x : Tlaws_Entry) => (fun (x : Tlaws_Ex) => (fun xs => xs.length ≤ maxLen ∧ ∀ x ∈ xs, (IntOk .i64) x) x.Bins_ ∧ (IntOk .i64) x.Class_) x.Ex_ ∧ (IntOk .i64) x.Weight_) := opn_iso (opn_struct fo109 (opnF_cons opn_t53 (by kernel_rfl) (opnF_one opn_t3 (by kernel_rfl)) (by decide)) (by kernel_rfl)) (fun a => (⟨a.1, a.2⟩ : Tlaws_Entry)) (fun _ => rfl)
theorem opn_t60 : Opn Try.prog 60 (eList (eTlaws_Entry) 109) (fun xs => xs.length ≤ maxLen ∧ ∀ x ∈ xs, (fun (x : Tlaws_Entry) => (fun (x : Tlaws_Ex) => (fun xs => xs.length ≤ maxLen ∧ ∀ x ∈ xs, (IntOk .i64) x) x.Bins_ ∧ (IntOk .i64) x.Class_) x.Ex_ ∧ (IntOk .i64) x.Weight_) x) := opn_list (isSl_of (by kernel_rfl)) opn_t109 (by kernel_rfl)
set_option maxRecDepth 100000 in
theorem fnExactEntriesOk_lifted (os : Os) (started : os.Started) (H : Type) (enc : TypeId × Value → H) :
    ReturnsInHanded {} Try.checked os 8 .any (Rows.fnExactEntriesOkSpec.pre6 enc Try.prog Try.f8 Rows.fnExactEntriesOkRow.domain false) (Rows.fnExactEntriesOkSpec.post enc Try.prog Try.f8 false true false false) := by
  refine returnsInHanded_of_change (C := Try.checked) Try.ownC started (by kernel_rfl) Try.func8
    (ChangeSpec.witness6 (enc := enc) (C := Try.checked) false ⟨#[], #[.agg #[.slice none 0 0, .slice none 0 0], .slice none 0 0], []⟩ 8 (by kernel_rfl) (by kernel_rfl) (by kernel_rfl) (by kernel_rfl)) ?_
  intro W base args ds gs before hval0 hW hcnd _
  have hW' := hW
  obtain ⟨p, q, hA0, hV, rfl, hfz, hnd⟩ := hW
  have hA : DataW.TrodAll enc Try.prog W 0 (fun _ => true) true Try.f8.params.toList args.toList ds p := hA0
  rw [Try.params8] at hA
  obtain ⟨v0, v1, d0, d1, p0, p1, rfl, rfl, rfl, h0, h1⟩ := trodAll_two hA
  obtain ⟨a0, cs0, rfl, g0, ok0⟩ := arg_struct fo34 opn_t34 (hval0 0 34 v0 rfl rfl) h0
  obtain ⟨a1, g1, ok1⟩ := arg_sl (et := 109) (isSl_of (by kernel_rfl)) opn_t60 (hval0 1 60 v1 rfl rfl) h1
  obtain ⟨s1, c1, e1⟩ := rd_sl1 g1
  obtain rfl := (List.cons.inj e1).1
  refine (laws_FnExactEntriesOk_ok W (exact_EntriesOk ok0 ok1 (fun s0 s1 => entries_same s0 s1)) g0 g1).mono fun e W' ⟨he, hg⟩ => ?_
  subst he
  exact ⟨_, rfl, law_post hW' rfl Try.laidC Try.rowedC Try.fullC (by rw [Try.params8]; decide) rfl (by kernel_rfl) rfl hg.below⟩

theorem fnExactEntriesOk_holds : Rows.FnExactEntriesOkSaid :=
  OpenClaim.holds_of_wide 8 Try.f8 rfl rfl rfl rfl rfl rfl rfl ⟨rfl, rfl, rfl, rfl, rfl⟩ rfl rfl rfl rfl rfl (by kernel_rfl) Try.func8 (by kernel_rfl)
    (of_decide_eq_true (by kernel_rfl)) (by unfold Func.isWrapper; first | (rw [if_pos (by decide +kernel)]; kernel_rfl) | (rw [if_neg (by decide +kernel)]; exact ⟨rfl, rfl⟩))
    (fun os started H enc _ => fnExactEntriesOk_lifted os started H enc)
#print axioms fnExactEntriesOk_holds
end Go.Proofs.Ytejneofoabmojaa
