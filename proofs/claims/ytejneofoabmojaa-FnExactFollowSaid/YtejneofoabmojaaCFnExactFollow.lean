/- FnExactFollow returns true for every input. -/
import Derived.Test.YtejneofoabmojaaWFollowB
import Derived.Test.YtejneofoabmojaaPFo
import Derived.Test.YtejneofoabmojaaVkS
import Derived.Test.YtejneofoabmojaaVkV
import Derived.Carry
import Derived.Test.YtejneofoabmojaaRows
namespace Go.Proofs.Ytejneofoabmojaa
open Go.ChangeShapes Go.WideShapes Go.ChangeAt Go.RowKit Go.Vk

theorem Try.ownC : ownKnob Try.prog.godebug = none := by kernel_rfl
theorem Try.laidC : laidOutB Try.prog = true := by kernel_rfl
theorem Try.rowedC : mapsRowed Try.prog = true := by kernel_rfl
theorem Try.fullC : fullB Try.prog = true := by kernel_rfl
theorem opn_t3 : Opn Try.prog 3 (eVal (Value.int .i64) (fun _ => rfl)) (IntOk .i64) := opn_int (isInt_of (by kernel_rfl))
theorem opn_t22 : Opn Try.prog 22 (eList (eVal (Value.int .i64) (fun _ => rfl)) 3) (fun xs => xs.length ≤ maxLen ∧ ∀ x ∈ xs, (IntOk .i64) x) := opn_list (isSl_of (by kernel_rfl)) opn_t3 (by kernel_rfl)
theorem fo53 : fieldsOf Try.prog 53 = some [(22, 0), (3, 1)] := by kernel_rfl
theorem opn_t53 : Opn Try.prog 53 (eTlaws_Ex) (fun (x : Tlaws_Ex) => (fun xs => xs.length ≤ maxLen ∧ ∀ x ∈ xs, (IntOk .i64) x) x.Bins_ ∧ (IntOk .i64) x.Class_) := opn_iso (opn_struct fo53 (opnF_cons opn_t22 (by kernel_rfl) (opnF_one opn_t3 (by kernel_rfl)) (by decide)) (by kernel_rfl)) (fun a => (⟨a.1, a.2⟩ : Tlaws_Ex)) (fun _ => rfl)
theorem fo109 : fieldsOf Try.prog 109 = some [(53, 0), (3, 2)] := by kernel_rfl
theorem opn_t109 : Opn Try.prog 109 (eTlaws_Entry) (fun (x : Tlaws_Entry) => (fun (x : Tlaws_Ex) => (fun xs => xs.length ≤ maxLen ∧ ∀ x ∈ xs, (IntOk .i64) x) x.Bins_ ∧ (IntOk .i64) x.Class_) x.Ex_ ∧ (IntOk .i64) x.Weight_) := opn_iso (opn_struct fo109 (opnF_cons opn_t53 (by kernel_rfl) (opnF_one opn_t3 (by kernel_rfl)) (by decide)) (by kernel_rfl)) (fun a => (⟨a.1, a.2⟩ : Tlaws_Entry)) (fun _ => rfl)
theorem opn_t60 : Opn Try.prog 60 (eList (eTlaws_Entry) 109) (fun xs => xs.length ≤ maxLen ∧ ∀ x ∈ xs, (fun (x : Tlaws_Entry) => (fun (x : Tlaws_Ex) => (fun xs => xs.length ≤ maxLen ∧ ∀ x ∈ xs, (IntOk .i64) x) x.Bins_ ∧ (IntOk .i64) x.Class_) x.Ex_ ∧ (IntOk .i64) x.Weight_) x) := opn_list (isSl_of (by kernel_rfl)) opn_t109 (by kernel_rfl)
theorem fo118 : fieldsOf Try.prog 118 = some [(60, 0), (60, 1), (22, 2)] := by kernel_rfl
theorem opn_t118 : Opn Try.prog 118 (eTlaws_Past) (fun (x : Tlaws_Past) => (fun xs => xs.length ≤ maxLen ∧ ∀ x ∈ xs, (fun (x : Tlaws_Entry) => (fun (x : Tlaws_Ex) => (fun xs => xs.length ≤ maxLen ∧ ∀ x ∈ xs, (IntOk .i64) x) x.Bins_ ∧ (IntOk .i64) x.Class_) x.Ex_ ∧ (IntOk .i64) x.Weight_) x) x.Tree_ ∧ (fun xs => xs.length ≤ maxLen ∧ ∀ x ∈ xs, (fun (x : Tlaws_Entry) => (fun (x : Tlaws_Ex) => (fun xs => xs.length ≤ maxLen ∧ ∀ x ∈ xs, (IntOk .i64) x) x.Bins_ ∧ (IntOk .i64) x.Class_) x.Ex_ ∧ (IntOk .i64) x.Weight_) x) x.Young_ ∧ (fun xs => xs.length ≤ maxLen ∧ ∀ x ∈ xs, (IntOk .i64) x) x.Bits_) := opn_iso (opn_struct fo118 (opnF_cons opn_t60 (by kernel_rfl) (opnF_cons opn_t60 (by kernel_rfl) (opnF_one opn_t22 (by kernel_rfl)) (by decide)) (by decide)) (by kernel_rfl)) (fun a => (⟨a.1, a.2.1, a.2.2⟩ : Tlaws_Past)) (fun _ => rfl)
theorem opn_t67 : Opn Try.prog 67 (eList (eTlaws_Past) 118) (fun xs => xs.length ≤ maxLen ∧ ∀ x ∈ xs, (fun (x : Tlaws_Past) => (fun xs => xs.length ≤ maxLen ∧ ∀ x ∈ xs, (fun (x : Tlaws_Entry) => (fun (x : Tlaws_Ex) => (fun xs => xs.length ≤ maxLen ∧ ∀ x ∈ xs, (IntOk .i64) x) x.Bins_ ∧ (IntOk .i64) x.Class_) x.Ex_ ∧ (IntOk .i64) x.Weight_) x) x.Tree_ ∧ (fun xs => xs.length ≤ maxLen ∧ ∀ x ∈ xs, (fun (x : Tlaws_Entry) => (fun (x : Tlaws_Ex) => (fun xs => xs.length ≤ maxLen ∧ ∀ x ∈ xs, (IntOk .i64) x) x.Bins_ ∧ (IntOk .i64) x.Class_) x.Ex_ ∧ (IntOk .i64) x.Weight_) x) x.Young_ ∧ (fun xs => xs.length ≤ maxLen ∧ ∀ x ∈ xs, (IntOk .i64) x) x.Bits_) x) := opn_list (isSl_of (by kernel_rfl)) opn_t118 (by kernel_rfl)
theorem opn_t4 : Opn Try.prog 4 eBool (fun _ => True) := opn_bool (show Try.prog.underlying 4 = some .bool by kernel_rfl)
theorem fo128 : fieldsOf Try.prog 128 = some [(3, 0), (3, 1), (3, 2), (3, 3), (3, 4), (3, 5), (4, 6), (4, 7)] := by kernel_rfl
theorem opn_t128 : Opn Try.prog 128 (eTlaws_Step) (fun (x : Tlaws_Step) => (IntOk .i64) x.Said_ ∧ (IntOk .i64) x.Bit_ ∧ (IntOk .i64) x.Weight_ ∧ (IntOk .i64) x.Grow_ ∧ (IntOk .i64) x.Young_ ∧ (IntOk .i64) x.Det_ ∧ (fun _ => True) x.Began_ ∧ (fun _ => True) x.Swapped_) := opn_map (opn_struct (e := (ePair (eVal (Value.int .i64) (fun _ => rfl)) (ePair (eVal (Value.int .i64) (fun _ => rfl)) (ePair (eVal (Value.int .i64) (fun _ => rfl)) (ePair (eVal (Value.int .i64) (fun _ => rfl)) (ePair (eVal (Value.int .i64) (fun _ => rfl)) (ePair (eVal (Value.int .i64) (fun _ => rfl)) (ePair (eBool) (eBool))))))))) fo128 (opnF_cons opn_t3 (by kernel_rfl) (opnF_cons opn_t3 (by kernel_rfl) (opnF_cons opn_t3 (by kernel_rfl) (opnF_cons opn_t3 (by kernel_rfl) (opnF_cons opn_t3 (by kernel_rfl) (opnF_cons opn_t3 (by kernel_rfl) (opnF_cons opn_t4 (by kernel_rfl) (opnF_one opn_t4 (by kernel_rfl)) (by decide)) (by decide)) (by decide)) (by decide)) (by decide)) (by decide)) (by decide)) (by kernel_rfl)) (fun a => (⟨a.1, a.2.1, a.2.2.1, a.2.2.2.1, a.2.2.2.2.1, a.2.2.2.2.2.1, a.2.2.2.2.2.2.1, a.2.2.2.2.2.2.2⟩ : Tlaws_Step)) (fun h => by obtain ⟨_, _, rfl, rfl, ⟨_, _, rfl, rfl, ⟨_, _, rfl, rfl, ⟨_, _, rfl, rfl, ⟨_, _, rfl, rfl, ⟨_, _, rfl, rfl, ⟨_, _, rfl, rfl, rfl⟩⟩⟩⟩⟩⟩⟩ := h; rfl) (fun h => h)
theorem opn_t68 : Opn Try.prog 68 (eList (eTlaws_Step) 128) (fun xs => xs.length ≤ maxLen ∧ ∀ x ∈ xs, (fun (x : Tlaws_Step) => (IntOk .i64) x.Said_ ∧ (IntOk .i64) x.Bit_ ∧ (IntOk .i64) x.Weight_ ∧ (IntOk .i64) x.Grow_ ∧ (IntOk .i64) x.Young_ ∧ (IntOk .i64) x.Det_ ∧ (fun _ => True) x.Began_ ∧ (fun _ => True) x.Swapped_) x) := opn_list (isSl_of (by kernel_rfl)) opn_t128 (by kernel_rfl)
set_option maxRecDepth 100000 in
theorem fnExactFollow_lifted (os : Os) (started : os.Started) (H : Type) (enc : TypeId × Value → H) :
    ReturnsInHanded {} Try.checked os 9 .any (Rows.fnExactFollowSpec.pre6 enc Try.prog Try.f9 Rows.fnExactFollowRow.domain false) (Rows.fnExactFollowSpec.post enc Try.prog Try.f9 false true false false) := by
  refine returnsInHanded_of_change (C := Try.checked) Try.ownC started (by kernel_rfl) Try.func9
    (ChangeSpec.witness6 (enc := enc) (C := Try.checked) false ⟨#[], #[.slice none 0 0, .agg #[.slice none 0 0, .int .i64 0], .slice none 0 0], []⟩ 8 (by kernel_rfl) (by kernel_rfl) (by kernel_rfl) (by kernel_rfl)) ?_
  intro W base args ds gs before hval0 hW hcnd _
  have hW' := hW
  obtain ⟨p, q, hA0, hV, rfl, hfz, hnd⟩ := hW
  have hA : DataW.TrodAll enc Try.prog W 0 (fun _ => true) true Try.f9.params.toList args.toList ds p := hA0
  rw [Try.params9] at hA
  obtain ⟨v0, v1, v2, d0, d1, d2, p0, p1, p2, rfl, rfl, rfl, h0, h1, h2⟩ := trodAll_three hA
  obtain ⟨a0, g0, ok0⟩ := arg_sl (et := 118) (isSl_of (by kernel_rfl)) opn_t67 (hval0 0 67 v0 rfl rfl) h0
  obtain ⟨s0, c0, e0⟩ := rd_sl1 g0
  obtain rfl := (List.cons.inj e0).1
  obtain ⟨a1, cs1, rfl, g1, ok1⟩ := arg_struct fo53 opn_t53 (hval0 1 53 v1 rfl rfl) h1
  obtain ⟨a2, g2, ok2⟩ := arg_sl (et := 128) (isSl_of (by kernel_rfl)) opn_t68 (hval0 2 68 v2 rfl rfl) h2
  obtain ⟨s2, c2, e2⟩ := rd_sl1 g2
  obtain rfl := (List.cons.inj e2).1
  refine (laws_FnExactFollow_ok W (exact_Follow ok0 ok1 ok2 (fun s0 s1 s2 b0 b1 _ => follow_same s0 s1 s2 b0 b1)) g0 g1 g2).mono fun e W' ⟨he, hg⟩ => ?_
  subst he
  exact ⟨_, rfl, law_post hW' rfl Try.laidC Try.rowedC Try.fullC (by rw [Try.params9]; decide) rfl (by kernel_rfl) rfl hg.below⟩

theorem fnExactFollow_holds : Rows.FnExactFollowSaid :=
  OpenClaim.holds_of_wide 9 Try.f9 rfl rfl rfl rfl rfl rfl rfl ⟨rfl, rfl, rfl, rfl, rfl⟩ rfl rfl rfl rfl rfl (by kernel_rfl) Try.func9 (by kernel_rfl)
    (of_decide_eq_true (by kernel_rfl)) (by unfold Func.isWrapper; first | (rw [if_pos (by decide +kernel)]; kernel_rfl) | (rw [if_neg (by decide +kernel)]; exact ⟨rfl, rfl⟩))
    (fun os started H enc _ => fnExactFollow_lifted os started H enc)
#print axioms fnExactFollow_holds
end Go.Proofs.Ytejneofoabmojaa
