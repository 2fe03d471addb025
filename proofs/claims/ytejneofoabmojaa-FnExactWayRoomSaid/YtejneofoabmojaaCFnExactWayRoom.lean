/- FnExactWayRoom returns true for every input. -/
import Derived.Test.YtejneofoabmojaaWWayRoomB
import Derived.Test.YtejneofoabmojaaPZ
import Derived.Test.YtejneofoabmojaaVkS
import Derived.Test.YtejneofoabmojaaVkV
import Derived.Carry
import Derived.Test.YtejneofoabmojaaRows
namespace Go.Proofs.Ytejneofoabmojaa
open Go.ChangeShapes Go.WideShapes Go.ChangeAt Go.RowKit Go.Vk

theorem Try.ownC : ownKnob Try.prog.godebug = none := by kernel_rfl
theorem Try.laidC : laidOutB Try.prog = true := by kernel_rfl
theorem Try.rowedC : mapsRowed Try.prog = true := by kernel_rfl
theorem Try.fullC : fullB Try.prog = true := by kernel_rfl
theorem opn_t9 : Opn Try.prog 9 eStr (fun s => s.length ≤ maxLen) := opn_str (isStr_of (by kernel_rfl))
theorem opn_t3 : Opn Try.prog 3 (eVal (Value.int .i64) (fun _ => rfl)) (IntOk .i64) := opn_int (isInt_of (by kernel_rfl))
theorem opn_t22 : Opn Try.prog 22 (eList (eVal (Value.int .i64) (fun _ => rfl)) 3) (fun xs => xs.length ≤ maxLen ∧ ∀ x ∈ xs, (IntOk .i64) x) := opn_list (isSl_of (by kernel_rfl)) opn_t3 (by kernel_rfl)
theorem opn_t23 : Opn Try.prog 23 (eList (eStr) 9) (fun xs => xs.length ≤ maxLen ∧ ∀ x ∈ xs, (fun (s : List UInt8) => s.length ≤ maxLen) x) := opn_list (isSl_of (by kernel_rfl)) opn_t9 (by kernel_rfl)
theorem fo25 : fieldsOf Try.prog 25 = some [(9, 0), (22, 1), (23, 2)] := by kernel_rfl
theorem opn_t25 : Opn Try.prog 25 (eTlaws_Attr) (fun (x : Tlaws_Attr) => (fun (s : List UInt8) => s.length ≤ maxLen) x.Name_ ∧ (fun xs => xs.length ≤ maxLen ∧ ∀ x ∈ xs, (IntOk .i64) x) x.Cuts_ ∧ (fun xs => xs.length ≤ maxLen ∧ ∀ x ∈ xs, (fun (s : List UInt8) => s.length ≤ maxLen) x) x.Values_) := opn_iso (opn_struct fo25 (opnF_cons opn_t9 (by kernel_rfl) (opnF_cons opn_t22 (by kernel_rfl) (opnF_one opn_t23 (by kernel_rfl)) (by decide)) (by decide)) (by kernel_rfl)) (fun a => (⟨a.1, a.2.1, a.2.2⟩ : Tlaws_Attr)) (fun _ => rfl)
theorem opn_t32 : Opn Try.prog 32 (eList (eTlaws_Attr) 25) (fun xs => xs.length ≤ maxLen ∧ ∀ x ∈ xs, (fun (x : Tlaws_Attr) => (fun (s : List UInt8) => s.length ≤ maxLen) x.Name_ ∧ (fun xs => xs.length ≤ maxLen ∧ ∀ x ∈ xs, (IntOk .i64) x) x.Cuts_ ∧ (fun xs => xs.length ≤ maxLen ∧ ∀ x ∈ xs, (fun (s : List UInt8) => s.length ≤ maxLen) x) x.Values_) x) := opn_list (isSl_of (by kernel_rfl)) opn_t25 (by kernel_rfl)
theorem fo34 : fieldsOf Try.prog 34 = some [(32, 0), (23, 1)] := by kernel_rfl
theorem opn_t34 : Opn Try.prog 34 (eTlaws_Schema) (fun (x : Tlaws_Schema) => (fun xs => xs.length ≤ maxLen ∧ ∀ x ∈ xs, (fun (x : Tlaws_Attr) => (fun (s : List UInt8) => s.length ≤ maxLen) x.Name_ ∧ (fun xs => xs.length ≤ maxLen ∧ ∀ x ∈ xs, (IntOk .i64) x) x.Cuts_ ∧ (fun xs => xs.length ≤ maxLen ∧ ∀ x ∈ xs, (fun (s : List UInt8) => s.length ≤ maxLen) x) x.Values_) x) x.Attrs_ ∧ (fun xs => xs.length ≤ maxLen ∧ ∀ x ∈ xs, (fun (s : List UInt8) => s.length ≤ maxLen) x) x.Classes_) := opn_iso (opn_struct fo34 (opnF_cons opn_t32 (by kernel_rfl) (opnF_one opn_t23 (by kernel_rfl)) (by decide)) (by kernel_rfl)) (fun a => (⟨a.1, a.2⟩ : Tlaws_Schema)) (fun _ => rfl)
theorem fo44 : fieldsOf Try.prog 44 = some [(3, 0), (22, 1)] := by kernel_rfl
theorem opn_t44 : Opn Try.prog 44 (eTlaws_Way) (fun (x : Tlaws_Way) => (IntOk .i64) x.Leaf_ ∧ (fun xs => xs.length ≤ maxLen ∧ ∀ x ∈ xs, (IntOk .i64) x) x.Masks_) := opn_iso (opn_struct fo44 (opnF_cons opn_t3 (by kernel_rfl) (opnF_one opn_t22 (by kernel_rfl)) (by decide)) (by kernel_rfl)) (fun a => (⟨a.1, a.2⟩ : Tlaws_Way)) (fun _ => rfl)
set_option maxRecDepth 100000 in
theorem fnExactWayRoom_lifted (os : Os) (started : os.Started) (H : Type) (enc : TypeId × Value → H) :
    ReturnsInHanded {} Try.checked os 6 .any (Rows.fnExactWayRoomSpec.pre6 enc Try.prog Try.f6 Rows.fnExactWayRoomRow.domain false) (Rows.fnExactWayRoomSpec.post enc Try.prog Try.f6 false true false false) := by
  refine returnsInHanded_of_change (C := Try.checked) Try.ownC started (by kernel_rfl) Try.func6
    (ChangeSpec.witness6 (enc := enc) (C := Try.checked) false ⟨#[], #[.agg #[.slice none 0 0, .slice none 0 0], .agg #[.int .i64 0, .slice none 0 0]], []⟩ 8 (by kernel_rfl) (by kernel_rfl) (by kernel_rfl) (by kernel_rfl)) ?_
  intro W base args ds gs before hval0 hW hcnd _
  have hW' := hW
  obtain ⟨p, q, hA0, hV, rfl, hfz, hnd⟩ := hW
  have hA : DataW.TrodAll enc Try.prog W 0 (fun _ => true) true Try.f6.params.toList args.toList ds p := hA0
  rw [Try.params6] at hA
  obtain ⟨v0, v1, d0, d1, p0, p1, rfl, rfl, rfl, h0, h1⟩ := trodAll_two hA
  obtain ⟨a0, cs0, rfl, g0, ok0⟩ := arg_struct fo34 opn_t34 (hval0 0 34 v0 rfl rfl) h0
  obtain ⟨a1, cs1, rfl, g1, ok1⟩ := arg_struct fo44 opn_t44 (hval0 1 44 v1 rfl rfl) h1
  refine (laws_FnExactWayRoom_ok W (exactWayRoom (⟨Nat.lt_of_le_of_lt ok0.1.1 (by decide), fun y hy => ⟨Nat.lt_of_le_of_lt (ok0.1.2 y hy).1 (by decide), Nat.lt_of_le_of_lt (ok0.1.2 y hy).2.1.1 (by decide), Nat.lt_of_le_of_lt (ok0.1.2 y hy).2.2.1 (by decide), fun z hz => Nat.lt_of_le_of_lt ((ok0.1.2 y hy).2.2.2 z hz) (by decide)⟩, Nat.lt_of_le_of_lt ok0.2.1 (by decide), fun y hy => Nat.lt_of_le_of_lt (ok0.2.2 y hy) (by decide)⟩ : OkSc a0) (lt63 ok1.2.1) (fun e he => i64_of (ok1.2.2 e he))) g0 g1).mono fun e W' ⟨he, hg⟩ => ?_
  subst he
  exact ⟨_, rfl, law_post hW' rfl Try.laidC Try.rowedC Try.fullC (by rw [Try.params6]; decide) rfl (by kernel_rfl) rfl hg.below⟩

theorem fnExactWayRoom_holds : Rows.FnExactWayRoomSaid :=
  OpenClaim.holds_of_wide 6 Try.f6 rfl rfl rfl rfl rfl rfl rfl ⟨rfl, rfl, rfl, rfl, rfl⟩ rfl rfl rfl rfl rfl (by kernel_rfl) Try.func6 (by kernel_rfl)
    (of_decide_eq_true (by kernel_rfl)) (by unfold Func.isWrapper; first | (rw [if_pos (by decide +kernel)]; kernel_rfl) | (rw [if_neg (by decide +kernel)]; exact ⟨rfl, rfl⟩))
    (fun os started H enc _ => fnExactWayRoom_lifted os started H enc)
#print axioms fnExactWayRoom_holds
end Go.Proofs.Ytejneofoabmojaa
