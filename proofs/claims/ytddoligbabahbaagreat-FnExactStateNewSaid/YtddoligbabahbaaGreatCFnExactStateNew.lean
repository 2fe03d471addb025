/- FnExactStateNew returns true for every input. -/
import Derived.Test.YtddoligbabahbaaGreatWStateNewD
import Derived.Test.YtddoligbabahbaaGreatPNw
import Derived.Test.YtddoligbabahbaaGreatVkS
import Derived.Test.YtddoligbabahbaaGreatVkV
import Derived.Carry
import Derived.Test.YtddoligbabahbaaGreatRows
namespace Go.Proofs.YtddoligbabahbaaGreat
open Go.ChangeShapes Go.WideShapes Go.ChangeAt Go.RowKit Go.Vk
theorem Tryz.ownC : ownKnob Tryz.prog.godebug = none := by kernel_rfl
theorem Tryz.laidC : laidOutB Tryz.prog = true := by kernel_rfl
theorem Tryz.rowedC : mapsRowed Tryz.prog = true := by kernel_rfl
theorem Tryz.fullC : fullB Tryz.prog = true := by kernel_rfl
theorem opn_t9 : Opn Tryz.prog 9 eStr (fun s => s.length ≤ maxLen) := opn_str (isStr_of (by kernel_rfl))
theorem opn_t3 : Opn Tryz.prog 3 (eVal (Value.int .i64) (fun _ => rfl)) (IntOk .i64) := opn_int (isInt_of (by kernel_rfl))
theorem opn_t59 : Opn Tryz.prog 59 (eList (eVal (Value.int .i64) (fun _ => rfl)) 3) (fun xs => xs.length ≤ maxLen ∧ ∀ x ∈ xs, (IntOk .i64) x) := opn_list (isSl_of (by kernel_rfl)) opn_t3 (by kernel_rfl)
theorem opn_t23 : Opn Tryz.prog 23 (eList (eStr) 9) (fun xs => xs.length ≤ maxLen ∧ ∀ x ∈ xs, (fun (s : List UInt8) => s.length ≤ maxLen) x) := opn_list (isSl_of (by kernel_rfl)) opn_t9 (by kernel_rfl)
theorem fo177 : fieldsOf Tryz.prog 177 = some [(9, 0), (59, 1), (23, 2)] := by kernel_rfl
theorem opn_t177 : Opn Tryz.prog 177 (eTlaws_Attr) (fun (x : Tlaws_Attr) => (fun (s : List UInt8) => s.length ≤ maxLen) x.Name_ ∧ (fun xs => xs.length ≤ maxLen ∧ ∀ x ∈ xs, (IntOk .i64) x) x.Cuts_ ∧ (fun xs => xs.length ≤ maxLen ∧ ∀ x ∈ xs, (fun (s : List UInt8) => s.length ≤ maxLen) x) x.Values_) := opn_iso (opn_struct fo177 (opnF_cons opn_t9 (by kernel_rfl) (opnF_cons opn_t59 (by kernel_rfl) (opnF_one opn_t23 (by kernel_rfl)) (by decide)) (by decide)) (by kernel_rfl)) (fun a => (⟨a.1, a.2.1, a.2.2⟩ : Tlaws_Attr)) (fun _ => rfl)
theorem opn_t22 : Opn Tryz.prog 22 (eList (eTlaws_Attr) 177) (fun xs => xs.length ≤ maxLen ∧ ∀ x ∈ xs, (fun (x : Tlaws_Attr) => (fun (s : List UInt8) => s.length ≤ maxLen) x.Name_ ∧ (fun xs => xs.length ≤ maxLen ∧ ∀ x ∈ xs, (IntOk .i64) x) x.Cuts_ ∧ (fun xs => xs.length ≤ maxLen ∧ ∀ x ∈ xs, (fun (s : List UInt8) => s.length ≤ maxLen) x) x.Values_) x) := opn_list (isSl_of (by kernel_rfl)) opn_t177 (by kernel_rfl)
theorem fo25 : fieldsOf Tryz.prog 25 = some [(22, 0), (23, 1)] := by kernel_rfl
theorem opn_t25 : Opn Tryz.prog 25 (eTlaws_Schema) (fun (x : Tlaws_Schema) => (fun xs => xs.length ≤ maxLen ∧ ∀ x ∈ xs, (fun (x : Tlaws_Attr) => (fun (s : List UInt8) => s.length ≤ maxLen) x.Name_ ∧ (fun xs => xs.length ≤ maxLen ∧ ∀ x ∈ xs, (IntOk .i64) x) x.Cuts_ ∧ (fun xs => xs.length ≤ maxLen ∧ ∀ x ∈ xs, (fun (s : List UInt8) => s.length ≤ maxLen) x) x.Values_) x) x.Attrs_ ∧ (fun xs => xs.length ≤ maxLen ∧ ∀ x ∈ xs, (fun (s : List UInt8) => s.length ≤ maxLen) x) x.Classes_) := opn_iso (opn_struct fo25 (opnF_cons opn_t22 (by kernel_rfl) (opnF_one opn_t23 (by kernel_rfl)) (by decide)) (by kernel_rfl)) (fun a => (⟨a.1, a.2⟩ : Tlaws_Schema)) (fun _ => rfl)
theorem opn_t4 : Opn Tryz.prog 4 eBool (fun _ => True) := opn_bool (show Tryz.prog.underlying 4 = some .bool by kernel_rfl)
theorem fo49 : fieldsOf Tryz.prog 49 = some [(3, 0), (3, 1), (3, 2), (3, 3), (3, 4), (3, 5), (4, 6)] := by kernel_rfl
theorem opn_t49 : Opn Tryz.prog 49 (eTlaws_Rule) (fun (x : Tlaws_Rule) => (IntOk .i64) x.Sure_ ∧ (IntOk .i64) x.Tie_ ∧ (IntOk .i64) x.Grace_ ∧ (IntOk .i64) x.Depth_ ∧ (IntOk .i64) x.Nodes_ ∧ (IntOk .i64) x.Units_ ∧ (fun _ => True) x.Two_) := opn_map (opn_struct (e := (ePair (eVal (Value.int .i64) (fun _ => rfl)) (ePair (eVal (Value.int .i64) (fun _ => rfl)) (ePair (eVal (Value.int .i64) (fun _ => rfl)) (ePair (eVal (Value.int .i64) (fun _ => rfl)) (ePair (eVal (Value.int .i64) (fun _ => rfl)) (ePair (eVal (Value.int .i64) (fun _ => rfl)) (eBool)))))))) fo49 (opnF_cons opn_t3 (by kernel_rfl) (opnF_cons opn_t3 (by kernel_rfl) (opnF_cons opn_t3 (by kernel_rfl) (opnF_cons opn_t3 (by kernel_rfl) (opnF_cons opn_t3 (by kernel_rfl) (opnF_cons opn_t3 (by kernel_rfl) (opnF_one opn_t4 (by kernel_rfl)) (by decide)) (by decide)) (by decide)) (by decide)) (by decide)) (by decide)) (by kernel_rfl)) (fun a => (⟨a.1, a.2.1, a.2.2.1, a.2.2.2.1, a.2.2.2.2.1, a.2.2.2.2.2.1, a.2.2.2.2.2.2⟩ : Tlaws_Rule)) (fun h => by obtain ⟨_, _, rfl, rfl, ⟨_, _, rfl, rfl, ⟨_, _, rfl, rfl, ⟨_, _, rfl, rfl, ⟨_, _, rfl, rfl, ⟨_, _, rfl, rfl, rfl⟩⟩⟩⟩⟩⟩ := h; rfl) (fun h => h)
theorem fo69 : fieldsOf Tryz.prog 69 = some [(25, 0), (49, 2), (3, 9), (3, 10), (3, 11), (3, 12), (3, 13)] := by kernel_rfl
theorem opn_t69 : Opn Tryz.prog 69 (eTlaws_Conf) (fun (x : Tlaws_Conf) => (fun (x : Tlaws_Schema) => (fun xs => xs.length ≤ maxLen ∧ ∀ x ∈ xs, (fun (x : Tlaws_Attr) => (fun (s : List UInt8) => s.length ≤ maxLen) x.Name_ ∧ (fun xs => xs.length ≤ maxLen ∧ ∀ x ∈ xs, (IntOk .i64) x) x.Cuts_ ∧ (fun xs => xs.length ≤ maxLen ∧ ∀ x ∈ xs, (fun (s : List UInt8) => s.length ≤ maxLen) x) x.Values_) x) x.Attrs_ ∧ (fun xs => xs.length ≤ maxLen ∧ ∀ x ∈ xs, (fun (s : List UInt8) => s.length ≤ maxLen) x) x.Classes_) x.Schema_ ∧ (fun (x : Tlaws_Rule) => (IntOk .i64) x.Sure_ ∧ (IntOk .i64) x.Tie_ ∧ (IntOk .i64) x.Grace_ ∧ (IntOk .i64) x.Depth_ ∧ (IntOk .i64) x.Nodes_ ∧ (IntOk .i64) x.Units_ ∧ (fun _ => True) x.Two_) x.Rule_ ∧ (IntOk .i64) x.Members_ ∧ (IntOk .i64) x.Pick_ ∧ (IntOk .i64) x.Lambda_ ∧ (IntOk .i64) x.Warn_ ∧ (IntOk .i64) x.Drift_) := opn_iso (opn_struct fo69 (opnF_cons opn_t25 (by kernel_rfl) (opnF_cons opn_t49 (by kernel_rfl) (opnF_cons opn_t3 (by kernel_rfl) (opnF_cons opn_t3 (by kernel_rfl) (opnF_cons opn_t3 (by kernel_rfl) (opnF_cons opn_t3 (by kernel_rfl) (opnF_one opn_t3 (by kernel_rfl)) (by decide)) (by decide)) (by decide)) (by decide)) (by decide)) (by decide)) (by kernel_rfl)) (fun a => (⟨a.1, a.2.1, a.2.2.1, a.2.2.2.1, a.2.2.2.2.1, a.2.2.2.2.2.1, a.2.2.2.2.2.2⟩ : Tlaws_Conf)) (fun _ => rfl)
theorem opn_t5 : Opn Tryz.prog 5 (eVal (Value.int .u8) (fun _ => rfl)) (IntOk .u8) := opn_int (isInt_of (by kernel_rfl))
theorem opn_t70 : Opn Tryz.prog 70 (eList (eVal (Value.int .u8) (fun _ => rfl)) 5) (fun xs => xs.length ≤ maxLen ∧ ∀ x ∈ xs, (IntOk .u8) x) := opn_list (isSl_of (by kernel_rfl)) opn_t5 (by kernel_rfl)
set_option maxRecDepth 100000 in
theorem fnExactStateNew_lifted (os : Os) (started : os.Started) (H : Type) (enc : TypeId × Value → H) :
    ReturnsInHanded {} Tryz.checked os 6 .any (Rows.fnExactStateNewSpec.pre6 enc Tryz.prog Tryz.f6 Rows.fnExactStateNewRow.domain false) (Rows.fnExactStateNewSpec.post enc Tryz.prog Tryz.f6 false true false false) := by
  refine returnsInHanded_of_change (C := Tryz.checked) Tryz.ownC started (by kernel_rfl) Tryz.func6
    (ChangeSpec.witness6 (enc := enc) (C := Tryz.checked) false ⟨#[], #[.agg #[.slice none 0 0, .slice none 0 0, .int .i64 0, .int .i64 0, .int .i64 0, .int .i64 0, .int .i64 0, .int .i64 0, .bool false, .int .i64 0, .int .i64 0, .int .i64 0, .int .i64 0, .int .i64 0], .slice none 0 0], []⟩ 8 (by kernel_rfl) (by kernel_rfl) (by kernel_rfl) (by kernel_rfl)) ?_
  intro W base args ds gs before hval0 hW hcnd _
  have hW' := hW
  obtain ⟨p, q, hA0, hV, rfl, hfz, hnd⟩ := hW
  have hA : DataW.TrodAll enc Tryz.prog W 0 (fun _ => true) true Tryz.f6.params.toList args.toList ds p := hA0
  rw [Tryz.params6] at hA
  obtain ⟨v0, v1, d0, d1, p0, p1, rfl, rfl, rfl, h0, h1⟩ := trodAll_two hA
  obtain ⟨a0, cs0, rfl, g0, ok0⟩ := arg_struct fo69 opn_t69 (hval0 0 69 v0 rfl rfl) h0
  obtain ⟨a1, g1, ok1⟩ := arg_sl (et := 5) (isSl_of (by kernel_rfl)) opn_t70 (hval0 1 70 v1 rfl rfl) h1
  obtain ⟨s1, c1, e1⟩ := rd_sl1 g1
  obtain rfl := (List.cons.inj e1).1
  refine (laws_FnExactStateNew_ok W (exact_StateNew ok0 ok1 (fun s0 s1 b0 _ => stateNew_same s0 s1 b0)) g0 g1).mono fun e W' ⟨he, hg⟩ => ?_
  subst he
  exact ⟨_, rfl, law_post hW' rfl Tryz.laidC Tryz.rowedC Tryz.fullC (by rw [Tryz.params6]; decide) rfl (by kernel_rfl) rfl hg.below⟩
theorem fnExactStateNew_holds : Rows.FnExactStateNewSaid :=
  OpenClaim.holds_of_wide 6 Tryz.f6 rfl rfl rfl rfl rfl rfl rfl ⟨rfl, rfl, rfl, rfl, rfl⟩ rfl rfl rfl rfl rfl (by kernel_rfl) Tryz.func6 (by kernel_rfl)
    (of_decide_eq_true (by kernel_rfl)) (by unfold Func.isWrapper; first | (rw [if_pos (by decide +kernel)]; kernel_rfl) | (rw [if_neg (by decide +kernel)]; exact ⟨rfl, rfl⟩))
    (fun os started H enc _ => fnExactStateNew_lifted os started H enc)
#print axioms fnExactStateNew_holds
end Go.Proofs.YtddoligbabahbaaGreat
