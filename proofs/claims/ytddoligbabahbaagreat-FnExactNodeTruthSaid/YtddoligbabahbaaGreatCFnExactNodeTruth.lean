/- FnExactNodeTruth returns true for every input. -/
import Derived.Test.YtddoligbabahbaaGreatWNodeTruthD
import Derived.Test.YtddoligbabahbaaGreatPPa
import Derived.Test.YtddoligbabahbaaGreatVkU
import Derived.Carry
import Derived.Test.YtddoligbabahbaaGreatRows
namespace Go.Proofs.YtddoligbabahbaaGreat
open Go.ChangeShapes Go.WideShapes Go.ChangeAt Go.RowKit Go.Vk
theorem Tryz.ownC : ownKnob Tryz.prog.godebug = none := by kernel_rfl
theorem Tryz.laidC : laidOutB Tryz.prog = true := by kernel_rfl
theorem Tryz.rowedC : mapsRowed Tryz.prog = true := by kernel_rfl
theorem Tryz.fullC : fullB Tryz.prog = true := by kernel_rfl
theorem opn_t9 : Opn Tryz.prog 9 eStr (fun s => s.length ≤ maxLen) := opn_str (isStr_of (by kernel_rfl))
theorem opn_t3 : Opn Tryz.prog 3 (eVal (Value.int .i64) (fun _ => rfl)) (IntOk .i64) := opn_int (isInt_of (by kernel_rfl))
theorem opn_t59 : Opn Tryz.prog 59 (eList (eVal (Value.int .i64) (fun _ => rfl)) 3) (fun xs => xs.length ≤ maxLen ∧ ∀ x ∈ xs, (IntOk .i64) x) := opn_list (isSl_of (by kernel_rfl)) opn_t3 (by kernel_rfl)
theorem opn_t23 : Opn Tryz.prog 23 (eList (eStr) 9) (fun xs => xs.length ≤ maxLen ∧ ∀ x ∈ xs, (fun (s : List UInt8) => s.length ≤ maxLen) x) := opn_list (isSl_of (by kernel_rfl)) opn_t9 (by kernel_rfl)
theorem fo177 : fieldsOf Tryz.prog 177 = some [(9, 0), (59, 1), (23, 2)] := by kernel_rfl
theorem opn_t177 : Opn Tryz.prog 177 (eTlaws_Attr) (fun (x : Tlaws_Attr) => (fun (s : List UInt8) => s.length ≤ maxLen) x.Name_ ∧ (fun xs => xs.length ≤ maxLen ∧ ∀ x ∈ xs, (IntOk .i64) x) x.Cuts_ ∧ (fun xs => xs.length ≤ maxLen ∧ ∀ x ∈ xs, (fun (s : List UInt8) => s.length ≤ maxLen) x) x.Values_) := opn_iso (opn_struct fo177 (opnF_cons opn_t9 (by kernel_rfl) (opnF_cons opn_t59 (by kernel_rfl) (opnF_one opn_t23 (by kernel_rfl)) (by decide)) (by decide)) (by kernel_rfl)) (fun a => (⟨a.1, a.2.1, a.2.2⟩ : Tlaws_Attr)) (fun _ => rfl)
theorem opn_t22 : Opn Tryz.prog 22 (eList (eTlaws_Attr) 177) (fun xs => xs.length ≤ maxLen ∧ ∀ x ∈ xs, (fun (x : Tlaws_Attr) => (fun (s : List UInt8) => s.length ≤ maxLen) x.Name_ ∧ (fun xs => xs.length ≤ maxLen ∧ ∀ x ∈ xs, (IntOk .i64) x) x.Cuts_ ∧ (fun xs => xs.length ≤ maxLen ∧ ∀ x ∈ xs, (fun (s : List UInt8) => s.length ≤ maxLen) x) x.Values_) x) := opn_list (isSl_of (by kernel_rfl)) opn_t177 (by kernel_rfl)
theorem fo25 : fieldsOf Tryz.prog 25 = some [(22, 0), (23, 1)] := by kernel_rfl
theorem opn_t25 : Opn Tryz.prog 25 (eTlaws_Schema) (fun (x : Tlaws_Schema) => (fun xs => xs.length ≤ maxLen ∧ ∀ x ∈ xs, (fun (x : Tlaws_Attr) => (fun (s : List UInt8) => s.length ≤ maxLen) x.Name_ ∧ (fun xs => xs.length ≤ maxLen ∧ ∀ x ∈ xs, (IntOk .i64) x) x.Cuts_ ∧ (fun xs => xs.length ≤ maxLen ∧ ∀ x ∈ xs, (fun (s : List UInt8) => s.length ≤ maxLen) x) x.Values_) x) x.Attrs_ ∧ (fun xs => xs.length ≤ maxLen ∧ ∀ x ∈ xs, (fun (s : List UInt8) => s.length ≤ maxLen) x) x.Classes_) := opn_iso (opn_struct fo25 (opnF_cons opn_t22 (by kernel_rfl) (opnF_one opn_t23 (by kernel_rfl)) (by decide)) (by kernel_rfl)) (fun a => (⟨a.1, a.2⟩ : Tlaws_Schema)) (fun _ => rfl)
theorem opn_t4 : Opn Tryz.prog 4 eBool (fun _ => True) := opn_bool (show Tryz.prog.underlying 4 = some .bool by kernel_rfl)
theorem fo179 : fieldsOf Tryz.prog 179 = some [(3, 0), (3, 1)] := by kernel_rfl
theorem opn_t179 : Opn Tryz.prog 179 (eTlaws_Fork) (fun (x : Tlaws_Fork) => (IntOk .i64) x.Attr_ ∧ (IntOk .i64) x.At_) := opn_map (opn_struct (e := (ePair (eVal (Value.int .i64) (fun _ => rfl)) (eVal (Value.int .i64) (fun _ => rfl)))) fo179 (opnF_cons opn_t3 (by kernel_rfl) (opnF_one opn_t3 (by kernel_rfl)) (by decide)) (by kernel_rfl)) (fun a => (⟨a.1, a.2⟩ : Tlaws_Fork)) (fun h => by obtain ⟨_, _, rfl, rfl, rfl⟩ := h; rfl) (fun h => h)
theorem opn_t60 : Opn Tryz.prog 60 (eList (eList (eVal (Value.int .i64) (fun _ => rfl)) 3) 59) (fun xs => xs.length ≤ maxLen ∧ ∀ x ∈ xs, (fun xs => xs.length ≤ maxLen ∧ ∀ x ∈ xs, (IntOk .i64) x) x) := opn_list (isSl_of (by kernel_rfl)) opn_t59 (by kernel_rfl)
theorem fo180 : fieldsOf Tryz.prog 180 = some [(59, 0), (60, 1)] := by kernel_rfl
theorem opn_t180 : Opn Tryz.prog 180 (eTlaws_Stats) (fun (x : Tlaws_Stats) => (fun xs => xs.length ≤ maxLen ∧ ∀ x ∈ xs, (IntOk .i64) x) x.Totals_ ∧ (fun xs => xs.length ≤ maxLen ∧ ∀ x ∈ xs, (fun xs => xs.length ≤ maxLen ∧ ∀ x ∈ xs, (IntOk .i64) x) x) x.Cells_) := opn_iso (opn_struct fo180 (opnF_cons opn_t59 (by kernel_rfl) (opnF_one opn_t60 (by kernel_rfl)) (by decide)) (by kernel_rfl)) (fun a => (⟨a.1, a.2⟩ : Tlaws_Stats)) (fun _ => rfl)
theorem fo182 : fieldsOf Tryz.prog 182 = some [(4, 0), (179, 1), (59, 3), (3, 4), (180, 5), (3, 7), (59, 8), (3, 9), (3, 10), (3, 11)] := by kernel_rfl
theorem opn_t182 : Opn Tryz.prog 182 (eTlaws_Node) (fun (x : Tlaws_Node) => (fun _ => True) x.Leaf_ ∧ (fun (x : Tlaws_Fork) => (IntOk .i64) x.Attr_ ∧ (IntOk .i64) x.At_) x.Fork_ ∧ (fun xs => xs.length ≤ maxLen ∧ ∀ x ∈ xs, (IntOk .i64) x) x.Kids_ ∧ (IntOk .i64) x.Miss_ ∧ (fun (x : Tlaws_Stats) => (fun xs => xs.length ≤ maxLen ∧ ∀ x ∈ xs, (IntOk .i64) x) x.Totals_ ∧ (fun xs => xs.length ≤ maxLen ∧ ∀ x ∈ xs, (fun xs => xs.length ≤ maxLen ∧ ∀ x ∈ xs, (IntOk .i64) x) x) x.Cells_) x.Stats_ ∧ (IntOk .i64) x.Since_ ∧ (fun xs => xs.length ≤ maxLen ∧ ∀ x ∈ xs, (IntOk .i64) x) x.Attrs_ ∧ (IntOk .i64) x.Depth_ ∧ (IntOk .i64) x.Up_ ∧ (IntOk .i64) x.Born_) := opn_iso (opn_struct fo182 (opnF_cons opn_t4 (by kernel_rfl) (opnF_cons opn_t179 (by kernel_rfl) (opnF_cons opn_t59 (by kernel_rfl) (opnF_cons opn_t3 (by kernel_rfl) (opnF_cons opn_t180 (by kernel_rfl) (opnF_cons opn_t3 (by kernel_rfl) (opnF_cons opn_t59 (by kernel_rfl) (opnF_cons opn_t3 (by kernel_rfl) (opnF_cons opn_t3 (by kernel_rfl) (opnF_one opn_t3 (by kernel_rfl)) (by decide)) (by decide)) (by decide)) (by decide)) (by decide)) (by decide)) (by decide)) (by decide)) (by decide)) (by kernel_rfl)) (fun a => (⟨a.1, a.2.1, a.2.2.1, a.2.2.2.1, a.2.2.2.2.1, a.2.2.2.2.2.1, a.2.2.2.2.2.2.1, a.2.2.2.2.2.2.2.1, a.2.2.2.2.2.2.2.2.1, a.2.2.2.2.2.2.2.2.2⟩ : Tlaws_Node)) (fun _ => rfl)
theorem opn_t26 : Opn Tryz.prog 26 (eList (eTlaws_Node) 182) (fun xs => xs.length ≤ maxLen ∧ ∀ x ∈ xs, (fun (x : Tlaws_Node) => (fun _ => True) x.Leaf_ ∧ (fun (x : Tlaws_Fork) => (IntOk .i64) x.Attr_ ∧ (IntOk .i64) x.At_) x.Fork_ ∧ (fun xs => xs.length ≤ maxLen ∧ ∀ x ∈ xs, (IntOk .i64) x) x.Kids_ ∧ (IntOk .i64) x.Miss_ ∧ (fun (x : Tlaws_Stats) => (fun xs => xs.length ≤ maxLen ∧ ∀ x ∈ xs, (IntOk .i64) x) x.Totals_ ∧ (fun xs => xs.length ≤ maxLen ∧ ∀ x ∈ xs, (fun xs => xs.length ≤ maxLen ∧ ∀ x ∈ xs, (IntOk .i64) x) x) x.Cells_) x.Stats_ ∧ (IntOk .i64) x.Since_ ∧ (fun xs => xs.length ≤ maxLen ∧ ∀ x ∈ xs, (IntOk .i64) x) x.Attrs_ ∧ (IntOk .i64) x.Depth_ ∧ (IntOk .i64) x.Up_ ∧ (IntOk .i64) x.Born_) x) := opn_list (isSl_of (by kernel_rfl)) opn_t182 (by kernel_rfl)
theorem fo28 : fieldsOf Tryz.prog 28 = some [(26, 0), (3, 1)] := by kernel_rfl
theorem opn_t28 : Opn Tryz.prog 28 (eTlaws_Tree) (fun (x : Tlaws_Tree) => (fun xs => xs.length ≤ maxLen ∧ ∀ x ∈ xs, (fun (x : Tlaws_Node) => (fun _ => True) x.Leaf_ ∧ (fun (x : Tlaws_Fork) => (IntOk .i64) x.Attr_ ∧ (IntOk .i64) x.At_) x.Fork_ ∧ (fun xs => xs.length ≤ maxLen ∧ ∀ x ∈ xs, (IntOk .i64) x) x.Kids_ ∧ (IntOk .i64) x.Miss_ ∧ (fun (x : Tlaws_Stats) => (fun xs => xs.length ≤ maxLen ∧ ∀ x ∈ xs, (IntOk .i64) x) x.Totals_ ∧ (fun xs => xs.length ≤ maxLen ∧ ∀ x ∈ xs, (fun xs => xs.length ≤ maxLen ∧ ∀ x ∈ xs, (IntOk .i64) x) x) x.Cells_) x.Stats_ ∧ (IntOk .i64) x.Since_ ∧ (fun xs => xs.length ≤ maxLen ∧ ∀ x ∈ xs, (IntOk .i64) x) x.Attrs_ ∧ (IntOk .i64) x.Depth_ ∧ (IntOk .i64) x.Up_ ∧ (IntOk .i64) x.Born_) x) x.Nodes_ ∧ (IntOk .i64) x.Seen_) := opn_iso (opn_struct fo28 (opnF_cons opn_t26 (by kernel_rfl) (opnF_one opn_t3 (by kernel_rfl)) (by decide)) (by kernel_rfl)) (fun a => (⟨a.1, a.2⟩ : Tlaws_Tree)) (fun _ => rfl)
theorem fo132 : fieldsOf Tryz.prog 132 = some [(59, 0), (3, 1)] := by kernel_rfl
theorem opn_t132 : Opn Tryz.prog 132 (eTlaws_Ex) (fun (x : Tlaws_Ex) => (fun xs => xs.length ≤ maxLen ∧ ∀ x ∈ xs, (IntOk .i64) x) x.Bins_ ∧ (IntOk .i64) x.Class_) := opn_iso (opn_struct fo132 (opnF_cons opn_t59 (by kernel_rfl) (opnF_one opn_t3 (by kernel_rfl)) (by decide)) (by kernel_rfl)) (fun a => (⟨a.1, a.2⟩ : Tlaws_Ex)) (fun _ => rfl)
theorem fo134 : fieldsOf Tryz.prog 134 = some [(132, 0), (3, 2)] := by kernel_rfl
theorem opn_t134 : Opn Tryz.prog 134 (eTlaws_Entry) (fun (x : Tlaws_Entry) => (fun (x : Tlaws_Ex) => (fun xs => xs.length ≤ maxLen ∧ ∀ x ∈ xs, (IntOk .i64) x) x.Bins_ ∧ (IntOk .i64) x.Class_) x.Ex_ ∧ (IntOk .i64) x.Weight_) := opn_iso (opn_struct fo134 (opnF_cons opn_t132 (by kernel_rfl) (opnF_one opn_t3 (by kernel_rfl)) (by decide)) (by kernel_rfl)) (fun a => (⟨a.1, a.2⟩ : Tlaws_Entry)) (fun _ => rfl)
theorem opn_t50 : Opn Tryz.prog 50 (eList (eTlaws_Entry) 134) (fun xs => xs.length ≤ maxLen ∧ ∀ x ∈ xs, (fun (x : Tlaws_Entry) => (fun (x : Tlaws_Ex) => (fun xs => xs.length ≤ maxLen ∧ ∀ x ∈ xs, (IntOk .i64) x) x.Bins_ ∧ (IntOk .i64) x.Class_) x.Ex_ ∧ (IntOk .i64) x.Weight_) x) := opn_list (isSl_of (by kernel_rfl)) opn_t134 (by kernel_rfl)
set_option maxRecDepth 100000 in
theorem fnExactNodeTruth_lifted (os : Os) (started : os.Started) (H : Type) (enc : TypeId × Value → H) :
    ReturnsInHanded {} Tryz.checked os 5 .any (Rows.fnExactNodeTruthSpec.pre6 enc Tryz.prog Tryz.f5 Rows.fnExactNodeTruthRow.domain false) (Rows.fnExactNodeTruthSpec.post enc Tryz.prog Tryz.f5 false true false false) := by
  refine returnsInHanded_of_change (C := Tryz.checked) Tryz.ownC started (by kernel_rfl) Tryz.func5
    (ChangeSpec.witness6 (enc := enc) (C := Tryz.checked) false ⟨#[], #[.agg #[.slice none 0 0, .slice none 0 0], .agg #[.slice none 0 0, .int .i64 0], .slice none 0 0, .int .i64 0], []⟩ 8 (by kernel_rfl) (by kernel_rfl) (by kernel_rfl) (by kernel_rfl)) ?_
  intro W base args ds gs before hval0 hW hcnd _
  have hW' := hW
  obtain ⟨p, q, hA0, hV, rfl, hfz, hnd⟩ := hW
  have hA : DataW.TrodAll enc Tryz.prog W 0 (fun _ => true) true Tryz.f5.params.toList args.toList ds p := hA0
  rw [Tryz.params5] at hA
  obtain ⟨v0, v1, v2, v3, d0, d1, d2, d3, p0, p1, p2, p3, rfl, rfl, rfl, h0, h1, h2, h3⟩ := trodAll_four hA
  obtain ⟨a0, cs0, rfl, g0, ok0⟩ := arg_struct fo25 opn_t25 (hval0 0 25 v0 rfl rfl) h0
  obtain ⟨a1, cs1, rfl, g1, ok1⟩ := arg_struct fo28 opn_t28 (hval0 1 28 v1 rfl rfl) h1
  obtain ⟨a2, g2, ok2⟩ := arg_sl (et := 134) (isSl_of (by kernel_rfl)) opn_t50 (hval0 2 50 v2 rfl rfl) h2
  obtain ⟨s2, c2, e2⟩ := rd_sl1 g2
  obtain rfl := (List.cons.inj e2).1
  obtain ⟨a3, rfl, rfl, rfl, ok3⟩ := open_int (show Tryz.prog.underlying 3 = some (.int .i64) by kernel_rfl) (hval0 3 3 v3 rfl rfl) h3
  refine (laws_FnExactNodeTruth_ok W (exact_NodeTruth ok0 ok1 ok2 (fun s0 s1 s2 _ _ _ => nodeTruth_same s0 s1 s2)) g0 g1 g2).mono fun e W' ⟨he, hg⟩ => ?_
  subst he
  exact ⟨_, rfl, law_post hW' rfl Tryz.laidC Tryz.rowedC Tryz.fullC (by rw [Tryz.params5]; decide) rfl (by kernel_rfl) rfl hg.below⟩
theorem fnExactNodeTruth_holds : Rows.FnExactNodeTruthSaid :=
  OpenClaim.holds_of_wide 5 Tryz.f5 rfl rfl rfl rfl rfl rfl rfl ⟨rfl, rfl, rfl, rfl, rfl⟩ rfl rfl rfl rfl rfl (by kernel_rfl) Tryz.func5 (by kernel_rfl)
    (of_decide_eq_true (by kernel_rfl)) (by unfold Func.isWrapper; first | (rw [if_pos (by decide +kernel)]; kernel_rfl) | (rw [if_neg (by decide +kernel)]; exact ⟨rfl, rfl⟩))
    (fun os started H enc _ => fnExactNodeTruth_lifted os started H enc)
#print axioms fnExactNodeTruth_holds
end Go.Proofs.YtddoligbabahbaaGreat
