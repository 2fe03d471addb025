/- FnExactTreeTrue returns true for every input. -/
import Derived.Test.YthhgdknldbbgoaaGreatWTreeTrueD
import Derived.Test.YthhgdknldbbgoaaGreatPPa
import Derived.Test.YthhgdknldbbgoaaGreatVkM
import Derived.Carry
import Derived.Test.YthhgdknldbbgoaaGreatRows
namespace Go.Proofs.YthhgdknldbbgoaaGreat
open Go.ChangeShapes Go.WideShapes Go.ChangeAt Go.RowKit Go.Vk
theorem Tryz.ownC : ownKnob Tryz.prog.godebug = none := by kernel_rfl
theorem Tryz.laidC : laidOutB Tryz.prog = true := by kernel_rfl
theorem Tryz.rowedC : mapsRowed Tryz.prog = true := by kernel_rfl
theorem Tryz.fullC : fullB Tryz.prog = true := by kernel_rfl
theorem opn_t9 : Opn Tryz.prog 9 eStr (fun s => s.length ≤ maxLen) := opn_str (isStr_of (by kernel_rfl))
theorem opn_t3 : Opn Tryz.prog 3 (eVal (Value.int .i64) (fun _ => rfl)) (IntOk .i64) := opn_int (isInt_of (by kernel_rfl))
theorem opn_t56 : Opn Tryz.prog 56 (eList (eVal (Value.int .i64) (fun _ => rfl)) 3) (fun xs => xs.length ≤ maxLen ∧ ∀ x ∈ xs, (IntOk .i64) x) := opn_list (isSl_of (by kernel_rfl)) opn_t3 (by kernel_rfl)
theorem opn_t23 : Opn Tryz.prog 23 (eList (eStr) 9) (fun xs => xs.length ≤ maxLen ∧ ∀ x ∈ xs, (fun (s : List UInt8) => s.length ≤ maxLen) x) := opn_list (isSl_of (by kernel_rfl)) opn_t9 (by kernel_rfl)
theorem fo95 : fieldsOf Tryz.prog 95 = some [(9, 0), (56, 1), (23, 2)] := by kernel_rfl
theorem opn_t95 : Opn Tryz.prog 95 (eTlaws_Attr) (fun (x : Tlaws_Attr) => (fun (s : List UInt8) => s.length ≤ maxLen) x.Name_ ∧ (fun xs => xs.length ≤ maxLen ∧ ∀ x ∈ xs, (IntOk .i64) x) x.Cuts_ ∧ (fun xs => xs.length ≤ maxLen ∧ ∀ x ∈ xs, (fun (s : List UInt8) => s.length ≤ maxLen) x) x.Values_) := opn_iso (opn_struct fo95 (opnF_cons opn_t9 (by kernel_rfl) (opnF_cons opn_t56 (by kernel_rfl) (opnF_one opn_t23 (by kernel_rfl)) (by decide)) (by decide)) (by kernel_rfl)) (fun a => (⟨a.1, a.2.1, a.2.2⟩ : Tlaws_Attr)) (fun _ => rfl)
theorem opn_t22 : Opn Tryz.prog 22 (eList (eTlaws_Attr) 95) (fun xs => xs.length ≤ maxLen ∧ ∀ x ∈ xs, (fun (x : Tlaws_Attr) => (fun (s : List UInt8) => s.length ≤ maxLen) x.Name_ ∧ (fun xs => xs.length ≤ maxLen ∧ ∀ x ∈ xs, (IntOk .i64) x) x.Cuts_ ∧ (fun xs => xs.length ≤ maxLen ∧ ∀ x ∈ xs, (fun (s : List UInt8) => s.length ≤ maxLen) x) x.Values_) x) := opn_list (isSl_of (by kernel_rfl)) opn_t95 (by kernel_rfl)
theorem fo25 : fieldsOf Tryz.prog 25 = some [(22, 0), (23, 1)] := by kernel_rfl
theorem opn_t25 : Opn Tryz.prog 25 (eTlaws_Schema) (fun (x : Tlaws_Schema) => (fun xs => xs.length ≤ maxLen ∧ ∀ x ∈ xs, (fun (x : Tlaws_Attr) => (fun (s : List UInt8) => s.length ≤ maxLen) x.Name_ ∧ (fun xs => xs.length ≤ maxLen ∧ ∀ x ∈ xs, (IntOk .i64) x) x.Cuts_ ∧ (fun xs => xs.length ≤ maxLen ∧ ∀ x ∈ xs, (fun (s : List UInt8) => s.length ≤ maxLen) x) x.Values_) x) x.Attrs_ ∧ (fun xs => xs.length ≤ maxLen ∧ ∀ x ∈ xs, (fun (s : List UInt8) => s.length ≤ maxLen) x) x.Classes_) := opn_iso (opn_struct fo25 (opnF_cons opn_t22 (by kernel_rfl) (opnF_one opn_t23 (by kernel_rfl)) (by decide)) (by kernel_rfl)) (fun a => (⟨a.1, a.2⟩ : Tlaws_Schema)) (fun _ => rfl)
theorem opn_t4 : Opn Tryz.prog 4 eBool (fun _ => True) := opn_bool (show Tryz.prog.underlying 4 = some .bool by kernel_rfl)
theorem fo27 : fieldsOf Tryz.prog 27 = some [(3, 0), (3, 1), (3, 2), (3, 3), (3, 4), (3, 5), (4, 6)] := by kernel_rfl
theorem opn_t27 : Opn Tryz.prog 27 (eTlaws_Rule) (fun (x : Tlaws_Rule) => (IntOk .i64) x.Sure_ ∧ (IntOk .i64) x.Tie_ ∧ (IntOk .i64) x.Grace_ ∧ (IntOk .i64) x.Depth_ ∧ (IntOk .i64) x.Nodes_ ∧ (IntOk .i64) x.Units_ ∧ (fun _ => True) x.Two_) := opn_map (opn_struct (e := (ePair (eVal (Value.int .i64) (fun _ => rfl)) (ePair (eVal (Value.int .i64) (fun _ => rfl)) (ePair (eVal (Value.int .i64) (fun _ => rfl)) (ePair (eVal (Value.int .i64) (fun _ => rfl)) (ePair (eVal (Value.int .i64) (fun _ => rfl)) (ePair (eVal (Value.int .i64) (fun _ => rfl)) (eBool)))))))) fo27 (opnF_cons opn_t3 (by kernel_rfl) (opnF_cons opn_t3 (by kernel_rfl) (opnF_cons opn_t3 (by kernel_rfl) (opnF_cons opn_t3 (by kernel_rfl) (opnF_cons opn_t3 (by kernel_rfl) (opnF_cons opn_t3 (by kernel_rfl) (opnF_one opn_t4 (by kernel_rfl)) (by decide)) (by decide)) (by decide)) (by decide)) (by decide)) (by decide)) (by kernel_rfl)) (fun a => (⟨a.1, a.2.1, a.2.2.1, a.2.2.2.1, a.2.2.2.2.1, a.2.2.2.2.2.1, a.2.2.2.2.2.2⟩ : Tlaws_Rule)) (fun h => by obtain ⟨_, _, rfl, rfl, ⟨_, _, rfl, rfl, ⟨_, _, rfl, rfl, ⟨_, _, rfl, rfl, ⟨_, _, rfl, rfl, ⟨_, _, rfl, rfl, rfl⟩⟩⟩⟩⟩⟩ := h; rfl) (fun h => h)
theorem fo97 : fieldsOf Tryz.prog 97 = some [(3, 0), (3, 1)] := by kernel_rfl
theorem opn_t97 : Opn Tryz.prog 97 (eTlaws_Fork) (fun (x : Tlaws_Fork) => (IntOk .i64) x.Attr_ ∧ (IntOk .i64) x.At_) := opn_map (opn_struct (e := (ePair (eVal (Value.int .i64) (fun _ => rfl)) (eVal (Value.int .i64) (fun _ => rfl)))) fo97 (opnF_cons opn_t3 (by kernel_rfl) (opnF_one opn_t3 (by kernel_rfl)) (by decide)) (by kernel_rfl)) (fun a => (⟨a.1, a.2⟩ : Tlaws_Fork)) (fun h => by obtain ⟨_, _, rfl, rfl, rfl⟩ := h; rfl) (fun h => h)
theorem opn_t66 : Opn Tryz.prog 66 (eList (eList (eVal (Value.int .i64) (fun _ => rfl)) 3) 56) (fun xs => xs.length ≤ maxLen ∧ ∀ x ∈ xs, (fun xs => xs.length ≤ maxLen ∧ ∀ x ∈ xs, (IntOk .i64) x) x) := opn_list (isSl_of (by kernel_rfl)) opn_t56 (by kernel_rfl)
theorem fo98 : fieldsOf Tryz.prog 98 = some [(56, 0), (66, 1)] := by kernel_rfl
theorem opn_t98 : Opn Tryz.prog 98 (eTlaws_Stats) (fun (x : Tlaws_Stats) => (fun xs => xs.length ≤ maxLen ∧ ∀ x ∈ xs, (IntOk .i64) x) x.Totals_ ∧ (fun xs => xs.length ≤ maxLen ∧ ∀ x ∈ xs, (fun xs => xs.length ≤ maxLen ∧ ∀ x ∈ xs, (IntOk .i64) x) x) x.Cells_) := opn_iso (opn_struct fo98 (opnF_cons opn_t56 (by kernel_rfl) (opnF_one opn_t66 (by kernel_rfl)) (by decide)) (by kernel_rfl)) (fun a => (⟨a.1, a.2⟩ : Tlaws_Stats)) (fun _ => rfl)
theorem fo100 : fieldsOf Tryz.prog 100 = some [(4, 0), (97, 1), (56, 3), (3, 4), (98, 5), (3, 7), (56, 8), (3, 9), (3, 10), (3, 11)] := by kernel_rfl
theorem opn_t100 : Opn Tryz.prog 100 (eTlaws_Node) (fun (x : Tlaws_Node) => (fun _ => True) x.Leaf_ ∧ (fun (x : Tlaws_Fork) => (IntOk .i64) x.Attr_ ∧ (IntOk .i64) x.At_) x.Fork_ ∧ (fun xs => xs.length ≤ maxLen ∧ ∀ x ∈ xs, (IntOk .i64) x) x.Kids_ ∧ (IntOk .i64) x.Miss_ ∧ (fun (x : Tlaws_Stats) => (fun xs => xs.length ≤ maxLen ∧ ∀ x ∈ xs, (IntOk .i64) x) x.Totals_ ∧ (fun xs => xs.length ≤ maxLen ∧ ∀ x ∈ xs, (fun xs => xs.length ≤ maxLen ∧ ∀ x ∈ xs, (IntOk .i64) x) x) x.Cells_) x.Stats_ ∧ (IntOk .i64) x.Since_ ∧ (fun xs => xs.length ≤ maxLen ∧ ∀ x ∈ xs, (IntOk .i64) x) x.Attrs_ ∧ (IntOk .i64) x.Depth_ ∧ (IntOk .i64) x.Up_ ∧ (IntOk .i64) x.Born_) := opn_iso (opn_struct fo100 (opnF_cons opn_t4 (by kernel_rfl) (opnF_cons opn_t97 (by kernel_rfl) (opnF_cons opn_t56 (by kernel_rfl) (opnF_cons opn_t3 (by kernel_rfl) (opnF_cons opn_t98 (by kernel_rfl) (opnF_cons opn_t3 (by kernel_rfl) (opnF_cons opn_t56 (by kernel_rfl) (opnF_cons opn_t3 (by kernel_rfl) (opnF_cons opn_t3 (by kernel_rfl) (opnF_one opn_t3 (by kernel_rfl)) (by decide)) (by decide)) (by decide)) (by decide)) (by decide)) (by decide)) (by decide)) (by decide)) (by decide)) (by kernel_rfl)) (fun a => (⟨a.1, a.2.1, a.2.2.1, a.2.2.2.1, a.2.2.2.2.1, a.2.2.2.2.2.1, a.2.2.2.2.2.2.1, a.2.2.2.2.2.2.2.1, a.2.2.2.2.2.2.2.2.1, a.2.2.2.2.2.2.2.2.2⟩ : Tlaws_Node)) (fun _ => rfl)
theorem opn_t28 : Opn Tryz.prog 28 (eList (eTlaws_Node) 100) (fun xs => xs.length ≤ maxLen ∧ ∀ x ∈ xs, (fun (x : Tlaws_Node) => (fun _ => True) x.Leaf_ ∧ (fun (x : Tlaws_Fork) => (IntOk .i64) x.Attr_ ∧ (IntOk .i64) x.At_) x.Fork_ ∧ (fun xs => xs.length ≤ maxLen ∧ ∀ x ∈ xs, (IntOk .i64) x) x.Kids_ ∧ (IntOk .i64) x.Miss_ ∧ (fun (x : Tlaws_Stats) => (fun xs => xs.length ≤ maxLen ∧ ∀ x ∈ xs, (IntOk .i64) x) x.Totals_ ∧ (fun xs => xs.length ≤ maxLen ∧ ∀ x ∈ xs, (fun xs => xs.length ≤ maxLen ∧ ∀ x ∈ xs, (IntOk .i64) x) x) x.Cells_) x.Stats_ ∧ (IntOk .i64) x.Since_ ∧ (fun xs => xs.length ≤ maxLen ∧ ∀ x ∈ xs, (IntOk .i64) x) x.Attrs_ ∧ (IntOk .i64) x.Depth_ ∧ (IntOk .i64) x.Up_ ∧ (IntOk .i64) x.Born_) x) := opn_list (isSl_of (by kernel_rfl)) opn_t100 (by kernel_rfl)
theorem fo30 : fieldsOf Tryz.prog 30 = some [(28, 0), (3, 1)] := by kernel_rfl
theorem opn_t30 : Opn Tryz.prog 30 (eTlaws_Tree) (fun (x : Tlaws_Tree) => (fun xs => xs.length ≤ maxLen ∧ ∀ x ∈ xs, (fun (x : Tlaws_Node) => (fun _ => True) x.Leaf_ ∧ (fun (x : Tlaws_Fork) => (IntOk .i64) x.Attr_ ∧ (IntOk .i64) x.At_) x.Fork_ ∧ (fun xs => xs.length ≤ maxLen ∧ ∀ x ∈ xs, (IntOk .i64) x) x.Kids_ ∧ (IntOk .i64) x.Miss_ ∧ (fun (x : Tlaws_Stats) => (fun xs => xs.length ≤ maxLen ∧ ∀ x ∈ xs, (IntOk .i64) x) x.Totals_ ∧ (fun xs => xs.length ≤ maxLen ∧ ∀ x ∈ xs, (fun xs => xs.length ≤ maxLen ∧ ∀ x ∈ xs, (IntOk .i64) x) x) x.Cells_) x.Stats_ ∧ (IntOk .i64) x.Since_ ∧ (fun xs => xs.length ≤ maxLen ∧ ∀ x ∈ xs, (IntOk .i64) x) x.Attrs_ ∧ (IntOk .i64) x.Depth_ ∧ (IntOk .i64) x.Up_ ∧ (IntOk .i64) x.Born_) x) x.Nodes_ ∧ (IntOk .i64) x.Seen_) := opn_iso (opn_struct fo30 (opnF_cons opn_t28 (by kernel_rfl) (opnF_one opn_t3 (by kernel_rfl)) (by decide)) (by kernel_rfl)) (fun a => (⟨a.1, a.2⟩ : Tlaws_Tree)) (fun _ => rfl)
theorem fo58 : fieldsOf Tryz.prog 58 = some [(56, 0), (3, 1)] := by kernel_rfl
theorem opn_t58 : Opn Tryz.prog 58 (eTlaws_Ex) (fun (x : Tlaws_Ex) => (fun xs => xs.length ≤ maxLen ∧ ∀ x ∈ xs, (IntOk .i64) x) x.Bins_ ∧ (IntOk .i64) x.Class_) := opn_iso (opn_struct fo58 (opnF_cons opn_t56 (by kernel_rfl) (opnF_one opn_t3 (by kernel_rfl)) (by decide)) (by kernel_rfl)) (fun a => (⟨a.1, a.2⟩ : Tlaws_Ex)) (fun _ => rfl)
theorem fo60 : fieldsOf Tryz.prog 60 = some [(58, 0), (3, 2)] := by kernel_rfl
theorem opn_t60 : Opn Tryz.prog 60 (eTlaws_Entry) (fun (x : Tlaws_Entry) => (fun (x : Tlaws_Ex) => (fun xs => xs.length ≤ maxLen ∧ ∀ x ∈ xs, (IntOk .i64) x) x.Bins_ ∧ (IntOk .i64) x.Class_) x.Ex_ ∧ (IntOk .i64) x.Weight_) := opn_iso (opn_struct fo60 (opnF_cons opn_t58 (by kernel_rfl) (opnF_one opn_t3 (by kernel_rfl)) (by decide)) (by kernel_rfl)) (fun a => (⟨a.1, a.2⟩ : Tlaws_Entry)) (fun _ => rfl)
theorem opn_t31 : Opn Tryz.prog 31 (eList (eTlaws_Entry) 60) (fun xs => xs.length ≤ maxLen ∧ ∀ x ∈ xs, (fun (x : Tlaws_Entry) => (fun (x : Tlaws_Ex) => (fun xs => xs.length ≤ maxLen ∧ ∀ x ∈ xs, (IntOk .i64) x) x.Bins_ ∧ (IntOk .i64) x.Class_) x.Ex_ ∧ (IntOk .i64) x.Weight_) x) := opn_list (isSl_of (by kernel_rfl)) opn_t60 (by kernel_rfl)
set_option maxRecDepth 100000 in
theorem fnExactTreeTrue_lifted (os : Os) (started : os.Started) (H : Type) (enc : TypeId × Value → H) :
    ReturnsInHanded {} Tryz.checked os 3 .any (Rows.fnExactTreeTrueSpec.pre6 enc Tryz.prog Tryz.f3 Rows.fnExactTreeTrueRow.domain false) (Rows.fnExactTreeTrueSpec.post enc Tryz.prog Tryz.f3 false true false false) := by
  refine returnsInHanded_of_change (C := Tryz.checked) Tryz.ownC started (by kernel_rfl) Tryz.func3
    (ChangeSpec.witness6 (enc := enc) (C := Tryz.checked) false ⟨#[], #[.agg #[.slice none 0 0, .slice none 0 0], .agg #[.int .i64 0, .int .i64 0, .int .i64 0, .int .i64 0, .int .i64 0, .int .i64 0, .bool false], .agg #[.slice none 0 0, .int .i64 0], .slice none 0 0], []⟩ 8 (by kernel_rfl) (by kernel_rfl) (by kernel_rfl) (by kernel_rfl)) ?_
  intro W base args ds gs before hval0 hW hcnd _
  have hW' := hW
  obtain ⟨p, q, hA0, hV, rfl, hfz, hnd⟩ := hW
  have hA : DataW.TrodAll enc Tryz.prog W 0 (fun _ => true) true Tryz.f3.params.toList args.toList ds p := hA0
  rw [Tryz.params3] at hA
  obtain ⟨v0, v1, v2, v3, d0, d1, d2, d3, p0, p1, p2, p3, rfl, rfl, rfl, h0, h1, h2, h3⟩ := trodAll_four hA
  obtain ⟨a0, cs0, rfl, g0, ok0⟩ := arg_struct fo25 opn_t25 (hval0 0 25 v0 rfl rfl) h0
  obtain ⟨a1, cs1, rfl, g1, ok1⟩ := arg_struct fo27 opn_t27 (hval0 1 27 v1 rfl rfl) h1
  obtain rfl := g1
  obtain ⟨a2, cs2, rfl, g2, ok2⟩ := arg_struct fo30 opn_t30 (hval0 2 30 v2 rfl rfl) h2
  obtain ⟨a3, g3, ok3⟩ := arg_sl (et := 60) (isSl_of (by kernel_rfl)) opn_t31 (hval0 3 31 v3 rfl rfl) h3
  obtain ⟨s3, c3, e3⟩ := rd_sl1 g3
  obtain rfl := (List.cons.inj e3).1
  refine (laws_FnExactTreeTrue_ok W (exact_TreeTrue ok0 ok1 ok2 ok3 (fun s0 _ s2 s3 => treeTrue_same s0 s2 s3)) g0 g2 g3).mono fun e W' ⟨he, hg⟩ => ?_
  subst he
  exact ⟨_, rfl, law_post hW' rfl Tryz.laidC Tryz.rowedC Tryz.fullC (by rw [Tryz.params3]; decide) rfl (by kernel_rfl) rfl hg.below⟩
theorem fnExactTreeTrue_holds : Rows.FnExactTreeTrueSaid :=
  OpenClaim.holds_of_wide 3 Tryz.f3 rfl rfl rfl rfl rfl rfl rfl ⟨rfl, rfl, rfl, rfl, rfl⟩ rfl rfl rfl rfl rfl (by kernel_rfl) Tryz.func3 (by kernel_rfl)
    (of_decide_eq_true (by kernel_rfl)) (by unfold Func.isWrapper; first | (rw [if_pos (by decide +kernel)]; kernel_rfl) | (rw [if_neg (by decide +kernel)]; exact ⟨rfl, rfl⟩))
    (fun os started H enc _ => fnExactTreeTrue_lifted os started H enc)
#print axioms fnExactTreeTrue_holds
end Go.Proofs.YthhgdknldbbgoaaGreat
