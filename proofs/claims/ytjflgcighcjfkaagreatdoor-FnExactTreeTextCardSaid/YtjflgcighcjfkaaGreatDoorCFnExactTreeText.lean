/- FnExactTreeText returns true for every input: the card. Condition: the package variables that the row lists start as the text lays them; the card ties them. -/
import Derived.Test.YtjflgcighcjfkaaGreatDoorWTreeTextC
import Derived.Test.YtjflgcighcjfkaaGreatDoorPTx
import Derived.Test.YtjflgcighcjfkaaGreatDoorVkS
import Derived.Test.YtjflgcighcjfkaaGreatDoorVkV
import Derived.Carry
import Derived.Lay
import Derived.LaidLaws
import Derived.Stop.LaidErr
import Derived.SevenTiedAt
import Derived.MakeChecks
import Derived.Test.YtjflgcighcjfkaaGreatDoorRows
import Derived.Test.YtjflgcighcjfkaaGreatDoorCards
import Derived.Test.YtjflgcighcjfkaaGreatDoorTie
namespace Go.Proofs.YtjflgcighcjfkaaGreatDoor
open Go.ChangeShapes Go.WideShapes Go.ChangeAt Go.RowKit Go.Vk

theorem Tryz.ownC : ownKnob Tryz.prog.godebug = none := by kernel_rfl
theorem Tryz.laidC : laidOutB Tryz.prog = true := by kernel_rfl
theorem Tryz.rowedC : mapsRowed Tryz.prog = true := by kernel_rfl
theorem Tryz.fullC : fullB Tryz.prog = true := by kernel_rfl
theorem Tryz.pow10 {W : World} (h : laidMetH Tryz.prog Rows.fnExactTreeTextRow.laid W) : (ePow10 Tryz.prog).rd W [] () [] := by
  rw [MakeChecks.laidMetH_plain _ _ _ (by kernel_rfl)] at h
  have h := laidMet.tail (laidMet.tail (h))
  exact rd_tab (Lib.tabIs_of_head (g := 1) (t := 148) (e := 121) (n := 20) (by kernel_rfl) (by kernel_rfl) (by kernel_rfl) (by kernel_rfl) (by kernel_rfl) (by kernel_rfl) (show laidMet Tryz.prog ((_, Lib.tabData .u64 Lib.pow10Tab) :: _) W from h))
theorem opn_t9 : Opn Tryz.prog 9 eStr (fun s => s.length ≤ maxLen) := opn_str (isStr_of (by kernel_rfl))
theorem opn_t3 : Opn Tryz.prog 3 (eVal (Value.int .i64) (fun _ => rfl)) (IntOk .i64) := opn_int (isInt_of (by kernel_rfl))
theorem opn_t49 : Opn Tryz.prog 49 (eList (eVal (Value.int .i64) (fun _ => rfl)) 3) (fun xs => xs.length ≤ maxLen ∧ ∀ x ∈ xs, (IntOk .i64) x) := opn_list (isSl_of (by kernel_rfl)) opn_t3 (by kernel_rfl)
theorem opn_t23 : Opn Tryz.prog 23 (eList (eStr) 9) (fun xs => xs.length ≤ maxLen ∧ ∀ x ∈ xs, (fun (s : List UInt8) => s.length ≤ maxLen) x) := opn_list (isSl_of (by kernel_rfl)) opn_t9 (by kernel_rfl)
theorem fo66 : fieldsOf Tryz.prog 66 = some [(9, 0), (49, 1), (23, 2)] := by kernel_rfl
theorem opn_t66 : Opn Tryz.prog 66 (eTlaws_Attr) (fun (x : Tlaws_Attr) => (fun (s : List UInt8) => s.length ≤ maxLen) x.Name_ ∧ (fun xs => xs.length ≤ maxLen ∧ ∀ x ∈ xs, (IntOk .i64) x) x.Cuts_ ∧ (fun xs => xs.length ≤ maxLen ∧ ∀ x ∈ xs, (fun (s : List UInt8) => s.length ≤ maxLen) x) x.Values_) := opn_iso (opn_struct fo66 (opnF_cons opn_t9 (by kernel_rfl) (opnF_cons opn_t49 (by kernel_rfl) (opnF_one opn_t23 (by kernel_rfl)) (by decide)) (by decide)) (by kernel_rfl)) (fun a => (⟨a.1, a.2.1, a.2.2⟩ : Tlaws_Attr)) (fun _ => rfl)
theorem opn_t22 : Opn Tryz.prog 22 (eList (eTlaws_Attr) 66) (fun xs => xs.length ≤ maxLen ∧ ∀ x ∈ xs, (fun (x : Tlaws_Attr) => (fun (s : List UInt8) => s.length ≤ maxLen) x.Name_ ∧ (fun xs => xs.length ≤ maxLen ∧ ∀ x ∈ xs, (IntOk .i64) x) x.Cuts_ ∧ (fun xs => xs.length ≤ maxLen ∧ ∀ x ∈ xs, (fun (s : List UInt8) => s.length ≤ maxLen) x) x.Values_) x) := opn_list (isSl_of (by kernel_rfl)) opn_t66 (by kernel_rfl)
theorem fo25 : fieldsOf Tryz.prog 25 = some [(22, 0), (23, 1)] := by kernel_rfl
theorem opn_t25 : Opn Tryz.prog 25 (eTlaws_Schema) (fun (x : Tlaws_Schema) => (fun xs => xs.length ≤ maxLen ∧ ∀ x ∈ xs, (fun (x : Tlaws_Attr) => (fun (s : List UInt8) => s.length ≤ maxLen) x.Name_ ∧ (fun xs => xs.length ≤ maxLen ∧ ∀ x ∈ xs, (IntOk .i64) x) x.Cuts_ ∧ (fun xs => xs.length ≤ maxLen ∧ ∀ x ∈ xs, (fun (s : List UInt8) => s.length ≤ maxLen) x) x.Values_) x) x.Attrs_ ∧ (fun xs => xs.length ≤ maxLen ∧ ∀ x ∈ xs, (fun (s : List UInt8) => s.length ≤ maxLen) x) x.Classes_) := opn_iso (opn_struct fo25 (opnF_cons opn_t22 (by kernel_rfl) (opnF_one opn_t23 (by kernel_rfl)) (by decide)) (by kernel_rfl)) (fun a => (⟨a.1, a.2⟩ : Tlaws_Schema)) (fun _ => rfl)
theorem opn_t4 : Opn Tryz.prog 4 eBool (fun _ => True) := opn_bool (show Tryz.prog.underlying 4 = some .bool by kernel_rfl)
theorem fo68 : fieldsOf Tryz.prog 68 = some [(3, 0), (3, 1)] := by kernel_rfl
theorem opn_t68 : Opn Tryz.prog 68 (eTlaws_Fork) (fun (x : Tlaws_Fork) => (IntOk .i64) x.Attr_ ∧ (IntOk .i64) x.At_) := opn_map (opn_struct (e := (ePair (eVal (Value.int .i64) (fun _ => rfl)) (eVal (Value.int .i64) (fun _ => rfl)))) fo68 (opnF_cons opn_t3 (by kernel_rfl) (opnF_one opn_t3 (by kernel_rfl)) (by decide)) (by kernel_rfl)) (fun a => (⟨a.1, a.2⟩ : Tlaws_Fork)) (fun h => by obtain ⟨_, _, rfl, rfl, rfl⟩ := h; rfl) (fun h => h)
theorem opn_t50 : Opn Tryz.prog 50 (eList (eList (eVal (Value.int .i64) (fun _ => rfl)) 3) 49) (fun xs => xs.length ≤ maxLen ∧ ∀ x ∈ xs, (fun xs => xs.length ≤ maxLen ∧ ∀ x ∈ xs, (IntOk .i64) x) x) := opn_list (isSl_of (by kernel_rfl)) opn_t49 (by kernel_rfl)
theorem fo69 : fieldsOf Tryz.prog 69 = some [(49, 0), (50, 1)] := by kernel_rfl
theorem opn_t69 : Opn Tryz.prog 69 (eTlaws_Stats) (fun (x : Tlaws_Stats) => (fun xs => xs.length ≤ maxLen ∧ ∀ x ∈ xs, (IntOk .i64) x) x.Totals_ ∧ (fun xs => xs.length ≤ maxLen ∧ ∀ x ∈ xs, (fun xs => xs.length ≤ maxLen ∧ ∀ x ∈ xs, (IntOk .i64) x) x) x.Cells_) := opn_iso (opn_struct fo69 (opnF_cons opn_t49 (by kernel_rfl) (opnF_one opn_t50 (by kernel_rfl)) (by decide)) (by kernel_rfl)) (fun a => (⟨a.1, a.2⟩ : Tlaws_Stats)) (fun _ => rfl)
theorem fo71 : fieldsOf Tryz.prog 71 = some [(4, 0), (68, 1), (49, 3), (3, 4), (69, 5), (3, 7), (49, 8), (3, 9), (3, 10), (3, 11)] := by kernel_rfl
theorem opn_t71 : Opn Tryz.prog 71 (eTlaws_Node) (fun (x : Tlaws_Node) => (fun _ => True) x.Leaf_ ∧ (fun (x : Tlaws_Fork) => (IntOk .i64) x.Attr_ ∧ (IntOk .i64) x.At_) x.Fork_ ∧ (fun xs => xs.length ≤ maxLen ∧ ∀ x ∈ xs, (IntOk .i64) x) x.Kids_ ∧ (IntOk .i64) x.Miss_ ∧ (fun (x : Tlaws_Stats) => (fun xs => xs.length ≤ maxLen ∧ ∀ x ∈ xs, (IntOk .i64) x) x.Totals_ ∧ (fun xs => xs.length ≤ maxLen ∧ ∀ x ∈ xs, (fun xs => xs.length ≤ maxLen ∧ ∀ x ∈ xs, (IntOk .i64) x) x) x.Cells_) x.Stats_ ∧ (IntOk .i64) x.Since_ ∧ (fun xs => xs.length ≤ maxLen ∧ ∀ x ∈ xs, (IntOk .i64) x) x.Attrs_ ∧ (IntOk .i64) x.Depth_ ∧ (IntOk .i64) x.Up_ ∧ (IntOk .i64) x.Born_) := opn_iso (opn_struct fo71 (opnF_cons opn_t4 (by kernel_rfl) (opnF_cons opn_t68 (by kernel_rfl) (opnF_cons opn_t49 (by kernel_rfl) (opnF_cons opn_t3 (by kernel_rfl) (opnF_cons opn_t69 (by kernel_rfl) (opnF_cons opn_t3 (by kernel_rfl) (opnF_cons opn_t49 (by kernel_rfl) (opnF_cons opn_t3 (by kernel_rfl) (opnF_cons opn_t3 (by kernel_rfl) (opnF_one opn_t3 (by kernel_rfl)) (by decide)) (by decide)) (by decide)) (by decide)) (by decide)) (by decide)) (by decide)) (by decide)) (by decide)) (by kernel_rfl)) (fun a => (⟨a.1, a.2.1, a.2.2.1, a.2.2.2.1, a.2.2.2.2.1, a.2.2.2.2.2.1, a.2.2.2.2.2.2.1, a.2.2.2.2.2.2.2.1, a.2.2.2.2.2.2.2.2.1, a.2.2.2.2.2.2.2.2.2⟩ : Tlaws_Node)) (fun _ => rfl)
theorem opn_t26 : Opn Tryz.prog 26 (eList (eTlaws_Node) 71) (fun xs => xs.length ≤ maxLen ∧ ∀ x ∈ xs, (fun (x : Tlaws_Node) => (fun _ => True) x.Leaf_ ∧ (fun (x : Tlaws_Fork) => (IntOk .i64) x.Attr_ ∧ (IntOk .i64) x.At_) x.Fork_ ∧ (fun xs => xs.length ≤ maxLen ∧ ∀ x ∈ xs, (IntOk .i64) x) x.Kids_ ∧ (IntOk .i64) x.Miss_ ∧ (fun (x : Tlaws_Stats) => (fun xs => xs.length ≤ maxLen ∧ ∀ x ∈ xs, (IntOk .i64) x) x.Totals_ ∧ (fun xs => xs.length ≤ maxLen ∧ ∀ x ∈ xs, (fun xs => xs.length ≤ maxLen ∧ ∀ x ∈ xs, (IntOk .i64) x) x) x.Cells_) x.Stats_ ∧ (IntOk .i64) x.Since_ ∧ (fun xs => xs.length ≤ maxLen ∧ ∀ x ∈ xs, (IntOk .i64) x) x.Attrs_ ∧ (IntOk .i64) x.Depth_ ∧ (IntOk .i64) x.Up_ ∧ (IntOk .i64) x.Born_) x) := opn_list (isSl_of (by kernel_rfl)) opn_t71 (by kernel_rfl)
theorem fo28 : fieldsOf Tryz.prog 28 = some [(26, 0), (3, 1)] := by kernel_rfl
theorem opn_t28 : Opn Tryz.prog 28 (eTlaws_Tree) (fun (x : Tlaws_Tree) => (fun xs => xs.length ≤ maxLen ∧ ∀ x ∈ xs, (fun (x : Tlaws_Node) => (fun _ => True) x.Leaf_ ∧ (fun (x : Tlaws_Fork) => (IntOk .i64) x.Attr_ ∧ (IntOk .i64) x.At_) x.Fork_ ∧ (fun xs => xs.length ≤ maxLen ∧ ∀ x ∈ xs, (IntOk .i64) x) x.Kids_ ∧ (IntOk .i64) x.Miss_ ∧ (fun (x : Tlaws_Stats) => (fun xs => xs.length ≤ maxLen ∧ ∀ x ∈ xs, (IntOk .i64) x) x.Totals_ ∧ (fun xs => xs.length ≤ maxLen ∧ ∀ x ∈ xs, (fun xs => xs.length ≤ maxLen ∧ ∀ x ∈ xs, (IntOk .i64) x) x) x.Cells_) x.Stats_ ∧ (IntOk .i64) x.Since_ ∧ (fun xs => xs.length ≤ maxLen ∧ ∀ x ∈ xs, (IntOk .i64) x) x.Attrs_ ∧ (IntOk .i64) x.Depth_ ∧ (IntOk .i64) x.Up_ ∧ (IntOk .i64) x.Born_) x) x.Nodes_ ∧ (IntOk .i64) x.Seen_) := opn_iso (opn_struct fo28 (opnF_cons opn_t26 (by kernel_rfl) (opnF_one opn_t3 (by kernel_rfl)) (by decide)) (by kernel_rfl)) (fun a => (⟨a.1, a.2⟩ : Tlaws_Tree)) (fun _ => rfl)
set_option maxRecDepth 100000 in
theorem fnExactTreeText_lifted (os : Os) (started : os.Started) (H : Type) (enc : TypeId × Value → H) :
    ReturnsInHanded {} Tryz.checked os 3 .any (fun w args => (Rows.fnExactTreeTextSpec.pre enc Tryz.prog Tryz.f3 Rows.fnExactTreeTextRow.domain false w args ∧ laidMetH Tryz.prog Rows.fnExactTreeTextRow.laid w) ∧ sizedMet enc Tryz.prog Tryz.f3 (OpenSpec.ofChange Rows.fnExactTreeTextSpec) false w args) (Rows.fnExactTreeTextSpec.post enc Tryz.prog Tryz.f3 false true false false) := by
  refine returnsInHanded_of_change_and (C := Tryz.checked) (X := fun w _ => laidMetH Tryz.prog Rows.fnExactTreeTextRow.laid w) (fun _ _ _ hh h => h.of_heap hh) Tryz.ownC started (by kernel_rfl) Tryz.func3
    (ChangeSpec.witness_shaped (enc := enc) (C := Tryz.checked) (os := os) (X := fun w _ => laidMetH Tryz.prog Rows.fnExactTreeTextRow.laid w) false (World.laidAll Tryz.prog os Rows.fnExactTreeTextRow.laid) #[.agg #[.slice none 0 0, .slice none 0 0], .agg #[.slice none 0 0, .int .i64 0]] 8 (World.laidAll_os _ _ _)
      (World.shaped_of_ZipB (by kernel_rfl) (by kernel_rfl)) (by kernel_rfl) (by kernel_rfl) (by kernel_rfl)
      (by rw [MakeChecks.laidMetH_plain _ _ _ (by kernel_rfl)]; exact laidMet_laidAll _ (by kernel_rfl) (by kernel_rfl))) ?_
  intro W base args ds gs before hval0 hW hcnd _ hL _
  have hW' := hW
  obtain ⟨p, q, hA0, hV, rfl, hfz, hnd⟩ := hW
  have hA : DataW.TrodAll enc Tryz.prog W 0 (fun _ => true) true Tryz.f3.params.toList args.toList ds p := hA0
  rw [Tryz.params3] at hA
  obtain ⟨v0, v1, d0, d1, p0, p1, rfl, rfl, rfl, h0, h1⟩ := trodAll_two hA
  obtain ⟨a0, cs0, rfl, g0, ok0⟩ := arg_struct fo25 opn_t25 (hval0 0 25 v0 rfl rfl) h0
  obtain ⟨a1, cs1, rfl, g1, ok1⟩ := arg_struct fo28 opn_t28 (hval0 1 28 v1 rfl rfl) h1
  have gT := Tryz.pow10 hL
  refine (laws_FnExactTreeText_ok W (exact_TreeText ok0 ok1 (fun s0 s1 => treeText_same s0 s1)) g0 g1 gT).mono fun e W' ⟨he, hg⟩ => ?_
  subst he
  exact ⟨_, rfl, law_post hW' rfl Tryz.laidC Tryz.rowedC Tryz.fullC (by rw [Tryz.params3]; decide) rfl (by kernel_rfl) rfl hg.below⟩

theorem fnExactTreeText_holds : Rows.FnExactTreeTextSaid :=
  OpenClaim.holds_of_wide 3 Tryz.f3 rfl rfl rfl rfl rfl rfl rfl ⟨rfl, rfl, rfl, rfl, rfl⟩ rfl rfl rfl rfl rfl (by kernel_rfl) Tryz.func3 (by kernel_rfl)
    (of_decide_eq_true (by kernel_rfl)) (by unfold Func.isWrapper; first | (rw [if_pos (by decide +kernel)]; kernel_rfl) | (rw [if_neg (by decide +kernel)]; exact ⟨rfl, rfl⟩))
    (fun os started H enc _ => fnExactTreeText_lifted os started H enc)
theorem fnExactTreeText_card : Rows.FnExactTreeTextCardSaid :=
  Claim7.holds_tied_plain_at .later [] [.data, .data, .data] true (true, "ffff5da2718affd83175a5926d2f5bc0e696d15a4d428784735caa52b8e9b38a") false
    fnExactTreeText_holds (fun _ h => by cases h) (by kernel_rfl) (fun _ h => by cases h) fnExactTreeText_row_tie rfl ⟨rfl, rfl⟩ (by kernel_rfl) rfl
    (fun f fn hf hfn => by
      obtain rfl : f = 3 := (Option.some.inj ((show Tryz.prog.funcNamed "loop.example/g00477/laws.FnExactTreeText" = some 3 by kernel_rfl).symm.trans hf)).symm
      obtain rfl : fn = Tryz.f3 := (Option.some.inj (Tryz.func3.symm.trans hfn)).symm
      refine ⟨by kernel_rfl, fun j t ht => ?_⟩
      rw [Tryz.params3] at ht
      rcases j with _ | _ | j
      · obtain rfl : 25 = t := by simpa using ht
        exact (show Tryz.prog.wantsStandIn 25 = false by kernel_rfl)
      · obtain rfl : 28 = t := by simpa using ht
        exact (show Tryz.prog.wantsStandIn 28 = false by kernel_rfl)
      · simp at ht)
    (by kernel_rfl)
#print axioms fnExactTreeText_card
end Go.Proofs.YtjflgcighcjfkaaGreatDoor
