/- FnExactNodeText returns true for every input: the card. Condition: the package variables that the row lists start as the text lays them; the card ties them. -/
import Derived.Test.YtjflgcighcjfkaaDoorWNodeTextB
import Derived.Test.YtjflgcighcjfkaaDoorPNt
import Derived.Test.YtjflgcighcjfkaaDoorVkS
import Derived.Test.YtjflgcighcjfkaaDoorVkV
import Derived.Carry
import Derived.Lay
import Derived.LaidLaws
import Derived.Stop.LaidErr
import Derived.SevenTiedAt
import Derived.MakeChecks
import Derived.Test.YtjflgcighcjfkaaDoorRows
import Derived.Test.YtjflgcighcjfkaaDoorCards
import Derived.Test.YtjflgcighcjfkaaDoorTie
namespace Go.Proofs.YtjflgcighcjfkaaDoor
open Go.ChangeShapes Go.WideShapes Go.ChangeAt Go.RowKit Go.Vk

theorem Tryd.ownC : ownKnob Tryd.prog.godebug = none := by kernel_rfl
theorem Tryd.laidC : laidOutB Tryd.prog = true := by kernel_rfl
theorem Tryd.rowedC : mapsRowed Tryd.prog = true := by kernel_rfl
theorem Tryd.fullC : fullB Tryd.prog = true := by kernel_rfl
theorem Tryd.pow10 {W : World} (h : laidMetH Tryd.prog Rows.fnExactNodeTextRow.laid W) : (ePow10 Tryd.prog).rd W [] () [] := by
  rw [MakeChecks.laidMetH_plain _ _ _ (by kernel_rfl)] at h
  have h := laidMet.tail (laidMet.tail (h))
  exact rd_tab (Lib.tabIs_of_head (g := 1) (t := 169) (e := 162) (n := 20) (by kernel_rfl) (by kernel_rfl) (by kernel_rfl) (by kernel_rfl) (by kernel_rfl) (by kernel_rfl) (show laidMet Tryd.prog ((_, Lib.tabData .u64 Lib.pow10Tab) :: _) W from h))
theorem opn_t9 : Opn Tryd.prog 9 eStr (fun s => s.length ≤ maxLen) := opn_str (isStr_of (by kernel_rfl))
theorem opn_t3 : Opn Tryd.prog 3 (eVal (Value.int .i64) (fun _ => rfl)) (IntOk .i64) := opn_int (isInt_of (by kernel_rfl))
theorem opn_t22 : Opn Tryd.prog 22 (eList (eVal (Value.int .i64) (fun _ => rfl)) 3) (fun xs => xs.length ≤ maxLen ∧ ∀ x ∈ xs, (IntOk .i64) x) := opn_list (isSl_of (by kernel_rfl)) opn_t3 (by kernel_rfl)
theorem opn_t48 : Opn Tryd.prog 48 (eList (eStr) 9) (fun xs => xs.length ≤ maxLen ∧ ∀ x ∈ xs, (fun (s : List UInt8) => s.length ≤ maxLen) x) := opn_list (isSl_of (by kernel_rfl)) opn_t9 (by kernel_rfl)
theorem fo145 : fieldsOf Tryd.prog 145 = some [(9, 0), (22, 1), (48, 2)] := by kernel_rfl
theorem opn_t145 : Opn Tryd.prog 145 (eTlaws_Attr) (fun (x : Tlaws_Attr) => (fun (s : List UInt8) => s.length ≤ maxLen) x.Name_ ∧ (fun xs => xs.length ≤ maxLen ∧ ∀ x ∈ xs, (IntOk .i64) x) x.Cuts_ ∧ (fun xs => xs.length ≤ maxLen ∧ ∀ x ∈ xs, (fun (s : List UInt8) => s.length ≤ maxLen) x) x.Values_) := opn_iso (opn_struct fo145 (opnF_cons opn_t9 (by kernel_rfl) (opnF_cons opn_t22 (by kernel_rfl) (opnF_one opn_t48 (by kernel_rfl)) (by decide)) (by decide)) (by kernel_rfl)) (fun a => (⟨a.1, a.2.1, a.2.2⟩ : Tlaws_Attr)) (fun _ => rfl)
theorem opn_t47 : Opn Tryd.prog 47 (eList (eTlaws_Attr) 145) (fun xs => xs.length ≤ maxLen ∧ ∀ x ∈ xs, (fun (x : Tlaws_Attr) => (fun (s : List UInt8) => s.length ≤ maxLen) x.Name_ ∧ (fun xs => xs.length ≤ maxLen ∧ ∀ x ∈ xs, (IntOk .i64) x) x.Cuts_ ∧ (fun xs => xs.length ≤ maxLen ∧ ∀ x ∈ xs, (fun (s : List UInt8) => s.length ≤ maxLen) x) x.Values_) x) := opn_list (isSl_of (by kernel_rfl)) opn_t145 (by kernel_rfl)
theorem fo50 : fieldsOf Tryd.prog 50 = some [(47, 0), (48, 1)] := by kernel_rfl
theorem opn_t50 : Opn Tryd.prog 50 (eTlaws_Schema) (fun (x : Tlaws_Schema) => (fun xs => xs.length ≤ maxLen ∧ ∀ x ∈ xs, (fun (x : Tlaws_Attr) => (fun (s : List UInt8) => s.length ≤ maxLen) x.Name_ ∧ (fun xs => xs.length ≤ maxLen ∧ ∀ x ∈ xs, (IntOk .i64) x) x.Cuts_ ∧ (fun xs => xs.length ≤ maxLen ∧ ∀ x ∈ xs, (fun (s : List UInt8) => s.length ≤ maxLen) x) x.Values_) x) x.Attrs_ ∧ (fun xs => xs.length ≤ maxLen ∧ ∀ x ∈ xs, (fun (s : List UInt8) => s.length ≤ maxLen) x) x.Classes_) := opn_iso (opn_struct fo50 (opnF_cons opn_t47 (by kernel_rfl) (opnF_one opn_t48 (by kernel_rfl)) (by decide)) (by kernel_rfl)) (fun a => (⟨a.1, a.2⟩ : Tlaws_Schema)) (fun _ => rfl)
theorem opn_t4 : Opn Tryd.prog 4 eBool (fun _ => True) := opn_bool (show Tryd.prog.underlying 4 = some .bool by kernel_rfl)
theorem fo66 : fieldsOf Tryd.prog 66 = some [(3, 0), (3, 1)] := by kernel_rfl
theorem opn_t66 : Opn Tryd.prog 66 (eTlaws_Fork) (fun (x : Tlaws_Fork) => (IntOk .i64) x.Attr_ ∧ (IntOk .i64) x.At_) := opn_map (opn_struct (e := (ePair (eVal (Value.int .i64) (fun _ => rfl)) (eVal (Value.int .i64) (fun _ => rfl)))) fo66 (opnF_cons opn_t3 (by kernel_rfl) (opnF_one opn_t3 (by kernel_rfl)) (by decide)) (by kernel_rfl)) (fun a => (⟨a.1, a.2⟩ : Tlaws_Fork)) (fun h => by obtain ⟨_, _, rfl, rfl, rfl⟩ := h; rfl) (fun h => h)
theorem opn_t27 : Opn Tryd.prog 27 (eList (eList (eVal (Value.int .i64) (fun _ => rfl)) 3) 22) (fun xs => xs.length ≤ maxLen ∧ ∀ x ∈ xs, (fun xs => xs.length ≤ maxLen ∧ ∀ x ∈ xs, (IntOk .i64) x) x) := opn_list (isSl_of (by kernel_rfl)) opn_t22 (by kernel_rfl)
theorem fo68 : fieldsOf Tryd.prog 68 = some [(22, 0), (27, 1)] := by kernel_rfl
theorem opn_t68 : Opn Tryd.prog 68 (eTlaws_Stats) (fun (x : Tlaws_Stats) => (fun xs => xs.length ≤ maxLen ∧ ∀ x ∈ xs, (IntOk .i64) x) x.Totals_ ∧ (fun xs => xs.length ≤ maxLen ∧ ∀ x ∈ xs, (fun xs => xs.length ≤ maxLen ∧ ∀ x ∈ xs, (IntOk .i64) x) x) x.Cells_) := opn_iso (opn_struct fo68 (opnF_cons opn_t22 (by kernel_rfl) (opnF_one opn_t27 (by kernel_rfl)) (by decide)) (by kernel_rfl)) (fun a => (⟨a.1, a.2⟩ : Tlaws_Stats)) (fun _ => rfl)
theorem fo70 : fieldsOf Tryd.prog 70 = some [(4, 0), (66, 1), (22, 3), (3, 4), (68, 5), (3, 7), (22, 8), (3, 9), (3, 10), (3, 11)] := by kernel_rfl
theorem opn_t70 : Opn Tryd.prog 70 (eTlaws_Node) (fun (x : Tlaws_Node) => (fun _ => True) x.Leaf_ ∧ (fun (x : Tlaws_Fork) => (IntOk .i64) x.Attr_ ∧ (IntOk .i64) x.At_) x.Fork_ ∧ (fun xs => xs.length ≤ maxLen ∧ ∀ x ∈ xs, (IntOk .i64) x) x.Kids_ ∧ (IntOk .i64) x.Miss_ ∧ (fun (x : Tlaws_Stats) => (fun xs => xs.length ≤ maxLen ∧ ∀ x ∈ xs, (IntOk .i64) x) x.Totals_ ∧ (fun xs => xs.length ≤ maxLen ∧ ∀ x ∈ xs, (fun xs => xs.length ≤ maxLen ∧ ∀ x ∈ xs, (IntOk .i64) x) x) x.Cells_) x.Stats_ ∧ (IntOk .i64) x.Since_ ∧ (fun xs => xs.length ≤ maxLen ∧ ∀ x ∈ xs, (IntOk .i64) x) x.Attrs_ ∧ (IntOk .i64) x.Depth_ ∧ (IntOk .i64) x.Up_ ∧ (IntOk .i64) x.Born_) := opn_iso (opn_struct fo70 (opnF_cons opn_t4 (by kernel_rfl) (opnF_cons opn_t66 (by kernel_rfl) (opnF_cons opn_t22 (by kernel_rfl) (opnF_cons opn_t3 (by kernel_rfl) (opnF_cons opn_t68 (by kernel_rfl) (opnF_cons opn_t3 (by kernel_rfl) (opnF_cons opn_t22 (by kernel_rfl) (opnF_cons opn_t3 (by kernel_rfl) (opnF_cons opn_t3 (by kernel_rfl) (opnF_one opn_t3 (by kernel_rfl)) (by decide)) (by decide)) (by decide)) (by decide)) (by decide)) (by decide)) (by decide)) (by decide)) (by decide)) (by kernel_rfl)) (fun a => (⟨a.1, a.2.1, a.2.2.1, a.2.2.2.1, a.2.2.2.2.1, a.2.2.2.2.2.1, a.2.2.2.2.2.2.1, a.2.2.2.2.2.2.2.1, a.2.2.2.2.2.2.2.2.1, a.2.2.2.2.2.2.2.2.2⟩ : Tlaws_Node)) (fun _ => rfl)
set_option maxRecDepth 100000 in
theorem fnExactNodeText_lifted (os : Os) (started : os.Started) (H : Type) (enc : TypeId × Value → H) :
    ReturnsInHanded {} Tryd.checked os 7 .any (fun w args => (Rows.fnExactNodeTextSpec.pre enc Tryd.prog Tryd.f7 Rows.fnExactNodeTextRow.domain false w args ∧ laidMetH Tryd.prog Rows.fnExactNodeTextRow.laid w) ∧ sizedMet enc Tryd.prog Tryd.f7 (OpenSpec.ofChange Rows.fnExactNodeTextSpec) false w args) (Rows.fnExactNodeTextSpec.post enc Tryd.prog Tryd.f7 false true false false) := by
  refine returnsInHanded_of_change_and (C := Tryd.checked) (X := fun w _ => laidMetH Tryd.prog Rows.fnExactNodeTextRow.laid w) (fun _ _ _ hh h => h.of_heap hh) Tryd.ownC started (by kernel_rfl) Tryd.func7
    (ChangeSpec.witness_shaped (enc := enc) (C := Tryd.checked) (os := os) (X := fun w _ => laidMetH Tryd.prog Rows.fnExactNodeTextRow.laid w) false (World.laidAll Tryd.prog os Rows.fnExactNodeTextRow.laid) #[.agg #[.slice none 0 0, .slice none 0 0], .agg #[.bool false, .int .i64 0, .int .i64 0, .slice none 0 0, .int .i64 0, .slice none 0 0, .slice none 0 0, .int .i64 0, .slice none 0 0, .int .i64 0, .int .i64 0, .int .i64 0]] 8 (World.laidAll_os _ _ _)
      (World.shaped_of_ZipB (by kernel_rfl) (by kernel_rfl)) (by kernel_rfl) (by kernel_rfl) (by kernel_rfl)
      (by rw [MakeChecks.laidMetH_plain _ _ _ (by kernel_rfl)]; exact laidMet_laidAll _ (by kernel_rfl) (by kernel_rfl))) ?_
  intro W base args ds gs before hval0 hW hcnd _ hL _
  have hW' := hW
  obtain ⟨p, q, hA0, hV, rfl, hfz, hnd⟩ := hW
  have hA : DataW.TrodAll enc Tryd.prog W 0 (fun _ => true) true Tryd.f7.params.toList args.toList ds p := hA0
  rw [Tryd.params7] at hA
  obtain ⟨v0, v1, d0, d1, p0, p1, rfl, rfl, rfl, h0, h1⟩ := trodAll_two hA
  obtain ⟨a0, cs0, rfl, g0, ok0⟩ := arg_struct fo50 opn_t50 (hval0 0 50 v0 rfl rfl) h0
  obtain ⟨a1, cs1, rfl, g1, ok1⟩ := arg_struct fo70 opn_t70 (hval0 1 70 v1 rfl rfl) h1
  have gT := Tryd.pow10 hL
  refine (laws_FnExactNodeText_ok W (exact_NodeText ok0 ok1 (fun s0 s1 => nodeText_same s0 s1)) g0 g1 gT).mono fun e W' ⟨he, hg⟩ => ?_
  subst he
  exact ⟨_, rfl, law_post hW' rfl Tryd.laidC Tryd.rowedC Tryd.fullC (by rw [Tryd.params7]; decide) rfl (by kernel_rfl) rfl hg.below⟩

theorem fnExactNodeText_holds : Rows.FnExactNodeTextSaid :=
  OpenClaim.holds_of_wide 7 Tryd.f7 rfl rfl rfl rfl rfl rfl rfl ⟨rfl, rfl, rfl, rfl, rfl⟩ rfl rfl rfl rfl rfl (by kernel_rfl) Tryd.func7 (by kernel_rfl)
    (of_decide_eq_true (by kernel_rfl)) (by unfold Func.isWrapper; first | (rw [if_pos (by decide +kernel)]; kernel_rfl) | (rw [if_neg (by decide +kernel)]; exact ⟨rfl, rfl⟩))
    (fun os started H enc _ => fnExactNodeText_lifted os started H enc)
theorem fnExactNodeText_card : Rows.FnExactNodeTextCardSaid :=
  Claim7.holds_tied_plain_at .later [] [.data, .data, .data] true (true, "c10faa16e30179885c5f594d3fb892d05bb9467148b2883893c682ed34cd1017") false
    fnExactNodeText_holds (fun _ h => by cases h) (by kernel_rfl) (fun _ h => by cases h) fnExactNodeText_row_tie rfl ⟨rfl, rfl⟩ (by kernel_rfl) rfl
    (fun f fn hf hfn => by
      obtain rfl : f = 7 := (Option.some.inj ((show Tryd.prog.funcNamed "loop.example/g00477/laws.FnExactNodeText" = some 7 by kernel_rfl).symm.trans hf)).symm
      obtain rfl : fn = Tryd.f7 := (Option.some.inj (Tryd.func7.symm.trans hfn)).symm
      refine ⟨by kernel_rfl, fun j t ht => ?_⟩
      rw [Tryd.params7] at ht
      rcases j with _ | _ | j
      · obtain rfl : 50 = t := by simpa using ht
        exact (show Tryd.prog.wantsStandIn 50 = false by kernel_rfl)
      · obtain rfl : 70 = t := by simpa using ht
        exact (show Tryd.prog.wantsStandIn 70 = false by kernel_rfl)
      · simp at ht)
    (by kernel_rfl)
#print axioms fnExactNodeText_card
end Go.Proofs.YtjflgcighcjfkaaDoor
