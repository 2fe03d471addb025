/- FnExactStateOf returns true for every input: the card. Condition: the package variables that the row lists start as the text lays them; the card ties them. -/
import Derived.Test.YtckmlpmehdpmiaaGreatDoorWSoF
import Derived.Test.YtckmlpmehdpmiaaGreatDoorPSx
import Derived.Test.YtckmlpmehdpmiaaGreatDoorVkBr
import Derived.Carry
import Derived.Lay
import Derived.LaidLaws
import Derived.Stop.LaidErr
import Derived.SevenTiedAt
import Derived.MakeChecks
import Derived.Test.YtckmlpmehdpmiaaGreatDoorVkSh
import Derived.Test.YtckmlpmehdpmiaaGreatDoorRows
import Derived.Test.YtckmlpmehdpmiaaGreatDoorCards
import Derived.Test.YtckmlpmehdpmiaaGreatDoorTie
namespace Go.Proofs.YtckmlpmehdpmiaaGreatDoor
open Go.ChangeShapes Go.WideShapes Go.ChangeAt Go.RowKit Go.Vk
theorem Tryz.ownC : ownKnob Tryz.prog.godebug = none := by kernel_rfl
theorem Tryz.laidC : laidOutB Tryz.prog = true := by kernel_rfl
theorem Tryz.rowedC : mapsRowed Tryz.prog = true := by kernel_rfl
theorem Tryz.fullC : Og Tryz.prog = true := by kernel_rfl
theorem Tryz.pow10 {W : World} (h : laidMetH Tryz.prog Rows.fnExactStateOfRow.laid W) : (Fq Tryz.prog).rd W [] () [] := by
  rw [MakeChecks.laidMetH_plain _ _ _ (by kernel_rfl)] at h
  have h := laidMet.tail (laidMet.tail (h))
  exact PL (Lib.tabIs_of_head (g := 3) (t := 249) (e := 232) (n := 20) (by kernel_rfl) (by kernel_rfl) (by kernel_rfl) (by kernel_rfl) (by kernel_rfl) (by kernel_rfl) (show laidMet Tryz.prog ((_, Lib.tabData .u64 Lib.pow10Tab) :: _) W from h))
theorem Tryz.rowE (u : TypeId) (h : Tryz.prog.typeName? 3 u = some "*errors.errorString") : u = 246 :=
  typeName_ptr_named (nm := "errors.errorString") (by rw [show "*" ++ "errors.errorString" = "*errors.errorString" by decide]; kernel_rfl) (by kernel_rfl) (by decide) u (by rw [show "*" ++ "errors.errorString" = "*errors.errorString" by decide]; exact h)
theorem Tryz.gl {W : World} (h : laidMetH Tryz.prog Rows.fnExactStateOfRow.laid W) (hsh : W.ShapedOpen Tryz.prog) : (eGl Tryz.prog).rd W [] () [] := by
  have hp := Tryz.pow10 h
  rw [MakeChecks.laidMetH_plain _ _ _ (by kernel_rfl)] at h
  obtain ⟨m, hm⟩ := cell_of_shapedOpen_int (P := Tryz.prog) (g := 0) (t := 3) (zero := #[.int .i64 0]) (k := .i64) hsh (of_decide_eq_true (by kernel_rfl)) (by kernel_rfl) rfl (by kernel_rfl) (by kernel_rfl) (by kernel_rfl)
  obtain ⟨a1, _, a2, _, _, _⟩ := laid_sentinel (te := 248) (ms := Tryz.prog.methodsAt 182) (tp := 246) (g := 1) (ti := 182) (ts := 9) (f := ⟨"s", 9, 0, false, "", "errors", 0⟩) (laidMet.tail (laidMet.tail (laidMet.tail (laidMet.tail (h))))) (by kernel_rfl) (by kernel_rfl) (by kernel_rfl) Tryz.rowE (by kernel_rfl) (by kernel_rfl) rfl rfl (by kernel_rfl) (by kernel_rfl) (by kernel_rfl)
  obtain ⟨b1, _, b2, _, _, _⟩ := laid_sentinel (te := 248) (ms := Tryz.prog.methodsAt 182) (tp := 246) (g := 2) (ti := 182) (ts := 9) (f := ⟨"s", 9, 0, false, "", "errors", 0⟩) (laidMet.tail (laidMet.tail (laidMet.tail (h)))) (by kernel_rfl) (by kernel_rfl) (by kernel_rfl) Tryz.rowE (by kernel_rfl) (by kernel_rfl) rfl rfl (by kernel_rfl) (by kernel_rfl) (by kernel_rfl)
  exact QX hp (by kernel_rfl) hm a2 b2
theorem opn_t5 : Opn Tryz.prog 5 (la (Value.int .u8) (fun _ => rfl)) (DL .u8) := Nr (CB (by kernel_rfl))
theorem opn_t22 : Opn Tryz.prog 22 (ae (la (Value.int .u8) (fun _ => rfl)) 5) (fun xs => xs.length ≤ maxLen ∧ ∀ x ∈ xs, (DL .u8) x) := MJ (pL (by kernel_rfl)) opn_t5 (by kernel_rfl)
set_option maxRecDepth 100000 in
theorem fnExactStateOf_lifted (os : Os) (started : os.Started) (H : Type) (enc : TypeId × Value → H) :
    ReturnsInHanded {} Tryz.checked os 3 .any (fun w args => (Rows.fnExactStateOfSpec.pre enc Tryz.prog Tryz.f3 Rows.fnExactStateOfRow.domain false w args ∧ laidMetH Tryz.prog Rows.fnExactStateOfRow.laid w) ∧ sizedMet enc Tryz.prog Tryz.f3 (OpenSpec.ofChange Rows.fnExactStateOfSpec) false w args) (Rows.fnExactStateOfSpec.post enc Tryz.prog Tryz.f3 false true false false) := by
  refine Lf (C := Tryz.checked) (X := fun w _ => laidMetH Tryz.prog Rows.fnExactStateOfRow.laid w) (fun _ _ _ hh h => h.of_heap hh) Tryz.ownC started (by kernel_rfl) Tryz.func3
    (ChangeSpec.witness_shaped (enc := enc) (C := Tryz.checked) (os := os) (X := fun w _ => laidMetH Tryz.prog Rows.fnExactStateOfRow.laid w) false (World.laidAll Tryz.prog os Rows.fnExactStateOfRow.laid) #[.slice none 0 0] 8 (World.laidAll_os _ _ _)
      (World.shaped_of_ZipB (by kernel_rfl) (by kernel_rfl)) (by kernel_rfl) (by kernel_rfl) (by kernel_rfl)
      (by rw [MakeChecks.laidMetH_plain _ _ _ (by kernel_rfl)]; exact laidMet_laidAll _ (by kernel_rfl) (by kernel_rfl))) ?_
  intro W base args ds gs before hval0 hW hL hsh
  have hW' := hW
  obtain ⟨p, q, hA0, hV, rfl, hfz, hnd⟩ := hW
  have hA : DataW.TrodAll enc Tryz.prog W 0 (fun _ => true) true Tryz.f3.params.toList args.toList ds p := hA0
  rw [Tryz.params3] at hA
  obtain ⟨v0, d0, rfl, rfl, h0⟩ := trodAll_one hA
  obtain ⟨a0, g0, ok0⟩ := Pp (et := 5) (pL (by kernel_rfl)) opn_t22 (hval0 0 22 v0 rfl rfl) h0
  obtain ⟨s0, c0, e0⟩ := dz g0
  obtain rfl := (List.cons.inj e0).1
  have gT := Tryz.gl hL hsh
  refine (uu W (Dy ok0 (fun s0 _ => Ii s0)) g0 gT).mono fun e W' ⟨he, hg⟩ => ?_
  subst he
  exact ⟨_, rfl, Lj hW' rfl Tryz.laidC Tryz.rowedC Tryz.fullC (by rw [Tryz.params3]; decide) rfl (by kernel_rfl) rfl hg.below⟩
theorem fnExactStateOf_holds : Rows.FnExactStateOfSaid :=
  OpenClaim.holds_of_wide 3 Tryz.f3 rfl rfl rfl rfl rfl rfl rfl ⟨rfl, rfl, rfl, rfl, rfl⟩ rfl rfl rfl rfl rfl (by kernel_rfl) Tryz.func3 (by kernel_rfl)
    (of_decide_eq_true (by kernel_rfl)) (by unfold Func.isWrapper; first | (rw [if_pos (by decide +kernel)]; kernel_rfl) | (rw [if_neg (by decide +kernel)]; exact ⟨rfl, rfl⟩))
    (fun os started H enc _ => fnExactStateOf_lifted os started H enc)
theorem fnExactStateOf_card : Rows.FnExactStateOfCardSaid :=
  Claim7.holds_tied_plain_at .later [] [.data, .data, .data, .sentinel, .sentinel] true (true, "7a5239cf2dbcc808603bb1c16973f8a669b8aaca4fc1c489f29d7925739fb615") true
    fnExactStateOf_holds (fun _ h => by cases h) (by kernel_rfl) (fun _ h => by cases h) fnExactStateOf_row_tie rfl ⟨rfl, rfl⟩ (by kernel_rfl) rfl
    (fun f fn hf hfn => by
      obtain rfl : f = 3 := (Option.some.inj ((show Tryz.prog.funcNamed "loop.example/g00477/laws.FnExactStateOf" = some 3 by kernel_rfl).symm.trans hf)).symm
      obtain rfl : fn = Tryz.f3 := (Option.some.inj (Tryz.func3.symm.trans hfn)).symm
      refine ⟨by kernel_rfl, fun j t ht => ?_⟩
      rw [Tryz.params3] at ht
      rcases j with _ | j
      · obtain rfl : 22 = t := by simpa using ht
        exact (show Tryz.prog.wantsStandIn 22 = false by kernel_rfl)
      · simp at ht)
    (by kernel_rfl)
#print axioms fnExactStateOf_card
end Go.Proofs.YtckmlpmehdpmiaaGreatDoor
