/- Trees, read by both. -/
import Derived.Test.YtgpfgjlmjodcaaaPJ
namespace Go.Vk
theorem idx0 {α : Type} (x : α) (l : List α) : idx (x :: l) 0 = some x := by simp [idx]
theorem idx1 {α : Type} (x y : α) (l : List α) : idx (x :: y :: l) 1 = some y := by simp [idx]
theorem idx2 {α : Type} (x y z : α) (l : List α) : idx (x :: y :: z :: l) 2 = some z := by simp [idx]
def zN : Timpl_Node := Timpl_Node.mk false (Timpl_Fork.mk 0 0) ([] : List Int) 0 (Timpl_Stats.mk ([] : List Int) ([] : List (List Int))) 0 ([] : List Int) 0 0 0
section
variable {p : List Int} (hb : Bytes p) (hp : p.length ≤ 1048576)
include hb hp
theorem some3 {a : Int} (ha : I64 a) : spec_l27Some p a 3 = some (((gI p a).bind fun y0 => (gI p y0.2).bind fun y1 => (gI p y1.2).bind fun y2 => some ([y0.1, y1.1, y2.1], y2.2, true)).getD ([], 0, false)) := by
  rw [show spec_l27Some p a 3 = _ from some_eq hb hp 3 a (by omega) ha]
  simp only [Pz.many, Option.bind_some]
  cases gI p a with
  | none => rfl
  | some y0 =>
    simp only [Option.bind_some]
    cases gI p y0.2 with
    | none => rfl
    | some y1 =>
      simp only [Option.bind_some]
      cases gI p y1.2 with
      | none => rfl
      | some y2 => rfl
theorem some2 {a : Int} (ha : I64 a) : spec_l27Some p a 2 = some (((gI p a).bind fun y0 => (gI p y0.2).bind fun y1 => some ([y0.1, y1.1], y1.2, true)).getD ([], 0, false)) := by
  rw [show spec_l27Some p a 2 = _ from some_eq hb hp 2 a (by omega) ha]
  simp only [Pz.many, Option.bind_some]
  cases gI p a with
  | none => rfl
  | some y0 =>
    simp only [Option.bind_some]
    cases gI p y0.2 with
    | none => rfl
    | some y1 => rfl
theorem node_sp : SpOk (spec_l27GetNode p) (gNode p) zN := fun a ha => by
  have gg := gI_good hb hp
  have gl := gInts_good hb hp
  have gL := gLists_good hb hp
  have sI := gI_sp hb hp
  have sl := gInts_sp hb hp
  have sL := gLists_sp hb hp
  unfold spec_l27GetNode gNode Pz.bind gFlag Pz.map
  rw [some3 hb hp ha]
  simp only [Option.bind_some]
  cases h0 : gI p a with
  | none => rfl
  | some y0 =>
  have i0 := gg.i64 hp ha h0
  simp only [Option.bind_some]
  by_cases hq : y0.1 ≠ 0 ∧ y0.1 ≠ 1
  · rw [if_pos hq]
    cases h1 : gI p y0.2 with
    | none => rfl
    | some y1 =>
      simp only [Option.bind_some]
      cases h2 : gI p y1.2 with
      | none => rfl
      | some y2 =>
        simp only [Option.getD_some, idx0, Option.bind_some, Bool.not_true, Bool.false_eq_true, if_false, spec_l1In]
        rw [in_f (by omega)]
        rfl
  · rw [if_neg hq]
    simp only [Option.bind_some]
    cases h1 : gI p y0.2 with
    | none => rfl
    | some y1 =>
    have i1 := gg.i64 hp i0 h1
    simp only [Option.bind_some]
    cases h2 : gI p y1.2 with
    | none => rfl
    | some y2 =>
    have i2 := gg.i64 hp i1 h2
    simp only [Option.getD_some, idx0, idx1, idx2, Option.bind_some, Bool.not_true, Bool.false_eq_true, if_false, spec_l1In]
    rw [in_t (by omega)]
    simp only [Bool.not_true, Bool.false_eq_true, if_false]
    rw [sl _ i2]
    cases h3 : listOf p (gI p) y2.2 with
    | none => rfl
    | some y3 =>
    have i3 := gl.i64 hp i2 h3
    simp only [Option.bind_some, Bool.not_true, Bool.false_eq_true, if_false]
    rw [sI _ i3]
    cases h4 : gI p y3.2 with
    | none => rfl
    | some y4 =>
    have i4 := gg.i64 hp i3 h4
    simp only [Option.bind_some, Bool.not_true, Bool.false_eq_true, if_false]
    rw [sl _ i4]
    cases h5 : listOf p (gI p) y4.2 with
    | none => rfl
    | some y5 =>
    have i5 := gl.i64 hp i4 h5
    simp only [Option.bind_some, Bool.not_true, Bool.false_eq_true, if_false]
    rw [sL _ i5]
    cases h6 : listOf p (listOf p (gI p)) y5.2 with
    | none => rfl
    | some y6 =>
    have i6 := gL.i64 hp i5 h6
    simp only [Option.bind_some, Option.map_some, Bool.not_true, Bool.false_eq_true, if_false]
    rw [sI _ i6]
    cases h7 : gI p y6.2 with
    | none => rfl
    | some y7 =>
    have i7 := gg.i64 hp i6 h7
    simp only [Option.bind_some, Bool.not_true, Bool.false_eq_true, if_false]
    rw [sl _ i7]
    cases h8 : listOf p (gI p) y7.2 with
    | none => rfl
    | some y8 =>
    have i8 := gl.i64 hp i7 h8
    simp only [Option.bind_some, Bool.not_true, Bool.false_eq_true, if_false]
    rw [some3 hb hp i8]
    cases h9 : gI p y8.2 with
    | none => rfl
    | some y9 =>
    simp only [Option.bind_some]
    cases h10 : gI p y9.2 with
    | none => rfl
    | some y10 =>
    simp only [Option.bind_some]
    cases h11 : gI p y10.2 with
    | none => rfl
    | some y11 =>
    simp only [Option.getD_some, idx0, idx1, idx2, Option.bind_some, Bool.not_true, Bool.false_eq_true, if_false]
end
/-- the reads of a tree -/
noncomputable def gTree (p : List Int) : Pz Timpl_Tree := fun a => (gI p a).bind fun y => Pz.map (fun ns => Timpl_Tree.mk ns y.1) (listOf p (gNode p)) y.2
section
variable {p : List Int} (hb : Bytes p) (hp : p.length ≤ 1048576)
include hb hp
theorem tree_rd : RdOk (impl_reader_tree p) (gTree p) := by
  have big : ∀ y2 : Int × Timpl_reader, RdOk (fun st => (impl_reader_count p st).bind fun y8 => impl_reader_tree_L1 p y2 Fuel y8.2.at_ y8.2.bad_ [] y8.1) (Pz.map (fun ns => Timpl_Tree.mk ns y2.1) (listOf p (gNode p))) := fun y2 =>
    rd_list hb hp (node_rd hb hp) (gNode_good hb hp) (fun ns => Timpl_Tree.mk ns y2.1) (impl_reader_tree_L1 p y2) (fun _ => rfl) (fun k a q l n => tree_step p y2 k a q l n)
  refine ⟨fun a => ?_, fun a ha => ?_⟩
  · unfold impl_reader_tree
    rw [rdInt_bad]
    exact (big (0, ⟨a, true⟩)).1 a
  · unfold impl_reader_tree gTree
    have hr := (gI_rd hb hp).2 a ha
    cases h : gI p a with
    | none =>
      obtain ⟨v, a', e⟩ := hr.2 h
      rw [e]
      exact ⟨fun v b e => (by cases e), fun _ => (big (v, ⟨a', true⟩)).1 a'⟩
    | some y =>
      obtain ⟨n, b⟩ := y
      rw [hr.1 n b h]
      exact (big (n, ⟨b, false⟩)).2 b ((gI_good hb hp).i64 hp ha h)
theorem tree_sp : SpOk (spec_GetTree p) (gTree p) ⟨[], 0⟩ := fun a ha => by
  have gg := gI_good hb hp
  unfold spec_GetTree gTree
  rw [some2 hb hp ha]
  simp only [Option.bind_some]
  cases h0 : gI p a with
  | none => rfl
  | some y0 =>
  have i0 := gg.i64 hp ha h0
  simp only [Option.bind_some]
  cases h1 : gI p y0.2 with
  | none => rw [Pz.map_none (by unfold listOf; rw [h1]; rfl)]; rfl
  | some y1 =>
  have i1 := gg.i64 hp i0 h1
  simp only [Option.getD_some, idx0, idx1, Option.bind_some, Bool.not_true, Bool.false_eq_true, if_false]
  by_cases hn : y1.1 < 0
  · rw [Pz.map_none (by unfold listOf; rw [h1]; simp [hn])]
    rw [decide_eq_true hn]
    rfl
  · rw [decide_eq_false hn]
    simp only [Bool.false_eq_true, if_false]
    have hl : listOf p (gNode p) y0.2 = (gNode p).many y1.1.toNat y1.2 := by unfold listOf; rw [h1]; simp [hn]
    have hi := gI_inr hb hp i0 (v := y1.1) (b := y1.2) h1
    refine (sp_many (node_sp hb hp) (gNode_good hb hp) hp (n := y1.1) hi.2 (fun k l i a => spec_GetTree_L1 ([y0.1, y1.1], y1.2, true) p y0.1 k l i a) (fun l a => some (⟨l, y0.1⟩, a, true)) (some (⟨[], 0⟩, 0, false)) (fun k l i a => ?_) y1.1.toNat Fuel 0 y1.2 [] (by simp) (fuel_gt (by have := hi.2; omega)) (by omega) (by simp) (by omega) i1).trans ?_
    · show (idx [y0.1, y1.1] 1).bind _ = _
      rw [idx1]
      rfl
    · cases hm : (gNode p).many y1.1.toNat y1.2 with
      | none => rw [Pz.map_none (by rw [hl, hm])]
      | some z => rw [Pz.map_some (v := z.1) (b := z.2) (by rw [hl, hm])]; rfl
theorem getTree_both {a : Int} (ha : I64 a) : ∃ r, spec_GetTree p a = some r ∧ impl_GetTree p a = some r ∧ szU r.1 ≤ 1048576 := by
  rw [tree_sp hb hp a ha]
  unfold impl_GetTree
  have hr := (tree_rd hb hp).2 a ha
  cases h : gTree p a with
  | none =>
    obtain ⟨v, a', e⟩ := hr.2 h
    rw [e]
    exact ⟨_, rfl, rfl, by simp [szU]⟩
  | some y =>
    obtain ⟨v, b⟩ := y
    rw [hr.1 v b h]
    refine ⟨_, rfl, rfl, ?_⟩
    unfold gTree at h
    obtain ⟨y0, e0, h⟩ := bind_some_iff h
    obtain ⟨y1, e1, h⟩ := Option.map_eq_some_iff.1 h
    obtain ⟨rfl, rfl⟩ := Prod.mk.inj h
    have i0 := (gI_good hb hp).i64 hp ha e0
    obtain ⟨g1, g2, g3, _⟩ := list_good hb hp (gNode_good hb hp) _ _ _ i0 e1
    have hs : ∀ q : List Timpl_Node, (q.map fun x => 1 + szM x).sum = q.length + (q.map szM).sum := fun q => by
      induction q with
      | nil => rfl
      | cons x q ih => simp only [List.map_cons, List.sum_cons, List.length_cons, ih]; omega
    show y1.1.length + (y1.1.map szM).sum ≤ _
    rw [← hs]
    simp only at g2
    omega
theorem exactGetTree0 {a : Int} (ha : I64 a) : laws_FnExactGetTree p a = some true := by
  unfold laws_FnExactGetTree
  rw [if_neg (by simp; omega), toByteS_id hp]
  simp only [Option.bind_some]
  obtain ⟨⟨v, b, q⟩, e1, e2, hv⟩ := getTree_both hb hp ha
  have hv' : szU v ≤ 1048576 := hv
  rw [e1, e2]
  simp only [Option.bind_some]
  rw [eqTree_self (by omega), eqByteS_self (by omega)]
  obtain ⟨m1, p1, a1, a2, a3, a4, a5⟩ := markByteS_ok (p := p) (by omega) 1 (by omega)
  obtain ⟨m2, b2, b1, b3⟩ := markTree_ok hv'
  have a1' : laws_markByteS p 1 = some ((m1 : Int), p1) := a1
  rw [a1', b1]
  simp only [Option.bind_some, b3, bne_self_eq_false, Bool.not_true, Bool.or_false, Bool.false_eq_true, if_false]
  rw [if_neg (by simp), if_neg (by simp)]
  simp only [Option.bind_some, Bool.false_eq_true, if_false]
  rw [if_neg (by simp)]
end
theorem exactGetTree {p : List Int} {a : Int} (hb : Bytes p) (ha : I64 a) : laws_FnExactGetTree p a = some true := by
  by_cases h0 : 1048576 < p.length
  · unfold laws_FnExactGetTree
    rw [if_pos (by simp; omega)]
  · exact exactGetTree0 hb (by omega) ha
end Go.Vk
