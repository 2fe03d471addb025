/- Trees, put. -/
import Derived.Test.YtgpfgjlmjodcaaaPG
namespace Go.Vk
def bitZ (b : Bool) : Int := if b then 1 else 0
def nodeB (x : Timpl_Node) : List Int :=
  putB (bitZ x.Leaf_) ++ putB x.Fork_.Attr_ ++ putB x.Fork_.At_ ++ listB x.Kids_ ++ putB x.Miss_ ++ listB x.Stats_.Totals_ ++ (putB x.Stats_.Cells_.length ++ x.Stats_.Cells_.flatMap listB) ++ putB x.Since_ ++ listB x.Attrs_ ++ putB x.Depth_ ++ putB x.Up_ ++ putB x.Born_
def FitsN (x : Timpl_Node) : Prop := Fits [x.Fork_.Attr_, x.Fork_.At_, x.Miss_, x.Since_, x.Depth_, x.Up_, x.Born_] ∧ Fits x.Kids_ ∧ Fits x.Attrs_ ∧ Fits x.Stats_.Totals_ ∧ ∀ y ∈ x.Stats_.Cells_, Fits y
instance : DecidablePred FitsN := fun _ => inferInstanceAs (Decidable (_ ∧ _ ∧ _ ∧ _ ∧ _))
theorem nodeB_len (x : Timpl_Node) : (nodeB x).length ≤ 5 * (12 + szM x) := by
  have a1 := putB_len (bitZ x.Leaf_)
  have a2 := putB_len x.Fork_.Attr_
  have a3 := putB_len x.Fork_.At_
  have a4 := listB_len x.Kids_
  have a5 := putB_len x.Miss_
  have a6 := listB_len x.Stats_.Totals_
  have a7 := putB_len x.Stats_.Cells_.length
  have a8 := listsB_len x.Stats_.Cells_
  have a9 := putB_len x.Since_
  have b1 := listB_len x.Attrs_
  have b2 := putB_len x.Depth_
  have b3 := putB_len x.Up_
  have b4 := putB_len x.Born_
  unfold nodeB szM
  simp only [List.length_append]
  omega
theorem bit_ok (b : Bool) : spec_l1Bit b = some (bitZ b) ∧ impl_flag b = some (bitZ b) := by cases b <;> exact ⟨rfl, rfl⟩
theorem inr_bit (b : Bool) : InR (bitZ b) := by cases b <;> decide
theorem fits_ok {p : List Int} (h : p.length < 1000000000000) : spec_l27Fits p = some (decide (Fits p)) := l27Fits_ok h
theorem fits5 {A B C D E : Prop} [Decidable A] [Decidable B] [Decidable C] [Decidable D] [Decidable E] :
    ((if (!decide A) = true then some true else some !decide B).bind fun u37 => (if u37 = true then some true else some !decide C).bind fun u42 => (if u42 = true then some true else some !decide D).bind fun u47 => if u47 = true then some false else some (decide E)) = some (decide (A ∧ B ∧ C ∧ D ∧ E)) := by
  by_cases A <;> by_cases B <;> by_cases C <;> by_cases D <;> by_cases E <;> simp [*]
theorem nodeFits_ok {x : Timpl_Node} (h : szM x ≤ 1048576) : spec_l27NodeFits x = some (decide (FitsN x)) := by
  unfold szM at h
  have h4 := @szSS_le x.Stats_.Cells_
  have hL : spec_l27NodeFits_L1 x Fuel 0 = some (decide (∀ y ∈ x.Stats_.Cells_, Fits y)) :=
    all_loop (P := Fits) (p := x.Stats_.Cells_) (spec_l27NodeFits_L1 x) (fun k => by
      show (if _ then _ else _) = _
      rw [if_neg (by simp)]) (fun k i h => by
      have hm := List.getElem_mem h
      show (if _ then _ else _) = _
      rw [if_pos (by simp; omega), idx_lt h, wrap_succ (by omega)]
      simp only [Option.bind_some]
      rw [fits_ok (by have := szSS_mem hm; omega)]
      simp only [Option.bind_some]
      by_cases hf : Fits x.Stats_.Cells_[i]
      · rw [if_pos hf, decide_eq_true hf]; rfl
      · rw [if_neg hf, decide_eq_false hf]; rfl) (by omega)
  unfold spec_l27NodeFits
  rw [fits_ok (by simp), fits_ok (p := x.Kids_) (by omega), fits_ok (p := x.Attrs_) (by omega), fits_ok (p := x.Stats_.Totals_) (by omega), hL]
  simp only [Option.bind_some]
  exact fits5
theorem putNode_ok {x : Timpl_Node} (h : szM x ≤ 1048576) (hf : FitsN x) : spec_l27PutNode x = some (nodeB x) := by
  have hl := nodeB_len x
  unfold szM at h
  have h4 := @szSS_le x.Stats_.Cells_
  obtain ⟨f1, f2, f3, f4, f5⟩ := hf
  have a1 := putB_len (bitZ x.Leaf_)
  have a2 := putB_len x.Fork_.Attr_
  have a3 := putB_len x.Fork_.At_
  have a4 := listB_len x.Kids_
  have a5 := putB_len x.Miss_
  have a6 := listB_len x.Stats_.Totals_
  have a7 := putB_len x.Stats_.Cells_.length
  have a8 := listsB_len x.Stats_.Cells_
  have a9 := putB_len x.Since_
  have b1 := listB_len x.Attrs_
  have b2 := putB_len x.Depth_
  have b3 := putB_len x.Up_
  have b4 := putB_len x.Born_
  unfold spec_l27PutNode
  rw [(bit_ok _).1]
  simp only [Option.bind_some, putInt_ok.1]
  rw [app_eq (by omega)]
  simp only [Option.bind_some]
  rw [app_eq (by simp only [List.length_append]; omega)]
  simp only [Option.bind_some]
  rw [specList_ok (by omega) f2]
  simp only [Option.bind_some]
  rw [app_eq (by simp only [List.length_append]; omega)]
  simp only [Option.bind_some]
  rw [app_eq (by simp only [List.length_append]; omega)]
  simp only [Option.bind_some]
  rw [specList_ok (by omega) f4]
  simp only [Option.bind_some]
  rw [app_eq (by simp only [List.length_append]; omega)]
  simp only [Option.bind_some]
  rw [l27PutLists_ok (by omega) f5]
  simp only [Option.bind_some]
  rw [app_eq (by simp only [List.length_append]; omega)]
  simp only [Option.bind_some]
  rw [app_eq (by simp only [List.length_append]; omega)]
  simp only [Option.bind_some]
  rw [specList_ok (by omega) f3]
  simp only [Option.bind_some]
  rw [app_eq (by simp only [List.length_append]; omega)]
  simp only [Option.bind_some]
  rw [app_eq (by simp only [List.length_append]; omega)]
  simp only [Option.bind_some]
  rw [app_eq (by simp only [List.length_append]; omega)]
  simp only [Option.bind_some]
  rw [app_eq (by simp only [List.length_append]; omega)]
  rfl
theorem nodesB_len (p : List Timpl_Node) : (p.flatMap nodeB).length ≤ 60 * p.length + 5 * (p.map szM).sum := by
  induction p with
  | nil => simp
  | cons x p ih =>
    have := nodeB_len x
    simp only [List.flatMap_cons, List.length_append, List.map_cons, List.sum_cons, List.length_cons]
    omega
/-- the state after a node -/
theorem specTree_ok {x : Timpl_Tree} (h : szU x ≤ 1048576) : spec_PutTree x = some (if InR x.Seen_ ∧ ∀ y ∈ x.Nodes_, FitsN y then putB x.Seen_ ++ putB x.Nodes_.length ++ x.Nodes_.flatMap nodeB else []) := by
  have hl : x.Nodes_.length ≤ 1048576 := by unfold szU at h; omega
  have hb := nodesB_len x.Nodes_
  have hs : (x.Nodes_.map szM).sum ≤ 1048576 := by unfold szU at h; omega
  unfold spec_PutTree
  rw [fits_ok (by simp)]
  simp only [Option.bind_some]
  by_cases h1 : InR x.Seen_
  · have hF : Fits [x.Seen_] := by intro y hy; rw [List.mem_singleton.1 hy]; exact h1
    rw [decide_eq_true hF]
    simp only [Bool.not_true, Bool.false_eq_true, if_false]
    rw [putInt_ok.1, putInt_ok.1]
    have a1 := putB_len x.Seen_
    have a2 := putB_len x.Nodes_.length
    simp only [Option.bind_some]
    rw [app_eq (by omega)]
    simp only [Option.bind_some, h1, true_and]
    have key : ∀ (d k i : Nat) (l : List Int), x.Nodes_.length - i = d → d < k → i ≤ x.Nodes_.length → l.length + ((x.Nodes_.drop i).flatMap nodeB).length ≤ 800000000 →
        spec_PutTree_L1 x k l (i : Int) = some (if ∀ y ∈ x.Nodes_.drop i, FitsN y then l ++ (x.Nodes_.drop i).flatMap nodeB else []) := by
      intro d
      induction d with
      | zero =>
        intro k i l hd hk hi hll
        obtain ⟨k, rfl⟩ : ∃ q, k = q + 1 := ⟨k - 1, by omega⟩
        have : i = x.Nodes_.length := by omega
        subst this
        show (if _ then _ else _) = _
        rw [if_neg (by simp), List.drop_length]
        simp
      | succ d ih =>
        intro k i l hd hk hi hll
        obtain ⟨k, rfl⟩ : ∃ q, k = q + 1 := ⟨k - 1, by omega⟩
        have hlt : i < x.Nodes_.length := by omega
        have hm := List.getElem_mem hlt
        have hsz : szM x.Nodes_[i] ≤ 1048576 := by have := szM_mem hm; omega
        rw [List.drop_eq_getElem_cons hlt] at hll ⊢
        simp only [List.flatMap_cons, List.length_append] at hll ⊢
        show (if _ then _ else _) = _
        rw [if_pos (by simp; omega), idx_lt hlt]
        simp only [Option.bind_some]
        rw [nodeFits_ok hsz]
        simp only [Option.bind_some]
        by_cases hf : FitsN x.Nodes_[i]
        · rw [decide_eq_true hf]
          simp only [Bool.not_true, Bool.false_eq_true, if_false]
          rw [putNode_ok hsz hf]
          simp only [Option.bind_some]
          rw [app_eq (by omega)]
          simp only [Option.bind_some]
          rw [wrap_succ (by omega), ih k (i + 1) _ (by omega) (by omega) (by omega) (by simp only [List.length_append]; omega)]
          generalize List.drop (i + 1) x.Nodes_ = D
          simp [hf]
        · rw [decide_eq_false hf]
          generalize List.drop (i + 1) x.Nodes_ = D
          simp [hf]
    have := key x.Nodes_.length Fuel 0 (putB x.Seen_ ++ putB x.Nodes_.length) (by omega) (fuel_gt (by omega)) (by omega) (by simp only [List.length_append, List.drop_zero]; omega)
    simpa using this
  · have hF : ¬ Fits [x.Seen_] := fun n => h1 (n _ (List.mem_singleton.2 rfl))
    rw [decide_eq_false hF]
    simp [h1]
theorem putsB_nil : putsB [] = [] := rfl
theorem putsB_cons (x : Int) (xs : List Int) : putsB (x :: xs) = putB x ++ putsB xs := List.flatMap_cons ..
/-- a loop that appends -/
theorem app_loopM {M : Nat} {α σ ρ : Type} {p : List α} (B : α → List Int) (u : σ → α → σ) (Lp : Nat → List Int → σ → Int → Option ρ) (fin : List Int → σ → Option ρ)
    (hz : ∀ k l q, Lp (k + 1) l q (p.length : Int) = fin l q)
    (hs : ∀ k l q (i : Nat) (h : i < p.length), l.length + (B p[i]).length ≤ M → Lp (k + 1) l q (i : Int) = Lp k (l ++ B p[i]) (u q p[i]) ((i + 1 : Nat) : Int))
    (hp : p.length < 1000000000000) (l : List Int) (q : σ) (hl : l.length + (p.flatMap B).length ≤ M) : Lp Fuel l q 0 = fin (l ++ p.flatMap B) (p.foldl u q) := by
  have key : ∀ (d k i : Nat) (l : List Int) (q : σ), p.length - i = d → d < k → i ≤ p.length → l.length + ((p.drop i).flatMap B).length ≤ M → Lp k l q (i : Int) = fin (l ++ (p.drop i).flatMap B) ((p.drop i).foldl u q) := by
    intro d
    induction d with
    | zero =>
      intro k i l q hd hk hi hl
      obtain ⟨k, rfl⟩ : ∃ q, k = q + 1 := ⟨k - 1, by omega⟩
      have : i = p.length := by omega
      subst this
      rw [hz, List.drop_length]
      simp
    | succ d ih =>
      intro k i l q hd hk hi hl
      obtain ⟨k, rfl⟩ : ∃ q, k = q + 1 := ⟨k - 1, by omega⟩
      have hlt : i < p.length := by omega
      rw [List.drop_eq_getElem_cons hlt] at hl ⊢
      simp only [List.flatMap_cons, List.length_append, List.foldl_cons] at hl ⊢
      rw [hs k l q i hlt (by omega), ih k (i + 1) _ _ (by omega) (by omega) (by omega) (by simp only [List.length_append]; omega), List.append_assoc]
  have := key p.length Fuel 0 l q (by omega) (fuel_gt (by omega)) (by omega) (by simpa using hl)
  simpa using this
theorem or_bad {q : Bool} {A B : Prop} [Decidable A] [Decidable B] : ((q || decide (¬ A)) || decide (¬ B)) = (q || decide (¬ (A ∧ B))) := by
  by_cases A <;> by_cases B <;> simp [*]
theorem implTree_step {x : Timpl_Tree} {k i : Nat} {l : List Int} {q : Bool} (h : i < x.Nodes_.length) (hh : x.Nodes_.length ≤ 1048576) (hz : szM x.Nodes_[i] ≤ 1048576) (hl : l.length + (nodeB x.Nodes_[i]).length ≤ 400000000) :
    impl_writer_tree_L1 x (k + 1) l q (i : Int) = impl_writer_tree_L1 x k (l ++ nodeB x.Nodes_[i]) (q || decide (¬ FitsN x.Nodes_[i])) ((i + 1 : Nat) : Int) := by
  show (if _ then _ else _) = _
  rw [if_pos (by simp; omega), idx_lt h]
  generalize x.Nodes_[i] = e at hz hl
  have hz' := hz
  unfold szM at hz'
  have h4 := @szSS_le e.Stats_.Cells_
  simp only [Option.bind_some]
  rw [(bit_ok _).2]
  simp only [Option.bind_some]
  have a1 := putsB_len [bitZ e.Leaf_, e.Fork_.Attr_, e.Fork_.At_]
  have a4 := listB_len e.Kids_
  have a5 := putsB_len [e.Miss_]
  have a6 := listB_len e.Stats_.Totals_
  have a7 := putsB_len [(e.Stats_.Cells_.length : Int)]
  have a8 := listsB_len e.Stats_.Cells_
  have a9 := putsB_len [e.Since_]
  have b1 := listB_len e.Attrs_
  have b2 := putsB_len [e.Depth_, e.Up_, e.Born_]
  simp only [List.length_cons, List.length_nil] at a1 a5 a7 a9 b2
  rw [implInts_ok (by simp) _ _ (by omega)]
  simp only [Option.bind_some]
  rw [implListB_ok (by omega) _ _ (by simp only [List.length_append]; omega)]
  simp only [Option.bind_some]
  rw [implInts_ok (by simp) _ _ (by simp only [List.length_append]; omega)]
  simp only [Option.bind_some]
  rw [implListB_ok (by omega) _ _ (by simp only [List.length_append]; omega)]
  simp only [Option.bind_some]
  rw [implInts_ok (by simp) _ _ (by simp only [List.length_append]; omega)]
  simp only [Option.bind_some]
  rw [implWindow_L (p := e.Stats_.Cells_) (by omega) (impl_writer_tree_L2 e (impl_writer_tree_L1 x k) i) _ (fun _ _ _ _ => rfl) _ _ (by simp only [List.length_append]; omega)]
  rw [implInts_ok (by simp) _ _ (by simp only [List.length_append]; omega)]
  simp only [Option.bind_some]
  rw [implListB_ok (by omega) _ _ (by simp only [List.length_append]; omega)]
  simp only [Option.bind_some]
  rw [implInts_ok (by simp) _ _ (by simp only [List.length_append]; omega)]
  simp only [Option.bind_some]
  rw [wrap_succ (by omega)]
  congr 1
  · simp only [nodeB, putsB_cons, putsB_nil, List.append_nil, List.append_assoc]
  · rw [or_bad, or_bad, or_bad, or_bad, or_bad, or_bad, or_bad, or_bad]
    congr 1
    refine decide_eq_decide.2 (not_congr ?_)
    have hb := inr_bit e.Leaf_
    have hc : InR (e.Stats_.Cells_.length : Int) := inr_len (by omega)
    unfold FitsN Fits
    simp only [List.forall_mem_cons, hb, hc, true_and]
    constructor
    · rintro ⟨⟨c1, c2, _⟩, c3, ⟨c4, _⟩, c5, _, c6, ⟨c7, _⟩, c8, c9, c10, c11, _⟩
      exact ⟨⟨c1, c2, c4, c7, c9, c10, c11, by simp⟩, c3, c8, c5, c6⟩
    · rintro ⟨⟨c1, c2, c4, c7, c9, c10, c11, _⟩, c3, c8, c5, c6⟩
      exact ⟨⟨c1, c2, by simp⟩, c3, ⟨c4, by simp⟩, c5, by simp, c6, ⟨c7, by simp⟩, c8, c9, c10, c11, by simp⟩
theorem implTree_ok {x : Timpl_Tree} (h : szU x ≤ 1048576) : impl_PutTree x = some (if InR x.Seen_ ∧ ∀ y ∈ x.Nodes_, FitsN y then putB x.Seen_ ++ putB x.Nodes_.length ++ x.Nodes_.flatMap nodeB else []) := by
  have hl : x.Nodes_.length ≤ 1048576 := by unfold szU at h; omega
  have hb := nodesB_len x.Nodes_
  have hs : (x.Nodes_.map szM).sum ≤ 1048576 := by unfold szU at h; omega
  unfold impl_PutTree impl_writer_tree
  rw [implInts_ok (by simp) _ _ (by simp)]
  simp only [Option.bind_some]
  have a1 := putsB_len [x.Seen_, (x.Nodes_.length : Int)]
  simp only [List.length_cons, List.length_nil] at a1
  have key : ∀ l q, l.length ≤ 10 → impl_writer_tree_L1 x Fuel l q 0 = some ⟨l ++ x.Nodes_.flatMap nodeB, q || decide (¬ ∀ y ∈ x.Nodes_, FitsN y)⟩ := fun l q hlq => by
    rw [← foldl_bad]
    exact app_loopM (M := 400000000) (p := x.Nodes_) (σ := Bool) nodeB (fun q x => q || decide (¬ FitsN x)) (impl_writer_tree_L1 x) (fun l q => some ⟨l, q⟩)
      (fun k l q => by show (if _ then _ else _) = _; rw [if_neg (by simp)])
      (fun k l q i hi hll => by
        have hm := List.getElem_mem hi
        exact implTree_step hi hl (by have := szM_mem hm; omega) hll) (by omega) l q (by omega)
  rw [key _ _ (by simp; omega)]
  simp only [Option.bind_some, impl_writer_done]
  have hc : InR (x.Nodes_.length : Int) := inr_len (by omega)
  rw [or_bad]
  have hiff : ((∀ z ∈ [x.Seen_, (x.Nodes_.length : Int)], InR z) ∧ ∀ y ∈ x.Nodes_, FitsN y) ↔ (InR x.Seen_ ∧ ∀ y ∈ x.Nodes_, FitsN y) := by
    simp only [List.forall_mem_cons, hc, true_and]
    constructor
    · rintro ⟨⟨c1, _⟩, c2⟩; exact ⟨c1, c2⟩
    · rintro ⟨c1, c2⟩; exact ⟨⟨c1, by simp⟩, c2⟩
  by_cases hf : InR x.Seen_ ∧ ∀ y ∈ x.Nodes_, FitsN y
  · rw [if_pos hf, decide_eq_false fun n => n (hiff.2 hf)]
    simp [putsB_cons, putsB_nil]
  · rw [if_neg hf, decide_eq_true (show ¬ _ from fun n => hf (hiff.1 n))]
    rfl
theorem exactPutTree {x : Tlaws_Tree} (hx : OkT x) : laws_FnExactPutTree x = some true := by
  unfold laws_FnExactPutTree
  obtain ⟨r, h1, h2⟩ := weighs_tree hx 1048576 (by omega)
  have h1' : laws_szTree x 1048576 = some r := h1
  rw [h1']
  simp only [Option.bind_some]
  rcases h2 with ⟨h2, _⟩ | ⟨h2, h3⟩
  · rw [if_pos (by simpa using h2)]
  · rw [if_neg (by simp; omega), toTree_ok h2]
    simp only [Option.bind_some]
    have hu : szU (toT x) ≤ 1048576 := by rw [szU_toT]; exact h2
    generalize toT x = z at hu
    rw [specTree_ok hu, implTree_ok hu]
    have hb : (if InR z.Seen_ ∧ ∀ y ∈ z.Nodes_, FitsN y then putB z.Seen_ ++ putB z.Nodes_.length ++ z.Nodes_.flatMap nodeB else []).length ≤ 100000000 := by
      split
      · have := putB_len z.Seen_
        have := putB_len z.Nodes_.length
        have := nodesB_len z.Nodes_
        unfold szU at hu
        simp only [List.length_append]
        omega
      · simp
    generalize (if InR z.Seen_ ∧ ∀ y ∈ z.Nodes_, FitsN y then putB z.Seen_ ++ putB z.Nodes_.length ++ z.Nodes_.flatMap nodeB else []) = b at hb
    simp only [Option.bind_some]
    rw [eqByteS_self (by omega), eqTree_self (by omega)]
    obtain ⟨m1, p1, a1, a2⟩ := markTree_ok hu
    obtain ⟨m2, b2, b1, b3, b4, b5, b6⟩ := markByteS_ok (p := b) (by omega) 1 (by omega)
    have b1' : laws_markByteS b 1 = some ((m2 : Int), b2) := b1
    have b3' : laws_heldByteS b2 1 = some (m2 : Int) := b3
    rw [a1, b1']
    simp only [Option.bind_some, b3', Bool.not_true, Bool.false_eq_true, if_false, bne_self_eq_false]
    rw [if_neg (by simp), if_neg (by simp)]
    simp only [Option.bind_some, Bool.false_eq_true, if_false]
    rw [if_neg (by simp)]
end Go.Vk
