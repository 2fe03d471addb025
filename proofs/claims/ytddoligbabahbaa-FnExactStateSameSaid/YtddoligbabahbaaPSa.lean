/- States are compared alike: both texts say whether the two are equal. -/
import Derived.Test.YtddoligbabahbaaPT
import Derived.Test.YtddoligbabahbaaVkTo
namespace Go.Vk
theorem same_list {α : Type} [DecidableEq α] {p q : List α} (Lp : Nat → Int → Option Bool) (hz : ∀ k, Lp (k + 1) (p.length : Int) = some true)
    (hs : ∀ k (i : Nat) (h : i < p.length) (h2 : i < q.length), Lp (k + 1) (i : Int) = if p[i] = q[i] then Lp k ((i + 1 : Nat) : Int) else some false) (hp : p.length < 1000000000000) :
    (if ((p.length : Int) != (q.length : Int)) = true then some false else Lp Fuel 0) = some (decide (p = q)) := by
  by_cases hl : p.length = q.length
  · rw [if_neg (by simp [hl])]
    have h := if_idx (Lp := fun k i => Lp k (i : Int)) (n := p.length) (Q := fun i => ∀ (h : i < p.length) (h2 : i < q.length), p[i] = q[i]) (fin := some true) (bad := some false) (fun k _ => hz k) (fun k i hi _ => by
      show (_ ∧ Lp (k + 1) _ = Lp k _) ∨ (_ ∧ Lp (k + 1) _ = _)
      rw [hs k i hi (by omega)]
      by_cases e : p[i] = q[i]'(by omega)
      · rw [if_pos e]; exact .inl ⟨fun _ _ => e, rfl⟩
      · rw [if_neg e]; exact .inr ⟨fun g => e (g hi (by omega)), rfl⟩) hp
    rcases h with ⟨h1, h2⟩ | ⟨h1, h2⟩
    · have : p = q := List.ext_getElem hl (fun i a b => h1 i a a b)
      rw [decide_eq_true this]; exact h2
    · have : ¬ p = q := fun e => h1 (fun i hi a b => by subst e; rfl)
      rw [decide_eq_false this]; exact h2
  · rw [if_pos (by simp; omega), decide_eq_false (fun e => hl (by rw [e]))]
theorem specInts {p q : List Int} (hp : p.length ≤ 1048576) : spec_l5SameInts p q = some (decide (p = q)) := by
  unfold spec_l5SameInts
  refine same_list (spec_l5SameInts_L1 p q) (fun k => by rw [spec_l5SameInts_L1, if_neg (by simp)]) (fun k i h h2 => ?_) (by omega)
  rw [spec_l5SameInts_L1, if_pos (by simp; omega), idx_lt h, idx_lt h2, wrap_succ (by omega)]
  by_cases e : p[i] = q[i] <;> simp [e]
theorem implInts {p q : List Int} (hp : p.length ≤ 1048576) : lib_slices_Equal___int_int_ p q = some (decide (p = q)) := by
  unfold lib_slices_Equal___int_int_
  refine same_list (lib_slices_Equal___int_int__L1 p q) (fun k => by rw [lib_slices_Equal___int_int__L1, if_neg (by simp)]) (fun k i h h2 => ?_) (by omega)
  rw [lib_slices_Equal___int_int__L1, if_pos (by simp; omega), idx_lt h, idx_lt h2, wrap_succ (by omega)]
  by_cases e : p[i] = q[i] <;> simp [e]
theorem specTexts {p q : List (List UInt8)} (hp : p.length ≤ 1048576) : spec_l5SameTexts p q = some (decide (p = q)) := by
  unfold spec_l5SameTexts
  refine same_list (spec_l5SameTexts_L1 p q) (fun k => by rw [spec_l5SameTexts_L1, if_neg (by simp)]) (fun k i h h2 => ?_) (by omega)
  rw [spec_l5SameTexts_L1, if_pos (by simp; omega), idx_lt h, idx_lt h2, wrap_succ (by omega)]
  by_cases e : p[i] = q[i] <;> simp [e]
theorem implTexts {p q : List (List UInt8)} (hp : p.length ≤ 1048576) : lib_slices_Equal___string_string_ p q = some (decide (p = q)) := by
  unfold lib_slices_Equal___string_string_
  refine same_list (lib_slices_Equal___string_string__L1 p q) (fun k => by rw [lib_slices_Equal___string_string__L1, if_neg (by simp)]) (fun k i h h2 => ?_) (by omega)
  rw [lib_slices_Equal___string_string__L1, if_pos (by simp; omega), idx_lt h, idx_lt h2, wrap_succ (by omega)]
  by_cases e : p[i] = q[i] <;> simp [e]
theorem pair_eq (a b : Timpl_Pair) : (a.Truth_ == b.Truth_ && (a.Said_ == b.Said_ && true)) = decide (a = b) := by
  cases a; cases b; rw [Bool.eq_iff_iff]; simp
theorem implPairs {p q : List Timpl_Pair} (hp : p.length ≤ 1048576) : lib_slices_Equal___impl_Pair_impl_Pair_ p q = some (decide (p = q)) := by
  unfold lib_slices_Equal___impl_Pair_impl_Pair_
  refine same_list (lib_slices_Equal___impl_Pair_impl_Pair__L1 p q) (fun k => by rw [lib_slices_Equal___impl_Pair_impl_Pair__L1, if_neg (by simp)]) (fun k i h h2 => ?_) (by omega)
  rw [lib_slices_Equal___impl_Pair_impl_Pair__L1, if_pos (by simp; omega), idx_lt h, idx_lt h2, wrap_succ (by omega)]
  simp only [Option.bind_some, pair_eq]
  by_cases e : p[i] = q[i] <;> simp [e]
/-! attributes, schemas -/
theorem attr_eq (a b : Timpl_Attr) : decide (a = b) = (decide (a.Name_ = b.Name_) && decide (a.Cuts_ = b.Cuts_) && decide (a.Values_ = b.Values_)) := by
  cases a; cases b; rw [Bool.eq_iff_iff]; simp [and_assoc]
theorem implAttr {a b : Timpl_Attr} (ha : sml_Attr a) : impl_SchemaSame_1 a b = some (decide (a = b)) := by
  obtain ⟨_, h1, h2⟩ := ha
  unfold impl_SchemaSame_1
  rw [implInts h1.1, implTexts h2.1, attr_eq]
  by_cases e1 : a.Name_ = b.Name_ <;> by_cases e2 : a.Cuts_ = b.Cuts_ <;> simp [e1, e2]
theorem implSchema {a b : Timpl_Schema} (ha : sml_Schema a) : impl_SchemaSame a b = some (decide (a.Attrs_ = b.Attrs_) && decide (a.Classes_ = b.Classes_)) := by
  obtain ⟨h1, h2⟩ := ha
  have hl := h1.1
  have h : lib_slices_EqualFunc___impl_Attr___impl_Attr_impl_Attr_impl_Attr___impl_SchemaSame_1 a.Attrs_ b.Attrs_ = some (decide (a.Attrs_ = b.Attrs_)) := by
    unfold lib_slices_EqualFunc___impl_Attr___impl_Attr_impl_Attr_impl_Attr___impl_SchemaSame_1
    refine same_list (lib_slices_EqualFunc___impl_Attr___impl_Attr_impl_Attr_impl_Attr___impl_SchemaSame_1_L1 a.Attrs_ b.Attrs_) (fun k => by rw [lib_slices_EqualFunc___impl_Attr___impl_Attr_impl_Attr_impl_Attr___impl_SchemaSame_1_L1, if_neg (by simp)]) (fun k i h h2 => ?_) (by omega)
    rw [lib_slices_EqualFunc___impl_Attr___impl_Attr_impl_Attr_impl_Attr___impl_SchemaSame_1_L1, if_pos (by simp; omega), idx_lt h, idx_lt h2, wrap_succ (by omega)]
    simp only [Option.bind_some]
    rw [implAttr (h1.2 _ (List.getElem_mem h))]
    by_cases e : a.Attrs_[i] = b.Attrs_[i] <;> simp [e]
  unfold impl_SchemaSame
  rw [h, implTexts h2.1]
  by_cases e1 : a.Classes_ = b.Classes_ <;> simp [e1]
theorem specSchema' {a b : Timpl_Schema} (ha : sml_Schema a) : spec_SchemaSame a b = some (decide (a.Attrs_ = b.Attrs_) && decide (a.Classes_ = b.Classes_)) := by
  obtain ⟨h1, h2⟩ := ha
  have hl := h1.1
  have h := same_list (p := a.Attrs_) (q := b.Attrs_) (spec_SchemaSame_L1 a b) (fun k => by rw [spec_SchemaSame_L1, if_neg (by simp)]) (fun k i h h2 => by
    have hg := h1.2 _ (List.getElem_mem h)
    rw [spec_SchemaSame_L1, if_pos (by simp; omega), idx_lt h, idx_lt h2, wrap_succ (by omega)]
    simp only [Option.bind_some]
    rw [specInts hg.2.1.1, specTexts hg.2.2.1]
    simp only [Option.bind_some]
    have := attr_eq a.Attrs_[i] b.Attrs_[i]
    by_cases e1 : a.Attrs_[i].Name_ = b.Attrs_[i].Name_ <;> by_cases e2 : a.Attrs_[i].Cuts_ = b.Attrs_[i].Cuts_ <;> by_cases e3 : a.Attrs_[i].Values_ = b.Attrs_[i].Values_ <;> simp only [e1, e2, e3, decide_true, decide_false, Bool.and_true, Bool.and_false, Bool.true_and, Bool.false_and, decide_eq_true_eq, decide_eq_false_iff_not] at this <;> simp [e1, e2, e3, this]) (by omega)
  unfold spec_SchemaSame
  rw [specTexts h2.1]
  by_cases hl : a.Attrs_.length = b.Attrs_.length
  · rw [if_neg (by simp [hl])] at h ⊢
    rw [h]
    by_cases e1 : a.Classes_ = b.Classes_ <;> simp [e1]
  · have : ¬ a.Attrs_ = b.Attrs_ := fun e => hl (by rw [e])
    rw [if_pos (by simp; omega)]
    simp [this]
theorem conf_same {a b : Timpl_Conf} (ha : sml_Conf a) : spec_ConfSame a b = impl_ConfSame a b := by
  unfold spec_ConfSame impl_ConfSame
  rw [specSchema' ha.1, implSchema ha.1]
/-! lists of lists, trees, windows -/
theorem implLists {a b : List (List Int)} (ha : sml_IntSS a) : impl_sameLists a b = some (decide (a = b)) := by
  have hl := ha.1
  have h : lib_slices_EqualFunc_____int_____int___int___int___impl_sameLists_1 a b = some (decide (a = b)) := by
    unfold lib_slices_EqualFunc_____int_____int___int___int___impl_sameLists_1
    refine same_list (lib_slices_EqualFunc_____int_____int___int___int___impl_sameLists_1_L1 a b) (fun k => by rw [lib_slices_EqualFunc_____int_____int___int___int___impl_sameLists_1_L1, if_neg (by simp)]) (fun k i h h2 => ?_) (by omega)
    rw [lib_slices_EqualFunc_____int_____int___int___int___impl_sameLists_1_L1, if_pos (by simp; omega), idx_lt h, idx_lt h2, wrap_succ (by omega)]
    unfold impl_sameLists_1
    simp only [Option.bind_some]
    rw [implInts (ha.2 _ (List.getElem_mem h)).1]
    by_cases e : a[i] = b[i] <;> simp [e]
  unfold impl_sameLists
  rw [h]
  rfl
theorem specCells {p q : List (List Int)} (ha : sml_IntSS p) (Lp : Nat → Int → Option Bool) (hz : ∀ k, Lp (k + 1) (p.length : Int) = some true)
    (hs : ∀ k (i : Nat) (h : i < p.length) (h2 : i < q.length), Lp (k + 1) (i : Int) = (spec_l5SameInts p[i] q[i]).bind fun y => if (!y) then some false else Lp k ((i + 1 : Nat) : Int)) :
    (if ((p.length : Int) != (q.length : Int)) = true then some false else Lp Fuel 0) = some (decide (p = q)) := by
  have hl := ha.1
  refine same_list Lp hz (fun k i h h2 => ?_) (by omega)
  rw [hs k i h h2, specInts (ha.2 _ (List.getElem_mem h)).1]
  by_cases e : p[i] = q[i] <;> simp [e]
theorem specStats {a b : Timpl_Stats} (ha : sml_Stats a) : spec_StatsSame a b = some (decide (a.Totals_ = b.Totals_) && decide (a.Cells_ = b.Cells_)) := by
  obtain ⟨h1, h2⟩ := ha
  have hl := h2.1
  have h := specCells (p := a.Cells_) (q := b.Cells_) h2 (spec_StatsSame_L1 a b) (fun k => by rw [spec_StatsSame_L1, if_neg (by simp)]) (fun k i h h2 => by
    rw [spec_StatsSame_L1, if_pos (by simp; omega), idx_lt h, idx_lt h2, wrap_succ (by omega)]
    rfl)
  unfold spec_StatsSame
  rw [specInts h1.1]
  simp only [Option.bind_some]
  by_cases e1 : a.Totals_ = b.Totals_
  · simp only [e1, decide_true, Bool.not_true, Bool.false_or, Bool.true_and]
    exact h
  · simp [e1]
theorem implStats {a b : Timpl_Stats} (ha : sml_Stats a) : impl_StatsSame a b = some (decide (a.Totals_ = b.Totals_) && decide (a.Cells_ = b.Cells_)) := by
  obtain ⟨h1, h2⟩ := ha
  unfold impl_StatsSame
  rw [implInts h1.1, implLists h2]
  by_cases e1 : a.Totals_ = b.Totals_ <;> simp [e1]
theorem and_some (c y : Bool) : (if c = true then some y else some false : Option Bool) = some (c && y) := by cases c <;> rfl
theorem node_same {a b : Timpl_Node} (ha : sml_Node a) : ∃ c, spec_NodeSame a b = some c ∧ impl_NodeSame a b = some c ∧ (c = true ↔ a = b) := by
  obtain ⟨_, _, h1, _, h2, _, h3, _⟩ := ha
  unfold spec_NodeSame impl_NodeSame
  rw [specInts h1.1, implInts h1.1, specStats h2, implStats h2, specInts h3.1, implInts h3.1]
  simp only [Option.bind_some, and_some]
  refine ⟨_, rfl, rfl, ?_⟩
  clear h1 h2 h3
  obtain ⟨a1, ⟨a2, a3⟩, a4, a5, ⟨a6, a7⟩, a8, a9, a10, a11, a12⟩ := a
  obtain ⟨b1, ⟨b2, b3⟩, b4, b5, ⟨b6, b7⟩, b8, b9, b10, b11, b12⟩ := b
  simp [and_assoc]
theorem specTree' {a b : Timpl_Tree} (ha : sml_Tree a) : spec_TreeSame a b = some (decide (a = b)) ∧ impl_TreeSame a b = some (decide (a = b)) := by
  obtain ⟨h1, _⟩ := ha
  have hl := h1.1
  have hd : decide (a = b) = (decide (a.Nodes_ = b.Nodes_) && decide (a.Seen_ = b.Seen_)) := by
    cases a; cases b; rw [Bool.eq_iff_iff]; simp
  have e1 := same_list (p := a.Nodes_) (q := b.Nodes_) (spec_TreeSame_L1 a b) (fun k => by rw [spec_TreeSame_L1, if_neg (by simp)]) (fun k i h h2 => by
    obtain ⟨c, c1, _, c3⟩ := node_same (b := b.Nodes_[i]) (h1.2 _ (List.getElem_mem h))
    rw [spec_TreeSame_L1, if_pos (by simp; omega), idx_lt h, idx_lt h2, wrap_succ (by omega)]
    simp only [Option.bind_some]
    rw [c1]
    cases c
    · rw [if_neg (fun e => by have := c3.2 e; cases this)]; rfl
    · rw [if_pos (c3.1 rfl)]; rfl) (by omega)
  have e2 : lib_slices_EqualFunc___impl_Node___impl_Node_impl_Node_impl_Node___impl_NodeSame a.Nodes_ b.Nodes_ = some (decide (a.Nodes_ = b.Nodes_)) := by
    unfold lib_slices_EqualFunc___impl_Node___impl_Node_impl_Node_impl_Node___impl_NodeSame
    refine same_list (lib_slices_EqualFunc___impl_Node___impl_Node_impl_Node_impl_Node___impl_NodeSame_L1 a.Nodes_ b.Nodes_) (fun k => by rw [lib_slices_EqualFunc___impl_Node___impl_Node_impl_Node_impl_Node___impl_NodeSame_L1, if_neg (by simp)]) (fun k i h h2 => ?_) (by omega)
    obtain ⟨c, _, c2, c3⟩ := node_same (b := b.Nodes_[i]) (h1.2 _ (List.getElem_mem h))
    rw [lib_slices_EqualFunc___impl_Node___impl_Node_impl_Node_impl_Node___impl_NodeSame_L1, if_pos (by simp; omega), idx_lt h, idx_lt h2, wrap_succ (by omega)]
    simp only [Option.bind_some]
    rw [c2]
    cases c
    · rw [if_neg (fun e => by have := c3.2 e; cases this)]; rfl
    · rw [if_pos (c3.1 rfl)]; rfl
  rw [hd]
  constructor
  · unfold spec_TreeSame
    by_cases c : a.Seen_ = b.Seen_
    · simp only [c, bne_self_eq_false, Bool.or_false, decide_true, Bool.and_true]
      exact e1
    · simp [c]
  · unfold impl_TreeSame
    rw [e2]
    by_cases c : a.Seen_ = b.Seen_ <;> simp [c]
theorem window_same {a b : Timpl_Window} (ha : sml_Window a) : spec_WindowSame a b = some (decide (a = b)) ∧ impl_WindowSame a b = some (decide (a = b)) := by
  have h2 : sml_IntSS a.Rows_ := ha
  have hl := h2.1
  have hd : decide (a = b) = decide (a.Rows_ = b.Rows_) := by
    cases a; cases b; rw [Bool.eq_iff_iff]; simp
  rw [hd]
  constructor
  · unfold spec_WindowSame
    exact specCells (p := a.Rows_) (q := b.Rows_) h2 (spec_WindowSame_L1 a b) (fun k => by rw [spec_WindowSame_L1, if_neg (by simp)]) (fun k i h h2 => by
      rw [spec_WindowSame_L1, if_pos (by simp; omega), idx_lt h, idx_lt h2, wrap_succ (by omega)]
      rfl)
  · unfold impl_WindowSame
    rw [implLists h2]
    rfl
theorem det_same {a b : Timpl_Det} (ha : sml_Det a) : spec_DetSame a b = impl_DetSame a b ∧ ∃ c, impl_DetSame a b = some c ∧ (c = true ↔ a = b) := by
  obtain ⟨h1, h2⟩ := ha
  unfold spec_DetSame impl_DetSame
  rw [(window_same h1).1, (window_same h2).1, (window_same h1).2, (window_same h2).2]
  refine ⟨rfl, decide (a.Warn_ = b.Warn_) && decide (a.Drift_ = b.Drift_), ?_, ?_⟩
  · by_cases e : a.Warn_ = b.Warn_ <;> simp [e]
  · cases a; cases b; simp
theorem member_same {a b : Timpl_Member} (ha : sml_Member a) : spec_MemberSame a b = impl_MemberSame a b ∧ ∃ c, impl_MemberSame a b = some c ∧ (c = true ↔ a = b) := by
  obtain ⟨h1, _, h2, h3⟩ := ha
  obtain ⟨d1, c, d2, d3⟩ := det_same (b := b.Det_) h3
  unfold spec_MemberSame impl_MemberSame
  rw [(specTree' h1).1, (specTree' h2).1, (specTree' h1).2, (specTree' h2).2, d1, d2]
  refine ⟨rfl, decide (a.Tree_ = b.Tree_) && decide (a.HasYoung_ = b.HasYoung_) && decide (a.Young_ = b.Young_) && c, ?_, ?_⟩
  · by_cases e1 : a.Tree_ = b.Tree_ <;> by_cases e2 : a.HasYoung_ = b.HasYoung_ <;> by_cases e3 : a.Young_ = b.Young_ <;> simp [e1, e2, e3]
  · cases a; cases b; simp [d3, and_assoc]
theorem forest_same {a b : Timpl_Forest} (ha : sml_Forest a) : spec_ForestSame a b = impl_ForestSame a b ∧ ∃ c, impl_ForestSame a b = some c := by
  have h1 : sml_MemberS a.Members_ := ha
  have hl := h1.1
  have e1 := same_list (p := a.Members_) (q := b.Members_) (spec_ForestSame_L1 a b) (fun k => by rw [spec_ForestSame_L1, if_neg (by simp)]) (fun k i h h2 => by
    obtain ⟨c0, c, c1, c3⟩ := member_same (b := b.Members_[i]) (h1.2 _ (List.getElem_mem h))
    rw [spec_ForestSame_L1, if_pos (by simp; omega), idx_lt h, idx_lt h2, wrap_succ (by omega)]
    simp only [Option.bind_some]
    rw [c0, c1]
    cases c
    · rw [if_neg (fun e => by have := c3.2 e; cases this)]; rfl
    · rw [if_pos (c3.1 rfl)]; rfl) (by omega)
  have e2 : lib_slices_EqualFunc___impl_Member___impl_Member_impl_Member_impl_Member___impl_MemberSame a.Members_ b.Members_ = some (decide (a.Members_ = b.Members_)) := by
    unfold lib_slices_EqualFunc___impl_Member___impl_Member_impl_Member_impl_Member___impl_MemberSame
    refine same_list (lib_slices_EqualFunc___impl_Member___impl_Member_impl_Member_impl_Member___impl_MemberSame_L1 a.Members_ b.Members_) (fun k => by rw [lib_slices_EqualFunc___impl_Member___impl_Member_impl_Member_impl_Member___impl_MemberSame_L1, if_neg (by simp)]) (fun k i h h2 => ?_) (by omega)
    obtain ⟨c0, c, c2, c3⟩ := member_same (b := b.Members_[i]) (h1.2 _ (List.getElem_mem h))
    rw [lib_slices_EqualFunc___impl_Member___impl_Member_impl_Member_impl_Member___impl_MemberSame_L1, if_pos (by simp; omega), idx_lt h, idx_lt h2, wrap_succ (by omega)]
    simp only [Option.bind_some]
    rw [c2]
    cases c
    · rw [if_neg (fun e => by have := c3.2 e; cases this)]; rfl
    · rw [if_pos (c3.1 rfl)]; rfl
  unfold impl_ForestSame spec_ForestSame
  rw [e2, e1]
  exact ⟨rfl, _, rfl⟩
theorem score_same {a b : Timpl_Score} (ha : sml_Score a) : spec_ScoreSame a b = impl_ScoreSame a b ∧ ∃ c, impl_ScoreSame a b = some c := by
  obtain ⟨h1, h2⟩ := ha
  have hl := h1.1
  have hl2 := h2.1
  have e2 := same_list (p := a.Last_) (q := b.Last_) (spec_ScoreSame_L2 a b) (fun k => by rw [spec_ScoreSame_L2, if_neg (by simp)]) (fun k i h h2 => by
    rw [spec_ScoreSame_L2, if_pos (by simp; omega), idx_lt h, idx_lt h2, wrap_succ (by omega)]
    simp only [Option.bind_some, pair_eq]
    by_cases e : a.Last_[i] = b.Last_[i] <;> simp [e]) (by omega)
  unfold impl_ScoreSame spec_ScoreSame
  rw [implLists h1, implPairs h2.1]
  refine ⟨?_, decide (a.Table_ = b.Table_) && decide (a.Last_ = b.Last_), by by_cases e : a.Table_ = b.Table_ <;> simp [e]⟩
  by_cases c1 : a.Table_.length = b.Table_.length
  · by_cases c2 : a.Last_.length = b.Last_.length
    · rw [if_neg (by simp [c1, c2])]
      rw [if_neg (by simp [c2])] at e2
      have h := if_idx (Lp := fun k i => spec_ScoreSame_L1 a b k (i : Int)) (n := a.Table_.length) (Q := fun i => ∀ (h : i < a.Table_.length) (h2 : i < b.Table_.length), a.Table_[i] = b.Table_[i]) (fin := some (decide (a.Last_ = b.Last_))) (bad := some false) (fun k _ => by
        show spec_ScoreSame_L1 a b (k + 1) _ = _
        rw [spec_ScoreSame_L1, if_neg (by simp), e2]) (fun k i hi _ => by
        show (_ ∧ spec_ScoreSame_L1 a b (k + 1) _ = spec_ScoreSame_L1 a b k _) ∨ (_ ∧ spec_ScoreSame_L1 a b (k + 1) _ = _)
        have hi2 : i < b.Table_.length := by omega
        rw [spec_ScoreSame_L1, if_pos (by simp; omega), idx_lt hi, idx_lt hi2, wrap_succ (by omega)]
        simp only [Option.bind_some]
        rw [specInts (h1.2 _ (List.getElem_mem hi)).1]
        by_cases e : a.Table_[i] = b.Table_[i]
        · exact .inl ⟨fun _ _ => e, by simp [e]⟩
        · exact .inr ⟨fun g => e (g hi hi2), by simp [e]⟩) (by omega)
      rcases h with ⟨g1, g2⟩ | ⟨g1, g2⟩
      · have : a.Table_ = b.Table_ := List.ext_getElem c1 (fun i x y => g1 i x x y)
        have g2 : spec_ScoreSame_L1 a b Fuel 0 = _ := g2
        rw [g2]
        simp [this]
      · have : ¬ a.Table_ = b.Table_ := fun e => g1 (fun i hi x y => by simp only [e])
        have g2 : spec_ScoreSame_L1 a b Fuel 0 = _ := g2
        rw [g2]
        simp [this]
    · have : ¬ a.Last_ = b.Last_ := fun e => c2 (by rw [e])
      rw [if_pos (by simp; omega)]
      by_cases e : a.Table_ = b.Table_ <;> simp [e, this]
  · have : ¬ a.Table_ = b.Table_ := fun e => c1 (by rw [e])
    rw [if_pos (by simp; omega)]
    simp [this]
theorem state_same {a b : Timpl_State} (ha : sml_State a) : ∃ m, spec_StateSame a b = some m ∧ impl_StateSame a b = some m := by
  obtain ⟨h1, h2, h3⟩ := ha
  obtain ⟨f1, c1, f2⟩ := forest_same (b := b.Forest_) h2
  obtain ⟨s1, c2, s2⟩ := score_same (b := b.Score_) h3
  have hc : ∃ c, impl_ConfSame a.Conf_ b.Conf_ = some c := by
    unfold impl_ConfSame
    rw [implSchema h1.1]
    exact ⟨_, rfl⟩
  obtain ⟨c0, hc⟩ := hc
  unfold spec_StateSame impl_StateSame
  rw [conf_same h1, f1, s1, f2, s2, hc]
  cases c0 <;> cases c1 <;> exact ⟨_, rfl, rfl⟩
end Go.Vk
