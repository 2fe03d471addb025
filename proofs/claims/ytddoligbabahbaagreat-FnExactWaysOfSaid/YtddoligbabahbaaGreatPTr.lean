/- Attributes' places, branches, nodes, trees: tested alike. -/
import Derived.Test.YtddoligbabahbaaGreatPFk
namespace Go.Vk
def Asc (l : List Int) : Prop := ∀ i, 1 ≤ i → i < l.length → ∀ h : i < l.length, l[i - 1] < l[i]
theorem asc_ok {l : List Int} (hl : l.length ≤ 1048576) : Dec (impl_ascending l) (Asc l) := by
  unfold impl_ascending
  refine all_idx (Lp := impl_ascending_L1 l) (n := l.length) (Q := fun i => ∀ h : i < l.length, l[i - 1] < l[i]) 1 (fun k i hi => ?_) (fun k i h1 hi => ?_) (by omega)
  · show (if _ then _ else _) = _
    rw [if_neg (by simp; omega)]
  · rw [impl_ascending_L1]
    rw [if_pos (by simp; omega), idx_lt hi, wrap_succ (by omega), wrap_id (by omega) (by omega), show (i : Int) - 1 = ((i - 1 : Nat) : Int) by omega, idx_lt (show i - 1 < l.length by omega)]
    simp only [Option.bind_some]
    by_cases hc : l[i] ≤ l[i - 1]
    · rw [if_pos (by simpa using hc)]
      exact .inr ⟨fun g => by have := g hi; omega, rfl⟩
    · rw [if_neg (by simpa using hc)]
      exact .inl ⟨fun _ => by omega, rfl⟩
theorem Asc.le {l : List Int} (h : Asc l) : ∀ {j : Nat} (i : Nat) (hi : i ≤ j) (hj : j < l.length), l[i] ≤ l[j]
  | 0, i, hi, hj => by
    have : i = 0 := by omega
    subst this; exact Int.le_refl _
  | j + 1, i, hi, hj => by
    by_cases e : i = j + 1
    · subst e; exact Int.le_refl _
    · have h1 := h.le (j := j) i (by omega) (by omega)
      have h2 := h (j + 1) (by omega) hj hj
      simp only [Nat.add_sub_cancel] at h2
      omega
def AttrsP (s : Timpl_Schema) (l : List Int) : Prop := SchemaP s ∧ l.length ≠ 0 ∧ ∀ i, 0 ≤ i → i < l.length → ∀ h : i < l.length, (0 ≤ l[i] ∧ l[i] ≤ (s.Attrs_.length : Int) - 1) ∧ (0 < i → l[i - 1] < l[i])
theorem specAttrs {s : Timpl_Schema} {l : List Int} (hs : sml_Schema s) (hl : l.length ≤ 1048576) : Dec (spec_AttrsOk s l) (AttrsP s l) := by
  unfold spec_AttrsOk AttrsP
  refine dec_bind (specSchema (okS_of hs)) (fun hS => ?_) (fun g => dec_f fun h => g h.1)
  have hn := hs.1.1
  by_cases h0 : l.length = 0
  · rw [if_pos (by simp; exact List.length_eq_zero_iff.1 h0)]
    exact dec_f fun g => g.2.1 h0
  · rw [if_neg (by simp; exact fun e => h0 (by rw [e]; rfl))]
    refine (all_idx (Lp := spec_AttrsOk_L1 l s) (n := l.length) (Q := fun i => ∀ h : i < l.length, (0 ≤ l[i] ∧ l[i] ≤ (s.Attrs_.length : Int) - 1) ∧ (0 < i → l[i - 1] < l[i])) 0 (fun k i hi => ?_) (fun k i _ hi => ?_) (by omega)).of_iff ⟨fun g => ⟨hS, h0, g⟩, fun g => g.2.2⟩
    · show (if _ then _ else _) = _
      rw [if_neg (by simp; omega)]
    · rw [spec_AttrsOk_L1, if_pos (by simp; omega), idx_lt hi, wrap_succ (by omega), wrap_id (n := (s.Attrs_.length : Int) - 1) (by omega) (by omega)]
      unfold spec_l1In
      simp only [Option.bind_some]
      by_cases hr : 0 ≤ l[i] ∧ l[i] ≤ (s.Attrs_.length : Int) - 1
      · rw [in_t hr]
        simp only [Bool.not_true, Bool.false_eq_true, if_false]
        by_cases h1 : 0 < i
        · rw [if_pos (by simp; omega), wrap_id (n := (i : Int) - 1) (by omega) (by omega), show (i : Int) - 1 = ((i - 1 : Nat) : Int) by omega, idx_lt (show i - 1 < l.length by omega)]
          simp only [Option.bind_some]
          by_cases hc : l[i] ≤ l[i - 1]
          · rw [if_pos (by simpa using hc)]
            exact .inr ⟨fun g => by have := (g hi).2 h1; omega, rfl⟩
          · rw [if_neg (by simpa using hc)]
            exact .inl ⟨fun _ => ⟨hr, fun _ => by omega⟩, rfl⟩
        · rw [if_neg (by simp; omega)]
          exact .inl ⟨fun _ => ⟨hr, fun g => absurd g h1⟩, rfl⟩
      · rw [in_f hr]
        exact .inr ⟨fun g => hr (g hi).1, rfl⟩
theorem implAttrs {s : Timpl_Schema} {l : List Int} (hs : sml_Schema s) (hl : l.length ≤ 1048576) : Dec (impl_AttrsOk s l) (AttrsP s l) := by
  unfold impl_AttrsOk AttrsP
  refine dec_bind (implSchema (okS_of hs)) (fun hS => ?_) (fun g => dec_f fun h => g h.1)
  have hn := hs.1.1
  by_cases h0 : l.length = 0
  · rw [if_neg (by simp; exact List.length_eq_zero_iff.1 h0)]
    exact dec_f fun g => g.2.1 h0
  · rw [if_pos (by simp only [Bool.and_eq_true, decide_eq_true_eq, eq_self, true_and]; omega)]
    rcases (asc_ok hl).cases with ⟨e, hA⟩ | ⟨e, hA⟩
    · rw [e]
      simp only [Option.bind_some, if_true]
      rw [show (0 : Int) = ((0 : Nat) : Int) from rfl, idx_lt (show 0 < l.length by omega), wrap_id (by omega) (by omega), show (l.length : Int) - 1 = ((l.length - 1 : Nat) : Int) by omega, idx_lt (show l.length - 1 < l.length by omega)]
      simp only [Option.bind_some]
      by_cases h1 : 0 ≤ l[0]
      · rw [if_pos (by simpa using h1)]
        refine ⟨_, rfl, ?_⟩
        rw [decide_eq_true_iff]
        refine ⟨fun g => ⟨hS, h0, fun i _ hi _ => ⟨⟨?_, ?_⟩, fun hp => hA i hp hi hi⟩⟩, fun g => ?_⟩
        · exact Int.le_trans h1 (hA.le 0 (Nat.zero_le _) hi)
        · have := hA.le (j := l.length - 1) i (by omega) (by omega); omega
        · have := (g.2.2 (l.length - 1) (Nat.zero_le _) (by omega) (by omega)).1; omega
      · rw [if_neg (by simpa using h1)]
        exact dec_f fun g => h1 (g.2.2 0 (Nat.zero_le _) (by omega) (by omega)).1.1
    · rw [e]
      exact dec_f fun g => hA fun i h1 hi _ => (g.2.2 i (Nat.zero_le _) hi hi).2 h1
theorem specTotal {s : Timpl_Schema} {t : Timpl_Stats} (hs : sml_Schema s) (ht : sml_Stats t) (h : StatsP s t) : spec_StatsTotal s t = some t.Totals_.sum := by
  unfold spec_StatsTotal
  rcases (specStats hs ht).cases with ⟨e, _⟩ | ⟨_, g⟩
  · rw [e]
    simp only [Option.bind_some, Bool.not_true, Bool.false_eq_true, if_false]
    have h1 := sum_loop (p := t.Totals_) (fun x => x) (spec_StatsTotal_L1 t) some (fun k s => by
      show (if _ then _ else _) = _
      rw [if_neg (by simp)]) (fun k s i hi => by
      have := ht.1.1
      rw [spec_StatsTotal_L1, if_pos (by simp; omega), idx_lt hi, wrap_succ (by omega)]
      rfl) (fun x hx => by have := h.2.2.1 x hx; omega) (by have := ht.1.1; omega)
    simpa using h1
  · exact absurd h g
/-- how many branches a fork has -/
def brN (s : Timpl_Schema) (f : Timpl_Fork) : Nat := if f.At_ = -1 then nb (atr s f) else 2
theorem brN_b {s : Timpl_Schema} {f : Timpl_Fork} (h : ForkP s f) : 2 ≤ brN s f ∧ brN s f ≤ 4 := by
  have := nb_b (atr_ok h.1 h.2.1)
  unfold brN
  split <;> omega
theorem specBranches {s : Timpl_Schema} {f : Timpl_Fork} (hs : sml_Schema s) (h : ForkP s f) : spec_Branches s f = some (brN s f : Int) := by
  unfold spec_Branches brN
  rcases (specFork (f := f) hs).cases with ⟨e, _⟩ | ⟨_, g⟩
  · rw [e]
    simp only [Option.bind_some, Bool.not_true, Bool.false_eq_true, if_false]
    rw [idx_atr h.2.1]
    simp only [Option.bind_some]
    rw [specBins (hs.1.2 _ (atr_mem h.2.1)) (atr_ok h.1 h.2.1)]
    by_cases h1 : f.At_ = -1
    · rw [if_pos (by simpa using h1), if_pos h1]; rfl
    · rw [if_neg (by simpa using h1), if_neg h1]; rfl
  · exact absurd h g
theorem implBranches {s : Timpl_Schema} {f : Timpl_Fork} (hs : sml_Schema s) (h : ForkP s f) : impl_Branches s f = some (brN s f : Int) := by
  unfold impl_Branches brN
  rcases (implFork (f := f) hs).cases with ⟨e, _⟩ | ⟨_, g⟩
  · rw [e]
    simp only [Option.bind_some, Bool.not_true, Bool.false_eq_true, if_false]
    rw [idx_atr h.2.1]
    simp only [Option.bind_some]
    rw [implBins (hs.1.2 _ (atr_mem h.2.1))]
    by_cases h1 : f.At_ = -1
    · rw [if_pos (by simpa using h1), if_pos h1]; rfl
    · rw [if_neg (by simpa using h1), if_neg h1]; rfl
  · exact absurd h g
theorem implBranches0 {s : Timpl_Schema} {f : Timpl_Fork} (hs : sml_Schema s) (h : ¬ ForkP s f) : impl_Branches s f = some 0 := by
  unfold impl_Branches
  rcases (implFork (f := f) hs).cases with ⟨_, g⟩ | ⟨e, _⟩
  · exact absurd g h
  · rw [e]; rfl
/-! nodes -/
def KidP (t : Timpl_Tree) (i : Nat) (x : Int) : Prop := ∃ m : Nat, ∃ hm : m < t.Nodes_.length, x = m ∧ i < m ∧ t.Nodes_[m].Up_ = i
def LeafP (n : Timpl_Node) : Prop := (n.Fork_.Attr_ = 0 ∧ n.Fork_.At_ = 0) ∧ n.Kids_.length = 0 ∧ n.Miss_ = 0 ∧ (0 ≤ n.Since_ ∧ n.Since_ ≤ if n.Stats_.Cells_.length = 0 then 0 else n.Stats_.Totals_.sum)
def KidsP (t : Timpl_Tree) (i : Nat) (l : List Int) : Prop := Asc l ∧ ∀ x ∈ l, KidP t i x
def SplitP (s : Timpl_Schema) (t : Timpl_Tree) (i : Nat) (n : Timpl_Node) : Prop := ForkP s n.Fork_ ∧ n.Kids_.length = brN s n.Fork_ ∧ (0 ≤ n.Miss_ ∧ n.Miss_ ≤ (n.Kids_.length : Int) - 1) ∧ n.Stats_.Cells_.length = 0 ∧ n.Since_ = 0 ∧ KidsP t i n.Kids_
def SelfP (s : Timpl_Schema) (t : Timpl_Tree) (i : Nat) (n : Timpl_Node) : Prop := (0 ≤ n.Depth_ ∧ n.Depth_ ≤ 6) ∧ (0 ≤ n.Born_ ∧ n.Born_ ≤ t.Seen_) ∧ StatsP s n.Stats_ ∧ AttrsP s n.Attrs_ ∧ (n.Leaf_ = true → LeafP n) ∧ (n.Leaf_ = false → SplitP s t i n)
def LinkP (t : Timpl_Tree) (i : Nat) (n : Timpl_Node) : Prop := (i = 0 → n.Up_ = -1 ∧ n.Depth_ = 0 ∧ n.Born_ = 0) ∧
  (0 < i → ∃ u, ∃ _ : u < i, ∃ hu : u < t.Nodes_.length, n.Up_ = u ∧ t.Nodes_[u].Leaf_ = false ∧ (i : Int) ∈ t.Nodes_[u].Kids_ ∧ t.Nodes_[u].Depth_ + 1 = n.Depth_ ∧ t.Nodes_[u].Born_ ≤ n.Born_)
def NodeP (s : Timpl_Schema) (t : Timpl_Tree) (i : Nat) : Prop := ∀ h : i < t.Nodes_.length, SelfP s t i t.Nodes_[i] ∧ LinkP t i t.Nodes_[i]
def TreeP (s : Timpl_Schema) (t : Timpl_Tree) : Prop := SchemaP s ∧ (1 ≤ (t.Nodes_.length : Int) ∧ (t.Nodes_.length : Int) ≤ 31) ∧ (0 ≤ t.Seen_ ∧ t.Seen_ ≤ 99999) ∧ ∀ i, i < t.Nodes_.length → NodeP s t i
theorem kid_bad {t : Timpl_Tree} (hl : t.Nodes_.length ≤ 1048576) {i : Nat} (hi : i < t.Nodes_.length) (x : Int) : Dec (impl_nodeOk_1 x (i : Int) t) (¬ KidP t i x) := by
  unfold impl_nodeOk_1
  rw [wrap_succ (by omega), wrap_id (n := (t.Nodes_.length : Int) - 1) (by omega) (by omega)]
  rcases (dec_within (x := x) (a := ((i + 1 : Nat) : Int)) (b := (t.Nodes_.length : Int) - 1)).cases with ⟨e, hr⟩ | ⟨e, hr⟩
  · rw [e]
    simp only [Option.bind_some, Bool.not_true, Bool.false_eq_true, if_false]
    obtain ⟨m, rfl⟩ : ∃ m : Nat, x = m := ⟨x.toNat, by omega⟩
    have hm : m < t.Nodes_.length := by omega
    rw [idx_lt hm]
    simp only [Option.bind_some]
    refine ⟨_, rfl, ?_⟩
    rw [bne_iff_ne]
    refine ⟨fun g ⟨m', _, h1, _, h2⟩ => ?_, fun g h => g ⟨m, hm, rfl, by omega, h⟩⟩
    obtain rfl : m = m' := by omega
    exact g h2
  · rw [e]
    exact dec_t fun ⟨m, hm, h1, h2, _⟩ => hr ⟨by omega, by omega⟩
theorem kids_impl {t : Timpl_Tree} (hl : t.Nodes_.length ≤ 1048576) {i : Nat} (hi : i < t.Nodes_.length) {l : List Int} (hk : l.length ≤ 1048576) : Dec (lib_slices_ContainsFunc___int_int___impl_nodeOk_1 l (i : Int) t) (∃ x ∈ l, ¬ KidP t i x) := by
  unfold lib_slices_ContainsFunc___int_int___impl_nodeOk_1 lib_slices_IndexFunc___int_int___impl_nodeOk_1
  refine (find_idx (Lp := lib_slices_IndexFunc___int_int___impl_nodeOk_1_L1 l (i : Int) t) (n := l.length) (Q := fun j => ∀ h : j < l.length, ¬ KidP t i l[j]) (fun k j hj => ?_) (fun k j hj => ?_) (by omega)).of_iff ⟨fun ⟨j, hj, g⟩ => ⟨_, List.getElem_mem hj, g hj⟩, fun ⟨x, hx, g⟩ => ?_⟩
  · show (if _ then _ else _) = _
    rw [if_neg (by simp; omega)]
  · rw [lib_slices_IndexFunc___int_int___impl_nodeOk_1_L1, if_pos (by simp; omega), idx_lt hj, wrap_succ (by omega)]
    simp only [Option.bind_some]
    rcases (kid_bad hl hi l[j]).cases with ⟨e, h⟩ | ⟨e, h⟩
    · rw [e]; exact .inl ⟨fun _ => h, rfl⟩
    · rw [e]; exact .inr ⟨fun g => h (g hj), rfl⟩
  · obtain ⟨j, hj, rfl⟩ := List.getElem_of_mem hx
    exact ⟨j, hj, fun _ => g⟩
theorem implNode {s : Timpl_Schema} {t : Timpl_Tree} (hs : sml_Schema s) (ht : sml_Tree t) {i : Nat} (hi : i < t.Nodes_.length) : Dec (impl_nodeOk s t (i : Int)) (SelfP s t i t.Nodes_[i]) := by
  unfold impl_nodeOk
  have hl := ht.1.1
  rw [idx_lt hi]
  simp only [Option.bind_some]
  have hnd := ht.1.2 _ (List.getElem_mem hi)
  generalize t.Nodes_[i] = n at *
  have hkl : n.Kids_.length ≤ 1048576 := hnd.2.2.1.1
  have hst : sml_Stats n.Stats_ := hnd.2.2.2.2.1
  have hal : n.Attrs_.length ≤ 1048576 := hnd.2.2.2.2.2.2.1.1
  rcases (dec_within (x := n.Depth_) (a := 0) (b := 6)).cases with ⟨e, hd⟩ | ⟨e, hd⟩
  · rw [e]
    simp only [Option.bind_some, Bool.not_true, Bool.false_eq_true, if_false]
    rcases (dec_within (x := n.Born_) (a := 0) (b := t.Seen_)).cases with ⟨e, hb⟩ | ⟨e, hb⟩
    · rw [e]
      simp only [Option.bind_some, Bool.not_true, Bool.false_eq_true, if_false]
      rcases (implStats hs hst).cases with ⟨e, hS⟩ | ⟨e, hS⟩
      · rw [e]
        simp only [Option.bind_some, Bool.not_true, Bool.false_eq_true, if_false]
        rcases (implAttrs hs hal).cases with ⟨e, hA⟩ | ⟨e, hA⟩
        · rw [e]
          simp only [Option.bind_some, Bool.not_true, Bool.false_eq_true, if_false]
          by_cases hL : n.Leaf_ = true
          case neg =>
            have hL' : n.Leaf_ = false := by simpa using hL
            rw [if_neg hL]
            by_cases hF : ForkP s n.Fork_
            · have hbr := brN_b hF
              rw [implBranches hs hF]
              simp only [Option.bind_some]
              by_cases hk : n.Kids_.length = brN s n.Fork_
              · rw [if_neg (by simp; omega)]
                rcases (asc_ok hkl).cases with ⟨e, hAs⟩ | ⟨e, hAs⟩
                · rw [e]
                  simp only [Option.bind_some, Bool.not_true, Bool.false_eq_true, if_false]
                  rw [wrap_id (n := (brN s n.Fork_ : Int) - 1) (by omega) (by omega)]
                  rcases (dec_within (x := n.Miss_) (a := 0) (b := (brN s n.Fork_ : Int) - 1)).cases with ⟨e, hm⟩ | ⟨e, hm⟩
                  · rw [e]
                    simp only [Option.bind_some, Bool.not_true, Bool.false_or]
                    by_cases hc : n.Stats_.Cells_.length = 0 ∧ n.Since_ = 0
                    · rw [if_neg (by simp [hc.1, hc.2])]
                      rcases (kids_impl hl hi hkl).cases with ⟨e, x, hx, hK⟩ | ⟨e, hK⟩
                      · rw [e]
                        exact dec_f fun g => hK ((g.2.2.2.2.2 hL').2.2.2.2.2.2 x hx)
                      · rw [e]
                        exact dec_t ⟨hd, hb, hS, hA, fun g => absurd g hL, fun _ => ⟨hF, hk, by omega, hc.1, hc.2, hAs, fun x hx => Classical.byContradiction fun c => hK ⟨x, hx, c⟩⟩⟩
                    · rw [if_pos (by simp only [Bool.or_eq_true, bne_iff_ne, ne_eq]; omega)]
                      exact dec_f fun g => hc ⟨(g.2.2.2.2.2 hL').2.2.2.1, (g.2.2.2.2.2 hL').2.2.2.2.1⟩
                  · rw [e]
                    exact dec_f fun g => hm (by have := (g.2.2.2.2.2 hL').2.2.1; omega)
                · rw [e]
                  exact dec_f fun g => hAs (g.2.2.2.2.2 hL').2.2.2.2.2.1
              · rw [if_pos (by simp; omega)]
                exact dec_f fun g => hk (g.2.2.2.2.2 hL').2.1
            · rw [implBranches0 hs hF]
              exact dec_f fun g => hF (g.2.2.2.2.2 hL').1
          case pos =>
            rw [if_pos hL, total_of (fun x hx => by have := hS.2.2.1 x hx; omega) hst.1.1]
            simp only [Option.bind_some]
            have key : ∀ q : Int, q = (if n.Stats_.Cells_.length = 0 then 0 else n.Stats_.Totals_.sum) → Dec (impl_nodeOk_J1 n q) (SelfP s t i n) := fun q hq => by
              unfold impl_nodeOk_J1
              have hid : ∀ o : Option Bool, (o.bind fun y => some y) = o := fun o => by cases o <;> rfl
              by_cases hc : (n.Fork_.Attr_ = 0 ∧ n.Fork_.At_ = 0) ∧ n.Kids_.length = 0 ∧ n.Miss_ = 0
              · rw [if_pos (by simp [hc.1.1, hc.1.2, hc.2.1, hc.2.2]), hid, hid]
                exact dec_within.of_iff ⟨fun g => ⟨hd, hb, hS, hA, fun _ => ⟨hc.1, hc.2.1, hc.2.2, by rw [← hq]; exact g⟩, fun g => by rw [hL] at g; cases g⟩, fun g => by rw [hq]; exact (g.2.2.2.2.1 hL).2.2.2⟩
              · rw [if_neg (by simp only [Bool.and_eq_true, beq_iff_eq, Bool.and_true]; omega)]
                exact dec_f fun g => hc ⟨(g.2.2.2.2.1 hL).1, (g.2.2.2.2.1 hL).2.1, (g.2.2.2.2.1 hL).2.2.1⟩
            by_cases hc : n.Stats_.Cells_.length = 0
            · rw [if_pos (by simp; exact List.length_eq_zero_iff.1 hc)]
              exact key 0 (by rw [if_pos hc])
            · rw [if_neg (by simp; exact fun e => hc (by rw [e]; rfl))]
              exact key _ (by rw [if_neg hc])
        · rw [e]
          exact dec_f fun g => hA g.2.2.2.1
      · rw [e]
        exact dec_f fun g => hS g.2.2.1
    · rw [e]
      exact dec_f fun g => hb g.2.1
  · rw [e]
    exact dec_f fun g => hd g.1
theorem specLeaf {s : Timpl_Schema} {n : Timpl_Node} (hs : sml_Schema s) (hn : sml_Node n) : Dec (spec_l19Leaf s n) (LeafP n ∧ StatsP s n.Stats_ ∧ AttrsP s n.Attrs_) := by
  unfold spec_l19Leaf
  have hst : sml_Stats n.Stats_ := hn.2.2.2.2.1
  have hal : n.Attrs_.length ≤ 1048576 := hn.2.2.2.2.2.2.1.1
  by_cases hc : (n.Fork_.Attr_ = 0 ∧ n.Fork_.At_ = 0) ∧ n.Kids_.length = 0 ∧ n.Miss_ = 0
  · rw [if_neg (by simp only [Bool.or_eq_true, Bool.not_eq_true', bne_iff_ne, decide_eq_true_eq, ne_eq, Bool.and_true, Bool.and_eq_false_iff, beq_eq_false_iff_ne]; omega)]
    rcases (specStats hs hst).cases with ⟨e, hS⟩ | ⟨e, hS⟩
    · rw [e]
      simp only [Option.bind_some, Bool.not_true, Bool.false_eq_true, if_false]
      rcases (specAttrs hs hal).cases with ⟨e, hA⟩ | ⟨e, hA⟩
      · rw [e]
        simp only [Option.bind_some, Bool.not_true, Bool.false_eq_true, if_false]
        by_cases h0 : n.Stats_.Cells_.length = 0
        · rw [if_pos (by simp only [beq_iff_eq]; omega)]
          refine ⟨_, rfl, ?_⟩
          rw [beq_iff_eq]
          exact ⟨fun g => ⟨⟨hc.1, hc.2.1, hc.2.2, by rw [if_pos h0]; omega⟩, hS, hA⟩, fun g => by have := g.1.2.2.2; rw [if_pos h0] at this; omega⟩
        · rw [if_neg (by simp only [beq_iff_eq]; omega), specTotal hs hst hS]
          simp only [Option.bind_some]
          have hid : ∀ o : Option Bool, (o.bind fun y => some y) = o := fun o => by cases o <;> rfl
          rw [hid]
          exact dec_l1In.of_iff ⟨fun g => ⟨⟨hc.1, hc.2.1, hc.2.2, by rw [if_neg h0]; exact g⟩, hS, hA⟩, fun g => by have := g.1.2.2.2; rw [if_neg h0] at this; exact this⟩
      · rw [e]
        exact dec_f fun g => hA g.2.2
    · rw [e]
      exact dec_f fun g => hS g.2.1
  · rw [if_pos (by simp only [Bool.or_eq_true, Bool.not_eq_true', bne_iff_ne, decide_eq_true_eq, ne_eq, Bool.and_true, Bool.and_eq_false_iff, beq_eq_false_iff_ne]; omega)]
    exact dec_f fun g => hc ⟨g.1.1, g.1.2.1, g.1.2.2.1⟩
theorem specSplit {s : Timpl_Schema} {t : Timpl_Tree} (hs : sml_Schema s) (ht : sml_Tree t) {i : Nat} (hi : i < t.Nodes_.length) : Dec (spec_l19Split s t (i : Int)) (SplitP s t i t.Nodes_[i] ∧ StatsP s t.Nodes_[i].Stats_ ∧ AttrsP s t.Nodes_[i].Attrs_) := by
  unfold spec_l19Split
  have hl := ht.1.1
  rw [idx_lt hi]
  simp only [Option.bind_some]
  have hnd := ht.1.2 _ (List.getElem_mem hi)
  generalize t.Nodes_[i] = n at *
  have hkl : n.Kids_.length ≤ 1048576 := hnd.2.2.1.1
  have hst : sml_Stats n.Stats_ := hnd.2.2.2.2.1
  have hal : n.Attrs_.length ≤ 1048576 := hnd.2.2.2.2.2.2.1.1
  rcases (specFork (f := n.Fork_) hs).cases with ⟨e, hF⟩ | ⟨e, hF⟩
  · rw [e]
    simp only [Option.bind_some, Bool.not_true, Bool.false_eq_true, if_false]
    have hbr := brN_b hF
    rw [specBranches hs hF]
    simp only [Option.bind_some]
    by_cases hk : n.Kids_.length = brN s n.Fork_
    · rw [if_neg (by simp only [bne_iff_ne, ne_eq]; omega), wrap_id (n := (n.Kids_.length : Int) - 1) (by omega) (by omega)]
      rcases (dec_l1In (x := n.Miss_) (a := 0) (b := (n.Kids_.length : Int) - 1)).cases with ⟨e, hm⟩ | ⟨e, hm⟩
      · rw [e]
        simp only [Option.bind_some, Bool.not_true, Bool.false_eq_true, if_false]
        rcases (specStats hs hst).cases with ⟨e, hS⟩ | ⟨e, hS⟩
        · rw [e]
          simp only [Option.bind_some, Bool.not_true, Bool.false_or]
          by_cases hc : n.Stats_.Cells_.length = 0 ∧ n.Since_ = 0
          · rw [if_neg (by simp only [Bool.or_eq_true, bne_iff_ne, decide_eq_true_eq, ne_eq]; omega)]
            rcases (specAttrs hs hal).cases with ⟨e, hA⟩ | ⟨e, hA⟩
            · rw [e]
              simp only [Option.bind_some, Bool.not_true, Bool.false_eq_true, if_false]
              refine (all_idx (Lp := spec_l19Split_L1 n (i : Int) t) (n := n.Kids_.length) (Q := fun j => ∀ h : j < n.Kids_.length, KidP t i n.Kids_[j] ∧ (0 < j → n.Kids_[j - 1] < n.Kids_[j])) 0 (fun k j hj => ?_) (fun k j _ hj => ?_) (by omega)).of_iff
                ⟨fun g => ⟨⟨hF, hk, hm, hc.1, hc.2, fun j h1 hj _ => (g j (Nat.zero_le _) hj hj).2 h1, fun x hx => by
                  obtain ⟨j, hj, rfl⟩ := List.getElem_of_mem hx
                  exact (g j (Nat.zero_le _) hj hj).1⟩, hS, hA⟩, fun g j _ hj _ => ⟨g.1.2.2.2.2.2.2 _ (List.getElem_mem hj), fun h1 => g.1.2.2.2.2.2.1 j h1 hj hj⟩⟩
              · show (if _ then _ else _) = _
                rw [if_neg (by simp; omega)]
              · rw [spec_l19Split_L1, if_pos (by simp; omega), idx_lt hj]
                simp only [Option.bind_some]
                rw [wrap_succ (i := i) (by omega), wrap_id (n := (t.Nodes_.length : Int) - 1) (by omega) (by omega), wrap_succ (i := j) (by omega)]
                generalize hx : n.Kids_[j] = x
                rcases (dec_l1In (x := x) (a := ((i + 1 : Nat) : Int)) (b := (t.Nodes_.length : Int) - 1)).cases with ⟨e, hr⟩ | ⟨e, hr⟩
                · rw [e]
                  simp only [Option.bind_some, Bool.not_true, Bool.false_eq_true, if_false]
                  obtain ⟨m, rfl⟩ : ∃ m : Nat, x = m := ⟨x.toNat, by omega⟩
                  have hm : m < t.Nodes_.length := by omega
                  rw [idx_lt hm]
                  simp only [Option.bind_some]
                  by_cases hu : t.Nodes_[m].Up_ = (i : Int)
                  · rw [if_neg (by simp only [bne_iff_ne, ne_eq]; omega)]
                    have hK : KidP t i n.Kids_[j] := by rw [hx]; exact ⟨m, hm, rfl, by omega, hu⟩
                    by_cases h1 : 0 < j
                    · rw [if_pos (by simp; omega), wrap_id (n := (j : Int) - 1) (by omega) (by omega), show (j : Int) - 1 = ((j - 1 : Nat) : Int) by omega, idx_lt (show j - 1 < n.Kids_.length by omega)]
                      simp only [Option.bind_some]
                      by_cases hlt : n.Kids_[j] ≤ n.Kids_[j - 1]
                      · rw [if_pos (by rw [← hx]; simpa using hlt)]
                        exact .inr ⟨fun g => by have := (g hj).2 h1; omega, rfl⟩
                      · rw [if_neg (by rw [← hx]; simpa using hlt)]
                        exact .inl ⟨fun _ => ⟨hK, fun _ => by omega⟩, rfl⟩
                    · rw [if_neg (by simp; omega)]
                      exact .inl ⟨fun _ => ⟨hK, fun g => absurd g h1⟩, rfl⟩
                  · rw [if_pos (by simp only [bne_iff_ne, ne_eq]; omega)]
                    exact .inr ⟨fun g => by
                      obtain ⟨m', hm', g1, _, g2⟩ := (g hj).1
                      rw [hx] at g1
                      obtain rfl : m = m' := by omega
                      exact hu g2, rfl⟩
                · rw [e]
                  exact .inr ⟨fun g => by
                      obtain ⟨m', hm', g1, g3, g2⟩ := (g hj).1
                      rw [hx] at g1
                      exact hr ⟨by omega, by omega⟩, rfl⟩
            · rw [e]
              exact dec_f fun g => hA g.2.2
          · rw [if_pos (by simp only [Bool.or_eq_true, bne_iff_ne, decide_eq_true_eq, ne_eq]; omega)]
            exact dec_f fun g => hc ⟨g.1.2.2.2.1, g.1.2.2.2.2.1⟩
        · rw [e]
          exact dec_f fun g => hS g.2.1
      · rw [e]
        exact dec_f fun g => hm g.1.2.2.1
    · rw [if_pos (by simp only [bne_iff_ne, ne_eq]; omega)]
      exact dec_f fun g => hk g.1.2.1
  · rw [e]
    exact dec_f fun g => hF g.1.1
/-! trees -/
theorem contains_int {l : List Int} (hl : l.length ≤ 1048576) (x : Int) : Dec (lib_slices_Contains___int_int_ l x) (x ∈ l) := by
  unfold lib_slices_Contains___int_int_ lib_slices_Index___int_int_
  refine (find_idx (Lp := lib_slices_Index___int_int__L1 l x) (n := l.length) (Q := fun j => ∀ h : j < l.length, x = l[j]) (fun k j hj => ?_) (fun k j hj => ?_) (by omega)).of_iff ⟨fun ⟨j, hj, g⟩ => by rw [g hj]; exact List.getElem_mem hj, fun hx => ?_⟩
  · show (if _ then _ else _) = _
    rw [if_neg (by simp; omega)]
  · rw [lib_slices_Index___int_int__L1, if_pos (by simp; omega), idx_lt hj, wrap_succ (by omega)]
    simp only [Option.bind_some]
    by_cases h : x = l[j]
    · rw [if_pos (by simpa using h)]; exact .inl ⟨fun _ => h, rfl⟩
    · rw [if_neg (by simpa using h)]; exact .inr ⟨fun g => h (g hj), rfl⟩
  · obtain ⟨j, hj, rfl⟩ := List.getElem_of_mem hx
    exact ⟨j, hj, fun _ => rfl⟩
theorem among_int {l : List Int} (hl : l.length ≤ 1048576) (x : Int) : Dec (spec_l19Among l x) (x ∈ l) := by
  unfold spec_l19Among
  have h := if_idx (Lp := fun k j => spec_l19Among_L1 l x k (j : Int)) (n := l.length) (Q := fun j => ∀ h : j < l.length, l[j] ≠ x) (fin := some false) (bad := some true) (fun k _ => by
    show spec_l19Among_L1 l x (k + 1) _ = _
    rw [spec_l19Among_L1, if_neg (by simp)]) (fun k j hj _ => by
    show (_ ∧ spec_l19Among_L1 l x (k + 1) _ = spec_l19Among_L1 l x k _) ∨ (_ ∧ spec_l19Among_L1 l x (k + 1) _ = _)
    rw [spec_l19Among_L1, if_pos (by simp; omega), idx_lt hj, wrap_succ (by omega)]
    simp only [Option.bind_some]
    by_cases h : l[j] = x
    · rw [if_pos (by simpa using h)]; exact .inr ⟨fun g => g hj h, rfl⟩
    · rw [if_neg (by simpa using h)]; exact .inl ⟨fun _ => h, rfl⟩) (by omega)
  rcases h with ⟨h1, h2⟩ | ⟨h1, h2⟩
  · have h2 : spec_l19Among_L1 l x Fuel 0 = some false := h2
    rw [h2]
    exact dec_f fun hx => by
      obtain ⟨j, hj, e⟩ := List.getElem_of_mem hx
      exact h1 j hj hj e
  · have h2 : spec_l19Among_L1 l x Fuel 0 = some true := h2
    rw [h2]
    refine dec_t (Classical.byContradiction fun hx => h1 fun j hj _ e => hx ?_)
    rw [← e]; exact List.getElem_mem hj
theorem implTree {s : Timpl_Schema} {t : Timpl_Tree} (hs : sml_Schema s) (ht : sml_Tree t) : Dec (impl_TreeOk s t) (TreeP s t) := by
  unfold impl_TreeOk
  have hl := ht.1.1
  rcases (implSchema (okS_of hs)).cases with ⟨e, hS⟩ | ⟨e, hS⟩
  · rw [e]
    simp only [Option.bind_some, Bool.not_true, Bool.false_eq_true, if_false]
    rcases (dec_within (x := (t.Nodes_.length : Int)) (a := 1) (b := 31)).cases with ⟨e, hn⟩ | ⟨e, hn⟩
    · rw [e]
      simp only [Option.bind_some, Bool.not_true, Bool.false_eq_true, if_false]
      rcases (dec_within (x := t.Seen_) (a := 0) (b := 99999)).cases with ⟨e, hq⟩ | ⟨e, hq⟩
      · rw [e]
        simp only [Option.bind_some, Bool.not_true, Bool.false_eq_true, if_false]
        refine (dec_idx (Lp := fun k i => impl_TreeOk_L1 t s k (i : Int)) (n := t.Nodes_.length) (Q := NodeP s t) (F := True) (fun k _ => ?_) (fun k i hi hQ => ?_) (by omega)).of_iff ⟨fun g => ⟨hS, hn, hq, g.1⟩, fun g => ⟨g.2.2.2, trivial⟩⟩
        · show Dec (impl_TreeOk_L1 t s (k + 1) _) _
          rw [impl_TreeOk_L1, if_neg (by simp)]
          exact dec_t trivial
        · show (_ ∧ impl_TreeOk_L1 t s (k + 1) _ = impl_TreeOk_L1 t s k _) ∨ (_ ∧ impl_TreeOk_L1 t s (k + 1) _ = _)
          rw [impl_TreeOk_L1, if_pos (by simp; omega), idx_lt hi, wrap_succ (by omega)]
          simp only [Option.bind_some]
          rcases (implNode hs ht hi).cases with ⟨e, hN⟩ | ⟨e, hN⟩
          · rw [e]
            simp only [Option.bind_some, Bool.not_true, Bool.false_eq_true, if_false]
            by_cases h0 : i = 0
            · rw [if_pos (by simp only [beq_iff_eq]; omega)]
              by_cases hL : t.Nodes_[i].Up_ = -1 ∧ t.Nodes_[i].Depth_ = 0 ∧ t.Nodes_[i].Born_ = 0
              · rw [if_neg (by simp only [Bool.or_eq_true, bne_iff_ne, ne_eq]; omega)]
                exact .inl ⟨fun _ => ⟨hN, fun _ => hL, fun g => by omega⟩, rfl⟩
              · rw [if_pos (by simp only [Bool.or_eq_true, bne_iff_ne, ne_eq]; omega)]
                exact .inr ⟨fun g => hL ((g hi).2.1 h0), rfl⟩
            · rw [if_neg (by simp only [beq_iff_eq]; omega), wrap_id (n := (i : Int) - 1) (by omega) (by omega)]
              rcases (dec_within (x := t.Nodes_[i].Up_) (a := 0) (b := (i : Int) - 1)).cases with ⟨e, hr⟩ | ⟨e, hr⟩
              · rw [e]
                simp only [Option.bind_some, Bool.not_true, Bool.false_eq_true, if_false]
                obtain ⟨u, hu⟩ : ∃ u : Nat, t.Nodes_[i].Up_ = u := ⟨t.Nodes_[i].Up_.toNat, by omega⟩
                have hui : u < i := by omega
                have hul : u < t.Nodes_.length := by omega
                rw [hu, idx_lt hul]
                simp only [Option.bind_some]
                have hNu := hQ u hui hul
                have hd := hN.1
                have hdu := hNu.1.1
                rw [wrap_id (n := t.Nodes_[i].Depth_ - 1) (by omega) (by omega)]
                by_cases hlf : t.Nodes_[u].Leaf_ = true
                · rw [if_pos hlf]
                  exact .inr ⟨fun g => by
                    obtain ⟨u', _, hu', h1, h2, _⟩ := (g hi).2.2 (by omega)
                    obtain rfl : u = u' := by omega
                    exact (nomatch h2.symm.trans hlf), rfl⟩
                · rw [if_neg hlf]
                  have hlf' : t.Nodes_[u].Leaf_ = false := by simpa using hlf
                  rcases (contains_int (l := t.Nodes_[u].Kids_) (ht.1.2 _ (List.getElem_mem hul)).2.2.1.1 (i : Int)).cases with ⟨e, hc⟩ | ⟨e, hc⟩
                  · rw [e]
                    simp only [Option.bind_some, Bool.not_true, Bool.false_or]
                    by_cases hd2 : t.Nodes_[u].Depth_ + 1 = t.Nodes_[i].Depth_ ∧ t.Nodes_[u].Born_ ≤ t.Nodes_[i].Born_
                    · rw [if_neg (by simp only [Bool.or_eq_true, bne_iff_ne, decide_eq_true_eq, ne_eq]; omega)]
                      exact .inl ⟨fun _ => ⟨hN, fun g => absurd g h0, fun _ => ⟨u, hui, hul, hu, hlf', hc, hd2.1, hd2.2⟩⟩, rfl⟩
                    · rw [if_pos (by simp only [Bool.or_eq_true, bne_iff_ne, decide_eq_true_eq, ne_eq]; omega)]
                      exact .inr ⟨fun g => by
                        obtain ⟨u', _, hu', h1, h2, h3, h4, h5⟩ := (g hi).2.2 (by omega)
                        obtain rfl : u = u' := by omega
                        exact hd2 ⟨h4, h5⟩, rfl⟩
                  · rw [e]
                    exact .inr ⟨fun g => by
                      obtain ⟨u', _, hu', h1, h2, h3, h4, h5⟩ := (g hi).2.2 (by omega)
                      obtain rfl : u = u' := by omega
                      exact hc h3, rfl⟩
              · rw [e]
                exact .inr ⟨fun g => by
                  obtain ⟨u', _, hu', h1, _⟩ := (g hi).2.2 (by omega)
                  exact hr ⟨by omega, by omega⟩, rfl⟩
          · rw [e]
            exact .inr ⟨fun g => hN (g hi).1, rfl⟩
      · rw [e]
        exact dec_f fun g => hq g.2.2.1
    · rw [e]
      exact dec_f fun g => hn g.2.1
  · rw [e]
    exact dec_f fun g => hS g.1
theorem specTree {s : Timpl_Schema} {t : Timpl_Tree} (hs : sml_Schema s) (ht : sml_Tree t) : Dec (spec_TreeOk s t) (TreeP s t) := by
  unfold spec_TreeOk
  have hl := ht.1.1
  rcases (specSchema (okS_of hs)).cases with ⟨e, hS⟩ | ⟨e, hS⟩
  · rw [e]
    simp only [Option.bind_some, Bool.not_true, Bool.false_eq_true, if_false]
    rcases (dec_l1In (x := (t.Nodes_.length : Int)) (a := 1) (b := 31)).cases with ⟨e, hn⟩ | ⟨e, hn⟩
    · rw [e]
      simp only [Option.bind_some, Bool.not_true, Bool.false_eq_true, if_false]
      rcases (dec_l1In (x := t.Seen_) (a := 0) (b := 99999)).cases with ⟨e, hq⟩ | ⟨e, hq⟩
      · rw [e]
        simp only [Option.bind_some, Bool.not_true, Bool.false_eq_true, if_false]
        refine (dec_idx (Lp := fun k i => spec_TreeOk_L1 t s k (i : Int)) (n := t.Nodes_.length) (Q := NodeP s t) (F := True) (fun k _ => ?_) (fun k i hi hQ => ?_) (by omega)).of_iff ⟨fun g => ⟨hS, hn, hq, g.1⟩, fun g => ⟨g.2.2.2, trivial⟩⟩
        · show Dec (spec_TreeOk_L1 t s (k + 1) _) _
          rw [spec_TreeOk_L1, if_neg (by simp)]
          exact dec_t trivial
        · show (_ ∧ spec_TreeOk_L1 t s (k + 1) _ = spec_TreeOk_L1 t s k _) ∨ (_ ∧ spec_TreeOk_L1 t s (k + 1) _ = _)
          rw [spec_TreeOk_L1, if_pos (by simp; omega), idx_lt hi, wrap_succ (by omega)]
          simp only [Option.bind_some]
          have hnd := ht.1.2 _ (List.getElem_mem hi)
          rcases (dec_l1In (x := t.Nodes_[i].Depth_) (a := 0) (b := 6)).cases with ⟨e, hdp⟩ | ⟨e, hdp⟩
          · rw [e]
            simp only [Option.bind_some, Bool.not_true, Bool.false_eq_true, if_false]
            rcases (dec_l1In (x := t.Nodes_[i].Born_) (a := 0) (b := t.Seen_)).cases with ⟨e, hbn⟩ | ⟨e, hbn⟩
            · rw [e]
              simp only [Option.bind_some, Bool.not_true, Bool.false_eq_true, if_false]
              have hself : ∀ b : Bool, t.Nodes_[i].Leaf_ = b → ∀ K : Bool → Option Bool, (SelfP s t i t.Nodes_[i] ∧ (((if t.Nodes_[i].Leaf_ = true then (spec_l19Leaf s ({ t.Nodes_[i] with Leaf_ := true })).bind fun y314 => some (!y314) else some false).bind fun u313 => (if u313 = true then some true else (if (!t.Nodes_[i].Leaf_) = true then (spec_l19Split s t (i : Int)).bind fun y320 => some (!y320) else some false).bind fun u319 => some u319).bind K) = K false)) ∨
                  (¬ SelfP s t i t.Nodes_[i] ∧ (((if t.Nodes_[i].Leaf_ = true then (spec_l19Leaf s ({ t.Nodes_[i] with Leaf_ := true })).bind fun y314 => some (!y314) else some false).bind fun u313 => (if u313 = true then some true else (if (!t.Nodes_[i].Leaf_) = true then (spec_l19Split s t (i : Int)).bind fun y320 => some (!y320) else some false).bind fun u319 => some u319).bind K) = K true)) := fun b hb K => by
                cases b
                · rw [hb]
                  simp only [Option.bind_some, Bool.not_false, Bool.false_eq_true, if_true, if_false]
                  rcases (specSplit hs ht hi).cases with ⟨e, h⟩ | ⟨e, h⟩
                  · rw [e]
                    exact .inl ⟨⟨hdp, hbn, h.2.1, h.2.2, fun g => (nomatch hb.symm.trans g), fun _ => h.1⟩, rfl⟩
                  · rw [e]
                    exact .inr ⟨fun g => h ⟨g.2.2.2.2.2 hb, g.2.2.1, g.2.2.2.1⟩, rfl⟩
                · have hE : ({ t.Nodes_[i] with Leaf_ := true } : Timpl_Node) = t.Nodes_[i] := by rw [← hb]
                  rw [hE, hb]
                  simp only [Option.bind_some, Bool.not_true, Bool.false_eq_true, if_true, if_false]
                  rcases (specLeaf hs hnd).cases with ⟨e, h⟩ | ⟨e, h⟩
                  · rw [e]
                    exact .inl ⟨⟨hdp, hbn, h.2.1, h.2.2, fun _ => h.1, fun g => (nomatch hb.symm.trans g)⟩, rfl⟩
                  · rw [e]
                    exact .inr ⟨fun g => h ⟨g.2.2.2.2.1 hb, g.2.2.1, g.2.2.2.1⟩, rfl⟩
              rcases hself _ rfl _ with ⟨hN, e⟩ | ⟨hN, e⟩
              · rw [e]
                simp only [Bool.false_eq_true, if_false]
                by_cases h0 : i = 0
                · rw [if_pos (by simp only [beq_iff_eq]; omega)]
                  by_cases hL : t.Nodes_[i].Up_ = -1 ∧ t.Nodes_[i].Depth_ = 0 ∧ t.Nodes_[i].Born_ = 0
                  · rw [if_neg (by simp only [Bool.or_eq_true, bne_iff_ne, ne_eq]; omega)]
                    exact .inl ⟨fun _ => ⟨hN, fun _ => hL, fun g => by omega⟩, rfl⟩
                  · rw [if_pos (by simp only [Bool.or_eq_true, bne_iff_ne, ne_eq]; omega)]
                    exact .inr ⟨fun g => hL ((g hi).2.1 h0), rfl⟩
                · rw [if_neg (by simp only [beq_iff_eq]; omega), wrap_id (n := (i : Int) - 1) (by omega) (by omega)]
                  rcases (dec_l1In (x := t.Nodes_[i].Up_) (a := 0) (b := (i : Int) - 1)).cases with ⟨e, hr⟩ | ⟨e, hr⟩
                  · rw [e]
                    simp only [Option.bind_some, Bool.not_true, Bool.false_eq_true, if_false]
                    obtain ⟨u, hu⟩ : ∃ u : Nat, t.Nodes_[i].Up_ = u := ⟨t.Nodes_[i].Up_.toNat, by omega⟩
                    have hui : u < i := by omega
                    have hul : u < t.Nodes_.length := by omega
                    rw [hu, idx_lt hul]
                    simp only [Option.bind_some]
                    have hNu := hQ u hui hul
                    have hdu := hNu.1.1
                    rw [wrap_id (n := t.Nodes_[u].Depth_ + 1) (by omega) (by omega)]
                    by_cases hlf : t.Nodes_[u].Leaf_ = true
                    · rw [if_pos hlf]
                      exact .inr ⟨fun g => by
                        obtain ⟨u', _, hu', h1, h2, _⟩ := (g hi).2.2 (by omega)
                        obtain rfl : u = u' := by omega
                        exact (nomatch h2.symm.trans hlf), rfl⟩
                    · rw [if_neg hlf]
                      have hlf' : t.Nodes_[u].Leaf_ = false := by simpa using hlf
                      rcases (among_int (l := t.Nodes_[u].Kids_) (ht.1.2 _ (List.getElem_mem hul)).2.2.1.1 (i : Int)).cases with ⟨e, hc⟩ | ⟨e, hc⟩
                      · rw [e]
                        simp only [Option.bind_some, Bool.not_true, Bool.false_or]
                        by_cases hd2 : t.Nodes_[u].Depth_ + 1 = t.Nodes_[i].Depth_ ∧ t.Nodes_[u].Born_ ≤ t.Nodes_[i].Born_
                        · rw [if_neg (by simp only [Bool.or_eq_true, bne_iff_ne, decide_eq_true_eq, ne_eq]; omega)]
                          exact .inl ⟨fun _ => ⟨hN, fun g => absurd g h0, fun _ => ⟨u, hui, hul, hu, hlf', hc, hd2.1, hd2.2⟩⟩, rfl⟩
                        · rw [if_pos (by simp only [Bool.or_eq_true, bne_iff_ne, decide_eq_true_eq, ne_eq]; omega)]
                          exact .inr ⟨fun g => by
                            obtain ⟨u', _, hu', h1, h2, h3, h4, h5⟩ := (g hi).2.2 (by omega)
                            obtain rfl : u = u' := by omega
                            exact hd2 ⟨h4, h5⟩, rfl⟩
                      · rw [e]
                        exact .inr ⟨fun g => by
                          obtain ⟨u', _, hu', h1, h2, h3, h4, h5⟩ := (g hi).2.2 (by omega)
                          obtain rfl : u = u' := by omega
                          exact hc h3, rfl⟩
                  · rw [e]
                    exact .inr ⟨fun g => by
                      obtain ⟨u', _, hu', h1, _⟩ := (g hi).2.2 (by omega)
                      exact hr ⟨by omega, by omega⟩, rfl⟩
              · rw [e]
                exact .inr ⟨fun g => hN (g hi).1, rfl⟩
            · rw [e]
              exact .inr ⟨fun g => hbn (g hi).1.2.1, rfl⟩
          · rw [e]
            exact .inr ⟨fun g => hdp (g hi).1.1, rfl⟩
      · rw [e]
        exact dec_f fun g => hq g.2.2.1
    · rw [e]
      exact dec_f fun g => hn g.2.1
  · rw [e]
    exact dec_f fun g => hS g.1
end Go.Vk
