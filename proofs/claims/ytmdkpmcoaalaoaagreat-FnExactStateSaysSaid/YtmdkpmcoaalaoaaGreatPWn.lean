/- A window in words: alike. -/
import Derived.Test.YtmdkpmcoaalaoaaGreatPT
import Derived.Test.YtmdkpmcoaalaoaaGreatVkL
import Derived.Test.YtmdkpmcoaalaoaaGreatQD
import Derived.Test.YtmdkpmcoaalaoaaGreatVkS
namespace Go.Vk
theorem pow2_ok {n : Nat} (hn : n ≤ 40) : spec_l16Power (n : Int) = some ((2 ^ n : Nat) : Int) := by
  unfold spec_l16Power
  have key : ∀ (d k i : Nat), i + d = n → d < k → spec_l16Power_L1 (n : Int) k ((2 ^ i : Nat) : Int) (i : Int) = some ((2 ^ n : Nat) : Int) := by
    intro d
    induction d with
    | zero =>
      intro k i hd hk
      obtain ⟨k, rfl⟩ : ∃ q, k = q + 1 := ⟨k - 1, by omega⟩
      rw [spec_l16Power_L1]
      rw [if_neg (by simp; omega), show i = n by omega]
    | succ d ih =>
      intro k i hd hk
      obtain ⟨k, rfl⟩ : ∃ q, k = q + 1 := ⟨k - 1, by omega⟩
      rw [spec_l16Power_L1]
      have hp : (2 : Nat) ^ i ≤ 2 ^ 40 := Nat.pow_le_pow_right (by omega) (by omega)
      have e : IntKind.i64.wrap (((2 ^ i : Nat) : Int) * 2) = ((2 ^ (i + 1) : Nat) : Int) := by
        rw [Nat.pow_succ]
        generalize (2 : Nat) ^ i = q at hp
        rw [wrap_id (by omega) (by omega)]; omega
      rw [if_pos (decide_eq_true (by omega)), e, wrap_succ (by omega)]
      exact ih k (i + 1) (by omega) (by omega)
  exact key n Fuel 0 (by omega) (fuel_gt (by omega))
theorem shl_pow : ∀ n : Nat, n < 8 → shl .i64 1 (n : Int) = some ((2 ^ n : Nat) : Int) := by decide
def RowW (p : Timpl_Window) (i : Nat) : Prop := ∀ h : i < p.Rows_.length, (1 ≤ p.Rows_[i].length ∧ p.Rows_[i].length ≤ 3) ∧ ∀ x ∈ p.Rows_[i], 0 ≤ x ∧ x ≤ ((2 ^ i : Nat) : Int)
def WinP (p : Timpl_Window) : Prop := p.Rows_.length ≤ 8 ∧ ∀ i, i < p.Rows_.length → RowW p i
theorem specWin (p : Timpl_Window) : Dec (spec_WindowOk p) (WinP p) := by
  unfold spec_WindowOk WinP
  by_cases h8 : p.Rows_.length ≤ 8
  · rw [if_neg (by simp; omega)]
    rcases if_idx (Lp := fun k i => spec_WindowOk_L1 p k (i : Int)) (n := p.Rows_.length) (Q := RowW p) (fin := some true) (bad := some false) (fun k _ => by
      show spec_WindowOk_L1 p (k + 1) _ = _
      rw [spec_WindowOk_L1, if_neg (by simp)]) (fun k i hi _ => by
      show (_ ∧ spec_WindowOk_L1 p (k + 1) _ = spec_WindowOk_L1 p k _) ∨ (_ ∧ spec_WindowOk_L1 p (k + 1) _ = _)
      rw [spec_WindowOk_L1, if_pos (by simp; omega), idx_lt hi]
      unfold spec_l1In
      simp only [Option.bind_some]
      by_cases hr : 1 ≤ p.Rows_[i].length ∧ p.Rows_[i].length ≤ 3
      · rw [if_neg (by simp; omega), all_loop2 (p := p.Rows_[i]) (P := fun x => 0 ≤ x ∧ x ≤ ((2 ^ i : Nat) : Int)) (fin := spec_WindowOk_L1 p k ((i + 1 : Nat) : Int)) (bad := some false) (spec_WindowOk_L2 p i (spec_WindowOk_L1 p k)) (fun k2 => by
          rw [spec_WindowOk_L2, idx_lt hi]
          simp only [Option.bind_some]
          rw [if_neg (by simp), wrap_succ (by omega)]) (fun k2 j hj => by
          rw [spec_WindowOk_L2, idx_lt hi]
          simp only [Option.bind_some]
          rw [if_pos (by simp; omega), idx_lt hj, pow2_ok (by omega), wrap_succ (by omega)]
          unfold spec_l1In
          simp only [Option.bind_some]
          generalize ((2 ^ i : Nat) : Int) = q
          by_cases hx : 0 ≤ p.Rows_[i][j] ∧ p.Rows_[i][j] ≤ q
          · rw [if_pos hx, if_neg (by simp; omega)]
          · rw [if_neg hx, if_pos (by simp; omega)]) (by omega)]
        by_cases hx : ∀ x ∈ p.Rows_[i], 0 ≤ x ∧ x ≤ ((2 ^ i : Nat) : Int)
        · rw [if_pos hx]; exact .inl ⟨fun _ => ⟨hr, hx⟩, rfl⟩
        · rw [if_neg hx]; exact .inr ⟨fun g => hx (g hi).2, rfl⟩
      · rw [if_pos (by simp; omega)]
        exact .inr ⟨fun g => hr (g hi).1, rfl⟩) (by omega) with ⟨h1, h2⟩ | ⟨h1, h2⟩
    · exact ⟨true, h2, by simp; exact ⟨h8, h1⟩⟩
    · exact ⟨false, h2, by simp only [Bool.false_eq_true, false_iff]; exact fun g => h1 g.2⟩
  · rw [if_pos (by simp; omega)]
    exact ⟨false, rfl, by simp; omega⟩
theorem winHas {r : List Int} (hl : r.length ≤ 1048576) {i : Nat} (hi : i < 8) : Dec (lib_slices_ContainsFunc___int_int___impl_WindowOk_1 r i) (∃ x ∈ r, ¬ (0 ≤ x ∧ x ≤ ((2 ^ i : Nat) : Int))) := by
  unfold lib_slices_ContainsFunc___int_int___impl_WindowOk_1 lib_slices_IndexFunc___int_int___impl_WindowOk_1
  refine (find_idx (Lp := lib_slices_IndexFunc___int_int___impl_WindowOk_1_L1 r i) (n := r.length) (Q := fun j => ∀ hj : j < r.length, ¬ (0 ≤ r[j] ∧ r[j] ≤ ((2 ^ i : Nat) : Int))) (fun k j hj => by
    show (if _ then _ else _) = _
    rw [if_neg (by simp; omega)]) (fun k j hj => by
    rw [lib_slices_IndexFunc___int_int___impl_WindowOk_1_L1]
    rw [if_pos (by simp; omega), idx_lt hj, wrap_succ (by omega)]
    unfold impl_WindowOk_1 impl_within
    rw [shl_pow i hi]
    simp only [Option.bind_some]
    by_cases hc : 0 ≤ r[j] ∧ r[j] ≤ ((2 ^ i : Nat) : Int)
    · rw [in_t hc]
      exact .inr ⟨fun g => g hj hc, rfl⟩
    · rw [in_f hc]
      exact .inl ⟨fun _ => hc, rfl⟩) (by omega)).of_iff ⟨fun ⟨i, hi, h⟩ => ⟨r[i], List.getElem_mem hi, h hi⟩, fun ⟨x, hx, h⟩ => ?_⟩
  obtain ⟨i, hi, rfl⟩ := List.mem_iff_getElem.1 hx
  exact ⟨i, hi, fun _ => h⟩
theorem implWin {p : Timpl_Window} (_ : sml_Window p) : Dec (impl_WindowOk p) (WinP p) := by
  unfold impl_WindowOk WinP
  by_cases h8 : p.Rows_.length ≤ 8
  · rw [if_neg (by simp; omega)]
    rcases if_idx (Lp := fun k i => impl_WindowOk_L1 p k (i : Int)) (n := p.Rows_.length) (Q := RowW p) (fin := some true) (bad := some false) (fun k _ => by
      show impl_WindowOk_L1 p (k + 1) _ = _
      rw [impl_WindowOk_L1, if_neg (by simp)]) (fun k i hi _ => by
      show (_ ∧ impl_WindowOk_L1 p (k + 1) _ = impl_WindowOk_L1 p k _) ∨ (_ ∧ impl_WindowOk_L1 p (k + 1) _ = _)
      rw [impl_WindowOk_L1, if_pos (by simp; omega), idx_lt hi]
      unfold impl_within
      simp only [Option.bind_some]
      by_cases hr : 1 ≤ p.Rows_[i].length ∧ p.Rows_[i].length ≤ 3
      · rw [if_neg (by simp; omega)]
        rcases (winHas (r := p.Rows_[i]) (by omega) (i := i) (by omega)).cases with ⟨e, h⟩ | ⟨e, h⟩
        · rw [e]
          exact .inr ⟨fun g => by obtain ⟨x, hx, hq⟩ := h; exact hq ((g hi).2 x hx), rfl⟩
        · rw [e]
          refine .inl ⟨fun _ => ⟨hr, fun x hx => ?_⟩, by simp only [Option.bind_some]; rw [if_neg (by simp), wrap_succ (by omega)]⟩
          exact Decidable.by_contra fun hq => h ⟨x, hx, hq⟩
      · rw [if_pos (by simp; omega)]
        exact .inr ⟨fun g => hr (g hi).1, rfl⟩) (by omega) with ⟨h1, h2⟩ | ⟨h1, h2⟩
    · exact ⟨true, h2, by simp; exact ⟨h8, h1⟩⟩
    · exact ⟨false, h2, by simp only [Bool.false_eq_true, false_iff]; exact fun g => h1 g.2⟩
  · rw [if_pos (by simp; omega)]
    exact ⟨false, rfl, by simp; omega⟩
end Go.Vk
/- Rules, members, forests, states: tested alike. -/
namespace Go.Vk
theorem and_some (c y : Bool) : (if c = true then some y else some false : Option Bool) = some (c && y) := by cases c <;> rfl
theorem id_some (o : Option Bool) : (o.bind fun y => some y) = o := by cases o <;> rfl
theorem dec_and {o k : Option Bool} {P Q : Prop} (h : Dec o P) (h' : P → Dec k Q) : Dec (o.bind fun y => if y = true then k else some false) (P ∧ Q) := h.and h'
def RuleP (r : Timpl_Rule) : Prop := (1 ≤ r.Sure_ ∧ r.Sure_ ≤ 9) ∧ (0 ≤ r.Tie_ ∧ r.Tie_ ≤ 999) ∧ (1 ≤ r.Grace_ ∧ r.Grace_ ≤ 200) ∧ (0 ≤ r.Depth_ ∧ r.Depth_ ≤ 6) ∧ (1 ≤ r.Nodes_ ∧ r.Nodes_ ≤ 31) ∧ (62 ≤ r.Units_ ∧ r.Units_ ≤ 2000)
theorem specRule (r : Timpl_Rule) : Dec (spec_RuleOk r) (RuleP r) := by
  unfold spec_RuleOk spec_l1In RuleP
  simp only [Option.bind_some, and_some]
  exact ⟨_, rfl, by simp [and_assoc]⟩
theorem implRule (r : Timpl_Rule) : Dec (impl_RuleOk r) (RuleP r) := by
  unfold impl_RuleOk impl_within RuleP
  simp only [Option.bind_some, and_some]
  exact ⟨_, rfl, by simp [and_assoc]⟩
def ConfP (c : Timpl_Conf) : Prop := SchemaP c.Schema_ ∧ RuleP c.Rule_ ∧ (1 ≤ c.Members_ ∧ c.Members_ ≤ 4) ∧ (1 ≤ c.Pick_ ∧ c.Pick_ ≤ (c.Schema_.Attrs_.length : Int)) ∧ (c.Lambda_ = 1 ∨ c.Lambda_ = 6) ∧ (1 ≤ c.Warn_ ∧ c.Warn_ ≤ 9) ∧ (1 ≤ c.Drift_ ∧ c.Drift_ ≤ 9) ∧ c.Warn_ ≤ c.Drift_
theorem specThr (x : Int) : Dec ((spec_Thresholds x).bind fun y => some (decide ((y.length : Int) > 0))) (x = 1 ∨ x = 6) := by
  unfold spec_Thresholds
  by_cases h1 : x = 1
  · rw [if_pos (by simpa using h1)]; exact dec_t (.inl h1)
  · rw [if_neg (by simpa using h1)]
    by_cases h6 : x = 6
    · rw [if_pos (by simpa using h6)]; exact dec_t (.inr h6)
    · rw [if_neg (by simpa using h6)]; exact dec_f (by omega)
theorem implThr (x : Int) : Dec ((impl_Thresholds x).bind fun y => some (!y.2)) (x = 1 ∨ x = 6) := by
  unfold impl_Thresholds
  by_cases h1 : x = 1
  · rw [if_pos (by simpa using h1)]; exact dec_t (.inl h1)
  · rw [if_neg (by simpa using h1)]
    by_cases h6 : x = 6
    · rw [if_pos (by simpa using h6)]; exact dec_t (.inr h6)
    · rw [if_neg (by simpa using h6)]; exact dec_f (by omega)
theorem specConf {c : Timpl_Conf} (hc : sml_Schema c.Schema_) : Dec (spec_ConfOk c) (ConfP c) := by
  unfold spec_ConfOk ConfP
  rcases (specSchema (okS_of hc)).cases with ⟨e, hS⟩ | ⟨e, hS⟩
  · rw [e]
    simp only [Option.bind_some, if_true]
    rcases (specRule c.Rule_).cases with ⟨e, hR⟩ | ⟨e, hR⟩
    · rw [e]
      simp only [Option.bind_some, if_true]
      rcases (dec_l1In (x := c.Members_) (a := 1) (b := 4)).cases with ⟨e, h1⟩ | ⟨e, h1⟩
      · rw [e]
        simp only [Option.bind_some, if_true]
        rcases (dec_l1In (x := c.Pick_) (a := 1) (b := (c.Schema_.Attrs_.length : Int))).cases with ⟨e, h2⟩ | ⟨e, h2⟩
        · rw [e]
          simp only [Option.bind_some, if_true]
          rcases (specThr c.Lambda_).cases with ⟨e, h3⟩ | ⟨e, h3⟩
          · rw [e]
            simp only [Option.bind_some, if_true]
            rcases (dec_l1In (x := c.Warn_) (a := 1) (b := 9)).cases with ⟨e, h4⟩ | ⟨e, h4⟩
            · rw [e]
              simp only [Option.bind_some, if_true]
              rcases (dec_l1In (x := c.Drift_) (a := 1) (b := 9)).cases with ⟨e, h5⟩ | ⟨e, h5⟩
              · rw [e]
                simp only [Option.bind_some, Bool.true_and]
                refine ⟨_, rfl, ?_⟩
                rw [decide_eq_true_iff]
                exact ⟨fun g => ⟨hS, hR, h1, h2, h3, h4, h5, g⟩, fun g => g.2.2.2.2.2.2.2⟩
              · rw [e]; exact dec_f fun g => h5 g.2.2.2.2.2.2.1
            · rw [e]; exact dec_f fun g => h4 g.2.2.2.2.2.1
          · rw [e]; exact dec_f fun g => h3 g.2.2.2.2.1
        · rw [e]; exact dec_f fun g => h2 g.2.2.2.1
      · rw [e]; exact dec_f fun g => h1 g.2.2.1
    · rw [e]; exact dec_f fun g => hR g.2.1
  · rw [e]; exact dec_f fun g => hS g.1
theorem implConf {c : Timpl_Conf} (hc : sml_Schema c.Schema_) : Dec (impl_ConfOk c) (ConfP c) := by
  unfold impl_ConfOk ConfP
  rcases (implSchema (okS_of hc)).cases with ⟨e, hS⟩ | ⟨e, hS⟩
  · rw [e]
    simp only [Option.bind_some, if_true]
    rcases (implRule c.Rule_).cases with ⟨e, hR⟩ | ⟨e, hR⟩
    · rw [e]
      simp only [Option.bind_some, if_true]
      rcases (dec_within (x := c.Members_) (a := 1) (b := 4)).cases with ⟨e, h1⟩ | ⟨e, h1⟩
      · rw [e]
        simp only [Option.bind_some, if_true]
        rcases (dec_within (x := c.Pick_) (a := 1) (b := (c.Schema_.Attrs_.length : Int))).cases with ⟨e, h2⟩ | ⟨e, h2⟩
        · rw [e]
          simp only [Option.bind_some, if_true]
          rcases (implThr c.Lambda_).cases with ⟨e, h3⟩ | ⟨e, h3⟩
          · rw [e]
            simp only [Option.bind_some, if_true]
            rcases (dec_within (x := c.Warn_) (a := 1) (b := 9)).cases with ⟨e, h4⟩ | ⟨e, h4⟩
            · rw [e]
              simp only [Option.bind_some, if_true]
              rcases (dec_within (x := c.Drift_) (a := 1) (b := 9)).cases with ⟨e, h5⟩ | ⟨e, h5⟩
              · rw [e]
                simp only [Option.bind_some, Bool.true_and]
                refine ⟨_, rfl, ?_⟩
                rw [decide_eq_true_iff]
                exact ⟨fun g => ⟨hS, hR, h1, h2, h3, h4, h5, g⟩, fun g => g.2.2.2.2.2.2.2⟩
              · rw [e]; exact dec_f fun g => h5 g.2.2.2.2.2.2.1
            · rw [e]; exact dec_f fun g => h4 g.2.2.2.2.2.1
          · rw [e]; exact dec_f fun g => h3 g.2.2.2.2.1
        · rw [e]; exact dec_f fun g => h2 g.2.2.2.1
      · rw [e]; exact dec_f fun g => h1 g.2.2.1
    · rw [e]; exact dec_f fun g => hR g.2.1
  · rw [e]; exact dec_f fun g => hS g.1
/-! how deep, how large -/
def depthN (l : List Timpl_Node) : Nat → Int
  | 0 => 0
  | i + 1 => if i = 0 ∨ (l.getD i default).Depth_ > depthN l i then (l.getD i default).Depth_ else depthN l i
theorem getN {l : List Timpl_Node} {i : Nat} (h : i < l.length) : l.getD i default = l[i] := by simp [h]
theorem specDepth {t : Timpl_Tree} (hl : t.Nodes_.length ≤ 1048576) : spec_DepthOf t = some (depthN t.Nodes_ t.Nodes_.length) := by
  unfold spec_DepthOf
  refine for_idx (Lp := fun k i => spec_DepthOf_L1 t k (depthN t.Nodes_ i) (i : Int)) (n := t.Nodes_.length) (fun k => ?_) (fun k i hi => ?_) (by omega)
  · show spec_DepthOf_L1 t (k + 1) _ _ = _
    rw [spec_DepthOf_L1, if_neg (by simp)]
  · show spec_DepthOf_L1 t (k + 1) _ _ = spec_DepthOf_L1 t k _ _
    rw [spec_DepthOf_L1, if_pos (by simp; omega), idx_lt hi, wrap_succ (by omega)]
    simp only [Option.bind_some, depthN]
    rw [getN hi]
    by_cases h0 : i = 0
    · rw [if_pos (by simp only [beq_iff_eq]; omega), if_pos (.inl h0)]
      simp only [Option.bind_some, if_true]
    · rw [if_neg (by simp only [beq_iff_eq]; omega)]
      simp only [Option.bind_some]
      by_cases h1 : t.Nodes_[i].Depth_ > depthN t.Nodes_ i
      · rw [if_pos (by simpa using h1), if_pos (.inr h1)]
      · rw [if_neg (by simpa using h1), if_neg (fun g => g.elim h0 h1)]
theorem implDepth {t : Timpl_Tree} (hl : t.Nodes_.length ≤ 1048576) : impl_DepthOf t = some (depthN t.Nodes_ t.Nodes_.length) := by
  unfold impl_DepthOf
  by_cases h0 : t.Nodes_.length = 0
  · rw [if_pos (by simp only [beq_iff_eq]; omega), h0]; rfl
  · rw [if_neg (by simp only [beq_iff_eq]; omega), show (0 : Int) = ((0 : Nat) : Int) from rfl, idx_lt (show 0 < t.Nodes_.length by omega)]
    simp only [Option.bind_some]
    have h := for_idx (Lp := fun k i => impl_DepthOf_L1 t k (i : Int) (if i = 0 then (t.Nodes_[0]'(by omega)).Depth_ else depthN t.Nodes_ i)) (n := t.Nodes_.length) (fin := some (depthN t.Nodes_ t.Nodes_.length)) (fun k => by
      show impl_DepthOf_L1 t (k + 1) _ _ = _
      rw [impl_DepthOf_L1, if_neg (by simp), if_neg h0]) (fun k i hi => by
      show impl_DepthOf_L1 t (k + 1) _ _ = impl_DepthOf_L1 t k _ _
      rw [impl_DepthOf_L1, if_pos (by simp; omega), idx_lt hi, wrap_succ (by omega)]
      simp only [Option.bind_some]
      congr 1
      rw [if_neg (Nat.succ_ne_zero i)]
      simp only [depthN]
      rw [getN hi]
      by_cases hi0 : i = 0
      · subst hi0
        rw [if_pos rfl, if_pos (show (0 = 0 ∨ _) from .inl rfl), if_neg (Int.lt_irrefl _)]
      · rw [if_neg hi0]
        by_cases h1 : t.Nodes_[i].Depth_ > depthN t.Nodes_ i
        · rw [if_pos h1, if_pos (Or.inr h1)]
        · rw [if_neg h1, if_neg (fun g : i = 0 ∨ _ => g.elim hi0 h1)]) (by omega)
    exact h
def unitsN (n : Timpl_Node) : Int := if n.Leaf_ = true then 2 + (n.Stats_.Cells_.map fun c => (c.length : Int)).sum else 1
def unitsT (t : Timpl_Tree) : Int := (t.Nodes_.map unitsN).sum
theorem sum_from {α ρ : Type} {p : List α} (v : α → Int) (a : Int) (Lp : Nat → Int → Int → Option ρ) (fin : Int → Option ρ) (hz : ∀ k s, Lp (k + 1) s (p.length : Int) = fin s)
    (hs : ∀ k s (i : Nat) (h : i < p.length), Lp (k + 1) s (i : Int) = Lp k (IntKind.i64.wrap (s + v p[i])) ((i + 1 : Nat) : Int)) (hb : ∀ x ∈ p, 0 ≤ v x ∧ v x ≤ 1000000000) (hl : p.length ≤ 1000000000) (ha : 0 ≤ a ∧ a ≤ 1000000000) : Lp Fuel a 0 = fin (a + (p.map v).sum) := by
  have := for_idx (Lp := fun k i => Lp k (a + ((p.map v).take i).sum) (i : Int)) (n := p.length) (fin := fin (a + (p.map v).sum)) (fun k => by
    show Lp _ _ _ = _
    rw [hz, List.take_of_length_le (by simp)]) (fun k i hi => by
    show Lp _ _ _ = Lp _ _ _
    have h1 := sum_bound (p := (p.map v).take (i + 1)) (b := 1000000000) (fun x hx => by
      obtain ⟨y, hy, rfl⟩ := List.mem_map.1 (mem_take hx)
      exact hb y hy)
    rw [hs _ _ _ hi]
    rw [sum_take (by simpa using hi)] at h1 ⊢
    rw [List.getElem_map] at h1 ⊢
    have h2 : ((p.map v).take (i + 1)).length ≤ 1000000000 := by simp; omega
    rw [wrap_id (by omega) (by omega), Int.add_assoc]) (by omega)
  simpa using this
theorem units_b {n : Timpl_Node} (hn : sml_Node n) (h : n.Stats_.Cells_.length ≤ 5) : 0 ≤ unitsN n ∧ unitsN n ≤ 10000000 := by
  unfold unitsN
  split
  · have hc := hn.2.2.2.2.1.2
    have := sum_bound (p := n.Stats_.Cells_.map fun c => (c.length : Int)) (b := 1048576) (fun x hx => by
      obtain ⟨y, hy, rfl⟩ := List.mem_map.1 hx
      have := (hc.2 y hy).1
      omega)
    simp only [List.length_map] at this
    omega
  · omega
theorem specUnits {n : Timpl_Node} (hn : sml_Node n) (h : n.Stats_.Cells_.length ≤ 5) : spec_UnitsOf n = some (unitsN n) := by
  unfold spec_UnitsOf unitsN
  have hc := hn.2.2.2.2.1.2
  cases hL : n.Leaf_
  · rfl
  · simp only [Bool.not_true, Bool.false_eq_true, if_true, if_false]
    exact sum_from (p := n.Stats_.Cells_) (fun c => (c.length : Int)) 2 (spec_UnitsOf_L1 n) some (fun k s => by
      show (if _ then _ else _) = _
      rw [if_neg (by simp)]) (fun k s i hi => by
      rw [spec_UnitsOf_L1, if_pos (by simp; omega), idx_lt hi, wrap_succ (by omega)]
      rfl) (fun x hx => by have := (hc.2 x hx).1; omega) (by omega) (by omega)
theorem implUnits {n : Timpl_Node} (hn : sml_Node n) (h : n.Stats_.Cells_.length ≤ 5) : impl_UnitsOf n = some (unitsN n) := by
  unfold impl_UnitsOf unitsN
  have hc := hn.2.2.2.2.1.2
  cases hL : n.Leaf_
  · rfl
  · simp only [Bool.not_true, Bool.false_eq_true, if_true, if_false]
    exact sum_from (p := n.Stats_.Cells_) (fun c => (c.length : Int)) 2 (fun k s i => impl_UnitsOf_L1 n k i s) some (fun k s => by
      show (if _ then _ else _) = _
      rw [if_neg (by simp)]) (fun k s i hi => by
      show impl_UnitsOf_L1 n (k + 1) _ _ = impl_UnitsOf_L1 n k _ _
      rw [impl_UnitsOf_L1, if_pos (by simp; omega), idx_lt hi, wrap_succ (by omega)]
      rfl) (fun x hx => by have := (hc.2 x hx).1; omega) (by omega) (by omega)
theorem cells_b {s : Timpl_Schema} {t : Timpl_Tree} (hT : TreeP s t) {i : Nat} (hi : i < t.Nodes_.length) : t.Nodes_[i].Stats_.Cells_.length ≤ 5 := by
  have h := (hT.2.2.2 i hi hi).1.2.2.1
  have := hT.1.1
  rcases h.2.2.2.2 with g | g
  · omega
  · have := g.1; omega
theorem specTreeUnits {s : Timpl_Schema} {t : Timpl_Tree} (ht : sml_Tree t) (hT : TreeP s t) : spec_TreeUnits t = some (unitsT t) := by
  unfold spec_TreeUnits unitsT
  have hn := hT.2.1
  have h := sum_from (p := t.Nodes_) unitsN 0 (spec_TreeUnits_L1 t) some (fun k s => by
    show (if _ then _ else _) = _
    rw [if_neg (by simp)]) (fun k s i hi => by
    rw [spec_TreeUnits_L1, if_pos (by simp; omega), idx_lt hi, wrap_succ (by omega)]
    simp only [Option.bind_some]
    rw [specUnits (ht.1.2 _ (List.getElem_mem hi)) (cells_b hT hi)]
    rfl) (fun x hx => by
      obtain ⟨i, hi, rfl⟩ := List.getElem_of_mem hx
      have := units_b (ht.1.2 _ (List.getElem_mem hi)) (cells_b hT hi)
      omega) (by omega) (by omega)
  rw [Int.zero_add] at h
  exact h
theorem implTreeUnits {s : Timpl_Schema} {t : Timpl_Tree} (ht : sml_Tree t) (hT : TreeP s t) : impl_TreeUnits t = some (unitsT t) := by
  unfold impl_TreeUnits unitsT
  have hn := hT.2.1
  have h := sum_from (p := t.Nodes_) unitsN 0 (impl_TreeUnits_L1 t) some (fun k s => by
    show (if _ then _ else _) = _
    rw [if_neg (by simp)]) (fun k s i hi => by
    rw [impl_TreeUnits_L1, if_pos (by simp; omega), idx_lt hi, wrap_succ (by omega)]
    simp only [Option.bind_some]
    rw [implUnits (ht.1.2 _ (List.getElem_mem hi)) (cells_b hT hi)]
    rfl) (fun x hx => by
      obtain ⟨i, hi, rfl⟩ := List.getElem_of_mem hx
      have := units_b (ht.1.2 _ (List.getElem_mem hi)) (cells_b hT hi)
      omega) (by omega) (by omega)
  rw [Int.zero_add] at h
  exact h
def FitsP (s : Timpl_Schema) (r : Timpl_Rule) (t : Timpl_Tree) : Prop := TreeP s t ∧ RuleP r ∧ (t.Nodes_.length : Int) ≤ r.Nodes_ ∧ depthN t.Nodes_ t.Nodes_.length ≤ r.Depth_ ∧ unitsT t ≤ r.Units_
theorem specFits {s : Timpl_Schema} {r : Timpl_Rule} {t : Timpl_Tree} (hs : sml_Schema s) (ht : sml_Tree t) : Dec (spec_Fits s r t) (FitsP s r t) := by
  unfold spec_Fits FitsP
  rcases (specTree hs ht).cases with ⟨e, hT⟩ | ⟨e, hT⟩
  · rw [e]
    simp only [Option.bind_some, if_true]
    rcases (specRule r).cases with ⟨e, hR⟩ | ⟨e, hR⟩
    · rw [e, specDepth ht.1.1, specTreeUnits ht hT]
      simp only [Option.bind_some, Bool.true_and, and_some]
      refine ⟨_, rfl, ?_⟩
      simp [hT, hR, and_assoc]
    · rw [e]; exact dec_f fun g => hR g.2.1
  · rw [e]; exact dec_f fun g => hT g.1
theorem implFits {s : Timpl_Schema} {r : Timpl_Rule} {t : Timpl_Tree} (hs : sml_Schema s) (ht : sml_Tree t) : Dec (impl_Fits s r t) (FitsP s r t) := by
  unfold impl_Fits FitsP
  rcases (implTree hs ht).cases with ⟨e, hT⟩ | ⟨e, hT⟩
  · rw [e]
    simp only [Option.bind_some, if_true]
    rcases (implRule r).cases with ⟨e, hR⟩ | ⟨e, hR⟩
    · rw [e, implDepth ht.1.1, implTreeUnits ht hT]
      simp only [Option.bind_some, Bool.true_and, and_some]
      refine ⟨_, rfl, ?_⟩
      simp [hT, hR, and_assoc]
    · rw [e]; exact dec_f fun g => hR g.2.1
  · rw [e]; exact dec_f fun g => hT g.1
/-! members, forests, states -/
def DetP (d : Timpl_Det) : Prop := WinP d.Warn_ ∧ WinP d.Drift_
theorem specDet (d : Timpl_Det) : Dec (spec_DetOk d) (DetP d) := by
  unfold spec_DetOk DetP
  simp only [id_some]
  exact (specWin d.Warn_).and fun _ => specWin d.Drift_
theorem implDet {d : Timpl_Det} (hd : sml_Det d) : Dec (impl_DetOk d) (DetP d) := by
  unfold impl_DetOk DetP
  simp only [id_some]
  exact (implWin hd.1).and fun _ => implWin hd.2
def NoTree (t : Timpl_Tree) : Prop := t.Nodes_.length = 0 ∧ t.Seen_ = 0
theorem implNone (t : Timpl_Tree) : Dec (impl_TreeSame t (Timpl_Tree.mk [] 0)) (NoTree t) := by
  unfold impl_TreeSame NoTree
  simp only [id_some]
  by_cases h : t.Seen_ = 0
  · rw [if_pos (by simpa using h)]
    unfold lib_slices_EqualFunc___impl_Node___impl_Node_impl_Node_impl_Node___impl_NodeSame
    by_cases h0 : t.Nodes_.length = 0
    · rw [if_neg (by simp [h0])]
      obtain ⟨k, hk⟩ : ∃ k, Fuel = k + 1 := ⟨Fuel - 1, by have := fuel_gt (n := 0) (by omega); omega⟩
      rw [hk, lib_slices_EqualFunc___impl_Node___impl_Node_impl_Node_impl_Node___impl_NodeSame_L1, if_neg (by simp [List.length_eq_zero_iff.1 h0])]
      exact dec_t ⟨h0, h⟩
    · rw [if_pos (by simp; exact fun e => h0 (by rw [e]; rfl))]
      exact dec_f fun g => h0 g.1
  · rw [if_neg (by simpa using h)]
    exact dec_f fun g => h g.2
def MemberP (c : Timpl_Conf) (m : Timpl_Member) : Prop := ConfP c ∧ FitsP c.Schema_ c.Rule_ m.Tree_ ∧ DetP m.Det_ ∧ (m.HasYoung_ = true → FitsP c.Schema_ c.Rule_ m.Young_) ∧ (m.HasYoung_ = false → NoTree m.Young_)
theorem specMember {c : Timpl_Conf} {m : Timpl_Member} (hc : sml_Schema c.Schema_) (hm : sml_Member m) : Dec (spec_MemberOk c m) (MemberP c m) := by
  unfold spec_MemberOk MemberP
  rcases (specConf hc).cases with ⟨e, hC⟩ | ⟨e, hC⟩
  · rw [e]
    simp only [Option.bind_some, Bool.not_true, Bool.false_eq_true, if_false]
    rcases (specFits (r := c.Rule_) hc hm.1).cases with ⟨e, hF⟩ | ⟨e, hF⟩
    · rw [e]
      simp only [Option.bind_some, Bool.not_true, Bool.false_eq_true, if_false]
      rcases (specDet m.Det_).cases with ⟨e, hD⟩ | ⟨e, hD⟩
      · rw [e]
        simp only [Option.bind_some, Bool.not_true, Bool.false_eq_true, if_false, id_some]
        by_cases hy : m.HasYoung_ = true
        · rw [if_pos hy]
          exact (specFits hc hm.2.2.1).of_iff ⟨fun g => ⟨hC, hF, hD, fun _ => g, fun h => by rw [hy] at h; cases h⟩, fun g => g.2.2.2.1 hy⟩
        · rw [if_neg hy]
          have hy' : m.HasYoung_ = false := by simpa using hy
          refine ⟨_, rfl, ?_⟩
          rw [Bool.and_eq_true, beq_iff_eq, beq_iff_eq]
          exact ⟨fun g => ⟨hC, hF, hD, fun h => absurd h hy, fun _ => ⟨by omega, g.2⟩⟩, fun g => ⟨by have := (g.2.2.2.2 hy').1; omega, (g.2.2.2.2 hy').2⟩⟩
      · rw [e]; exact dec_f fun g => hD g.2.2.1
    · rw [e]; exact dec_f fun g => hF g.2.1
  · rw [e]; exact dec_f fun g => hC g.1
theorem implMember {c : Timpl_Conf} {m : Timpl_Member} (hc : sml_Schema c.Schema_) (hm : sml_Member m) : Dec (impl_MemberOk c m) (MemberP c m) := by
  unfold impl_MemberOk MemberP
  rcases (implConf hc).cases with ⟨e, hC⟩ | ⟨e, hC⟩
  · rw [e]
    simp only [Option.bind_some, Bool.not_true, Bool.false_eq_true, if_false]
    rcases (implFits (r := c.Rule_) hc hm.1).cases with ⟨e, hF⟩ | ⟨e, hF⟩
    · rw [e]
      simp only [Option.bind_some, Bool.not_true, Bool.false_eq_true, if_false]
      rcases (implDet hm.2.2.2).cases with ⟨e, hD⟩ | ⟨e, hD⟩
      · rw [e]
        simp only [Option.bind_some, Bool.not_true, Bool.false_eq_true, if_false, id_some]
        by_cases hy : m.HasYoung_ = true
        · rw [if_pos hy]
          exact (implFits hc hm.2.2.1).of_iff ⟨fun g => ⟨hC, hF, hD, fun _ => g, fun h => by rw [hy] at h; cases h⟩, fun g => g.2.2.2.1 hy⟩
        · rw [if_neg hy]
          have hy' : m.HasYoung_ = false := by simpa using hy
          exact (implNone m.Young_).of_iff ⟨fun g => ⟨hC, hF, hD, fun h => absurd h hy, fun _ => g⟩, fun g => g.2.2.2.2 hy'⟩
      · rw [e]; exact dec_f fun g => hD g.2.2.1
    · rw [e]; exact dec_f fun g => hF g.2.1
  · rw [e]; exact dec_f fun g => hC g.1
def ForestP (c : Timpl_Conf) (f : Timpl_Forest) : Prop := ConfP c ∧ (f.Members_.length : Int) = c.Members_ ∧ ∀ m ∈ f.Members_, MemberP c m
theorem specForest {c : Timpl_Conf} {f : Timpl_Forest} (hc : sml_Schema c.Schema_) (hf : sml_Forest f) : Dec (spec_ForestOk c f) (ForestP c f) := by
  unfold spec_ForestOk ForestP
  have hl : f.Members_.length ≤ 1048576 := hf.1
  rcases (specConf hc).cases with ⟨e, hC⟩ | ⟨e, hC⟩
  · rw [e]
    simp only [Option.bind_some, Bool.not_true, Bool.false_or]
    by_cases hn : (f.Members_.length : Int) = c.Members_
    · rw [if_neg (by simpa using hn)]
      refine (all_idx (Lp := spec_ForestOk_L1 f c) (n := f.Members_.length) (Q := fun i => ∀ h : i < f.Members_.length, MemberP c f.Members_[i]) 0 (fun k i hi => ?_) (fun k i _ hi => ?_) (by omega)).of_iff ⟨fun g => ⟨hC, hn, fun m hm => by
        obtain ⟨i, hi, rfl⟩ := List.getElem_of_mem hm
        exact g i (Nat.zero_le _) hi hi⟩, fun g i _ hi _ => g.2.2 _ (List.getElem_mem hi)⟩
      · show (if _ then _ else _) = _
        rw [if_neg (by simp; omega)]
      · rw [spec_ForestOk_L1, if_pos (by simp; omega), idx_lt hi, wrap_succ (by omega)]
        simp only [Option.bind_some]
        rcases (specMember hc (hf.2 _ (List.getElem_mem hi))).cases with ⟨e, h⟩ | ⟨e, h⟩
        · rw [e]; exact .inl ⟨fun _ => h, rfl⟩
        · rw [e]; exact .inr ⟨fun g => h (g hi), rfl⟩
    · rw [if_pos (by simpa using hn)]
      exact dec_f fun g => hn g.2.1
  · rw [e]; exact dec_f fun g => hC g.1
theorem implForest {c : Timpl_Conf} {f : Timpl_Forest} (hc : sml_Schema c.Schema_) (hf : sml_Forest f) : Dec (impl_ForestOk c f) (ForestP c f) := by
  unfold impl_ForestOk ForestP
  have hl : f.Members_.length ≤ 1048576 := hf.1
  rcases (implConf hc).cases with ⟨e, hC⟩ | ⟨e, hC⟩
  · rw [e]
    simp only [Option.bind_some, Bool.true_and, id_some]
    by_cases hn : (f.Members_.length : Int) = c.Members_
    · rw [if_pos (by simpa using hn)]
      have hf2 : Dec (lib_slices_ContainsFunc___impl_Member_impl_Member___impl_ForestOk_1 f.Members_ c) (∃ i, i < f.Members_.length ∧ ∀ h : i < f.Members_.length, ¬ MemberP c f.Members_[i]) := by
        unfold lib_slices_ContainsFunc___impl_Member_impl_Member___impl_ForestOk_1 lib_slices_IndexFunc___impl_Member_impl_Member___impl_ForestOk_1
        refine find_idx (Lp := lib_slices_IndexFunc___impl_Member_impl_Member___impl_ForestOk_1_L1 f.Members_ c) (n := f.Members_.length) (fun k i hi => ?_) (fun k i hi => ?_) (by omega)
        · show (if _ then _ else _) = _
          rw [if_neg (by simp; omega)]
        · rw [lib_slices_IndexFunc___impl_Member_impl_Member___impl_ForestOk_1_L1, if_pos (by simp; omega), idx_lt hi, wrap_succ (by omega)]
          unfold impl_ForestOk_1
          simp only [Option.bind_some]
          rcases (implMember hc (hf.2 _ (List.getElem_mem hi))).cases with ⟨e, h⟩ | ⟨e, h⟩
          · rw [e]; exact .inr ⟨fun g => g hi h, rfl⟩
          · rw [e]; exact .inl ⟨fun _ => h, rfl⟩
      rcases hf2.cases with ⟨e, i, hi, h⟩ | ⟨e, h⟩
      · rw [e]; exact dec_f fun g => h hi (g.2.2 _ (List.getElem_mem hi))
      · rw [e]; exact dec_t ⟨hC, hn, fun m hm => by
          obtain ⟨i, hi, rfl⟩ := List.getElem_of_mem hm
          exact Classical.byContradiction fun g => h ⟨i, hi, fun _ => g⟩⟩
    · rw [if_neg (by simpa using hn)]
      exact dec_f fun g => hn g.2.1
  · rw [e]; exact dec_f fun g => hC g.1
end Go.Vk
/- Examples: tested alike. -/
namespace Go.Vk
def ExP (s : Timpl_Schema) (e : Timpl_Ex) : Prop := SchemaP s ∧ e.Bins_.length = s.Attrs_.length ∧ (-1 ≤ e.Class_ ∧ e.Class_ ≤ (s.Classes_.length : Int) - 1) ∧
  ∀ i, 0 ≤ i → i < e.Bins_.length → ∃ n : Nat, ∃ h : i < s.Attrs_.length, impl_bins s.Attrs_[i] = some (n : Int) ∧ n ≤ 4 ∧ ∀ hb : i < e.Bins_.length, -1 ≤ e.Bins_[i] ∧ e.Bins_[i] ≤ (n : Int) - 1
theorem specExBins {s : Timpl_Schema} {e : Timpl_Ex} (hs : OkS s) (hS : SchemaP s) (hl : e.Bins_.length = s.Attrs_.length) : Dec (spec_ExOk_L1 e s Fuel 0) (∀ i, 0 ≤ i → i < e.Bins_.length → ∃ n : Nat, ∃ h : i < s.Attrs_.length, impl_bins s.Attrs_[i] = some (n : Int) ∧ n ≤ 4 ∧ ∀ hb : i < e.Bins_.length, -1 ≤ e.Bins_[i] ∧ e.Bins_[i] ≤ (n : Int) - 1) := by
  refine all_idx (Lp := spec_ExOk_L1 e s) (n := e.Bins_.length) 0 (fun k i hi => ?_) (fun k i _ hi => ?_) (by have := hs.1; omega)
  · show (if _ then _ else _) = _
    rw [if_neg (by simp; omega)]
  · have ha : i < s.Attrs_.length := by omega
    obtain ⟨n, b1, b2, _, b3⟩ := bins_ok (hs.2.1 _ (List.getElem_mem ha)) (hS.2.2.2 i (Nat.zero_le _) ha ha).1
    rw [spec_ExOk_L1]
    rw [if_pos (by simp; omega), idx_lt hi, idx_lt ha, wrap_succ (by have := hs.1; omega)]
    simp only [Option.bind_some]
    rw [b1]
    simp only [Option.bind_some]
    rw [wrap_id (by omega) (by omega)]
    unfold spec_l1In
    simp only [Option.bind_some]
    by_cases hc : -1 ≤ e.Bins_[i] ∧ e.Bins_[i] ≤ (n : Int) - 1
    · rw [in_t hc]
      exact .inl ⟨⟨n, ha, b2, b3, fun _ => hc⟩, rfl⟩
    · rw [in_f hc]
      exact .inr ⟨fun ⟨n', _, b4, _, g⟩ => hc (by rw [b2] at b4; have := Option.some.inj b4; rw [this]; exact g hi), rfl⟩
theorem implExBins {s : Timpl_Schema} {e : Timpl_Ex} (hs : OkS s) (hS : SchemaP s) (hl : e.Bins_.length = s.Attrs_.length) : Dec (impl_ExOk_L1 e s Fuel 0) (∀ i, 0 ≤ i → i < e.Bins_.length → ∃ n : Nat, ∃ h : i < s.Attrs_.length, impl_bins s.Attrs_[i] = some (n : Int) ∧ n ≤ 4 ∧ ∀ hb : i < e.Bins_.length, -1 ≤ e.Bins_[i] ∧ e.Bins_[i] ≤ (n : Int) - 1) := by
  refine all_idx (Lp := impl_ExOk_L1 e s) (n := e.Bins_.length) 0 (fun k i hi => ?_) (fun k i _ hi => ?_) (by have := hs.1; omega)
  · show (if _ then _ else _) = _
    rw [if_neg (by simp; omega)]
  · have ha : i < s.Attrs_.length := by omega
    obtain ⟨n, b1, b2, _, b3⟩ := bins_ok (hs.2.1 _ (List.getElem_mem ha)) (hS.2.2.2 i (Nat.zero_le _) ha ha).1
    rw [impl_ExOk_L1]
    rw [if_pos (by simp; omega), idx_lt hi, idx_lt ha, wrap_succ (by have := hs.1; omega)]
    simp only [Option.bind_some]
    rw [b2]
    simp only [Option.bind_some]
    rw [wrap_id (by omega) (by omega)]
    unfold impl_within
    simp only [Option.bind_some]
    by_cases hc : -1 ≤ e.Bins_[i] ∧ e.Bins_[i] ≤ (n : Int) - 1
    · rw [in_t hc]
      exact .inl ⟨⟨n, ha, b2, b3, fun _ => hc⟩, rfl⟩
    · rw [in_f hc]
      exact .inr ⟨fun ⟨n', _, b4, _, g⟩ => hc (by rw [b2] at b4; have := Option.some.inj b4; rw [this]; exact g hi), rfl⟩
theorem specEx {s : Timpl_Schema} {e : Timpl_Ex} (hs : OkS s) : Dec (spec_ExOk s e) (ExP s e) := by
  unfold spec_ExOk ExP
  rcases (specSchema hs).cases with ⟨e1, h⟩ | ⟨e1, h⟩
  · rw [e1]
    unfold spec_l1In
    simp only [Option.bind_some, Bool.not_true, Bool.false_or]
    by_cases hn : e.Bins_.length = s.Attrs_.length
    · rw [if_neg (by simp [hn])]
      simp only [Option.bind_some]
      rw [wrap_id (by omega) (by have := hs.2.2.1; omega)]
      by_cases hc : -1 ≤ e.Class_ ∧ e.Class_ ≤ (s.Classes_.length : Int) - 1
      · rw [in_t hc]
        simp only [Bool.not_true, Bool.false_eq_true, if_false]
        exact (specExBins hs h hn).of_iff ⟨fun g => ⟨h, hn, hc, g⟩, fun g => g.2.2.2⟩
      · rw [in_f hc]
        exact dec_f fun g => hc g.2.2.1
    · rw [if_pos (by simp; omega)]
      exact dec_f fun g => hn g.2.1
  · rw [e1]
    exact dec_f fun g => h g.1
theorem implEx {s : Timpl_Schema} {e : Timpl_Ex} (hs : OkS s) : Dec (impl_ExOk s e) (ExP s e) := by
  unfold impl_ExOk ExP
  rcases (implSchema hs).cases with ⟨e1, h⟩ | ⟨e1, h⟩
  · rw [e1]
    unfold impl_within
    simp only [Option.bind_some, Bool.not_true, Bool.false_or]
    by_cases hn : e.Bins_.length = s.Attrs_.length
    · rw [if_neg (by simp [hn])]
      simp only [Option.bind_some]
      rw [wrap_id (by omega) (by have := hs.2.2.1; omega)]
      by_cases hc : -1 ≤ e.Class_ ∧ e.Class_ ≤ (s.Classes_.length : Int) - 1
      · rw [in_t hc]
        simp only [Bool.not_true, Bool.false_eq_true, if_false]
        exact (implExBins hs h hn).of_iff ⟨fun g => ⟨h, hn, hc, g⟩, fun g => g.2.2.2⟩
      · rw [in_f hc]
        exact dec_f fun g => hc g.2.2.1
    · rw [if_pos (by simp; omega)]
      exact dec_f fun g => hn g.2.1
  · rw [e1]
    exact dec_f fun g => h g.1
end Go.Vk
/- The path of an example: alike. -/
namespace Go.Vk
def nodeAt (t : Timpl_Tree) (i : Nat) : Timpl_Node := t.Nodes_.getD i default
theorem nodeAt_eq {t : Timpl_Tree} {i : Nat} (h : i < t.Nodes_.length) : nodeAt t i = t.Nodes_[i] := by unfold nodeAt; simp [h]
def ints (l : List Nat) : List Int := l.map (fun (i : Nat) => (i : Int))
/-- the branch that an example takes at a node -/
def takes (s : Timpl_Schema) (n : Timpl_Node) (e : Timpl_Ex) : Int :=
  let b := e.Bins_.getD n.Fork_.Attr_.toNat 0
  if 0 ≤ b then brOf (atr s n.Fork_) n.Fork_ b else n.Miss_
def nxt (s : Timpl_Schema) (t : Timpl_Tree) (e : Timpl_Ex) (i : Nat) : Nat := ((nodeAt t i).Kids_.getD (takes s (nodeAt t i) e).toNat 0).toNat
def pathN (s : Timpl_Schema) (t : Timpl_Tree) (e : Timpl_Ex) : Nat → Nat → List Nat
  | 0, i => [i]
  | d + 1, i => if (nodeAt t i).Leaf_ = true then [i] else i :: pathN s t e d (nxt s t e i)
theorem brOf_b {s : Timpl_Schema} {f : Timpl_Fork} (_ : ForkP s f) {b : Int} (hb : 0 ≤ b ∧ b ≤ (nb (atr s f) : Int) - 1) : 0 ≤ brOf (atr s f) f b ∧ brOf (atr s f) f b ≤ (brN s f : Int) - 1 := by
  unfold brOf brN
  split
  · omega
  · split <;> split <;> omega
/-- what an example finds at an inner node -/
theorem bin_ok {s : Timpl_Schema} {f : Timpl_Fork} {e : Timpl_Ex} (hs : sml_Schema s) (hE : ExP s e) (h : ForkP s f) : ∃ b, idx e.Bins_ f.Attr_ = some b ∧ b = e.Bins_.getD f.Attr_.toNat 0 ∧ -1 ≤ b ∧ b ≤ (nb (atr s f) : Int) - 1 := by
  obtain ⟨a, ha, ea, et⟩ := atr_of h.2.1
  have hl : a < e.Bins_.length := by have := hE.2.1; omega
  obtain ⟨n, h1, h2, _, h3⟩ := hE.2.2.2 a (Nat.zero_le _) hl
  have hn : nb s.Attrs_[a] = n := by
    have := implBins (hs.1.2 _ (List.getElem_mem ha))
    rw [h2] at this
    have := Option.some.inj this
    omega
  have h3 := h3 hl
  rw [ea, et, hn, idx_lt hl, Int.toNat_natCast, getD_lt hl]
  exact ⟨_, rfl, rfl, h3.1, h3.2⟩
theorem takes_b {s : Timpl_Schema} {t : Timpl_Tree} {n : Timpl_Node} {i : Nat} {e : Timpl_Ex} (hs : sml_Schema s) (hE : ExP s e) (h : SplitP s t i n) : ∃ k : Nat, takes s n e = k ∧ k < n.Kids_.length := by
  obtain ⟨b, _, hb, h1, h2⟩ := bin_ok hs hE h.1
  unfold takes
  rw [← hb]
  have hk := h.2.1
  have hm := h.2.2.1
  by_cases h0 : 0 ≤ b
  · have := brOf_b h.1 ⟨h0, h2⟩
    show ∃ k : Nat, (if 0 ≤ b then _ else _) = (k : Int) ∧ _
    rw [if_pos h0]
    exact ⟨(brOf (atr s n.Fork_) n.Fork_ b).toNat, by omega, by omega⟩
  · show ∃ k : Nat, (if 0 ≤ b then _ else _) = (k : Int) ∧ _
    rw [if_neg h0]
    exact ⟨n.Miss_.toNat, by omega, by omega⟩
theorem nxt_ok {s : Timpl_Schema} {t : Timpl_Tree} {e : Timpl_Ex} (hs : sml_Schema s) (hT : TreeP s t) (hE : ExP s e) {i : Nat} (hi : i < t.Nodes_.length) (hL : t.Nodes_[i].Leaf_ = false) : ∃ (k : Nat) (hk : k < t.Nodes_[i].Kids_.length) (hn : nxt s t e i < t.Nodes_.length), takes s t.Nodes_[i] e = k ∧ t.Nodes_[i].Kids_[k] = (nxt s t e i : Int) ∧ i < nxt s t e i ∧ t.Nodes_[nxt s t e i].Up_ = i := by
  have hS := (hT.2.2.2 i hi hi).1.2.2.2.2.2 hL
  obtain ⟨k, hk, hkl⟩ := takes_b hs hE hS
  obtain ⟨m, hm, h1, h2, h3⟩ := hS.2.2.2.2.2.2 _ (List.getElem_mem hkl)
  have hx : nxt s t e i = m := by
    unfold nxt
    rw [nodeAt_eq hi, hk, Int.toNat_natCast, getD_lt hkl, h1, Int.toNat_natCast]
  rw [hx]
  exact ⟨k, hkl, hm, hk, h1, h2, h3⟩
theorem path_both {s : Timpl_Schema} {t : Timpl_Tree} {e : Timpl_Ex} (hs : sml_Schema s) (hT : TreeP s t) (hE : ExP s e) : ∀ (d k k' i : Nat) (pre : List Int), t.Nodes_.length - i ≤ d → d < k → d < k' → i < t.Nodes_.length → pre.length ≤ i →
    spec_l19Walk_L1 t e s k pre (i : Int) = some (pre ++ ints (pathN s t e d i)) ∧ impl_pathTo_L1 t e s k' (pre ++ [(i : Int)]) = some (pre ++ ints (pathN s t e d i), false) := by
  intro d
  have hlen := hT.2.1
  induction d with
  | zero => intro k k' i pre h1 h2 h3 h4; omega
  | succ d ih =>
    intro k k' i pre h1 h2 h3 hi hp
    obtain ⟨k, rfl⟩ : ∃ q, k = q + 1 := ⟨k - 1, by omega⟩
    obtain ⟨k', rfl⟩ : ∃ q, k' = q + 1 := ⟨k' - 1, by omega⟩
    have hlast : idx (pre ++ [(i : Int)]) (IntKind.i64.wrap (((pre ++ [(i : Int)]).length : Int) - 1)) = some (i : Int) := by
      rw [show ((pre ++ [(i : Int)]).length : Int) - 1 = (pre.length : Int) by simp, wrap_id (by omega) (by omega), idx_lt (by simp)]
      simp
    rw [spec_l19Walk_L1, impl_pathTo_L1, hlast]
    simp only [Option.bind_some]
    rw [idx_lt hi]
    simp only [Option.bind_some, pathN]
    rw [nodeAt_eq hi]
    cases hL : t.Nodes_[i].Leaf_
    · simp only [Bool.not_false, Bool.false_eq_true, if_true, if_false]
      obtain ⟨j, hj, hn, ht, hk, hlt, _⟩ := nxt_ok hs hT hE hi hL
      have hS := (hT.2.2.2 i hi hi).1.2.2.2.2.2 hL
      obtain ⟨b, hb, hb2, hb3, hb4⟩ := bin_ok hs hE hS.1
      rw [app_eq (by simp; omega), hb]
      simp only [Option.bind_some]
      have htk : takes s t.Nodes_[i] e = if 0 ≤ b then brOf (atr s t.Nodes_[i].Fork_) t.Nodes_[i].Fork_ b else t.Nodes_[i].Miss_ := by rw [hb2]; rfl
      obtain ⟨i1, i2⟩ := ih k k' (nxt s t e i) (pre ++ [(i : Int)]) (by omega) (by omega) (by omega) hn (by simp; omega)
      have hcons : pre ++ [(i : Int)] ++ ints (pathN s t e d (nxt s t e i)) = pre ++ ints (i :: pathN s t e d (nxt s t e i)) := by simp [ints]
      rw [hcons] at i1 i2
      have hJ : ∀ q : Int, q = takes s t.Nodes_[i] e → impl_pathTo_J1 t.Nodes_[i] (pre ++ [(i : Int)]) (impl_pathTo_L1 t e s k') q = some (pre ++ ints (i :: pathN s t e d (nxt s t e i)), false) := fun q hq => by
        unfold impl_pathTo_J1
        rw [hq, ht, idx_lt hj, hk]
        simp only [Option.bind_some]
        rw [app_eq (by simp; omega)]
        exact i2
      by_cases h0 : 0 ≤ b
      · rw [if_pos (by simpa using h0), if_pos (by simpa using h0), specBranchOf hs hS.1 ⟨h0, hb4⟩, implBranchOf hs hS.1 ⟨h0, hb4⟩]
        rw [if_pos h0] at htk
        simp only [Option.bind_some]
        rw [← htk, ht, idx_lt hj, hk]
        simp only [Option.bind_some]
        exact ⟨i1, by rw [← ht]; exact hJ _ rfl⟩
      · rw [if_neg (by simpa using h0), if_neg (by simpa using h0)]
        rw [if_neg h0] at htk
        rw [← htk, ht, idx_lt hj, hk]
        simp only [Option.bind_some]
        exact ⟨i1, by rw [← ht]; exact hJ _ rfl⟩
    · simp only [Bool.not_true, Bool.false_eq_true, if_true, if_false]
      rw [app_eq (by simp; omega)]
      exact ⟨rfl, rfl⟩
theorem paths {s : Timpl_Schema} {t : Timpl_Tree} {e : Timpl_Ex} (hs : sml_Schema s) (hT : TreeP s t) (hE : ExP s e) : spec_l19Walk s t e = some (ints (pathN s t e 32 0)) ∧ impl_pathTo s t e = some (ints (pathN s t e 32 0), false) := by
  have hlen := hT.2.1
  obtain ⟨h1, h2⟩ := path_both hs hT hE 32 Fuel Fuel 0 [] (by omega) (fuel_gt (by omega)) (fuel_gt (by omega)) (by omega) (Nat.le_refl _)
  exact ⟨h1, h2⟩
theorem path_len {s : Timpl_Schema} {t : Timpl_Tree} {e : Timpl_Ex} : ∀ d i, (pathN s t e d i).length ≤ d + 1
  | 0, i => by simp [pathN]
  | d + 1, i => by
    have := path_len (s := s) (t := t) (e := e) d (nxt s t e i)
    simp only [pathN]
    split
    · simp
    · simp only [List.length_cons]; omega
end Go.Vk
/- The first of the greatest: found alike. -/
namespace Go.Vk
def FirstMax (l : List Int) (j : Nat) : Prop := ∃ h : j < l.length, (∀ m, (hm : m < l.length) → l[m] ≤ l[j]) ∧ ∀ m, (hm : m < j) → l[m] < l[j]
theorem FirstMax.eq {l : List Int} {i j : Nat} (h : FirstMax l i) (g : FirstMax l j) : i = j := by
  obtain ⟨hi, h1, h2⟩ := h
  obtain ⟨hj, g1, g2⟩ := g
  rcases Nat.lt_trichotomy i j with c | c | c
  · have := g2 i c; have := h1 j hj; omega
  · exact c
  · have := h2 j c; have := g1 i hi; omega
theorem specTop {l : List Int} (hl : l.length ≤ 1048576) (h0 : l.length ≠ 0) : Tot (spec_TopOf l) (fun r => ∃ j : Nat, r = j ∧ FirstMax l j) := by
  unfold spec_TopOf
  refine tot_for (spec_TopOf_L1 l) l.length (fun i s => (i = 0 ∧ s = -1) ∨ ∃ j : Nat, s = j ∧ ∃ _ : j < i, ∃ hj : j < l.length, (∀ m, m < i → (hm : m < l.length) → l[m] ≤ l[j]) ∧ ∀ m, (hm : m < j) → l[m] < l[j]) (fun k s h => ?_) (fun k s i hi h ih => ?_) (by omega) (.inl ⟨rfl, rfl⟩)
  · rw [spec_TopOf_L1, if_neg (by simp)]
    rcases h with ⟨h, _⟩ | ⟨j, rfl, hj, hl, h1, h2⟩
    · exact absurd h h0
    · exact tot_some ⟨j, rfl, hl, fun m hm => h1 m hm hm, h2⟩
  · rw [spec_TopOf_L1, if_pos (by simp; omega), wrap_succ (by omega)]
    rcases h with ⟨h, rfl⟩ | ⟨j, rfl, hj, hjl, h1, h2⟩
    · rw [if_pos (by simp)]
      subst h
      exact ih _ (.inr ⟨0, rfl, by omega, hi, fun m hm _ => by
        have : m = 0 := by omega
        subst this; exact Int.le_refl _, fun m hm => by omega⟩)
    · rw [if_neg (by simp), idx_lt hi, idx_lt hjl]
      simp only [Option.bind_some]
      by_cases hc : l[i] > l[j]
      · rw [if_pos (by simpa using hc)]
        refine ih _ (.inr ⟨i, rfl, by omega, hi, fun m hm hml => ?_, fun m hm => ?_⟩)
        · by_cases e : m = i
          · subst e; exact Int.le_refl _
          · have := h1 m (by omega) hml; omega
        · have := h1 m hm (by omega); omega
      · rw [if_neg (by simpa using hc)]
        refine ih _ (.inr ⟨j, rfl, by omega, hjl, fun m hm hml => ?_, h2⟩)
        by_cases e : m = i
        · subst e; omega
        · exact h1 m (by omega) hml
theorem implMax {l : List Int} (hl : l.length ≤ 1048576) (h0 : l.length ≠ 0) : Tot (lib_slices_Max___int_int_ l) (fun r => r ∈ l ∧ ∀ x ∈ l, x ≤ r) := by
  unfold lib_slices_Max___int_int_
  rw [if_neg (by simp; omega), show (0 : Int) = ((0 : Nat) : Int) from rfl, idx_lt (show 0 < l.length by omega)]
  simp only [Option.bind_some]
  have key : ∀ (d k i : Nat) (s : Int), l.length - i = d → d < k → 1 ≤ i → i ≤ l.length → s ∈ l → (∀ m, m < i → (hm : m < l.length) → l[m] ≤ s) → Tot (lib_slices_Max___int_int__L1 l k s (i : Int)) (fun r => r ∈ l ∧ ∀ x ∈ l, x ≤ r) := by
    intro d
    induction d with
    | zero =>
      intro k i s hd hk h1 hi hm hs
      obtain ⟨k, rfl⟩ : ∃ q, k = q + 1 := ⟨k - 1, by omega⟩
      rw [lib_slices_Max___int_int__L1, if_neg (by simp; omega)]
      refine tot_some ⟨hm, fun x hx => ?_⟩
      obtain ⟨m, hml, rfl⟩ := List.getElem_of_mem hx
      exact hs m (by omega) hml
    | succ d ih =>
      intro k i s hd hk h1 hi hm hs
      obtain ⟨k, rfl⟩ : ∃ q, k = q + 1 := ⟨k - 1, by omega⟩
      have hlt : i < l.length := by omega
      rw [lib_slices_Max___int_int__L1, if_pos (by simp; omega), idx_lt hlt, wrap_succ (by omega)]
      simp only [Option.bind_some]
      refine ih k (i + 1) _ (by omega) (by omega) (by omega) (by omega) ?_ (fun m hm2 hml => ?_)
      · split
        · exact List.getElem_mem hlt
        · exact hm
      · by_cases e : m = i
        · subst e; split <;> omega
        · have := hs m (by omega) hml; split <;> omega
  exact key (l.length - 1) Fuel 1 _ rfl (fuel_gt (by omega)) (Nat.le_refl _) (by omega) (List.getElem_mem _) (fun m hm _ => by
    have : m = 0 := by omega
    subst this; exact Int.le_refl _)
theorem implTop {l : List Int} (hl : l.length ≤ 1048576) (h0 : l.length ≠ 0) : Tot (impl_TopOf l) (fun r => ∃ j : Nat, r = j ∧ FirstMax l j) := by
  unfold impl_TopOf
  rw [if_neg (by simp only [beq_iff_eq]; omega)]
  obtain ⟨r, e, hr, hm⟩ := implMax hl h0
  rw [e]
  simp only [Option.bind_some]
  have hid : ∀ o : Option Int, (o.bind fun y => some y) = o := fun o => by cases o <;> rfl
  rw [hid]
  unfold lib_slices_Index___int_int_
  refine tot_for (fun k (_ : Unit) i => lib_slices_Index___int_int__L1 l r k i) l.length (fun i _ => ∀ m, m < i → (hm : m < l.length) → l[m] ≠ r) (fun k s h => ?_) (fun k s i hi h ih => ?_) (by omega) (s := ()) (fun m hm => by omega)
  · obtain ⟨j, hj, e2⟩ := List.getElem_of_mem hr
    exact absurd e2 (h j hj hj)
  · show Tot (lib_slices_Index___int_int__L1 l r (k + 1) (i : Int)) _
    rw [lib_slices_Index___int_int__L1, if_pos (by simp; omega), idx_lt hi, wrap_succ (by omega)]
    simp only [Option.bind_some]
    by_cases hc : r = l[i]
    · rw [if_pos (by simpa using hc)]
      refine tot_some ⟨i, rfl, hi, fun m hm2 => by rw [← hc]; exact hm _ (List.getElem_mem hm2), fun m hm2 => ?_⟩
      have h1 := h m hm2 (by omega)
      have h2 := hm _ (List.getElem_mem (by omega : m < l.length))
      omega
    · rw [if_neg (by simpa using hc)]
      exact ih () (fun m hm2 hml => by
        by_cases e : m = i
        · subst e; exact fun g => hc g.symm
        · exact h m (by omega) hml)
theorem top_both {l : List Int} (hl : l.length ≤ 1048576) (h0 : l.length ≠ 0) : ∃ j : Nat, FirstMax l j ∧ spec_TopOf l = some (j : Int) ∧ impl_TopOf l = some (j : Int) := by
  obtain ⟨_, e1, j, rfl, h1⟩ := specTop hl h0
  obtain ⟨_, e2, i, rfl, h2⟩ := implTop hl h0
  obtain rfl := h1.eq h2
  exact ⟨j, h1, e1, e2⟩
end Go.Vk
/- The buckets of a window: alike. -/
namespace Go.Vk
/-- the buckets of the first c rows, the oldest first -/
def bk (p : Timpl_Window) : Nat → List Timpl_Bucket
  | 0 => []
  | c + 1 => ((p.Rows_[c]?).getD []).map (Timpl_Bucket.mk ((2 ^ c : Nat) : Int)) ++ bk p c
theorem bk_len {p : Timpl_Window} (h : WinP p) : ∀ c, c ≤ p.Rows_.length → (bk p c).length ≤ 3 * c
  | 0, _ => by simp [bk]
  | c + 1, hc => by
    have := bk_len h c (by omega)
    have := ((h.2 c (by omega)) (by omega)).1
    have h' : c < p.Rows_.length := by omega
    simp [bk, h']
    omega
theorem map_more {α β ρ : Type} {p : List α} (g : α → β) (l : List β) (Lp : Nat → List β → Int → Option ρ) (fin : List β → Option ρ)
    (hz : ∀ k v, Lp (k + 1) v (p.length : Int) = fin v)
    (hs : ∀ k v (i : Nat) (h : i < p.length), v.length = l.length + i → Lp (k + 1) v (i : Int) = Lp k (v ++ [g p[i]]) ((i + 1 : Nat) : Int))
    (hp : p.length < 1000000000000) : Lp Fuel l 0 = fin (l ++ p.map g) := by
  have := for_idx (Lp := fun k i => Lp k (l ++ (p.take i).map g) (i : Int)) (n := p.length) (fin := fin (l ++ p.map g)) (fun k => by
    show Lp _ _ _ = _
    rw [hz, List.take_length]) (fun k i hi => by
    show Lp _ _ _ = Lp _ _ _
    rw [hs _ _ _ hi (by simp; omega), List.take_succ_eq_append_getElem hi, List.map_append, List.append_assoc]
    rfl) hp
  simpa using this
theorem specBk {p : Timpl_Window} (h : WinP p) : ∀ c k l, c ≤ p.Rows_.length → c < k → l.length + 3 * c ≤ 1000 → spec_Buckets_L1 p k l ((c : Int) - 1) = some (l ++ bk p c) := by
  intro c
  induction c with
  | zero =>
    intro k l _ hk hl
    obtain ⟨k, rfl⟩ : ∃ q, k = q + 1 := ⟨k - 1, by omega⟩
    rw [spec_Buckets_L1, if_neg (by simp), bk, List.append_nil]
  | succ c ih =>
    intro k l hc hk hl
    obtain ⟨k, rfl⟩ : ∃ q, k = q + 1 := ⟨k - 1, by omega⟩
    have h8 := h.1
    have hc' : c < p.Rows_.length := by omega
    have hr := (h.2 c hc' hc').1
    have e : ((c + 1 : Nat) : Int) - 1 = c := by omega
    rw [e, spec_Buckets_L1, if_pos (by simp), map_more (p := p.Rows_[c]) (Timpl_Bucket.mk ((2 ^ c : Nat) : Int)) l (spec_Buckets_L2 p c (spec_Buckets_L1 p k)) (fun l => spec_Buckets_L1 p k l ((c : Int) - 1)) (fun k2 v => by
      rw [spec_Buckets_L2, idx_lt hc']
      simp only [Option.bind_some]
      rw [if_neg (by simp), wrap_id (by omega) (by omega)]) (fun k2 v j hj hv => by
      rw [spec_Buckets_L2, idx_lt hc']
      simp only [Option.bind_some]
      rw [if_pos (by simp; omega), idx_lt hj, pow2_ok (by omega), wrap_succ (by omega)]
      unfold app
      simp only [Option.bind_some]
      rw [if_pos (by simp; omega)]
      rfl) (by omega), ih k _ (by omega) (by omega) (by simp; omega)]
    simp [bk, hc']
theorem implBk {p : Timpl_Window} (h : WinP p) : ∀ c k l, c ≤ p.Rows_.length → c < k → l.length + 3 * c ≤ 1000 → impl_Buckets_L1 p k l ((c : Int) - 1) = some (l ++ bk p c) := by
  intro c
  induction c with
  | zero =>
    intro k l _ hk hl
    obtain ⟨k, rfl⟩ : ∃ q, k = q + 1 := ⟨k - 1, by omega⟩
    rw [impl_Buckets_L1, if_neg (by simp), bk, List.append_nil]
  | succ c ih =>
    intro k l hc hk hl
    obtain ⟨k, rfl⟩ : ∃ q, k = q + 1 := ⟨k - 1, by omega⟩
    have h8 := h.1
    have hc' : c < p.Rows_.length := by omega
    have hr := (h.2 c hc' hc').1
    have e : ((c + 1 : Nat) : Int) - 1 = c := by omega
    rw [e, impl_Buckets_L1, if_pos (by simp), idx_lt hc']
    simp only [Option.bind_some]
    rw [map_more (p := p.Rows_[c]) (Timpl_Bucket.mk ((2 ^ c : Nat) : Int)) l (fun k2 v j => impl_Buckets_L2 p.Rows_[c] c (impl_Buckets_L1 p k) k2 j v) (fun l => impl_Buckets_L1 p k l ((c : Int) - 1)) (fun k2 v => by
      show impl_Buckets_L2 _ _ _ _ _ _ = _
      rw [impl_Buckets_L2]
      rw [if_neg (by simp), wrap_id (by omega) (by omega)]) (fun k2 v j hj hv => by
      show impl_Buckets_L2 _ _ _ _ _ _ = _
      rw [impl_Buckets_L2]
      rw [if_pos (by simp; omega), idx_lt hj, shl_pow c (by omega), wrap_succ (by omega)]
      unfold app
      simp only [Option.bind_some]
      rw [if_pos (by simp; omega)]
      rfl) (by omega), ih k _ (by omega) (by omega) (by simp; omega)]
    simp [bk, hc']
theorem buckets_ok {p : Timpl_Window} (hp : sml_Window p) (h : WinP p) : spec_Buckets p = some (bk p p.Rows_.length) ∧ impl_Buckets p = some (bk p p.Rows_.length) := by
  unfold spec_Buckets impl_Buckets
  have h8 := h.1
  have e1 : spec_WindowOk p = some true := by
    rcases (specWin p).cases with ⟨e, _⟩ | ⟨_, g⟩
    · exact e
    · exact absurd h g
  have e2 : impl_WindowOk p = some true := by
    rcases (implWin hp).cases with ⟨e, _⟩ | ⟨_, g⟩
    · exact e
    · exact absurd h g
  rw [e1, e2]
  simp only [Option.bind_some, Bool.not_true, Bool.false_eq_true, if_false]
  rw [wrap_id (by omega) (by omega), specBk h _ _ _ (Nat.le_refl _) (fuel_gt (by omega)) (by simp; omega), implBk h _ _ _ (Nat.le_refl _) (fuel_gt (by omega)) (by simp; omega)]
  exact ⟨rfl, rfl⟩
/-- buckets with no more ones than they are long -/
theorem bk_b {p : Timpl_Window} (h : WinP p) : ∀ c, c ≤ p.Rows_.length → ∀ b ∈ bk p c, 0 ≤ b.Ones_ ∧ b.Ones_ ≤ b.Size_ ∧ b.Size_ ≤ 128
  | 0, _, _, g => by simp [bk] at g
  | c + 1, hc, b, hb => by
    have h8 := h.1
    simp only [bk, List.mem_append, List.mem_map] at hb
    rcases hb with ⟨x, hx, rfl⟩ | hb
    · have h2 : (2 : Nat) ^ c ≤ 2 ^ 7 := Nat.pow_le_pow_right (by omega) (by omega)
      have hc' : c < p.Rows_.length := by omega
      rw [List.getElem?_eq_getElem hc'] at hx
      have := (h.2 c hc' hc').2 x hx
      show 0 ≤ x ∧ x ≤ ((2 ^ c : Nat) : Int) ∧ ((2 ^ c : Nat) : Int) ≤ 128
      generalize (2 : Nat) ^ c = q at *
      omega
    · exact bk_b h c (by omega) b hb
def onesN (l : List Timpl_Bucket) : Int := (l.map fun b => b.Ones_).sum
def sizesN (l : List Timpl_Bucket) : Int := (l.map fun b => b.Size_).sum
theorem bk_sums {l : List Timpl_Bucket} (h : ∀ b ∈ l, 0 ≤ b.Ones_ ∧ b.Ones_ ≤ b.Size_ ∧ b.Size_ ≤ 128) : 0 ≤ onesN l ∧ onesN l ≤ sizesN l ∧ sizesN l ≤ 128 * (l.length : Int) := by
  induction l with
  | nil => simp [onesN, sizesN]
  | cons b l ih =>
    have h1 := h b (List.mem_cons_self ..)
    have h2 := ih (fun x hx => h x (List.mem_cons_of_mem _ hx))
    simp only [onesN, sizesN, List.map_cons, List.sum_cons, List.length_cons] at *
    omega
theorem ones_ok {y : List Timpl_Bucket} (hy : y.length ≤ 1000) (hb : ∀ b ∈ y, 0 ≤ b.Ones_ ∧ b.Ones_ ≤ b.Size_ ∧ b.Size_ ≤ 128) : spec_WindowOnes_L1 y Fuel 0 0 = some (onesN y) ∧ impl_WindowOnes_L1 y Fuel 0 0 = some (onesN y) := by
  have key : ∀ i, i ≤ y.length → 0 ≤ onesN (y.take i) ∧ onesN (y.take i) ≤ 128000 := fun i hi => by
    have := bk_sums (l := y.take i) (fun b hb' => hb b (List.mem_of_mem_take hb'))
    rw [List.length_take] at this
    omega
  have step : ∀ i (h : i < y.length), onesN (y.take (i + 1)) = onesN (y.take i) + y[i].Ones_ := fun i h => by
    unfold onesN
    rw [List.take_succ_eq_append_getElem h, List.map_append, List.sum_append_int]
    simp
  constructor
  · obtain ⟨v, e, hv⟩ := tot_for (spec_WindowOnes_L1 y) y.length (fun i s => s = onesN (y.take i)) (Q := fun v => v = onesN y) (fun k s h => by
      rw [spec_WindowOnes_L1, if_neg (by simp)]
      rw [List.take_length] at h
      exact tot_some h) (fun k s i hi h hk => by
      have k1 := key i (by omega)
      have k2 := key (i + 1) (by omega)
      rw [step i hi] at k2
      rw [spec_WindowOnes_L1, if_pos (by simp; omega), idx_lt hi, wrap_succ (by omega)]
      simp only [Option.bind_some]
      rw [h, wrap_id (by omega) (by omega), ← step i hi]
      exact hk _ rfl) (by omega) (s := 0) (by simp [onesN])
    rw [e, hv]
  · obtain ⟨v, e, hv⟩ := tot_for (impl_WindowOnes_L1 y) y.length (fun i s => s = onesN (y.take i)) (Q := fun v => v = onesN y) (fun k s h => by
      rw [impl_WindowOnes_L1, if_neg (by simp)]
      rw [List.take_length] at h
      exact tot_some h) (fun k s i hi h hk => by
      have k1 := key i (by omega)
      have k2 := key (i + 1) (by omega)
      rw [step i hi] at k2
      rw [impl_WindowOnes_L1, if_pos (by simp; omega), idx_lt hi, wrap_succ (by omega)]
      simp only [Option.bind_some]
      rw [h, wrap_id (by omega) (by omega), ← step i hi]
      exact hk _ rfl) (by omega) (s := 0) (by simp [onesN])
    rw [e, hv]
theorem sizes_ok {y : List Timpl_Bucket} (hy : y.length ≤ 1000) (hb : ∀ b ∈ y, 0 ≤ b.Ones_ ∧ b.Ones_ ≤ b.Size_ ∧ b.Size_ ≤ 128) : spec_WindowTotal_L1 y Fuel 0 0 = some (sizesN y) ∧ impl_WindowTotal_L1 y Fuel 0 0 = some (sizesN y) := by
  have key : ∀ i, i ≤ y.length → 0 ≤ sizesN (y.take i) ∧ sizesN (y.take i) ≤ 128000 := fun i hi => by
    have := bk_sums (l := y.take i) (fun b hb' => hb b (List.mem_of_mem_take hb'))
    rw [List.length_take] at this
    omega
  have step : ∀ i (h : i < y.length), sizesN (y.take (i + 1)) = sizesN (y.take i) + y[i].Size_ := fun i h => by
    unfold sizesN
    rw [List.take_succ_eq_append_getElem h, List.map_append, List.sum_append_int]
    simp
  constructor
  · obtain ⟨v, e, hv⟩ := tot_for (spec_WindowTotal_L1 y) y.length (fun i s => s = sizesN (y.take i)) (Q := fun v => v = sizesN y) (fun k s h => by
      rw [spec_WindowTotal_L1, if_neg (by simp)]
      rw [List.take_length] at h
      exact tot_some h) (fun k s i hi h hk => by
      have k1 := key i (by omega)
      have k2 := key (i + 1) (by omega)
      rw [step i hi] at k2
      rw [spec_WindowTotal_L1, if_pos (by simp; omega), idx_lt hi, wrap_succ (by omega)]
      simp only [Option.bind_some]
      rw [h, wrap_id (by omega) (by omega), ← step i hi]
      exact hk _ rfl) (by omega) (s := 0) (by simp [sizesN])
    rw [e, hv]
  · obtain ⟨v, e, hv⟩ := tot_for (impl_WindowTotal_L1 y) y.length (fun i s => s = sizesN (y.take i)) (Q := fun v => v = sizesN y) (fun k s h => by
      rw [impl_WindowTotal_L1, if_neg (by simp)]
      rw [List.take_length] at h
      exact tot_some h) (fun k s i hi h hk => by
      have k1 := key i (by omega)
      have k2 := key (i + 1) (by omega)
      rw [step i hi] at k2
      rw [impl_WindowTotal_L1, if_pos (by simp; omega), idx_lt hi, wrap_succ (by omega)]
      simp only [Option.bind_some]
      rw [h, wrap_id (by omega) (by omega), ← step i hi]
      exact hk _ rfl) (by omega) (s := 0) (by simp [sizesN])
    rw [e, hv]
/-- a window's totals -/
theorem window_sums {p : Timpl_Window} (hp : sml_Window p) (h : WinP p) : ∃ T O : Int, (0 ≤ O ∧ O ≤ T ∧ T ≤ 128000) ∧ (spec_WindowTotal p = some T ∧ impl_WindowTotal p = some T) ∧ spec_WindowOnes p = some O ∧ impl_WindowOnes p = some O := by
  obtain ⟨e1, e2⟩ := buckets_ok hp h
  have hb := bk_b h p.Rows_.length (Nat.le_refl _)
  have hl := bk_len h p.Rows_.length (Nat.le_refl _)
  have h8 := h.1
  have hs := bk_sums hb
  obtain ⟨a1, a2⟩ := ones_ok (by omega) hb
  obtain ⟨b1, b2⟩ := sizes_ok (by omega) hb
  unfold spec_WindowTotal impl_WindowTotal spec_WindowOnes impl_WindowOnes
  rw [e1, e2]
  simp only [Option.bind_some]
  exact ⟨_, _, ⟨hs.1, hs.2.1, by omega⟩, ⟨b1, b2⟩, a1, a2⟩
end Go.Vk
/- What a state says: alike. -/
namespace Go.Vk
theorem thousandths_both (f : Timpl_Frac) : Both (spec_Thousandths f) (impl_Thousandths f) (fun _ => True) := by
  unfold spec_Thousandths impl_Thousandths
  have h : ∀ o : Option Bool, o = spec_FracOk f → Dec o ((0 ≤ f.Num_ ∧ f.Num_ ≤ 4000000000000000) ∧ 1 ≤ f.Den_ ∧ f.Den_ ≤ 4000000000000000) := fun o ho => by
    rw [ho]
    unfold spec_FracOk
    simp only [id_some]
    exact dec_and dec_l1In fun _ => dec_l1In
  have h' : Dec (impl_FracOk f) ((0 ≤ f.Num_ ∧ f.Num_ ≤ 4000000000000000) ∧ 1 ≤ f.Den_ ∧ f.Den_ ≤ 4000000000000000) := by
    unfold impl_FracOk
    simp only [id_some]
    exact dec_and dec_within fun _ => dec_within
  refine both_dec (h _ rfl) h' (fun g => ?_) (fun _ => by simp only [Bool.not_false, Bool.true_or, if_true]; exact both_some trivial)
  refine both_if Iff.rfl (fun _ => both_some trivial) (fun _ => ?_)
  unfold quo
  rw [if_neg (by omega), if_neg (by omega), Int.mul_comm 1000]
  exact both_some trivial
theorem voices_both {c : Timpl_Conf} {f : Timpl_Forest} (hc : sml_Schema c.Schema_) (hf : sml_Forest f) : Both (spec_Voices c f) (impl_Voices c f) (fun l => l.length ≤ 1048576) := by
  unfold spec_Voices impl_Voices
  refine both_dec (specForest hc hf) (implForest hc hf) (fun hF => ?_) (fun _ => by simp only [Bool.not_false, if_true]; exact both_some (by simp))
  simp only [Bool.not_true, Bool.false_eq_true, if_false]
  have hl := hf.1
  refine both_for (fun k l i => spec_Voices_L1 f k l i) (fun k l i => impl_Voices_L1 f k i l) f.Members_.length (fun i a b => b = a ∧ a.length = i) (fun k a b h => ?_) (fun k a b i hi h hk => ?_) (by omega) ⟨rfl, rfl⟩
  · obtain ⟨rfl, h⟩ := h
    rw [spec_Voices_L1, impl_Voices_L1, if_neg (by simp), if_neg (by simp)]
    exact both_some (by omega)
  · obtain ⟨rfl, h⟩ := h
    have hm := hF.2.2 _ (List.getElem_mem hi)
    obtain ⟨T, O, hTO, ⟨t1, t2⟩, o1, o2⟩ := window_sums (hf.2 _ (List.getElem_mem hi)).2.2.2.2 hm.2.2.1.2
    rw [spec_Voices_L1, impl_Voices_L1, if_pos (by simp; omega), if_pos (by simp; omega), idx_lt hi, wrap_succ (by omega)]
    simp only [Option.bind_some]
    rw [t1, t2, o1, o2]
    simp only [Option.bind_some]
    rw [wrap_id (n := T - O) (by omega) (by omega), wrap_id (n := 1 + T) (by omega) (by omega), show 1 + T - O = T - O + 1 by omega, Int.add_comm 2 T]
    refine (thousandths_both _).bind fun v _ => ?_
    rw [app_eq (by simp; omega)]
    simp only [Option.bind_some]
    exact hk _ _ ⟨rfl, by simp [h]⟩
theorem tally_both (n : Int) (p q : List Int) : Both (spec_Tally n p q) (impl_Tally n p q) (fun l => l.length ≤ 3) := by
  unfold spec_Tally impl_Tally impl_zeros
  refine both_dec dec_l1In dec_within (fun hn => ?_) (fun _ => by simp only [Bool.not_false, Bool.true_or, if_true]; exact both_some (by simp))
  simp only [Bool.not_true, Bool.false_or]
  refine both_if Iff.rfl (fun _ => both_some (by simp)) (fun g => ?_)
  have g : p.length = q.length ∧ p.length ≤ 64 := by
    simp only [Bool.or_eq_true, bne_iff_ne, ne_eq, decide_eq_true_eq, not_or, Decidable.not_not] at g
    omega
  unfold mk
  rw [if_pos (by omega)]
  simp only [Option.bind_some]
  refine both_for (fun k l i => spec_Tally_L1 p n q k l i) (fun k l i => impl_Tally_L1 p n q k i l) p.length (fun i a b => b = a ∧ a.length = n.toNat) (fun k a b h => ?_) (fun k a b i hi h hk => ?_) (by omega) ⟨rfl, by simp⟩
  · obtain ⟨rfl, h⟩ := h
    rw [spec_Tally_L1, impl_Tally_L1, if_neg (by simp), if_neg (by simp)]
    exact both_some (by omega)
  · obtain ⟨rfl, h⟩ := h
    have hq : i < q.length := by omega
    rw [spec_Tally_L1, impl_Tally_L1, if_pos (by simp; omega), if_pos (by simp; omega), idx_lt hi, idx_lt hq, wrap_succ (by omega)]
    simp only [Option.bind_some]
    refine both_dec dec_l1In dec_within (fun h1 => ?_) (fun _ => by simp only [Option.bind_some, Bool.not_false, if_true]; exact both_some (by simp))
    simp only [Bool.not_true, Bool.false_eq_true, if_false]
    rw [← (dec_l1In (x := q[i]) (a := 0) (b := 1000)).eq dec_within]
    rcases (dec_l1In (x := q[i]) (a := 0) (b := 1000)).cases with ⟨e, _⟩ | ⟨e, _⟩
    · rw [e]
      simp only [Option.bind_some, Bool.not_true, Bool.false_eq_true, if_false]
      refine both_if Iff.rfl (fun h0 => ?_) (fun _ => hk _ _ ⟨rfl, h⟩)
      have h0 : 0 ≤ p[i] := by simpa using h0
      rw [wrap_id (by omega) (by omega)] at h1
      obtain ⟨j, hj⟩ : ∃ j : Nat, p[i] = j := ⟨p[i].toNat, by omega⟩
      rw [hj, idx_lt (show j < b.length by omega)]
      simp only [Option.bind_some]
      exact hk _ _ ⟨rfl, by simpa using h⟩
    · rw [e]
      simp only [Option.bind_some, Bool.not_false, if_true]
      exact both_some (by simp)
theorem topAny {l : List Int} (hl : l.length ≤ 1048576) : Both (spec_TopOf l) (impl_TopOf l) (fun _ => True) := by
  by_cases h : l.length = 0
  · have : l = [] := List.length_eq_zero_iff.1 h
    subst this
    refine ⟨-1, ?_, rfl, trivial⟩
    unfold spec_TopOf
    obtain ⟨k, hk⟩ : ∃ q, Fuel = q + 1 := ⟨Fuel - 1, by have := fuel_gt (show 0 < 1000000000000 by omega); omega⟩
    rw [hk, spec_TopOf_L1, if_neg (by simp)]
  · obtain ⟨j, _, h1, h2⟩ := top_both hl h
    exact ⟨_, h1, h2, trivial⟩
theorem path_ne {s : Timpl_Schema} {t : Timpl_Tree} {e : Timpl_Ex} : ∀ d i, 1 ≤ (pathN s t e d i).length
  | 0, i => by simp [pathN]
  | d + 1, i => by
    simp only [pathN]
    split <;> simp
theorem path_in {s : Timpl_Schema} {t : Timpl_Tree} {e : Timpl_Ex} (hs : sml_Schema s) (hT : TreeP s t) (hE : ExP s e) : ∀ (d i : Nat), i < t.Nodes_.length → ∀ j ∈ pathN s t e d i, j < t.Nodes_.length
  | 0, i, hi, j, hj => by
    simp only [pathN, List.mem_singleton] at hj
    omega
  | d + 1, i, hi, j, hj => by
    simp only [pathN] at hj
    split at hj
    · rw [List.mem_singleton] at hj
      omega
    · rename_i hL
      rw [nodeAt_eq hi] at hL
      rcases List.mem_cons.1 hj with rfl | hj
      · exact hi
      · obtain ⟨_, _, hn, _⟩ := nxt_ok hs hT hE hi (by simpa using hL)
        exact path_in hs hT hE d _ hn j hj
theorem leaf_both {s : Timpl_Schema} {t : Timpl_Tree} {e : Timpl_Ex} (hs : sml_Schema s) (ht : sml_Tree t) : Both (spec_LeafVote s t e) (impl_LeafVote s t e) (fun l => l.length ≤ 1048576) := by
  unfold spec_LeafVote impl_LeafVote
  have bad : Both (some ([] : List Int)) (some []) (fun l => l.length ≤ 1048576) := both_some (by simp)
  unfold spec_PathTo impl_PathTo
  rw [← (specTree hs ht).eq (implTree hs ht)]
  rcases (specTree hs ht).cases with ⟨e1, hT⟩ | ⟨e1, _⟩
  · rw [e1]
    simp only [Option.bind_some, Bool.not_true, Bool.false_eq_true, if_false]
    rw [← (specEx (e := e) (okS_of hs)).eq (implEx (okS_of hs))]
    rcases (specEx (e := e) (okS_of hs)).cases with ⟨e2, hE⟩ | ⟨e2, _⟩
    · rw [e2]
      simp only [Option.bind_some, Bool.not_true, Bool.false_eq_true, if_false]
      obtain ⟨p1, p2⟩ := paths hs hT hE
      rw [p1, p2]
      simp only [Option.bind_some, Bool.false_eq_true, if_false]
      have hin := path_in hs hT hE 32 0 (by have := hT.2.1; omega)
      have hlen := path_len (s := s) (t := t) (e := e) 32 0
      have hcl := hT.1.2.1
      have hne := path_ne (s := s) (t := t) (e := e) 32 0
      generalize pathN s t e 32 0 = ns at hin hlen hne
      have hl : (ints ns).length = ns.length := by simp [ints]
      have key : ∀ (c k k' : Nat), c ≤ ns.length → c < k → k' = k → Both (spec_LeafVote_L1 (ints ns) t s k ((c : Int) - 1)) (impl_LeafVote_L1 (ints ns, false) t s k' ((c : Int) - 1)) (fun l => l.length ≤ 1048576) := by
        intro c
        induction c with
        | zero =>
          intro k k' hc hk hk'
          obtain ⟨k, rfl⟩ : ∃ q, k = q + 1 := ⟨k - 1, by omega⟩
          subst hk'
          unfold spec_LeafVote_L1 impl_LeafVote_L1 impl_zeros
          rw [if_neg (by simp), if_neg (by simp)]
          unfold mk
          rw [if_pos (by omega)]
          simp only [Option.bind_some]
          exact both_some (by simp; omega)
        | succ c ih =>
          intro k k' hc hk hk'
          obtain ⟨k, rfl⟩ : ∃ q, k = q + 1 := ⟨k - 1, by omega⟩
          subst hk'
          have hcl : c < ns.length := by omega
          have hx := hin _ (List.getElem_mem hcl)
          have e0 : idx (ints ns) (c : Int) = some (ns[c] : Int) := by
            rw [idx_lt (by omega)]
            simp [ints]
          have hst : sml_Stats t.Nodes_[ns[c]].Stats_ := (ht.1.2 _ (List.getElem_mem hx)).2.2.2.2.1
          have hP := (hT.2.2.2 _ hx hx).1.2.2.1
          rw [show ((c + 1 : Nat) : Int) - 1 = (c : Int) by omega, spec_LeafVote_L1, impl_LeafVote_L1, if_pos (by simp), if_pos (by simp), e0]
          simp only [Option.bind_some]
          rw [idx_lt hx]
          simp only [Option.bind_some]
          rw [specTotal hs hst hP, total_of (fun x hx => by have := hP.2.2.1 x hx; omega) hst.1.1]
          simp only [Option.bind_some]
          refine both_if Iff.rfl (fun _ => ?_) (fun _ => ?_)
          · unfold lib_slices_Clone___int_int_
            have := hst.1.1
            rw [app_eq (by simp; omega)]
            exact both_some (by simpa using this)
          · rw [wrap_id (by omega) (by omega)]
            exact ih k k (by omega) (by omega) rfl
      rw [if_neg (by simp only [beq_iff_eq]; omega)]
      rw [hl, wrap_id (by omega) (by omega)]
      exact key _ Fuel Fuel (Nat.le_refl _) (fuel_gt (by omega)) rfl
    · rw [e2]
      simp only [Option.bind_some, Bool.not_false, if_true]
      exact bad
  · rw [e1]
    simp only [Option.bind_some, Bool.not_false, if_true]
    exact bad
theorem treeSays_both {s : Timpl_Schema} {t : Timpl_Tree} {e : Timpl_Ex} (hs : sml_Schema s) (ht : sml_Tree t) : Both (spec_TreeSays s t e) (impl_TreeSays s t e) (fun _ => True) := by
  unfold spec_TreeSays impl_TreeSays
  exact (leaf_both hs ht).bind fun l hl => (topAny hl).bind fun v _ => both_some trivial
theorem forestSays_both {c : Timpl_Conf} {f : Timpl_Forest} {e : Timpl_Ex} (hc : sml_Schema c.Schema_) (hf : sml_Forest f) : Both (spec_ForestSays c f e) (impl_ForestSays c f e) (fun y => y.2.length ≤ 3) := by
  unfold spec_ForestSays impl_ForestSays
  have bad : Both (some ((-1 : Int), ([] : List Int))) (some (-1, [])) (fun y => y.2.length ≤ 3) := both_some (by simp)
  refine both_dec (specForest hc hf) (implForest hc hf) (fun hF => ?_) (fun _ => by simp only [Option.bind_some, Bool.not_false, if_true]; exact bad)
  simp only [Bool.not_true, Bool.false_eq_true, if_false]
  rw [← (specEx (e := e) (okS_of hc)).eq (implEx (okS_of hc))]
  rcases (specEx (e := e) (okS_of hc)).cases with ⟨e2, _⟩ | ⟨e2, _⟩
  · rw [e2]
    simp only [Option.bind_some, Bool.not_true, Bool.false_eq_true, if_false]
    have hl := hf.1
    refine both_for (fun k l i => spec_ForestSays_L1 f c e k l i) (fun k l i => impl_ForestSays_L1 f c e k i l) f.Members_.length (fun i a b => b = a ∧ a.length = i) (fun k a b h => ?_) (fun k a b i hi h hk => ?_) (by omega) ⟨rfl, rfl⟩
    · obtain ⟨rfl, h⟩ := h
      rw [spec_ForestSays_L1, impl_ForestSays_L1, if_neg (by simp), if_neg (by simp)]
      refine (voices_both hc hf).bind fun v _ => (tally_both _ _ _).bind fun w hw => (topAny (by omega)).bind fun z _ => both_some hw
    · obtain ⟨rfl, h⟩ := h
      rw [spec_ForestSays_L1, impl_ForestSays_L1, if_pos (by simp; omega), if_pos (by simp; omega), idx_lt hi, wrap_succ (by omega)]
      simp only [Option.bind_some]
      refine (treeSays_both hc (hf.2 _ (List.getElem_mem hi)).1).bind fun v _ => ?_
      rw [app_eq (by simp; omega)]
      simp only [Option.bind_some]
      exact hk _ _ ⟨rfl, by simp [h]⟩
  · rw [e2]
    simp only [Option.bind_some, Bool.not_false, if_true]
    exact bad
theorem stateSays_same {st : Timpl_State} {e : Timpl_Ex} (h : sml_State st) : ∃ m, spec_StateSays st e = some m ∧ impl_StateSays st e = some m ∧ len_IntS m.2 ∧ mc_IntS m.2 ≤ 1000000000000000000 := by
  suffices h : Both (spec_StateSays st e) (impl_StateSays st e) (fun y => y.2.length ≤ 3) by
    obtain ⟨m, h1, h2, h3⟩ := h
    exact ⟨m, h1, h2, by unfold len_IntS; omega, by unfold mc_IntS; rw [sum_ones']; omega⟩
  unfold spec_StateSays impl_StateSays
  exact (forestSays_both h.1.1 h.2.1).bind fun y hy => both_some hy
end Go.Vk
