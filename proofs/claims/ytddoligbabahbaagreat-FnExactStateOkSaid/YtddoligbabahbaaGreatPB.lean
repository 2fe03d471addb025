/- Scores: tested alike by the program. -/
import Derived.Test.YtddoligbabahbaaGreatPSt
namespace Go.Vk
def cm (l : List Timpl_Pair) : List (Timpl_Pair × Int) := l.foldl (fun m p => mPut m p (IntKind.i64.wrap (mGet m p + 1))) []
theorem cm_from (l : List Timpl_Pair) : ∀ m : List (Timpl_Pair × Int), (∀ q, 0 ≤ mGet m q ∧ mGet m q + l.length ≤ 1000000000) → ∀ q, mGet (l.foldl (fun m p => mPut m p (IntKind.i64.wrap (mGet m p + 1))) m) q = mGet m q + l.count q := by
  induction l with
  | nil => intro m _ q; simp
  | cons p l ih =>
    intro m hm q
    rw [List.foldl_cons]
    have hp := hm p
    simp only [List.length_cons] at hm hp
    have hw : IntKind.i64.wrap (mGet m p + 1) = mGet m p + 1 := wrap_id (by omega) (by omega)
    rw [ih _ (fun q => by
      rw [mGet_put, hw]
      have := hm q
      split <;> omega) q, mGet_put, hw, List.count_cons]
    by_cases h : q = p
    · subst h
      simp
      omega
    · have : ¬ (p = q) := fun e => h e.symm
      simp [h, this]
theorem cm_get {l : List Timpl_Pair} (hl : l.length ≤ 1000000000) (q : Timpl_Pair) : mGet (cm l) q = (l.count q : Int) := by
  unfold cm
  rw [cm_from l [] (fun q => by simp [mGet]; omega) q]
  simp [mGet]
theorem cm_succ {l : List Timpl_Pair} {i : Nat} (h : i < l.length) : cm (l.take (i + 1)) = mPut (cm (l.take i)) l[i] (IntKind.i64.wrap (mGet (cm (l.take i)) l[i] + 1)) := by
  unfold cm
  rw [List.take_succ_eq_append_getElem h, List.foldl_append]
  rfl
theorem contains_ok {r : List Int} (hl : r.length ≤ 1048576) : Dec (lib_slices_ContainsFunc___int_int___impl_ScoreOk_1 r) (∃ x ∈ r, ¬ (0 ≤ x ∧ x ≤ 9999)) := by
  unfold lib_slices_ContainsFunc___int_int___impl_ScoreOk_1 lib_slices_IndexFunc___int_int___impl_ScoreOk_1
  refine (find_idx (Lp := lib_slices_IndexFunc___int_int___impl_ScoreOk_1_L1 r) (n := r.length) (Q := fun j => ∀ hj : j < r.length, ¬ (0 ≤ r[j] ∧ r[j] ≤ 9999)) (fun k j hj => by
    show (if _ then _ else _) = _
    rw [if_neg (by simp; omega)]) (fun k j hj => by
    rw [lib_slices_IndexFunc___int_int___impl_ScoreOk_1_L1]
    rw [if_pos (by simp; omega), idx_lt hj, wrap_succ (by omega)]
    unfold impl_ScoreOk_1 impl_within
    simp only [Option.bind_some]
    by_cases hc : 0 ≤ r[j] ∧ r[j] ≤ 9999
    · rw [in_t hc]
      exact .inr ⟨fun g => g hj hc, rfl⟩
    · rw [in_f hc]
      exact .inl ⟨fun _ => hc, rfl⟩) (by omega)).of_iff ⟨fun ⟨i, hi, h⟩ => ⟨r[i], List.getElem_mem hi, h hi⟩, fun ⟨x, hx, h⟩ => ?_⟩
  obtain ⟨i, hi, rfl⟩ := List.mem_iff_getElem.1 hx
  exact ⟨i, hi, fun _ => h⟩
def RowI (n : Int) (s : Timpl_Score) (i : Nat) : Prop := ∀ h : i < s.Table_.length, (s.Table_[i].length : Int) = n ∧ ∀ x ∈ s.Table_[i], 0 ≤ x ∧ x ≤ 9999
def PairI (n : Int) (s : Timpl_Score) (i : Nat) : Prop := ∀ h : i < s.Last_.length, PairQ n s.Last_[i] ∧ ((s.Last_.take (i + 1)).count s.Last_[i] : Int) ≤ ent s.Table_ s.Last_[i].Truth_.toNat s.Last_[i].Said_.toNat
theorem scoreP_iff {n : Int} {s : Timpl_Score} : ScoreP n s ↔ ((2 ≤ n ∧ n ≤ 3) ∧ (s.Table_.length : Int) = n ∧ (∀ i, i < s.Table_.length → RowI n s i) ∧ tsum s.Table_ ≤ 9999 ∧ (s.Last_.length : Int) = (if 20 < tsum s.Table_ then 20 else tsum s.Table_) ∧ ∀ i, i < s.Last_.length → PairI n s i) := by
  constructor
  · rintro ⟨hn, hT, hR, h1, h2, h3⟩
    refine ⟨hn, hT, fun i hi h => ⟨(hR i hi h).1, (mem_ent h (hR i hi) hn.2).2⟩, h1, h2, fun i hi h => ⟨h3 _ (List.getElem_mem h), ?_⟩⟩
    have hp := h3 _ (List.getElem_mem h)
    have ht : s.Last_[i].Truth_.toNat < s.Table_.length := by have := hp.1; omega
    obtain ⟨hr, hc⟩ := hR _ ht ht
    have hsd : s.Last_[i].Said_.toNat < s.Table_[s.Last_[i].Truth_.toNat].length := by have := hp.2; omega
    have hcc := (hc _ hsd).2
    have he : (⟨(s.Last_[i].Truth_.toNat : Int), (s.Last_[i].Said_.toNat : Int)⟩ : Timpl_Pair) = s.Last_[i] := by
      rw [Int.toNat_of_nonneg hp.1.1, Int.toNat_of_nonneg hp.2.1]
    rw [he] at hcc
    have hle : (s.Last_.take (i + 1)).count s.Last_[i] ≤ s.Last_.count s.Last_[i] := (List.take_sublist _ _).count_le _
    omega
  · rintro ⟨hn, hT, hR, h1, h2, h3⟩
    refine ⟨hn, hT, fun i hi h => ⟨(hR i hi h).1, fun j hj => ?_⟩, h1, h2, fun p hp => ?_⟩
    · have hr := (hR i hi h).2 _ (List.getElem_mem hj)
      rw [ent_eq h hj]
      refine ⟨hr, ?_⟩
      by_cases hm : (⟨(i : Int), (j : Int)⟩ : Timpl_Pair) ∈ s.Last_
      · obtain ⟨q, hq, e1, e2⟩ := count_last hm
        obtain ⟨_, hc⟩ := h3 q hq hq
        rw [e1, e2] at hc
        have : ent s.Table_ (Int.toNat i) (Int.toNat j) = s.Table_[i][j] := by
          rw [Int.toNat_natCast, Int.toNat_natCast, ent_eq h hj]
        simp only at hc
        omega
      · rw [List.count_eq_zero.2 hm]
        omega
    · obtain ⟨i, hi, rfl⟩ := List.mem_iff_getElem.1 hp
      exact (h3 i hi hi).1
theorem impl_end {n : Int} {s : Timpl_Score} (hn : 2 ≤ n ∧ n ≤ 3) (hl : s.Last_.length ≤ 1048576) (hT : (s.Table_.length : Int) = n) (hR : ∀ i, i < s.Table_.length → RowI n s i) : Dec (impl_ScoreOk_L2 s n Fuel 0 []) (∀ i, i < s.Last_.length → PairI n s i) := by
  refine (dec_idx (Lp := fun k i => impl_ScoreOk_L2 s n k (i : Int) (cm (s.Last_.take i))) (n := s.Last_.length) (Q := PairI n s) (F := True) (fun k _ => ?_) (fun k i hi _ => ?_) (by omega)).of_iff ⟨fun h => h.1, fun h => ⟨h, trivial⟩⟩
  · show Dec (impl_ScoreOk_L2 s n (k + 1) _ _) _
    rw [impl_ScoreOk_L2, if_neg (by simp)]
    exact dec_t trivial
  · show (_ ∧ impl_ScoreOk_L2 s n (k + 1) _ _ = impl_ScoreOk_L2 s n k _ _) ∨ (_ ∧ impl_ScoreOk_L2 s n (k + 1) _ _ = _)
    have hct := cm_get (l := s.Last_.take (i + 1)) (by simp; omega) s.Last_[i]
    rw [impl_ScoreOk_L2, if_pos (by simp; omega), idx_lt hi, wrap_succ (by omega), wrap_id (n := n - 1) (by omega) (by omega), cm_succ hi]
    rw [cm_succ hi] at hct
    unfold impl_within
    simp only [Option.bind_some]
    by_cases h1 : 0 ≤ s.Last_[i].Truth_ ∧ s.Last_[i].Truth_ ≤ n - 1
    · rw [in_t h1]
      simp only [Bool.not_true, Bool.false_eq_true, if_false, Option.bind_some]
      by_cases h2 : 0 ≤ s.Last_[i].Said_ ∧ s.Last_[i].Said_ ≤ n - 1
      · rw [in_t h2]
        simp only [Bool.not_true, Bool.false_eq_true, if_false]
        have ht : s.Last_[i].Truth_.toNat < s.Table_.length := by omega
        have hsd : s.Last_[i].Said_.toNat < s.Table_[s.Last_[i].Truth_.toNat].length := by have := (hR _ ht ht).1; omega
        have e1 : idx s.Table_ s.Last_[i].Truth_ = some s.Table_[s.Last_[i].Truth_.toNat] := by
          have := idx_lt ht
          rwa [Int.toNat_of_nonneg h1.1] at this
        have e2 : idx s.Table_[s.Last_[i].Truth_.toNat] s.Last_[i].Said_ = some s.Table_[s.Last_[i].Truth_.toNat][s.Last_[i].Said_.toNat] := by
          have := idx_lt hsd
          rwa [Int.toNat_of_nonneg h2.1] at this
        rw [e1]
        simp only [Option.bind_some]
        rw [e2]
        simp only [Option.bind_some]
        rw [hct]
        by_cases h3 : ((s.Last_.take (i + 1)).count s.Last_[i] : Int) ≤ s.Table_[s.Last_[i].Truth_.toNat][s.Last_[i].Said_.toNat]
        · rw [if_neg (by simp; omega)]
          exact .inl ⟨fun _ => ⟨⟨h1, h2⟩, by rw [ent_eq ht hsd]; exact h3⟩, rfl⟩
        · rw [if_pos (by simp; omega)]
          exact .inr ⟨fun g => h3 (by have := (g hi).2; rwa [ent_eq ht hsd] at this), rfl⟩
      · rw [in_f h2]
        exact .inr ⟨fun g => h2 (g hi).1.2, rfl⟩
    · rw [in_f h1]
      exact .inr ⟨fun g => h1 (g hi).1.1, rfl⟩
theorem implScore {n : Int} {s : Timpl_Score} (hs : sml_Score s) : Dec (impl_ScoreOk n s) (ScoreP n s) := by
  have hl := hs.2.1
  refine Dec.of_iff ?_ scoreP_iff.symm
  unfold impl_ScoreOk impl_within
  simp only [Option.bind_some]
  by_cases hn : 2 ≤ n ∧ n ≤ 3
  · rw [in_t hn]
    by_cases hT : (s.Table_.length : Int) = n
    · rw [if_neg (by simp [hT])]
      refine Dec.of_iff (P := (∀ i, i < s.Table_.length → RowI n s i) ∧ tsum s.Table_ ≤ 9999 ∧ (s.Last_.length : Int) = (if 20 < tsum s.Table_ then 20 else tsum s.Table_) ∧ ∀ i, i < s.Last_.length → PairI n s i) ?_ ⟨fun h => ⟨hn, hT, h⟩, fun h => h.2.2⟩
      refine dec_idx (Lp := fun k i => impl_ScoreOk_L1 s n k (i : Int)) (n := s.Table_.length) (Q := RowI n s) (fun k hq => ?_) (fun k i hi hq => ?_) (by omega)
      · show Dec (impl_ScoreOk_L1 s n (k + 1) _) _
        have hrows : RowsP s.Table_ := fun r hr => by
          obtain ⟨i, hi, rfl⟩ := List.mem_iff_getElem.1 hr
          obtain ⟨g1, g2⟩ := hq i hi hi
          exact ⟨by omega, g2⟩
        rw [impl_ScoreOk_L1, if_neg (by simp), tableSum_ok hrows (by omega)]
        simp only [Option.bind_some]
        show Dec (if (decide (tsum s.Table_ > 9999) || _) then _ else _) _
        by_cases h1 : tsum s.Table_ > 9999
        · rw [if_pos (by simp [h1])]
          exact dec_f fun g => by have := g.1; omega
        · by_cases h2 : (s.Last_.length : Int) = (if 20 < tsum s.Table_ then 20 else tsum s.Table_)
          · rw [if_neg (by simp only [h1, decide_false, Bool.false_or, bne_iff_ne, ne_eq, Decidable.not_not]; exact h2)]
            exact (impl_end hn (by omega) hT hq).of_iff ⟨fun g => ⟨by omega, h2, g⟩, fun g => g.2.2⟩
          · rw [if_pos (by simp only [h1, decide_false, Bool.false_or, bne_iff_ne, ne_eq]; exact h2)]
            exact dec_f fun g => h2 g.2.1
      · show (_ ∧ impl_ScoreOk_L1 s n (k + 1) _ = impl_ScoreOk_L1 s n k _) ∨ (_ ∧ impl_ScoreOk_L1 s n (k + 1) _ = _)
        rw [impl_ScoreOk_L1, if_pos (by simp; omega), idx_lt hi, wrap_succ (by omega)]
        simp only [Option.bind_some]
        by_cases hr : (s.Table_[i].length : Int) = n
        · rw [if_neg (by simp [hr])]
          rcases (contains_ok (r := s.Table_[i]) (by omega)).cases with ⟨e, x, hx, hc⟩ | ⟨e, hc⟩
          · rw [e]
            exact .inr ⟨fun g => hc ((g hi).2 x hx), rfl⟩
          · rw [e]
            exact .inl ⟨fun _ => ⟨hr, fun x hx => Classical.byContradiction fun c => hc ⟨x, hx, c⟩⟩, rfl⟩
        · rw [if_pos (by simp [hr])]
          exact .inr ⟨fun g => hr (g hi).1, rfl⟩
    · rw [if_pos (by simp [hT])]
      exact dec_f fun g => hT g.2.1
  · rw [in_f hn]
    exact dec_f fun g => hn g.1
end Go.Vk
/- Rules, members, forests, states: tested alike. -/
namespace Go.Vk
theorem and_some (c y : Bool) : (if c = true then some y else some false : Option Bool) = some (c && y) := by cases c <;> rfl
theorem id_some (o : Option Bool) : (o.bind fun y => some y) = o := by cases o <;> rfl
def RuleP (r : Timpl_Rule) : Prop := (1 ≤ r.Sure_ ∧ r.Sure_ ≤ 9) ∧ (0 ≤ r.Tie_ ∧ r.Tie_ ≤ 999) ∧ (1 ≤ r.Grace_ ∧ r.Grace_ ≤ 200) ∧ (0 ≤ r.Depth_ ∧ r.Depth_ ≤ 6) ∧ (1 ≤ r.Nodes_ ∧ r.Nodes_ ≤ 31) ∧ (62 ≤ r.Units_ ∧ r.Units_ ≤ 2000)
theorem specRule (r : Timpl_Rule) : Dec (spec_RuleOk r) (RuleP r) := by
  unfold spec_RuleOk spec_l1In RuleP
  simp only [Option.bind_some, and_some]
  exact ⟨_, rfl, by simp [and_assoc]⟩
theorem implRule (r : Timpl_Rule) : Dec (impl_RuleOk r) (RuleP r) := by
  unfold impl_RuleOk impl_within RuleP
  simp only [Option.bind_some, and_some]
  exact ⟨_, rfl, by simp [and_assoc]⟩
def ConfP (c : Timpl_Conf) : Prop := SchemaP c.Schema_ ∧ RuleP c.Rule_ ∧ (1 ≤ c.Members_ ∧ c.Members_ ≤ 4) ∧ (1 ≤ c.Pick_ ∧ c.Pick_ ≤ (c.Schema_.Attrs_.length : Int)) ∧ (c.Lambda_ = 1 ∨ c.Lambda_ = 6) ∧ (1 ≤ c.Warn_ ∧ c.Warn_ ≤ 9) ∧ (1 ≤ c.Drift_ ∧ c.Drift_ ≤ 9) ∧ c.Warn_ ≤ c.Drift_
theorem specThr (x : Int) : Dec ((spec_Thresholds x).bind fun y => some (decide ((y.length : Int) > 0))) (x = 1 ∨ x = 6) := by
  unfold spec_Thresholds
  by_cases h1 : x = 1
  · rw [if_pos (by simpa using h1)]; exact dec_t (.inl h1)
  · rw [if_neg (by simpa using h1)]
    by_cases h6 : x = 6
    · rw [if_pos (by simpa using h6)]; exact dec_t (.inr h6)
    · rw [if_neg (by simpa using h6)]; exact dec_f (by omega)
theorem implThr (x : Int) : Dec ((impl_Thresholds x).bind fun y => some (!y.2)) (x = 1 ∨ x = 6) := by
  unfold impl_Thresholds
  by_cases h1 : x = 1
  · rw [if_pos (by simpa using h1)]; exact dec_t (.inl h1)
  · rw [if_neg (by simpa using h1)]
    by_cases h6 : x = 6
    · rw [if_pos (by simpa using h6)]; exact dec_t (.inr h6)
    · rw [if_neg (by simpa using h6)]; exact dec_f (by omega)
theorem specConf {c : Timpl_Conf} (hc : sml_Schema c.Schema_) : Dec (spec_ConfOk c) (ConfP c) := by
  unfold spec_ConfOk ConfP
  rcases (specSchema (okS_of hc)).cases with ⟨e, hS⟩ | ⟨e, hS⟩
  · rw [e]
    simp only [Option.bind_some, if_true]
    rcases (specRule c.Rule_).cases with ⟨e, hR⟩ | ⟨e, hR⟩
    · rw [e]
      simp only [Option.bind_some, if_true]
      rcases (dec_l1In (x := c.Members_) (a := 1) (b := 4)).cases with ⟨e, h1⟩ | ⟨e, h1⟩
      · rw [e]
        simp only [Option.bind_some, if_true]
        rcases (dec_l1In (x := c.Pick_) (a := 1) (b := (c.Schema_.Attrs_.length : Int))).cases with ⟨e, h2⟩ | ⟨e, h2⟩
        · rw [e]
          simp only [Option.bind_some, if_true]
          rcases (specThr c.Lambda_).cases with ⟨e, h3⟩ | ⟨e, h3⟩
          · rw [e]
            simp only [Option.bind_some, if_true]
            rcases (dec_l1In (x := c.Warn_) (a := 1) (b := 9)).cases with ⟨e, h4⟩ | ⟨e, h4⟩
            · rw [e]
              simp only [Option.bind_some, if_true]
              rcases (dec_l1In (x := c.Drift_) (a := 1) (b := 9)).cases with ⟨e, h5⟩ | ⟨e, h5⟩
              · rw [e]
                simp only [Option.bind_some, Bool.true_and]
                refine ⟨_, rfl, ?_⟩
                rw [decide_eq_true_iff]
                exact ⟨fun g => ⟨hS, hR, h1, h2, h3, h4, h5, g⟩, fun g => g.2.2.2.2.2.2.2⟩
              · rw [e]; exact dec_f fun g => h5 g.2.2.2.2.2.2.1
            · rw [e]; exact dec_f fun g => h4 g.2.2.2.2.2.1
          · rw [e]; exact dec_f fun g => h3 g.2.2.2.2.1
        · rw [e]; exact dec_f fun g => h2 g.2.2.2.1
      · rw [e]; exact dec_f fun g => h1 g.2.2.1
    · rw [e]; exact dec_f fun g => hR g.2.1
  · rw [e]; exact dec_f fun g => hS g.1
theorem implConf {c : Timpl_Conf} (hc : sml_Schema c.Schema_) : Dec (impl_ConfOk c) (ConfP c) := by
  unfold impl_ConfOk ConfP
  rcases (implSchema (okS_of hc)).cases with ⟨e, hS⟩ | ⟨e, hS⟩
  · rw [e]
    simp only [Option.bind_some, if_true]
    rcases (implRule c.Rule_).cases with ⟨e, hR⟩ | ⟨e, hR⟩
    · rw [e]
      simp only [Option.bind_some, if_true]
      rcases (dec_within (x := c.Members_) (a := 1) (b := 4)).cases with ⟨e, h1⟩ | ⟨e, h1⟩
      · rw [e]
        simp only [Option.bind_some, if_true]
        rcases (dec_within (x := c.Pick_) (a := 1) (b := (c.Schema_.Attrs_.length : Int))).cases with ⟨e, h2⟩ | ⟨e, h2⟩
        · rw [e]
          simp only [Option.bind_some, if_true]
          rcases (implThr c.Lambda_).cases with ⟨e, h3⟩ | ⟨e, h3⟩
          · rw [e]
            simp only [Option.bind_some, if_true]
            rcases (dec_within (x := c.Warn_) (a := 1) (b := 9)).cases with ⟨e, h4⟩ | ⟨e, h4⟩
            · rw [e]
              simp only [Option.bind_some, if_true]
              rcases (dec_within (x := c.Drift_) (a := 1) (b := 9)).cases with ⟨e, h5⟩ | ⟨e, h5⟩
              · rw [e]
                simp only [Option.bind_some, Bool.true_and]
                refine ⟨_, rfl, ?_⟩
                rw [decide_eq_true_iff]
                exact ⟨fun g => ⟨hS, hR, h1, h2, h3, h4, h5, g⟩, fun g => g.2.2.2.2.2.2.2⟩
              · rw [e]; exact dec_f fun g => h5 g.2.2.2.2.2.2.1
            · rw [e]; exact dec_f fun g => h4 g.2.2.2.2.2.1
          · rw [e]; exact dec_f fun g => h3 g.2.2.2.2.1
        · rw [e]; exact dec_f fun g => h2 g.2.2.2.1
      · rw [e]; exact dec_f fun g => h1 g.2.2.1
    · rw [e]; exact dec_f fun g => hR g.2.1
  · rw [e]; exact dec_f fun g => hS g.1
/-! how deep, how large -/
def depthN (l : List Timpl_Node) : Nat → Int
  | 0 => 0
  | i + 1 => if i = 0 ∨ (l.getD i default).Depth_ > depthN l i then (l.getD i default).Depth_ else depthN l i
theorem getN {l : List Timpl_Node} {i : Nat} (h : i < l.length) : l.getD i default = l[i] := by simp [h]
theorem specDepth {t : Timpl_Tree} (hl : t.Nodes_.length ≤ 1048576) : spec_DepthOf t = some (depthN t.Nodes_ t.Nodes_.length) := by
  unfold spec_DepthOf
  refine for_idx (Lp := fun k i => spec_DepthOf_L1 t k (depthN t.Nodes_ i) (i : Int)) (n := t.Nodes_.length) (fun k => ?_) (fun k i hi => ?_) (by omega)
  · show spec_DepthOf_L1 t (k + 1) _ _ = _
    rw [spec_DepthOf_L1, if_neg (by simp)]
  · show spec_DepthOf_L1 t (k + 1) _ _ = spec_DepthOf_L1 t k _ _
    rw [spec_DepthOf_L1, if_pos (by simp; omega), idx_lt hi, wrap_succ (by omega)]
    simp only [Option.bind_some, depthN]
    rw [getN hi]
    by_cases h0 : i = 0
    · rw [if_pos (by simp only [beq_iff_eq]; omega), if_pos (.inl h0)]
      simp only [Option.bind_some, if_true]
    · rw [if_neg (by simp only [beq_iff_eq]; omega)]
      simp only [Option.bind_some]
      by_cases h1 : t.Nodes_[i].Depth_ > depthN t.Nodes_ i
      · rw [if_pos (by simpa using h1), if_pos (.inr h1)]
      · rw [if_neg (by simpa using h1), if_neg (fun g => g.elim h0 h1)]
theorem implDepth {t : Timpl_Tree} (hl : t.Nodes_.length ≤ 1048576) : impl_DepthOf t = some (depthN t.Nodes_ t.Nodes_.length) := by
  unfold impl_DepthOf
  by_cases h0 : t.Nodes_.length = 0
  · rw [if_pos (by simp only [beq_iff_eq]; omega), h0]; rfl
  · rw [if_neg (by simp only [beq_iff_eq]; omega), show (0 : Int) = ((0 : Nat) : Int) from rfl, idx_lt (show 0 < t.Nodes_.length by omega)]
    simp only [Option.bind_some]
    have h := for_idx (Lp := fun k i => impl_DepthOf_L1 t k (i : Int) (if i = 0 then (t.Nodes_[0]'(by omega)).Depth_ else depthN t.Nodes_ i)) (n := t.Nodes_.length) (fin := some (depthN t.Nodes_ t.Nodes_.length)) (fun k => by
      show impl_DepthOf_L1 t (k + 1) _ _ = _
      rw [impl_DepthOf_L1, if_neg (by simp), if_neg h0]) (fun k i hi => by
      show impl_DepthOf_L1 t (k + 1) _ _ = impl_DepthOf_L1 t k _ _
      rw [impl_DepthOf_L1, if_pos (by simp; omega), idx_lt hi, wrap_succ (by omega)]
      simp only [Option.bind_some]
      congr 1
      rw [if_neg (Nat.succ_ne_zero i)]
      simp only [depthN]
      rw [getN hi]
      by_cases hi0 : i = 0
      · subst hi0
        rw [if_pos rfl, if_pos (show (0 = 0 ∨ _) from .inl rfl), if_neg (Int.lt_irrefl _)]
      · rw [if_neg hi0]
        by_cases h1 : t.Nodes_[i].Depth_ > depthN t.Nodes_ i
        · rw [if_pos h1, if_pos (Or.inr h1)]
        · rw [if_neg h1, if_neg (fun g : i = 0 ∨ _ => g.elim hi0 h1)]) (by omega)
    exact h
def unitsN (n : Timpl_Node) : Int := if n.Leaf_ = true then 2 + (n.Stats_.Cells_.map fun c => (c.length : Int)).sum else 1
def unitsT (t : Timpl_Tree) : Int := (t.Nodes_.map unitsN).sum
theorem sum_from {α ρ : Type} {p : List α} (v : α → Int) (a : Int) (Lp : Nat → Int → Int → Option ρ) (fin : Int → Option ρ) (hz : ∀ k s, Lp (k + 1) s (p.length : Int) = fin s)
    (hs : ∀ k s (i : Nat) (h : i < p.length), Lp (k + 1) s (i : Int) = Lp k (IntKind.i64.wrap (s + v p[i])) ((i + 1 : Nat) : Int)) (hb : ∀ x ∈ p, 0 ≤ v x ∧ v x ≤ 1000000000) (hl : p.length ≤ 1000000000) (ha : 0 ≤ a ∧ a ≤ 1000000000) : Lp Fuel a 0 = fin (a + (p.map v).sum) := by
  have := for_idx (Lp := fun k i => Lp k (a + ((p.map v).take i).sum) (i : Int)) (n := p.length) (fin := fin (a + (p.map v).sum)) (fun k => by
    show Lp _ _ _ = _
    rw [hz, List.take_of_length_le (by simp)]) (fun k i hi => by
    show Lp _ _ _ = Lp _ _ _
    have h1 := sum_bound (p := (p.map v).take (i + 1)) (b := 1000000000) (fun x hx => by
      obtain ⟨y, hy, rfl⟩ := List.mem_map.1 (mem_take hx)
      exact hb y hy)
    rw [hs _ _ _ hi]
    rw [sum_take (by simpa using hi)] at h1 ⊢
    rw [List.getElem_map] at h1 ⊢
    have h2 : ((p.map v).take (i + 1)).length ≤ 1000000000 := by simp; omega
    rw [wrap_id (by omega) (by omega), Int.add_assoc]) (by omega)
  simpa using this
theorem units_b {n : Timpl_Node} (hn : sml_Node n) (h : n.Stats_.Cells_.length ≤ 5) : 0 ≤ unitsN n ∧ unitsN n ≤ 10000000 := by
  unfold unitsN
  split
  · have hc := hn.2.2.2.2.1.2
    have := sum_bound (p := n.Stats_.Cells_.map fun c => (c.length : Int)) (b := 1048576) (fun x hx => by
      obtain ⟨y, hy, rfl⟩ := List.mem_map.1 hx
      have := (hc.2 y hy).1
      omega)
    simp only [List.length_map] at this
    omega
  · omega
theorem specUnits {n : Timpl_Node} (hn : sml_Node n) (h : n.Stats_.Cells_.length ≤ 5) : spec_UnitsOf n = some (unitsN n) := by
  unfold spec_UnitsOf unitsN
  have hc := hn.2.2.2.2.1.2
  cases hL : n.Leaf_
  · rfl
  · simp only [Bool.not_true, Bool.false_eq_true, if_true, if_false]
    exact sum_from (p := n.Stats_.Cells_) (fun c => (c.length : Int)) 2 (spec_UnitsOf_L1 n) some (fun k s => by
      show (if _ then _ else _) = _
      rw [if_neg (by simp)]) (fun k s i hi => by
      rw [spec_UnitsOf_L1, if_pos (by simp; omega), idx_lt hi, wrap_succ (by omega)]
      rfl) (fun x hx => by have := (hc.2 x hx).1; omega) (by omega) (by omega)
theorem implUnits {n : Timpl_Node} (hn : sml_Node n) (h : n.Stats_.Cells_.length ≤ 5) : impl_UnitsOf n = some (unitsN n) := by
  unfold impl_UnitsOf unitsN
  have hc := hn.2.2.2.2.1.2
  cases hL : n.Leaf_
  · rfl
  · simp only [Bool.not_true, Bool.false_eq_true, if_true, if_false]
    exact sum_from (p := n.Stats_.Cells_) (fun c => (c.length : Int)) 2 (fun k s i => impl_UnitsOf_L1 n k i s) some (fun k s => by
      show (if _ then _ else _) = _
      rw [if_neg (by simp)]) (fun k s i hi => by
      show impl_UnitsOf_L1 n (k + 1) _ _ = impl_UnitsOf_L1 n k _ _
      rw [impl_UnitsOf_L1, if_pos (by simp; omega), idx_lt hi, wrap_succ (by omega)]
      rfl) (fun x hx => by have := (hc.2 x hx).1; omega) (by omega) (by omega)
theorem cells_b {s : Timpl_Schema} {t : Timpl_Tree} (hT : TreeP s t) {i : Nat} (hi : i < t.Nodes_.length) : t.Nodes_[i].Stats_.Cells_.length ≤ 5 := by
  have h := (hT.2.2.2 i hi hi).1.2.2.1
  have := hT.1.1
  rcases h.2.2.2.2 with g | g
  · omega
  · have := g.1; omega
theorem specTreeUnits {s : Timpl_Schema} {t : Timpl_Tree} (ht : sml_Tree t) (hT : TreeP s t) : spec_TreeUnits t = some (unitsT t) := by
  unfold spec_TreeUnits unitsT
  have hn := hT.2.1
  have h := sum_from (p := t.Nodes_) unitsN 0 (spec_TreeUnits_L1 t) some (fun k s => by
    show (if _ then _ else _) = _
    rw [if_neg (by simp)]) (fun k s i hi => by
    rw [spec_TreeUnits_L1, if_pos (by simp; omega), idx_lt hi, wrap_succ (by omega)]
    simp only [Option.bind_some]
    rw [specUnits (ht.1.2 _ (List.getElem_mem hi)) (cells_b hT hi)]
    rfl) (fun x hx => by
      obtain ⟨i, hi, rfl⟩ := List.getElem_of_mem hx
      have := units_b (ht.1.2 _ (List.getElem_mem hi)) (cells_b hT hi)
      omega) (by omega) (by omega)
  rw [Int.zero_add] at h
  exact h
theorem implTreeUnits {s : Timpl_Schema} {t : Timpl_Tree} (ht : sml_Tree t) (hT : TreeP s t) : impl_TreeUnits t = some (unitsT t) := by
  unfold impl_TreeUnits unitsT
  have hn := hT.2.1
  have h := sum_from (p := t.Nodes_) unitsN 0 (impl_TreeUnits_L1 t) some (fun k s => by
    show (if _ then _ else _) = _
    rw [if_neg (by simp)]) (fun k s i hi => by
    rw [impl_TreeUnits_L1, if_pos (by simp; omega), idx_lt hi, wrap_succ (by omega)]
    simp only [Option.bind_some]
    rw [implUnits (ht.1.2 _ (List.getElem_mem hi)) (cells_b hT hi)]
    rfl) (fun x hx => by
      obtain ⟨i, hi, rfl⟩ := List.getElem_of_mem hx
      have := units_b (ht.1.2 _ (List.getElem_mem hi)) (cells_b hT hi)
      omega) (by omega) (by omega)
  rw [Int.zero_add] at h
  exact h
def FitsP (s : Timpl_Schema) (r : Timpl_Rule) (t : Timpl_Tree) : Prop := TreeP s t ∧ RuleP r ∧ (t.Nodes_.length : Int) ≤ r.Nodes_ ∧ depthN t.Nodes_ t.Nodes_.length ≤ r.Depth_ ∧ unitsT t ≤ r.Units_
theorem specFits {s : Timpl_Schema} {r : Timpl_Rule} {t : Timpl_Tree} (hs : sml_Schema s) (ht : sml_Tree t) : Dec (spec_Fits s r t) (FitsP s r t) := by
  unfold spec_Fits FitsP
  rcases (specTree hs ht).cases with ⟨e, hT⟩ | ⟨e, hT⟩
  · rw [e]
    simp only [Option.bind_some, if_true]
    rcases (specRule r).cases with ⟨e, hR⟩ | ⟨e, hR⟩
    · rw [e, specDepth ht.1.1, specTreeUnits ht hT]
      simp only [Option.bind_some, Bool.true_and, and_some]
      refine ⟨_, rfl, ?_⟩
      simp [hT, hR, and_assoc]
    · rw [e]; exact dec_f fun g => hR g.2.1
  · rw [e]; exact dec_f fun g => hT g.1
theorem implFits {s : Timpl_Schema} {r : Timpl_Rule} {t : Timpl_Tree} (hs : sml_Schema s) (ht : sml_Tree t) : Dec (impl_Fits s r t) (FitsP s r t) := by
  unfold impl_Fits FitsP
  rcases (implTree hs ht).cases with ⟨e, hT⟩ | ⟨e, hT⟩
  · rw [e]
    simp only [Option.bind_some, if_true]
    rcases (implRule r).cases with ⟨e, hR⟩ | ⟨e, hR⟩
    · rw [e, implDepth ht.1.1, implTreeUnits ht hT]
      simp only [Option.bind_some, Bool.true_and, and_some]
      refine ⟨_, rfl, ?_⟩
      simp [hT, hR, and_assoc]
    · rw [e]; exact dec_f fun g => hR g.2.1
  · rw [e]; exact dec_f fun g => hT g.1
/-! members, forests, states -/
def DetP (d : Timpl_Det) : Prop := WinP d.Warn_ ∧ WinP d.Drift_
theorem specDet (d : Timpl_Det) : Dec (spec_DetOk d) (DetP d) := by
  unfold spec_DetOk DetP
  simp only [id_some]
  exact (specWin d.Warn_).and fun _ => specWin d.Drift_
theorem implDet {d : Timpl_Det} (hd : sml_Det d) : Dec (impl_DetOk d) (DetP d) := by
  unfold impl_DetOk DetP
  simp only [id_some]
  exact (implWin hd.1).and fun _ => implWin hd.2
def NoTree (t : Timpl_Tree) : Prop := t.Nodes_.length = 0 ∧ t.Seen_ = 0
theorem implNone (t : Timpl_Tree) : Dec (impl_TreeSame t (Timpl_Tree.mk [] 0)) (NoTree t) := by
  unfold impl_TreeSame NoTree
  simp only [id_some]
  by_cases h : t.Seen_ = 0
  · rw [if_pos (by simpa using h)]
    unfold lib_slices_EqualFunc___impl_Node___impl_Node_impl_Node_impl_Node___impl_NodeSame
    by_cases h0 : t.Nodes_.length = 0
    · rw [if_neg (by simp [h0])]
      obtain ⟨k, hk⟩ : ∃ k, Fuel = k + 1 := ⟨Fuel - 1, by have := fuel_gt (n := 0) (by omega); omega⟩
      rw [hk, lib_slices_EqualFunc___impl_Node___impl_Node_impl_Node_impl_Node___impl_NodeSame_L1, if_neg (by simp [List.length_eq_zero_iff.1 h0])]
      exact dec_t ⟨h0, h⟩
    · rw [if_pos (by simp; exact fun e => h0 (by rw [e]; rfl))]
      exact dec_f fun g => h0 g.1
  · rw [if_neg (by simpa using h)]
    exact dec_f fun g => h g.2
def MemberP (c : Timpl_Conf) (m : Timpl_Member) : Prop := ConfP c ∧ FitsP c.Schema_ c.Rule_ m.Tree_ ∧ DetP m.Det_ ∧ (m.HasYoung_ = true → FitsP c.Schema_ c.Rule_ m.Young_) ∧ (m.HasYoung_ = false → NoTree m.Young_)
theorem specMember {c : Timpl_Conf} {m : Timpl_Member} (hc : sml_Schema c.Schema_) (hm : sml_Member m) : Dec (spec_MemberOk c m) (MemberP c m) := by
  unfold spec_MemberOk MemberP
  rcases (specConf hc).cases with ⟨e, hC⟩ | ⟨e, hC⟩
  · rw [e]
    simp only [Option.bind_some, Bool.not_true, Bool.false_eq_true, if_false]
    rcases (specFits (r := c.Rule_) hc hm.1).cases with ⟨e, hF⟩ | ⟨e, hF⟩
    · rw [e]
      simp only [Option.bind_some, Bool.not_true, Bool.false_eq_true, if_false]
      rcases (specDet m.Det_).cases with ⟨e, hD⟩ | ⟨e, hD⟩
      · rw [e]
        simp only [Option.bind_some, Bool.not_true, Bool.false_eq_true, if_false, id_some]
        by_cases hy : m.HasYoung_ = true
        · rw [if_pos hy]
          exact (specFits hc hm.2.2.1).of_iff ⟨fun g => ⟨hC, hF, hD, fun _ => g, fun h => by rw [hy] at h; cases h⟩, fun g => g.2.2.2.1 hy⟩
        · rw [if_neg hy]
          have hy' : m.HasYoung_ = false := by simpa using hy
          refine ⟨_, rfl, ?_⟩
          rw [Bool.and_eq_true, beq_iff_eq, beq_iff_eq]
          exact ⟨fun g => ⟨hC, hF, hD, fun h => absurd h hy, fun _ => ⟨by omega, g.2⟩⟩, fun g => ⟨by have := (g.2.2.2.2 hy').1; omega, (g.2.2.2.2 hy').2⟩⟩
      · rw [e]; exact dec_f fun g => hD g.2.2.1
    · rw [e]; exact dec_f fun g => hF g.2.1
  · rw [e]; exact dec_f fun g => hC g.1
theorem implMember {c : Timpl_Conf} {m : Timpl_Member} (hc : sml_Schema c.Schema_) (hm : sml_Member m) : Dec (impl_MemberOk c m) (MemberP c m) := by
  unfold impl_MemberOk MemberP
  rcases (implConf hc).cases with ⟨e, hC⟩ | ⟨e, hC⟩
  · rw [e]
    simp only [Option.bind_some, Bool.not_true, Bool.false_eq_true, if_false]
    rcases (implFits (r := c.Rule_) hc hm.1).cases with ⟨e, hF⟩ | ⟨e, hF⟩
    · rw [e]
      simp only [Option.bind_some, Bool.not_true, Bool.false_eq_true, if_false]
      rcases (implDet hm.2.2.2).cases with ⟨e, hD⟩ | ⟨e, hD⟩
      · rw [e]
        simp only [Option.bind_some, Bool.not_true, Bool.false_eq_true, if_false, id_some]
        by_cases hy : m.HasYoung_ = true
        · rw [if_pos hy]
          exact (implFits hc hm.2.2.1).of_iff ⟨fun g => ⟨hC, hF, hD, fun _ => g, fun h => by rw [hy] at h; cases h⟩, fun g => g.2.2.2.1 hy⟩
        · rw [if_neg hy]
          have hy' : m.HasYoung_ = false := by simpa using hy
          exact (implNone m.Young_).of_iff ⟨fun g => ⟨hC, hF, hD, fun h => absurd h hy, fun _ => g⟩, fun g => g.2.2.2.2 hy'⟩
      · rw [e]; exact dec_f fun g => hD g.2.2.1
    · rw [e]; exact dec_f fun g => hF g.2.1
  · rw [e]; exact dec_f fun g => hC g.1
def ForestP (c : Timpl_Conf) (f : Timpl_Forest) : Prop := ConfP c ∧ (f.Members_.length : Int) = c.Members_ ∧ ∀ m ∈ f.Members_, MemberP c m
theorem specForest {c : Timpl_Conf} {f : Timpl_Forest} (hc : sml_Schema c.Schema_) (hf : sml_Forest f) : Dec (spec_ForestOk c f) (ForestP c f) := by
  unfold spec_ForestOk ForestP
  have hl : f.Members_.length ≤ 1048576 := hf.1
  rcases (specConf hc).cases with ⟨e, hC⟩ | ⟨e, hC⟩
  · rw [e]
    simp only [Option.bind_some, Bool.not_true, Bool.false_or]
    by_cases hn : (f.Members_.length : Int) = c.Members_
    · rw [if_neg (by simpa using hn)]
      refine (all_idx (Lp := spec_ForestOk_L1 f c) (n := f.Members_.length) (Q := fun i => ∀ h : i < f.Members_.length, MemberP c f.Members_[i]) 0 (fun k i hi => ?_) (fun k i _ hi => ?_) (by omega)).of_iff ⟨fun g => ⟨hC, hn, fun m hm => by
        obtain ⟨i, hi, rfl⟩ := List.getElem_of_mem hm
        exact g i (Nat.zero_le _) hi hi⟩, fun g i _ hi _ => g.2.2 _ (List.getElem_mem hi)⟩
      · show (if _ then _ else _) = _
        rw [if_neg (by simp; omega)]
      · rw [spec_ForestOk_L1, if_pos (by simp; omega), idx_lt hi, wrap_succ (by omega)]
        simp only [Option.bind_some]
        rcases (specMember hc (hf.2 _ (List.getElem_mem hi))).cases with ⟨e, h⟩ | ⟨e, h⟩
        · rw [e]; exact .inl ⟨fun _ => h, rfl⟩
        · rw [e]; exact .inr ⟨fun g => h (g hi), rfl⟩
    · rw [if_pos (by simpa using hn)]
      exact dec_f fun g => hn g.2.1
  · rw [e]; exact dec_f fun g => hC g.1
theorem implForest {c : Timpl_Conf} {f : Timpl_Forest} (hc : sml_Schema c.Schema_) (hf : sml_Forest f) : Dec (impl_ForestOk c f) (ForestP c f) := by
  unfold impl_ForestOk ForestP
  have hl : f.Members_.length ≤ 1048576 := hf.1
  rcases (implConf hc).cases with ⟨e, hC⟩ | ⟨e, hC⟩
  · rw [e]
    simp only [Option.bind_some, Bool.true_and, id_some]
    by_cases hn : (f.Members_.length : Int) = c.Members_
    · rw [if_pos (by simpa using hn)]
      have hf2 : Dec (lib_slices_ContainsFunc___impl_Member_impl_Member___impl_ForestOk_1 f.Members_ c) (∃ i, i < f.Members_.length ∧ ∀ h : i < f.Members_.length, ¬ MemberP c f.Members_[i]) := by
        unfold lib_slices_ContainsFunc___impl_Member_impl_Member___impl_ForestOk_1 lib_slices_IndexFunc___impl_Member_impl_Member___impl_ForestOk_1
        refine find_idx (Lp := lib_slices_IndexFunc___impl_Member_impl_Member___impl_ForestOk_1_L1 f.Members_ c) (n := f.Members_.length) (fun k i hi => ?_) (fun k i hi => ?_) (by omega)
        · show (if _ then _ else _) = _
          rw [if_neg (by simp; omega)]
        · rw [lib_slices_IndexFunc___impl_Member_impl_Member___impl_ForestOk_1_L1, if_pos (by simp; omega), idx_lt hi, wrap_succ (by omega)]
          unfold impl_ForestOk_1
          simp only [Option.bind_some]
          rcases (implMember hc (hf.2 _ (List.getElem_mem hi))).cases with ⟨e, h⟩ | ⟨e, h⟩
          · rw [e]; exact .inr ⟨fun g => g hi h, rfl⟩
          · rw [e]; exact .inl ⟨fun _ => h, rfl⟩
      rcases hf2.cases with ⟨e, i, hi, h⟩ | ⟨e, h⟩
      · rw [e]; exact dec_f fun g => h hi (g.2.2 _ (List.getElem_mem hi))
      · rw [e]; exact dec_t ⟨hC, hn, fun m hm => by
          obtain ⟨i, hi, rfl⟩ := List.getElem_of_mem hm
          exact Classical.byContradiction fun g => h ⟨i, hi, fun _ => g⟩⟩
    · rw [if_neg (by simpa using hn)]
      exact dec_f fun g => hn g.2.1
  · rw [e]; exact dec_f fun g => hC g.1
def StateP (st : Timpl_State) : Prop := ForestP st.Conf_ st.Forest_ ∧ ScoreP (st.Conf_.Schema_.Classes_.length : Int) st.Score_
theorem specState {st : Timpl_State} (h : sml_State st) : Dec (spec_StateOk st) (StateP st) := by
  unfold spec_StateOk StateP
  simp only [id_some]
  exact (specForest h.1.1 h.2.1).and fun _ => specScore h.2.2
theorem implState {st : Timpl_State} (h : sml_State st) : Dec (impl_StateOk st) (StateP st) := by
  unfold impl_StateOk StateP
  simp only [id_some]
  exact (implForest h.1.1 h.2.1).and fun _ => implScore h.2.2
theorem stateOk_same {st : Timpl_State} (h : sml_State st) : ∃ m, spec_StateOk st = some m ∧ impl_StateOk st = some m := by
  obtain ⟨b, e, _⟩ := specState h
  exact ⟨b, e, by rw [(implState h).eq (specState h), e]⟩
end Go.Vk
