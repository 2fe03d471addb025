/- Attributes: weighed, copied, compared; FullMask. -/
import Derived.Test.YtddoligbabahbaaGreatQA
namespace Go.Vk
def AttrP (x : Timpl_Attr) : Prop := WordP x.Name_ ∧ ((x.Cuts_.length = 0 ∧ (2 ≤ (x.Values_.length : Int) ∧ (x.Values_.length : Int) ≤ 4) ∧ WordsP x.Values_) ∨ (x.Values_.length = 0 ∧ (1 ≤ (x.Cuts_.length : Int) ∧ (x.Cuts_.length : Int) ≤ 3) ∧ CutsP x.Cuts_))
def OkM (x : Timpl_Attr) : Prop := x.Name_.length < 1000000000000 ∧ x.Cuts_.length < 1000000000000 ∧ x.Values_.length < 1000000000000 ∧ ∀ y ∈ x.Values_, y.length < 1000000000000
theorem specAttr {x : Timpl_Attr} (hx : OkM x) : Dec (spec_AttrOk x) (AttrP x) := by
  obtain ⟨h1, h2, h3, h4⟩ := hx
  unfold spec_AttrOk AttrP
  rcases (specWord h1).cases with ⟨e, hw⟩ | ⟨e, hw⟩
  · rw [e]
    simp only [Option.bind_some, Bool.not_true, Bool.false_eq_true, if_false]
    by_cases hc : x.Cuts_.length = 0
    · rw [if_pos (by rw [beq_iff_eq]; omega)]
      unfold spec_l1In
      simp only [Option.bind_some]
      by_cases hv : 2 ≤ (x.Values_.length : Int) ∧ (x.Values_.length : Int) ≤ 4
      · rw [in_t hv]
        simp only [if_true]
        rcases (specWords h3 h4).cases with ⟨e2, hW⟩ | ⟨e2, hW⟩
        · rw [e2]; exact dec_t ⟨hw, .inl ⟨hc, hv, hW⟩⟩
        · rw [e2]; exact dec_f fun g => by rcases g.2 with ⟨_, _, g⟩ | ⟨_, g, _⟩ <;> first | exact hW g | omega
      · rw [in_f hv]
        exact dec_f fun g => by rcases g.2 with ⟨_, g, _⟩ | ⟨_, g, _⟩ <;> omega
    · rw [if_neg (by rw [beq_iff_eq]; omega)]
      by_cases hb : 0 < x.Values_.length ∨ 3 < x.Cuts_.length
      · rw [if_pos (by simp; omega)]
        exact dec_f fun g => by rcases g.2 with ⟨g, _, _⟩ | ⟨_, g, _⟩ <;> omega
      · rw [if_neg (by rw [Bool.or_eq_true, decide_eq_true_eq, decide_eq_true_eq]; omega)]
        have ha : Dec (spec_AttrOk_L1 x Fuel 0) (CutsP x.Cuts_) := by
          refine all_idx (Lp := spec_AttrOk_L1 x) (n := x.Cuts_.length) (Q := fun i => ∀ h : i < x.Cuts_.length, (-9999 ≤ x.Cuts_[i] ∧ x.Cuts_[i] ≤ 9998) ∧ ∀ h0 : 0 < i, x.Cuts_[i - 1] < x.Cuts_[i]) 0 (fun k i hi => ?_) (fun k i _ hi => ?_) h2
          · show (if _ then _ else _) = _
            rw [if_neg (by simp; omega)]
          · rw [spec_AttrOk_L1]
            rw [if_pos (by simp; omega), idx_lt hi, wrap_succ (by omega)]
            unfold spec_l1In
            simp only [Option.bind_some]
            by_cases hr : -9999 ≤ x.Cuts_[i] ∧ x.Cuts_[i] ≤ 9998
            · rw [in_t hr]
              simp only [Bool.not_true, Bool.false_eq_true, if_false]
              by_cases h0 : 0 < i
              · rw [if_pos (by simp; omega), wrap_id (by omega) (by omega), show (i : Int) - 1 = ((i - 1 : Nat) : Int) by omega, idx_lt (show i - 1 < x.Cuts_.length by omega)]
                simp only [Option.bind_some]
                by_cases hle : x.Cuts_[i] ≤ x.Cuts_[i - 1]
                · rw [if_pos (by simpa using hle)]
                  exact .inr ⟨fun g => by have := (g hi).2 h0; omega, rfl⟩
                · rw [if_neg (by simpa using hle)]
                  exact .inl ⟨fun _ => ⟨hr, fun _ => by omega⟩, rfl⟩
              · rw [if_neg (by simp; omega)]
                exact .inl ⟨fun _ => ⟨hr, fun h => absurd h h0⟩, rfl⟩
            · rw [in_f hr]
              exact .inr ⟨fun g => hr (g hi).1, rfl⟩
        exact ha.of_iff ⟨fun g => ⟨hw, .inr ⟨by omega, by omega, g⟩⟩, fun g => by rcases g.2 with ⟨g, _, _⟩ | ⟨_, _, g⟩; exact absurd g hc; exact g⟩
  · rw [e]
    exact dec_f fun g => hw g.1
theorem implAttr {x : Timpl_Attr} (hx : OkM x) : Dec (impl_AttrOk x) (AttrP x) := by
  obtain ⟨h1, h2, h3, h4⟩ := hx
  unfold impl_AttrOk AttrP
  rcases (implWord h1).cases with ⟨e, hw⟩ | ⟨e, hw⟩
  · rw [e]
    simp only [Option.bind_some, Bool.not_true, Bool.false_eq_true, if_false]
    by_cases hc : x.Cuts_.length = 0
    · rw [if_pos (by rw [beq_iff_eq]; omega)]
      unfold impl_within
      simp only [Option.bind_some]
      by_cases hv : 2 ≤ (x.Values_.length : Int) ∧ (x.Values_.length : Int) ≤ 4
      · rw [in_t hv]
        simp only [if_true]
        rcases (implWords h3 h4).cases with ⟨e2, hW⟩ | ⟨e2, hW⟩
        · rw [e2]; exact dec_t ⟨hw, .inl ⟨hc, hv, hW⟩⟩
        · rw [e2]; exact dec_f fun g => by rcases g.2 with ⟨_, _, g⟩ | ⟨_, g, _⟩ <;> first | exact hW g | omega
      · rw [in_f hv]
        exact dec_f fun g => by rcases g.2 with ⟨_, g, _⟩ | ⟨_, g, _⟩ <;> omega
    · rw [if_neg (by rw [beq_iff_eq]; omega)]
      by_cases hb : x.Values_.length = 0
      · rw [if_pos (by rw [beq_iff_eq]; omega)]
        rcases (implCuts h2).cases with ⟨e2, hC⟩ | ⟨e2, hC⟩
        · rw [e2]; exact dec_t ⟨hw, .inr ⟨hb, hC.1, hC.2⟩⟩
        · rw [e2]; exact dec_f fun g => by
            rcases g.2 with ⟨g, _, _⟩ | ⟨_, g, g'⟩
            · exact hc g
            · exact hC ⟨g, g'⟩
      · rw [if_neg (by rw [beq_iff_eq]; omega)]
        exact dec_f fun g => by rcases g.2 with ⟨g, _, _⟩ | ⟨g, _, _⟩ <;> omega
  · rw [e]
    exact dec_f fun g => hw g.1
end Go.Vk
