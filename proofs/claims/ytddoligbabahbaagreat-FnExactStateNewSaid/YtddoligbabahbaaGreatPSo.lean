/- Rules, members, forests, states: tested alike. -/
import Derived.Test.YtddoligbabahbaaGreatPTr
import Derived.Test.YtddoligbabahbaaGreatPWn
import Derived.Test.YtddoligbabahbaaGreatPB
namespace Go.Vk
theorem and_some (c y : Bool) : (if c = true then some y else some false : Option Bool) = some (c && y) := by cases c <;> rfl
def RuleP (r : Timpl_Rule) : Prop := (1 ≤ r.Sure_ ∧ r.Sure_ ≤ 9) ∧ (0 ≤ r.Tie_ ∧ r.Tie_ ≤ 999) ∧ (1 ≤ r.Grace_ ∧ r.Grace_ ≤ 200) ∧ (0 ≤ r.Depth_ ∧ r.Depth_ ≤ 6) ∧ (1 ≤ r.Nodes_ ∧ r.Nodes_ ≤ 31) ∧ (62 ≤ r.Units_ ∧ r.Units_ ≤ 2000)
theorem specRule (r : Timpl_Rule) : Dec (spec_RuleOk r) (RuleP r) := by
  unfold spec_RuleOk spec_l1In RuleP
  simp only [Option.bind_some, and_some]
  exact ⟨_, rfl, by simp [and_assoc]⟩
theorem implRule (r : Timpl_Rule) : Dec (impl_RuleOk r) (RuleP r) := by
  unfold impl_RuleOk impl_within RuleP
  simp only [Option.bind_some, and_some]
  exact ⟨_, rfl, by simp [and_assoc]⟩
def ConfP (c : Timpl_Conf) : Prop := SchemaP c.Schema_ ∧ RuleP c.Rule_ ∧ (1 ≤ c.Members_ ∧ c.Members_ ≤ 4) ∧ (1 ≤ c.Pick_ ∧ c.Pick_ ≤ (c.Schema_.Attrs_.length : Int)) ∧ (c.Lambda_ = 1 ∨ c.Lambda_ = 6) ∧ (1 ≤ c.Warn_ ∧ c.Warn_ ≤ 9) ∧ (1 ≤ c.Drift_ ∧ c.Drift_ ≤ 9) ∧ c.Warn_ ≤ c.Drift_
theorem specThr (x : Int) : Dec ((spec_Thresholds x).bind fun y => some (decide ((y.length : Int) > 0))) (x = 1 ∨ x = 6) := by
  unfold spec_Thresholds
  by_cases h1 : x = 1
  · rw [if_pos (by simpa using h1)]; exact dec_t (.inl h1)
  · rw [if_neg (by simpa using h1)]
    by_cases h6 : x = 6
    · rw [if_pos (by simpa using h6)]; exact dec_t (.inr h6)
    · rw [if_neg (by simpa using h6)]; exact dec_f (by omega)
theorem implThr (x : Int) : Dec ((impl_Thresholds x).bind fun y => some (!y.2)) (x = 1 ∨ x = 6) := by
  unfold impl_Thresholds
  by_cases h1 : x = 1
  · rw [if_pos (by simpa using h1)]; exact dec_t (.inl h1)
  · rw [if_neg (by simpa using h1)]
    by_cases h6 : x = 6
    · rw [if_pos (by simpa using h6)]; exact dec_t (.inr h6)
    · rw [if_neg (by simpa using h6)]; exact dec_f (by omega)
theorem specConf {c : Timpl_Conf} (hc : sml_Schema c.Schema_) : Dec (spec_ConfOk c) (ConfP c) := by
  unfold spec_ConfOk ConfP
  rcases (specSchema (okS_of hc)).cases with ⟨e, hS⟩ | ⟨e, hS⟩
  · rw [e]
    simp only [Option.bind_some, if_true]
    rcases (specRule c.Rule_).cases with ⟨e, hR⟩ | ⟨e, hR⟩
    · rw [e]
      simp only [Option.bind_some, if_true]
      rcases (dec_l1In (x := c.Members_) (a := 1) (b := 4)).cases with ⟨e, h1⟩ | ⟨e, h1⟩
      · rw [e]
        simp only [Option.bind_some, if_true]
        rcases (dec_l1In (x := c.Pick_) (a := 1) (b := (c.Schema_.Attrs_.length : Int))).cases with ⟨e, h2⟩ | ⟨e, h2⟩
        · rw [e]
          simp only [Option.bind_some, if_true]
          rcases (specThr c.Lambda_).cases with ⟨e, h3⟩ | ⟨e, h3⟩
          · rw [e]
            simp only [Option.bind_some, if_true]
            rcases (dec_l1In (x := c.Warn_) (a := 1) (b := 9)).cases with ⟨e, h4⟩ | ⟨e, h4⟩
            · rw [e]
              simp only [Option.bind_some, if_true]
              rcases (dec_l1In (x := c.Drift_) (a := 1) (b := 9)).cases with ⟨e, h5⟩ | ⟨e, h5⟩
              · rw [e]
                simp only [Option.bind_some, Bool.true_and]
                refine ⟨_, rfl, ?_⟩
                rw [decide_eq_true_iff]
                exact ⟨fun g => ⟨hS, hR, h1, h2, h3, h4, h5, g⟩, fun g => g.2.2.2.2.2.2.2⟩
              · rw [e]; exact dec_f fun g => h5 g.2.2.2.2.2.2.1
            · rw [e]; exact dec_f fun g => h4 g.2.2.2.2.2.1
          · rw [e]; exact dec_f fun g => h3 g.2.2.2.2.1
        · rw [e]; exact dec_f fun g => h2 g.2.2.2.1
      · rw [e]; exact dec_f fun g => h1 g.2.2.1
    · rw [e]; exact dec_f fun g => hR g.2.1
  · rw [e]; exact dec_f fun g => hS g.1
theorem implConf {c : Timpl_Conf} (hc : sml_Schema c.Schema_) : Dec (impl_ConfOk c) (ConfP c) := by
  unfold impl_ConfOk ConfP
  rcases (implSchema (okS_of hc)).cases with ⟨e, hS⟩ | ⟨e, hS⟩
  · rw [e]
    simp only [Option.bind_some, if_true]
    rcases (implRule c.Rule_).cases with ⟨e, hR⟩ | ⟨e, hR⟩
    · rw [e]
      simp only [Option.bind_some, if_true]
      rcases (dec_within (x := c.Members_) (a := 1) (b := 4)).cases with ⟨e, h1⟩ | ⟨e, h1⟩
      · rw [e]
        simp only [Option.bind_some, if_true]
        rcases (dec_within (x := c.Pick_) (a := 1) (b := (c.Schema_.Attrs_.length : Int))).cases with ⟨e, h2⟩ | ⟨e, h2⟩
        · rw [e]
          simp only [Option.bind_some, if_true]
          rcases (implThr c.Lambda_).cases with ⟨e, h3⟩ | ⟨e, h3⟩
          · rw [e]
            simp only [Option.bind_some, if_true]
            rcases (dec_within (x := c.Warn_) (a := 1) (b := 9)).cases with ⟨e, h4⟩ | ⟨e, h4⟩
            · rw [e]
              simp only [Option.bind_some, if_true]
              rcases (dec_within (x := c.Drift_) (a := 1) (b := 9)).cases with ⟨e, h5⟩ | ⟨e, h5⟩
              · rw [e]
                simp only [Option.bind_some, Bool.true_and]
                refine ⟨_, rfl, ?_⟩
                rw [decide_eq_true_iff]
                exact ⟨fun g => ⟨hS, hR, h1, h2, h3, h4, h5, g⟩, fun g => g.2.2.2.2.2.2.2⟩
              · rw [e]; exact dec_f fun g => h5 g.2.2.2.2.2.2.1
            · rw [e]; exact dec_f fun g => h4 g.2.2.2.2.2.1
          · rw [e]; exact dec_f fun g => h3 g.2.2.2.2.1
        · rw [e]; exact dec_f fun g => h2 g.2.2.2.1
      · rw [e]; exact dec_f fun g => h1 g.2.2.1
    · rw [e]; exact dec_f fun g => hR g.2.1
  · rw [e]; exact dec_f fun g => hS g.1
end Go.Vk
