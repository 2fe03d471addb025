/- Forks: tested alike. -/
import Derived.Test.YtddoligbabahbaaGreatPSt
namespace Go.Vk
/-! forks -/
def lastAt (a : Timpl_Attr) : Int := (nb a : Int) - (if 0 < a.Cuts_.length then 2 else 1)
def atr (s : Timpl_Schema) (f : Timpl_Fork) : Timpl_Attr := s.Attrs_.getD f.Attr_.toNat default
def ForkP (s : Timpl_Schema) (f : Timpl_Fork) : Prop := SchemaP s ∧ (0 ≤ f.Attr_ ∧ f.Attr_ ≤ (s.Attrs_.length : Int) - 1) ∧ (-1 ≤ f.At_ ∧ f.At_ ≤ lastAt (atr s f))
theorem atr_of {s : Timpl_Schema} {f : Timpl_Fork} (h : 0 ≤ f.Attr_ ∧ f.Attr_ ≤ (s.Attrs_.length : Int) - 1) : ∃ (i : Nat) (hi : i < s.Attrs_.length), f.Attr_ = i ∧ atr s f = s.Attrs_[i] := by
  refine ⟨f.Attr_.toNat, by omega, by omega, ?_⟩
  unfold atr
  simp [show f.Attr_.toNat < s.Attrs_.length by omega]
theorem idx_atr {s : Timpl_Schema} {f : Timpl_Fork} (h : 0 ≤ f.Attr_ ∧ f.Attr_ ≤ (s.Attrs_.length : Int) - 1) : idx s.Attrs_ f.Attr_ = some (atr s f) := by
  obtain ⟨i, hi, e1, e2⟩ := atr_of h
  rw [e1, e2, idx_lt hi]
theorem atr_mem {s : Timpl_Schema} {f : Timpl_Fork} (h : 0 ≤ f.Attr_ ∧ f.Attr_ ≤ (s.Attrs_.length : Int) - 1) : atr s f ∈ s.Attrs_ := by
  obtain ⟨i, hi, e1, e2⟩ := atr_of h
  rw [e2]; exact List.getElem_mem hi
theorem atr_ok {s : Timpl_Schema} {f : Timpl_Fork} (hS : SchemaP s) (h : 0 ≤ f.Attr_ ∧ f.Attr_ ≤ (s.Attrs_.length : Int) - 1) : AttrP (atr s f) := by
  obtain ⟨i, hi, e1, e2⟩ := atr_of h
  rw [e2]; exact hS.attr hi
theorem specFork {s : Timpl_Schema} {f : Timpl_Fork} (hs : sml_Schema s) : Dec (spec_ForkOk s f) (ForkP s f) := by
  unfold spec_ForkOk ForkP
  refine dec_bind (specSchema (okS_of hs)) (fun hS => ?_) (fun g => dec_f fun h => g h.1)
  have hn := hs.1.1
  simp only [Bool.not_true, Bool.false_eq_true, if_false]
  rw [wrap_id (n := (s.Attrs_.length : Int) - 1) (by omega) (by omega)]
  rcases (dec_l1In (x := f.Attr_) (a := 0) (b := (s.Attrs_.length : Int) - 1)).cases with ⟨e, hr⟩ | ⟨e, hr⟩
  · rw [e]
    simp only [Option.bind_some, Bool.not_true, Bool.false_eq_true, if_false]
    have hm := hs.1.2 _ (atr_mem hr)
    have hA := atr_ok hS hr
    have hnb := nb_b hA
    rw [idx_atr hr]
    simp only [Option.bind_some]
    rw [specBins hm hA]
    simp only [Option.bind_some]
    unfold lastAt
    refine dec_if (P := 0 < (atr s f).Cuts_.length) (by simp) (fun h => ?_) (fun h => ?_)
    · rw [if_pos h, wrap_id (by omega) (by omega)]
      have : ∀ o : Option Bool, (o.bind fun y => some y) = o := fun o => by cases o <;> rfl
      rw [this]
      exact dec_l1In.of_iff ⟨fun g => ⟨hS, hr, g⟩, fun g => g.2.2⟩
    · rw [if_neg h, wrap_id (by omega) (by omega)]
      have : ∀ o : Option Bool, (o.bind fun y => some y) = o := fun o => by cases o <;> rfl
      rw [this]
      exact dec_l1In.of_iff ⟨fun g => ⟨hS, hr, g⟩, fun g => g.2.2⟩
  · rw [e]
    exact dec_f fun g => hr g.2.1
theorem implFork {s : Timpl_Schema} {f : Timpl_Fork} (hs : sml_Schema s) : Dec (impl_ForkOk s f) (ForkP s f) := by
  unfold impl_ForkOk ForkP
  refine dec_bind (implSchema (okS_of hs)) (fun hS => ?_) (fun g => dec_f fun h => g h.1)
  have hn := hs.1.1
  simp only [Bool.not_true, Bool.false_eq_true, if_false]
  rw [wrap_id (n := (s.Attrs_.length : Int) - 1) (by omega) (by omega)]
  rcases (dec_within (x := f.Attr_) (a := 0) (b := (s.Attrs_.length : Int) - 1)).cases with ⟨e, hr⟩ | ⟨e, hr⟩
  · rw [e]
    simp only [Option.bind_some, Bool.not_true, Bool.false_eq_true, if_false]
    have hm := hs.1.2 _ (atr_mem hr)
    have hA := atr_ok hS hr
    have hnb := nb_b hA
    rw [idx_atr hr]
    simp only [Option.bind_some]
    rw [implBins hm]
    simp only [Option.bind_some]
    unfold lastAt
    have hid : ∀ o : Option Bool, (o.bind fun y => some y) = o := fun o => by cases o <;> rfl
    refine dec_if (P := 0 < (atr s f).Cuts_.length) (by simp) (fun h => ?_) (fun h => ?_)
    · rw [if_pos h, wrap_id (n := (nb (atr s f) : Int) - 1) (by omega) (by omega), wrap_id (by omega) (by omega), hid, show (nb (atr s f) : Int) - 1 - 1 = (nb (atr s f) : Int) - 2 by omega]
      exact dec_within.of_iff ⟨fun g => ⟨hS, hr, g⟩, fun g => g.2.2⟩
    · rw [if_neg h, wrap_id (by omega) (by omega), hid]
      exact dec_within.of_iff ⟨fun g => ⟨hS, hr, g⟩, fun g => g.2.2⟩
  · rw [e]
    exact dec_f fun g => hr g.2.1
end Go.Vk
