/- WayOk answers alike. -/
import Derived.Test.YtjflgcighcjfkaaDoorQW
namespace Go.Vk
theorem fullMask_ok {x : Timpl_Attr} (hx : OkM x) : ∃ F : Nat, F ≤ 31 ∧ spec_FullMask x = some (F : Int) ∧ impl_FullMask x = some (F : Int) := by
  unfold spec_FullMask impl_FullMask
  rcases (specAttr hx).cases with ⟨e, h⟩ | ⟨e, h⟩
  · rcases (implAttr hx).cases with ⟨e2, _⟩ | ⟨_, g⟩
    · obtain ⟨n, b1, b2, b3, b4⟩ := bins_ok hx h
      rw [e, e2]
      simp only [Option.bind_some, Bool.not_true, Bool.false_eq_true, if_false]
      rw [b1, b2]
      simp only [Option.bind_some]
      rw [power_ok (by omega)]
      have hn : n = 2 ∨ n = 3 ∨ n = 4 := by omega
      rcases hn with rfl | rfl | rfl
      · exact ⟨19, by omega, by decide, by decide⟩
      · exact ⟨23, by omega, by decide, by decide⟩
      · exact ⟨31, by omega, by decide, by decide⟩
    · exact absurd h g
  · rcases (implAttr hx).cases with ⟨_, g⟩ | ⟨e2, _⟩
    · exact absurd g h
    · rw [e, e2]; exact ⟨0, by omega, rfl, rfl⟩
def I64s (l : List Int) : Prop := ∀ e ∈ l, -9223372036854775808 ≤ e ∧ e ≤ 9223372036854775807
def MasksP (s : Timpl_Schema) (m : List Int) : Prop := ∀ i, 0 ≤ i → i < m.length → ∃ F : Int, ∃ h : i < s.Attrs_.length, spec_FullMask s.Attrs_[i] = some F ∧ ∀ hm : i < m.length, 0 ≤ m[i] ∧ ibits .and .i64 m[i] F = m[i]
def WayP (s : Timpl_Schema) (w : Timpl_Way) : Prop := SchemaP s ∧ (0 ≤ w.Leaf_ ∧ w.Leaf_ ≤ 30) ∧ w.Masks_.length = s.Attrs_.length ∧ MasksP s w.Masks_
theorem specMasks {s : Timpl_Schema} {w : Timpl_Way} (hs : OkS s) (hl : w.Masks_.length = s.Attrs_.length) : Dec (spec_WayOk_L1 w s Fuel 0) (MasksP s w.Masks_) := by
  refine all_idx (Lp := spec_WayOk_L1 w s) (n := w.Masks_.length) (Q := fun i => ∃ F : Int, ∃ h : i < s.Attrs_.length, spec_FullMask s.Attrs_[i] = some F ∧ ∀ hm : i < w.Masks_.length, 0 ≤ w.Masks_[i] ∧ ibits .and .i64 w.Masks_[i] F = w.Masks_[i]) 0 (fun k i hi => ?_) (fun k i _ hi => ?_) (by have := hs.1; omega)
  · show (if _ then _ else _) = _
    rw [if_neg (by simp; omega)]
  · have ha : i < s.Attrs_.length := by omega
    obtain ⟨F, hF, e1, _⟩ := fullMask_ok (hs.2.1 _ (List.getElem_mem ha))
    rw [spec_WayOk_L1]
    rw [if_pos (by simp; omega), idx_lt hi, idx_lt ha, wrap_succ (by have := hs.1; omega)]
    simp only [Option.bind_some]
    rw [e1]
    simp only [Option.bind_some]
    by_cases h0 : w.Masks_[i] < 0
    · rw [if_pos (by simpa using h0)]
      exact .inr ⟨fun ⟨G, _, _, g⟩ => by have := (g hi).1; omega, rfl⟩
    · rw [if_neg (by simpa using h0)]
      simp only [Option.bind_some]
      by_cases h1 : ibits .and .i64 w.Masks_[i] F = w.Masks_[i]
      · rw [if_neg (by simp [h1])]
        exact .inl ⟨⟨F, ha, e1, fun _ => ⟨by omega, h1⟩⟩, rfl⟩
      · rw [if_pos (by simp [h1])]
        exact .inr ⟨fun ⟨G, _, g1, g⟩ => h1 (by rw [e1] at g1; obtain rfl := Option.some.inj g1; exact (g hi).2), rfl⟩
theorem implMasks {s : Timpl_Schema} {w : Timpl_Way} (hs : OkS s) (hw : I64s w.Masks_) (hl : w.Masks_.length = s.Attrs_.length) : Dec (impl_WayOk_L1 w s Fuel 0) (MasksP s w.Masks_) := by
  refine all_idx (Lp := impl_WayOk_L1 w s) (n := w.Masks_.length) (Q := fun i => ∃ F : Int, ∃ h : i < s.Attrs_.length, spec_FullMask s.Attrs_[i] = some F ∧ ∀ hm : i < w.Masks_.length, 0 ≤ w.Masks_[i] ∧ ibits .and .i64 w.Masks_[i] F = w.Masks_[i]) 0 (fun k i hi => ?_) (fun k i _ hi => ?_) (by have := hs.1; omega)
  · show (if _ then _ else _) = _
    rw [if_neg (by simp; omega)]
  · have ha : i < s.Attrs_.length := by omega
    obtain ⟨F, hF, e1, e2⟩ := fullMask_ok (hs.2.1 _ (List.getElem_mem ha))
    rw [impl_WayOk_L1]
    rw [if_pos (by simp; omega), idx_lt hi, idx_lt ha, wrap_succ (by have := hs.1; omega)]
    simp only [Option.bind_some]
    rw [e2]
    simp only [Option.bind_some]
    have hm := mask_same (F := F) (hw _ (List.getElem_mem hi)) hF
    by_cases h1 : ibits .andNot .i64 w.Masks_[i] F = 0
    · rw [if_neg (by simp [h1])]
      exact .inl ⟨⟨F, ha, e1, fun _ => hm.1 h1⟩, rfl⟩
    · rw [if_pos (by simp [h1])]
      exact .inr ⟨fun ⟨G, _, g1, g⟩ => h1 (by rw [e1] at g1; obtain rfl := Option.some.inj g1; exact hm.2 (g hi)), rfl⟩
theorem specWay {s : Timpl_Schema} {w : Timpl_Way} (hs : OkS s) : Dec (spec_WayOk s w) (WayP s w) := by
  unfold spec_WayOk WayP
  rcases (specSchema hs).cases with ⟨e, h⟩ | ⟨e, h⟩
  · rw [e]
    unfold spec_l1In
    simp only [Option.bind_some, Bool.not_true, Bool.false_eq_true, if_false]
    by_cases hl : 0 ≤ w.Leaf_ ∧ w.Leaf_ ≤ 30
    · rw [in_t hl]
      simp only [Bool.not_true, Bool.false_or]
      by_cases hn : w.Masks_.length = s.Attrs_.length
      · rw [if_neg (by simp [hn])]
        exact (specMasks hs hn).of_iff ⟨fun g => ⟨h, hl, hn, g⟩, fun g => g.2.2.2⟩
      · rw [if_pos (by simp; omega)]
        exact dec_f fun g => hn g.2.2.1
    · rw [in_f hl]
      exact dec_f fun g => hl g.2.1
  · rw [e]
    exact dec_f fun g => h g.1
theorem implWay {s : Timpl_Schema} {w : Timpl_Way} (hs : OkS s) (hw : I64s w.Masks_) : Dec (impl_WayOk s w) (WayP s w) := by
  unfold impl_WayOk WayP
  rcases (implSchema hs).cases with ⟨e, h⟩ | ⟨e, h⟩
  · rw [e]
    unfold impl_within
    simp only [Option.bind_some, Bool.not_true, Bool.false_eq_true, if_false]
    by_cases hl : 0 ≤ w.Leaf_ ∧ w.Leaf_ ≤ 30
    · rw [in_t hl]
      simp only [Bool.not_true, Bool.false_or]
      by_cases hn : w.Masks_.length = s.Attrs_.length
      · rw [if_neg (by simp [hn])]
        exact (implMasks hs hw hn).of_iff ⟨fun g => ⟨h, hl, hn, g⟩, fun g => g.2.2.2⟩
      · rw [if_pos (by simp; omega)]
        exact dec_f fun g => hn g.2.2.1
    · rw [in_f hl]
      exact dec_f fun g => hl g.2.1
  · rw [e]
    exact dec_f fun g => h g.1
end Go.Vk
