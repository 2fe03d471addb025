/- Examples: tested alike. -/
import Derived.Test.YtejneofoabmojaaPD
namespace Go.Vk
def ExP (s : Timpl_Schema) (e : Timpl_Ex) : Prop := SchemaP s ∧ e.Bins_.length = s.Attrs_.length ∧ (-1 ≤ e.Class_ ∧ e.Class_ ≤ (s.Classes_.length : Int) - 1) ∧
  ∀ i, 0 ≤ i → i < e.Bins_.length → ∃ n : Nat, ∃ h : i < s.Attrs_.length, impl_bins s.Attrs_[i] = some (n : Int) ∧ n ≤ 4 ∧ ∀ hb : i < e.Bins_.length, -1 ≤ e.Bins_[i] ∧ e.Bins_[i] ≤ (n : Int) - 1
theorem specExBins {s : Timpl_Schema} {e : Timpl_Ex} (hs : OkS s) (hS : SchemaP s) (hl : e.Bins_.length = s.Attrs_.length) : Dec (spec_ExOk_L1 e s Fuel 0) (∀ i, 0 ≤ i → i < e.Bins_.length → ∃ n : Nat, ∃ h : i < s.Attrs_.length, impl_bins s.Attrs_[i] = some (n : Int) ∧ n ≤ 4 ∧ ∀ hb : i < e.Bins_.length, -1 ≤ e.Bins_[i] ∧ e.Bins_[i] ≤ (n : Int) - 1) := by
  refine all_idx (Lp := spec_ExOk_L1 e s) (n := e.Bins_.length) 0 (fun k i hi => ?_) (fun k i _ hi => ?_) (by have := hs.1; omega)
  · show (if _ then _ else _) = _
    rw [if_neg (by simp; omega)]
  · have ha : i < s.Attrs_.length := by omega
    obtain ⟨n, b1, b2, _, b3⟩ := bins_ok (hs.2.1 _ (List.getElem_mem ha)) (hS.2.2.2 i (Nat.zero_le _) ha ha).1
    rw [spec_ExOk_L1]
    rw [if_pos (by simp; omega), idx_lt hi, idx_lt ha, wrap_succ (by have := hs.1; omega)]
    simp only [Option.bind_some]
    rw [b1]
    simp only [Option.bind_some]
    rw [wrap_id (by omega) (by omega)]
    unfold spec_l1In
    simp only [Option.bind_some]
    by_cases hc : -1 ≤ e.Bins_[i] ∧ e.Bins_[i] ≤ (n : Int) - 1
    · rw [in_t hc]
      exact .inl ⟨⟨n, ha, b2, b3, fun _ => hc⟩, rfl⟩
    · rw [in_f hc]
      exact .inr ⟨fun ⟨n', _, b4, _, g⟩ => hc (by rw [b2] at b4; have := Option.some.inj b4; rw [this]; exact g hi), rfl⟩
theorem implExBins {s : Timpl_Schema} {e : Timpl_Ex} (hs : OkS s) (hS : SchemaP s) (hl : e.Bins_.length = s.Attrs_.length) : Dec (impl_ExOk_L1 e s Fuel 0) (∀ i, 0 ≤ i → i < e.Bins_.length → ∃ n : Nat, ∃ h : i < s.Attrs_.length, impl_bins s.Attrs_[i] = some (n : Int) ∧ n ≤ 4 ∧ ∀ hb : i < e.Bins_.length, -1 ≤ e.Bins_[i] ∧ e.Bins_[i] ≤ (n : Int) - 1) := by
  refine all_idx (Lp := impl_ExOk_L1 e s) (n := e.Bins_.length) 0 (fun k i hi => ?_) (fun k i _ hi => ?_) (by have := hs.1; omega)
  · show (if _ then _ else _) = _
    rw [if_neg (by simp; omega)]
  · have ha : i < s.Attrs_.length := by omega
    obtain ⟨n, b1, b2, _, b3⟩ := bins_ok (hs.2.1 _ (List.getElem_mem ha)) (hS.2.2.2 i (Nat.zero_le _) ha ha).1
    rw [impl_ExOk_L1]
    rw [if_pos (by simp; omega), idx_lt hi, idx_lt ha, wrap_succ (by have := hs.1; omega)]
    simp only [Option.bind_some]
    rw [b2]
    simp only [Option.bind_some]
    rw [wrap_id (by omega) (by omega)]
    unfold impl_within
    simp only [Option.bind_some]
    by_cases hc : -1 ≤ e.Bins_[i] ∧ e.Bins_[i] ≤ (n : Int) - 1
    · rw [in_t hc]
      exact .inl ⟨⟨n, ha, b2, b3, fun _ => hc⟩, rfl⟩
    · rw [in_f hc]
      exact .inr ⟨fun ⟨n', _, b4, _, g⟩ => hc (by rw [b2] at b4; have := Option.some.inj b4; rw [this]; exact g hi), rfl⟩
theorem specEx {s : Timpl_Schema} {e : Timpl_Ex} (hs : OkS s) : Dec (spec_ExOk s e) (ExP s e) := by
  unfold spec_ExOk ExP
  rcases (specSchema hs).cases with ⟨e1, h⟩ | ⟨e1, h⟩
  · rw [e1]
    unfold spec_l1In
    simp only [Option.bind_some, Bool.not_true, Bool.false_or]
    by_cases hn : e.Bins_.length = s.Attrs_.length
    · rw [if_neg (by simp [hn])]
      simp only [Option.bind_some]
      rw [wrap_id (by omega) (by have := hs.2.2.1; omega)]
      by_cases hc : -1 ≤ e.Class_ ∧ e.Class_ ≤ (s.Classes_.length : Int) - 1
      · rw [in_t hc]
        simp only [Bool.not_true, Bool.false_eq_true, if_false]
        exact (specExBins hs h hn).of_iff ⟨fun g => ⟨h, hn, hc, g⟩, fun g => g.2.2.2⟩
      · rw [in_f hc]
        exact dec_f fun g => hc g.2.2.1
    · rw [if_pos (by simp; omega)]
      exact dec_f fun g => hn g.2.1
  · rw [e1]
    exact dec_f fun g => h g.1
theorem implEx {s : Timpl_Schema} {e : Timpl_Ex} (hs : OkS s) : Dec (impl_ExOk s e) (ExP s e) := by
  unfold impl_ExOk ExP
  rcases (implSchema hs).cases with ⟨e1, h⟩ | ⟨e1, h⟩
  · rw [e1]
    unfold impl_within
    simp only [Option.bind_some, Bool.not_true, Bool.false_or]
    by_cases hn : e.Bins_.length = s.Attrs_.length
    · rw [if_neg (by simp [hn])]
      simp only [Option.bind_some]
      rw [wrap_id (by omega) (by have := hs.2.2.1; omega)]
      by_cases hc : -1 ≤ e.Class_ ∧ e.Class_ ≤ (s.Classes_.length : Int) - 1
      · rw [in_t hc]
        simp only [Bool.not_true, Bool.false_eq_true, if_false]
        exact (implExBins hs h hn).of_iff ⟨fun g => ⟨h, hn, hc, g⟩, fun g => g.2.2.2⟩
      · rw [in_f hc]
        exact dec_f fun g => hc g.2.2.1
    · rw [if_pos (by simp; omega)]
      exact dec_f fun g => hn g.2.1
  · rw [e1]
    exact dec_f fun g => h g.1
def toE (x : Tlaws_Ex) : Timpl_Ex := ⟨x.Bins_, x.Class_⟩
theorem weighs_ex {x : Tlaws_Ex} (hx : x.Bins_.length < 9223372036854775808) : Weighs laws_szEx (fun x => x.Bins_.length) x := fun s hs => by
  show ∃ r, laws_szEx x s = some r ∧ ((r < 0 ∧ s < x.Bins_.length) ∨ (x.Bins_.length ≤ s ∧ r = ((s - x.Bins_.length : Nat) : Int)))
  unfold laws_szEx
  obtain ⟨r, e1, g⟩ := weighs_ints hx s hs
  rw [e1]
  simp only [Option.bind_some]
  rcases g with ⟨g, g'⟩ | ⟨g, rfl⟩
  · rw [if_pos (by simpa using g)]; exact ⟨_, rfl, .inl ⟨by omega, by omega⟩⟩
  · rw [if_neg (by simp)]; exact ⟨_, rfl, .inr ⟨by omega, rfl⟩⟩
theorem toEx_ok {x : Tlaws_Ex} (h : x.Bins_.length ≤ 1048576) : laws_toEx x = some (toE x) := by
  unfold laws_toEx
  rw [toIntS_id h]
  rfl
theorem eqEx_self {x : Timpl_Ex} (h : x.Bins_.length < 1000000000000) : laws_eqEx x x = some true := by
  unfold laws_eqEx
  rw [eqIntS_self h]
  simp
end Go.Vk
