/- Schemas: tested, weighed, copied, compared; AllRoom. -/
import Derived.Test.YtddoligbabahbaaGreatQC
import Derived.Test.YtddoligbabahbaaGreatVkX
namespace Go.Vk
def NamedP (l : List Timpl_Attr) : Prop := ∀ i, 0 ≤ i → i < l.length → ∀ h : i < l.length, AttrP l[i] ∧ ∀ j, (hj : j < i) → l[i].Name_ ≠ l[j].Name_
def SchemaP (x : Timpl_Schema) : Prop := (1 ≤ (x.Attrs_.length : Int) ∧ (x.Attrs_.length : Int) ≤ 5) ∧ (2 ≤ (x.Classes_.length : Int) ∧ (x.Classes_.length : Int) ≤ 3) ∧ WordsP x.Classes_ ∧ NamedP x.Attrs_
def OkS (x : Timpl_Schema) : Prop := x.Attrs_.length < 1000000000 ∧ (∀ a ∈ x.Attrs_, OkM a) ∧ x.Classes_.length < 1000000000000 ∧ ∀ y ∈ x.Classes_, y.length < 1000000000000
theorem specNamed {x : Timpl_Schema} (hx : OkS x) : Dec (spec_SchemaOk_L1 x Fuel 0) (NamedP x.Attrs_) := by
  obtain ⟨h1, h2, _, _⟩ := hx
  refine all_idx (Lp := spec_SchemaOk_L1 x) (n := x.Attrs_.length) (Q := fun i => ∀ h : i < x.Attrs_.length, AttrP x.Attrs_[i] ∧ ∀ j, (hj : j < i) → x.Attrs_[i].Name_ ≠ x.Attrs_[j].Name_) 0 (fun k i hi => ?_) (fun k i _ hi => ?_) (by omega)
  · show (if _ then _ else _) = _
    rw [if_neg (by simp; omega)]
  · rw [spec_SchemaOk_L1]
    rw [if_pos (by simp; omega), idx_lt hi]
    simp only [Option.bind_some]
    rcases (specAttr (h2 _ (List.getElem_mem hi))).cases with ⟨e, hw⟩ | ⟨e, hw⟩
    · rw [e]
      simp only [Option.bind_some, Bool.not_true, Bool.false_eq_true, if_false]
      have key : ∀ (d q j : Nat), i - j = d → d < q → (hj : j ≤ i) → (∀ m, (hm : m < j) → x.Attrs_[i].Name_ ≠ (x.Attrs_[m]'(by omega)).Name_) →
          ((∀ m, (hm : m < i) → x.Attrs_[i].Name_ ≠ x.Attrs_[m].Name_) ∧ spec_SchemaOk_L2 i x (spec_SchemaOk_L1 x k) q (j : Int) = spec_SchemaOk_L1 x k ((i + 1 : Nat) : Int)) ∨ ((¬ ∀ m, (hm : m < i) → x.Attrs_[i].Name_ ≠ x.Attrs_[m].Name_) ∧ spec_SchemaOk_L2 i x (spec_SchemaOk_L1 x k) q (j : Int) = some false) := by
        intro d
        induction d with
        | zero =>
          intro q j hd hq hj hm
          obtain ⟨q, rfl⟩ : ∃ r, q = r + 1 := ⟨q - 1, by omega⟩
          rw [spec_SchemaOk_L2]
          rw [if_neg (by simp; omega), wrap_succ (by omega)]
          exact .inl ⟨fun m hm' => hm m (by omega), rfl⟩
        | succ d ih =>
          intro q j hd hq hj hm
          obtain ⟨q, rfl⟩ : ∃ r, q = r + 1 := ⟨q - 1, by omega⟩
          rw [spec_SchemaOk_L2]
          rw [if_pos (by simp; omega), idx_lt hi, idx_lt (show j < x.Attrs_.length by omega)]
          simp only [Option.bind_some]
          by_cases hc : x.Attrs_[i].Name_ = x.Attrs_[j].Name_
          · rw [if_pos (by simpa using hc)]
            exact .inr ⟨fun g => g j (by omega) hc, rfl⟩
          · rw [if_neg (by simpa using hc), wrap_succ (by omega)]
            exact ih q (j + 1) (by omega) (by omega) (by omega) (fun m hm' => by
              by_cases h : m = j
              · subst h; exact hc
              · exact hm m (by omega))
      rcases key i Fuel 0 (by omega) (fuel_gt (by omega)) (by omega) (fun m hm => by omega) with ⟨h1, h2⟩ | ⟨h1, h2⟩
      · exact .inl ⟨fun _ => ⟨hw, h1⟩, h2⟩
      · exact .inr ⟨fun g => h1 (g hi).2, h2⟩
    · rw [e]
      exact .inr ⟨fun g => hw (g hi).1, rfl⟩
theorem implNamed {x : Timpl_Schema} (hx : OkS x) : Dec (impl_SchemaOk_L1 x Fuel 0 []) (NamedP x.Attrs_) := by
  obtain ⟨h1, h2, _, _⟩ := hx
  have hW : Dec (impl_distinctWords (x.Attrs_.map Timpl_Attr.Name_)) (WordsP (x.Attrs_.map Timpl_Attr.Name_)) := implWords (by simp; omega) (fun w hw => by
    obtain ⟨a, ha, rfl⟩ := List.mem_map.1 hw
    exact (h2 a ha).1)
  have key : ∀ (d k i : Nat), x.Attrs_.length - i = d → d < k → i ≤ x.Attrs_.length → Dec (impl_SchemaOk_L1 x k (i : Int) ((x.Attrs_.take i).map Timpl_Attr.Name_)) ((∀ j, i ≤ j → ∀ hj : j < x.Attrs_.length, AttrP x.Attrs_[j]) ∧ WordsP (x.Attrs_.map Timpl_Attr.Name_)) := by
    intro d
    induction d with
    | zero =>
      intro k i hd hk hi
      obtain ⟨k, rfl⟩ : ∃ q, k = q + 1 := ⟨k - 1, by omega⟩
      rw [impl_SchemaOk_L1]
      rw [if_neg (by simp; omega), List.take_of_length_le (by omega)]
      have : ∀ o : Option Bool, (o.bind fun y => some y) = o := fun o => by cases o <;> rfl
      rw [this]
      exact hW.of_iff ⟨fun g => ⟨fun j h3 h4 => by omega, g⟩, fun g => g.2⟩
    | succ d ih =>
      intro k i hd hk hi
      obtain ⟨k, rfl⟩ : ∃ q, k = q + 1 := ⟨k - 1, by omega⟩
      have hlt : i < x.Attrs_.length := by omega
      rw [impl_SchemaOk_L1]
      rw [if_pos (by simp; omega), idx_lt hlt]
      simp only [Option.bind_some]
      rcases (implAttr (h2 _ (List.getElem_mem hlt))).cases with ⟨e, hw⟩ | ⟨e, hw⟩
      · rw [e]
        simp only [Option.bind_some, Bool.not_true, Bool.false_eq_true, if_false]
        rw [app_eq (by simp; omega)]
        simp only [Option.bind_some]
        rw [wrap_succ (by omega), show (x.Attrs_.take i).map Timpl_Attr.Name_ ++ [x.Attrs_[i].Name_] = (x.Attrs_.take (i + 1)).map Timpl_Attr.Name_ by rw [List.take_succ_eq_append_getElem hlt, List.map_append]; rfl]
        refine (ih k (i + 1) (by omega) (by omega) (by omega)).of_iff ⟨fun g => ⟨fun j h3 h4 => ?_, g.2⟩, fun g => ⟨fun j h3 h4 => g.1 j (by omega) h4, g.2⟩⟩
        by_cases hj : j = i
        · subst hj; exact hw
        · exact g.1 j (by omega) h4
      · rw [e]
        exact dec_f fun g => hw (g.1 i (Nat.le_refl _) hlt)
  have := key x.Attrs_.length Fuel 0 (by omega) (fuel_gt (by omega)) (by omega)
  have h0 : Dec (impl_SchemaOk_L1 x Fuel 0 []) ((∀ j, 0 ≤ j → ∀ hj : j < x.Attrs_.length, AttrP x.Attrs_[j]) ∧ WordsP (x.Attrs_.map Timpl_Attr.Name_)) := this
  refine h0.of_iff ⟨fun g i _ _ h => ⟨g.1 i (Nat.zero_le _) h, fun j hj hc => ?_⟩, fun g => ⟨fun j _ hj => (g j (Nat.zero_le _) hj hj).1, fun i _ _ h => ?_⟩⟩
  · have := (g.2 i (Nat.zero_le _) (by simpa using h) (by simpa using h)).2 j hj
    simp at this
    exact this hc
  · have hi : i < x.Attrs_.length := by simpa using h
    obtain ⟨g1, g2⟩ := g i (Nat.zero_le _) hi hi
    exact ⟨by simpa using g1.1, fun j hj => by simpa using g2 j hj⟩
theorem specSchema {x : Timpl_Schema} (hx : OkS x) : Dec (spec_SchemaOk x) (SchemaP x) := by
  have hN := specNamed hx
  obtain ⟨h1, h2, h3, h4⟩ := hx
  unfold spec_SchemaOk spec_l1In SchemaP
  simp only [Option.bind_some]
  by_cases ha : 1 ≤ (x.Attrs_.length : Int) ∧ (x.Attrs_.length : Int) ≤ 5
  · rw [in_t ha]
    simp only [Bool.not_true, Bool.false_eq_true, if_false]
    by_cases hc : 2 ≤ (x.Classes_.length : Int) ∧ (x.Classes_.length : Int) ≤ 3
    · rw [in_t hc]
      simp only [Option.bind_some, Bool.not_true, Bool.false_eq_true, if_false]
      rcases (specWords h3 h4).cases with ⟨e, hW⟩ | ⟨e, hW⟩
      · rw [e]
        simp only [Option.bind_some, Bool.not_true, Bool.false_eq_true, if_false]
        exact hN.of_iff ⟨fun g => ⟨ha, hc, hW, g⟩, fun g => g.2.2.2⟩
      · rw [e]
        exact dec_f fun g => hW g.2.2.1
    · rw [in_f hc]
      exact dec_f fun g => hc g.2.1
  · rw [in_f ha]
    exact dec_f fun g => ha g.1
theorem implSchema {x : Timpl_Schema} (hx : OkS x) : Dec (impl_SchemaOk x) (SchemaP x) := by
  have hN := implNamed hx
  obtain ⟨h1, h2, h3, h4⟩ := hx
  unfold impl_SchemaOk impl_within SchemaP
  simp only [Option.bind_some]
  by_cases ha : 1 ≤ (x.Attrs_.length : Int) ∧ (x.Attrs_.length : Int) ≤ 5
  · rw [in_t ha]
    simp only [Bool.not_true, Bool.false_eq_true, if_false]
    by_cases hc : 2 ≤ (x.Classes_.length : Int) ∧ (x.Classes_.length : Int) ≤ 3
    · rw [in_t hc]
      simp only [Option.bind_some, Bool.not_true, Bool.false_eq_true, if_false]
      rcases (implWords h3 h4).cases with ⟨e, hW⟩ | ⟨e, hW⟩
      · rw [e]
        simp only [Option.bind_some, Bool.not_true, Bool.false_eq_true, if_false]
        exact hN.of_iff ⟨fun g => ⟨ha, hc, hW, g⟩, fun g => g.2.2.2⟩
      · rw [e]
        exact dec_f fun g => hW g.2.2.1
    · rw [in_f hc]
      exact dec_f fun g => hc g.2.1
  · rw [in_f ha]
    exact dec_f fun g => ha g.1
/-! ### weighed, copied, compared -/
end Go.Vk
