/- Words, cuts, attributes: tested alike. -/
import Derived.Test.YtddoligbabahbaaGreatPT
import Derived.Test.YtddoligbabahbaaGreatVkU
import Derived.Test.YtddoligbabahbaaGreatVkO
namespace Go.Vk
def WordP (w : List UInt8) : Prop := (1 ≤ (w.length : Int) ∧ (w.length : Int) ≤ 8) ∧ ∀ i, 0 ≤ i → (h : i < w.length) → 97 ≤ (w[i]).toNat ∧ (w[i]).toNat ≤ 122
theorem specWord {w : List UInt8} (hw : w.length < 1000000000000) : Dec (spec_WordOk w) (WordP w) := by
  unfold spec_WordOk spec_l1In WordP
  simp only [Option.bind_some]
  by_cases h : 1 ≤ (w.length : Int) ∧ (w.length : Int) ≤ 8
  · rw [in_t h]
    simp only [Bool.not_true, Bool.false_eq_true, if_false]
    refine (all_idx (Lp := spec_WordOk_L1 w) (n := w.length) (Q := fun i => ∀ h : i < w.length, 97 ≤ (w[i]).toNat ∧ (w[i]).toNat ≤ 122) 0 (fun k i hi => ?_) (fun k i _ hi => ?_) hw).of_iff ⟨fun g => ⟨h, fun i h0 h1 => g i h0 h1 h1⟩, fun g i h0 h1 _ => g.2 i h0 h1⟩
    · show (if _ then _ else _) = _
      rw [if_neg (by simp; omega)]
    · rw [spec_WordOk_L1]
      rw [if_pos (by simp; omega), idx_lt hi, wrap_succ (by omega)]
      simp only [Option.bind_some]
      by_cases h1 : ((w[i]).toNat : Int) < 97
      · rw [if_pos (by simpa using h1)]
        exact .inr ⟨fun g => by have := g hi; omega, rfl⟩
      · rw [if_neg (by simpa using h1)]
        simp only [Option.bind_some]
        by_cases h2 : ((w[i]).toNat : Int) > 122
        · rw [if_pos (by simpa using h2)]
          exact .inr ⟨fun g => by have := g hi; omega, rfl⟩
        · rw [if_neg (by simpa using h2)]
          exact .inl ⟨fun _ => ⟨by omega, by omega⟩, rfl⟩
  · rw [in_f h]
    exact dec_f fun g => h g.1
theorem implWord {w : List UInt8} (hw : w.length < 1000000000000) : Dec (impl_WordOk w) (WordP w) := by
  unfold impl_WordOk impl_within WordP
  simp only [Option.bind_some]
  by_cases h : 1 ≤ (w.length : Int) ∧ (w.length : Int) ≤ 8
  · rw [in_t h]
    simp only [Bool.not_true, Bool.false_eq_true, if_false]
    refine (all_idx (Lp := impl_WordOk_L1 w) (n := w.length) (Q := fun i => ∀ h : i < w.length, 97 ≤ (w[i]).toNat ∧ (w[i]).toNat ≤ 122) 0 (fun k i hi => ?_) (fun k i _ hi => ?_) hw).of_iff ⟨fun g => ⟨h, fun i h0 h1 => g i h0 h1 h1⟩, fun g i h0 h1 _ => g.2 i h0 h1⟩
    · show (if _ then _ else _) = _
      rw [if_neg (by simp; omega)]
    · rw [impl_WordOk_L1]
      rw [if_pos (by simp; omega), idx_lt hi, wrap_succ (by omega)]
      simp only [Option.bind_some]
      by_cases h1 : ((w[i]).toNat : Int) < 97
      · rw [if_pos (by simpa using h1)]
        exact .inr ⟨fun g => by have := g hi; omega, rfl⟩
      · rw [if_neg (by simpa using h1)]
        simp only [Option.bind_some]
        by_cases h2 : ((w[i]).toNat : Int) > 122
        · rw [if_pos (by simpa using h2)]
          exact .inr ⟨fun g => by have := g hi; omega, rfl⟩
        · rw [if_neg (by simpa using h2)]
          exact .inl ⟨fun _ => ⟨by omega, by omega⟩, rfl⟩
  · rw [in_f h]
    exact dec_f fun g => h g.1
/-- each a word, and none twice -/
def WordsP (ws : List (List UInt8)) : Prop := ∀ i, 0 ≤ i → i < ws.length → ∀ h : i < ws.length, WordP ws[i] ∧ ∀ j, (hj : j < i) → ws[i] ≠ ws[j]
theorem specWords {ws : List (List UInt8)} (hn : ws.length < 1000000000000) (hl : ∀ w ∈ ws, w.length < 1000000000000) : Dec (spec_l5Words ws) (WordsP ws) := by
  unfold spec_l5Words
  refine all_idx (Lp := spec_l5Words_L1 ws) (n := ws.length) (Q := fun i => ∀ h : i < ws.length, WordP ws[i] ∧ ∀ j, (hj : j < i) → ws[i] ≠ ws[j]) 0 (fun k i hi => ?_) (fun k i _ hi => ?_) hn
  · show (if _ then _ else _) = _
    rw [if_neg (by simp; omega)]
  · rw [spec_l5Words_L1]
    rw [if_pos (by simp; omega), idx_lt hi]
    simp only [Option.bind_some]
    rcases (specWord (hl _ (List.getElem_mem hi))).cases with ⟨e, hw⟩ | ⟨e, hw⟩
    · rw [e]
      simp only [Option.bind_some, Bool.not_true, Bool.false_eq_true, if_false]
      have key : ∀ (d q j : Nat), i - j = d → d < q → (hj : j ≤ i) → (∀ m, (hm : m < j) → ws[i] ≠ ws[m]'(by omega)) →
          ((∀ m, (hm : m < i) → ws[i] ≠ ws[m]) ∧ spec_l5Words_L2 i ws (spec_l5Words_L1 ws k) q (j : Int) = spec_l5Words_L1 ws k ((i + 1 : Nat) : Int)) ∨ ((¬ ∀ m, (hm : m < i) → ws[i] ≠ ws[m]) ∧ spec_l5Words_L2 i ws (spec_l5Words_L1 ws k) q (j : Int) = some false) := by
        intro d
        induction d with
        | zero =>
          intro q j hd hq hj hm
          obtain ⟨q, rfl⟩ : ∃ r, q = r + 1 := ⟨q - 1, by omega⟩
          rw [spec_l5Words_L2]
          rw [if_neg (by simp; omega), wrap_succ (by omega)]
          exact .inl ⟨fun m hm' => hm m (by omega), rfl⟩
        | succ d ih =>
          intro q j hd hq hj hm
          obtain ⟨q, rfl⟩ : ∃ r, q = r + 1 := ⟨q - 1, by omega⟩
          rw [spec_l5Words_L2]
          rw [if_pos (by simp; omega), idx_lt hi, idx_lt (show j < ws.length by omega)]
          simp only [Option.bind_some]
          by_cases hc : ws[i] = ws[j]
          · rw [if_pos (by simpa using hc)]
            exact .inr ⟨fun g => g j (by omega) hc, rfl⟩
          · rw [if_neg (by simpa using hc), wrap_succ (by omega)]
            exact ih q (j + 1) (by omega) (by omega) (by omega) (fun m hm' => by
              by_cases h : m = j
              · subst h; exact hc
              · exact hm m (by omega))
      rcases key i Fuel 0 (by omega) (fuel_gt (by omega)) (by omega) (fun m hm => by omega) with ⟨h1, h2⟩ | ⟨h1, h2⟩
      · exact .inl ⟨fun _ => ⟨hw, h1⟩, h2⟩
      · exact .inr ⟨fun g => h1 (g hi).2, h2⟩
    · rw [e]
      exact .inr ⟨fun g => hw (g hi).1, rfl⟩
theorem implWords {ws : List (List UInt8)} (hn : ws.length < 1000000000000) (hl : ∀ w ∈ ws, w.length < 1000000000000) : Dec (impl_distinctWords ws) (WordsP ws) := by
  unfold impl_distinctWords
  refine all_idx (Lp := impl_distinctWords_L1 ws) (n := ws.length) (Q := fun i => ∀ h : i < ws.length, WordP ws[i] ∧ ∀ j, (hj : j < i) → ws[i] ≠ ws[j]) 0 (fun k i hi => ?_) (fun k i _ hi => ?_) hn
  · show (if _ then _ else _) = _
    rw [if_neg (by simp; omega)]
  · rw [impl_distinctWords_L1]
    rw [if_pos (by simp; omega), idx_lt hi, wrap_succ (by omega)]
    simp only [Option.bind_some]
    rcases (implWord (hl _ (List.getElem_mem hi))).cases with ⟨e, hw⟩ | ⟨e, hw⟩
    · rw [e]
      simp only [Option.bind_some, Bool.not_true, Bool.false_eq_true, if_false]
      have hs : sub ws 0 (i : Int) = some (ws.take i) := by
        unfold sub
        rw [if_pos (by omega)]
        simp
      rw [hs]
      simp only [Option.bind_some]
      unfold lib_slices_Contains___string_string_ lib_slices_Index___string_string_
      have hf := find_idx (Lp := lib_slices_Index___string_string__L1 (ws.take i) ws[i]) (n := i) (Q := fun j => ∀ hj : j < i, ws[i] = ws[j]) (fun k j hj => by
        show (if _ then _ else _) = _
        rw [if_neg (by simp; omega)]) (fun k j hj => by
        rw [lib_slices_Index___string_string__L1]
        rw [if_pos (by simp; omega), idx_lt (show j < (ws.take i).length by simp; omega), wrap_succ (by omega)]
        simp only [Option.bind_some, List.getElem_take]
        by_cases hc : ws[i] = ws[j]
        · rw [if_pos (by simpa using hc)]
          exact .inl ⟨fun _ => hc, rfl⟩
        · rw [if_neg (by simpa using hc)]
          exact .inr ⟨fun g => hc (g hj), rfl⟩) (by omega)
      rcases hf.cases with ⟨e2, j, hj, hQ⟩ | ⟨e2, hQ⟩
      · rw [e2]
        exact .inr ⟨fun g => (g hi).2 j hj (hQ hj), rfl⟩
      · rw [e2]
        exact .inl ⟨fun _ => ⟨hw, fun j hj hc => hQ ⟨j, hj, fun _ => hc⟩⟩, rfl⟩
    · rw [e]
      exact .inr ⟨fun g => hw (g hi).1, rfl⟩
/-- cuts that rise, each in its range -/
def CutsP (l : List Int) : Prop := ∀ i, 0 ≤ i → i < l.length → ∀ h : i < l.length, (-9999 ≤ l[i] ∧ l[i] ≤ 9998) ∧ ∀ h0 : 0 < i, l[i - 1] < l[i]
theorem implCuts {l : List Int} (hn : l.length < 1000000000000) : Dec (impl_CutsOk l) ((1 ≤ (l.length : Int) ∧ (l.length : Int) ≤ 3) ∧ CutsP l) := by
  unfold impl_CutsOk impl_within
  simp only [Option.bind_some]
  by_cases h : 1 ≤ (l.length : Int) ∧ (l.length : Int) ≤ 3
  · rw [in_t h]
    simp only [if_true]
    have ha : Dec (impl_ascending l) (∀ i, 1 ≤ i → i < l.length → ∀ (h : i < l.length), l[i - 1] < l[i]) := by
      unfold impl_ascending
      refine all_idx (Lp := impl_ascending_L1 l) (n := l.length) (Q := fun i => ∀ (h : i < l.length), l[i - 1] < l[i]) 1 (fun k i hi => ?_) (fun k i h1 hi => ?_) hn
      · show (if _ then _ else _) = _
        rw [if_neg (by simp; omega)]
      · rw [impl_ascending_L1]
        rw [if_pos (by simp; omega), idx_lt hi, wrap_succ (by omega), wrap_id (by omega) (by omega), show (i : Int) - 1 = ((i - 1 : Nat) : Int) by omega, idx_lt (show i - 1 < l.length by omega)]
        simp only [Option.bind_some]
        by_cases hc : l[i] ≤ l[i - 1]
        · rw [if_pos (by simpa using hc)]
          exact .inr ⟨fun g => by have := g hi; omega, rfl⟩
        · rw [if_neg (by simpa using hc)]
          exact .inl ⟨fun _ => by omega, rfl⟩
    rcases ha.cases with ⟨e, hA⟩ | ⟨e, hA⟩
    · rw [e]
      simp only [Option.bind_some, if_true]
      unfold lib_slices_ContainsFunc___int_int___impl_CutsOk_1 lib_slices_IndexFunc___int_int___impl_CutsOk_1
      have hf := find_idx (Lp := lib_slices_IndexFunc___int_int___impl_CutsOk_1_L1 l) (n := l.length) (Q := fun j => ∀ hj : j < l.length, ¬ (-9999 ≤ l[j] ∧ l[j] ≤ 9998)) (fun k j hj => by
        show (if _ then _ else _) = _
        rw [if_neg (by simp; omega)]) (fun k j hj => by
        rw [lib_slices_IndexFunc___int_int___impl_CutsOk_1_L1]
        rw [if_pos (by simp; omega), idx_lt hj, wrap_succ (by omega)]
        unfold impl_CutsOk_1 impl_isCut impl_within
        simp only [Option.bind_some]
        by_cases hc : -9999 ≤ l[j] ∧ l[j] ≤ 9998
        · rw [in_t hc]
          exact .inr ⟨fun g => g hj hc, rfl⟩
        · rw [in_f hc]
          exact .inl ⟨fun _ => hc, rfl⟩) hn
      rcases hf.cases with ⟨e2, j, hj, hQ⟩ | ⟨e2, hQ⟩
      · rw [e2]
        exact dec_f fun g => hQ hj (g.2 j (Nat.zero_le _) hj hj).1
      · rw [e2]
        exact dec_t ⟨h, fun i _ hi _ => ⟨Classical.byContradiction fun c => hQ ⟨i, hi, fun _ => c⟩, fun h0 => hA i h0 hi hi⟩⟩
    · rw [e]
      exact dec_f fun g => hA fun i h1 hi h2 => (g.2 i (Nat.zero_le _) hi h2).2 h1
  · rw [in_f h]
    exact dec_f fun g => h g.1
end Go.Vk
