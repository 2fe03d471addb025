/- The first of the greatest: found alike. -/
import Derived.Test.YtjflgcighcjfkaaGreatDoorPSt
namespace Go.Vk
def FirstMax (l : List Int) (j : Nat) : Prop := ∃ h : j < l.length, (∀ m, (hm : m < l.length) → l[m] ≤ l[j]) ∧ ∀ m, (hm : m < j) → l[m] < l[j]
theorem FirstMax.eq {l : List Int} {i j : Nat} (h : FirstMax l i) (g : FirstMax l j) : i = j := by
  obtain ⟨hi, h1, h2⟩ := h
  obtain ⟨hj, g1, g2⟩ := g
  rcases Nat.lt_trichotomy i j with c | c | c
  · have := g2 i c; have := h1 j hj; omega
  · exact c
  · have := h2 j c; have := g1 i hi; omega
theorem specTop {l : List Int} (hl : l.length ≤ 1048576) (h0 : l.length ≠ 0) : Tot (spec_TopOf l) (fun r => ∃ j : Nat, r = j ∧ FirstMax l j) := by
  unfold spec_TopOf
  refine tot_for (spec_TopOf_L1 l) l.length (fun i s => (i = 0 ∧ s = -1) ∨ ∃ j : Nat, s = j ∧ ∃ _ : j < i, ∃ hj : j < l.length, (∀ m, m < i → (hm : m < l.length) → l[m] ≤ l[j]) ∧ ∀ m, (hm : m < j) → l[m] < l[j]) (fun k s h => ?_) (fun k s i hi h ih => ?_) (by omega) (.inl ⟨rfl, rfl⟩)
  · rw [spec_TopOf_L1, if_neg (by simp)]
    rcases h with ⟨h, _⟩ | ⟨j, rfl, hj, hl, h1, h2⟩
    · exact absurd h h0
    · exact tot_some ⟨j, rfl, hl, fun m hm => h1 m hm hm, h2⟩
  · rw [spec_TopOf_L1, if_pos (by simp; omega), wrap_succ (by omega)]
    rcases h with ⟨h, rfl⟩ | ⟨j, rfl, hj, hjl, h1, h2⟩
    · rw [if_pos (by simp)]
      subst h
      exact ih _ (.inr ⟨0, rfl, by omega, hi, fun m hm _ => by
        have : m = 0 := by omega
        subst this; exact Int.le_refl _, fun m hm => by omega⟩)
    · rw [if_neg (by simp), idx_lt hi, idx_lt hjl]
      simp only [Option.bind_some]
      by_cases hc : l[i] > l[j]
      · rw [if_pos (by simpa using hc)]
        refine ih _ (.inr ⟨i, rfl, by omega, hi, fun m hm hml => ?_, fun m hm => ?_⟩)
        · by_cases e : m = i
          · subst e; exact Int.le_refl _
          · have := h1 m (by omega) hml; omega
        · have := h1 m hm (by omega); omega
      · rw [if_neg (by simpa using hc)]
        refine ih _ (.inr ⟨j, rfl, by omega, hjl, fun m hm hml => ?_, h2⟩)
        by_cases e : m = i
        · subst e; omega
        · exact h1 m (by omega) hml
theorem implMax {l : List Int} (hl : l.length ≤ 1048576) (h0 : l.length ≠ 0) : Tot (lib_slices_Max___int_int_ l) (fun r => r ∈ l ∧ ∀ x ∈ l, x ≤ r) := by
  unfold lib_slices_Max___int_int_
  rw [if_neg (by simp; omega), show (0 : Int) = ((0 : Nat) : Int) from rfl, idx_lt (show 0 < l.length by omega)]
  simp only [Option.bind_some]
  have key : ∀ (d k i : Nat) (s : Int), l.length - i = d → d < k → 1 ≤ i → i ≤ l.length → s ∈ l → (∀ m, m < i → (hm : m < l.length) → l[m] ≤ s) → Tot (lib_slices_Max___int_int__L1 l k s (i : Int)) (fun r => r ∈ l ∧ ∀ x ∈ l, x ≤ r) := by
    intro d
    induction d with
    | zero =>
      intro k i s hd hk h1 hi hm hs
      obtain ⟨k, rfl⟩ : ∃ q, k = q + 1 := ⟨k - 1, by omega⟩
      rw [lib_slices_Max___int_int__L1, if_neg (by simp; omega)]
      refine tot_some ⟨hm, fun x hx => ?_⟩
      obtain ⟨m, hml, rfl⟩ := List.getElem_of_mem hx
      exact hs m (by omega) hml
    | succ d ih =>
      intro k i s hd hk h1 hi hm hs
      obtain ⟨k, rfl⟩ : ∃ q, k = q + 1 := ⟨k - 1, by omega⟩
      have hlt : i < l.length := by omega
      rw [lib_slices_Max___int_int__L1, if_pos (by simp; omega), idx_lt hlt, wrap_succ (by omega)]
      simp only [Option.bind_some]
      refine ih k (i + 1) _ (by omega) (by omega) (by omega) (by omega) ?_ (fun m hm2 hml => ?_)
      · split
        · exact List.getElem_mem hlt
        · exact hm
      · by_cases e : m = i
        · subst e; split <;> omega
        · have := hs m (by omega) hml; split <;> omega
  exact key (l.length - 1) Fuel 1 _ rfl (fuel_gt (by omega)) (Nat.le_refl _) (by omega) (List.getElem_mem _) (fun m hm _ => by
    have : m = 0 := by omega
    subst this; exact Int.le_refl _)
theorem implTop {l : List Int} (hl : l.length ≤ 1048576) (h0 : l.length ≠ 0) : Tot (impl_TopOf l) (fun r => ∃ j : Nat, r = j ∧ FirstMax l j) := by
  unfold impl_TopOf
  rw [if_neg (by simp only [beq_iff_eq]; omega)]
  obtain ⟨r, e, hr, hm⟩ := implMax hl h0
  rw [e]
  simp only [Option.bind_some]
  have hid : ∀ o : Option Int, (o.bind fun y => some y) = o := fun o => by cases o <;> rfl
  rw [hid]
  unfold lib_slices_Index___int_int_
  refine tot_for (fun k (_ : Unit) i => lib_slices_Index___int_int__L1 l r k i) l.length (fun i _ => ∀ m, m < i → (hm : m < l.length) → l[m] ≠ r) (fun k s h => ?_) (fun k s i hi h ih => ?_) (by omega) (s := ()) (fun m hm => by omega)
  · obtain ⟨j, hj, e2⟩ := List.getElem_of_mem hr
    exact absurd e2 (h j hj hj)
  · show Tot (lib_slices_Index___int_int__L1 l r (k + 1) (i : Int)) _
    rw [lib_slices_Index___int_int__L1, if_pos (by simp; omega), idx_lt hi, wrap_succ (by omega)]
    simp only [Option.bind_some]
    by_cases hc : r = l[i]
    · rw [if_pos (by simpa using hc)]
      refine tot_some ⟨i, rfl, hi, fun m hm2 => by rw [← hc]; exact hm _ (List.getElem_mem hm2), fun m hm2 => ?_⟩
      have h1 := h m hm2 (by omega)
      have h2 := hm _ (List.getElem_mem (by omega : m < l.length))
      omega
    · rw [if_neg (by simpa using hc)]
      exact ih () (fun m hm2 hml => by
        by_cases e : m = i
        · subst e; exact fun g => hc g.symm
        · exact h m (by omega) hml)
theorem top_both {l : List Int} (hl : l.length ≤ 1048576) (h0 : l.length ≠ 0) : ∃ j : Nat, FirstMax l j ∧ spec_TopOf l = some (j : Int) ∧ impl_TopOf l = some (j : Int) := by
  obtain ⟨_, e1, j, rfl, h1⟩ := specTop hl h0
  obtain ⟨_, e2, i, rfl, h2⟩ := implTop hl h0
  obtain rfl := h1.eq h2
  exact ⟨j, h1, e1, e2⟩
end Go.Vk
