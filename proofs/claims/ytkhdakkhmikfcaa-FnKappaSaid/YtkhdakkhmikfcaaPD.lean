/- Fractions: shares. -/
import Derived.Test.YtkhdakkhmikfcaaPC
namespace Go.Vk
theorem gcd_L : ∀ (b a k : Nat), b < k → ∃ g : Nat, spec_Gcd_L1 k (a : Int) (b : Int) = some (g : Int) ∧ impl_Gcd_L1 k (a : Int) (b : Int) = some (g : Int) ∧ (0 < a ∨ 0 < b → 0 < g) := by
  intro b
  induction b using Nat.strongRecOn with
  | ind b ih =>
    intro a k hk
    obtain ⟨k, rfl⟩ : ∃ q, k = q + 1 := ⟨k - 1, by omega⟩
    rw [spec_Gcd_L1, impl_Gcd_L1]
    by_cases hb : b = 0
    · subst hb
      exact ⟨a, by simp, by simp, fun h => by omega⟩
    · have hr : rem (a : Int) (b : Int) = some ((a % b : Nat) : Int) := by
        unfold rem
        rw [if_neg (by omega), tmod_nat]
      have hlt : a % b < b := Nat.mod_lt _ (by omega)
      obtain ⟨g, g1, g2, g3⟩ := ih (a % b) hlt b k (by omega)
      rw [if_pos (by simp; omega), if_pos (by simp; omega), hr]
      exact ⟨g, g1, g2, fun _ => g3 (.inl (by omega))⟩
theorem share_same {a b : Int} (ha : 0 ≤ a ∧ a ≤ 100000) (hb : 0 ≤ b ∧ b ≤ 100000) : ∃ r, spec_l25Share a b = some r ∧ impl_share a b = some r := by
  unfold spec_l25Share impl_share
  by_cases h0 : b = 0
  · subst h0; exact ⟨_, rfl, rfl⟩
  · rw [if_neg (by simpa using h0), if_neg (by simpa using h0)]
    obtain ⟨x, rfl⟩ : ∃ x : Nat, a = x := ⟨a.toNat, by omega⟩
    obtain ⟨y, rfl⟩ : ∃ y : Nat, b = y := ⟨b.toNat, by omega⟩
    obtain ⟨g, g1, g2, g3⟩ := gcd_L y x Fuel (fuel_gt (by omega))
    have hg := g3 (.inr (by omega))
    unfold spec_FracLow impl_FracLow spec_FracOk impl_FracOk spec_l1In impl_within spec_Gcd impl_Gcd
    simp only [Option.bind_some]
    rw [in_t (by omega), in_t (by omega)]
    simp only [if_true, Option.bind_some, Bool.not_true, Bool.false_eq_true, if_false]
    rw [if_neg (by simp), if_neg (by simp), g1, g2]
    simp only [Option.bind_some]
    unfold quo
    rw [if_neg (by omega), if_neg (by omega)]
    exact ⟨_, rfl, rfl⟩
theorem accuracy_same {n : Int} {s : Timpl_Score} (hs : sml_Score s) : ∃ m, spec_Accuracy n s = some m ∧ impl_Accuracy n s = some m := by
  unfold spec_Accuracy impl_Accuracy
  rw [← (specScore (n := n) hs).eq (implScore hs)]
  rcases (specScore (n := n) hs).cases with ⟨e, hp⟩ | ⟨e, h⟩
  · obtain ⟨N, h⟩ := sq_of hp
    obtain ⟨c1, c2⟩ := count_both hs hp
    have hr : spec_Right n s = some (diag s.Table_ N) ∧ impl_Right n s = some (diag s.Table_ N) := by
      unfold spec_Right impl_Right
      rw [← (specScore (n := n) hs).eq (implScore hs), e]
      exact right_ok h
    rw [e, hr.1, hr.2, c1, c2]
    simp only [Option.bind_some, Bool.not_true, Bool.false_eq_true, if_false]
    have hb := tsum_bound h.rows
    have hf := h.few
    have hd := sum_bound (p := (List.range N).map fun k => ent s.Table_ k k) (b := 9999) (fun x hx => by
      obtain ⟨k, hk, rfl⟩ := List.mem_map.1 hx
      obtain ⟨h1, h2, e, h3⟩ := h.ent_b (List.mem_range.1 hk) (List.mem_range.1 hk)
      omega)
    have hN := h.two
    simp only [List.length_map, List.length_range] at hd
    obtain ⟨r, e1, e2⟩ := share_same (a := diag s.Table_ N) (b := tsum s.Table_) (by unfold diag; omega) (by omega)
    rw [e1, e2]
    exact ⟨_, rfl, rfl⟩
  · rw [e]; exact ⟨_, rfl, rfl⟩
theorem recall_same {n k : Int} {s : Timpl_Score} (hs : sml_Score s) : ∃ m, spec_Recall n s k = some m ∧ impl_Recall n s k = some m := by
  unfold spec_Recall impl_Recall
  rw [← (specScore (n := n) hs).eq (implScore hs)]
  rcases (specScore (n := n) hs).cases with ⟨e, hp⟩ | ⟨e, h⟩
  · obtain ⟨N, h⟩ := sq_of hp
    have hN := h.two
    have hn := h.n_eq
    rw [e]
    unfold spec_l1In impl_within
    simp only [Option.bind_some, Bool.not_true, Bool.false_eq_true, if_false]
    rw [wrap_id (n := n - 1) (by omega) (by omega)]
    by_cases hk : 0 ≤ k ∧ k ≤ n - 1
    · rw [in_t hk]
      simp only [Bool.not_true, Bool.false_eq_true, if_false]
      obtain ⟨q, rfl⟩ : ∃ q : Nat, k = q := ⟨k.toNat, by omega⟩
      obtain ⟨h1, h2, e3, h3⟩ := h.ent_b (i := q) (j := q) (by omega) (by omega)
      have hr := h.rows _ (List.getElem_mem h1)
      rw [idx_lt h1]
      simp only [Option.bind_some]
      rw [idx_lt h2]
      simp only [Option.bind_some]
      rw [l10Sum_ok (fun x hx => by have := hr.2 x hx; omega) (by omega), total_ok (fun x hx => by have := hr.2 x hx; omega) (by omega)]
      simp only [Option.bind_some]
      have hb := row_bound hr
      obtain ⟨r, e1, e2⟩ := share_same (a := s.Table_[q][q]) (b := s.Table_[q].sum) (by omega) (by omega)
      rw [e1, e2]
      exact ⟨_, rfl, rfl⟩
    · rw [in_f hk]
      exact ⟨_, rfl, rfl⟩
  · rw [e]; exact ⟨_, rfl, rfl⟩
end Go.Vk
