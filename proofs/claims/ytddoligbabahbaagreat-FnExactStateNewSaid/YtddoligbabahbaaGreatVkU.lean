/- Tests that are answered alike. No program in sight. -/
import Derived.Test.YtddoligbabahbaaGreatVkR
namespace Go.Vk
/-- the test answers whether P -/
def Dec (o : Option Bool) (P : Prop) : Prop := ∃ b, o = some b ∧ (b = true ↔ P)
theorem Dec.eq {o o' : Option Bool} {P : Prop} (h : Dec o P) (h' : Dec o' P) : o = o' := by
  obtain ⟨b, rfl, h1⟩ := h
  obtain ⟨c, rfl, h2⟩ := h'
  rw [Bool.eq_iff_iff.2 (h1.trans h2.symm)]
theorem Dec.of_iff {o : Option Bool} {P Q : Prop} (h : Dec o P) (e : P ↔ Q) : Dec o Q := by
  obtain ⟨b, rfl, h1⟩ := h
  exact ⟨b, rfl, h1.trans e⟩
theorem Dec.cases {o : Option Bool} {P : Prop} (h : Dec o P) : (o = some true ∧ P) ∨ (o = some false ∧ ¬ P) := by
  obtain ⟨b, rfl, h1⟩ := h
  cases b
  · exact .inr ⟨rfl, fun p => by have := h1.2 p; cases this⟩
  · exact .inl ⟨rfl, h1.1 rfl⟩
theorem dec_t {P : Prop} (h : P) : Dec (some true) P := ⟨true, rfl, by simp [h]⟩
theorem dec_f {P : Prop} (h : ¬ P) : Dec (some false) P := ⟨false, rfl, by simp [h]⟩
theorem dec_in {x a b : Int} : Dec (some (decide (x ≥ a) && decide (x ≤ b))) (a ≤ x ∧ x ≤ b) := ⟨_, rfl, by simp⟩
theorem all_idx {Lp : Nat → Int → Option Bool} {n : Nat} {Q : Nat → Prop} (i0 : Nat) (hz : ∀ k (i : Nat), n ≤ i → Lp (k + 1) (i : Int) = some true)
    (hs : ∀ k (i : Nat), i0 ≤ i → i < n → (Q i ∧ Lp (k + 1) (i : Int) = Lp k ((i + 1 : Nat) : Int)) ∨ (¬ Q i ∧ Lp (k + 1) (i : Int) = some false)) (hn : n < 1000000000000) : Dec (Lp Fuel (i0 : Int)) (∀ i, i0 ≤ i → i < n → Q i) := by
  have key : ∀ (d k i : Nat), n - i = d → d < k → i0 ≤ i → Dec (Lp k (i : Int)) (∀ j, i ≤ j → j < n → Q j) := by
    intro d
    induction d with
    | zero =>
      intro k i hd hk hi
      obtain ⟨k, rfl⟩ : ∃ q, k = q + 1 := ⟨k - 1, by omega⟩
      rw [hz k i (by omega)]
      exact dec_t fun j h1 h2 => by omega
    | succ d ih =>
      intro k i hd hk hi
      obtain ⟨k, rfl⟩ : ∃ q, k = q + 1 := ⟨k - 1, by omega⟩
      rcases hs k i hi (by omega) with ⟨hq, e⟩ | ⟨hq, e⟩
      · rw [e]
        refine (ih k (i + 1) (by omega) (by omega) (by omega)).of_iff ⟨fun h j h1 h2 => ?_, fun h j h1 h2 => h j (by omega) h2⟩
        by_cases hj : j = i
        · rw [hj]; exact hq
        · exact h j (by omega) h2
      · rw [e]
        exact dec_f fun h => hq (h i (Nat.le_refl _) (by omega))
  exact key (n - i0) Fuel i0 rfl (fuel_gt (by omega)) (Nat.le_refl _)
/-- the first place where it holds, or less than nothing -/
theorem find_idx {Lp : Nat → Int → Option Int} {n : Nat} {Q : Nat → Prop} (hz : ∀ k (i : Nat), n ≤ i → Lp (k + 1) (i : Int) = some (-1))
    (hs : ∀ k (i : Nat), i < n → (Q i ∧ Lp (k + 1) (i : Int) = some (i : Int)) ∨ (¬ Q i ∧ Lp (k + 1) (i : Int) = Lp k ((i + 1 : Nat) : Int))) (hn : n < 1000000000000) :
    Dec ((Lp Fuel 0).bind fun y => some (decide (y ≥ 0))) (∃ i, i < n ∧ Q i) := by
  have key : ∀ (d k i : Nat), n - i = d → d < k → Dec ((Lp k (i : Int)).bind fun y => some (decide (y ≥ 0))) (∃ j, i ≤ j ∧ j < n ∧ Q j) := by
    intro d
    induction d with
    | zero =>
      intro k i hd hk
      obtain ⟨k, rfl⟩ : ∃ q, k = q + 1 := ⟨k - 1, by omega⟩
      rw [hz k i (by omega)]
      exact dec_f fun ⟨j, h1, h2, _⟩ => by omega
    | succ d ih =>
      intro k i hd hk
      obtain ⟨k, rfl⟩ : ∃ q, k = q + 1 := ⟨k - 1, by omega⟩
      rcases hs k i (by omega) with ⟨hq, e⟩ | ⟨hq, e⟩
      · rw [e]
        exact ⟨true, by simp, by simp; exact ⟨i, Nat.le_refl _, by omega, hq⟩⟩
      · rw [e]
        refine (ih k (i + 1) (by omega) (by omega)).of_iff ⟨fun ⟨j, h1, h2, h3⟩ => ⟨j, by omega, h2, h3⟩, fun ⟨j, h1, h2, h3⟩ => ⟨j, ?_, h2, h3⟩⟩
        by_cases hj : j = i
        · rw [hj] at h3; exact absurd h3 hq
        · omega
  refine (key n Fuel 0 rfl (fuel_gt (by omega))).of_iff ⟨fun ⟨j, _, h2, h3⟩ => ⟨j, h2, h3⟩, fun ⟨j, h2, h3⟩ => ⟨j, Nat.zero_le _, h2, h3⟩⟩
end Go.Vk
