/- Loops by index; sums. No program in sight. -/
import Derived.Test.YtddoligbabahbaaGreatVkU
import Derived.Test.YtddoligbabahbaaGreatVkV
namespace Go.Vk
theorem mem_sum {α : Type} {f : α → Nat} {p : List α} {x : α} (h : x ∈ p) : f x ≤ (p.map f).sum := by
  induction p with
  | nil => cases h
  | cons y p ih =>
    simp only [List.map_cons, List.sum_cons]
    rcases List.mem_cons.1 h with rfl | h
    · omega
    · have := ih h; omega
/-- a loop that goes on while Q holds -/
theorem if_idx {ρ : Type} {Lp : Nat → Nat → Option ρ} {n : Nat} {Q : Nat → Prop} {fin bad : Option ρ} (hz : ∀ k, (∀ j, j < n → Q j) → Lp (k + 1) n = fin)
    (hs : ∀ k i, i < n → (∀ j, j < i → Q j) → (Q i ∧ Lp (k + 1) i = Lp k (i + 1)) ∨ (¬ Q i ∧ Lp (k + 1) i = bad)) (hn : n < 1000000000000) :
    ((∀ j, j < n → Q j) ∧ Lp Fuel 0 = fin) ∨ ((¬ ∀ j, j < n → Q j) ∧ Lp Fuel 0 = bad) := by
  have key : ∀ (d k i : Nat), n - i = d → d < k → i ≤ n → (∀ j, j < i → Q j) → ((∀ j, j < n → Q j) ∧ Lp k i = fin) ∨ ((¬ ∀ j, j < n → Q j) ∧ Lp k i = bad) := by
    intro d
    induction d with
    | zero =>
      intro k i hd hk hi hq
      obtain ⟨k, rfl⟩ : ∃ q, k = q + 1 := ⟨k - 1, by omega⟩
      have : i = n := by omega
      subst this
      exact .inl ⟨hq, hz k hq⟩
    | succ d ih =>
      intro k i hd hk hi hq
      obtain ⟨k, rfl⟩ : ∃ q, k = q + 1 := ⟨k - 1, by omega⟩
      rcases hs k i (by omega) hq with ⟨h1, h2⟩ | ⟨h1, h2⟩
      · rw [h2]
        exact ih k (i + 1) (by omega) (by omega) (by omega) (fun j hj => by
          by_cases h : j = i
          · subst h; exact h1
          · exact hq j (by omega))
      · exact .inr ⟨fun g => h1 (g i (by omega)), h2⟩
  exact key n Fuel 0 rfl (fuel_gt hn) (Nat.zero_le _) (fun j hj => by omega)
theorem for_idx {ρ : Type} {Lp : Nat → Nat → Option ρ} {n : Nat} {fin : Option ρ} (hz : ∀ k, Lp (k + 1) n = fin) (hs : ∀ k i, i < n → Lp (k + 1) i = Lp k (i + 1)) (hn : n < 1000000000000) : Lp Fuel 0 = fin := by
  rcases if_idx (Lp := Lp) (n := n) (Q := fun _ => True) (fin := fin) (bad := none) (fun k _ => hz k) (fun k i hi _ => .inl ⟨trivial, hs k i hi⟩) hn with ⟨_, h⟩ | ⟨h, _⟩
  · exact h
  · exact absurd (fun _ _ => trivial) h
theorem Dec.and {o o' : Option Bool} {P Q : Prop} (h : Dec o P) (h' : P → Dec o' Q) : Dec (o.bind fun y => if y then o' else some false) (P ∧ Q) := by
  rcases h.cases with ⟨rfl, p⟩ | ⟨rfl, p⟩
  · exact (h' p).of_iff ⟨fun q => ⟨p, q⟩, fun q => q.2⟩
  · exact dec_f fun q => p q.1
end Go.Vk
