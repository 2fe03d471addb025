/- What always answers. No program in sight. -/
import Derived.Test.YtddoligbabahbaaGreatVkZ
namespace Go.Vk
/-- it answers, and what it answers has Q -/
def Tot {α : Type} (o : Option α) (Q : α → Prop) : Prop := ∃ v, o = some v ∧ Q v
theorem Tot.mono {α : Type} {o : Option α} {P Q : α → Prop} (h : Tot o P) (k : ∀ v, P v → Q v) : Tot o Q := by
  obtain ⟨v, e, h⟩ := h
  exact ⟨v, e, k v h⟩
theorem Tot.bind {α β : Type} {o : Option α} {f : α → Option β} {P : α → Prop} {Q : β → Prop} (h : Tot o P) (k : ∀ v, P v → Tot (f v) Q) : Tot (o.bind f) Q := by
  obtain ⟨v, rfl, h⟩ := h
  exact k v h
/-- a loop that appends what it makes of each element -/
theorem map_loop {α β ρ : Type} {p : List α} (g : α → β) (Lp : Nat → List β → Int → Option ρ) (fin : List β → Option ρ)
    (hz : ∀ k l, Lp (k + 1) l (p.length : Int) = fin l)
    (hs : ∀ k l (i : Nat) (h : i < p.length), l.length = i → Lp (k + 1) l (i : Int) = Lp k (l ++ [g p[i]]) ((i + 1 : Nat) : Int))
    (hp : p.length < 1000000000000) : Lp Fuel [] 0 = fin (p.map g) := by
  have key : ∀ (d k i : Nat), p.length - i = d → d < k → i ≤ p.length → Lp k ((p.take i).map g) (i : Int) = fin (p.map g) := by
    intro d
    induction d with
    | zero =>
      intro k i hd hk hi
      obtain ⟨k, rfl⟩ : ∃ q, k = q + 1 := ⟨k - 1, by omega⟩
      have : i = p.length := by omega
      subst this
      rw [hz, List.take_length]
    | succ d ih =>
      intro k i hd hk hi
      obtain ⟨k, rfl⟩ : ∃ q, k = q + 1 := ⟨k - 1, by omega⟩
      have hlt : i < p.length := by omega
      rw [hs k _ i hlt (by simp; omega), ← ih k (i + 1) (by omega) (by omega) (by omega), List.take_succ_eq_append_getElem hlt, List.map_append]
      rfl
  exact key p.length Fuel 0 (by omega) (fuel_gt hp) (Nat.zero_le _)
/-- a loop that appends something made of the place -/
theorem build_loop {β ρ : Type} {n : Nat} (G : Nat → β) (Lp : Nat → List β → Int → Option ρ) (fin : List β → Option ρ)
    (hz : ∀ k l, Lp (k + 1) l (n : Int) = fin l)
    (hs : ∀ k l (i : Nat), i < n → l.length = i → Lp (k + 1) l (i : Int) = Lp k (l ++ [G i]) ((i + 1 : Nat) : Int))
    (hn : n < 1000000000000) : Lp Fuel [] 0 = fin ((List.range n).map G) := by
  have key : ∀ (d k i : Nat), n - i = d → d < k → i ≤ n → Lp k ((List.range i).map G) (i : Int) = fin ((List.range n).map G) := by
    intro d
    induction d with
    | zero =>
      intro k i hd hk hi
      obtain ⟨k, rfl⟩ : ∃ q, k = q + 1 := ⟨k - 1, by omega⟩
      have : i = n := by omega
      subst this
      exact hz _ _
    | succ d ih =>
      intro k i hd hk hi
      obtain ⟨k, rfl⟩ : ∃ q, k = q + 1 := ⟨k - 1, by omega⟩
      rw [hs k _ i (by omega) (by simp), ← ih k (i + 1) (by omega) (by omega) (by omega), List.range_succ, List.map_append]
      rfl
  exact key n Fuel 0 (by omega) (fuel_gt hn) (Nat.zero_le _)
end Go.Vk
