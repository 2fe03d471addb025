/- What always answers. No program in sight. -/
import Derived.Test.YtjflgcighcjfkaaGreatDoorVkZ
namespace Go.Vk
/-- it answers, and what it answers has Q -/
def Tot {α : Type} (o : Option α) (Q : α → Prop) : Prop := ∃ v, o = some v ∧ Q v
theorem Tot.mono {α : Type} {o : Option α} {P Q : α → Prop} (h : Tot o P) (k : ∀ v, P v → Q v) : Tot o Q := by
  obtain ⟨v, e, h⟩ := h
  exact ⟨v, e, k v h⟩
theorem tot_some {α : Type} {v : α} {Q : α → Prop} (h : Q v) : Tot (some v) Q := ⟨v, rfl, h⟩
theorem Tot.bind {α β : Type} {o : Option α} {f : α → Option β} {P : α → Prop} {Q : β → Prop} (h : Tot o P) (k : ∀ v, P v → Tot (f v) Q) : Tot (o.bind f) Q := by
  obtain ⟨v, rfl, h⟩ := h
  exact k v h
theorem tot_if {α : Type} {c : Prop} [Decidable c] {a b : Option α} {Q : α → Prop} (h : c → Tot a Q) (h' : ¬ c → Tot b Q) : Tot (if c then a else b) Q := by
  split
  · exact h (by assumption)
  · exact h' (by assumption)
theorem tot_idx {α : Type} {xs : List α} {i : Int} (h : 0 ≤ i ∧ i < xs.length) : Tot (idx xs i) (fun v => v ∈ xs ∧ ∃ j : Nat, i = j ∧ ∃ h : j < xs.length, v = xs[j]) := by
  obtain ⟨j, rfl⟩ : ∃ j : Nat, i = j := ⟨i.toNat, by omega⟩
  have hj : j < xs.length := by omega
  rw [idx_lt hj]
  exact tot_some ⟨List.getElem_mem hj, j, rfl, hj, rfl⟩
theorem tot_app {α : Type} {xs ys : List α} (h : xs.length + ys.length ≤ 68719476736) : Tot (app xs ys) (fun v => v = xs ++ ys) := by
  rw [app_eq h]; exact tot_some rfl
theorem tot_mk {α : Type} {z : α} {n : Int} (h : 0 ≤ n ∧ n ≤ 68719476736) : Tot (mk z n) (fun v => v = List.replicate n.toNat z) := by
  unfold mk; rw [if_pos h]; exact tot_some rfl
theorem tot_sub {α : Type} {xs : List α} {lo hi : Int} (h : 0 ≤ lo ∧ lo ≤ hi ∧ hi ≤ xs.length) : Tot (sub xs lo hi) (fun v => v = (xs.drop lo.toNat).take (hi.toNat - lo.toNat)) := by
  unfold sub; rw [if_pos h]; exact tot_some rfl
/-- a counted loop -/
theorem tot_for {σ ρ : Type} (Lp : Nat → σ → Int → Option ρ) (n : Nat) (I : Nat → σ → Prop) {Q : ρ → Prop}
    (hz : ∀ k s, I n s → Tot (Lp (k + 1) s (n : Int)) Q)
    (hs : ∀ k s i, i < n → I i s → (∀ s', I (i + 1) s' → Tot (Lp k s' ((i + 1 : Nat) : Int)) Q) → Tot (Lp (k + 1) s (i : Int)) Q)
    (hn : n < 1000000000000) {s : σ} (h0 : I 0 s) : Tot (Lp Fuel s 0) Q := by
  have key : ∀ (d k i : Nat) (s : σ), n - i = d → d < k → i ≤ n → I i s → Tot (Lp k s (i : Int)) Q := by
    intro d
    induction d with
    | zero =>
      intro k i s hd hk hi h
      obtain ⟨k, rfl⟩ : ∃ q, k = q + 1 := ⟨k - 1, by omega⟩
      have : i = n := by omega
      subst this
      exact hz k s h
    | succ d ih =>
      intro k i s hd hk hi h
      obtain ⟨k, rfl⟩ : ∃ q, k = q + 1 := ⟨k - 1, by omega⟩
      exact hs k s i (by omega) h (fun s' h' => ih k (i + 1) s' (by omega) (by omega) (by omega) h')
  exact key n Fuel 0 s (by omega) (fuel_gt hn) (Nat.zero_le _) h0
/-- a loop that appends what it makes of each element -/
theorem map_loop {α β ρ : Type} {p : List α} (g : α → β) (Lp : Nat → List β → Int → Option ρ) (fin : List β → Option ρ)
    (hz : ∀ k l, Lp (k + 1) l (p.length : Int) = fin l)
    (hs : ∀ k l (i : Nat) (h : i < p.length), l.length = i → Lp (k + 1) l (i : Int) = Lp k (l ++ [g p[i]]) ((i + 1 : Nat) : Int))
    (hp : p.length < 1000000000000) : Lp Fuel [] 0 = fin (p.map g) := by
  have key : ∀ (d k i : Nat), p.length - i = d → d < k → i ≤ p.length → Lp k ((p.take i).map g) (i : Int) = fin (p.map g) := by
    intro d
    induction d with
    | zero =>
      intro k i hd hk hi
      obtain ⟨k, rfl⟩ : ∃ q, k = q + 1 := ⟨k - 1, by omega⟩
      have : i = p.length := by omega
      subst this
      rw [hz, List.take_length]
    | succ d ih =>
      intro k i hd hk hi
      obtain ⟨k, rfl⟩ : ∃ q, k = q + 1 := ⟨k - 1, by omega⟩
      have hlt : i < p.length := by omega
      rw [hs k _ i hlt (by simp; omega), ← ih k (i + 1) (by omega) (by omega) (by omega), List.take_succ_eq_append_getElem hlt, List.map_append]
      rfl
  exact key p.length Fuel 0 (by omega) (fuel_gt hp) (Nat.zero_le _)
/-- a loop that appends something made of the place -/
theorem build_loop {β ρ : Type} {n : Nat} (G : Nat → β) (Lp : Nat → List β → Int → Option ρ) (fin : List β → Option ρ)
    (hz : ∀ k l, Lp (k + 1) l (n : Int) = fin l)
    (hs : ∀ k l (i : Nat), i < n → l.length = i → Lp (k + 1) l (i : Int) = Lp k (l ++ [G i]) ((i + 1 : Nat) : Int))
    (hn : n < 1000000000000) : Lp Fuel [] 0 = fin ((List.range n).map G) := by
  have key : ∀ (d k i : Nat), n - i = d → d < k → i ≤ n → Lp k ((List.range i).map G) (i : Int) = fin ((List.range n).map G) := by
    intro d
    induction d with
    | zero =>
      intro k i hd hk hi
      obtain ⟨k, rfl⟩ : ∃ q, k = q + 1 := ⟨k - 1, by omega⟩
      have : i = n := by omega
      subst this
      exact hz _ _
    | succ d ih =>
      intro k i hd hk hi
      obtain ⟨k, rfl⟩ : ∃ q, k = q + 1 := ⟨k - 1, by omega⟩
      rw [hs k _ i (by omega) (by simp), ← ih k (i + 1) (by omega) (by omega) (by omega), List.range_succ, List.map_append]
      rfl
  exact key n Fuel 0 (by omega) (fuel_gt hn) (Nat.zero_le _)
/-! draws -/
theorem and255 (x : Int) : 0 ≤ ibits .and .i64 x 255 ∧ ibits .and .i64 x 255 ≤ 255 := by
  unfold ibits
  show 0 ≤ IntKind.i64.wrap ((BitVec.ofInt 64 x &&& BitVec.ofInt 64 255).toNat : Int) ∧ IntKind.i64.wrap ((BitVec.ofInt 64 x &&& BitVec.ofInt 64 255).toNat : Int) ≤ 255
  have h : (BitVec.ofInt 64 x &&& BitVec.ofInt 64 255).toNat ≤ 255 := by
    rw [BitVec.toNat_and]
    exact Nat.and_le_right
  rw [wrap_nat (by omega)]
  omega
theorem tot_rem {x n : Int} (h0 : 0 ≤ x) (hn : 0 < n) : Tot (rem x n) (fun r => 0 ≤ r ∧ r < n) := by
  unfold rem
  rw [if_neg (by omega), Int.tmod_eq_emod_of_nonneg h0]
  exact tot_some ⟨Int.emod_nonneg _ (by omega), Int.emod_lt_of_pos _ hn⟩
end Go.Vk
