/- FullMask answers alike. -/
import Derived.Test.YtddoligbabahbaaGreatQB
namespace Go.Vk
theorem power_ok {n : Nat} (hn : n ≤ 40) : spec_l16Power (n : Int) = some ((2 ^ n : Nat) : Int) := by
  unfold spec_l16Power
  have key : ∀ (d k i : Nat), i + d = n → d < k → spec_l16Power_L1 (n : Int) k ((2 ^ i : Nat) : Int) (i : Int) = some ((2 ^ n : Nat) : Int) := by
    intro d
    induction d with
    | zero =>
      intro k i hd hk
      obtain ⟨k, rfl⟩ : ∃ q, k = q + 1 := ⟨k - 1, by omega⟩
      rw [spec_l16Power_L1]
      rw [if_neg (by simp; omega), show i = n by omega]
    | succ d ih =>
      intro k i hd hk
      obtain ⟨k, rfl⟩ : ∃ q, k = q + 1 := ⟨k - 1, by omega⟩
      rw [spec_l16Power_L1]
      have hp : (2 : Nat) ^ i ≤ 2 ^ 40 := Nat.pow_le_pow_right (by omega) (by omega)
      have e : IntKind.i64.wrap (((2 ^ i : Nat) : Int) * 2) = ((2 ^ (i + 1) : Nat) : Int) := by
        rw [Nat.pow_succ]
        generalize (2 : Nat) ^ i = q at hp
        rw [wrap_id (by omega) (by omega)]; omega
      rw [if_pos (decide_eq_true (by omega)), e, wrap_succ (by omega)]
      exact ih k (i + 1) (by omega) (by omega)
  exact key n Fuel 0 (by omega) (fuel_gt (by omega))
theorem bins_ok {x : Timpl_Attr} (hx : OkM x) (h : AttrP x) : ∃ n : Nat, spec_Bins x = some (n : Int) ∧ impl_bins x = some (n : Int) ∧ 2 ≤ n ∧ n ≤ 4 := by
  unfold spec_Bins impl_bins
  rcases (specAttr hx).cases with ⟨e, _⟩ | ⟨_, g⟩
  · rw [e]
    simp only [Option.bind_some, Bool.not_true, Bool.false_eq_true, if_false]
    rcases h.2 with ⟨h1, h2, _⟩ | ⟨h1, h2, _⟩
    · rw [if_neg (fun g => by have := of_decide_eq_true g; omega)]
      exact ⟨_, rfl, rfl, by omega, by omega⟩
    · rw [if_pos (decide_eq_true (by omega)), wrap_succ (by omega)]
      exact ⟨_, rfl, rfl, by omega, by omega⟩
  · exact absurd h g
end Go.Vk
