/- FullMask answers alike. -/
import Derived.Test.YtddoligbabahbaaGreatQB
namespace Go.Vk
theorem bins_ok {x : Timpl_Attr} (hx : OkM x) (h : AttrP x) : ∃ n : Nat, spec_Bins x = some (n : Int) ∧ impl_bins x = some (n : Int) ∧ 2 ≤ n ∧ n ≤ 4 := by
  unfold spec_Bins impl_bins
  rcases (specAttr hx).cases with ⟨e, _⟩ | ⟨_, g⟩
  · rw [e]
    simp only [Option.bind_some, Bool.not_true, Bool.false_eq_true, if_false]
    rcases h.2 with ⟨h1, h2, _⟩ | ⟨h1, h2, _⟩
    · rw [if_neg (fun g => by have := of_decide_eq_true g; omega)]
      exact ⟨_, rfl, rfl, by omega, by omega⟩
    · rw [if_pos (decide_eq_true (by omega)), wrap_succ (by omega)]
      exact ⟨_, rfl, rfl, by omega, by omega⟩
  · exact absurd h g
end Go.Vk
