/- Bits of words that are not negative; truth of tests. No program in sight. -/
import Derived.Test.YtddoligbabahbaaGreatVkP
namespace Go.Vk
theorem in_t {x a b : Int} (h : a ≤ x ∧ x ≤ b) : (decide (x ≥ a) && decide (x ≤ b)) = true := by simp; omega
theorem in_f {x a b : Int} (h : ¬ (a ≤ x ∧ x ≤ b)) : (decide (x ≥ a) && decide (x ≤ b)) = false := by
  simp only [Bool.and_eq_false_iff, decide_eq_false_iff_not]; omega
end Go.Vk
