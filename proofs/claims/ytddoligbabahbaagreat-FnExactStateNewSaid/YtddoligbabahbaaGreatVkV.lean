/- What the statement's frame says of whole numbers. -/
import Derived.Test.YtddoligbabahbaaGreatVkO
namespace Go.Vk
theorem i64_of {n : Int} (h : IntOk .i64 n) : -9223372036854775808 ≤ n ∧ n ≤ 9223372036854775807 := by
  simp only [IntOk, Lit.wf] at h
  have h1 : IntKind.i64.min ≤ n ∧ n ≤ IntKind.i64.max := by simpa using h
  exact h1
theorem u8_of {n : Int} (h : IntOk .u8 n) : 0 ≤ n ∧ n ≤ 255 := by
  simp only [IntOk, Lit.wf] at h
  have h1 : IntKind.u8.min ≤ n ∧ n ≤ IntKind.u8.max := by simpa using h
  exact h1
theorem lt63 {n : Nat} (h : n ≤ maxLen) : n < 9223372036854775808 := Nat.lt_of_le_of_lt h (by decide)
end Go.Vk
