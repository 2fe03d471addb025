/- Bits of words that are not negative; truth of tests. No program in sight. -/
import Derived.Test.YtjflgcighcjfkaaGreatDoorVkP
namespace Go.Vk
theorem bits_ofNat (n : Nat) (h : n < 9223372036854775808) : (BitVec.ofInt 64 (n : Int)).toNat = n := by
  rw [BitVec.ofInt_natCast, BitVec.toNat_ofNat]; omega
theorem xor_nat (x y : Nat) (hx : x < 9223372036854775808) (hy : y < 9223372036854775808) : ibits .xor .i64 x y = ((x ^^^ y : Nat) : Int) ∧ x ^^^ y < 9223372036854775808 := by
  have hlt : x ^^^ y < 2 ^ 63 := Nat.xor_lt_two_pow (by omega) (by omega)
  refine ⟨?_, by omega⟩
  unfold ibits
  show IntKind.i64.wrap _ = _
  rw [BitVec.toNat_xor]
  show IntKind.i64.wrap (((BitVec.ofInt 64 (x : Int)).toNat ^^^ (BitVec.ofInt 64 (y : Int)).toNat : Nat) : Int) = _
  rw [bits_ofNat x hx, bits_ofNat y hy]
  exact wrap_nat (by omega)
theorem and_nat (x y : Nat) (hx : x < 9223372036854775808) (hy : y < 9223372036854775808) : ibits .and .i64 x y = ((x &&& y : Nat) : Int) := by
  have hlt : x &&& y ≤ x := Nat.and_le_left
  unfold ibits
  show IntKind.i64.wrap _ = _
  rw [BitVec.toNat_and]
  show IntKind.i64.wrap (((BitVec.ofInt 64 (x : Int)).toNat &&& (BitVec.ofInt 64 (y : Int)).toNat : Nat) : Int) = _
  rw [bits_ofNat x hx, bits_ofNat y hy]
  exact wrap_nat (by omega)
theorem shr1_nat (x : Nat) : ishr .i64 (x : Int) 1 = ((x / 2 : Nat) : Int) := by
  unfold ishr
  show (x : Int).fdiv (2 ^ 1) = _
  rw [Int.fdiv_eq_ediv_of_nonneg _ (by decide)]
  simp

theorem and127 (n : Nat) (h : n < 9223372036854775808) : ibits .and .i64 (n : Int) 127 = ((n % 128 : Nat) : Int) := by
  rw [show (127 : Int) = ((127 : Nat) : Int) from rfl, and_nat n 127 h (by omega), show 127 = 2 ^ 7 - 1 from rfl, Nat.and_two_pow_sub_one_eq_mod]
theorem or_nat (x y : Nat) (hx : x < 9223372036854775808) (hy : y < 9223372036854775808) : ibits .or .i64 x y = ((x ||| y : Nat) : Int) := by
  have hlt : x ||| y < 2 ^ 63 := Nat.or_lt_two_pow (by omega) (by omega)
  unfold ibits
  show IntKind.i64.wrap _ = _
  rw [BitVec.toNat_or]
  show IntKind.i64.wrap (((BitVec.ofInt 64 (x : Int)).toNat ||| (BitVec.ofInt 64 (y : Int)).toNat : Nat) : Int) = _
  rw [bits_ofNat x hx, bits_ofNat y hy]
  exact wrap_nat (by omega)
theorem or128 (n : Nat) (h : n < 128) : ibits .or .i64 (n : Int) 128 = ((n + 128 : Nat) : Int) := by
  rw [show (128 : Int) = ((128 : Nat) : Int) from rfl, or_nat n 128 (by omega) (by omega), Nat.or_comm, show 128 = 2 ^ 7 * 1 from rfl, ← Nat.two_pow_add_eq_or_of_lt (by omega)]
  simp; omega
theorem shr7 (n : Nat) : ishr .i64 (n : Int) 7 = ((n / 128 : Nat) : Int) := by
  unfold ishr
  show (n : Int).fdiv (2 ^ 7) = _
  rw [Int.fdiv_eq_ediv_of_nonneg _ (by decide)]
  simp
theorem in_t {x a b : Int} (h : a ≤ x ∧ x ≤ b) : (decide (x ≥ a) && decide (x ≤ b)) = true := by simp; omega
theorem in_f {x a b : Int} (h : ¬ (a ≤ x ∧ x ≤ b)) : (decide (x ≥ a) && decide (x ≤ b)) = false := by
  simp only [Bool.and_eq_false_iff, decide_eq_false_iff_not]; omega
end Go.Vk
