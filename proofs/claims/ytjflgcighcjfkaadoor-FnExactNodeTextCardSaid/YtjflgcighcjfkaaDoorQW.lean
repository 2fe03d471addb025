/- Masks. -/
import Derived.Test.YtjflgcighcjfkaaDoorQD
namespace Go.Vk
theorem bv_sub (x f : BitVec 64) : x &&& ~~~f = 0#64 ↔ x &&& f = x := by
  constructor
  · intro h
    ext i hi
    have := congrArg (fun b => b.getLsbD i) h
    simp [hi] at this
    simp
    exact this
  · intro h
    ext i hi
    have := congrArg (fun b => b.getLsbD i) h
    simp [hi] at this
    simp
    exact this
theorem mask_and {e : Int} {F : Nat} (hF : F ≤ 31) : ibits .and .i64 e F = (((BitVec.ofInt 64 e &&& BitVec.ofInt 64 F).toNat : Nat) : Int) ∧ (BitVec.ofInt 64 e &&& BitVec.ofInt 64 F).toNat ≤ 31 := by
  have h : (BitVec.ofInt 64 e &&& BitVec.ofInt 64 (F : Int)).toNat ≤ 31 := by
    rw [BitVec.toNat_and, bits_ofNat F (by omega)]
    exact Nat.le_trans Nat.and_le_right hF
  refine ⟨?_, h⟩
  show IntKind.i64.wrap _ = _
  exact wrap_nat (by show (BitVec.ofInt 64 e &&& BitVec.ofInt 64 (F : Int)).toNat < _; omega)
theorem mask_not {e : Int} {F : Nat} : ibits .andNot .i64 e F = 0 ↔ BitVec.ofInt 64 e &&& BitVec.ofInt 64 F = BitVec.ofInt 64 e := by
  rw [← bv_sub]
  show IntKind.i64.wrap (((BitVec.ofInt 64 e &&& ~~~(BitVec.ofInt 64 (F : Int))).toNat : Nat) : Int) = 0 ↔ _
  generalize BitVec.ofInt 64 e &&& ~~~(BitVec.ofInt 64 (F : Int)) = x
  have hx := x.isLt
  rw [IntKind.wrap_i64]
  constructor
  · intro h
    apply BitVec.eq_of_toNat_eq
    show x.toNat = 0
    omega
  · intro h
    rw [h]
    simp
theorem mask_same {e : Int} {F : Nat} (he : -9223372036854775808 ≤ e ∧ e ≤ 9223372036854775807) (hF : F ≤ 31) : ibits .andNot .i64 e F = 0 ↔ (0 ≤ e ∧ ibits .and .i64 e F = e) := by
  obtain ⟨h1, h2⟩ := mask_and (e := e) hF
  rw [mask_not, h1]
  constructor
  · intro h
    rw [h] at h2 ⊢
    have : (BitVec.ofInt 64 e).toNat = (e % 18446744073709551616).toNat := BitVec.toNat_ofInt ..
    omega
  · rintro ⟨h0, h⟩
    apply BitVec.eq_of_toNat_eq
    have : (BitVec.ofInt 64 e).toNat = (e % 18446744073709551616).toNat := BitVec.toNat_ofInt ..
    omega
end Go.Vk
