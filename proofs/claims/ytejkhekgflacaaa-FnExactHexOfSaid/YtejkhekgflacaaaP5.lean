/- The plain law of HexOf. -/
import Derived.Test.YtejkhekgflacaaaP4
namespace Go.Vk

abbrev digits16 : List UInt8 := [48, 49, 50, 51, 52, 53, 54, 55, 56, 57, 97, 98, 99, 100, 101, 102]
theorem half_all : ∀ n : Nat, n < 256 → spec_l32Half (n : Int) = some (Lib.indexByte digits16 (UInt8.ofNat n)) ∧ Lib.indexByte digits16 (UInt8.ofNat n) ≤ 15 := by
  unfold spec_l32Half
  decide +kernel
theorem half_eq (b : UInt8) : ∃ v : Int, spec_l32Half (b.toNat : Int) = some v ∧ lib_strings_IndexByte digits16 (b.toNat : Int) = some v ∧ v ≤ 15 := by
  have h := half_all b.toNat (UInt8.toNat_lt b)
  rw [UInt8.ofNat_toNat] at h
  refine ⟨_, h.1, ?_, h.2⟩
  unfold lib_strings_IndexByte lib_stringslite_IndexByte
  simp only [Option.bind_some, Int.toNat_natCast]
  rw [show b.toNat.toUInt8 = b from UInt8.ofNat_toNat]
theorem word_all : ∀ y : Nat, y < 16 → ∀ z : Nat, z < 16 → IntKind.u8.wrap (IntKind.i64.wrap ((IntKind.i64.wrap (16 * (y : Int))) + (z : Int))) = IntKind.u8.wrap (ibits .or .i64 (ishl .i64 (y : Int) 4) (z : Int)) := by
  decide +kernel
theorem hexOf_L {p : List UInt8} (hp : p.length ≤ 1048576) (he : p.length % 2 = 0) : ∀ (d k i : Nat) (l : List Int), p.length - i ≤ d → d < k → i ≤ p.length → i % 2 = 0 → l.length ≤ i →
    ∃ r, spec_HexOf_L1 p k l (i : Int) = some r ∧ impl_HexOf_L1 p k l (i : Int) = some r ∧ r.1.length ≤ p.length := by
  intro d
  induction d with
  | zero =>
    intro k i l hd hk hi h2 hl
    cases k with
    | zero => omega
    | succ k =>
      unfold spec_HexOf_L1 impl_HexOf_L1
      rw [if_neg (by simp; omega), if_neg (by simp; omega)]
      exact ⟨_, rfl, rfl, by simp; omega⟩
  | succ d ih =>
    intro k i l hd hk hi h2 hl
    cases k with
    | zero => omega
    | succ k =>
      unfold spec_HexOf_L1 impl_HexOf_L1
      by_cases hlt : i < p.length
      · rw [if_pos (by simp; omega), if_pos (by simp; omega), idx_lt hlt]
        simp only [Option.bind_some]
        obtain ⟨y, a1, a2, a3⟩ := half_eq p[i]
        have hw : IntKind.i64.wrap ((i : Int) + 1) = ((i + 1 : Nat) : Int) := by rw [wrap_id (by omega) (by omega)]; simp
        rw [a1, a2, hw, idx_lt (show i + 1 < p.length by omega)]
        simp only [Option.bind_some]
        obtain ⟨z, b1, b2, b3⟩ := half_eq p[i + 1]
        rw [b1, b2]
        simp only [Option.bind_some]
        by_cases hc : y < 0 ∨ z < 0
        · rw [if_pos (by simpa using hc), if_pos (by simpa using hc)]
          exact ⟨_, rfl, rfl, by simp⟩
        · rw [if_neg (by simpa using hc), if_neg (by simpa using hc)]
          obtain ⟨m, rfl⟩ : ∃ m : Nat, y = (m : Int) := ⟨y.toNat, by omega⟩
          obtain ⟨q, rfl⟩ : ∃ q : Nat, z = (q : Int) := ⟨z.toNat, by omega⟩
          rw [word_all m (by omega) q (by omega)]
          have ha : ∀ x : Int, app l [x] = some (l ++ [x]) := fun x => by
            unfold app
            rw [if_pos (by simp; omega)]
          rw [ha]
          simp only [Option.bind_some]
          have hw2 : IntKind.i64.wrap ((i : Int) + 2) = ((i + 2 : Nat) : Int) := by rw [wrap_id (by omega) (by omega)]; simp
          rw [hw2]
          exact ih k (i + 2) _ (by omega) (by omega) (by omega) (by omega) (by simp; omega)
      · rw [if_neg (by simp; omega), if_neg (by simp; omega)]
        exact ⟨_, rfl, rfl, by simp; omega⟩
theorem hexOf_same {p : List UInt8} (hp : p.length ≤ 1048576) : ∃ r, spec_HexOf p = some r ∧ impl_HexOf p = some r ∧ r.1.length ≤ 1048576 := by
  unfold spec_HexOf impl_HexOf
  rw [show Int.tmod (p.length : Int) 2 = ((p.length % 2 : Nat) : Int) from tmod_nat p.length 2]
  by_cases he : p.length % 2 = 0
  · rw [if_neg (by simp [he]), if_neg (by simp [he])]
    obtain ⟨r, h1, h2, h3⟩ := hexOf_L hp he p.length Fuel 0 [] (by omega) (fuel_gt (by omega)) (by omega) (by omega) (by simp)
    exact ⟨r, h1, h2, by omega⟩
  · rw [if_pos (by simp; omega), if_pos (by simp; omega)]
    exact ⟨_, rfl, rfl, by simp⟩
theorem exactHexOf (p : List UInt8) : laws_FnExactHexOf p = some true := by
  unfold laws_FnExactHexOf
  by_cases hp : p.length ≤ 1048576
  · rw [if_neg (by simp; omega)]
    obtain ⟨r, h1, h2, h3⟩ := hexOf_same hp
    rw [h1, h2]
    simp only [Option.bind_some]
    rw [eqByteS_self h3]
    simp only [Option.bind_some, Bool.not_true, bne_self_eq_false, Bool.or_self, Bool.false_eq_true, if_false]
    rw [markByteS_eq (by omega) (by omega) (by omega)]
    simp only [Option.bind_some]
    rw [heldByteS_eq (by omega) (by omega) (by omega)]
    simp only [Option.bind_some, bne_self_eq_false, Bool.false_eq_true, if_false]
    rw [if_neg (by simp; omega), if_neg (by simp; omega)]
  · rw [if_pos (by simp; omega)]
end Go.Vk
