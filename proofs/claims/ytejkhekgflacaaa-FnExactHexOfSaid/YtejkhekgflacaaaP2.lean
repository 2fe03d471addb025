/- The plain law of HexText. -/
import Derived.Test.YtejkhekgflacaaaP1
namespace Go.Vk

theorem sign_digit : ∀ n : Nat, n < 16 → ∃ c : UInt8, idx ([48, 49, 50, 51, 52, 53, 54, 55, 56, 57, 97, 98, 99, 100, 101, 102] : List UInt8) (n : Int) = some c ∧ spec_l32Sign (n : Int) = some (c.toNat : Int)
  | 0, _ => ⟨48, by decide, by unfold spec_l32Sign; decide⟩
  | 1, _ => ⟨49, by decide, by unfold spec_l32Sign; decide⟩
  | 2, _ => ⟨50, by decide, by unfold spec_l32Sign; decide⟩
  | 3, _ => ⟨51, by decide, by unfold spec_l32Sign; decide⟩
  | 4, _ => ⟨52, by decide, by unfold spec_l32Sign; decide⟩
  | 5, _ => ⟨53, by decide, by unfold spec_l32Sign; decide⟩
  | 6, _ => ⟨54, by decide, by unfold spec_l32Sign; decide⟩
  | 7, _ => ⟨55, by decide, by unfold spec_l32Sign; decide⟩
  | 8, _ => ⟨56, by decide, by unfold spec_l32Sign; decide⟩
  | 9, _ => ⟨57, by decide, by unfold spec_l32Sign; decide⟩
  | 10, _ => ⟨97, by decide, by unfold spec_l32Sign; decide⟩
  | 11, _ => ⟨98, by decide, by unfold spec_l32Sign; decide⟩
  | 12, _ => ⟨99, by decide, by unfold spec_l32Sign; decide⟩
  | 13, _ => ⟨100, by decide, by unfold spec_l32Sign; decide⟩
  | 14, _ => ⟨101, by decide, by unfold spec_l32Sign; decide⟩
  | 15, _ => ⟨102, by decide, by unfold spec_l32Sign; decide⟩
  | n + 16, hn => by omega
theorem bits8_ofNat (n : Nat) (h : n < 256) : (BitVec.ofInt 8 (n : Int)).toNat = n := by
  rw [BitVec.ofInt_natCast, BitVec.toNat_ofNat]; omega
theorem wrap8_nat {n : Nat} (h : n < 256) : IntKind.u8.wrap (n : Int) = n := by rw [IntKind.wrap_u8]; omega
theorem and15 (n : Nat) (h : n < 256) : ibits .and .u8 (n : Int) 15 = ((n % 16 : Nat) : Int) := by
  unfold ibits
  show IntKind.u8.wrap _ = _
  rw [BitVec.toNat_and]
  show IntKind.u8.wrap (((BitVec.ofInt 8 (n : Int)).toNat &&& (BitVec.ofInt 8 ((15 : Nat) : Int)).toNat : Nat) : Int) = _
  rw [bits8_ofNat n h, bits8_ofNat 15 (by omega), show 15 = 2 ^ 4 - 1 from rfl, Nat.and_two_pow_sub_one_eq_mod]
  exact wrap8_nat (by omega)
theorem shr4 (n : Nat) : ishr .u8 (n : Int) 4 = ((n / 16 : Nat) : Int) := by
  unfold ishr
  show (n : Int).fdiv (2 ^ 4) = _
  rw [Int.fdiv_eq_ediv_of_nonneg _ (by decide)]
  simp
theorem hex_L1 {p : List Int} (hb : Bytes p) (hp : p.length ≤ 1048576) : ∀ (d k i : Nat) (l : List Int), p.length - i = d → i ≤ p.length → d < k → l.length = 2 * i → ∃ r, spec_HexText_L1 p k l (i : Int) = some r ∧ impl_HexText_L1 p k l (i : Int) = some r := by
  intro d
  induction d with
  | zero =>
    intro k i l hd hi hk hl
    cases k with
    | zero => omega
    | succ k =>
      unfold spec_HexText_L1 impl_HexText_L1
      rw [if_neg (by simp; omega), if_neg (by simp; omega)]
      exact ⟨_, rfl, rfl⟩
  | succ d ih =>
    intro k i l hd hi hk hl
    cases k with
    | zero => omega
    | succ k =>
      unfold spec_HexText_L1 impl_HexText_L1
      have hlt : i < p.length := by omega
      rw [if_pos (by simp; omega), if_pos (by simp; omega), idx_lt hlt]
      simp only [Option.bind_some]
      obtain ⟨n, hn, hn2⟩ := bytes_nat hb hlt
      rw [hn, wrap_nat (n := n) (by omega)]
      have e1 : IntKind.i64.wrap (Int.tdiv (n : Int) 16) = ((n / 16 : Nat) : Int) := by
        rw [show Int.tdiv (n : Int) 16 = ((n / 16 : Nat) : Int) from by rw [Int.tdiv_eq_ediv_of_nonneg (by omega)]; simp]
        exact wrap_nat (by omega)
      have e2 : Int.tmod (n : Int) 16 = ((n % 16 : Nat) : Int) := by rw [Int.tmod_eq_emod_of_nonneg (by omega)]; simp
      rw [e1, e2, shr4, and15 n (by omega)]
      obtain ⟨c1, h1, h2⟩ := sign_digit (n / 16) (by omega)
      obtain ⟨c2, h3, h4⟩ := sign_digit (n % 16) (by omega)
      rw [h1, h2, h3, h4]
      simp only [Option.bind_some]
      have ha : app l [(c1.toNat : Int), (c2.toNat : Int)] = some (l ++ [(c1.toNat : Int), (c2.toNat : Int)]) := by
        unfold app
        rw [if_pos (by simp; omega)]
      rw [ha]
      simp only [Option.bind_some]
      rw [show IntKind.i64.wrap ((i : Int) + 1) = ((i + 1 : Nat) : Int) from by rw [wrap_id (by omega) (by omega)]; simp]
      exact ih k (i + 1) _ (by omega) (by omega) (by omega) (by simp; omega)
theorem hex_same {p : List Int} (hb : Bytes p) (hp : p.length ≤ 1048576) : ∃ r, spec_HexText p = some r ∧ impl_HexText p = some r :=
  hex_L1 hb hp p.length Fuel 0 [] (by omega) (by omega) (fuel_gt (by omega)) rfl
theorem exactHexText {p : List Int} (hb : Bytes p) : laws_FnExactHexText p = some true := by
  unfold laws_FnExactHexText
  by_cases hp : p.length ≤ 1048576
  · rw [if_neg (by simp; omega), toByteS_id hp]
    simp only [Option.bind_some]
    obtain ⟨r, h1, h2⟩ := hex_same hb hp
    rw [h1, h2]
    simp [eqByteS_self hp]
  · rw [if_pos (by simp; omega)]
end Go.Vk
