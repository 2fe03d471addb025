/- The plain law of Crc. -/
import Derived.Test.YtejkhekgflacaaaR1F
import Derived.IntWalk
namespace Go.Vk

theorem wrap_id {n : Int} (h0 : -9223372036854775808 ≤ n) (h1 : n ≤ 9223372036854775807) : IntKind.i64.wrap n = n := IntWalk.i64_in n ⟨h0, h1⟩
theorem idx_lt {α : Type} {xs : List α} {i : Nat} (h : i < xs.length) : idx xs (i : Int) = some xs[i] := by
  simp [idx, h]

/-! lists of words, copied and compared -/
theorem toByteS_L {p : List Int} (hp : p.length < 9223372036854775807) : ∀ (d k i : Nat) (l : List Int), p.length - i = d → d < k → i ≤ p.length → l.length = p.length → l.take i = p.take i → laws_toByteS_L1 p k l (i : Int) = some p := by
  intro d
  induction d with
  | zero =>
    intro k i l hd hk hi hl ht
    cases k with
    | zero => omega
    | succ k =>
      unfold laws_toByteS_L1
      rw [if_neg (by simp; omega)]
      have : i = p.length := by omega
      subst this
      rw [List.take_of_length_le (by omega), List.take_of_length_le (by omega)] at ht
      rw [ht]
  | succ d ih =>
    intro k i l hd hk hi hl ht
    cases k with
    | zero => omega
    | succ k =>
      unfold laws_toByteS_L1
      have hlt : i < p.length := by omega
      rw [if_pos (by simp; omega), idx_lt hlt, idx_lt (by omega : i < l.length)]
      simp only [Option.bind_some]
      rw [wrap_id (by omega) (by omega)]
      have := ih k (i + 1) (l.set i p[i]) (by omega) (by omega) (by omega) (by simp [hl]) (by
        apply List.ext_getElem?
        intro j
        have hj : (l.take i)[j]? = (p.take i)[j]? := by rw [ht]
        simp only [List.getElem?_take, List.getElem?_set] at hj ⊢
        by_cases c1 : j < i
        · simp only [c1, if_true] at hj
          simp [show j < i + 1 by omega, show ¬ i = j by omega, hj]
        · by_cases c2 : i = j
          · subst c2; simp [show i < l.length by omega, hlt]
          · simp [show ¬ j < i + 1 by omega])
      simpa using this
theorem toByteS_id {p : List Int} (hp : p.length ≤ 1048576) : laws_toByteS p = some p := by
  unfold laws_toByteS mk
  rw [if_pos (by omega)]
  simp only [Option.bind_some, Int.toNat_natCast]
  have h := toByteS_L (p := p) (by omega) p.length Fuel 0 (List.replicate p.length 0) (by omega) (fuel_gt (by omega)) (by omega) (by simp) (by simp)
  simpa using h
theorem eqByteS_L {p : List Int} (hp : p.length < 9223372036854775807) : ∀ (d k i : Nat), p.length - i = d → d < k → i ≤ p.length → laws_eqByteS_L1 p p k (i : Int) = some true := by
  intro d
  induction d with
  | zero =>
    intro k i hd hk hi
    cases k with
    | zero => omega
    | succ k =>
      unfold laws_eqByteS_L1
      rw [if_neg (by simp; omega)]
  | succ d ih =>
    intro k i hd hk hi
    cases k with
    | zero => omega
    | succ k =>
      unfold laws_eqByteS_L1
      have hlt : i < p.length := by omega
      rw [if_pos (by simp; omega), idx_lt hlt]
      simp only [Option.bind_some, bne_self_eq_false, Bool.false_eq_true, if_false]
      rw [wrap_id (by omega) (by omega)]
      have := ih k (i + 1) (by omega) (by omega) (by omega)
      simpa using this
theorem eqByteS_self {p : List Int} (hp : p.length ≤ 1048576) : laws_eqByteS p p = some true := by
  unfold laws_eqByteS
  simp only [bne_self_eq_false, Bool.false_eq_true, if_false]
  exact eqByteS_L (by omega) p.length Fuel 0 (by omega) (fuel_gt (by omega)) (by omega)

/-! bits of words that are not negative -/
theorem wrap_nat {n : Nat} (h : n < 9223372036854775808) : IntKind.i64.wrap (n : Int) = n := wrap_id (by omega) (by omega)
theorem bits_ofNat (n : Nat) (h : n < 9223372036854775808) : (BitVec.ofInt 64 (n : Int)).toNat = n := by
  rw [BitVec.ofInt_natCast, BitVec.toNat_ofNat]; omega
theorem xor_nat (x y : Nat) (hx : x < 9223372036854775808) (hy : y < 9223372036854775808) : ibits .xor .i64 x y = ((x ^^^ y : Nat) : Int) ∧ x ^^^ y < 9223372036854775808 := by
  have hlt : x ^^^ y < 2 ^ 63 := Nat.xor_lt_two_pow (by omega) (by omega)
  refine ⟨?_, by omega⟩
  unfold ibits
  show IntKind.i64.wrap _ = _
  rw [BitVec.toNat_xor]
  show IntKind.i64.wrap (((BitVec.ofInt 64 (x : Int)).toNat ^^^ (BitVec.ofInt 64 (y : Int)).toNat : Nat) : Int) = _
  rw [bits_ofNat x hx, bits_ofNat y hy]
  exact wrap_nat (by omega)
theorem and_nat (x y : Nat) (hx : x < 9223372036854775808) (hy : y < 9223372036854775808) : ibits .and .i64 x y = ((x &&& y : Nat) : Int) := by
  have hlt : x &&& y ≤ x := Nat.and_le_left
  unfold ibits
  show IntKind.i64.wrap _ = _
  rw [BitVec.toNat_and]
  show IntKind.i64.wrap (((BitVec.ofInt 64 (x : Int)).toNat &&& (BitVec.ofInt 64 (y : Int)).toNat : Nat) : Int) = _
  rw [bits_ofNat x hx, bits_ofNat y hy]
  exact wrap_nat (by omega)
theorem shr1_nat (x : Nat) : ishr .i64 (x : Int) 1 = ((x / 2 : Nat) : Int) := by
  unfold ishr
  show (x : Int).fdiv (2 ^ 1) = _
  rw [Int.fdiv_eq_ediv_of_nonneg _ (by decide)]
  simp

/-- one round over eight bits -/
def crcBit (x : Nat) : Nat := if x % 2 = 1 then (x / 2) ^^^ 3988292384 else x / 2
theorem crcBit_lt {x : Nat} (h : x < 9223372036854775808) : crcBit x < 9223372036854775808 := by
  unfold crcBit
  split
  · have : (x / 2) ^^^ 3988292384 < 2 ^ 63 := Nat.xor_lt_two_pow (by omega) (by omega)
    omega
  · omega
def crcBits : Nat → Nat → Nat
  | 0, x => x
  | n + 1, x => crcBits n (crcBit x)
theorem crcBits_lt {n : Nat} : ∀ {x : Nat}, x < 9223372036854775808 → crcBits n x < 9223372036854775808 := by
  induction n with
  | zero => exact fun h => h
  | succ n ih => exact fun h => ih (crcBit_lt h)
theorem specCrc_L2 (R : Int → Int → Option Int) (i : Int) : ∀ (d k x j : Nat), 8 - j = d → j ≤ 8 → d < k → x < 9223372036854775808 → spec_Crc_L2 R i k (x : Int) (j : Int) = R (crcBits d x : Nat) (IntKind.i64.wrap (i + 1)) := by
  intro d
  induction d with
  | zero =>
    intro k x j hd hj hk hx
    cases k with
    | zero => omega
    | succ k =>
      unfold spec_Crc_L2
      rw [if_neg (by simp; omega)]
      rfl
  | succ d ih =>
    intro k x j hd hj hk hx
    cases k with
    | zero => omega
    | succ k =>
      unfold spec_Crc_L2
      rw [if_pos (by simp; omega)]
      have hq : IntKind.i64.wrap (Int.tdiv (x : Int) 2) = ((x / 2 : Nat) : Int) := by
        rw [show Int.tdiv (x : Int) 2 = ((x / 2 : Nat) : Int) from by rw [Int.tdiv_eq_ediv_of_nonneg (by omega)]; simp]
        exact wrap_nat (by omega)
      have hj1 : IntKind.i64.wrap ((j : Int) + 1) = ((j + 1 : Nat) : Int) := by rw [wrap_id (by omega) (by omega)]; simp
      rw [hq, hj1]
      have hm : Int.tmod (x : Int) 2 = ((x % 2 : Nat) : Int) := by rw [Int.tmod_eq_emod_of_nonneg (by omega)]; simp
      rw [hm]
      by_cases hc : x % 2 = 1
      · rw [if_pos (by simp [hc])]
        rw [show (3988292384 : Int) = ((3988292384 : Nat) : Int) from rfl, (xor_nat (x / 2) 3988292384 (by omega) (by omega)).1]
        have := ih k ((x / 2) ^^^ 3988292384) (j + 1) (by omega) (by omega) (by omega) (xor_nat (x / 2) 3988292384 (by omega) (by omega)).2
        rw [this]
        simp [crcBits, crcBit, hc]
      · rw [if_neg (by simp; omega)]
        have := ih k (x / 2) (j + 1) (by omega) (by omega) (by omega) (by omega)
        rw [this]
        simp [crcBits, crcBit, hc]
theorem implCrc_L2 (R : Int → Int → Option Int) (i : Int) : ∀ (d k x j : Nat), 8 - j = d → j ≤ 8 → d < k → x < 9223372036854775808 → impl_Crc_L2 R i k (x : Int) (j : Int) = R (crcBits d x : Nat) (IntKind.i64.wrap (i + 1)) := by
  intro d
  induction d with
  | zero =>
    intro k x j hd hj hk hx
    cases k with
    | zero => omega
    | succ k =>
      unfold impl_Crc_L2
      rw [if_neg (by simp; omega)]
      rfl
  | succ d ih =>
    intro k x j hd hj hk hx
    cases k with
    | zero => omega
    | succ k =>
      unfold impl_Crc_L2
      rw [if_pos (by simp; omega)]
      have hj1 : IntKind.i64.wrap ((j : Int) + 1) = ((j + 1 : Nat) : Int) := by rw [wrap_id (by omega) (by omega)]; simp
      rw [shr1_nat, hj1]
      have hm : ibits .and .i64 (x : Int) 1 = ((x % 2 : Nat) : Int) := by
        rw [show (1 : Int) = ((1 : Nat) : Int) from rfl, and_nat x 1 hx (by omega), Nat.and_one_is_mod]
      rw [hm]
      by_cases hc : x % 2 = 1
      · rw [if_pos (by simp [hc])]
        rw [show (3988292384 : Int) = ((3988292384 : Nat) : Int) from rfl, (xor_nat (x / 2) 3988292384 (by omega) (by omega)).1]
        have := ih k ((x / 2) ^^^ 3988292384) (j + 1) (by omega) (by omega) (by omega) (xor_nat (x / 2) 3988292384 (by omega) (by omega)).2
        rw [this]
        simp [crcBits, crcBit, hc]
      · rw [if_neg (by simp; omega)]
        have := ih k (x / 2) (j + 1) (by omega) (by omega) (by omega) (by omega)
        rw [this]
        simp [crcBits, crcBit, hc]
/-- the words are bytes -/
def Bytes (p : List Int) : Prop := ∀ x ∈ p, 0 ≤ x ∧ x ≤ 255
theorem bytes_nat {p : List Int} (hb : Bytes p) {i : Nat} (h : i < p.length) : ∃ n : Nat, p[i] = (n : Int) ∧ n ≤ 255 := by
  obtain ⟨h0, h1⟩ := hb p[i] (List.getElem_mem h)
  exact ⟨p[i].toNat, by omega, by omega⟩
theorem crc_L1 {p : List Int} (hb : Bytes p) (hp : p.length ≤ 1048576) : ∀ (d k x i : Nat), p.length - i = d → i ≤ p.length → d < k → x < 9223372036854775808 → ∃ r, spec_Crc_L1 p k (x : Int) (i : Int) = some r ∧ impl_Crc_L1 p k (x : Int) (i : Int) = some r := by
  intro d
  induction d with
  | zero =>
    intro k x i hd hi hk hx
    cases k with
    | zero => omega
    | succ k =>
      unfold spec_Crc_L1 impl_Crc_L1
      rw [if_neg (by simp; omega), if_neg (by simp; omega)]
      exact ⟨_, rfl, rfl⟩
  | succ d ih =>
    intro k x i hd hi hk hx
    cases k with
    | zero => omega
    | succ k =>
      unfold spec_Crc_L1 impl_Crc_L1
      have hlt : i < p.length := by omega
      rw [if_pos (by simp; omega), if_pos (by simp; omega), idx_lt hlt]
      simp only [Option.bind_some]
      obtain ⟨n, hn, hn2⟩ := bytes_nat hb hlt
      rw [hn, wrap_nat (n := n) (by omega)]
      obtain ⟨h1, h2⟩ := xor_nat x n hx (by omega)
      rw [h1]
      have e1 := specCrc_L2 (spec_Crc_L1 p k) i 8 Fuel (x ^^^ n) 0 (by omega) (by omega) (fuel_gt (by omega)) h2
      have e2 := implCrc_L2 (impl_Crc_L1 p k) i 8 Fuel (x ^^^ n) 0 (by omega) (by omega) (fuel_gt (by omega)) h2
      rw [show ((0 : Nat) : Int) = 0 from rfl] at e1 e2
      rw [e1, e2]
      rw [show IntKind.i64.wrap ((i : Int) + 1) = ((i + 1 : Nat) : Int) from by rw [wrap_id (by omega) (by omega)]; simp]
      exact ih k (crcBits 8 (x ^^^ n)) (i + 1) (by omega) (by omega) (by omega) (crcBits_lt h2)
theorem crc_same {p : List Int} (hb : Bytes p) (hp : p.length ≤ 1048576) : ∃ r, spec_Crc p = some r ∧ impl_Crc p = some r :=
  crc_L1 hb hp p.length Fuel 4294967295 0 (by omega) (by omega) (fuel_gt (by omega)) (by omega)

theorem exactCrc {p : List Int} (hb : Bytes p) : laws_FnExactCrc p = some true := by
  unfold laws_FnExactCrc
  by_cases hp : p.length ≤ 1048576
  · rw [if_neg (by simp; omega), toByteS_id hp]
    simp only [Option.bind_some]
    obtain ⟨r, h1, h2⟩ := crc_same hb hp
    rw [h1, h2]
    simp [eqByteS_self hp]
  · rw [if_pos (by simp; omega)]
end Go.Vk
