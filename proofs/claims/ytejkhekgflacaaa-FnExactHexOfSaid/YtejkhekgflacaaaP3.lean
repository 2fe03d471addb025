/- The plain law of PutInt; marks of bytes. -/
import Derived.Test.YtejkhekgflacaaaP2
import Derived.Test.YtejkhekgflacaaaVkO
namespace Go.Vk

/-- what a mark writes -/
def marksB (n : Nat) (k : Int) : List Int := (List.range n).map fun (j : Nat) => IntKind.u8.wrap (k + (j : Int))
theorem marksB_len (n : Nat) (k : Int) : (marksB n k).length = n := by simp [marksB]
theorem marksB_at {n : Nat} {k : Int} {i : Nat} (h : i < n) : (marksB n k)[i]? = some (IntKind.u8.wrap (k + (i : Int))) := by simp [marksB, h]
theorem markByteS_L {p : List Int} {s : Int} (h0 : 0 ≤ s) (hs : s ≤ 1000000) (hp : p.length ≤ 100000000000) : ∀ (d k i : Nat) (l : List Int), p.length - i = d → d < k → i ≤ p.length → l.length = p.length → l.take i = (marksB p.length s).take i →
    laws_markByteS_L1 p k l (s + (i : Int)) (i : Int) = some (s + (p.length : Int), marksB p.length s) := by
  intro d
  induction d with
  | zero =>
    intro k i l hd hk hi hl ht
    cases k with
    | zero => omega
    | succ k =>
      unfold laws_markByteS_L1
      rw [if_neg (by simp; omega)]
      have : i = p.length := by omega
      subst this
      rw [List.take_of_length_le (by omega), List.take_of_length_le (by rw [marksB_len]; omega)] at ht
      rw [ht]
  | succ d ih =>
    intro k i l hd hk hi hl ht
    cases k with
    | zero => omega
    | succ k =>
      unfold laws_markByteS_L1
      rw [if_pos (by simp; omega), idx_lt (by omega : i < l.length)]
      simp only [Option.bind_some]
      rw [wrap_id (by omega) (by omega), wrap_id (by omega) (by omega)]
      have := ih k (i + 1) (l.set i (IntKind.u8.wrap (s + (i : Int)))) (by omega) (by omega) (by omega) (by simp [hl]) (by
        apply List.ext_getElem?
        intro j
        have hj : (l.take i)[j]? = ((marksB p.length s).take i)[j]? := by rw [ht]
        simp only [List.getElem?_take, List.getElem?_set] at hj ⊢
        by_cases c1 : j < i
        · simp only [c1, if_true] at hj
          simp [show j < i + 1 by omega, show ¬ i = j by omega, hj]
        · by_cases c2 : i = j
          · subst c2; simp [show i < l.length by omega, marksB_at (show i < p.length by omega)]
          · simp [show ¬ j < i + 1 by omega])
      have e : s + ((i + 1 : Nat) : Int) = s + (i : Int) + 1 := by omega
      rw [e] at this
      simpa using this
theorem markByteS_eq {p : List Int} {s : Int} (h0 : 0 ≤ s) (hs : s ≤ 1000000) (hp : p.length ≤ 100000000000) : laws_markByteS p s = some (s + (p.length : Int), marksB p.length s) := by
  unfold laws_markByteS
  have h := markByteS_L (p := p) h0 hs hp p.length Fuel 0 p (by omega) (fuel_gt (by omega)) (by omega) rfl (by simp)
  simpa using h
theorem heldByteS_L {n : Nat} {s : Int} (h0 : 0 ≤ s) (hs : s ≤ 1000000) (hp : n ≤ 100000000000) : ∀ (d k i : Nat), n - i = d → d < k → i ≤ n →
    laws_heldByteS_L1 (marksB n s) k (s + (i : Int)) (i : Int) = some (s + (n : Int)) := by
  intro d
  induction d with
  | zero =>
    intro k i hd hk hi
    cases k with
    | zero => omega
    | succ k =>
      unfold laws_heldByteS_L1
      rw [if_neg (by rw [marksB_len]; simp; omega)]
      have : i = n := by omega
      rw [this]
  | succ d ih =>
    intro k i hd hk hi
    cases k with
    | zero => omega
    | succ k =>
      unfold laws_heldByteS_L1
      have hlt : i < (marksB n s).length := by rw [marksB_len]; omega
      have hat : (marksB n s)[i] = IntKind.u8.wrap (s + (i : Int)) := by
        have := marksB_at (n := n) (k := s) (i := i) (by omega)
        rw [List.getElem?_eq_getElem hlt] at this
        exact Option.some.inj this
      rw [if_pos (by rw [marksB_len]; simp; omega), idx_lt hlt, hat]
      simp only [Option.bind_some, bne_self_eq_false, Bool.false_eq_true, if_false]
      rw [wrap_id (by omega) (by omega), wrap_id (by omega) (by omega)]
      have := ih k (i + 1) (by omega) (by omega) (by omega)
      have e : s + ((i + 1 : Nat) : Int) = s + (i : Int) + 1 := by omega
      rw [e] at this
      simpa using this
theorem heldByteS_eq {n : Nat} {s : Int} (h0 : 0 ≤ s) (hs : s ≤ 1000000) (hp : n ≤ 100000000000) : laws_heldByteS (marksB n s) s = some (s + (n : Int)) := by
  unfold laws_heldByteS
  have h := heldByteS_L (n := n) h0 hs hp n Fuel 0 (by omega) (fuel_gt (by omega)) (by omega)
  simpa using h

theorem and127 (n : Nat) (h : n < 9223372036854775808) : ibits .and .i64 (n : Int) 127 = ((n % 128 : Nat) : Int) := by
  rw [show (127 : Int) = ((127 : Nat) : Int) from rfl, and_nat n 127 h (by omega), show 127 = 2 ^ 7 - 1 from rfl, Nat.and_two_pow_sub_one_eq_mod]
theorem or_nat (x y : Nat) (hx : x < 9223372036854775808) (hy : y < 9223372036854775808) : ibits .or .i64 x y = ((x ||| y : Nat) : Int) := by
  have hlt : x ||| y < 2 ^ 63 := Nat.or_lt_two_pow (by omega) (by omega)
  unfold ibits
  show IntKind.i64.wrap _ = _
  rw [BitVec.toNat_or]
  show IntKind.i64.wrap (((BitVec.ofInt 64 (x : Int)).toNat ||| (BitVec.ofInt 64 (y : Int)).toNat : Nat) : Int) = _
  rw [bits_ofNat x hx, bits_ofNat y hy]
  exact wrap_nat (by omega)
theorem or128 (n : Nat) (h : n < 128) : ibits .or .i64 (n : Int) 128 = ((n + 128 : Nat) : Int) := by
  rw [show (128 : Int) = ((128 : Nat) : Int) from rfl, or_nat n 128 (by omega) (by omega), Nat.or_comm, show 128 = 2 ^ 7 * 1 from rfl, ← Nat.two_pow_add_eq_or_of_lt (by omega)]
  simp; omega
theorem shr7 (n : Nat) : ishr .i64 (n : Int) 7 = ((n / 128 : Nat) : Int) := by
  unfold ishr
  show (n : Int).fdiv (2 ^ 7) = _
  rw [Int.fdiv_eq_ediv_of_nonneg _ (by decide)]
  simp
theorem tdiv_nat (n m : Nat) (h : n < 9223372036854775808) : IntKind.i64.wrap (Int.tdiv (n : Int) (m : Int)) = ((n / m : Nat) : Int) := by
  rw [show Int.tdiv (n : Int) m = ((n / m : Nat) : Int) from by rw [Int.tdiv_eq_ediv_of_nonneg (by omega)]; simp]
  exact wrap_nat (Nat.lt_of_le_of_lt (Nat.div_le_self _ _) h)
theorem tmod_nat (n m : Nat) : Int.tmod (n : Int) (m : Int) = ((n % m : Nat) : Int) := by rw [Int.tmod_eq_emod_of_nonneg (by omega)]; simp

theorem putNum_L : ∀ (d k n : Nat) (l : List Int), n < 128 ^ (d + 1) → n < 9223372036854775808 → d < k → l.length + d ≤ 1000000 → ∃ r, spec_PutNum_L1 k l (n : Int) = some r ∧ impl_PutNum_L1 k l (n : Int) = some r ∧ r.length ≤ l.length + d + 1 := by
  intro d
  induction d with
  | zero =>
    intro k n l hn h63 hk hl
    cases k with
    | zero => omega
    | succ k =>
      unfold spec_PutNum_L1 impl_PutNum_L1
      simp at hn
      rw [if_neg (by simp; omega), if_neg (by simp; omega)]
      unfold app
      rw [if_pos (by simp; omega)]
      exact ⟨_, rfl, rfl, by simp⟩
  | succ d ih =>
    intro k n l hn h63 hk hl
    cases k with
    | zero => omega
    | succ k =>
      unfold spec_PutNum_L1 impl_PutNum_L1
      by_cases hc : n < 128
      · rw [if_neg (by simp; omega), if_neg (by simp; omega)]
        unfold app
        rw [if_pos (by simp; omega)]
        exact ⟨_, rfl, rfl, by simp⟩
      · rw [if_pos (by simp; omega), if_pos (by simp; omega)]
        rw [and127 n h63, or128 _ (by omega), shr7]
        have e1 : IntKind.i64.wrap (Int.tdiv (n : Int) 128) = ((n / 128 : Nat) : Int) := tdiv_nat n 128 h63
        have e2 : Int.tmod (n : Int) 128 = ((n % 128 : Nat) : Int) := tmod_nat n 128
        have e3 : IntKind.i64.wrap (((n % 128 : Nat) : Int) + 128) = ((n % 128 + 128 : Nat) : Int) := by rw [wrap_id (by omega) (by omega)]; simp
        rw [e1, e2, e3]
        have ha : app l [IntKind.u8.wrap ((n % 128 + 128 : Nat) : Int)] = some (l ++ [IntKind.u8.wrap ((n % 128 + 128 : Nat) : Int)]) := by
          unfold app
          rw [if_pos (by simp; omega)]
        rw [ha]
        simp only [Option.bind_some]
        obtain ⟨r, h1, h2, h3⟩ := ih k (n / 128) (l ++ [IntKind.u8.wrap ((n % 128 + 128 : Nat) : Int)]) (by
          rw [Nat.div_lt_iff_lt_mul (by omega), ← Nat.pow_succ]; exact hn) (by omega) (by omega) (by simp; omega)
        exact ⟨r, h1, h2, by simp at h3; omega⟩
theorem putNum_same (x : Int) : ∃ r, spec_PutNum x = some r ∧ impl_PutNum x = some r ∧ r.length ≤ 5 := by
  unfold spec_PutNum impl_PutNum spec_l1In impl_within
  simp only [Option.bind_some]
  by_cases hc : 0 ≤ x ∧ x ≤ 2147483647
  · have hb : (decide (x ≥ 0) && decide (x ≤ 2147483647)) = true := by simp; omega
    rw [hb]
    simp only [Bool.not_true, Bool.false_eq_true, if_false]
    obtain ⟨n, rfl⟩ : ∃ n : Nat, x = (n : Int) := ⟨x.toNat, by omega⟩
    obtain ⟨r, h1, h2, h3⟩ := putNum_L 4 Fuel n [] (by omega) (by omega) (fuel_gt (by omega)) (by simp)
    exact ⟨r, h1, h2, by simpa using h3⟩
  · have hb : (decide (x ≥ 0) && decide (x ≤ 2147483647)) = false := by
      simp only [Bool.and_eq_false_iff, decide_eq_false_iff_not]; omega
    rw [hb]
    exact ⟨[], rfl, rfl, by simp⟩
theorem putInt_same {x : Int} (h0 : -9223372036854775808 ≤ x) (h1 : x ≤ 9223372036854775807) : ∃ r, spec_PutInt x = some r ∧ impl_PutInt x = some r ∧ r.length ≤ 5 := by
  unfold spec_PutInt impl_PutInt spec_l1In impl_within
  simp only [Option.bind_some]
  by_cases hc : -1000000000 ≤ x ∧ x ≤ 1000000000
  · have hb : (decide (x ≥ -1000000000) && decide (x ≤ 1000000000)) = true := by simp; omega
    rw [hb]
    simp only [Bool.not_true, Bool.false_eq_true, if_false]
    by_cases hn : x < 0
    · rw [if_pos (by simpa using hn), if_pos (by simpa using hn)]
      have e : IntKind.i64.wrap ((IntKind.i64.wrap (0 - (IntKind.i64.wrap (2 * x)))) - 1) = IntKind.i64.wrap ((IntKind.i64.wrap ((-2) * x)) - 1) := by
        rw [wrap_id (n := 2 * x) (by omega) (by omega), wrap_id (n := 0 - 2 * x) (by omega) (by omega), wrap_id (n := -2 * x) (by omega) (by omega)]
        congr 1; omega
      rw [e]
      obtain ⟨r, a1, a2, a3⟩ := putNum_same (IntKind.i64.wrap ((IntKind.i64.wrap ((-2) * x)) - 1))
      rw [a1, a2]
      exact ⟨r, rfl, rfl, a3⟩
    · rw [if_neg (by simpa using hn), if_neg (by simpa using hn)]
      obtain ⟨r, a1, a2, a3⟩ := putNum_same (IntKind.i64.wrap (2 * x))
      rw [a1, a2]
      exact ⟨r, rfl, rfl, a3⟩
  · have hb : (decide (x ≥ -1000000000) && decide (x ≤ 1000000000)) = false := by
      simp only [Bool.and_eq_false_iff, decide_eq_false_iff_not]; omega
    rw [hb]
    exact ⟨[], rfl, rfl, by simp⟩
theorem exactPutInt {x : Int} (h : IntOk .i64 x) : laws_FnExactPutInt x = some true := by
  have hx : -9223372036854775808 ≤ x ∧ x ≤ 9223372036854775807 := by
    simp [IntOk, Lit.wf, IntKind.min, IntKind.max, IntKind.signed, IntKind.bits] at h
    omega
  obtain ⟨r, h1, h2, h3⟩ := putInt_same hx.1 hx.2
  unfold laws_FnExactPutInt
  rw [h1, h2]
  simp only [Option.bind_some]
  rw [eqByteS_self (by omega)]
  simp only [Option.bind_some, Bool.not_true, Bool.false_eq_true, if_false]
  rw [markByteS_eq (by omega) (by omega) (by omega)]
  simp only [Option.bind_some]
  rw [heldByteS_eq (by omega) (by omega) (by omega)]
  simp only [Option.bind_some, bne_self_eq_false, Bool.false_eq_true, if_false]
  rw [if_neg (by simp; omega)]
  rw [if_neg (by simp; omega)]
end Go.Vk
