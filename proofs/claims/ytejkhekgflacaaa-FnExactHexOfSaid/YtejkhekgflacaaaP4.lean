/- The plain law of GetInt. -/
import Derived.Test.YtejkhekgflacaaaP3
namespace Go.Vk

theorem shl_some (x : Int) {y : Int} (h : 0 ≤ y) : shl .i64 x y = some (ishl .i64 x y) := by
  unfold shl; rw [if_neg (by omega)]
theorem getNum_L {p : List Int} {a : Int} (hb : Bytes p) (hp : p.length ≤ 1048576) (h0 : 0 ≤ a) (h1 : a ≤ 9223372036854775807) : ∀ (d k i : Nat) (x : Int), 5 - i = d → d < k → i ≤ 5 →
    ∃ r, spec_GetNum_L1 a p k x (i : Int) = some r ∧ impl_GetNum_L1 a p k x (i : Int) = some r := by
  intro d
  induction d with
  | zero =>
    intro k i x hd hk hi
    cases k with
    | zero => omega
    | succ k =>
      unfold spec_GetNum_L1 impl_GetNum_L1
      rw [if_neg (by simp; omega), if_neg (by simp; omega)]
      exact ⟨_, rfl, rfl⟩
  | succ d ih =>
    intro k i x hd hk hi
    cases k with
    | zero => omega
    | succ k =>
      unfold spec_GetNum_L1 impl_GetNum_L1
      rw [if_pos (by simp; omega)]
      have hw : IntKind.i64.wrap ((p.length : Int) - (i : Int)) = (p.length : Int) - i := wrap_id (by omega) (by omega)
      rw [hw]
      by_cases hc : a + i < p.length
      · have hs : IntKind.i64.wrap (a + (i : Int)) = a + i := wrap_id (by omega) (by omega)
        rw [hs, if_neg (by simp; omega), if_pos (by simp; omega)]
        obtain ⟨j, hj⟩ : ∃ j : Nat, a + (i : Int) = (j : Int) := ⟨(a + i).toNat, by omega⟩
        rw [hj, idx_lt (show j < p.length by omega)]
        simp only [Option.bind_some]
        obtain ⟨n, hn, hn2⟩ := bytes_nat hb (show j < p.length by omega)
        rw [hn, wrap_nat (n := n) (by omega), and127 n (by omega), show Int.tmod (n : Int) 128 = ((n % 128 : Nat) : Int) from tmod_nat n 128]
        rw [shl_some _ (show 0 ≤ IntKind.i64.wrap (7 * (i : Int)) by rw [wrap_id (by omega) (by omega)]; omega)]
        simp only [Option.bind_some]
        by_cases hm : n < 128
        · rw [if_pos (c := decide ((n : Int) < 128) = true) (by simp; omega), if_neg (c := decide ((n : Int) ≥ 128) = true) (by simp; omega)]
          rw [Bool.and_comm (decide ((i : Int) > 0))]
          generalize ((((n : Int) == 0) && decide ((i : Int) > 0)) || decide (ibits .or .i64 x (ishl .i64 ((n % 128 : Nat) : Int) (IntKind.i64.wrap (7 * (i : Int)))) > 2147483647)) = b
          cases b
          · exact ⟨_, rfl, rfl⟩
          · exact ⟨_, rfl, rfl⟩
        · rw [if_neg (c := decide ((n : Int) < 128) = true) (by simp; omega), if_pos (c := decide ((n : Int) ≥ 128) = true) (by simp; omega)]
          rw [show IntKind.i64.wrap ((i : Int) + 1) = ((i + 1 : Nat) : Int) from by rw [wrap_id (by omega) (by omega)]; simp]
          exact ih k (i + 1) _ (by omega) (by omega) (by omega)
      · rw [if_pos (by simp; omega), if_neg ?_]
        · exact ⟨_, rfl, rfl⟩
        · rw [IntKind.wrap_i64]
          simp only [Bool.and_eq_true, decide_eq_true_eq, not_and]
          omega
theorem getNum_same {p : List Int} {a : Int} (hb : Bytes p) (hp : p.length ≤ 1048576) (h1 : -9223372036854775808 ≤ a) (h2 : a ≤ 9223372036854775807) : ∃ r, spec_GetNum p a = some r ∧ impl_GetNum p a = some r := by
  unfold spec_GetNum impl_GetNum
  by_cases h0 : a < 0
  · rw [if_pos (by simpa using h0)]
    refine ⟨_, ?_, rfl⟩
    obtain ⟨k, hk⟩ : ∃ k, Fuel = k + 1 := ⟨Fuel - 1, by have := fuel_gt (n := 1) (by omega); omega⟩
    rw [hk]
    unfold spec_GetNum_L1
    rw [if_pos (by simp), if_pos (by simp [h0])]
  · rw [if_neg (by simpa using h0)]
    exact getNum_L hb hp (by omega) h2 5 Fuel 0 0 (by omega) (fuel_gt (by omega)) (by omega)
theorem getInt_same {p : List Int} {a : Int} (hb : Bytes p) (hp : p.length ≤ 1048576) (h1 : -9223372036854775808 ≤ a) (h2 : a ≤ 9223372036854775807) : ∃ r, spec_GetInt p a = some r ∧ impl_GetInt p a = some r := by
  unfold spec_GetInt impl_GetInt
  obtain ⟨r, e1, e2⟩ := getNum_same hb hp h1 h2
  rw [e1, e2]
  simp only [Option.bind_some]
  have hJ : ∀ z, ∃ q, (if (!r.2.2) = true then some (0, 0, false) else spec_GetInt_J1 r z) = some q ∧ impl_GetInt_J1 r z = some q := by
    intro z
    unfold spec_GetInt_J1 impl_GetInt_J1 spec_l1In impl_within
    simp only [Option.bind_some]
    cases hr : r.2.2
    · simp
    · simp only [Bool.not_true, Bool.false_eq_true, if_false]
      generalize (decide (z ≥ -1000000000) && decide (z ≤ 1000000000)) = b
      cases b <;> simp
  obtain ⟨q1, a1, a2⟩ := hJ (IntKind.i64.wrap ((IntKind.i64.wrap (0 - (IntKind.i64.wrap (Int.tdiv r.1 2)))) - 1))
  obtain ⟨q2, b1, b2⟩ := hJ (IntKind.i64.wrap (Int.tdiv r.1 2))
  cases hc : (Int.tmod r.1 2 == 1)
  · refine ⟨q2, ?_, by simpa using b2⟩
    rw [← b1]; cases r.2.2 <;> simp
  · refine ⟨q1, ?_, by simpa using a2⟩
    rw [← a1]; cases r.2.2 <;> simp
theorem exactGetInt {p : List Int} {a : Int} (hb : Bytes p) (h : IntOk .i64 a) : laws_FnExactGetInt p a = some true := by
  have hx : -9223372036854775808 ≤ a ∧ a ≤ 9223372036854775807 := by
    simp [IntOk, Lit.wf, IntKind.min, IntKind.max, IntKind.signed, IntKind.bits] at h
    omega
  unfold laws_FnExactGetInt
  by_cases hp : p.length ≤ 1048576
  · rw [if_neg (by simp; omega), toByteS_id hp]
    simp only [Option.bind_some]
    obtain ⟨r, h1, h2⟩ := getInt_same hb hp hx.1 hx.2
    rw [h1, h2]
    simp [eqByteS_self hp]
  · rw [if_pos (by simp; omega)]
end Go.Vk
