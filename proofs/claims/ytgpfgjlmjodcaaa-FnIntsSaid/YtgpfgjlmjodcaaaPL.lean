/- What is put is read again. -/
import Derived.Test.YtgpfgjlmjodcaaaPD
import Derived.Test.YtgpfgjlmjodcaaaPF
namespace Go.Vk
theorem ishl_small {m i : Nat} (hm : m < 128) (hi : i < 5) : ishl .i64 (m : Int) (IntKind.i64.wrap (7 * (i : Int))) = ((m * 128 ^ i : Nat) : Int) := by
  have hi' : i = 0 ∨ i = 1 ∨ i = 2 ∨ i = 3 ∨ i = 4 := by omega
  rw [wrap_id (by omega) (by omega)]
  rcases hi' with rfl | rfl | rfl | rfl | rfl
  · show IntKind.i64.wrap ((m : Int) * 1) = ((m * 1 : Nat) : Int); rw [wrap_id (by omega) (by omega)]; omega
  · show IntKind.i64.wrap ((m : Int) * 128) = ((m * 128 : Nat) : Int); rw [wrap_id (by omega) (by omega)]; omega
  · show IntKind.i64.wrap ((m : Int) * 16384) = ((m * 16384 : Nat) : Int); rw [wrap_id (by omega) (by omega)]; omega
  · show IntKind.i64.wrap ((m : Int) * 2097152) = ((m * 2097152 : Nat) : Int); rw [wrap_id (by omega) (by omega)]; omega
  · show IntKind.i64.wrap ((m : Int) * 268435456) = ((m * 268435456 : Nat) : Int); rw [wrap_id (by omega) (by omega)]; omega
theorem or_add {a m i : Nat} (ha : a < 128 ^ i) (hm : m < 128) (hi : i < 5) : ibits .or .i64 (a : Int) ((m * 128 ^ i : Nat) : Int) = ((a + m * 128 ^ i : Nat) : Int) := by
  have h128 : (128 : Nat) ^ i = 2 ^ (7 * i) := by rw [Nat.pow_mul]
  have hp : 128 ^ i ≤ 128 ^ 4 := Nat.pow_le_pow_right (by omega) (by omega)
  have hq : m * 128 ^ i ≤ 127 * 128 ^ 4 := Nat.mul_le_mul (by omega) hp
  rw [or_nat a (m * 128 ^ i) (by omega) (by omega)]
  congr 1
  rw [Nat.or_comm, h128, Nat.mul_comm, ← Nat.two_pow_add_eq_or_of_lt (by rw [← h128]; exact ha), Nat.add_comm]
theorem getNum_put {p : List Int} {a : Nat} (hp : p.length ≤ 1048576) {n : Nat} (hn : n ≤ 2147483647) : ∀ (d k i : Nat), d + i = 5 → d < k → i ≤ 5 → (0 < i → 1 ≤ n / 128 ^ i) → (∃ post, p.drop (a + i) = putN (n / 128 ^ i) ++ post) →
    spec_GetNum_L1 (a : Int) p k ((n % 128 ^ i : Nat) : Int) (i : Int) = some ((n : Int), ((a + i + (putN (n / 128 ^ i)).length : Nat) : Int), true) := by
  intro d
  induction d with
  | zero =>
    intro k i hd hk hi h1 hx
    obtain rfl : i = 5 := by omega
    have := h1 (by omega)
    omega
  | succ d ih =>
    intro k i hd hk hi h1 ⟨post, hx⟩
    obtain ⟨k, rfl⟩ : ∃ q, k = q + 1 := ⟨k - 1, by omega⟩
    have hlen : 0 < (p.drop (a + i)).length := by
      rw [hx]
      by_cases hc : n / 128 ^ i < 128
      · rw [putN_lo hc]; simp
      · rw [putN_hi hc]; simp
    rw [List.length_drop] at hlen
    show (if _ then _ else _) = _
    rw [if_pos (by simp; omega), wrap_id (n := (p.length : Int) - (i : Int)) (by omega) (by omega), if_neg (by simp; omega), wrap_id (n := (a : Int) + (i : Int)) (by omega) (by omega)]
    rw [show (a : Int) + (i : Int) = ((a + i : Nat) : Int) by omega, idx_lt (show a + i < p.length by omega)]
    simp only [Option.bind_some]
    have hhead : ∀ (x : Int) (q : List Int), p.drop (a + i) = x :: q → p[a + i]'(by omega) = x := fun x q e => by
      have := congrArg (fun l => l[0]?) e
      simp only [List.getElem?_drop, Nat.add_zero, List.getElem?_cons_zero] at this
      rw [List.getElem?_eq_getElem (by omega)] at this
      exact Option.some.inj this
    have hmul : n % 128 ^ i + n / 128 ^ i % 128 * 128 ^ i = n % 128 ^ (i + 1) := by
      rw [Nat.pow_succ, Nat.mod_mul, Nat.mul_comm]
    have hsmall : n / 128 ^ i % 128 < 128 := Nat.mod_lt _ (by omega)
    have hacc : n % 128 ^ i < 128 ^ i := Nat.mod_lt _ (Nat.pow_pos (by omega))
    by_cases hc : n / 128 ^ i < 128
    · rw [putN_lo hc] at hx ⊢
      rw [hhead _ _ hx, wrap_nat (by omega), show (128 : Int) = ((128 : Nat) : Int) from rfl, tmod_nat, Nat.mod_eq_of_lt hc]
      rw [shl_some _ (by rw [wrap_id (by omega) (by omega)]; omega), ishl_small hc (by omega)]
      simp only [Option.bind_some]
      rw [or_add hacc hc (by omega)]
      have hfull : n % 128 ^ i + n / 128 ^ i * 128 ^ i = n := by rw [Nat.mul_comm]; exact Nat.mod_add_div ..
      rw [hfull, if_pos (decide_eq_true (by omega)), if_neg ?_]
      · rw [wrap_succ (by omega)]; rfl
      · simp only [Bool.or_eq_true, Bool.and_eq_true, decide_eq_true_eq, beq_iff_eq]
        rintro (⟨h2, h3⟩ | h2)
        · have := h1 (by omega); omega
        · omega
    · rw [putN_hi hc] at hx ⊢
      have hdd : n / 128 ^ i / 128 = n / 128 ^ (i + 1) := by rw [Nat.div_div_eq_div_mul, Nat.pow_succ]
      rw [hhead _ _ hx, wrap_nat (by omega), show (128 : Int) = ((128 : Nat) : Int) from rfl, tmod_nat, Nat.add_mod_right, Nat.mod_mod]
      rw [shl_some _ (by rw [wrap_id (by omega) (by omega)]; omega), ishl_small hsmall (by omega)]
      simp only [Option.bind_some]
      rw [or_add hacc hsmall (by omega), hmul, if_neg (by simp; omega), wrap_succ (by omega)]
      rw [ih k (i + 1) (by omega) (by omega) (by omega) (fun _ => by rw [← hdd]; omega) ⟨post, by
        rw [← hdd]
        have := congrArg (List.drop 1) hx
        rw [List.drop_drop] at this
        simpa [Nat.add_assoc] using this⟩, ← hdd]
      simp only [List.length_cons]
      congr 3
      omega
theorem getInt_put {pre post : List Int} {x : Int} (hx : InR x) (hp : (pre ++ putB x ++ post).length ≤ 1048576) : spec_GetInt (pre ++ putB x ++ post) (pre.length : Int) = some (x, ((pre.length + (putB x).length : Nat) : Int), true) := by
  have hz := zig_le hx
  unfold spec_GetInt spec_GetNum
  have hB : putB x = putN (zig x) := by unfold putB; rw [if_pos hx]
  have := getNum_put (p := pre ++ putB x ++ post) (a := pre.length) hp (n := zig x) (by omega) 5 Fuel 0 (by omega) (fuel_gt (by omega)) (by omega) (by omega) ⟨post, by rw [hB]; simp⟩
  simp only [Nat.pow_zero, Nat.mod_one, Nat.div_one] at this
  have h0 : spec_GetNum_L1 (pre.length : Int) (pre ++ putB x ++ post) Fuel 0 0 = some ((zig x : Int), ((pre.length + 0 + (putN (zig x)).length : Nat) : Int), true) := this
  rw [h0, hB]
  simp only [Option.bind_some, Bool.not_true, Bool.false_eq_true, if_false]
  rw [show (2 : Int) = ((2 : Nat) : Int) from rfl, tmod_nat, tdiv_nat, wrap_nat (n := zig x / 2) (by omega)]
  unfold spec_GetInt_J1 spec_l1In
  by_cases hn : x < 0
  · have e : ((zig x % 2 : Nat) : Int) = 1 := by unfold zig; rw [if_pos hn]; omega
    have e2 : ((zig x / 2 : Nat) : Int) = -x - 1 := by unfold zig; rw [if_pos hn]; omega
    rw [e, e2, if_pos (by simp)]
    have hr := hx.1
    rw [wrap_id (n := 0 - (-x - 1)) (by omega) (by omega), wrap_id (by omega) (by omega), show 0 - (-x - 1) - 1 = x by omega, in_t hx]
    rfl
  · have e : ((zig x % 2 : Nat) : Int) = 0 := by unfold zig; rw [if_neg hn]; omega
    have e2 : ((zig x / 2 : Nat) : Int) = x := by unfold zig; rw [if_neg hn]; omega
    rw [e, e2, if_neg (by simp), in_t hx]
    rfl
end Go.Vk
