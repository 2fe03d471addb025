/- One inverted bit changes the checksum. -/
import Derived.Test.YtejkhekgflacaaaPDraw
namespace Go.Vk
/-- one round over eight bits -/
def crcBit (x : Nat) : Nat := if x % 2 = 1 then (x / 2) ^^^ 3988292384 else x / 2
theorem crcBit_lt {x : Nat} (h : x < 4294967296) : crcBit x < 4294967296 := by
  unfold crcBit
  split
  · have : (x / 2) ^^^ 3988292384 < 2 ^ 32 := Nat.xor_lt_two_pow (by omega) (by omega)
    omega
  · omega
theorem xor_cancel {a b c : Nat} (h : a ^^^ c = b ^^^ c) : a = b := by
  have := congrArg (· ^^^ c) h
  simpa [Nat.xor_assoc] using this
theorem bit31 {a b : Nat} (ha : a < 2147483648) (hb : b < 2147483648) : a ≠ b ^^^ 3988292384 := fun h => by
  have := congrArg (fun n => n.testBit 31) h
  simp only [Nat.testBit_xor] at this
  rw [Nat.testBit_lt_two_pow (show a < 2 ^ 31 by omega), Nat.testBit_lt_two_pow (show b < 2 ^ 31 by omega), show Nat.testBit 3988292384 31 = true by decide] at this
  cases this
theorem crcBit_inj {x y : Nat} (hx : x < 4294967296) (hy : y < 4294967296) (h : crcBit x = crcBit y) : x = y := by
  unfold crcBit at h
  split at h <;> split at h
  · have := xor_cancel h; omega
  · exact absurd h.symm (bit31 (by omega) (by omega))
  · exact absurd h (bit31 (by omega) (by omega))
  · omega
def crcBits : Nat → Nat → Nat
  | 0, x => x
  | n + 1, x => crcBits n (crcBit x)
theorem crcBits_lt {n : Nat} : ∀ {x : Nat}, x < 4294967296 → crcBits n x < 4294967296 := by
  induction n with
  | zero => exact fun h => h
  | succ n ih => exact fun h => ih (crcBit_lt h)
theorem crcBits_inj {n : Nat} : ∀ {x y : Nat}, x < 4294967296 → y < 4294967296 → crcBits n x = crcBits n y → x = y := by
  induction n with
  | zero => exact fun _ _ h => h
  | succ n ih => exact fun hx hy h => crcBit_inj hx hy (ih (crcBit_lt hx) (crcBit_lt hy) h)
theorem implCrc_L2 (R : Int → Int → Option Int) (i : Int) : ∀ (d k x j : Nat), 8 - j = d → j ≤ 8 → d < k → x < 4294967296 → impl_Crc_L2 R i k (j : Int) (x : Int) = R (crcBits d x : Nat) (IntKind.i64.wrap (i + 1)) := by
  intro d
  induction d with
  | zero =>
    intro k x j hd hj hk hx
    obtain ⟨k, rfl⟩ : ∃ q, k = q + 1 := ⟨k - 1, by omega⟩
    unfold impl_Crc_L2
    rw [if_neg (by simp; omega)]
    rfl
  | succ d ih =>
    intro k x j hd hj hk hx
    obtain ⟨k, rfl⟩ : ∃ q, k = q + 1 := ⟨k - 1, by omega⟩
    unfold impl_Crc_L2
    rw [if_pos (by simp; omega), shr1_nat, wrap_succ (by omega)]
    have hm : ibits .and .i64 (x : Int) 1 = ((x % 2 : Nat) : Int) := by
      rw [show (1 : Int) = ((1 : Nat) : Int) from rfl, and_nat x 1 (by omega) (by omega), Nat.and_one_is_mod]
    rw [hm]
    by_cases hc : x % 2 = 1
    · rw [if_pos (by simp [hc])]
      rw [show (3988292384 : Int) = ((3988292384 : Nat) : Int) from rfl, (xor_nat (x / 2) 3988292384 (by omega) (by omega)).1]
      have hlt : crcBit x = (x / 2) ^^^ 3988292384 := by simp [crcBit, hc]
      rw [← hlt, ih k (crcBit x) (j + 1) (by omega) (by omega) (by omega) (crcBit_lt hx)]
      rfl
    · rw [if_neg (by simp; omega)]
      have hlt : crcBit x = x / 2 := by simp [crcBit, hc]
      rw [← hlt, ih k (crcBit x) (j + 1) (by omega) (by omega) (by omega) (crcBit_lt hx)]
      rfl
def crcRun (x : Nat) (l : List Nat) : Nat := l.foldl (fun x b => crcBits 8 (x ^^^ b)) x
theorem step_lt {x b : Nat} (hx : x < 4294967296) (hb : b < 256) : x ^^^ b < 4294967296 := by
  have : x ^^^ b < 2 ^ 32 := Nat.xor_lt_two_pow (by omega) (by omega)
  omega
theorem crcRun_lt : ∀ (l : List Nat) (x : Nat), (∀ b ∈ l, b < 256) → x < 4294967296 → crcRun x l < 4294967296 := by
  intro l
  induction l with
  | nil => exact fun _ _ h => h
  | cons b l ih => exact fun x hl hx => ih _ (fun c hc => hl c (List.mem_cons_of_mem _ hc)) (crcBits_lt (step_lt hx (hl b (List.mem_cons_self ..))))
theorem crcRun_ne : ∀ (l : List Nat) (x y : Nat), (∀ b ∈ l, b < 256) → x < 4294967296 → y < 4294967296 → x ≠ y → crcRun x l ≠ crcRun y l := by
  intro l
  induction l with
  | nil => exact fun _ _ _ _ _ h => h
  | cons b l ih =>
    intro x y hl hx hy h
    have hb := hl b (List.mem_cons_self ..)
    exact ih _ _ (fun c hc => hl c (List.mem_cons_of_mem _ hc)) (crcBits_lt (step_lt hx hb)) (crcBits_lt (step_lt hy hb)) (fun e => h (xor_cancel (crcBits_inj (step_lt hx hb) (step_lt hy hb) e)))
theorem crcRun_set : ∀ (l : List Nat) (x j b : Nat) (hj : j < l.length), (∀ b ∈ l, b < 256) → x < 4294967296 → b < 256 → b ≠ l[j] → crcRun x (l.set j b) ≠ crcRun x l := by
  intro l
  induction l with
  | nil => intro x j b hj; simp at hj
  | cons c l ih =>
    intro x j b hj hl hx hb hne
    have hc := hl c (List.mem_cons_self ..)
    have hl' := fun d hd => hl d (List.mem_cons_of_mem c hd)
    cases j with
    | zero =>
      refine crcRun_ne l _ _ hl' (crcBits_lt (step_lt hx hb)) (crcBits_lt (step_lt hx hc)) (fun e => hne ?_)
      have e2 := crcBits_inj (step_lt hx hb) (step_lt hx hc) e
      rw [Nat.xor_comm x b, Nat.xor_comm x c] at e2
      exact xor_cancel e2
    | succ j => exact ih _ j b (by simpa using hj) hl' (crcBits_lt (step_lt hx hc)) hb (by simpa using hne)
theorem implCrc_ok {l : List Nat} (hl : ∀ b ∈ l, b < 256) (hn : l.length < 1000000) : impl_Crc (l.map fun (n : Nat) => (n : Int)) = some ((crcRun 4294967295 l ^^^ 4294967295 : Nat) : Int) := by
  unfold impl_Crc
  have key : ∀ (d k i x : Nat), l.length - i = d → d < k → i ≤ l.length → x < 4294967296 → impl_Crc_L1 (l.map fun (n : Nat) => (n : Int)) k (x : Int) (i : Int) = some ((crcRun x (l.drop i) ^^^ 4294967295 : Nat) : Int) := by
    intro d
    induction d with
    | zero =>
      intro k i x hd hk hi hx
      obtain ⟨k, rfl⟩ : ∃ q, k = q + 1 := ⟨k - 1, by omega⟩
      unfold impl_Crc_L1
      have : i = l.length := by omega
      subst this
      rw [if_neg (by simp), List.drop_length, show (4294967295 : Int) = ((4294967295 : Nat) : Int) from rfl, (xor_nat x 4294967295 (by omega) (by omega)).1]
      rfl
    | succ d ih =>
      intro k i x hd hk hi hx
      obtain ⟨k, rfl⟩ : ∃ q, k = q + 1 := ⟨k - 1, by omega⟩
      have hlt : i < l.length := by omega
      have hb := hl l[i] (List.getElem_mem hlt)
      unfold impl_Crc_L1
      rw [if_pos (by simp; omega), idx_lt (by simpa using hlt), List.drop_eq_getElem_cons hlt]
      simp only [Option.bind_some, List.getElem_map]
      rw [wrap_nat (by omega), (xor_nat x l[i] (by omega) (by omega)).1]
      have := implCrc_L2 (impl_Crc_L1 (l.map fun (n : Nat) => (n : Int)) k) i 8 Fuel (x ^^^ l[i]) 0 (by omega) (by omega) (fuel_gt (by omega)) (step_lt hx hb)
      rw [show (0 : Int) = ((0 : Nat) : Int) from rfl, this, wrap_succ (by omega)]
      exact ih k (i + 1) _ (by omega) (by omega) (by omega) (crcBits_lt (step_lt hx hb))
  have := key l.length Fuel 0 4294967295 (by omega) (fuel_gt (by omega)) (by omega) (by omega)
  simpa using this
end Go.Vk
