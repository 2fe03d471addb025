/- FnCrc answers true. -/
import Derived.Test.YtejkhekgflacaaaPA
import Derived.Test.YtejkhekgflacaaaVkO
namespace Go.Vk
def Bytes (p : List Int) : Prop := ∀ x ∈ p, 0 ≤ x ∧ x ≤ 255
theorem bytesOk {p : List Int} (h : ∀ x ∈ p, IntOk .u8 x) : Bytes p := fun x hx => by
  have := h x hx
  simp [IntOk, Lit.wf, IntKind.min, IntKind.max, IntKind.signed, IntKind.bits] at this
  exact ⟨by omega, by omega⟩
theorem u8_id {n : Nat} (h : n < 256) : IntKind.u8.wrap (n : Int) = n := by
  unfold IntKind.wrap
  simp [IntKind.bits, IntKind.signed]
  omega
theorem bits8 (n : Nat) (h : n < 256) : (BitVec.ofInt 8 (n : Int)).toNat = n := by
  rw [BitVec.ofInt_natCast, BitVec.toNat_ofNat]; omega
theorem xor8 (x y : Nat) (hx : x < 256) (hy : y < 256) : ibits .xor .u8 x y = ((x ^^^ y : Nat) : Int) ∧ x ^^^ y < 256 := by
  have hlt : x ^^^ y < 2 ^ 8 := Nat.xor_lt_two_pow (by omega) (by omega)
  refine ⟨?_, by omega⟩
  unfold ibits
  show IntKind.u8.wrap _ = _
  rw [BitVec.toNat_xor]
  show IntKind.u8.wrap (((BitVec.ofInt 8 (x : Int)).toNat ^^^ (BitVec.ofInt 8 (y : Int)).toNat : Nat) : Int) = _
  rw [bits8 x hx, bits8 y hy]
  exact u8_id (by omega)
theorem xor_ne {a b : Nat} (h : b ≠ 0) : a ^^^ b ≠ a := fun e => h (xor_cancel (a := b) (b := 0) (c := a) (by rw [Nat.xor_comm, e, Nat.zero_xor]))
theorem bit_ok {y : Int} (h0 : 0 ≤ y) : ∃ b : Nat, laws_bit y = some (b : Int) ∧ b < 256 ∧ b ≠ 0 := by
  obtain ⟨n, rfl⟩ : ∃ n : Nat, y = n := ⟨y.toNat, by omega⟩
  have hm : Int.tmod (n : Int) 8 = ((n % 8 : Nat) : Int) := tmod_nat n 8
  have h8 : n % 8 < 8 := Nat.mod_lt _ (by omega)
  have h2 : (2 : Nat) ^ (n % 8) ≤ 2 ^ 7 := Nat.pow_le_pow_right (by omega) (by omega)
  have h3 : 0 < (2 : Nat) ^ (n % 8) := Nat.pow_pos (by omega)
  have key : ∀ (d k i : Nat), i + d = n % 8 → d < k → laws_bit_L1 (n : Int) k ((2 ^ i : Nat) : Int) (i : Int) = some ((2 ^ (n % 8) : Nat) : Int) := by
    intro d
    induction d with
    | zero =>
      intro k i hd hk
      obtain ⟨k, rfl⟩ : ∃ q, k = q + 1 := ⟨k - 1, by omega⟩
      unfold laws_bit_L1
      rw [hm, if_neg (by simp; omega), show i = n % 8 by omega, u8_id (by omega)]
    | succ d ih =>
      intro k i hd hk
      obtain ⟨k, rfl⟩ : ∃ q, k = q + 1 := ⟨k - 1, by omega⟩
      unfold laws_bit_L1
      have hp : (2 : Nat) ^ i ≤ 2 ^ 7 := Nat.pow_le_pow_right (by omega) (by omega)
      have e : IntKind.i64.wrap (2 * ((2 ^ i : Nat) : Int)) = ((2 ^ (i + 1) : Nat) : Int) := by
        rw [Nat.pow_succ]
        generalize (2 : Nat) ^ i = q at hp
        rw [wrap_id (by omega) (by omega)]; omega
      rw [hm, if_pos (decide_eq_true (by omega)), e, wrap_succ (by omega)]
      exact ih k (i + 1) (by omega) (by omega)
  exact ⟨_, key (n % 8) Fuel 0 (by omega) (fuel_gt (by omega)), by omega, by omega⟩
theorem at0_ok {p : List Int} (hb : Bytes p) (hp : p.length ≤ 1048576) {i : Nat} (hi : i < 100) : ∃ v, laws_at0 p (i : Int) = some v ∧ 0 ≤ v ∧ v ≤ 255 := by
  unfold laws_at0
  by_cases h : i < p.length
  · rw [if_pos (by simp; omega), idx_lt h]
    obtain ⟨h0, h1⟩ := hb p[i] (List.getElem_mem h)
    simp only [Option.bind_some]
    rw [wrap_id (by omega) (by omega)]
    exact ⟨_, rfl, h0, h1⟩
  · rw [if_neg (by simp; omega), wrap_id (n := (i : Int) * 7) (by omega) (by omega), wrap_id (n := (i : Int) * 7 + (p.length : Int)) (by omega) (by omega), show (i : Int) * 7 + (p.length : Int) = ((i * 7 + p.length : Nat) : Int) by omega]
    have : Int.tmod ((i * 7 + p.length : Nat) : Int) 256 = (((i * 7 + p.length) % 256 : Nat) : Int) := tmod_nat _ 256
    rw [this]
    have := Nat.mod_lt (i * 7 + p.length) (show 0 < 256 by omega)
    exact ⟨_, rfl, by omega, by omega⟩
def castL (l : List Nat) : List Int := l.map fun (n : Nat) => (n : Int)
section
variable {p : List Int} (hp : p.length ≤ 1048576)
include hp
theorem dr_bytes {n : Int} (hn : n ≤ 40) (hn0 : 0 ≤ n) : Dr p (fun c => spec_l15Bytes p c n) (fun v => ∃ l : List Nat, v = castL l ∧ (∀ b ∈ l, b < 256) ∧ l.length = n.toNat) := fun c hc => by
  show ∃ v c', spec_l15Bytes p c n = some (v, c') ∧ _
  unfold spec_l15Bytes
  have key : ∀ (d k i : Nat) (c : Tspec_l1Cur) (l : List Nat), n.toNat - i = d → d < k → i ≤ n.toNat → l.length = i → Cur p c → (∀ b ∈ l, b < 256) → ∃ v c', spec_l15Bytes_L1 n p k c.i_ c.h_ (castL l) (i : Int) = some (v, c') ∧ Cur p c' ∧ ∃ l : List Nat, v = castL l ∧ (∀ b ∈ l, b < 256) ∧ l.length = n.toNat := by
    intro d
    induction d with
    | zero =>
      intro k i c l hd hk hi hl hc hx
      obtain ⟨k, rfl⟩ : ∃ q, k = q + 1 := ⟨k - 1, by omega⟩
      unfold spec_l15Bytes_L1
      rw [if_neg (by simp; omega)]
      exact ⟨_, _, rfl, hc, l, rfl, hx, by omega⟩
    | succ d ih =>
      intro k i c l hd hk hi hl hc hx
      obtain ⟨k, rfl⟩ : ∃ q, k = q + 1 := ⟨k - 1, by omega⟩
      unfold spec_l15Bytes_L1
      rw [if_pos (by simp; omega)]
      obtain ⟨x, c2, e2, hc2, h2, h3⟩ := dr_byte hp c hc
      have e2' : spec_l1Byte p ⟨c.i_, c.h_⟩ = some (x, c2) := e2
      rw [e2']
      obtain ⟨b, rfl⟩ : ∃ b : Nat, x = b := ⟨x.toNat, by omega⟩
      simp only [Option.bind_some]
      rw [u8_id (by omega), app_eq (by simp [castL]; omega)]
      simp only [Option.bind_some]
      rw [wrap_succ (by omega), show castL l ++ [(b : Int)] = castL (l ++ [b]) by simp [castL]]
      exact ih k (i + 1) c2 _ (by omega) (by omega) (by omega) (by simp; omega) hc2 (fun y hy => by
        rcases List.mem_append.1 hy with hy | hy
        · exact hx y hy
        · rw [List.mem_singleton.1 hy]; omega)
  exact key n.toNat Fuel 0 c [] (by omega) (fuel_gt (by omega)) (by omega) (by simp) hc (by simp)
theorem dr_crc : ∃ l : List Nat, spec_DrawCrc p = some (castL l) ∧ (∀ b ∈ l, b < 256) ∧ l.length ≤ 40 := by
  unfold spec_DrawCrc
  obtain ⟨c, e, hc⟩ := dr_new hp
  obtain ⟨n, c1, e1, hc1, h1⟩ := dr_pick hp (l := [0, 1, 4, 9, 40]) (by simp) c hc
  have e1' : spec_l1PickInt p c [0, 1, 4, 9, 40] = some (n, c1) := e1
  simp only [List.mem_cons, List.not_mem_nil, or_false] at h1
  obtain ⟨v, c2, e2, _, l, rfl, h2, h3⟩ := dr_bytes hp (n := n) (by omega) (by omega) c1 hc1
  have e2' : spec_l15Bytes p c1 n = some (castL l, c2) := e2
  rw [e]
  simp only [Option.bind_some]
  rw [e1']
  simp only [Option.bind_some]
  rw [e2']
  exact ⟨l, rfl, h2, by omega⟩
end
theorem crc_holds {p : List Int} (hb : Bytes p) : laws_FnCrc p = some true := by
  unfold laws_FnCrc laws_big
  simp only [Option.bind_some]
  by_cases hp : 1048576 < p.length
  · rw [if_pos (by simp; omega)]
  · have hp' : p.length ≤ 1048576 := by omega
    rw [if_neg (by simp; omega)]
    obtain ⟨l, e, hl, hn⟩ := dr_crc hp'
    have hlen : (castL l).length = l.length := by simp [castL]
    have hI : impl_Crc (castL l) = _ := implCrc_ok hl (by omega)
    rw [e]
    simp only [Option.bind_some]
    rw [hI, hlen]
    simp only [Option.bind_some]
    by_cases h0 : l.length = 0
    · obtain rfl := List.length_eq_zero_iff.1 h0
      rw [if_pos (by simp)]
      have : crcRun 4294967295 [] ^^^ 4294967295 = 0 := by decide
      rw [this]
      rfl
    · rw [if_neg (by rw [beq_iff_eq]; omega), app_eq (by simp [castL]; omega)]
      simp only [Option.bind_some, List.nil_append]
      obtain ⟨v5, e5, a5, b5⟩ := at0_ok hb hp' (i := 5) (by omega)
      obtain ⟨v6, e6, a6, b6⟩ := at0_ok hb hp' (i := 6) (by omega)
      obtain ⟨v7, e7, a7, b7⟩ := at0_ok hb hp' (i := 7) (by omega)
      have e5' : laws_at0 p 5 = some v5 := e5
      have e6' : laws_at0 p 6 = some v6 := e6
      have e7' : laws_at0 p 7 = some v7 := e7
      obtain ⟨b, hbit, hb1, hb2⟩ := bit_ok a7
      rw [e5']
      simp only [Option.bind_some]
      rw [e6']
      simp only [Option.bind_some]
      rw [wrap_id (n := v5 * 256) (by omega) (by omega), wrap_id (n := v5 * 256 + v6) (by omega) (by omega)]
      obtain ⟨m, hm⟩ : ∃ m : Nat, v5 * 256 + v6 = m := ⟨(v5 * 256 + v6).toNat, by omega⟩
      have hrem : rem (m : Int) (l.length : Int) = some ((m % l.length : Nat) : Int) := by
        unfold rem
        rw [if_neg (by omega), tmod_nat]
      have hj : m % l.length < l.length := Nat.mod_lt _ (by omega)
      rw [hm, hrem]
      generalize m % l.length = j at hj
      simp only [Option.bind_some]
      rw [idx_lt (show j < (castL l).length by omega), e7']
      simp only [Option.bind_some]
      rw [hbit]
      simp only [Option.bind_some, Int.toNat_natCast]
      have hat : (castL l)[j]'(by omega) = ((l[j] : Nat) : Int) := by simp [castL]
      have hlj := hl l[j] (List.getElem_mem hj)
      obtain ⟨x1, x2⟩ := xor8 l[j] b hlj hb1
      rw [hat, x1]
      have hset : (castL l).set j ((l[j] ^^^ b : Nat) : Int) = castL (l.set j (l[j] ^^^ b)) := by simp [castL, List.map_set]
      have hl2 : ∀ c ∈ l.set j (l[j] ^^^ b), c < 256 := fun c hc => by
        rcases List.mem_or_eq_of_mem_set hc with h | h
        · exact hl c h
        · rw [h]; exact x2
      have hI2 : impl_Crc (castL (l.set j (l[j] ^^^ b))) = _ := implCrc_ok hl2 (by rw [List.length_set]; omega)
      rw [hset, hI2]
      simp only [Option.bind_some]
      have hne := crcRun_set l 4294967295 j (l[j] ^^^ b) hj hl (by omega) x2 (xor_ne hb2)
      have hr1 := crcRun_lt (l.set j (l[j] ^^^ b)) 4294967295 hl2 (by omega)
      have hr2 := crcRun_lt l 4294967295 hl (by omega)
      generalize crcRun 4294967295 (l.set j (l[j] ^^^ b)) = A at hne hr1
      generalize crcRun 4294967295 l = B at hne hr2
      have hx : A ^^^ 4294967295 < 4294967296 := by
        have : A ^^^ 4294967295 < 2 ^ 32 := Nat.xor_lt_two_pow (by omega) (by omega)
        omega
      have hne2 : A ^^^ 4294967295 ≠ B ^^^ 4294967295 := fun e => hne (xor_cancel e)
      rw [if_pos (by simp; omega)]
      simp only [Option.bind_some]
      rw [if_pos (by simp)]
      simp only [Option.bind_some]
      congr 1
      simp; omega
end Go.Vk
