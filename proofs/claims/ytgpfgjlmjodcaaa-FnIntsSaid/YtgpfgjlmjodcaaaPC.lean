/- Numbers and lists put into bytes. -/
import Derived.Test.YtgpfgjlmjodcaaaPB
import Derived.Test.YtgpfgjlmjodcaaaVkR
namespace Go.Vk
/-- a number in bytes, seven bits each, the low ones first -/
def putN (n : Nat) : List Int := if h : n < 128 then [(n : Int)] else ((n % 128 + 128 : Nat) : Int) :: putN (n / 128)
termination_by n
decreasing_by omega
theorem putN_lo {n : Nat} (h : n < 128) : putN n = [(n : Int)] := by unfold putN; rw [dif_pos h]
theorem putN_hi {n : Nat} (h : ¬ n < 128) : putN n = ((n % 128 + 128 : Nat) : Int) :: putN (n / 128) := by rw [putN, dif_neg h]
theorem u8_id {n : Nat} (h : n < 256) : IntKind.u8.wrap (n : Int) = n := by
  unfold IntKind.wrap
  simp [IntKind.bits, IntKind.signed]
  omega
theorem putNum_L : ∀ (d k n : Nat) (l : List Int), n < 128 ^ (d + 1) → n < 9223372036854775808 → d < k → l.length + d ≤ 1000000 →
    spec_PutNum_L1 k (n : Int) l = some (l ++ putN n) ∧ impl_PutNum_L1 k (n : Int) l = some (l ++ putN n, false) ∧ (putN n).length ≤ d + 1 := by
  intro d
  induction d with
  | zero =>
    intro k n l hn h63 hk hl
    obtain ⟨k, rfl⟩ : ∃ q, k = q + 1 := ⟨k - 1, by omega⟩
    unfold spec_PutNum_L1 impl_PutNum_L1
    simp at hn
    rw [if_neg (by simp; omega), if_neg (by simp; omega), u8_id (by omega), putN_lo hn, app_eq (by simp; omega)]
    exact ⟨rfl, rfl, by simp⟩
  | succ d ih =>
    intro k n l hn h63 hk hl
    obtain ⟨k, rfl⟩ : ∃ q, k = q + 1 := ⟨k - 1, by omega⟩
    unfold spec_PutNum_L1 impl_PutNum_L1
    by_cases hc : n < 128
    · rw [if_neg (by simp; omega), if_neg (by simp; omega), u8_id (by omega), putN_lo hc, app_eq (by simp; omega)]
      exact ⟨rfl, rfl, by simp⟩
    · rw [if_pos (by simp; omega), if_pos (by simp; omega)]
      rw [and127 n h63, or128 _ (by omega), shr7]
      have e1 : IntKind.i64.wrap (Int.tdiv (n : Int) 128) = ((n / 128 : Nat) : Int) := by
        rw [show (128 : Int) = ((128 : Nat) : Int) from rfl, tdiv_nat, wrap_nat (by omega)]
      have e2 : Int.tmod (n : Int) 128 = ((n % 128 : Nat) : Int) := tmod_nat n 128
      have e3 : IntKind.i64.wrap (((n % 128 : Nat) : Int) + 128) = ((n % 128 + 128 : Nat) : Int) := by rw [wrap_id (by omega) (by omega)]; simp
      rw [e1, e2, e3, u8_id (by omega), app_eq (by simp; omega)]
      simp only [Option.bind_some]
      obtain ⟨h1, h2, h3⟩ := ih k (n / 128) (l ++ [((n % 128 + 128 : Nat) : Int)]) (by
        rw [Nat.div_lt_iff_lt_mul (by omega), ← Nat.pow_succ]; exact hn) (by omega) (by omega) (by simp; omega)
      rw [h1, h2, putN_hi hc]
      exact ⟨by simp, by simp, by simp; omega⟩
def zig (x : Int) : Nat := if x < 0 then (-2 * x - 1).toNat else (2 * x).toNat
def InR (x : Int) : Prop := -1000000000 ≤ x ∧ x ≤ 1000000000
instance : DecidablePred InR := fun _ => inferInstanceAs (Decidable (_ ∧ _))
theorem zig_le {x : Int} (h : InR x) : zig x ≤ 2000000000 := by obtain ⟨h0, h1⟩ := h; unfold zig; split <;> omega
def putB (x : Int) : List Int := if InR x then putN (zig x) else []
theorem putNum_ok {n : Nat} (h : n ≤ 2147483647) : spec_PutNum (n : Int) = some (putN n) ∧ impl_PutNum (n : Int) = some (putN n, false) ∧ (putN n).length ≤ 5 := by
  unfold spec_PutNum impl_PutNum spec_l1In impl_within
  simp only [Option.bind_some]
  rw [in_t (by omega)]
  simp only [Bool.not_true, Bool.false_eq_true, if_false]
  obtain ⟨h1, h2, h3⟩ := putNum_L 4 Fuel n [] (by omega) (by omega) (fuel_gt (by omega)) (by simp)
  exact ⟨by simpa using h1, by simpa using h2, by simpa using h3⟩
theorem putInt_ok {x : Int} : spec_PutInt x = some (putB x) ∧ impl_PutInt x = some (putB x, decide ¬ InR x) ∧ (putB x).length ≤ 5 := by
  unfold spec_PutInt impl_PutInt spec_l1In impl_within putB
  simp only [Option.bind_some]
  by_cases hc : InR x
  · obtain ⟨h1, h2, h3⟩ := putNum_ok (n := zig x) (by have := zig_le hc; omega)
    rw [if_pos hc]
    have hb : (decide ¬ InR x) = false := by simp [hc]
    rw [hb]
    obtain ⟨c1, c2⟩ := hc
    rw [in_t ⟨c1, c2⟩]
    simp only [Bool.not_true, Bool.false_eq_true, if_false]
    by_cases hn : x < 0
    · rw [if_pos (by simpa using hn), if_pos (by simpa using hn)]
      have e : IntKind.i64.wrap ((IntKind.i64.wrap (0 - (IntKind.i64.wrap (2 * x)))) - 1) = (zig x : Nat) := by
        rw [wrap_id (n := 2 * x) (by omega) (by omega), wrap_id (n := 0 - 2 * x) (by omega) (by omega), wrap_id (by omega) (by omega)]
        unfold zig; rw [if_pos hn]; omega
      have e' : IntKind.i64.wrap ((IntKind.i64.wrap ((-2) * x)) - 1) = (zig x : Nat) := by
        rw [wrap_id (n := -2 * x) (by omega) (by omega), wrap_id (by omega) (by omega)]
        unfold zig; rw [if_pos hn]; omega
      rw [e, e', h1, h2]
      exact ⟨rfl, rfl, h3⟩
    · rw [if_neg (by simpa using hn), if_neg (by simpa using hn)]
      have e : IntKind.i64.wrap (2 * x) = (zig x : Nat) := by
        rw [wrap_id (n := 2 * x) (by omega) (by omega)]
        unfold zig; rw [if_neg hn]; omega
      rw [e, h1, h2]
      exact ⟨rfl, rfl, h3⟩
  · rw [if_neg hc, in_f (by exact hc)]
    have hb : (decide ¬ InR x) = true := by simp [hc]
    rw [hb]
    exact ⟨rfl, rfl, by simp⟩
def putsB (xs : List Int) : List Int := xs.flatMap putB
theorem putsB_len (xs : List Int) : (putsB xs).length ≤ 5 * xs.length := by
  induction xs with
  | nil => simp [putsB]
  | cons x xs ih => 
    have := (putInt_ok (x := x)).2.2
    simp only [putsB, List.flatMap_cons, List.length_append, List.length_cons] at ih ⊢
    omega
theorem l27Fits_ok {p : List Int} (hp : p.length < 1000000000000) : spec_l27Fits p = some (decide (∀ x ∈ p, InR x)) := by
  unfold spec_l27Fits
  refine all_loop (P := InR) (spec_l27Fits_L1 p) (fun k => ?_) (fun k i h => ?_) hp
  · show (if _ then _ else _) = _
    rw [if_neg (by simp)]
  · show (if _ then _ else _) = _
    rw [if_pos (by simp; omega), idx_lt h, wrap_succ (by omega)]
    unfold spec_l1In
    simp only [Option.bind_some]
    by_cases hc : InR p[i]
    · rw [in_t hc, if_pos hc]; rfl
    · rw [in_f hc, if_neg hc]; rfl
theorem specPutInts_L {p : List Int} (hp : p.length ≤ 1048576) (l : List Int) (hl : l.length ≤ 1000000000) : spec_PutInts_L1 p Fuel l 0 = some (l ++ putsB p) := by
  rw [run_loop (p := p) (fun k s i => spec_PutInts_L1 p k s i) (fun s x => .inr (s ++ putB x)) (fun s => some s) (fun i s => s.length ≤ l.length + 5 * i)
    (fun k s _ => by show (if _ then _ else _) = _; rw [if_neg (by simp)])
    (fun k s i h hI => ⟨by
      show (if _ then _ else _) = _
      rw [if_pos (by simp; omega), idx_lt h, wrap_succ (by omega)]
      simp only [Option.bind_some]
      rw [putInt_ok.1]
      simp only [Option.bind_some]
      rw [app_eq (by have := (putInt_ok (x := p[i])).2.2; omega)]
      rfl, fun s' e => by
      have := (putInt_ok (x := p[i])).2.2
      obtain rfl := Sum.inr.inj e
      rw [List.length_append]; omega⟩) (by omega) l (by omega)]
  clear hp hl
  induction p generalizing l with
  | nil => simp [run, putsB]
  | cons x p ih => show run _ _ (l ++ putB x) p = _; rw [ih]; simp [putsB]
theorem implInts_ok {p : List Int} (hp : p.length ≤ 1048576) (l : List Int) (q : Bool) (hl : l.length ≤ 1000000000) : impl_writer_ints ⟨l, q⟩ p = some ⟨l ++ putsB p, q || decide (¬ ∀ x ∈ p, InR x)⟩ := by
  unfold impl_writer_ints
  show impl_writer_ints_L1 p Fuel l q 0 = _
  rw [show impl_writer_ints_L1 p Fuel l q 0 = _ from run_loop (p := p) (fun k (s : List Int × Bool) i => impl_writer_ints_L1 p k s.1 s.2 i) (fun s x => .inr (s.1 ++ putB x, s.2 || decide ¬ InR x)) (fun s => some ⟨s.1, s.2⟩) (fun i s => s.1.length ≤ l.length + 5 * i)
    (fun k s _ => by show (if _ then _ else _) = _; rw [if_neg (by simp)])
    (fun k s i h hI => ⟨by
      show (if _ then _ else _) = _
      rw [if_pos (by simp; omega), idx_lt h, wrap_succ (by omega)]
      simp only [Option.bind_some]
      rw [putInt_ok.2.1]
      simp only [Option.bind_some]
      rw [app_eq (by have := (putInt_ok (x := p[i])).2.2; omega)]
      rfl, fun s' e => by
      have := (putInt_ok (x := p[i])).2.2
      obtain rfl := Sum.inr.inj e
      show (s.1 ++ _).length ≤ _
      rw [List.length_append]; omega⟩) (by omega) (l, q) (Nat.le_add_right _ _)]
  clear hp hl
  induction p generalizing l q with
  | nil => simp [run, putsB]
  | cons x p ih =>
    show run _ _ (l ++ putB x, q || decide ¬ InR x) p = _
    rw [ih]
    congr 2
    · simp [putsB]
    · by_cases h : InR x <;> simp [h]
theorem implList_ok {p : List Int} (hp : p.length ≤ 1048576) (l : List Int) (q : Bool) (hl : l.length ≤ 900000000) : impl_writer_list ⟨l, q⟩ p = some ⟨l ++ putB p.length ++ putsB p, q || decide (¬ ∀ x ∈ p, InR x)⟩ := by
  unfold impl_writer_list
  rw [implInts_ok (by simp) l q (by omega)]
  have h1 : InR (p.length : Int) := ⟨by omega, by omega⟩
  have h2 : putsB [(p.length : Int)] = putB p.length := by simp [putsB]
  rw [h2]
  simp only [Option.bind_some]
  have := (putInt_ok (x := (p.length : Int))).2.2
  rw [implInts_ok hp _ _ (by rw [List.length_append]; omega)]
  simp [h1]
theorem specPutInts_ok {p : List Int} (hp : p.length ≤ 1048576) : spec_PutInts p = some (if ∀ x ∈ p, InR x then putB p.length ++ putsB p else []) := by
  unfold spec_PutInts
  rw [l27Fits_ok (by omega)]
  simp only [Option.bind_some]
  by_cases h : ∀ x ∈ p, InR x
  · rw [if_pos h]
    rw [decide_eq_true h]
    simp only [Bool.not_true, Bool.false_eq_true, if_false]
    rw [putInt_ok.1]
    simp only [Option.bind_some]
    exact specPutInts_L hp _ (by have := (putInt_ok (x := (p.length : Int))).2.2; omega)
  · rw [if_neg h]
    rw [decide_eq_false h]
    rfl
theorem implPutInts_ok {p : List Int} (hp : p.length ≤ 1048576) : impl_PutInts p = some (if ∀ x ∈ p, InR x then putB p.length ++ putsB p else []) := by
  unfold impl_PutInts
  rw [implList_ok hp _ _ (by simp)]
  simp only [Option.bind_some, impl_writer_done]
  by_cases h : ∀ x ∈ p, InR x
  · rw [if_pos h, show (decide ¬ ∀ x ∈ p, InR x) = false from decide_eq_false fun n => n h]; rfl
  · rw [if_neg h, show (decide ¬ ∀ x ∈ p, InR x) = true from decide_eq_true h]; rfl
theorem putsAll_len {p : List Int} (hp : p.length ≤ 1048576) : (if ∀ x ∈ p, InR x then putB p.length ++ putsB p else []).length ≤ 10000000 := by
  split
  · have := (putInt_ok (x := (p.length : Int))).2.2
    have := putsB_len p
    rw [List.length_append]; omega
  · simp
theorem exactPutInts {p : List Int} (hp : p.length < 9223372036854775808) : laws_FnExactPutInts p = some true := by
  unfold laws_FnExactPutInts
  by_cases h0 : 1048576 < p.length
  · rw [if_pos (by simp; omega)]
  · rw [if_neg (by simp; omega)]
    have hl : p.length ≤ 1048576 := by omega
    rw [toIntS_id hl]
    simp only [Option.bind_some]
    rw [specPutInts_ok hl, implPutInts_ok hl]
    have hb := putsAll_len hl
    generalize (if ∀ x ∈ p, InR x then putB p.length ++ putsB p else []) = b at hb
    simp only [Option.bind_some]
    rw [eqByteS_self (by omega), eqIntS_self (by omega)]
    obtain ⟨m1, p1, a1, a2, a3, a4, a5⟩ := markIntS_ok (p := p) (by omega) 1 (by omega)
    obtain ⟨m2, b2, b1, b3, b4, b5, b6⟩ := markByteS_ok (p := b) (by omega) 1 (by omega)
    have a1' : laws_markIntS p 1 = some ((m1 : Int), p1) := a1
    have b1' : laws_markByteS b 1 = some ((m2 : Int), b2) := b1
    have b3' : laws_heldByteS b2 1 = some (m2 : Int) := b3
    rw [a1', b1']
    simp only [Option.bind_some, b3', Bool.not_true, Bool.false_eq_true, if_false, bne_self_eq_false]
    rw [if_neg (by simp), if_neg (by simp)]
    simp only [Option.bind_some, Bool.false_eq_true, if_false]
    rw [if_neg (by simp)]
end Go.Vk
