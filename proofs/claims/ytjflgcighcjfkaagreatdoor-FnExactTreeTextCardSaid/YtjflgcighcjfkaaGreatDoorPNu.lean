/- Numbers in decimal, texts joined: alike. -/
import Derived.Test.YtjflgcighcjfkaaGreatDoorPT
import Derived.Test.YtjflgcighcjfkaaGreatDoorVkTo
import Derived.Lib.ItoaLen
namespace Go.Vk
open Go.Proofs
def I64 (x : Int) : Prop := -9223372036854775808 ≤ x ∧ x ≤ 9223372036854775807
theorem dig_byte {d : Nat} (h : d < 10) : bytesOf ([IntKind.u8.wrap (IntKind.i64.wrap (48 + (d : Int)))] : List Int) = [UInt8.ofNat (48 + d)] := by
  rw [wrap_id (by omega) (by omega), IntWalk.u8_in _ (by omega)]
  have : ((48 : Int) + (d : Int)).toNat = 48 + d := by omega
  simp [bytesOf, this]
theorem dig_step {u : Nat} (hu : 0 < u) (s : List UInt8) : (if u / 10 = 0 then UInt8.ofNat (48 + u % 10) :: s else Lib.decDigits (u / 10) ++ (UInt8.ofNat (48 + u % 10) :: s)) = Lib.decDigits u ++ s := by
  by_cases h : u < 10
  · rw [if_pos (by omega), Lib.decDigits_one h, Nat.mod_eq_of_lt h]; rfl
  · rw [if_neg (by omega), Lib.decDigits.eq_def u, dif_neg h]; simp
def dfin (p : Int) (s : List UInt8) : Option (List UInt8) := if p < 0 then some (45 :: s) else some s
theorem dig_end {p : Int} {k : Nat} {s : List UInt8} (hs : s.length ≤ 1000) : spec_Digits_L1 p (k + 1) 0 s = dfin p s := by
  rw [spec_Digits_L1, if_neg (by simp)]
  unfold dfin sadd
  by_cases h : p < 0
  · rw [if_pos (by simpa using h), if_pos h, if_pos (by simp; omega)]; rfl
  · rw [if_neg (by simpa using h), if_neg h]
theorem dig_pos (p : Int) : ∀ (d u k : Nat) (s : List UInt8), u < 10 ^ d → u ≤ 9223372036854775808 → d < k → s.length + d ≤ 1000 → spec_Digits_L1 p k (u : Int) s = dfin p (if u = 0 then s else Lib.decDigits u ++ s) := by
  intro d
  induction d with
  | zero =>
    intro u k s hu _ hk hs
    obtain ⟨k, rfl⟩ : ∃ q, k = q + 1 := ⟨k - 1, by omega⟩
    have : u = 0 := by simpa using hu
    subst this
    rw [if_pos rfl]
    exact dig_end (by omega)
  | succ d ih =>
    intro u k s hu hb hk hs
    obtain ⟨k, rfl⟩ : ∃ q, k = q + 1 := ⟨k - 1, by omega⟩
    by_cases h0 : u = 0
    · subst h0
      rw [if_pos rfl]
      exact dig_end (by omega)
    · have hr := tmod_nat u 10
      have hd := tdiv_nat u 10
      simp only [Int.cast_ofNat_Int] at hr hd
      rw [spec_Digits_L1, if_pos (by simp; omega), if_neg (by rw [hr]; simp; omega), hr]
      unfold spec_Digits_J1
      rw [dig_byte (Nat.mod_lt _ (by omega)), hd, wrap_id (by omega) (by omega)]
      unfold sadd
      rw [if_pos (by simp; omega)]
      simp only [Option.bind_some, List.cons_append, List.nil_append]
      rw [ih (u / 10) k _ (by rw [Nat.pow_succ] at hu; omega) (by omega) (by omega) (by simp; omega), if_neg h0, dig_step (by omega)]
theorem dig_neg (p : Int) : ∀ (d u k : Nat) (s : List UInt8), u < 10 ^ d → u ≤ 9223372036854775808 → d < k → s.length + d ≤ 1000 → spec_Digits_L1 p k (-(u : Int)) s = dfin p (if u = 0 then s else Lib.decDigits u ++ s) := by
  intro d
  induction d with
  | zero =>
    intro u k s hu _ hk hs
    obtain ⟨k, rfl⟩ : ∃ q, k = q + 1 := ⟨k - 1, by omega⟩
    have : u = 0 := by simpa using hu
    subst this
    rw [if_pos rfl]
    exact dig_end (by omega)
  | succ d ih =>
    intro u k s hu hb hk hs
    obtain ⟨k, rfl⟩ : ∃ q, k = q + 1 := ⟨k - 1, by omega⟩
    by_cases h0 : u = 0
    · subst h0
      rw [if_pos rfl]
      exact dig_end (by omega)
    · have hr := tmod_nat u 10
      have hd := tdiv_nat u 10
      simp only [Int.cast_ofNat_Int] at hr hd
      have hr' : Int.tmod (-(u : Int)) 10 = -((u % 10 : Nat) : Int) := by rw [Int.neg_tmod, hr]
      have hd' : Int.tdiv (-(u : Int)) 10 = -((u / 10 : Nat) : Int) := by rw [Int.neg_tdiv, hd]
      have hj : spec_Digits_J1 s (spec_Digits_L1 p k) (-(u : Int)) ((u % 10 : Nat) : Int) = dfin p (Lib.decDigits u ++ s) := by
        unfold spec_Digits_J1
        rw [dig_byte (Nat.mod_lt _ (by omega)), hd', wrap_id (by omega) (by omega)]
        unfold sadd
        rw [if_pos (by simp; omega)]
        simp only [Option.bind_some, List.cons_append, List.nil_append]
        rw [ih (u / 10) k _ (by rw [Nat.pow_succ] at hu; omega) (by omega) (by omega) (by simp; omega), dig_step (by omega)]
      rw [spec_Digits_L1, if_pos (by simp; omega), hr', if_neg h0]
      by_cases hz : u % 10 = 0
      · rw [if_neg (by rw [hz]; simp), hz]
        rw [hz] at hj
        exact hj
      · rw [if_pos (by simp; omega), wrap_id (by omega) (by omega), show (0 : Int) - -((u % 10 : Nat) : Int) = ((u % 10 : Nat) : Int) by omega]
        exact hj
theorem specDigits {n : Int} (h : I64 n) : spec_Digits n = some (Lib.itoa n) := by
  obtain ⟨h0, h1⟩ := h
  unfold spec_Digits
  by_cases hz : n = 0
  · subst hz
    rw [if_pos (by simp)]
    unfold Lib.itoa
    rw [if_neg (by omega), show (0 : Int).toNat = 0 from rfl, Lib.decDigits_one (by omega)]
    rfl
  · rw [if_neg (by simpa using hz)]
    by_cases hn : n < 0
    · obtain ⟨u, rfl⟩ : ∃ u : Nat, n = -(u : Int) := ⟨n.natAbs, by omega⟩
      rw [dig_neg _ 20 u Fuel [] (by have : (10 : Nat) ^ 20 = 100000000000000000000 := by decide
                                     omega) (by omega) (fuel_gt (by omega)) (by simp), if_neg (by omega)]
      unfold dfin Lib.itoa
      rw [if_pos hn, if_pos hn, show (-(u : Int)).natAbs = u by omega, List.append_nil]
    · obtain ⟨u, rfl⟩ : ∃ u : Nat, n = (u : Int) := ⟨n.toNat, by omega⟩
      rw [dig_pos _ 20 u Fuel [] (by have : (10 : Nat) ^ 20 = 100000000000000000000 := by decide
                                     omega) (by omega) (fuel_gt (by omega)) (by simp), if_neg (by omega)]
      unfold dfin Lib.itoa
      rw [if_neg hn, if_neg hn, Int.toNat_natCast, List.append_nil]
theorem implDigits {n : Int} (h : I64 n) : impl_Digits n = some (Lib.itoa n) := by
  unfold impl_Digits sItoa
  rw [if_pos ⟨h.1, h.2⟩]
  rfl
theorem itoa_len {n : Int} (h : I64 n) : (Lib.itoa n).length ≤ 21 := Lib.itoa_length_le n h.1 h.2
theorem sadd_eq {a b : List UInt8} (h : a.length + b.length ≤ 68719476736) : sadd a b = some (a ++ b) := if_pos h
/-! joined -/
theorem join_snoc (xs : List (List UInt8)) (x sep : List UInt8) : Lib.join (xs ++ [x]) sep = if xs = [] then x else Lib.join xs sep ++ sep ++ x := by
  cases xs with
  | nil => simp [Lib.join_one]
  | cons y r =>
    rw [List.cons_append, Lib.join_cons, Lib.join_cons, if_neg (by simp)]
    simp [Lib.joinTail]
theorem join_take_le (xs : List (List UInt8)) (sep : List UInt8) : ∀ n, (Lib.join (xs.take n) sep).length ≤ (Lib.join xs sep).length := by
  intro n
  cases xs with
  | nil => simp
  | cons x r =>
    cases n with
    | zero => simp [Lib.join_nil]
    | succ n =>
      rw [List.take_succ_cons, Lib.join_cons, Lib.join_cons]
      simp only [List.length_append, Lib.joinTail]
      have : ((r.take n).map (sep ++ ·)).flatten.length ≤ (r.map (sep ++ ·)).flatten.length := by
        rw [List.map_take]
        conv => rhs; rw [← List.take_append_drop n (r.map (sep ++ ·)), List.flatten_append, List.length_append]
        omega
      omega
theorem specJoin {xs : List (List UInt8)} {sep : List UInt8} (hx : xs.length ≤ 1000000000) (hl : (Lib.join xs sep).length ≤ 1000000000) (_ : sep.length ≤ 1000) : spec_l5Join xs sep = some (Lib.join xs sep) := by
  unfold spec_l5Join
  refine for_idx (Lp := fun k i => spec_l5Join_L1 xs sep k (Lib.join (xs.take i) sep) (i : Int)) (n := xs.length) (fun k => ?_) (fun k i hi => ?_) (by omega)
  · show spec_l5Join_L1 xs sep (k + 1) _ _ = _
    rw [spec_l5Join_L1, if_neg (by simp), List.take_length]
  · show spec_l5Join_L1 xs sep (k + 1) _ _ = spec_l5Join_L1 xs sep k _ _
    have ht : xs.take (i + 1) = xs.take i ++ [xs[i]] := List.take_succ_eq_append_getElem hi
    have h1 := join_take_le xs sep (i + 1)
    have hj := join_snoc (xs.take i) xs[i] sep
    rw [← ht] at hj
    by_cases h0 : i = 0
    · subst h0
      rw [if_pos (by simp)] at hj
      rw [hj] at h1 ⊢
      rw [spec_l5Join_L1, if_pos (by simp; omega), if_neg (by simp)]
      unfold spec_l5Join_J1
      rw [idx_lt hi, wrap_succ (by omega)]
      simp only [Option.bind_some, List.take_zero, Lib.join_nil]
      rw [sadd_eq (by simp; omega)]
      rfl
    · have hne : ¬ xs.take i = [] := by
        intro e
        have h9 : (xs.take i).length = i := by rw [List.length_take]; omega
        rw [e] at h9
        exact h0 h9.symm
      rw [if_neg hne] at hj
      rw [hj] at h1 ⊢
      simp only [List.length_append] at h1
      rw [spec_l5Join_L1, if_pos (by simp; omega), if_pos (by simp; omega), sadd_eq (by omega)]
      unfold spec_l5Join_J1
      simp only [Option.bind_some]
      rw [idx_lt hi, wrap_succ (by omega)]
      simp only [Option.bind_some]
      rw [sadd_eq (by simp only [List.length_append]; omega)]
      rfl
theorem implJoin {xs : List (List UInt8)} {sep : List UInt8} (hx : xs.length ≤ 1000000000) (hl : (Lib.join xs sep).length ≤ 1000000000) : sJoin xs sep = some (Lib.join xs sep) := by
  unfold sJoin
  rw [if_pos ⟨by omega, by omega⟩]
theorem join_len {xs : List (List UInt8)} {sep : List UInt8} {b : Nat} (h : ∀ x ∈ xs, x.length ≤ b) : (Lib.join xs sep).length ≤ (sep.length + b) * xs.length := by
  cases xs with
  | nil => simp [Lib.join_nil]
  | cons x r =>
    rw [Lib.join_cons, List.length_append]
    have hx := h x (by simp)
    have : (Lib.joinTail sep r).length ≤ (sep.length + b) * r.length := by
      unfold Lib.joinTail
      have hr : ∀ y ∈ r, y.length ≤ b := fun y hy => h y (by simp [hy])
      clear h hx
      induction r with
      | nil => simp
      | cons y r ih =>
        have h1 := hr y (by simp)
        have h2 := ih (fun z hz => hr z (by simp [hz]))
        simp only [List.map_cons, List.flatten_cons, List.length_append, List.length_cons, Nat.mul_succ]
        omega
    simp only [List.length_cons, Nat.mul_succ]
    omega
theorem numbers_same {p : List Int} {sep : List UInt8} (hp : sml_IntS p) (hs : sep.length ≤ 100) : impl_numbersText p sep = some (Lib.join (p.map Lib.itoa) sep) ∧ (Lib.join (p.map Lib.itoa) sep).length ≤ 121 * p.length := by
  have hl := hp.1
  have hlen : (Lib.join (p.map Lib.itoa) sep).length ≤ 121 * p.length := by
    have := join_len (xs := p.map Lib.itoa) (sep := sep) (b := 21) (fun x hx => by
      obtain ⟨n, hn, rfl⟩ := List.mem_map.1 hx
      exact itoa_len (hp.2 n hn))
    rw [List.length_map] at this
    exact Nat.le_trans this (Nat.mul_le_mul_right _ (by omega))
  refine ⟨?_, hlen⟩
  unfold impl_numbersText
  refine map_loop (p := p) Lib.itoa (fun k l i => impl_numbersText_L1 p sep k i l) (fun l => (sJoin l sep).bind fun s => some s) (fun k l => ?_) (fun k l i h hi => ?_) (by omega) |>.trans ?_
  · show impl_numbersText_L1 p sep (k + 1) _ l = _
    rw [impl_numbersText_L1, if_neg (by simp)]
  · show impl_numbersText_L1 p sep (k + 1) _ l = _
    rw [impl_numbersText_L1, if_pos (by simp; omega), idx_lt h, wrap_succ (by omega)]
    simp only [Option.bind_some]
    rw [implDigits (hp.2 _ (List.getElem_mem h))]
    simp only [Option.bind_some]
    rw [app_eq (by simp; omega)]
    rfl
  · rw [implJoin (by simp; omega) (by omega)]
    rfl
theorem totals_same {p : List Int} (hp : sml_IntS p) : ∃ m, spec_TotalsText p = some m ∧ impl_TotalsText p = some m := by
  have hl := hp.1
  obtain ⟨h1, h2⟩ := numbers_same (sep := [47]) hp (by simp)
  refine ⟨Lib.join (p.map Lib.itoa) [47], ?_, ?_⟩
  · unfold spec_TotalsText
    refine map_loop (p := p) Lib.itoa (fun k l i => spec_TotalsText_L1 p k l i) (fun l => (spec_l5Join l [47]).bind fun s => some s) (fun k l => ?_) (fun k l i h hi => ?_) (by omega) |>.trans ?_
    · show spec_TotalsText_L1 p (k + 1) l _ = _
      rw [spec_TotalsText_L1, if_neg (by simp)]
    · show spec_TotalsText_L1 p (k + 1) l _ = _
      rw [spec_TotalsText_L1, if_pos (by simp; omega), idx_lt h, wrap_succ (by omega)]
      simp only [Option.bind_some]
      rw [specDigits (hp.2 _ (List.getElem_mem h))]
      simp only [Option.bind_some]
      rw [app_eq (by simp; omega)]
      rfl
    · rw [specJoin (by simp; omega) (by omega) (by simp)]
      rfl
  · unfold impl_TotalsText
    rw [h1]
    rfl
end Go.Vk
