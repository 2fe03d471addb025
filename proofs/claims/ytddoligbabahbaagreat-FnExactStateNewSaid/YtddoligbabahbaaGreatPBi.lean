/- Subsets by their rank: alike. -/
import Derived.Test.YtddoligbabahbaaGreatPSt
import Derived.Test.YtddoligbabahbaaGreatPBo
namespace Go.Vk
def ch : Nat → Nat → Nat
  | _, 0 => 1
  | 0, _ + 1 => 0
  | n + 1, k + 1 => ch n k + ch n (k + 1)
theorem ch_zero (n : Nat) : ch n 0 = 1 := by cases n <;> rfl
theorem ch_gt : ∀ {n k : Nat}, n < k → ch n k = 0
  | 0, k + 1, _ => rfl
  | n + 1, k + 1, h => by
    show ch n k + ch n (k + 1) = 0
    rw [ch_gt (by omega), ch_gt (by omega)]
theorem ch_self : ∀ n : Nat, ch n n = 1
  | 0 => rfl
  | n + 1 => by
    show ch n n + ch n (n + 1) = 1
    rw [ch_self n, ch_gt (by omega)]
theorem ch_le : ∀ n k : Nat, ch n k ≤ 2 ^ n
  | n, 0 => by rw [ch_zero]; exact Nat.one_le_two_pow
  | 0, k + 1 => by simp [ch]
  | n + 1, k + 1 => by
    show ch n k + ch n (k + 1) ≤ 2 ^ (n + 1)
    have h1 := ch_le n k
    have h2 := ch_le n (k + 1)
    rw [Nat.pow_succ]; omega
theorem ch_succ : ∀ n k : Nat, ch (n + 1) (k + 1) * (k + 1) = (n + 1) * ch n k
  | 0, 0 => rfl
  | 0, k + 1 => by
    show (ch 0 (k + 1) + ch 0 (k + 2)) * _ = _
    simp [ch]
  | n + 1, 0 => by
    have h := ch_succ n 0
    show (ch (n + 1) 0 + ch (n + 1) 1) * 1 = _
    have h : ch (n + 1) 1 * 1 = (n + 1) * ch n 0 := h
    rw [ch_zero] at h ⊢
    omega
  | n + 1, j + 1 => by
    have h1 := ch_succ n j
    have h2 := ch_succ n (j + 1)
    have hp : ch (n + 1) (j + 1) = ch n j + ch n (j + 1) := rfl
    show (ch (n + 1) (j + 1) + ch (n + 1) (j + 2)) * (j + 2) = (n + 2) * ch (n + 1) (j + 1)
    generalize ch (n + 1) (j + 2) = c at *
    generalize ch n j = a at *
    generalize ch n (j + 1) = b at *
    generalize ch (n + 1) (j + 1) = d at *
    subst hp
    rw [Nat.add_mul _ _ (j + 2)]
    have h3 : (a + b) * (j + 2) = (a + b) * (j + 1) + (a + b) := Nat.mul_succ _ _
    have h4 : c * (j + 2) = (n + 1) * b := h2
    have h5 : (n + 2) * (a + b) = (n + 1) * (a + b) + (a + b) := Nat.succ_mul _ _
    have h6 : (n + 1) * (a + b) = (n + 1) * a + (n + 1) * b := Nat.mul_add _ _ _
    omega
theorem ch_step {n k : Nat} (h : k ≤ n) : ch n (k + 1) * (k + 1) = ch n k * (n - k) := by
  have h1 := ch_succ n k
  have h2 : ch (n + 1) (k + 1) = ch n k + ch n (k + 1) := rfl
  rw [h2, Nat.add_mul] at h1
  have h3 : ch n k * (n - k) + ch n k * (k + 1) = ch n k * (n + 1) := by rw [← Nat.mul_add]; congr 1; omega
  rw [Nat.mul_comm (n + 1)] at h1
  omega
def binZ (n k : Int) : Nat := if (0 ≤ n ∧ n ≤ 20) ∧ 0 ≤ k ∧ k ≤ n then ch n.toNat k.toNat else 0
theorem pow20 {n : Nat} (h : n ≤ 20) : 2 ^ n ≤ 1048576 := by
  have : (2 : Nat) ^ n ≤ 2 ^ 20 := Nat.pow_le_pow_right (by omega) h
  omega
theorem binZ_le (n k : Int) : binZ n k ≤ 1048576 := by
  unfold binZ
  split
  · exact Nat.le_trans (ch_le _ _) (pow20 (by omega))
  · omega
theorem implBin (n k : Int) : impl_Binomial n k = some (binZ n k : Int) := by
  unfold impl_Binomial binZ
  rcases (dec_within (x := n) (a := 0) (b := 20)).cases with ⟨e, hn⟩ | ⟨e, hn⟩
  · rw [e]
    simp only [Option.bind_some, Bool.not_true, Bool.false_eq_true, if_false]
    rcases (dec_within (x := k) (a := 0) (b := n)).cases with ⟨e, hk⟩ | ⟨e, hk⟩
    · rw [e, if_pos ⟨hn, hk⟩]
      simp only [Option.bind_some, Bool.not_true, Bool.false_eq_true, if_false]
      obtain ⟨m, rfl⟩ : ∃ m : Nat, n = m := ⟨n.toNat, by omega⟩
      obtain ⟨j, rfl⟩ : ∃ j : Nat, k = j := ⟨k.toNat, by omega⟩
      simp only [Int.toNat_natCast]
      have h := for_idx (Lp := fun q i => impl_Binomial_L1 (j : Int) (m : Int) q (i : Int) ((ch m i : Nat) : Int)) (n := j) (fin := some ((ch m j : Nat) : Int)) (fun q => by
        show impl_Binomial_L1 (j : Int) (m : Int) (q + 1) _ _ = _
        rw [impl_Binomial_L1, if_neg (by simp)]) (fun q i hi => by
        show impl_Binomial_L1 (j : Int) (m : Int) (q + 1) _ _ = impl_Binomial_L1 (j : Int) (m : Int) q _ _
        have h1 := Nat.le_trans (ch_le m i) (pow20 (by omega))
        have h2 := ch_step (n := m) (k := i) (by omega)
        have h3 : ch m i * (m - i) ≤ 1048576 * 20 := Nat.mul_le_mul h1 (by omega)
        have e1 : IntKind.i64.wrap ((m : Int) - (i : Int)) = ((m - i : Nat) : Int) := by rw [wrap_id (by omega) (by omega)]; omega
        have e2 : IntKind.i64.wrap (((ch m i : Nat) : Int) * ((m - i : Nat) : Int)) = ((ch m i * (m - i) : Nat) : Int) := by rw [← Int.natCast_mul, wrap_nat (by omega)]
        rw [impl_Binomial_L1, if_pos (by simp; omega), e1, e2, wrap_succ (by omega)]
        unfold quo
        rw [if_neg (by omega), tdiv_nat, ← h2, Nat.mul_div_cancel _ (by omega)]
        have h4 := Nat.le_trans (ch_le m (i + 1)) (pow20 (by omega))
        rw [wrap_nat (by omega)]
        rfl) (by omega)
      rw [ch_zero] at h
      exact h
    · rw [e, if_neg (fun g => hk g.2)]; rfl
  · rw [e, if_neg (fun g => hn g.1)]; rfl
theorem specBin (n k : Int) : spec_Binomial n k = some (binZ n k : Int) := by
  unfold spec_Binomial binZ
  rcases (dec_l1In (x := n) (a := 0) (b := 20)).cases with ⟨e, hn⟩ | ⟨e, hn⟩
  · rw [e]
    simp only [Option.bind_some, Bool.not_true, Bool.false_eq_true, if_false]
    rcases (dec_l1In (x := k) (a := 0) (b := n)).cases with ⟨e, hk⟩ | ⟨e, hk⟩
    · rw [e, if_pos ⟨hn, hk⟩]
      simp only [Option.bind_some, Bool.not_true, Bool.false_eq_true, if_false]
      obtain ⟨m, rfl⟩ : ∃ m : Nat, n = m := ⟨n.toNat, by omega⟩
      obtain ⟨j, rfl⟩ : ∃ j : Nat, k = j := ⟨k.toNat, by omega⟩
      simp only [Int.toNat_natCast]
      refine for_idx (Lp := fun q i => spec_Binomial_L1 (m : Int) (j : Int) q ((List.range (i + 1)).map fun x => ((ch i x : Nat) : Int)) (i : Int)) (n := m) (fun q => ?_) (fun q i hi => ?_) (by omega)
      · show spec_Binomial_L1 (m : Int) (j : Int) (q + 1) _ _ = _
        rw [spec_Binomial_L1, if_neg (by simp), idx_lt (by simp; omega)]
        simp
      · show spec_Binomial_L1 (m : Int) (j : Int) (q + 1) _ _ = spec_Binomial_L1 (m : Int) (j : Int) q _ _
        rw [spec_Binomial_L1, if_pos (by simp; omega)]
        generalize hrow : ((List.range (i + 1)).map fun x => ((ch i x : Nat) : Int)) = row
        have hlen : row.length = i + 1 := by rw [← hrow]; simp
        have hget : ∀ x (h : x < row.length), row[x] = ((ch i x : Nat) : Int) := fun x h => by
          have h' : x < i + 1 := by omega
          subst hrow; simp
        have key : ∀ (d q2 x : Nat), i + 1 - x = d → d < q2 → 1 ≤ x → x ≤ i + 1 → spec_Binomial_L2 row (spec_Binomial_L1 (m : Int) (j : Int) q) (i : Int) q2 ((List.range x).map fun y => ((ch (i + 1) y : Nat) : Int)) (x : Int) = spec_Binomial_L1 (m : Int) (j : Int) q ((List.range (i + 2)).map fun x => ((ch (i + 1) x : Nat) : Int)) ((i + 1 : Nat) : Int) := by
          intro d
          induction d with
          | zero =>
            intro q2 x hd hq h1 hx
            obtain ⟨q2, rfl⟩ : ∃ y, q2 = y + 1 := ⟨q2 - 1, by omega⟩
            obtain rfl : x = i + 1 := by omega
            rw [spec_Binomial_L2, if_neg (by simp; omega), app_eq (by simp; omega), wrap_succ (by omega)]
            simp only [Option.bind_some]
            rw [List.range_succ (n := i + 1), List.map_append]
            simp [ch_self]
          | succ d ih =>
            intro q2 x hd hq h1 hx
            obtain ⟨q2, rfl⟩ : ∃ y, q2 = y + 1 := ⟨q2 - 1, by omega⟩
            obtain ⟨z, rfl⟩ : ∃ z, x = z + 1 := ⟨x - 1, by omega⟩
            have hb1 := Nat.le_trans (ch_le i z) (pow20 (by omega))
            have hb2 := Nat.le_trans (ch_le i (z + 1)) (pow20 (by omega))
            have e1 : IntKind.i64.wrap (((z + 1 : Nat) : Int) - 1) = (z : Int) := by rw [wrap_id (by omega) (by omega)]; omega
            rw [spec_Binomial_L2, if_pos (by simp; omega), e1, idx_lt (by omega : z < row.length), idx_lt (by omega : z + 1 < row.length), hget, hget]
            simp only [Option.bind_some]
            rw [app_eq (by simp; omega), wrap_succ (by omega), wrap_id (by omega) (by omega)]
            simp only [Option.bind_some]
            have := ih q2 (z + 2) (by omega) (by omega) (by omega) (by omega)
            rw [← this, List.range_succ (n := z + 1), List.map_append]
            rfl
        have := key i Fuel 1 (by omega) (fuel_gt (by omega)) (Nat.le_refl _) (by omega)
        rw [← this]
        simp [List.range_succ, ch_zero]
    · rw [e, if_neg (fun g => hk g.2)]; rfl
  · rw [e, if_neg (fun g => hn g.1)]; rfl
def smallS (l : List Int) : Prop := l.length ≤ 20 ∧ ∀ x ∈ l, 0 ≤ x ∧ x ≤ 20
theorem subset_both {n k : Nat} {r : Int} (hn : n ≤ 20) (hk : k ≤ 20) (hr : 0 ≤ r ∧ r ≤ 1048576) : Both (spec_SubsetAt n k r) (impl_SubsetAt n k r) smallS := by
  unfold spec_SubsetAt impl_SubsetAt
  have hb := binZ_le n k
  rw [specBin, implBin]
  simp only [Option.bind_some]
  rw [wrap_id (by omega) (by omega)]
  refine both_dec dec_l1In dec_within (fun hin => ?_) (fun _ => both_some ⟨by simp, fun x hx => by cases hx⟩)
  simp only [Bool.not_true, Bool.false_eq_true, if_false]
  have hkn : k ≤ n := by
    unfold binZ at hin
    by_cases h : (0 ≤ (n : Int) ∧ (n : Int) ≤ 20) ∧ 0 ≤ (k : Int) ∧ (k : Int) ≤ n
    · omega
    · rw [if_neg h] at hin; omega
  have hin' : r < (ch n k : Nat) := by
    unfold binZ at hin
    rw [if_pos ⟨by omega, by omega⟩] at hin
    simp only [Int.toNat_natCast] at hin
    omega
  have key : ∀ (d q q' x : Nat) (r : Int) (l : List Int), n - x = d → d < q → d < q' → x ≤ n → l.length ≤ k → 0 ≤ r → r < (ch (n - x) (k - l.length) : Nat) → (∀ y ∈ l, 0 ≤ y ∧ y ≤ 20) → Both (spec_SubsetAt_L1 k n q r l x) (impl_SubsetAt_L1 k n q' r l x) smallS := by
    intro d
    induction d with
    | zero =>
      intro q q' x r l hd hq hq' hx hl h0 hr hy
      obtain ⟨q, rfl⟩ : ∃ y, q = y + 1 := ⟨q - 1, by omega⟩
      obtain ⟨q', rfl⟩ : ∃ y, q' = y + 1 := ⟨q' - 1, by omega⟩
      have hlk : l.length = k := by
        by_cases h : l.length < k
        · rw [hd, ch_gt (by omega)] at hr; omega
        · omega
      rw [spec_SubsetAt_L1, impl_SubsetAt_L1, if_neg (by simp; omega), if_neg (by simp; omega)]
      exact both_some ⟨by omega, hy⟩
    | succ d ih =>
      intro q q' x r l hd hq hq' hx hl h0 hr hy
      obtain ⟨q, rfl⟩ : ∃ y, q = y + 1 := ⟨q - 1, by omega⟩
      obtain ⟨q', rfl⟩ : ∃ y, q' = y + 1 := ⟨q' - 1, by omega⟩
      rw [spec_SubsetAt_L1, impl_SubsetAt_L1]
      by_cases hlk : l.length < k
      · rw [if_pos (by simp; omega), if_pos (by simp; omega), specBin, implBin]
        simp only [Option.bind_some]
        have e1 : IntKind.i64.wrap (IntKind.i64.wrap ((n : Int) - (x : Int)) - 1) = ((n - x - 1 : Nat) : Int) := by
          rw [wrap_id (n := (n : Int) - (x : Int)) (by omega) (by omega), wrap_id (by omega) (by omega)]; omega
        have e2 : IntKind.i64.wrap (IntKind.i64.wrap ((k : Int) - (l.length : Int)) - 1) = ((k - l.length - 1 : Nat) : Int) := by
          rw [wrap_id (n := (k : Int) - (l.length : Int)) (by omega) (by omega), wrap_id (by omega) (by omega)]; omega
        rw [e1, e2]
        obtain ⟨a, ha⟩ : ∃ a, n - x = a + 1 := ⟨n - x - 1, by omega⟩
        obtain ⟨b, hb2⟩ : ∃ b, k - l.length = b + 1 := ⟨k - l.length - 1, by omega⟩
        have ha' : n - x - 1 = a := by omega
        have hb' : k - l.length - 1 = b := by omega
        have hp : ch (n - x) (k - l.length) = ch a b + ch a (b + 1) := by rw [ha, hb2]; rfl
        have hz : binZ (a : Int) (b : Int) = ch a b := by
          unfold binZ
          by_cases hab : b ≤ a
          · rw [if_pos ⟨by omega, by omega⟩]; simp
          · rw [if_neg (by omega), ch_gt (by omega)]
        rw [ha', hb', hz]
        rw [hp] at hr
        have hle := Nat.le_trans (ch_le a b) (pow20 (by omega))
        have hle2 := Nat.le_trans (ch_le a (b + 1)) (pow20 (by omega))
        refine both_if Iff.rfl (fun g => ?_) (fun g => ?_)
        · have g : r < (ch a b : Nat) := by simpa using g
          rw [app_eq (by simp; omega), wrap_succ (by omega)]
          simp only [Option.bind_some]
          refine ih q q' (x + 1) r _ (by omega) (by omega) (by omega) (by omega) (by simp; omega) h0 ?_ (fun y hy2 => ?_)
          · rw [show n - (x + 1) = a by omega, show k - (l ++ [(x : Int)]).length = b by simp; omega]; exact g
          · rcases List.mem_append.1 hy2 with h | h
            · exact hy y h
            · rw [List.mem_singleton.1 h]; omega
        · have g : ¬ r < (ch a b : Nat) := by simpa using g
          rw [wrap_succ (by omega), wrap_id (by omega) (by omega)]
          refine ih q q' (x + 1) _ l (by omega) (by omega) (by omega) (by omega) hl (by omega) ?_ hy
          rw [show n - (x + 1) = a by omega, hb2]; omega
      · rw [if_neg (by simp; omega), if_neg (by simp; omega)]
        exact both_some ⟨by omega, hy⟩
  exact key n Fuel Fuel 0 r [] (by omega) (fuel_gt (by omega)) (fuel_gt (by omega)) (by omega) (by simp) hin.1 (by simpa using hin') (fun y hy => by cases hy)
end Go.Vk
