/- Numbers read from bytes; readers. -/
import Derived.Test.YtgpfgjlmjodcaaaPC
namespace Go.Vk
/-- the words are bytes -/
def Bytes (p : List Int) : Prop := ∀ x ∈ p, 0 ≤ x ∧ x ≤ 255
theorem bytes_nat {p : List Int} (hb : Bytes p) {i : Nat} (h : i < p.length) : ∃ n : Nat, p[i] = (n : Int) ∧ n ≤ 255 := by
  obtain ⟨h0, h1⟩ := hb p[i] (List.getElem_mem h)
  exact ⟨p[i].toNat, by omega, by omega⟩
theorem shl_some (x : Int) {y : Int} (h : 0 ≤ y) : shl .i64 x y = some (ishl .i64 x y) := by
  unfold shl; rw [if_neg (by omega)]
def I64 (a : Int) : Prop := -9223372036854775808 ≤ a ∧ a ≤ 9223372036854775807
/-- what a read answers -/
def ReadOk (p : List Int) (a : Int) (r : Int × Int × Bool) : Prop := (r.2.2 = true ∧ 0 ≤ a ∧ a < r.2.1 ∧ r.2.1 ≤ p.length) ∨ r = (0, 0, false)
theorem getNum_L {p : List Int} {a : Int} (hb : Bytes p) (hp : p.length ≤ 1048576) (h0 : 0 ≤ a) (h1 : a ≤ 9223372036854775807) : ∀ (d k i : Nat) (x : Int), 5 - i = d → d < k → i ≤ 5 →
    ∃ r, spec_GetNum_L1 a p k x (i : Int) = some r ∧ impl_GetNum_L1 a p k x (i : Int) = some r ∧ ReadOk p a r := by
  intro d
  induction d with
  | zero =>
    intro k i x hd hk hi
    obtain ⟨k, rfl⟩ : ∃ q, k = q + 1 := ⟨k - 1, by omega⟩
    unfold spec_GetNum_L1 impl_GetNum_L1
    rw [if_neg (by simp; omega), if_neg (by simp; omega)]
    exact ⟨_, rfl, rfl, .inr rfl⟩
  | succ d ih =>
    intro k i x hd hk hi
    obtain ⟨k, rfl⟩ : ∃ q, k = q + 1 := ⟨k - 1, by omega⟩
    unfold spec_GetNum_L1 impl_GetNum_L1
    rw [if_pos (by simp; omega)]
    have hw : IntKind.i64.wrap ((p.length : Int) - (i : Int)) = (p.length : Int) - i := wrap_id (by omega) (by omega)
    rw [hw]
    by_cases hc : a + i < p.length
    · have hs : IntKind.i64.wrap (a + (i : Int)) = a + i := wrap_id (by omega) (by omega)
      rw [hs, if_neg (by simp; omega), if_pos (by simp; omega)]
      obtain ⟨j, hj⟩ : ∃ j : Nat, a + (i : Int) = (j : Int) := ⟨(a + i).toNat, by omega⟩
      rw [hj, idx_lt (show j < p.length by omega)]
      simp only [Option.bind_some]
      obtain ⟨n, hn, hn2⟩ := bytes_nat hb (show j < p.length by omega)
      rw [hn, wrap_nat (n := n) (by omega), and127 n (by omega), show Int.tmod (n : Int) 128 = ((n % 128 : Nat) : Int) from tmod_nat n 128]
      rw [shl_some _ (show 0 ≤ IntKind.i64.wrap (7 * (i : Int)) by rw [wrap_id (by omega) (by omega)]; omega)]
      simp only [Option.bind_some]
      by_cases hm : n < 128
      · rw [if_pos (c := decide ((n : Int) < 128) = true) (by simp; omega), if_neg (c := decide ((n : Int) ≥ 128) = true) (by simp; omega)]
        rw [Bool.and_comm (decide ((i : Int) > 0))]
        generalize ((((n : Int) == 0) && decide ((i : Int) > 0)) || decide (ibits .or .i64 x (ishl .i64 ((n % 128 : Nat) : Int) (IntKind.i64.wrap (7 * (i : Int)))) > 2147483647)) = b
        cases b
        · refine ⟨_, rfl, rfl, .inl ⟨rfl, h0, ?_, ?_⟩⟩
          · show a < IntKind.i64.wrap ((j : Int) + 1)
            rw [wrap_id (by omega) (by omega)]; omega
          · show IntKind.i64.wrap ((j : Int) + 1) ≤ _
            rw [wrap_id (by omega) (by omega)]; omega
        · exact ⟨_, rfl, rfl, .inr rfl⟩
      · rw [if_neg (c := decide ((n : Int) < 128) = true) (by simp; omega), if_pos (c := decide ((n : Int) ≥ 128) = true) (by simp; omega)]
        rw [wrap_succ (by omega)]
        exact ih k (i + 1) _ (by omega) (by omega) (by omega)
    · rw [if_pos (by simp; omega), if_neg ?_]
      · exact ⟨_, rfl, rfl, .inr rfl⟩
      · rw [IntKind.wrap_i64]
        simp only [Bool.and_eq_true, decide_eq_true_eq, not_and]
        omega
theorem getNum_same {p : List Int} {a : Int} (hb : Bytes p) (hp : p.length ≤ 1048576) (ha : I64 a) : ∃ r, spec_GetNum p a = some r ∧ impl_GetNum p a = some r ∧ ReadOk p a r := by
  unfold spec_GetNum impl_GetNum
  by_cases h0 : a < 0
  · rw [if_pos (by simpa using h0)]
    refine ⟨_, ?_, rfl, .inr rfl⟩
    obtain ⟨k, hk⟩ : ∃ k, Fuel = k + 1 := ⟨Fuel - 1, by have := fuel_gt (n := 1) (by omega); omega⟩
    rw [hk]
    unfold spec_GetNum_L1
    rw [if_pos (by simp), if_pos (by simp [h0])]
  · rw [if_neg (by simpa using h0)]
    exact getNum_L hb hp (by omega) ha.2 5 Fuel 0 0 (by omega) (fuel_gt (by omega)) (by omega)
theorem getInt_same {p : List Int} {a : Int} (hb : Bytes p) (hp : p.length ≤ 1048576) (ha : I64 a) : ∃ r, spec_GetInt p a = some r ∧ impl_GetInt p a = some r ∧ ReadOk p a r ∧ InR r.1 := by
  unfold spec_GetInt impl_GetInt
  obtain ⟨r, e1, e2, hr⟩ := getNum_same hb hp ha
  rw [e1, e2]
  simp only [Option.bind_some]
  have hJ : ∀ z, ∃ q, (if (!r.2.2) = true then some (0, 0, false) else spec_GetInt_J1 r z) = some q ∧ impl_GetInt_J1 r z = some q ∧ ReadOk p a q ∧ InR q.1 := by
    intro z
    unfold spec_GetInt_J1 impl_GetInt_J1 spec_l1In impl_within
    simp only [Option.bind_some]
    rcases hr with ⟨h1, h2, h3, h4⟩ | rfl
    · rw [h1]
      simp only [Bool.not_true, Bool.false_eq_true, if_false]
      by_cases hz : InR z
      · rw [in_t hz]
        exact ⟨_, rfl, rfl, .inl ⟨rfl, h2, h3, h4⟩, hz⟩
      · rw [in_f hz]
        exact ⟨_, rfl, rfl, .inr rfl, by decide⟩
    · exact ⟨_, rfl, rfl, .inr rfl, by decide⟩
  obtain ⟨q1, a1, a2, a3⟩ := hJ (IntKind.i64.wrap ((IntKind.i64.wrap (0 - (IntKind.i64.wrap (Int.tdiv r.1 2)))) - 1))
  obtain ⟨q2, b1, b2, b3⟩ := hJ (IntKind.i64.wrap (Int.tdiv r.1 2))
  cases hc : (Int.tmod r.1 2 == 1)
  · refine ⟨q2, ?_, by simpa using b2, b3⟩
    rw [← b1]; cases r.2.2 <;> simp
  · refine ⟨q1, ?_, by simpa using a2, a3⟩
    rw [← a1]; cases r.2.2 <;> simp

/-! ### readers -/
abbrev Pz (α : Type) := Int → Option (α × Int)
def Pz.many {α : Type} (P : Pz α) : Nat → Pz (List α)
  | 0, a => some ([], a)
  | n + 1, a => (P a).bind fun y => (many P n y.2).bind fun z => some (y.1 :: z.1, z.2)
def Pz.map {α β : Type} (f : α → β) (P : Pz α) : Pz β := fun a => (P a).map fun y => (f y.1, y.2)
/-- a reader reads on, and at least a byte for each thing -/
def Good {α : Type} (p : List Int) (P : Pz α) (sz : α → Nat) : Prop := ∀ a v b, I64 a → P a = some (v, b) → 0 ≤ a ∧ a + sz v ≤ b ∧ b ≤ p.length ∧ 1 ≤ sz v
def SpOk {α : Type} (op : Int → Option (α × Int × Bool)) (P : Pz α) (z : α) : Prop := ∀ a, I64 a → op a = some (match P a with | some (v, b) => (v, b, true) | none => (z, 0, false))
def RdOk {α : Type} (op : Timpl_reader → Option (α × Timpl_reader)) (P : Pz α) : Prop :=
  (∀ a, ∃ v a', op ⟨a, true⟩ = some (v, ⟨a', true⟩)) ∧ ∀ a, I64 a → (∀ v b, P a = some (v, b) → op ⟨a, false⟩ = some (v, ⟨b, false⟩)) ∧ (P a = none → ∃ v a', op ⟨a, false⟩ = some (v, ⟨a', true⟩))
theorem Good.i64 {α : Type} {p : List Int} {P : Pz α} {sz : α → Nat} (h : Good p P sz) (hp : p.length ≤ 1048576) {a b : Int} {v : α} (ha : I64 a) (e : P a = some (v, b)) : I64 b := by
  obtain ⟨h1, h2, h3, _⟩ := h a v b ha e
  exact ⟨by omega, by omega⟩
theorem many_good {α : Type} {p : List Int} {P : Pz α} {sz : α → Nat} (h : Good p P sz) (hp : p.length ≤ 1048576) : ∀ (n : Nat) (a : Int) (vs : List α) (b : Int), 0 ≤ a → a ≤ p.length → P.many n a = some (vs, b) → a + (vs.map sz).sum ≤ b ∧ b ≤ p.length ∧ vs.length = n ∧ n ≤ (vs.map sz).sum := by
  intro n
  induction n with
  | zero =>
    intro a vs b h0 h1 e
    obtain ⟨rfl, rfl⟩ := Prod.mk.inj (Option.some.inj e)
    exact ⟨by simp, h1, rfl, Nat.zero_le _⟩
  | succ n ih =>
    intro a vs b h0 h1 e
    unfold Pz.many at e
    cases hP : P a with
    | none => rw [hP] at e; simp at e
    | some y =>
      rw [hP] at e
      simp only [Option.bind_some] at e
      cases hm : P.many n y.2 with
      | none => rw [hm] at e; simp at e
      | some z =>
        rw [hm] at e
        obtain ⟨rfl, rfl⟩ := Prod.mk.inj (Option.some.inj e)
        obtain ⟨g1, g2, g3, g4⟩ := h a y.1 y.2 ⟨by omega, by omega⟩ hP
        obtain ⟨i1, i2, i3, i4⟩ := ih y.2 z.1 z.2 (by omega) g3 hm
        simp only [List.map_cons, List.sum_cons, List.length_cons]
        exact ⟨by omega, i2, by omega, by omega⟩
/-- the numbers -/
noncomputable def gI (p : List Int) : Pz Int := fun a => match spec_GetInt p a with
  | some (v, b, true) => some (v, b)
  | _ => none
section
variable {p : List Int} (hb : Bytes p) (hp : p.length ≤ 1048576)
include hb hp
theorem gI_cases {a : Int} (ha : I64 a) : (∃ v b, gI p a = some (v, b) ∧ spec_GetInt p a = some (v, b, true) ∧ impl_GetInt p a = some (v, b, true) ∧ 0 ≤ a ∧ a < b ∧ b ≤ p.length ∧ InR v) ∨ (gI p a = none ∧ spec_GetInt p a = some (0, 0, false) ∧ impl_GetInt p a = some (0, 0, false)) := by
  obtain ⟨⟨v, b, q⟩, h1, h2, h3, h4⟩ := getInt_same hb hp ha
  unfold gI
  rcases h3 with ⟨hq, h5, h6, h7⟩ | h3
  · obtain rfl : q = true := hq
    exact .inl ⟨v, b, by rw [h1], h1, h2, h5, h6, h7, h4⟩
  · rw [h3] at h1 h2
    exact .inr ⟨by rw [h1], h1, h2⟩
theorem gI_sp : SpOk (spec_GetInt p) (gI p) 0 := fun a ha => by
  rcases gI_cases hb hp ha with ⟨v, b, h1, h2, _⟩ | ⟨h1, h2, _⟩ <;> rw [h1, h2]
theorem gI_inr {a : Int} (ha : I64 a) {v b : Int} (h : gI p a = some (v, b)) : InR v := by
  rcases gI_cases hb hp ha with ⟨v', b', h1, _, _, _, _, _, h2⟩ | ⟨h1, _⟩
  · rw [h] at h1; obtain ⟨rfl, rfl⟩ := Prod.mk.inj (Option.some.inj h1); exact h2
  · rw [h] at h1; simp at h1
omit hb hp in
theorem rdInt_bad (a : Int) : impl_reader_int p ⟨a, true⟩ = some (0, ⟨a, true⟩) := rfl
theorem gI_rd : RdOk (impl_reader_int p) (gI p) := ⟨fun a => ⟨_, _, rfl⟩, fun a ha => by
  unfold impl_reader_int
  simp only [Bool.false_eq_true, if_false]
  rcases gI_cases hb hp ha with ⟨v, b, h1, _, h2, _⟩ | ⟨h1, _, h2⟩ <;> rw [h1, h2]
  · refine ⟨fun v' b' e => ?_, fun e => by simp at e⟩
    obtain ⟨rfl, rfl⟩ := Prod.mk.inj (Option.some.inj e)
    rfl
  · exact ⟨fun v' b' e => by simp at e, fun _ => ⟨_, _, rfl⟩⟩⟩
end
theorem gI_good {p : List Int} (hb : Bytes p) (hp : p.length ≤ 1048576) : Good p (gI p) (fun _ => 1) := fun a v b ha h => by
  rcases gI_cases hb hp ha with ⟨v', b', h1, _, _, h3, h4, h5, _⟩ | ⟨h1, _⟩
  · rw [h] at h1; obtain ⟨rfl, rfl⟩ := Prod.mk.inj (Option.some.inj h1); exact ⟨h3, by show a + ((1 : Nat) : Int) ≤ b; omega, h5, Nat.le_refl _⟩
  · rw [h] at h1; simp at h1
/-! ### loops of reads -/
theorem sp_many {α ρ : Type} {op : Int → Option (α × Int × Bool)} {P : Pz α} {z : α} {sz : α → Nat} {p : List Int} (hs : SpOk op P z) (hg : Good p P sz) (hp : p.length ≤ 1048576) {n : Int} (hn : n ≤ 1000000000)
    (Lp : Nat → List α → Int → Int → Option ρ) (fin : List α → Int → Option ρ) (bad : Option ρ)
    (step : ∀ k l i a, Lp (k + 1) l i a = if decide (i < n) then (op a).bind fun y => if (!y.2.2) then bad else (app l [y.1]).bind fun l' => Lp k l' (IntKind.i64.wrap (i + 1)) y.2.1 else fin l a) :
    ∀ (d k : Nat) (i a : Int) (l : List α), (n - i).toNat = d → d < k → 0 ≤ i → (l.length : Int) ≤ i → i ≤ 1000000000 → I64 a → Lp k l i a = match P.many d a with | some (vs, c) => fin (l ++ vs) c | none => bad := by
  intro d
  induction d with
  | zero =>
    intro k i a l hd hk hi hl hi2 ha
    obtain ⟨k, rfl⟩ : ∃ q, k = q + 1 := ⟨k - 1, by omega⟩
    rw [step, if_neg (by simp; omega)]
    simp [Pz.many]
  | succ d ih =>
    intro k i a l hd hk hi hl hi2 ha
    obtain ⟨k, rfl⟩ : ∃ q, k = q + 1 := ⟨k - 1, by omega⟩
    rw [step, if_pos (by simp; omega), hs a ha]
    simp only [Option.bind_some]
    unfold Pz.many
    cases h : P a with
    | none => rfl
    | some y =>
      obtain ⟨v, b⟩ := y
      simp only [Bool.not_true, Bool.false_eq_true, if_false, Option.bind_some]
      rw [app_eq (by simp; omega)]
      simp only [Option.bind_some]
      rw [wrap_id (by omega) (by omega), ih k (i + 1) b (l ++ [v]) (by omega) (by omega) (by omega) (by simp; omega) (by omega) (hg.i64 hp ha h)]
      cases P.many d b with
      | none => rfl
      | some q => simp
theorem rd_stop {α ρ : Type} {op : Timpl_reader → Option (α × Timpl_reader)}
    {Lp : Nat → Int → Bool → List α → Int → Option ρ} {fin : List α → Timpl_reader → Option ρ}
    (step : ∀ k a q l n, Lp (k + 1) a q l n = if (decide (n > 0)) && !q then (op ⟨a, q⟩).bind fun y => (app l [y.1]).bind fun l' => Lp k y.2.at_ y.2.bad_ l' (IntKind.i64.wrap (n - 1)) else fin l ⟨a, q⟩)
    {k : Nat} (hk : 0 < k) (a : Int) (l : List α) (n : Int) : Lp k a true l n = fin l ⟨a, true⟩ := by
  obtain ⟨k, rfl⟩ : ∃ q, k = q + 1 := ⟨k - 1, by omega⟩
  rw [step, if_neg (by simp)]
theorem rd_many {α ρ : Type} {op : Timpl_reader → Option (α × Timpl_reader)} {P : Pz α} {sz : α → Nat} {p : List Int} (hr : RdOk op P) (hg : Good p P sz) (hp : p.length ≤ 1048576)
    (Lp : Nat → Int → Bool → List α → Int → Option ρ) (fin : List α → Timpl_reader → Option ρ)
    (step : ∀ k a q l n, Lp (k + 1) a q l n = if (decide (n > 0)) && !q then (op ⟨a, q⟩).bind fun y => (app l [y.1]).bind fun l' => Lp k y.2.at_ y.2.bad_ l' (IntKind.i64.wrap (n - 1)) else fin l ⟨a, q⟩) :
    ∀ (d k : Nat) (n a : Int) (l : List α), n.toNat = d → d + 1 < k → n ≤ 1000000000 → 0 ≤ n → l.length + d ≤ 1000000000 → I64 a →
      (∀ vs c, P.many d a = some (vs, c) → Lp k a false l n = fin (l ++ vs) ⟨c, false⟩) ∧ (P.many d a = none → ∃ l' a', Lp k a false l n = fin l' ⟨a', true⟩) := by
  intro d
  induction d with
  | zero =>
    intro k n a l hd hk hn hn0 hl ha
    obtain ⟨k, rfl⟩ : ∃ q, k = q + 1 := ⟨k - 1, by omega⟩
    rw [step, if_neg (by simp; omega)]
    refine ⟨fun vs c e => ?_, fun e => by simp [Pz.many] at e⟩
    obtain ⟨rfl, rfl⟩ := Prod.mk.inj (Option.some.inj e)
    simp
  | succ d ih =>
    intro k n a l hd hk hn hn0 hl ha
    obtain ⟨k, rfl⟩ : ∃ q, k = q + 1 := ⟨k - 1, by omega⟩
    rw [step, if_pos (by simp; omega)]
    unfold Pz.many
    cases h : P a with
    | none =>
      refine ⟨fun vs c e => by simp at e, fun _ => ?_⟩
      obtain ⟨v, a', e⟩ := (hr.2 a ha).2 h
      rw [e]
      simp only [Option.bind_some]
      rw [app_eq (by simp; omega)]
      simp only [Option.bind_some]
      exact ⟨_, _, rd_stop step (by omega) _ _ _⟩
    | some y =>
      obtain ⟨v, b⟩ := y
      rw [(hr.2 a ha).1 v b h]
      simp only [Option.bind_some]
      rw [app_eq (by simp; omega)]
      simp only [Option.bind_some]
      rw [wrap_id (by omega) (by omega)]
      obtain ⟨i1, i2⟩ := ih k (n - 1) b (l ++ [v]) (by omega) (by omega) (by omega) (by omega) (by simp; omega) (hg.i64 hp ha h)
      refine ⟨fun vs c e => ?_, fun e => ?_⟩
      · cases hm : P.many d b with
        | none => rw [hm] at e; simp at e
        | some q =>
          rw [hm] at e
          obtain ⟨rfl, rfl⟩ := Prod.mk.inj (Option.some.inj e)
          rw [i1 q.1 q.2 hm]
          simp
      · cases hm : P.many d b with
        | none => exact i2 hm
        | some q => rw [hm] at e; simp at e
/-- how many follow -/
noncomputable def cI (p : List Int) : Pz Int := fun a => (gI p a).bind fun y => if y.1 < 0 ∨ (p.length : Int) - y.2 < y.1 then none else some y
/-- a count and as many things -/
noncomputable def listOf {α : Type} (p : List Int) (P : Pz α) : Pz (List α) := fun a => (gI p a).bind fun y => if y.1 < 0 then none else P.many y.1.toNat y.2
section
variable {p : List Int} (hb : Bytes p) (hp : p.length ≤ 1048576)
include hb hp
omit hb hp in
theorem cI_some {a n b : Int} (h : cI p a = some (n, b)) : gI p a = some (n, b) ∧ 0 ≤ n ∧ n ≤ p.length - b := by
  unfold cI at h
  cases hg : gI p a with
  | none => rw [hg] at h; simp at h
  | some y =>
    rw [hg] at h
    simp only [Option.bind_some] at h
    split at h
    · simp at h
    · rename_i hc
      obtain rfl := Option.some.inj h
      exact ⟨rfl, by omega, by omega⟩
theorem list_eq {α : Type} {P : Pz α} {sz : α → Nat} (hg : Good p P sz) {a : Int} (ha : I64 a) : listOf p P a = (cI p a).bind fun y => P.many y.1.toNat y.2 := by
  unfold listOf cI
  cases h : gI p a with
  | none => rfl
  | some y =>
    obtain ⟨g1, g2, g3, _⟩ := gI_good hb hp a y.1 y.2 ha h
    simp only [Option.bind_some]
    by_cases h1 : y.1 < 0
    · rw [if_pos h1, if_pos (.inl h1)]; rfl
    · rw [if_neg h1]
      by_cases h2 : (p.length : Int) - y.2 < y.1
      · rw [if_pos (.inr h2)]
        cases hm : P.many y.1.toNat y.2 with
        | none => rfl
        | some q =>
          obtain ⟨i1, i2, i3, i4⟩ := many_good hg hp _ _ q.1 q.2 (by omega) g3 hm
          exfalso; omega
      · rw [if_neg (by omega)]; rfl
theorem list_good {α : Type} {P : Pz α} {sz : α → Nat} (hg : Good p P sz) : Good p (listOf p P) (fun vs => 1 + (vs.map sz).sum) := fun a vs b ha h => by
  unfold listOf at h
  cases hG : gI p a with
  | none => rw [hG] at h; simp at h
  | some y =>
    rw [hG] at h
    simp only [Option.bind_some] at h
    obtain ⟨g1, g2, g3, _⟩ := gI_good hb hp a y.1 y.2 ha hG
    have g2' : a + ((1 : Nat) : Int) ≤ y.2 := g2
    split at h
    · simp at h
    · obtain ⟨i1, i2, i3, i4⟩ := many_good hg hp _ _ vs b (by omega) g3 h
      exact ⟨g1, by show a + ((1 + (vs.map sz).sum : Nat) : Int) ≤ b; omega, i2, by show 1 ≤ 1 + (vs.map sz).sum; omega⟩
theorem count_rd : RdOk (impl_reader_count p) (cI p) := ⟨fun a => by
  unfold impl_reader_count
  rw [rdInt_bad]
  simp only [Option.bind_some]
  split <;> exact ⟨_, _, rfl⟩, fun a ha => by
  unfold impl_reader_count cI
  have hr := (gI_rd hb hp).2 a ha
  cases h : gI p a with
  | none =>
    obtain ⟨v, a', e⟩ := hr.2 h
    rw [e]
    simp only [Option.bind_some]
    refine ⟨fun v b e => by simp at e, fun _ => ?_⟩
    split <;> exact ⟨_, _, rfl⟩
  | some y =>
    obtain ⟨n, b⟩ := y
    obtain ⟨g1, g2, g3, _⟩ := gI_good hb hp a n b ha h
    rw [hr.1 n b h]
    simp only [Option.bind_some]
    rw [wrap_id (n := (p.length : Int) - b) (by omega) (by omega)]
    by_cases hc : n < 0 ∨ (p.length : Int) - b < n
    · rw [if_pos hc]
      exact ⟨fun v b e => by simp at e, fun _ => ⟨0, b, if_pos (by simp; omega)⟩⟩
    · rw [if_neg hc, if_neg (by simp; omega)]
      refine ⟨fun v' b' e => ?_, fun e => by simp at e⟩
      obtain ⟨rfl, rfl⟩ := Prod.mk.inj (Option.some.inj e)
      rfl⟩
end
end Go.Vk
