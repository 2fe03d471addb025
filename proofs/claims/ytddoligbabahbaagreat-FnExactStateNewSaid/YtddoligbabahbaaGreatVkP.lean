/- Plain laws of the loops that copy, compare, mark and weigh. No program in sight. -/
import Derived.Test.YtddoligbabahbaaGreatVkN
import Derived.IntWalk
namespace Go.Vk
theorem wrap_id {n : Int} (h0 : -9223372036854775808 ≤ n) (h1 : n ≤ 9223372036854775807) : IntKind.i64.wrap n = n := IntWalk.i64_in n ⟨h0, h1⟩
theorem wrap_nat {n : Nat} (h : n < 9223372036854775808) : IntKind.i64.wrap (n : Int) = n := wrap_id (by omega) (by omega)
theorem wrap_succ {i : Nat} (h : i < 9223372036854775807) : IntKind.i64.wrap ((i : Int) + 1) = ((i + 1 : Nat) : Int) := by rw [wrap_id (by omega) (by omega)]; simp
theorem idx_lt {α : Type} {xs : List α} {i : Nat} (h : i < xs.length) : idx xs (i : Int) = some xs[i] := by simp [idx, h]
theorem app_eq {α : Type} {xs ys : List α} (h : xs.length + ys.length ≤ 68719476736) : app xs ys = some (xs ++ ys) := if_pos h
theorem tdiv_nat (a b : Nat) : Int.tdiv (a : Int) (b : Int) = ((a / b : Nat) : Int) := by rw [Int.tdiv_eq_ediv_of_nonneg (by omega)]; simp
theorem mk_eq {α : Type} (z : α) {n : Nat} (h : n ≤ 68719476736) : mk z (n : Int) = some (List.replicate n z) := by
  unfold mk; rw [if_pos (by omega)]; simp
/-! ### copied -/
theorem copy_loop {α β : Type} {F : α → Option β} {g : α → β} {p : List α} (Lp : Nat → List β → Int → Option (List β))
    (step : ∀ k l i, Lp (k + 1) l i = if decide (i < (p.length : Int)) then (idx p i).bind fun e => (F e).bind fun y => (idx l i).bind fun _ => Lp k (l.set i.toNat y) (IntKind.i64.wrap (i + 1)) else some l)
    (hp : p.length < 1000000000000) (hF : ∀ x ∈ p, F x = some (g x)) (z : β) : Lp Fuel (List.replicate p.length z) 0 = some (p.map g) := by
  have key : ∀ (d k i : Nat) (l : List β), p.length - i = d → d < k → i ≤ p.length → l.length = p.length → l.take i = (p.map g).take i → Lp k l (i : Int) = some (p.map g) := by
    intro d
    induction d with
    | zero =>
      intro k i l hd hk hi hl ht
      obtain ⟨k, rfl⟩ : ∃ q, k = q + 1 := ⟨k - 1, by omega⟩
      rw [step, if_neg (by simp; omega)]
      have : i = p.length := by omega
      subst this
      rw [List.take_of_length_le (by omega), List.take_of_length_le (by simp)] at ht
      rw [ht]
    | succ d ih =>
      intro k i l hd hk hi hl ht
      obtain ⟨k, rfl⟩ : ∃ q, k = q + 1 := ⟨k - 1, by omega⟩
      have hlt : i < p.length := by omega
      rw [step, if_pos (by simp; omega), idx_lt hlt]
      simp only [Option.bind_some]
      rw [hF _ (List.getElem_mem hlt)]
      simp only [Option.bind_some]
      rw [idx_lt (by omega : i < l.length)]
      simp only [Option.bind_some]
      rw [wrap_succ (by omega)]
      refine ih k (i + 1) _ (by omega) (by omega) (by omega) (by simp [hl]) ?_
      apply List.ext_getElem?
      intro j
      have hj : (l.take i)[j]? = ((p.map g).take i)[j]? := by rw [ht]
      simp only [List.getElem?_take, List.getElem?_set, Int.toNat_natCast, List.getElem?_map] at hj ⊢
      by_cases c1 : j < i
      · simp only [c1, if_true] at hj
        simp [show j < i + 1 by omega, show ¬ i = j by omega, hj]
      · by_cases c2 : i = j
        · subst c2; simp [show i < l.length by omega, hlt]
        · simp [show ¬ j < i + 1 by omega]
  exact key p.length Fuel 0 _ (by omega) (fuel_gt (by omega)) (by omega) (by simp) (by simp)
/-! ### compared with itself -/
theorem same_loop {α : Type} {p : List α} (Lp : Nat → Int → Option Bool) (G : α → Option Bool → Option Bool)
    (step : ∀ k i, Lp (k + 1) i = if decide (i < (p.length : Int)) then (idx p i).bind fun e => G e (Lp k (IntKind.i64.wrap (i + 1))) else some true)
    (hp : p.length < 1000000000000) (hG : ∀ x ∈ p, ∀ o, G x o = o) : Lp Fuel 0 = some true := by
  have key : ∀ (d k i : Nat), p.length - i = d → d < k → i ≤ p.length → Lp k (i : Int) = some true := by
    intro d
    induction d with
    | zero =>
      intro k i hd hk hi
      obtain ⟨k, rfl⟩ : ∃ q, k = q + 1 := ⟨k - 1, by omega⟩
      rw [step, if_neg (by simp; omega)]
    | succ d ih =>
      intro k i hd hk hi
      obtain ⟨k, rfl⟩ : ∃ q, k = q + 1 := ⟨k - 1, by omega⟩
      have hlt : i < p.length := by omega
      rw [step, if_pos (by simp; omega), idx_lt hlt]
      simp only [Option.bind_some]
      rw [hG _ (List.getElem_mem hlt), wrap_succ (by omega)]
      exact ih k (i + 1) (by omega) (by omega) (by omega)
  exact key p.length Fuel 0 (by omega) (fuel_gt (by omega)) (by omega)
/-- an element marked: the number behind it and what it is then -/
def Marks {α : Type} (Mk : α → Int → Option (Int × α)) (Hd : α → Int → Option Int) (c : Nat) (x : α) : Prop :=
  ∀ m : Nat, m + c < 4611686018427387904 → ∃ (m' : Nat) (x' : α), Mk x (m : Int) = some ((m' : Int), x') ∧ Hd x' (m : Int) = some (m' : Int) ∧ m ≤ m' ∧ m' ≤ m + c
/-! ### weighed -/
/-- what is left, or less than nothing -/
def Weighs {α : Type} (Z : α → Int → Option Int) (size : α → Nat) (x : α) : Prop :=
  ∀ s : Nat, s ≤ 1048576 → ∃ r, Z x (s : Int) = some r ∧ ((r < 0 ∧ s < size x) ∨ (size x ≤ s ∧ r = ((s - size x : Nat) : Int)))
theorem weigh_loop {α : Type} {p : List α} {Z : α → Int → Option Int} {size : α → Nat} (Lp : Nat → Int → Int → Option Int)
    (step : ∀ k s i, Lp (k + 1) s i = if decide (i < (p.length : Int)) then (idx p i).bind fun e => (Z e s).bind fun y => if decide (y < 0) then some (-1) else Lp k y (IntKind.i64.wrap (i + 1)) else some s)
    (hp : p.length ≤ 1048576) (hZ : ∀ x ∈ p, Weighs Z size x) : ∀ s : Nat, s ≤ 1048576 → ∃ r, Lp Fuel (s : Int) 0 = some r ∧ ((r < 0 ∧ s < (p.map size).sum) ∨ ((p.map size).sum ≤ s ∧ r = ((s - (p.map size).sum : Nat) : Int))) := by
  have key : ∀ (d k i s : Nat), p.length - i = d → d < k → i ≤ p.length → s ≤ 1048576 → ∃ r, Lp k (s : Int) (i : Int) = some r ∧ ((r < 0 ∧ s < ((p.drop i).map size).sum) ∨ (((p.drop i).map size).sum ≤ s ∧ r = ((s - ((p.drop i).map size).sum : Nat) : Int))) := by
    intro d
    induction d with
    | zero =>
      intro k i s hd hk hi hs
      obtain ⟨k, rfl⟩ : ∃ q, k = q + 1 := ⟨k - 1, by omega⟩
      rw [step, if_neg (by simp; omega), List.drop_of_length_le (by omega)]
      exact ⟨_, rfl, .inr (by simp)⟩
    | succ d ih =>
      intro k i s hd hk hi hs
      obtain ⟨k, rfl⟩ : ∃ q, k = q + 1 := ⟨k - 1, by omega⟩
      have hlt : i < p.length := by omega
      rw [step, if_pos (by simp; omega), idx_lt hlt]
      simp only [Option.bind_some]
      have hsum : ((p.drop i).map size).sum = size p[i] + ((p.drop (i + 1)).map size).sum := by rw [List.drop_eq_getElem_cons hlt, List.map_cons, List.sum_cons]
      obtain ⟨r, h1, h2⟩ := hZ _ (List.getElem_mem hlt) s hs
      rw [h1]
      simp only [Option.bind_some]
      rcases h2 with ⟨h2, h3⟩ | ⟨h2, rfl⟩
      · rw [if_pos (by simpa using h2)]
        exact ⟨_, rfl, .inl ⟨by omega, by omega⟩⟩
      · rw [if_neg (by simp), wrap_succ (by omega)]
        obtain ⟨r', h4, h5⟩ := ih k (i + 1) (s - size p[i]) (by omega) (by omega) (by omega) (by omega)
        refine ⟨r', h4, ?_⟩
        rcases h5 with ⟨h5, h6⟩ | ⟨h5, h6⟩
        · exact .inl ⟨h5, by omega⟩
        · exact .inr ⟨by omega, by rw [h6]; congr 1; omega⟩
  intro s hs
  have := key p.length Fuel 0 s (by omega) (fuel_gt (by omega)) (by omega) hs
  simpa using this
theorem weigh_list {α : Type} {p : List α} : ∀ s : Nat, s ≤ 1048576 → ∃ r, (if decide ((IntKind.i64.wrap ((s : Int) - (p.length : Int))) < 0) then some (-1) else some (IntKind.i64.wrap ((s : Int) - (p.length : Int)))) = some r ∧ (p.length < 9223372036854775808 → (r < 0 ∧ s < p.length) ∨ (p.length ≤ s ∧ r = ((s - p.length : Nat) : Int))) := by
  intro s hs
  by_cases h : p.length < 9223372036854775808
  · rw [wrap_id (by omega) (by omega)]
    by_cases h1 : s < p.length
    · rw [if_pos (by simp; omega)]; exact ⟨_, rfl, fun _ => .inl ⟨by omega, h1⟩⟩
    · rw [if_neg (by simp; omega)]; exact ⟨_, rfl, fun _ => .inr ⟨by omega, by omega⟩⟩
  · split
    · exact ⟨_, rfl, fun h' => absurd h' h⟩
    · exact ⟨_, rfl, fun h' => absurd h' h⟩
end Go.Vk
