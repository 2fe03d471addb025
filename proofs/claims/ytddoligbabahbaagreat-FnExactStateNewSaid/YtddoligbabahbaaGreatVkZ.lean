/- Marks, step by step. No program in sight. -/
import Derived.Test.YtddoligbabahbaaGreatVkX
namespace Go.Vk
theorem nat_neg (m : Nat) : ((m : Int) < 0) = False := by simp
theorem sum_ones' {α : Type} (p : List α) : (p.map fun _ => 1).sum = p.length := by induction p with | nil => rfl | cons x p ih => simp [ih]; omega
theorem sum_zero {α : Type} (p : List α) : (p.map fun _ => 0).sum = 0 := by induction p with | nil => rfl | cons x p ih => simp [ih]
theorem sum_le16 {α : Type} {f g : α → Nat} {p : List α} (h : ∀ y ∈ p, f y ≤ 16 * (1 + g y)) : (p.map f).sum ≤ 16 * (p.length + (p.map g).sum) := by
  induction p with
  | nil => simp
  | cons x p ih =>
    have h1 := h x (by simp)
    have h2 := ih (fun y hy => h y (by simp [hy]))
    simp only [List.map_cons, List.sum_cons, List.length_cons]
    omega
theorem marks_loop2 {α : Type} {p : List α} {c : α → Nat} (Lm : Nat → List α → Int → Int → Option (Int × List α)) (Lh : List α → Nat → Int → Int → Option Int)
    (zm : ∀ k l m i, ¬ (decide (i < (p.length : Int)) = true) → Lm (k + 1) l m i = some (m, l))
    (zh : ∀ (q : List α) k m i, ¬ (decide (i < (q.length : Int)) = true) → Lh q (k + 1) m i = some m)
    (hp : p.length < 1000000000000)
    (hM : ∀ x ∈ p, ∀ m : Nat, m + c x < 4611686018427387904 → ∃ (m' : Nat) (x' : α),
      (∀ k l i, decide (i < (p.length : Int)) = true → idx l i = some x → Lm (k + 1) l (m : Int) i = Lm k (l.set i.toNat x') (m' : Int) (IntKind.i64.wrap (i + 1))) ∧
      (∀ (q : List α) k i, decide (i < (q.length : Int)) = true → idx q i = some x' → Lh q (k + 1) (m : Int) i = Lh q k (m' : Int) (IntKind.i64.wrap (i + 1))) ∧ m ≤ m' ∧ m' ≤ m + c x) :
    Marks (fun p m => Lm Fuel p m 0) (fun q m => Lh q Fuel m 0) ((p.map c).sum) p := by
  have key : ∀ (d i : Nat) (l : List α) (m : Nat), p.length - i = d → i ≤ p.length → l.length = p.length → l.drop i = p.drop i → m + ((p.drop i).map c).sum < 4611686018427387904 →
      ∃ (m' : Nat) (l' : List α), (∀ k, d < k → Lm k l (m : Int) (i : Int) = some ((m' : Int), l')) ∧ (∀ k, d < k → Lh l' k (m : Int) (i : Int) = some (m' : Int)) ∧ m ≤ m' ∧ m' ≤ m + ((p.drop i).map c).sum ∧ l'.length = p.length ∧ l'.take i = l.take i := by
    intro d
    induction d with
    | zero =>
      intro i l m hd hi hl hdr hm
      refine ⟨m, l, fun k hk => ?_, fun k hk => ?_, by omega, by omega, hl, rfl⟩
      · obtain ⟨k, rfl⟩ : ∃ q, k = q + 1 := ⟨k - 1, by omega⟩
        rw [zm _ _ _ _ (by simp; omega)]
      · obtain ⟨k, rfl⟩ : ∃ q, k = q + 1 := ⟨k - 1, by omega⟩
        rw [zh _ _ _ _ (by simp; omega)]
    | succ d ih =>
      intro i l m hd hi hl hdr hm
      have hlt : i < p.length := by omega
      have hli : l[i]'(by omega) = p[i] := by
        have h1 : (l.drop i)[0]? = (p.drop i)[0]? := by rw [hdr]
        rw [List.getElem?_drop, List.getElem?_drop, Nat.add_zero, List.getElem?_eq_getElem (by omega), List.getElem?_eq_getElem hlt] at h1
        exact Option.some.inj h1
      have hsum : ((p.drop i).map c).sum = c p[i] + ((p.drop (i + 1)).map c).sum := by rw [List.drop_eq_getElem_cons hlt, List.map_cons, List.sum_cons]
      obtain ⟨m1, x', hm1, hh1, h2, h3⟩ := hM _ (List.getElem_mem hlt) m (by omega)
      obtain ⟨m', l', k1, k2, k3, k4, k5, k6⟩ := ih (i + 1) (l.set i x') m1 (by omega) (by omega) (by simp [hl]) (by
        rw [List.drop_set_of_lt (by omega)]
        have := congrArg (List.drop 1) hdr
        simpa [List.drop_drop, Nat.add_comm 1 i] using this) (by omega)
      have hl'i : l'[i]'(by omega) = x' := by
        have h4 := congrArg (fun q => q[i]?) k6
        simp only [List.getElem?_take, show i < i + 1 by omega, if_true, List.getElem?_set_self (show i < l.length by omega)] at h4
        rw [List.getElem?_eq_getElem (by omega)] at h4
        exact Option.some.inj h4
      refine ⟨m', l', fun k hk => ?_, fun k hk => ?_, by omega, by omega, k5, ?_⟩
      · obtain ⟨k, rfl⟩ : ∃ q, k = q + 1 := ⟨k - 1, by omega⟩
        rw [hm1 k l i (by simp; omega) (by rw [idx_lt (by omega : i < l.length), hli]), wrap_succ (by omega)]
        exact k1 k (by omega)
      · obtain ⟨k, rfl⟩ : ∃ q, k = q + 1 := ⟨k - 1, by omega⟩
        rw [hh1 l' k i (by simp; omega) (by rw [idx_lt (by omega : i < l'.length), hl'i]), wrap_succ (by omega)]
        exact k2 k (by omega)
      · have := congrArg (List.take i) k6
        simpa [List.take_take, List.take_set_of_le] using this
  intro m hm
  have hs : ((p.drop 0).map c).sum = (p.map c).sum := by simp
  obtain ⟨m', l', k1, k2, k3, k4, k5, _⟩ := key p.length 0 p m (by omega) (by omega) rfl rfl (by omega)
  exact ⟨m', l', k1 Fuel (fuel_gt (by omega)), k2 Fuel (fuel_gt (by omega)), k3, by omega⟩
end Go.Vk
namespace Go.Vk
/-- marked (nobody looks whether it is found so) -/
def MarksM {α : Type} (Mk : α → Int → Option (Int × α)) (c : Nat) (x : α) : Prop :=
  ∀ m : Nat, m + c < 4611686018427387904 → ∃ (m' : Nat) (x' : α), Mk x (m : Int) = some ((m' : Int), x') ∧ m ≤ m' ∧ m' ≤ m + c
theorem markM_loop {α : Type} {p : List α} {c : α → Nat} (Lm : Nat → List α → Int → Int → Option (Int × List α))
    (zm : ∀ k l m i, ¬ (decide (i < (p.length : Int)) = true) → Lm (k + 1) l m i = some (m, l))
    (hp : p.length < 1000000000000)
    (hM : ∀ x ∈ p, ∀ m : Nat, m + c x < 4611686018427387904 → ∃ (m' : Nat) (x' : α),
      (∀ k l i, decide (i < (p.length : Int)) = true → idx l i = some x → Lm (k + 1) l (m : Int) i = Lm k (l.set i.toNat x') (m' : Int) (IntKind.i64.wrap (i + 1))) ∧ m ≤ m' ∧ m' ≤ m + c x) :
    MarksM (fun p m => Lm Fuel p m 0) ((p.map c).sum) p := by
  have key : ∀ (d i : Nat) (l : List α) (m : Nat), p.length - i = d → i ≤ p.length → l.length = p.length → l.drop i = p.drop i → m + ((p.drop i).map c).sum < 4611686018427387904 →
      ∃ (m' : Nat) (l' : List α), (∀ k, d < k → Lm k l (m : Int) (i : Int) = some ((m' : Int), l')) ∧ m ≤ m' ∧ m' ≤ m + ((p.drop i).map c).sum := by
    intro d
    induction d with
    | zero =>
      intro i l m hd hi hl hdr hm
      refine ⟨m, l, fun k hk => ?_, by omega, by omega⟩
      obtain ⟨k, rfl⟩ : ∃ q, k = q + 1 := ⟨k - 1, by omega⟩
      rw [zm _ _ _ _ (by simp; omega)]
    | succ d ih =>
      intro i l m hd hi hl hdr hm
      have hlt : i < p.length := by omega
      have hli : l[i]'(by omega) = p[i] := by
        have h1 : (l.drop i)[0]? = (p.drop i)[0]? := by rw [hdr]
        rw [List.getElem?_drop, List.getElem?_drop, Nat.add_zero, List.getElem?_eq_getElem (by omega), List.getElem?_eq_getElem hlt] at h1
        exact Option.some.inj h1
      have hsum : ((p.drop i).map c).sum = c p[i] + ((p.drop (i + 1)).map c).sum := by rw [List.drop_eq_getElem_cons hlt, List.map_cons, List.sum_cons]
      obtain ⟨m1, x', hm1, h2, h3⟩ := hM _ (List.getElem_mem hlt) m (by omega)
      obtain ⟨m', l', k1, k3, k4⟩ := ih (i + 1) (l.set i x') m1 (by omega) (by omega) (by simp [hl]) (by
        rw [List.drop_set_of_lt (by omega)]
        have := congrArg (List.drop 1) hdr
        simpa [List.drop_drop, Nat.add_comm 1 i] using this) (by omega)
      refine ⟨m', l', fun k hk => ?_, by omega, by omega⟩
      obtain ⟨k, rfl⟩ : ∃ q, k = q + 1 := ⟨k - 1, by omega⟩
      rw [hm1 k l i (by simp; omega) (by rw [idx_lt (by omega : i < l.length), hli]), wrap_succ (by omega)]
      exact k1 k (by omega)
  intro m hm
  have hs : ((p.drop 0).map c).sum = (p.map c).sum := by simp
  obtain ⟨m', l', k1, k3, k4⟩ := key p.length 0 p m (by omega) (by omega) rfl rfl (by omega)
  exact ⟨m', l', k1 Fuel (fuel_gt (by omega)), k3, by omega⟩
end Go.Vk
