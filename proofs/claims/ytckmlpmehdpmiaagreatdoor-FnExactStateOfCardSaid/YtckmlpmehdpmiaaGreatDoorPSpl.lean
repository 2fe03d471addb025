/- Texts split and joined, numbers read: no program in sight. -/
import Derived.Test.YtckmlpmehdpmiaaGreatDoorVkBr
import Derived.Lib.ItoaLen
import Derived.Lib.AtoiAllCases
import Derived.Lib.IndexMore
namespace Go.Vk
open Go.Proofs
def fb (c : UInt8) : List UInt8 → List (List UInt8)
  | [] => [[]]
  | x :: r => if x = c then [] :: fb c r else match fb c r with
    | [] => [[x]]
    | h :: t => (x :: h) :: t
theorem qg {c : UInt8} {w r : List UInt8} (h : c ∉ w) : fb c (w ++ c :: r) = w :: fb c r := by
  induction w with
  | nil => simp [fb]
  | cons x w ih =>
    have h1 : ¬ x = c := fun e => h (by simp [e])
    rw [List.cons_append, fb, if_neg h1, ih (fun g => h (by simp [g]))]
theorem oE {c : UInt8} {w : List UInt8} (h : c ∉ w) : fb c w = [w] := by
  induction w with
  | nil => rfl
  | cons x w ih =>
    have h1 : ¬ x = c := fun e => h (by simp [e])
    rw [fb, if_neg h1, ih (fun g => h (by simp [g]))]
theorem qR {c : UInt8} : ∀ {ws : List (List UInt8)}, ws ≠ [] → (∀ w ∈ ws, c ∉ w) → fb c (Lib.join ws [c]) = ws
  | [], h, _ => absurd rfl h
  | [w], _, h => by rw [Lib.join_one, oE (h w (by simp))]
  | w :: v :: r, _, h => by
    have e : Lib.join (w :: v :: r) [c] = w ++ c :: Lib.join (v :: r) [c] := by
      rw [Lib.join_cons, Lib.join_cons]
      simp [Lib.joinTail]
    rw [e, qg (h w (by simp)), qR (by simp) (fun x a => h x (by simp [a]))]
theorem Lj {x : UInt8} {sep : List UInt8} {ws : List (List UInt8)} (h : x ∈ Lib.join ws sep) : x ∈ sep ∨ ∃ w ∈ ws, x ∈ w := by
  cases ws with
  | nil => simp [Lib.join_nil] at h
  | cons w r =>
    rw [Lib.join_cons] at h
    rcases List.mem_append.1 h with h | h
    · exact .inr ⟨w, by simp, h⟩
    · unfold Lib.joinTail at h
      obtain ⟨l, c, a⟩ := List.mem_flatten.1 h
      obtain ⟨v, d, rfl⟩ := List.mem_map.1 c
      rcases List.mem_append.1 a with a | a
      · exact .inl a
      · exact .inr ⟨v, by simp [d], a⟩
theorem Ic {c : UInt8} {w r : List UInt8} (h : c ∉ w) : Lib.index (w ++ c :: r) [c] = (w.length : Int) := by
  induction w with
  | nil => simp [Lib.index]
  | cons x w ih =>
    have h1 : ¬ c = x := fun e => h (by simp [e])
    rw [List.cons_append, Lib.index, ih (fun g => h (by simp [g]))]
    have a : ([c].isPrefixOf (x :: (w ++ c :: r))) = false := by simp [List.isPrefixOf, h1]
    have d : ((w.length : Int) == -1) = false := by rw [beq_eq_false_iff_ne]; omega
    rw [a, d]
    simp
theorem FM {c : UInt8} {w : List UInt8} (h : c ∉ w) : Lib.index w [c] = -1 := by
  induction w with
  | nil => simp [Lib.index]
  | cons x w ih =>
    have h1 : ¬ c = x := fun e => h (by simp [e])
    rw [Lib.index, ih (fun g => h (by simp [g]))]
    have a : ([c].isPrefixOf (x :: w)) = false := by simp [List.isPrefixOf, h1]
    rw [a]
    simp
theorem Cn {c : UInt8} {w r : List UInt8} (h : c ∉ w) : Lib.cut (w ++ c :: r) [c] = (w, r, true) := by
  unfold Lib.cut
  rw [Ic h, if_pos (by omega)]
  simp [List.drop_append]
theorem Kq {c : UInt8} {w : List UInt8} (h : c ∉ w) : Lib.cut w [c] = (w, [], false) := by
  unfold Lib.cut
  rw [FM h, if_neg (by omega)]
theorem rH {d : Nat} (h : d < 10) : (UInt8.ofNat (48 + d)).toNat = 48 + d := by
  simp; omega
theorem Ep : ∀ (u : Nat) (r : List UInt8), u < 1000000000 → Lib.parseUint10 0 (Lib.decDigits u ++ r) = Lib.parseUint10 u r
  | u, r, h => by
    by_cases h1 : u < 10
    · rw [Lib.decDigits_one h1, List.cons_append, List.nil_append, Lib.parseUint10, rH h1, if_pos (by omega), if_neg (by omega), if_neg (by omega)]
      congr 1
      omega
    · have a : u % 10 < 10 := Nat.mod_lt _ (by omega)
      rw [Lib.decDigits.eq_def u, dif_neg h1, List.append_assoc, Ep (u / 10) _ (by omega), List.cons_append, List.nil_append, Lib.parseUint10, rH a, if_pos (by omega), if_neg (by omega), if_neg (by omega)]
      congr 1
      omega
termination_by u => u
theorem pG (u : Nat) : Lib.decDigits u ≠ [] := by
  by_cases h1 : u < 10
  · rw [Lib.decDigits_one h1]; simp
  · rw [Lib.decDigits.eq_def u, dif_neg h1]; simp
theorem mp : ∀ (u : Nat), ∀ x ∈ Lib.decDigits u, 48 ≤ x.toNat ∧ x.toNat ≤ 57
  | u => by
    by_cases h1 : u < 10
    · intro x a
      rw [Lib.decDigits_one h1, List.mem_singleton] at a
      rw [a, rH h1]; omega
    · intro x a
      have c : u % 10 < 10 := Nat.mod_lt _ (by omega)
      rw [Lib.decDigits.eq_def u, dif_neg h1] at a
      rcases List.mem_append.1 a with a | a
      · exact mp (u / 10) x a
      · rw [List.mem_singleton] at a
        rw [a, rH c]; omega
termination_by u => u
theorem Jq {u : Nat} (h : u < 1000000000) : Lib.parseMag (Lib.decDigits u) = .ok u := by
  unfold Lib.parseMag
  rw [if_neg (pG u)]
  have := Ep u [] h
  rw [List.append_nil] at this
  rw [this]; rfl
theorem Kh {n : Int} (h : -99999999 ≤ n ∧ n ≤ 99999999) : Lib.atoiAll (Lib.itoa n) = .ok n := by
  unfold Lib.itoa
  by_cases a : n < 0
  · rw [if_pos a, Lib.atoiAll_minus, Jq (by omega)]
    simp only [Lib.signed]
    rw [if_neg (by omega)]
    congr 1
    omega
  · rw [if_neg a]
    have d := mp n.toNat
    have e := Jq (u := n.toNat) (by omega)
    cases f : Lib.decDigits n.toNat with
    | nil => exact absurd f (pG _)
    | cons c r =>
      rw [f] at d e
      have := d c (by simp)
      rw [Lib.atoiAll_plain c r (by omega) (by omega), e]
      simp only [Lib.signless]
      rw [if_neg (by omega)]
      congr 1
      omega
end Go.Vk
