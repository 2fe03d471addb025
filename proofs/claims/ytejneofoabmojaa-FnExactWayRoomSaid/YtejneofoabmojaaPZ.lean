/- FnExactWayRoom answers true. -/
import Derived.Test.YtejneofoabmojaaPY
namespace Go.Vk
theorem mask_le {m : Int} {F : Nat} (hF : F ≤ 31) (_ : 0 ≤ m) (h : ibits .and .i64 m F = m) : ∃ n : Nat, m = n ∧ n ≤ 31 := by
  obtain ⟨e, h2⟩ := mask_and (e := m) hF
  rw [e] at h
  exact ⟨_, h.symm, h2⟩
def bitsFrom (m : Nat) : Nat → Nat → Nat
  | _, 0 => 0
  | b, d + 1 => (if ibits .and .i64 (m : Int) ((2 ^ b : Nat) : Int) != 0 then 1 else 0) + bitsFrom m (b + 1) d
theorem ones_ok : ∀ m : Fin 32, lib_bits_OnesCount (IntKind.u64.wrap ((m.val : Nat) : Int)) = some ((bitsFrom m.val 0 5 : Nat) : Int) := by decide
theorem bitsFrom_le (m : Nat) : ∀ d b, bitsFrom m b d ≤ d := by
  intro d
  induction d with
  | zero => intro b; exact Nat.le_refl _
  | succ d ih => intro b; have := ih (b + 1); unfold bitsFrom; split <;> omega
theorem room_L2 {w : Timpl_Way} {i : Nat} {m : Nat} {R : Int → Int → Option Int} {v : Int} (hi : i < w.Masks_.length) (hm : w.Masks_[i] = (m : Int)) :
    ∀ (d b k c : Nat), b + d = 5 → d < k → c ≤ b → spec_WayRoom_L2 w i R v k (c : Int) (b : Int) = R (IntKind.i64.wrap (v * ((c + bitsFrom m b d : Nat) : Int))) (IntKind.i64.wrap ((i : Int) + 1)) := by
  intro d
  induction d with
  | zero =>
    intro b k c hb hk hc
    obtain ⟨k, rfl⟩ : ∃ q, k = q + 1 := ⟨k - 1, by omega⟩
    rw [spec_WayRoom_L2]
    rw [if_neg (by simp; omega)]
    rfl
  | succ d ih =>
    intro b k c hb hk hc
    obtain ⟨k, rfl⟩ : ∃ q, k = q + 1 := ⟨k - 1, by omega⟩
    rw [spec_WayRoom_L2]
    rw [if_pos (by simp; omega), idx_lt hi]
    simp only [Option.bind_some]
    rw [power_ok (by omega)]
    simp only [Option.bind_some]
    rw [hm, wrap_succ (by omega), wrap_succ (by omega), bitsFrom]
    by_cases hb2 : (ibits .and .i64 (m : Int) ((2 ^ b : Nat) : Int) != 0) = true
    · rw [if_pos hb2, if_pos hb2, ih (b + 1) k (c + 1) (by omega) (by omega) (by omega), Nat.add_assoc]
    · rw [if_neg hb2, if_neg hb2, ih (b + 1) k c (by omega) (by omega) (by omega), Nat.zero_add]
theorem wayRoom_L {s : Timpl_Schema} {w : Timpl_Way} (hs : OkS s) (h : WayP s w) : ∀ (d k i : Nat) (v : Int), w.Masks_.length - i = d → d < k →
    ∃ r, spec_WayRoom_L1 w k v (i : Int) = some r ∧ impl_WayRoom_L1 w k (i : Int) v = some r := by
  have hn : w.Masks_.length < 1000000000 := by have := h.2.2.1; have := hs.1; omega
  intro d
  induction d with
  | zero =>
    intro k i v hd hk
    obtain ⟨k, rfl⟩ : ∃ q, k = q + 1 := ⟨k - 1, by omega⟩
    rw [spec_WayRoom_L1, impl_WayRoom_L1]
    rw [if_neg (by simp; omega), if_neg (by simp; omega)]
    exact ⟨_, rfl, rfl⟩
  | succ d ih =>
    intro k i v hd hk
    obtain ⟨k, rfl⟩ : ∃ q, k = q + 1 := ⟨k - 1, by omega⟩
    have hi : i < w.Masks_.length := by omega
    obtain ⟨F, ha, e1, g⟩ := h.2.2.2 i (Nat.zero_le _) hi
    obtain ⟨F2, hF, e2, _⟩ := fullMask_ok (hs.2.1 _ (List.getElem_mem ha))
    rw [e1] at e2
    obtain rfl := Option.some.inj e2
    obtain ⟨m, hm, hle⟩ := mask_le hF (g hi).1 (g hi).2
    rw [spec_WayRoom_L1, impl_WayRoom_L1]
    rw [if_pos (by simp; omega), if_pos (by simp; omega), idx_lt hi]
    have h2 := room_L2 (R := spec_WayRoom_L1 w k) (v := v) hi hm 5 0 Fuel 0 (by omega) (fuel_gt (by omega)) (by omega)
    simp only [Option.bind_some]
    rw [show ((0 : Nat) : Int) = (0 : Int) from rfl] at h2
    rw [h2, hm, ones_ok ⟨m, by omega⟩]
    simp only [Option.bind_some]
    rw [wrap_succ (by omega), Nat.zero_add]
    exact ih k (i + 1) _ (by omega) (by omega)
theorem wayRoom_same {s : Timpl_Schema} {w : Timpl_Way} (hs : OkS s) (hw : I64s w.Masks_) : ∃ m, spec_WayRoom s w = some m ∧ impl_WayRoom s w = some m := by
  unfold spec_WayRoom impl_WayRoom
  have e := (specWay (w := w) hs).eq (implWay hs hw)
  rw [← e]
  rcases (specWay (w := w) hs).cases with ⟨e1, h⟩ | ⟨e1, h⟩
  · rw [e1]
    simp only [Option.bind_some, Bool.not_true, Bool.false_eq_true, if_false]
    exact wayRoom_L hs h w.Masks_.length Fuel 0 1 (by omega) (fuel_gt (by have := h.2.2.1; have := hs.1; omega))
  · rw [e1]; exact ⟨0, rfl, rfl⟩
theorem exactWayRoom {x : Tlaws_Schema} {y : Tlaws_Way} (hx : OkSc x) (hy : y.Masks_.length < 9223372036854775808) (hm : I64s y.Masks_) : laws_FnExactWayRoom x y = some true := by
  unfold laws_FnExactWayRoom
  obtain ⟨r, h1, h2⟩ := weighs_schema hx 1048576 (by omega)
  have h1' : laws_szSchema x 1048576 = some r := h1
  rw [h1']
  simp only [Option.bind_some]
  rcases h2 with ⟨h2, _⟩ | ⟨h2, rfl⟩
  · rw [if_pos (by simpa using h2)]
  · rw [if_neg (by simp)]
    obtain ⟨r, g1, g2⟩ := weighs_way hy (1048576 - szS x) (by omega)
    rw [g1]
    simp only [Option.bind_some]
    rcases g2 with ⟨g2, _⟩ | ⟨g2, rfl⟩
    · rw [if_pos (by simpa using g2)]
    · have g3 : y.Masks_.length ≤ 1048576 := by simp only at g2; omega
      rw [if_neg (by simp), toSchema_ok h2, toWay_ok g3]
      simp only [Option.bind_some]
      have ho := okS_of h2
      obtain ⟨m, e1, e2⟩ := wayRoom_same (w := toW y) ho hm
      rw [e1, e2]
      simp only [Option.bind_some, bne_self_eq_false, Bool.false_eq_true, if_false]
      rw [eqSchema_self ho, eqWay_self (x := toW y) (by show y.Masks_.length < _; omega)]
      rfl
end Go.Vk
