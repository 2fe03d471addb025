/- FullMask answers alike. -/
import Derived.Test.YtejneofoabmojaaPB
namespace Go.Vk
theorem power_ok {n : Nat} (hn : n ≤ 40) : spec_l16Power (n : Int) = some ((2 ^ n : Nat) : Int) := by
  unfold spec_l16Power
  have key : ∀ (d k i : Nat), i + d = n → d < k → spec_l16Power_L1 (n : Int) k ((2 ^ i : Nat) : Int) (i : Int) = some ((2 ^ n : Nat) : Int) := by
    intro d
    induction d with
    | zero =>
      intro k i hd hk
      obtain ⟨k, rfl⟩ : ∃ q, k = q + 1 := ⟨k - 1, by omega⟩
      rw [spec_l16Power_L1]
      rw [if_neg (by simp; omega), show i = n by omega]
    | succ d ih =>
      intro k i hd hk
      obtain ⟨k, rfl⟩ : ∃ q, k = q + 1 := ⟨k - 1, by omega⟩
      rw [spec_l16Power_L1]
      have hp : (2 : Nat) ^ i ≤ 2 ^ 40 := Nat.pow_le_pow_right (by omega) (by omega)
      have e : IntKind.i64.wrap (((2 ^ i : Nat) : Int) * 2) = ((2 ^ (i + 1) : Nat) : Int) := by
        rw [Nat.pow_succ]
        generalize (2 : Nat) ^ i = q at hp
        rw [wrap_id (by omega) (by omega)]; omega
      rw [if_pos (decide_eq_true (by omega)), e, wrap_succ (by omega)]
      exact ih k (i + 1) (by omega) (by omega)
  exact key n Fuel 0 (by omega) (fuel_gt (by omega))
theorem bins_ok {x : Timpl_Attr} (hx : OkM x) (h : AttrP x) : ∃ n : Nat, spec_Bins x = some (n : Int) ∧ impl_bins x = some (n : Int) ∧ 2 ≤ n ∧ n ≤ 4 := by
  unfold spec_Bins impl_bins
  rcases (specAttr hx).cases with ⟨e, _⟩ | ⟨_, g⟩
  · rw [e]
    simp only [Option.bind_some, Bool.not_true, Bool.false_eq_true, if_false]
    rcases h.2 with ⟨h1, h2, _⟩ | ⟨h1, h2, _⟩
    · rw [if_neg (fun g => by have := of_decide_eq_true g; omega)]
      exact ⟨_, rfl, rfl, by omega, by omega⟩
    · rw [if_pos (decide_eq_true (by omega)), wrap_succ (by omega)]
      exact ⟨_, rfl, rfl, by omega, by omega⟩
  · exact absurd h g
theorem fullMask_same {x : Timpl_Attr} (hx : OkM x) : ∃ m, spec_FullMask x = some m ∧ impl_FullMask x = some m := by
  unfold spec_FullMask impl_FullMask
  rcases (specAttr hx).cases with ⟨e, h⟩ | ⟨e, h⟩
  · rcases (implAttr hx).cases with ⟨e2, _⟩ | ⟨_, g⟩
    · obtain ⟨n, b1, b2, b3, b4⟩ := bins_ok hx h
      rw [e, e2]
      simp only [Option.bind_some, Bool.not_true, Bool.false_eq_true, if_false]
      rw [b1, b2]
      simp only [Option.bind_some]
      rw [power_ok (by omega)]
      have hn : n = 2 ∨ n = 3 ∨ n = 4 := by omega
      rcases hn with rfl | rfl | rfl
      · exact ⟨19, by decide, by decide⟩
      · exact ⟨23, by decide, by decide⟩
      · exact ⟨31, by decide, by decide⟩
    · exact absurd h g
  · rcases (implAttr hx).cases with ⟨_, g⟩ | ⟨e2, _⟩
    · exact absurd g h
    · rw [e, e2]; exact ⟨0, rfl, rfl⟩
theorem okM_of {x : Tlaws_Attr} (h : szA x ≤ 1048576) : OkM (toA x) := by
  unfold szA szTs at h
  refine ⟨by show x.Name_.length < _; omega, by show x.Cuts_.length < _; omega, by show x.Values_.length < _; omega, fun y hy => ?_⟩
  have hy' : y ∈ x.Values_ := hy
  have : y.length ≤ (x.Values_.map List.length).sum := by
    clear h hy
    generalize x.Values_ = q at hy'
    induction q with
    | nil => cases hy'
    | cons a q ih =>
      simp only [List.map_cons, List.sum_cons]
      rcases List.mem_cons.1 hy' with rfl | h
      · omega
      · have := ih h; omega
  omega
theorem exactFullMask {x : Tlaws_Attr} (hx : OkA x) : laws_FnExactFullMask x = some true := by
  unfold laws_FnExactFullMask
  obtain ⟨r, h1, h2⟩ := weighs_attr hx 1048576 (by omega)
  have h1' : laws_szAttr x 1048576 = some r := h1
  rw [h1']
  simp only [Option.bind_some]
  rcases h2 with ⟨h2, _⟩ | ⟨h2, h3⟩
  · rw [if_pos (by simpa using h2)]
  · rw [if_neg (by simp; omega), toAttr_ok h2]
    simp only [Option.bind_some]
    have ho := okM_of h2
    obtain ⟨m, e1, e2⟩ := fullMask_same ho
    rw [e1, e2]
    simp only [Option.bind_some, bne_self_eq_false, Bool.false_eq_true, if_false]
    rw [eqAttr_self ho.2.1 ho.2.2.1]
    rfl
end Go.Vk
