/- FnExactWayMeets answers true. -/
import Derived.Test.YtejneofoabmojaaPY
import Derived.Test.YtejneofoabmojaaPEx
namespace Go.Vk
theorem meets_J {w : Timpl_Way} {i : Nat} {R R' : Int → Option Bool} {b : Int} (h : ∃ r, R ((i + 1 : Nat) : Int) = some r ∧ R' ((i + 1 : Nat) : Int) = some r) (hi : i < w.Masks_.length) (hn : i < 1000000000) : ∃ r, spec_WayMeets_J1 w i R b = some r ∧ impl_WayMeets_J1 w i R' b = some r := by
  unfold spec_WayMeets_J1 impl_WayMeets_J1
  rw [idx_lt hi]
  simp only [Option.bind_some]
  rw [wrap_succ (by omega)]
  split
  · exact ⟨_, rfl, rfl⟩
  · exact h
theorem shl_ok {n : Nat} (h : n ≤ 4) : shl .i64 1 (n : Int) = some ((2 ^ n : Nat) : Int) := by
  have : n = 0 ∨ n = 1 ∨ n = 2 ∨ n = 3 ∨ n = 4 := by omega
  rcases this with rfl | rfl | rfl | rfl | rfl <;> decide
theorem meets_L {s : Timpl_Schema} {w : Timpl_Way} {e : Timpl_Ex} (hs : OkS s) (hw : WayP s w) (he : ExP s e) : ∀ (d k i : Nat), e.Bins_.length - i = d → d < k →
    ∃ r, spec_WayMeets_L1 e w k (i : Int) = some r ∧ impl_WayMeets_L1 e w k (i : Int) = some r := by
  have hn : e.Bins_.length < 1000000000 := by have := he.2.1; have := hs.1; omega
  intro d
  induction d with
  | zero =>
    intro k i hd hk
    obtain ⟨k, rfl⟩ : ∃ q, k = q + 1 := ⟨k - 1, by omega⟩
    rw [spec_WayMeets_L1, impl_WayMeets_L1]
    rw [if_neg (by simp; omega), if_neg (by simp; omega)]
    exact ⟨_, rfl, rfl⟩
  | succ d ih =>
    intro k i hd hk
    obtain ⟨k, rfl⟩ : ∃ q, k = q + 1 := ⟨k - 1, by omega⟩
    have hi : i < e.Bins_.length := by omega
    have hm : i < w.Masks_.length := by rw [hw.2.2.1, ← he.2.1]; exact hi
    obtain ⟨n, ha, b2, b3, g⟩ := he.2.2.2 i (Nat.zero_le _) hi
    obtain ⟨g0, g1⟩ := g hi
    have hR := ih k (i + 1) (by omega) (by omega)
    rw [spec_WayMeets_L1, impl_WayMeets_L1]
    rw [if_pos (by simp; omega), if_pos (by simp; omega), idx_lt hi]
    simp only [Option.bind_some]
    by_cases h0 : 0 ≤ e.Bins_[i]
    · rw [if_pos (by simpa using h0), if_pos (by simpa using h0)]
      obtain ⟨b, hb⟩ : ∃ b : Nat, e.Bins_[i] = (b : Int) := ⟨e.Bins_[i].toNat, by omega⟩
      rw [hb, power_ok (by omega), shl_ok (by omega)]
      simp only [Option.bind_some]
      exact meets_J hR hm (by omega)
    · rw [if_neg (by simpa using h0), if_neg (by simpa using h0)]
      exact meets_J hR hm (by omega)
theorem wayMeets_same {s : Timpl_Schema} {w : Timpl_Way} {e : Timpl_Ex} (hs : OkS s) (hw : I64s w.Masks_) : ∃ m, spec_WayMeets s w e = some m ∧ impl_WayMeets s w e = some m := by
  unfold spec_WayMeets impl_WayMeets
  rw [← (specWay (w := w) hs).eq (implWay hs hw), ← (specEx (e := e) hs).eq (implEx hs)]
  rcases (specWay (w := w) hs).cases with ⟨e1, h⟩ | ⟨e1, h⟩
  · rw [e1]
    simp only [Option.bind_some, Bool.not_true, Bool.false_eq_true, if_false]
    rcases (specEx (e := e) hs).cases with ⟨e2, h2⟩ | ⟨e2, h2⟩
    · rw [e2]
      simp only [Option.bind_some, Bool.not_true, Bool.false_eq_true, if_false]
      exact meets_L hs h h2 e.Bins_.length Fuel 0 (by omega) (fuel_gt (by have := h2.2.1; have := hs.1; omega))
    · rw [e2]; exact ⟨false, rfl, rfl⟩
  · rw [e1]; exact ⟨false, rfl, rfl⟩
theorem exactWayMeets {x : Tlaws_Schema} {y : Tlaws_Way} {z : Tlaws_Ex} (hx : OkSc x) (hy : y.Masks_.length < 9223372036854775808) (hm : I64s y.Masks_) (hz : z.Bins_.length < 9223372036854775808) : laws_FnExactWayMeets x y z = some true := by
  unfold laws_FnExactWayMeets
  obtain ⟨r, h1, h2⟩ := weighs_schema hx 1048576 (by omega)
  have h1' : laws_szSchema x 1048576 = some r := h1
  rw [h1']
  simp only [Option.bind_some]
  rcases h2 with ⟨h2, _⟩ | ⟨h2, rfl⟩
  · rw [if_pos (by simpa using h2)]
  · rw [if_neg (by simp)]
    obtain ⟨r, g1, g2⟩ := weighs_way hy (1048576 - szS x) (by omega)
    rw [g1]
    simp only [Option.bind_some]
    rcases g2 with ⟨g2, _⟩ | ⟨g2, rfl⟩
    · rw [if_pos (by simpa using g2)]
    · rw [if_neg (by simp)]
      simp only at g2
      obtain ⟨r, f1, f2⟩ := weighs_ex hz (1048576 - szS x - y.Masks_.length) (by omega)
      rw [f1]
      simp only [Option.bind_some]
      rcases f2 with ⟨f2, _⟩ | ⟨f2, rfl⟩
      · rw [if_pos (by simpa using f2)]
      · simp only at f2
        rw [if_neg (by simp), toSchema_ok h2, toWay_ok (by omega), toEx_ok (by omega)]
        simp only [Option.bind_some]
        have ho := okS_of h2
        obtain ⟨m, e1, e2⟩ := wayMeets_same (w := toW y) (e := toE z) ho hm
        rw [e1, e2]
        simp only [Option.bind_some, bne_self_eq_false, Bool.false_eq_true, if_false]
        rw [eqSchema_self ho, eqWay_self (x := toW y) (by show y.Masks_.length < _; omega), eqEx_self (x := toE z) (by show z.Bins_.length < _; omega)]
        rfl
end Go.Vk
