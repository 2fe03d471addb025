/- AllRoom answers alike. -/
import Derived.Test.YtejneofoabmojaaPD
namespace Go.Vk
theorem room_L {x : Timpl_Schema} (h1 : x.Attrs_.length < 1000000000) (hb : ∀ i (h : i < x.Attrs_.length), ∃ n : Int, spec_Bins x.Attrs_[i] = some n ∧ impl_bins x.Attrs_[i] = some n) : ∀ (d k i : Nat) (v : Int), x.Attrs_.length - i = d → d < k →
    ∃ r, spec_AllRoom_L1 x k v (i : Int) = some r ∧ impl_AllRoom_L1 x k (i : Int) v = some r := by
  intro d
  induction d with
  | zero =>
    intro k i v hd hk
    obtain ⟨k, rfl⟩ : ∃ q, k = q + 1 := ⟨k - 1, by omega⟩
    rw [spec_AllRoom_L1, impl_AllRoom_L1]
    rw [if_neg (by simp; omega), if_neg (by simp; omega)]
    exact ⟨_, rfl, rfl⟩
  | succ d ih =>
    intro k i v hd hk
    obtain ⟨k, rfl⟩ : ∃ q, k = q + 1 := ⟨k - 1, by omega⟩
    have hlt : i < x.Attrs_.length := by omega
    obtain ⟨n, e1, e2⟩ := hb i hlt
    rw [spec_AllRoom_L1, impl_AllRoom_L1]
    rw [if_pos (by simp; omega), if_pos (by simp; omega), idx_lt hlt]
    simp only [Option.bind_some]
    rw [e1, e2]
    simp only [Option.bind_some]
    rw [wrap_succ (i := i) (by omega)]
    exact ih k (i + 1) _ (by omega) (by omega)
theorem allRoom_same {x : Timpl_Schema} (hx : OkS x) : ∃ m, spec_AllRoom x = some m ∧ impl_AllRoom x = some m := by
  unfold spec_AllRoom impl_AllRoom
  rcases (specSchema hx).cases with ⟨e, h⟩ | ⟨e, h⟩
  · rcases (implSchema hx).cases with ⟨e2, _⟩ | ⟨_, g⟩
    · rw [e, e2]
      simp only [Option.bind_some, Bool.not_true, Bool.false_eq_true, if_false]
      exact room_L hx.1 (fun i hi => by
        obtain ⟨n, b1, b2, _⟩ := bins_ok (hx.2.1 _ (List.getElem_mem hi)) (h.2.2.2 i (Nat.zero_le _) hi hi).1
        exact ⟨_, b1, b2⟩) x.Attrs_.length Fuel 0 1 (by omega) (fuel_gt (by have := hx.1; omega))
    · exact absurd h g
  · rcases (implSchema hx).cases with ⟨_, g⟩ | ⟨e2, _⟩
    · exact absurd g h
    · rw [e, e2]; exact ⟨0, rfl, rfl⟩
theorem exactAllRoom {x : Tlaws_Schema} (hx : OkSc x) : laws_FnExactAllRoom x = some true := by
  unfold laws_FnExactAllRoom
  obtain ⟨r, h1, h2⟩ := weighs_schema hx 1048576 (by omega)
  have h1' : laws_szSchema x 1048576 = some r := h1
  rw [h1']
  simp only [Option.bind_some]
  rcases h2 with ⟨h2, _⟩ | ⟨h2, h3⟩
  · rw [if_pos (by simpa using h2)]
  · rw [if_neg (by simp; omega), toSchema_ok h2]
    simp only [Option.bind_some]
    have ho := okS_of h2
    obtain ⟨m, e1, e2⟩ := allRoom_same ho
    rw [e1, e2]
    simp only [Option.bind_some, bne_self_eq_false, Bool.false_eq_true, if_false]
    rw [eqSchema_self ho]
    rfl
end Go.Vk
