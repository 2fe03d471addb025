/- A pair said is added alike. -/
import Derived.Test.YtkhdakkhmikfcaaPD
namespace Go.Vk
/-- a loop that appends what it makes of each element -/
theorem map_loop {α β ρ : Type} {p : List α} (g : α → β) (Lp : Nat → List β → Int → Option ρ) (fin : List β → Option ρ)
    (hz : ∀ k l, Lp (k + 1) l (p.length : Int) = fin l)
    (hs : ∀ k l (i : Nat) (h : i < p.length), l.length = i → Lp (k + 1) l (i : Int) = Lp k (l ++ [g p[i]]) ((i + 1 : Nat) : Int))
    (hp : p.length < 1000000000000) : Lp Fuel [] 0 = fin (p.map g) := by
  have key : ∀ (d k i : Nat), p.length - i = d → d < k → i ≤ p.length → Lp k ((p.take i).map g) (i : Int) = fin (p.map g) := by
    intro d
    induction d with
    | zero =>
      intro k i hd hk hi
      obtain ⟨k, rfl⟩ : ∃ q, k = q + 1 := ⟨k - 1, by omega⟩
      have : i = p.length := by omega
      subst this
      rw [hz, List.take_length]
    | succ d ih =>
      intro k i hd hk hi
      obtain ⟨k, rfl⟩ : ∃ q, k = q + 1 := ⟨k - 1, by omega⟩
      have hlt : i < p.length := by omega
      rw [hs k _ i hlt (by simp; omega), ← ih k (i + 1) (by omega) (by omega) (by omega), List.take_succ_eq_append_getElem hlt, List.map_append]
      rfl
  exact key p.length Fuel 0 (by omega) (fuel_gt hp) (Nat.zero_le _)
theorem cloneInts {l : List Int} (h : l.length ≤ 68719476736) : lib_slices_Clone___int_int_ l = some l := by
  unfold lib_slices_Clone___int_int_
  rw [app_eq (by simp; omega)]
  rfl
theorem implCopy {s : Timpl_Score} (hs : sml_Score s) : impl_cloneScore s = some s := by
  have h1 := hs.1.1
  have h2 := hs.2.1
  have ht : impl_cloneLists s.Table_ = some s.Table_ := by
    unfold impl_cloneLists
    have := map_loop (p := s.Table_) id (fun k l i => impl_cloneLists_L1 s.Table_ k l i) some (fun k l => by
      show impl_cloneLists_L1 s.Table_ (k + 1) l _ = _
      rw [impl_cloneLists_L1, if_neg (by simp)]) (fun k l i h hl => by
      show impl_cloneLists_L1 s.Table_ (k + 1) l _ = _
      have hg := (hs.1.2 _ (List.getElem_mem h)).1
      rw [impl_cloneLists_L1, if_pos (by simp; omega), idx_lt h, wrap_succ (by omega)]
      simp only [Option.bind_some]
      rw [cloneInts (by omega)]
      simp only [Option.bind_some]
      rw [app_eq (by simp; omega)]
      rfl) (by omega)
    rwa [List.map_id] at this
  unfold impl_cloneScore lib_slices_Clone___impl_Pair_impl_Pair_
  rw [ht, app_eq (by simp; omega)]
  rfl
theorem specCopy {s : Timpl_Score} (hs : sml_Score s) : spec_l25Copy s = some s := by
  have h1 := hs.1.1
  have h2 := hs.2.1
  unfold spec_l25Copy
  rw [app_eq (by simp; omega)]
  simp only [Option.bind_some, List.nil_append]
  have := map_loop (p := s.Table_) id (fun k l i => spec_l25Copy_L1 s s.Last_ k l i) (fun l => some ⟨l, s.Last_⟩) (fun k l => by
    show spec_l25Copy_L1 s s.Last_ (k + 1) l _ = _
    rw [spec_l25Copy_L1, if_neg (by simp)]) (fun k l i h hl => by
    show spec_l25Copy_L1 s s.Last_ (k + 1) l _ = _
    have hg := (hs.1.2 _ (List.getElem_mem h)).1
    rw [spec_l25Copy_L1, if_pos (by simp; omega), idx_lt h, wrap_succ (by omega)]
    simp only [Option.bind_some]
    rw [app_eq (by simp; omega)]
    simp only [Option.bind_some]
    rw [app_eq (by simp; omega)]
    rfl) (by omega)
  rwa [List.map_id] at this
theorem Sq.last_few {n : Int} {s : Timpl_Score} (h : ScoreP n s) : s.Last_.length ≤ 20 := by
  obtain ⟨_, _, _, _, h2, _⟩ := h
  split at h2 <;> omega
theorem mc_set {t : List (List Int)} {i : Nat} (hi : i < t.length) {r : List Int} (hr : r.length = t[i].length) : mc_IntSS (t.set i r) = mc_IntSS t := by
  unfold mc_IntSS
  rw [List.map_set]
  congr 1
  apply List.ext_getElem?
  intro j
  by_cases c : i = j
  · subst c
    simp [hi, mc_IntS, sum_ones', hr]
  · rw [List.getElem?_set_ne c]
theorem add_same {n a b : Int} {s : Timpl_Score} (hs : sml_Score s) (hm : mc_Score s ≤ 16777216) : ∃ m, spec_ScoreAdd n s a b = some m ∧ impl_ScoreAdd n s a b = some m ∧ len_Score m.1 ∧ mc_Score m.1 ≤ 100000000000 := by
  have hbad : ∃ m : Timpl_Score × Bool, some (s, false) = some m ∧ some (s, false) = some m ∧ len_Score m.1 ∧ mc_Score m.1 ≤ 100000000000 := ⟨_, rfl, rfl, len_of_Score hs, by show mc_Score s ≤ _; omega⟩
  unfold spec_ScoreAdd impl_ScoreAdd
  rw [specCopy hs, implCopy hs]
  simp only [Option.bind_some]
  rw [← (specScore (n := n) hs).eq (implScore hs)]
  rcases (specScore (n := n) hs).cases with ⟨e, hp⟩ | ⟨e, h⟩
  · obtain ⟨N, h⟩ := sq_of hp
    have hN := h.two
    have hn := h.n_eq
    obtain ⟨c1, _⟩ := count_both hs hp
    have hf := Sq.last_few hp
    rw [e, c1]
    have hT : impl_tableSum s.Table_ = some (tsum s.Table_) := tableSum_ok h.rows (by have := h.len; omega)
    rw [hT]
    unfold spec_l1In impl_within
    simp only [Option.bind_some, Bool.not_true, Bool.false_eq_true, if_false]
    rw [wrap_id (n := n - 1) (by omega) (by omega)]
    by_cases ha : 0 ≤ a ∧ a ≤ n - 1
    · rw [in_t ha]
      simp only [Bool.not_true, Bool.false_eq_true, if_false, Option.bind_some]
      by_cases hb : 0 ≤ b ∧ b ≤ n - 1
      · rw [in_t hb]
        simp only [Bool.not_true, Bool.false_eq_true, if_false, Option.bind_some]
        by_cases hc : tsum s.Table_ = 9999
        · rw [if_pos (by simp [hc]), if_pos (by simp [hc])]
          exact hbad
        · rw [if_neg (by simp [hc]), if_neg (by simp [hc])]
          obtain ⟨i, rfl⟩ : ∃ x : Nat, a = x := ⟨a.toNat, by omega⟩
          obtain ⟨j, rfl⟩ : ∃ x : Nat, b = x := ⟨b.toNat, by omega⟩
          obtain ⟨h1, h2, e3, h3⟩ := h.ent_b (i := i) (j := j) (by omega) (by omega)
          rw [idx_lt h1]
          simp only [Option.bind_some]
          rw [idx_lt h2]
          simp only [Option.bind_some]
          rw [app_eq (by simp; omega)]
          simp only [Option.bind_some]
          have hlen : ∀ l : List Timpl_Pair, l.length ≤ 21 → len_Score ⟨s.Table_.set i (s.Table_[i].set j (IntKind.i64.wrap (s.Table_[i][j] + 1))), l⟩ ∧ mc_Score ⟨s.Table_.set i (s.Table_[i].set j (IntKind.i64.wrap (s.Table_[i][j] + 1))), l⟩ ≤ 100000000000 := fun l hl => by
            have hmc : mc_Score ⟨s.Table_.set i (s.Table_[i].set j (IntKind.i64.wrap (s.Table_[i][j] + 1))), l⟩ = mc_IntSS s.Table_ + mc_PairS l := by
              show mc_IntSS (s.Table_.set i _) + _ = _
              rw [mc_set h1 (by simp)]
            have hm' : mc_IntSS s.Table_ + mc_PairS s.Last_ ≤ 16777216 := hm
            have hpl : mc_PairS l = 2 * l.length := by
              unfold mc_PairS
              clear hl hmc
              induction l with
              | nil => rfl
              | cons x l ih => simp only [List.map_cons, List.sum_cons, List.length_cons, ih]; omega
            refine ⟨⟨⟨by have := hs.1.1; simp; omega, fun r hr => ?_⟩, by show l.length < _; omega⟩, by omega⟩
            rcases List.mem_or_eq_of_mem_set hr with hr | rfl
            · exact len_of_IntS (hs.1.2 r hr)
            · have := (hs.1.2 _ (List.getElem_mem h1)).1
              show (s.Table_[i].set j _).length < _
              simp; omega
          by_cases hl : decide (((s.Last_ ++ [(⟨(i : Int), (j : Int)⟩ : Timpl_Pair)]).length : Int) > 20) = true
          · rw [if_pos hl, if_pos hl]
            simp only [decide_eq_true_eq] at hl
            unfold lib_slices_Delete___impl_Pair_impl_Pair_
            have k1 : ∀ q : List Timpl_Pair, 1 ≤ q.length → q.length ≤ 1000 → sub q 1 (q.length : Int) = some (q.drop 1) ∧ sub q 0 1 = some (q.take 1) ∧ sub q 0 0 = some [] := fun q g1 g2 => by
              unfold sub
              refine ⟨?_, ?_, ?_⟩
              · rw [if_pos ⟨by omega, by omega, by omega⟩]; congr 1; show List.take (q.length - 1) (q.drop 1) = _; rw [List.take_of_length_le (by simp)]
              · rw [if_pos ⟨by omega, by omega, by omega⟩]; rfl
              · rw [if_pos ⟨by omega, by omega, by omega⟩]; rfl
            obtain ⟨s1, s2, s3⟩ := k1 (s.Last_ ++ [⟨(i : Int), (j : Int)⟩]) (by simp) (by simp; omega)
            rw [s1, s2, s3]
            simp only [Option.bind_some, List.nil_append]
            rw [app_eq (by simp; omega), if_neg (by simp)]
            simp only [Option.bind_some, List.nil_append]
            exact ⟨_, rfl, rfl, hlen _ (by simp; omega)⟩
          · rw [if_neg hl, if_neg hl]
            exact ⟨_, rfl, rfl, hlen _ (by simp; omega)⟩
      · rw [in_f hb]
        exact hbad
    · rw [in_f ha]
      exact hbad
  · rw [e]; exact hbad
end Go.Vk
