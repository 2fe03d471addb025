/- Scores: tested alike. -/
import Derived.Test.YtjflgcighcjfkaaDoorPT
namespace Go.Vk
theorem total_ok {p : List Int} (hb : ∀ x ∈ p, 0 ≤ x ∧ x ≤ 1000000000) (hl : p.length ≤ 1000000000) : impl_total p = some p.sum := by
  unfold impl_total
  have := sum_loop (p := p) id (fun k s i => impl_total_L1 p k s i) some (fun k s => by
    show impl_total_L1 p (k + 1) s _ = _
    rw [impl_total_L1, if_neg (by simp)]) (fun k s i h => by
    show impl_total_L1 p (k + 1) s _ = _
    rw [impl_total_L1, if_pos (by simp; omega), idx_lt h, wrap_succ (by omega)]
    rfl) hb hl
  rwa [List.map_id] at this
theorem l10Sum_ok {p : List Int} (hb : ∀ x ∈ p, 0 ≤ x ∧ x ≤ 1000000000) (hl : p.length ≤ 1000000000) : spec_l10Sum p = some p.sum := by
  unfold spec_l10Sum
  have := sum_loop (p := p) id (fun k s i => spec_l10Sum_L1 p k s i) some (fun k s => by
    show spec_l10Sum_L1 p (k + 1) s _ = _
    rw [spec_l10Sum_L1, if_neg (by simp)]) (fun k s i h => by
    show spec_l10Sum_L1 p (k + 1) s _ = _
    rw [spec_l10Sum_L1, if_pos (by simp; omega), idx_lt h, wrap_succ (by omega)]
    rfl) hb hl
  rwa [List.map_id] at this
/-- rows of few small entries -/
def RowsP (t : List (List Int)) : Prop := ∀ r ∈ t, r.length ≤ 3 ∧ ∀ x ∈ r, 0 ≤ x ∧ x ≤ 9999
theorem row_bound {r : List Int} (h : r.length ≤ 3 ∧ ∀ x ∈ r, 0 ≤ x ∧ x ≤ 9999) : 0 ≤ r.sum ∧ r.sum ≤ 30000 := by
  have := sum_bound h.2
  omega
theorem tableSum_ok {t : List (List Int)} (hr : RowsP t) (hl : t.length ≤ 1000000000) : impl_tableSum t = some (t.map List.sum).sum := by
  unfold impl_tableSum
  exact sum_loop (p := t) List.sum (fun k s i => impl_tableSum_L1 t k s i) some (fun k s => by
    show impl_tableSum_L1 t (k + 1) s _ = _
    rw [impl_tableSum_L1, if_neg (by simp)]) (fun k s i h => by
    show impl_tableSum_L1 t (k + 1) s _ = _
    have hg := hr _ (List.getElem_mem h)
    rw [impl_tableSum_L1, if_pos (by simp; omega), idx_lt h, wrap_succ (by omega)]
    simp only [Option.bind_some]
    rw [total_ok (fun x hx => by have := hg.2 x hx; omega) (by omega)]
    rfl) (fun r h => by have := row_bound (hr r h); omega) hl
def ent (t : List (List Int)) (i j : Nat) : Int := ((t[i]?.getD [])[j]?).getD 0
theorem ent_eq {t : List (List Int)} {i j : Nat} (hi : i < t.length) (hj : j < t[i].length) : ent t i j = t[i][j] := by
  unfold ent
  rw [List.getElem?_eq_getElem hi, Option.getD_some, List.getElem?_eq_getElem hj, Option.getD_some]
/-- pairs counted -/
theorem pairs_ok {l : List Timpl_Pair} (hl : l.length ≤ 1000000000) (a b : Int) : spec_l25Pairs l a b = some (l.count ⟨a, b⟩ : Int) := by
  unfold spec_l25Pairs
  have := for_idx (Lp := fun k i => spec_l25Pairs_L1 l a b k (((l.take i).count ⟨a, b⟩ : Nat) : Int) (i : Int)) (n := l.length) (fin := some (l.count ⟨a, b⟩ : Int)) (fun k => by
    show spec_l25Pairs_L1 l a b (k + 1) _ _ = _
    rw [spec_l25Pairs_L1, if_neg (by simp), List.take_length]) (fun k i hi => by
    show spec_l25Pairs_L1 l a b (k + 1) _ _ = spec_l25Pairs_L1 l a b k _ _
    have hc : (l.take i).count (⟨a, b⟩ : Timpl_Pair) ≤ i := Nat.le_trans List.count_le_length (by simp; omega)
    rw [spec_l25Pairs_L1, if_pos (by simp; omega), idx_lt hi, wrap_succ (by omega), wrap_succ (by omega), List.take_succ_eq_append_getElem hi, List.count_append]
    simp only [Option.bind_some]
    generalize l[i] = e
    obtain ⟨c, d⟩ := e
    by_cases h1 : c = a
    · by_cases h2 : d = b
      · subst h1; subst h2
        simp
      · have : ¬ ((⟨c, d⟩ : Timpl_Pair) = ⟨a, b⟩) := fun h => h2 (by injection h)
        simp [h1, h2]
    · have : ¬ ((⟨c, d⟩ : Timpl_Pair) = ⟨a, b⟩) := fun h => h1 (by injection h)
      simp [h1]) (by omega)
  simpa using this
def tsum (t : List (List Int)) : Int := (t.map List.sum).sum
def RowQ (n : Int) (s : Timpl_Score) (i : Nat) : Prop := ∀ h : i < s.Table_.length, (s.Table_[i].length : Int) = n ∧ ∀ j, j < s.Table_[i].length → (0 ≤ ent s.Table_ i j ∧ ent s.Table_ i j ≤ 9999) ∧ (s.Last_.count ⟨i, j⟩ : Int) ≤ ent s.Table_ i j
def PairQ (n : Int) (p : Timpl_Pair) : Prop := (0 ≤ p.Truth_ ∧ p.Truth_ ≤ n - 1) ∧ (0 ≤ p.Said_ ∧ p.Said_ ≤ n - 1)
def EndQ (n : Int) (s : Timpl_Score) : Prop := tsum s.Table_ ≤ 9999 ∧ (s.Last_.length : Int) = (if 20 < tsum s.Table_ then 20 else tsum s.Table_) ∧ ∀ p ∈ s.Last_, PairQ n p
def ScoreP (n : Int) (s : Timpl_Score) : Prop := (2 ≤ n ∧ n ≤ 3) ∧ (s.Table_.length : Int) = n ∧ (∀ i, i < s.Table_.length → RowQ n s i) ∧ EndQ n s
theorem mem_ent {n : Int} {s : Timpl_Score} {i : Nat} (hi : i < s.Table_.length) (h : RowQ n s i) (hn : n ≤ 3) : s.Table_[i].length ≤ 3 ∧ ∀ x ∈ s.Table_[i], 0 ≤ x ∧ x ≤ 9999 := by
  obtain ⟨h1, h2⟩ := h hi
  refine ⟨by omega, fun x hx => ?_⟩
  obtain ⟨j, hj, rfl⟩ := List.mem_iff_getElem.1 hx
  have := (h2 j hj).1
  rw [ent_eq hi hj] at this
  exact this
theorem rows_of {n : Int} {s : Timpl_Score} {k : Nat} (h : ∀ i, i < k → RowQ n s i) (hk : k ≤ s.Table_.length) (hn : n ≤ 3) : RowsP (s.Table_.take k) := by
  intro r hr
  obtain ⟨i, hi, rfl⟩ := List.mem_iff_getElem.1 hr
  rw [List.getElem_take]
  rw [List.length_take] at hi
  exact mem_ent (by omega) (h i (by omega)) hn
theorem tsum_bound {t : List (List Int)} (h : RowsP t) : 0 ≤ tsum t ∧ tsum t ≤ 30000 * t.length := by
  have := sum_bound (p := t.map List.sum) (b := 30000) (fun x hx => by
    obtain ⟨r, hr, rfl⟩ := List.mem_map.1 hx
    exact row_bound (h r hr))
  simpa [tsum] using this
theorem tsum_succ {t : List (List Int)} {i : Nat} (h : i < t.length) : tsum (t.take (i + 1)) = tsum (t.take i) + t[i].sum := by
  unfold tsum
  rw [List.take_succ_eq_append_getElem h, List.map_append, List.sum_append]
  simp
theorem spec_end {n : Int} {s : Timpl_Score} (hn : 2 ≤ n ∧ n ≤ 3) (hl : s.Last_.length ≤ 1048576) : Dec (spec_ScoreOk_L3 s n Fuel 0) (∀ p ∈ s.Last_, PairQ n p) := by
  refine (dec_idx (Lp := fun k i => spec_ScoreOk_L3 s n k (i : Int)) (n := s.Last_.length) (Q := fun i => ∀ h : i < s.Last_.length, PairQ n s.Last_[i]) (F := True) (fun k _ => ?_) (fun k i hi _ => ?_) (by omega)).of_iff ⟨fun h p hp => ?_, fun h => ⟨fun i hi _ => h _ (List.getElem_mem hi), trivial⟩⟩
  · show Dec (spec_ScoreOk_L3 s n (k + 1) _) _
    rw [spec_ScoreOk_L3, if_neg (by simp)]
    exact dec_t trivial
  · show (_ ∧ spec_ScoreOk_L3 s n (k + 1) _ = spec_ScoreOk_L3 s n k _) ∨ (_ ∧ spec_ScoreOk_L3 s n (k + 1) _ = _)
    rw [spec_ScoreOk_L3, if_pos (by simp; omega), idx_lt hi, wrap_succ (by omega), wrap_id (n := n - 1) (by omega) (by omega)]
    unfold spec_l1In
    simp only [Option.bind_some]
    by_cases h1 : 0 ≤ s.Last_[i].Truth_ ∧ s.Last_[i].Truth_ ≤ n - 1
    · rw [in_t h1]
      simp only [Bool.not_true, Bool.false_eq_true, if_false, Option.bind_some]
      by_cases h2 : 0 ≤ s.Last_[i].Said_ ∧ s.Last_[i].Said_ ≤ n - 1
      · rw [in_t h2]
        exact .inl ⟨fun _ => ⟨h1, h2⟩, rfl⟩
      · rw [in_f h2]
        exact .inr ⟨fun g => h2 (g hi).2, rfl⟩
    · rw [in_f h1]
      exact .inr ⟨fun g => h1 (g hi).1, rfl⟩
  · obtain ⟨i, hi, rfl⟩ := List.mem_iff_getElem.1 hp
    exact h.1 i hi hi
theorem specScore {n : Int} {s : Timpl_Score} (hs : sml_Score s) : Dec (spec_ScoreOk n s) (ScoreP n s) := by
  have hl := hs.2.1
  unfold spec_ScoreOk ScoreP spec_l1In
  simp only [Option.bind_some]
  by_cases hn : 2 ≤ n ∧ n ≤ 3
  · rw [in_t hn]
    by_cases hT : (s.Table_.length : Int) = n
    · rw [if_neg (by simp [hT])]
      refine Dec.of_iff (P := (∀ i, i < s.Table_.length → RowQ n s i) ∧ EndQ n s) ?_ ⟨fun h => ⟨hn, hT, h⟩, fun h => h.2.2⟩
      refine dec_idx (Lp := fun k i => spec_ScoreOk_L1 n s k (tsum (s.Table_.take i)) (i : Int)) (n := s.Table_.length) (Q := RowQ n s) (F := EndQ n s) (fun k hq => ?_) (fun k i hi hq => ?_) (by omega)
      · show Dec (spec_ScoreOk_L1 n s (k + 1) _ _) _
        rw [spec_ScoreOk_L1, if_neg (by simp; omega), List.take_length]
        have hb := tsum_bound (rows_of (k := s.Table_.length) hq (Nat.le_refl _) hn.2)
        rw [List.take_length] at hb
        unfold EndQ
        by_cases h1 : tsum s.Table_ > 9999
        · rw [if_pos (by simpa using h1)]
          exact dec_f fun g => by have := g.1; omega
        · rw [if_neg (by simpa using h1)]
          unfold spec_l1Min
          have hm : (if decide (tsum s.Table_ < 20) then some (tsum s.Table_) else some 20 : Option Int) = some (if 20 < tsum s.Table_ then 20 else tsum s.Table_) := by
            by_cases c1 : tsum s.Table_ < 20
            · rw [if_pos (by simpa using c1), if_neg (by omega)]
            · rw [if_neg (by simpa using c1)]
              by_cases c2 : 20 < tsum s.Table_
              · rw [if_pos c2]
              · rw [if_neg c2]; congr 1; omega
          rw [hm]
          simp only [Option.bind_some]
          by_cases h2 : (s.Last_.length : Int) = (if 20 < tsum s.Table_ then 20 else tsum s.Table_)
          · rw [if_neg (by simp [h2])]
            exact (spec_end hn (by omega)).of_iff ⟨fun g => ⟨by omega, h2, g⟩, fun g => g.2.2⟩
          · rw [if_pos (by simp [h2])]
            exact dec_f fun g => h2 g.2.1
      · show (_ ∧ spec_ScoreOk_L1 n s (k + 1) _ _ = spec_ScoreOk_L1 n s k _ _) ∨ (_ ∧ spec_ScoreOk_L1 n s (k + 1) _ _ = _)
        have hb := tsum_bound (rows_of (k := i) hq (by omega) hn.2)
        rw [List.length_take] at hb
        rw [spec_ScoreOk_L1, if_pos (by simp; omega), idx_lt hi]
        simp only [Option.bind_some]
        by_cases hr : (s.Table_[i].length : Int) = n
        · rw [if_neg (by simp [hr])]
          have hin := if_idx (Lp := fun k2 j => spec_ScoreOk_L2 n s i (spec_ScoreOk_L1 n s k) k2 (tsum (s.Table_.take i) + (s.Table_[i].take j).sum) (j : Int)) (n := s.Table_[i].length)
            (Q := fun j => (0 ≤ ent s.Table_ i j ∧ ent s.Table_ i j ≤ 9999) ∧ (s.Last_.count ⟨i, j⟩ : Int) ≤ ent s.Table_ i j) (fin := spec_ScoreOk_L1 n s k (tsum (s.Table_.take (i + 1))) ((i + 1 : Nat) : Int)) (bad := some false) (fun k2 _ => by
              show spec_ScoreOk_L2 n s i _ (k2 + 1) _ _ = _
              rw [spec_ScoreOk_L2, if_neg (by simp; omega), List.take_length, tsum_succ hi, wrap_succ (by omega)]) (fun k2 j hj hqj => by
              show (_ ∧ spec_ScoreOk_L2 n s i _ (k2 + 1) _ _ = spec_ScoreOk_L2 n s i _ k2 _ _) ∨ (_ ∧ spec_ScoreOk_L2 n s i _ (k2 + 1) _ _ = _)
              have hpre := sum_bound (p := s.Table_[i].take j) (b := 9999) (fun x hx => by
                obtain ⟨q, hq2, rfl⟩ := List.mem_iff_getElem.1 hx
                rw [List.length_take] at hq2
                have := (hqj q (by omega)).1
                rw [ent_eq hi (by omega)] at this
                rw [List.getElem_take]; exact this)
              rw [List.length_take] at hpre
              rw [ent_eq hi hj]
              rw [spec_ScoreOk_L2, if_pos (by simp; omega), idx_lt hi]
              simp only [Option.bind_some]
              rw [idx_lt hj, wrap_succ (by omega), sum_take hj]
              unfold spec_l1In
              simp only [Option.bind_some]
              by_cases h1 : 0 ≤ s.Table_[i][j] ∧ s.Table_[i][j] ≤ 9999
              · rw [in_t h1]
                simp only [Bool.not_true, Bool.false_eq_true, if_false]
                rw [pairs_ok (by omega)]
                simp only [Option.bind_some]
                by_cases h2 : (s.Last_.count ⟨i, j⟩ : Int) ≤ s.Table_[i][j]
                · rw [if_neg (by simp; omega), wrap_id (by omega) (by omega), Int.add_assoc]
                  exact .inl ⟨⟨h1, h2⟩, rfl⟩
                · rw [if_pos (by simp; omega)]
                  exact .inr ⟨fun g => h2 g.2, rfl⟩
              · rw [in_f h1]
                exact .inr ⟨fun g => h1 g.1, rfl⟩) (by omega)
          simp only [List.take_zero, List.sum_nil, Int.add_zero] at hin
          rcases hin with ⟨g1, g2⟩ | ⟨g1, g2⟩
          · exact .inl ⟨fun _ => ⟨hr, g1⟩, g2⟩
          · exact .inr ⟨fun g => g1 (g hi).2, g2⟩
        · rw [if_pos (by simp [hr])]
          exact .inr ⟨fun g => hr (g hi).1, rfl⟩
    · rw [if_pos (by simp [hT])]
      exact dec_f fun g => hT g.2.1
  · rw [in_f hn]
    exact dec_f fun g => hn g.1
end Go.Vk
