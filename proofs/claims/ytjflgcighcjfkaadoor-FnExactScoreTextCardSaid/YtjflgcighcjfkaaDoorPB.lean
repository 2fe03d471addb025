/- Scores: tested alike by the program. -/
import Derived.Test.YtjflgcighcjfkaaDoorPA
namespace Go.Vk
def cm (l : List Timpl_Pair) : List (Timpl_Pair × Int) := l.foldl (fun m p => mPut m p (IntKind.i64.wrap (mGet m p + 1))) []
theorem cm_from (l : List Timpl_Pair) : ∀ m : List (Timpl_Pair × Int), (∀ q, 0 ≤ mGet m q ∧ mGet m q + l.length ≤ 1000000000) → ∀ q, mGet (l.foldl (fun m p => mPut m p (IntKind.i64.wrap (mGet m p + 1))) m) q = mGet m q + l.count q := by
  induction l with
  | nil => intro m _ q; simp
  | cons p l ih =>
    intro m hm q
    rw [List.foldl_cons]
    have hp := hm p
    simp only [List.length_cons] at hm hp
    have hw : IntKind.i64.wrap (mGet m p + 1) = mGet m p + 1 := wrap_id (by omega) (by omega)
    rw [ih _ (fun q => by
      rw [mGet_put, hw]
      have := hm q
      split <;> omega) q, mGet_put, hw, List.count_cons]
    by_cases h : q = p
    · subst h
      simp
      omega
    · have : ¬ (p = q) := fun e => h e.symm
      simp [h, this]
theorem cm_get {l : List Timpl_Pair} (hl : l.length ≤ 1000000000) (q : Timpl_Pair) : mGet (cm l) q = (l.count q : Int) := by
  unfold cm
  rw [cm_from l [] (fun q => by simp [mGet]; omega) q]
  simp [mGet]
theorem cm_succ {l : List Timpl_Pair} {i : Nat} (h : i < l.length) : cm (l.take (i + 1)) = mPut (cm (l.take i)) l[i] (IntKind.i64.wrap (mGet (cm (l.take i)) l[i] + 1)) := by
  unfold cm
  rw [List.take_succ_eq_append_getElem h, List.foldl_append]
  rfl
theorem contains_ok {r : List Int} (hl : r.length ≤ 1048576) : Dec (lib_slices_ContainsFunc___int_int___impl_ScoreOk_1 r) (∃ x ∈ r, ¬ (0 ≤ x ∧ x ≤ 9999)) := by
  unfold lib_slices_ContainsFunc___int_int___impl_ScoreOk_1 lib_slices_IndexFunc___int_int___impl_ScoreOk_1
  refine (find_idx (Lp := lib_slices_IndexFunc___int_int___impl_ScoreOk_1_L1 r) (n := r.length) (Q := fun j => ∀ hj : j < r.length, ¬ (0 ≤ r[j] ∧ r[j] ≤ 9999)) (fun k j hj => by
    show (if _ then _ else _) = _
    rw [if_neg (by simp; omega)]) (fun k j hj => by
    rw [lib_slices_IndexFunc___int_int___impl_ScoreOk_1_L1]
    rw [if_pos (by simp; omega), idx_lt hj, wrap_succ (by omega)]
    unfold impl_ScoreOk_1 impl_within
    simp only [Option.bind_some]
    by_cases hc : 0 ≤ r[j] ∧ r[j] ≤ 9999
    · rw [in_t hc]
      exact .inr ⟨fun g => g hj hc, rfl⟩
    · rw [in_f hc]
      exact .inl ⟨fun _ => hc, rfl⟩) (by omega)).of_iff ⟨fun ⟨i, hi, h⟩ => ⟨r[i], List.getElem_mem hi, h hi⟩, fun ⟨x, hx, h⟩ => ?_⟩
  obtain ⟨i, hi, rfl⟩ := List.mem_iff_getElem.1 hx
  exact ⟨i, hi, fun _ => h⟩
def RowI (n : Int) (s : Timpl_Score) (i : Nat) : Prop := ∀ h : i < s.Table_.length, (s.Table_[i].length : Int) = n ∧ ∀ x ∈ s.Table_[i], 0 ≤ x ∧ x ≤ 9999
def PairI (n : Int) (s : Timpl_Score) (i : Nat) : Prop := ∀ h : i < s.Last_.length, PairQ n s.Last_[i] ∧ ((s.Last_.take (i + 1)).count s.Last_[i] : Int) ≤ ent s.Table_ s.Last_[i].Truth_.toNat s.Last_[i].Said_.toNat
theorem scoreP_iff {n : Int} {s : Timpl_Score} : ScoreP n s ↔ ((2 ≤ n ∧ n ≤ 3) ∧ (s.Table_.length : Int) = n ∧ (∀ i, i < s.Table_.length → RowI n s i) ∧ tsum s.Table_ ≤ 9999 ∧ (s.Last_.length : Int) = (if 20 < tsum s.Table_ then 20 else tsum s.Table_) ∧ ∀ i, i < s.Last_.length → PairI n s i) := by
  constructor
  · rintro ⟨hn, hT, hR, h1, h2, h3⟩
    refine ⟨hn, hT, fun i hi h => ⟨(hR i hi h).1, (mem_ent h (hR i hi) hn.2).2⟩, h1, h2, fun i hi h => ⟨h3 _ (List.getElem_mem h), ?_⟩⟩
    have hp := h3 _ (List.getElem_mem h)
    have ht : s.Last_[i].Truth_.toNat < s.Table_.length := by have := hp.1; omega
    obtain ⟨hr, hc⟩ := hR _ ht ht
    have hsd : s.Last_[i].Said_.toNat < s.Table_[s.Last_[i].Truth_.toNat].length := by have := hp.2; omega
    have hcc := (hc _ hsd).2
    have he : (⟨(s.Last_[i].Truth_.toNat : Int), (s.Last_[i].Said_.toNat : Int)⟩ : Timpl_Pair) = s.Last_[i] := by
      rw [Int.toNat_of_nonneg hp.1.1, Int.toNat_of_nonneg hp.2.1]
    rw [he] at hcc
    have hle : (s.Last_.take (i + 1)).count s.Last_[i] ≤ s.Last_.count s.Last_[i] := (List.take_sublist _ _).count_le _
    omega
  · rintro ⟨hn, hT, hR, h1, h2, h3⟩
    refine ⟨hn, hT, fun i hi h => ⟨(hR i hi h).1, fun j hj => ?_⟩, h1, h2, fun p hp => ?_⟩
    · have hr := (hR i hi h).2 _ (List.getElem_mem hj)
      rw [ent_eq h hj]
      refine ⟨hr, ?_⟩
      by_cases hm : (⟨(i : Int), (j : Int)⟩ : Timpl_Pair) ∈ s.Last_
      · obtain ⟨q, hq, e1, e2⟩ := count_last hm
        obtain ⟨_, hc⟩ := h3 q hq hq
        rw [e1, e2] at hc
        have : ent s.Table_ (Int.toNat i) (Int.toNat j) = s.Table_[i][j] := by
          rw [Int.toNat_natCast, Int.toNat_natCast, ent_eq h hj]
        simp only at hc
        omega
      · rw [List.count_eq_zero.2 hm]
        omega
    · obtain ⟨i, hi, rfl⟩ := List.mem_iff_getElem.1 hp
      exact (h3 i hi hi).1
theorem impl_end {n : Int} {s : Timpl_Score} (hn : 2 ≤ n ∧ n ≤ 3) (hl : s.Last_.length ≤ 1048576) (hT : (s.Table_.length : Int) = n) (hR : ∀ i, i < s.Table_.length → RowI n s i) : Dec (impl_ScoreOk_L2 s n Fuel 0 []) (∀ i, i < s.Last_.length → PairI n s i) := by
  refine (dec_idx (Lp := fun k i => impl_ScoreOk_L2 s n k (i : Int) (cm (s.Last_.take i))) (n := s.Last_.length) (Q := PairI n s) (F := True) (fun k _ => ?_) (fun k i hi _ => ?_) (by omega)).of_iff ⟨fun h => h.1, fun h => ⟨h, trivial⟩⟩
  · show Dec (impl_ScoreOk_L2 s n (k + 1) _ _) _
    rw [impl_ScoreOk_L2, if_neg (by simp)]
    exact dec_t trivial
  · show (_ ∧ impl_ScoreOk_L2 s n (k + 1) _ _ = impl_ScoreOk_L2 s n k _ _) ∨ (_ ∧ impl_ScoreOk_L2 s n (k + 1) _ _ = _)
    have hct := cm_get (l := s.Last_.take (i + 1)) (by simp; omega) s.Last_[i]
    rw [impl_ScoreOk_L2, if_pos (by simp; omega), idx_lt hi, wrap_succ (by omega), wrap_id (n := n - 1) (by omega) (by omega), cm_succ hi]
    rw [cm_succ hi] at hct
    unfold impl_within
    simp only [Option.bind_some]
    by_cases h1 : 0 ≤ s.Last_[i].Truth_ ∧ s.Last_[i].Truth_ ≤ n - 1
    · rw [in_t h1]
      simp only [Bool.not_true, Bool.false_eq_true, if_false, Option.bind_some]
      by_cases h2 : 0 ≤ s.Last_[i].Said_ ∧ s.Last_[i].Said_ ≤ n - 1
      · rw [in_t h2]
        simp only [Bool.not_true, Bool.false_eq_true, if_false]
        have ht : s.Last_[i].Truth_.toNat < s.Table_.length := by omega
        have hsd : s.Last_[i].Said_.toNat < s.Table_[s.Last_[i].Truth_.toNat].length := by have := (hR _ ht ht).1; omega
        have e1 : idx s.Table_ s.Last_[i].Truth_ = some s.Table_[s.Last_[i].Truth_.toNat] := by
          have := idx_lt ht
          rwa [Int.toNat_of_nonneg h1.1] at this
        have e2 : idx s.Table_[s.Last_[i].Truth_.toNat] s.Last_[i].Said_ = some s.Table_[s.Last_[i].Truth_.toNat][s.Last_[i].Said_.toNat] := by
          have := idx_lt hsd
          rwa [Int.toNat_of_nonneg h2.1] at this
        rw [e1]
        simp only [Option.bind_some]
        rw [e2]
        simp only [Option.bind_some]
        rw [hct]
        by_cases h3 : ((s.Last_.take (i + 1)).count s.Last_[i] : Int) ≤ s.Table_[s.Last_[i].Truth_.toNat][s.Last_[i].Said_.toNat]
        · rw [if_neg (by simp; omega)]
          exact .inl ⟨fun _ => ⟨⟨h1, h2⟩, by rw [ent_eq ht hsd]; exact h3⟩, rfl⟩
        · rw [if_pos (by simp; omega)]
          exact .inr ⟨fun g => h3 (by have := (g hi).2; rwa [ent_eq ht hsd] at this), rfl⟩
      · rw [in_f h2]
        exact .inr ⟨fun g => h2 (g hi).1.2, rfl⟩
    · rw [in_f h1]
      exact .inr ⟨fun g => h1 (g hi).1.1, rfl⟩
theorem implScore {n : Int} {s : Timpl_Score} (hs : sml_Score s) : Dec (impl_ScoreOk n s) (ScoreP n s) := by
  have hl := hs.2.1
  refine Dec.of_iff ?_ scoreP_iff.symm
  unfold impl_ScoreOk impl_within
  simp only [Option.bind_some]
  by_cases hn : 2 ≤ n ∧ n ≤ 3
  · rw [in_t hn]
    by_cases hT : (s.Table_.length : Int) = n
    · rw [if_neg (by simp [hT])]
      refine Dec.of_iff (P := (∀ i, i < s.Table_.length → RowI n s i) ∧ tsum s.Table_ ≤ 9999 ∧ (s.Last_.length : Int) = (if 20 < tsum s.Table_ then 20 else tsum s.Table_) ∧ ∀ i, i < s.Last_.length → PairI n s i) ?_ ⟨fun h => ⟨hn, hT, h⟩, fun h => h.2.2⟩
      refine dec_idx (Lp := fun k i => impl_ScoreOk_L1 s n k (i : Int)) (n := s.Table_.length) (Q := RowI n s) (fun k hq => ?_) (fun k i hi hq => ?_) (by omega)
      · show Dec (impl_ScoreOk_L1 s n (k + 1) _) _
        have hrows : RowsP s.Table_ := fun r hr => by
          obtain ⟨i, hi, rfl⟩ := List.mem_iff_getElem.1 hr
          obtain ⟨g1, g2⟩ := hq i hi hi
          exact ⟨by omega, g2⟩
        rw [impl_ScoreOk_L1, if_neg (by simp), tableSum_ok hrows (by omega)]
        simp only [Option.bind_some]
        show Dec (if (decide (tsum s.Table_ > 9999) || _) then _ else _) _
        by_cases h1 : tsum s.Table_ > 9999
        · rw [if_pos (by simp [h1])]
          exact dec_f fun g => by have := g.1; omega
        · by_cases h2 : (s.Last_.length : Int) = (if 20 < tsum s.Table_ then 20 else tsum s.Table_)
          · rw [if_neg (by simp only [h1, decide_false, Bool.false_or, bne_iff_ne, ne_eq, Decidable.not_not]; exact h2)]
            exact (impl_end hn (by omega) hT hq).of_iff ⟨fun g => ⟨by omega, h2, g⟩, fun g => g.2.2⟩
          · rw [if_pos (by simp only [h1, decide_false, Bool.false_or, bne_iff_ne, ne_eq]; exact h2)]
            exact dec_f fun g => h2 g.2.1
      · show (_ ∧ impl_ScoreOk_L1 s n (k + 1) _ = impl_ScoreOk_L1 s n k _) ∨ (_ ∧ impl_ScoreOk_L1 s n (k + 1) _ = _)
        rw [impl_ScoreOk_L1, if_pos (by simp; omega), idx_lt hi, wrap_succ (by omega)]
        simp only [Option.bind_some]
        by_cases hr : (s.Table_[i].length : Int) = n
        · rw [if_neg (by simp [hr])]
          rcases (contains_ok (r := s.Table_[i]) (by omega)).cases with ⟨e, x, hx, hc⟩ | ⟨e, hc⟩
          · rw [e]
            exact .inr ⟨fun g => hc ((g hi).2 x hx), rfl⟩
          · rw [e]
            exact .inl ⟨fun _ => ⟨hr, fun x hx => Classical.byContradiction fun c => hc ⟨x, hx, c⟩⟩, rfl⟩
        · rw [if_pos (by simp [hr])]
          exact .inr ⟨fun g => hr (g hi).1, rfl⟩
    · rw [if_pos (by simp [hT])]
      exact dec_f fun g => hT g.2.1
  · rw [in_f hn]
    exact dec_f fun g => hn g.1
end Go.Vk
