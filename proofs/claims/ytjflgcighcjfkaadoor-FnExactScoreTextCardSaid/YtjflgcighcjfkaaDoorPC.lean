/- Counted, right, kappa, shares: answered alike. -/
import Derived.Test.YtjflgcighcjfkaaDoorPB
import Derived.Test.YtjflgcighcjfkaaDoorPNu
namespace Go.Vk
theorem wrap_I64 (x : Int) : I64 (IntKind.i64.wrap x) := by
  unfold I64
  rw [IntKind.wrap_i64]
  omega
/-- what a score that is Ok has -/
structure Sq (n : Int) (s : Timpl_Score) (N : Nat) : Prop where
  n_eq : n = N
  two : N = 2 ∨ N = 3
  len : s.Table_.length = N
  rows : RowsP s.Table_
  row : ∀ i, (h : i < s.Table_.length) → s.Table_[i].length = N
  few : tsum s.Table_ ≤ 9999
  last : ∀ p ∈ s.Last_, PairQ n p
theorem sq_of {n : Int} {s : Timpl_Score} (h : ScoreP n s) : ∃ N, Sq n s N := by
  obtain ⟨hn, hT, hR, h1, h2, h3⟩ := h
  refine ⟨s.Table_.length, hT.symm, by omega, rfl, ?_, fun i hi => by have := (hR i hi hi).1; omega, h1, h3⟩
  have := rows_of (k := s.Table_.length) hR (Nat.le_refl _) hn.2
  rwa [List.take_length] at this
theorem Sq.ent_b {n : Int} {s : Timpl_Score} {N : Nat} (h : Sq n s N) {i j : Nat} (hi : i < N) (hj : j < N) : ∃ (h1 : i < s.Table_.length) (h2 : j < s.Table_[i].length), ent s.Table_ i j = s.Table_[i][j] ∧ 0 ≤ s.Table_[i][j] ∧ s.Table_[i][j] ≤ 9999 := by
  have h1 : i < s.Table_.length := by rw [h.len]; exact hi
  have h2 : j < s.Table_[i].length := by rw [h.row i h1]; exact hj
  exact ⟨h1, h2, ent_eq h1 h2, (h.rows _ (List.getElem_mem h1)).2 _ (List.getElem_mem h2)⟩
def diag (t : List (List Int)) (N : Nat) : Int := ((List.range N).map fun k => ent t k k).sum
theorem right_ok {n : Int} {s : Timpl_Score} {N : Nat} (h : Sq n s N) : spec_Right_L1 n s Fuel 0 0 = some (diag s.Table_ N) ∧ impl_Right_L1 n s Fuel 0 0 = some (diag s.Table_ N) := by
  have hN := h.two
  have hn := h.n_eq
  have hb : ∀ x ∈ List.range N, 0 ≤ ent s.Table_ x x ∧ ent s.Table_ x x ≤ 1000000000 := fun x hx => by
    obtain ⟨h1, h2, e, h3⟩ := h.ent_b (List.mem_range.1 hx) (List.mem_range.1 hx)
    omega
  constructor
  · refine sum_loop (p := List.range N) (fun k => ent s.Table_ k k) (fun k v i => spec_Right_L1 n s k v i) some (fun k v => ?_) (fun k v i hi => ?_) hb (by simp; omega)
    · show spec_Right_L1 n s (k + 1) v _ = _
      rw [spec_Right_L1, if_neg (by simp; omega)]
    · show spec_Right_L1 n s (k + 1) v _ = _
      have hi' : i < N := by simpa using hi
      obtain ⟨h1, h2, e, h3⟩ := h.ent_b hi' hi'
      rw [spec_Right_L1, if_pos (by simp; omega), idx_lt h1, wrap_succ (by omega)]
      simp only [Option.bind_some]
      rw [idx_lt h2, ← e]
      simp
  · refine sum_loop (p := List.range N) (fun k => ent s.Table_ k k) (fun k v i => impl_Right_L1 n s k i v) some (fun k v => ?_) (fun k v i hi => ?_) hb (by simp; omega)
    · show impl_Right_L1 n s (k + 1) _ v = _
      rw [impl_Right_L1, if_neg (by simp; omega)]
    · show impl_Right_L1 n s (k + 1) _ v = _
      have hi' : i < N := by simpa using hi
      obtain ⟨h1, h2, e, h3⟩ := h.ent_b hi' hi'
      rw [impl_Right_L1, if_pos (by simp; omega), idx_lt h1, wrap_succ (by omega)]
      simp only [Option.bind_some]
      rw [idx_lt h2, ← e]
      simp
theorem right_same {n : Int} {s : Timpl_Score} (hs : sml_Score s) : ∃ m, spec_Right n s = some m ∧ impl_Right n s = some m ∧ I64 m := by
  unfold spec_Right impl_Right
  rw [← (specScore (n := n) hs).eq (implScore hs)]
  rcases (specScore (n := n) hs).cases with ⟨e, h⟩ | ⟨e, h⟩
  · obtain ⟨N, h⟩ := sq_of h
    rw [e]
    have hb := sum_bound (p := (List.range N).map fun k => ent s.Table_ k k) (b := 9999) (fun x hx => by
      obtain ⟨k, hk, rfl⟩ := List.mem_map.1 hx
      obtain ⟨h1, h2, e, h3⟩ := h.ent_b (List.mem_range.1 hk) (List.mem_range.1 hk)
      omega)
    have hN := h.two
    exact ⟨_, (right_ok h).1, (right_ok h).2, by unfold I64 diag; simp at hb; omega⟩
  · rw [e]; exact ⟨0, rfl, rfl, by unfold I64; omega⟩
theorem count_ok {n : Int} {s : Timpl_Score} {N : Nat} (h : Sq n s N) : spec_Count_L1 n s Fuel 0 0 = some (tsum s.Table_) := by
  have hN := h.two
  have hn := h.n_eq
  have hl := h.len
  refine sum_loop (p := s.Table_) List.sum (fun k v i => spec_Count_L1 n s k v i) some (fun k v => ?_) (fun k v i hi => ?_) (fun r hr => by have := row_bound (h.rows r hr); omega) (by omega)
  · show spec_Count_L1 n s (k + 1) v _ = _
    rw [spec_Count_L1, if_neg (by simp; omega)]
  · show spec_Count_L1 n s (k + 1) v _ = _
    have hr := h.rows _ (List.getElem_mem hi)
    rw [spec_Count_L1, if_pos (by simp; omega), idx_lt hi, wrap_succ (by omega)]
    simp only [Option.bind_some]
    rw [l10Sum_ok (fun x hx => by have := hr.2 x hx; omega) (by omega)]
    rfl
theorem count_both {n : Int} {s : Timpl_Score} (hs : sml_Score s) (hp : ScoreP n s) : spec_Count n s = some (tsum s.Table_) ∧ impl_Count n s = some (tsum s.Table_) := by
  unfold spec_Count impl_Count
  rw [← (specScore (n := n) hs).eq (implScore hs)]
  rcases (specScore (n := n) hs).cases with ⟨e, h⟩ | ⟨e, h⟩
  · obtain ⟨N, h⟩ := sq_of h
    rw [e]
    have hl := hs.1.1
    exact ⟨count_ok h, by
      simp only [Option.bind_some, Bool.not_true, Bool.false_eq_true, if_false]
      rw [tableSum_ok h.rows (by omega)]
      rfl⟩
  · exact absurd hp h
theorem count_same {n : Int} {s : Timpl_Score} (hs : sml_Score s) : ∃ m, spec_Count n s = some m ∧ impl_Count n s = some m ∧ I64 m := by
  by_cases h : ScoreP n s
  · obtain ⟨N, hq⟩ := sq_of h
    have := tsum_bound hq.rows
    have := hq.few
    exact ⟨_, (count_both hs h).1, (count_both hs h).2, by unfold I64; omega⟩
  · unfold spec_Count impl_Count
    rw [← (specScore (n := n) hs).eq (implScore hs)]
    rcases (specScore (n := n) hs).cases with ⟨e, h'⟩ | ⟨e, h'⟩
    · exact absurd h' h
    · rw [e]; exact ⟨0, rfl, rfl, by unfold I64; omega⟩
theorem diag_count {N : Nat} (hN : N = 2 ∨ N = 3) : ∀ {l : List Timpl_Pair}, (∀ p ∈ l, PairQ N p) → ((List.range N).map fun (k : Nat) => (l.count ⟨k, k⟩ : Int)).sum = (l.countP (fun p => p.Truth_ == p.Said_) : Int) := by
  intro l
  induction l with
  | nil => intro _; rcases hN with rfl | rfl <;> rfl
  | cons p l ih =>
    intro h
    have hp := h p (by simp)
    have ih := ih (fun q hq => h q (by simp [hq]))
    obtain ⟨a, b⟩ := p
    obtain ⟨ha, hb⟩ := hp
    simp only at ha hb
    have hc : ∀ k : Nat, ((((⟨a, b⟩ : Timpl_Pair) :: l).count ⟨k, k⟩ : Nat) : Int) = (l.count ⟨k, k⟩ : Int) + if a = k ∧ b = k then 1 else 0 := by
      intro k
      rw [List.count_cons]
      by_cases c : a = k ∧ b = k
      · obtain ⟨rfl, rfl⟩ := c
        simp
      · have : ¬ ((⟨a, b⟩ : Timpl_Pair) = ⟨k, k⟩) := fun e => c (by injection e with e1 e2; exact ⟨e1, e2⟩)
        simp [c, this]
    rw [List.countP_cons]
    by_cases hab : a = b
    · subst hab
      simp only [and_self] at hc
      rcases hN with rfl | rfl
      · rw [show List.range 2 = [0, 1] from rfl] at ih ⊢
        simp only [List.map_cons, List.map_nil, List.sum_cons, List.sum_nil, hc] at ih ⊢
        have : a = 0 ∨ a = 1 := by omega
        rcases this with rfl | rfl <;> simp <;> simp at ih <;> omega
      · rw [show List.range 3 = [0, 1, 2] from rfl] at ih ⊢
        simp only [List.map_cons, List.map_nil, List.sum_cons, List.sum_nil, hc] at ih ⊢
        have : a = 0 ∨ a = 1 ∨ a = 2 := by omega
        rcases this with rfl | rfl | rfl <;> simp <;> simp at ih <;> omega
    · have z : ∀ k : Int, ¬ (a = k ∧ b = k) := fun k c => hab (c.1.trans c.2.symm)
      simp only [z, if_false, Int.add_zero] at hc
      simp only [hc]
      rw [ih]
      simp [hab]
theorem lastRight_same {n : Int} {s : Timpl_Score} (hs : sml_Score s) : ∃ m, spec_LastRight n s = some m ∧ impl_LastRight n s = some m ∧ I64 m := by
  unfold spec_LastRight impl_LastRight
  rw [← (specScore (n := n) hs).eq (implScore hs)]
  rcases (specScore (n := n) hs).cases with ⟨e, h⟩ | ⟨e, h⟩
  · obtain ⟨N, h⟩ := sq_of h
    have hN := h.two
    have hn := h.n_eq
    have hl := hs.2.1
    rw [e]
    simp only [Option.bind_some, Bool.not_true, Bool.false_eq_true, if_false]
    refine ⟨((s.Last_.countP (fun p => p.Truth_ == p.Said_) : Nat) : Int), ?_, ?_, by have := List.countP_le_length (p := fun p : Timpl_Pair => p.Truth_ == p.Said_) (l := s.Last_); unfold I64; omega⟩
    · rw [← diag_count hN (fun p hp => by have := h.last p hp; rwa [hn] at this)]
      refine sum_loop (p := List.range N) (fun (k : Nat) => (s.Last_.count ⟨k, k⟩ : Int)) (fun k v i => spec_LastRight_L1 n s k v i) some (fun k v => ?_) (fun k v i hi => ?_) (fun x _ => by have := List.count_le_length (a := (⟨x, x⟩ : Timpl_Pair)) (l := s.Last_); omega) (by simp; omega)
      · show spec_LastRight_L1 n s (k + 1) v _ = _
        rw [spec_LastRight_L1, if_neg (by simp; omega)]
      · show spec_LastRight_L1 n s (k + 1) v _ = _
        have hi' : i < N := by simpa using hi
        rw [spec_LastRight_L1, if_pos (by simp; omega), pairs_ok (by omega), wrap_succ (by omega)]
        simp
    · have := for_idx (Lp := fun k i => impl_LastRight_L1 s k (i : Int) (((s.Last_.take i).countP (fun p => p.Truth_ == p.Said_) : Nat) : Int)) (n := s.Last_.length) (fin := some ((s.Last_.countP (fun p => p.Truth_ == p.Said_) : Nat) : Int)) (fun k => by
        show impl_LastRight_L1 s (k + 1) _ _ = _
        rw [impl_LastRight_L1, if_neg (by simp), List.take_length]) (fun k i hi => by
        show impl_LastRight_L1 s (k + 1) _ _ = impl_LastRight_L1 s k _ _
        have hc : (s.Last_.take i).countP (fun p => p.Truth_ == p.Said_) ≤ i := Nat.le_trans List.countP_le_length (by simp; omega)
        rw [impl_LastRight_L1, if_pos (by simp; omega), idx_lt hi, wrap_succ (by omega), wrap_succ (by omega), List.take_succ_eq_append_getElem hi, List.countP_append]
        simp only [Option.bind_some]
        by_cases h1 : s.Last_[i].Truth_ = s.Last_[i].Said_
        · simp [h1]
        · simp [h1]) (by omega)
      simpa using this
  · rw [e]; exact ⟨0, rfl, rfl, by unfold I64; omega⟩
def colsum (t : List (List Int)) (k : Nat) : Int := (t.map fun r => (r[k]?).getD 0).sum
def kE (t : List (List Int)) : Nat → Int
  | 0 => 0
  | i + 1 => IntKind.i64.wrap (kE t i + IntKind.i64.wrap ((t[i]?.getD []).sum * colsum t i))
theorem kappa_same {n : Int} {s : Timpl_Score} (hs : sml_Score s) : ∃ m, spec_Kappa n s = some m ∧ impl_Kappa n s = some m ∧ I64 m.1 ∧ I64 m.2 := by
  unfold spec_Kappa impl_Kappa
  rw [← (specScore (n := n) hs).eq (implScore hs)]
  rcases (specScore (n := n) hs).cases with ⟨e, hp⟩ | ⟨e, h⟩
  · obtain ⟨N, h⟩ := sq_of hp
    have hN := h.two
    have hn := h.n_eq
    have hlen := h.len
    obtain ⟨c1, c2⟩ := count_both hs hp
    obtain ⟨r, r1, r2, _⟩ := right_same (n := n) hs
    rw [e]
    simp only [Option.bind_some, Bool.not_true, Bool.false_eq_true, if_false]
    have hcol : ∀ i, i < N → ∀ r ∈ s.Table_, 0 ≤ (r[i]?).getD 0 ∧ (r[i]?).getD 0 ≤ 1000000000 := fun i hi r hr => by
      obtain ⟨q, hq, rfl⟩ := List.mem_iff_getElem.1 hr
      have h2 : i < s.Table_[q].length := by rw [h.row q hq]; exact hi
      rw [List.getElem?_eq_getElem h2, Option.getD_some]
      have := (h.rows _ hr).2 _ (List.getElem_mem h2)
      omega
    refine ⟨(IntKind.i64.wrap (IntKind.i64.wrap (tsum s.Table_ * r) - kE s.Table_ N), IntKind.i64.wrap (IntKind.i64.wrap (tsum s.Table_ * tsum s.Table_) - kE s.Table_ N)), ?_, ?_, wrap_I64 _, wrap_I64 _⟩
    · refine for_idx (Lp := fun k i => spec_Kappa_L1 n s k (kE s.Table_ i) (i : Int)) (n := N) (fun k => ?_) (fun k i hi => ?_) (by omega)
      · show spec_Kappa_L1 n s (k + 1) _ _ = _
        rw [spec_Kappa_L1, if_neg (by simp; omega), c1, r1]
        rfl
      · show spec_Kappa_L1 n s (k + 1) _ _ = spec_Kappa_L1 n s k _ _
        have hi' : i < s.Table_.length := by omega
        have hr := h.rows _ (List.getElem_mem hi')
        rw [spec_Kappa_L1, if_pos (by simp; omega)]
        refine sum_loop (p := s.Table_) (fun r => (r[i]?).getD 0) (fun k2 v j => spec_Kappa_L2 n s i (spec_Kappa_L1 n s k) (kE s.Table_ i) k2 v j) (fun v => spec_Kappa_L1 n s k (IntKind.i64.wrap (kE s.Table_ i + IntKind.i64.wrap (s.Table_[i].sum * v))) ((i + 1 : Nat) : Int)) (fun k2 v => ?_) (fun k2 v j hj => ?_) (hcol i hi) (by omega) |>.trans ?_
        · show spec_Kappa_L2 n s i _ _ (k2 + 1) v _ = _
          rw [spec_Kappa_L2, if_neg (by simp; omega), idx_lt hi', wrap_succ (by omega)]
          simp only [Option.bind_some]
          rw [l10Sum_ok (fun x hx => by have := hr.2 x hx; omega) (by omega)]
          rfl
        · show spec_Kappa_L2 n s i _ _ (k2 + 1) v _ = _
          have h2 : i < s.Table_[j].length := by rw [h.row j hj]; exact hi
          rw [spec_Kappa_L2, if_pos (by simp; omega), idx_lt hj, wrap_succ (by omega)]
          simp only [Option.bind_some]
          rw [idx_lt h2, List.getElem?_eq_getElem h2]
          rfl
        · rw [kE, List.getElem?_eq_getElem hi']
          rfl
    · refine for_idx (Lp := fun k i => impl_Kappa_L1 n s k (i : Int) (kE s.Table_ i)) (n := N) (fun k => ?_) (fun k i hi => ?_) (by omega)
      · show impl_Kappa_L1 n s (k + 1) _ _ = _
        rw [impl_Kappa_L1, if_neg (by simp; omega), c2, r2]
        rfl
      · show impl_Kappa_L1 n s (k + 1) _ _ = impl_Kappa_L1 n s k _ _
        have hi' : i < s.Table_.length := by omega
        have hr := h.rows _ (List.getElem_mem hi')
        rw [impl_Kappa_L1, if_pos (by simp; omega)]
        refine sum_loop (p := s.Table_) (fun r => (r[i]?).getD 0) (fun k2 v j => impl_Kappa_L2 s i (impl_Kappa_L1 n s k) (kE s.Table_ i) k2 j v) (fun v => impl_Kappa_L1 n s k ((i + 1 : Nat) : Int) (IntKind.i64.wrap (kE s.Table_ i + IntKind.i64.wrap (s.Table_[i].sum * v)))) (fun k2 v => ?_) (fun k2 v j hj => ?_) (hcol i hi) (by omega) |>.trans ?_
        · show impl_Kappa_L2 s i _ _ (k2 + 1) _ v = _
          rw [impl_Kappa_L2, if_neg (by simp), idx_lt hi', wrap_succ (by omega)]
          simp only [Option.bind_some]
          rw [total_ok (fun x hx => by have := hr.2 x hx; omega) (by omega)]
          rfl
        · show impl_Kappa_L2 s i _ _ (k2 + 1) _ v = _
          have h2 : i < s.Table_[j].length := by rw [h.row j hj]; exact hi
          rw [impl_Kappa_L2, if_pos (by simp; omega), idx_lt hj, wrap_succ (by omega)]
          simp only [Option.bind_some]
          rw [idx_lt h2, List.getElem?_eq_getElem h2]
          rfl
        · rw [kE, List.getElem?_eq_getElem hi']
          rfl
  · rw [e]; exact ⟨(0, 0), rfl, rfl, by unfold I64; simp, by unfold I64; simp⟩
end Go.Vk
