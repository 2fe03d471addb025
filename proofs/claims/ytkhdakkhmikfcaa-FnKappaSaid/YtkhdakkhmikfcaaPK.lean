/- Kappa is at most 1, and 1 exactly if all predictions are correct. -/
import Derived.Test.YtkhdakkhmikfcaaPS
import Derived.Test.YtkhdakkhmikfcaaPDr
namespace Go.Vk
def I64 (x : Int) : Prop := -9223372036854775808 ≤ x ∧ x ≤ 9223372036854775807
theorem wrap_I64 (x : Int) : I64 (IntKind.i64.wrap x) := by
  unfold I64
  rw [IntKind.wrap_i64]
  omega
/-- rows as long as there are rows -/
structure Shp (N : Nat) (s : Timpl_Score) : Prop where
  len : s.Table_.length = N
  row : ∀ r ∈ s.Table_, r.length = N ∧ ∀ x ∈ r, I64 x
  few : s.Last_.length ≤ 30
  last : ∀ q ∈ s.Last_, I64 q.Truth_ ∧ I64 q.Said_
theorem Shp.sml {N : Nat} {s : Timpl_Score} (h : Shp N s) (hN : N ≤ 3) : sml_Score s :=
  ⟨⟨by rw [h.len]; omega, fun r hr => ⟨by rw [(h.row r hr).1]; omega, (h.row r hr).2⟩⟩, by have := h.few; show s.Last_.length ≤ _; omega, fun q hq => h.last q hq⟩
theorem new_shp {N : Nat} (hN : N = 2 ∨ N = 3) : Tot (spec_ScoreNew N) (fun s => Shp N s ∧ s.Last_ = []) := by
  unfold spec_ScoreNew spec_l1In
  simp only [Option.bind_some]
  rw [in_t (by omega)]
  simp only [Bool.not_true, Bool.false_eq_true, if_false]
  refine tot_for (Lp := fun k l i => spec_ScoreNew_L1 N k l i) N (fun i l => l.length = i ∧ ∀ r ∈ l, r.length = N ∧ ∀ x ∈ r, I64 x) (fun k l h => ?_) (fun k l i hi h rec => ?_) (by omega) ⟨rfl, by simp⟩
  · show Tot (spec_ScoreNew_L1 N (k + 1) l _) _
    rw [spec_ScoreNew_L1, if_neg (by simp)]
    exact tot_some ⟨⟨h.1, h.2, by simp, by simp⟩, rfl⟩
  · show Tot (spec_ScoreNew_L1 N (k + 1) l _) _
    rw [spec_ScoreNew_L1, if_pos (by simp; omega), mk_eq _ (by omega)]
    simp only [Option.bind_some]
    rw [app_eq (by simp; omega), wrap_succ (by omega)]
    refine rec _ ⟨by simp [h.1], fun r hr => ?_⟩
    rcases List.mem_append.1 hr with hr | hr
    · exact h.2 r hr
    · rw [List.mem_singleton.1 hr]
      exact ⟨by simp, fun x hx => by rw [(List.mem_replicate.1 hx).2]; exact ⟨by omega, by omega⟩⟩
theorem set_shp {N : Nat} {s : Timpl_Score} {i j : Nat} {x : Int} {l : List Timpl_Pair} (h : Shp N s) (hi : i < s.Table_.length) (hx : I64 x) (hl : l.length ≤ 30) (hq : ∀ q ∈ l, I64 q.Truth_ ∧ I64 q.Said_) : Shp N ⟨s.Table_.set i (s.Table_[i].set j x), l⟩ := by
  refine ⟨by simp [h.len], fun r hr => ?_, hl, hq⟩
  rcases List.mem_or_eq_of_mem_set hr with hr | rfl
  · exact h.row r hr
  · have := h.row _ (List.getElem_mem hi)
    refine ⟨by simp [this.1], fun y hy => ?_⟩
    rcases List.mem_or_eq_of_mem_set hy with hy | rfl
    · exact this.2 y hy
    · exact hx
theorem add_shp {N : Nat} (hN : N = 2 ∨ N = 3) {s : Timpl_Score} (h : Shp N s) {a b : Int} : Tot (spec_ScoreAdd N s a b) (fun m => Shp N m.1) := by
  have hs := h.sml (by omega)
  unfold spec_ScoreAdd
  rw [specCopy hs]
  simp only [Option.bind_some]
  rcases (specScore (n := (N : Int)) hs).cases with ⟨e, hp⟩ | ⟨e, _⟩
  · obtain ⟨c1, _⟩ := count_both hs hp
    obtain ⟨M, hM⟩ := sq_of hp
    have hf := Sq.last_few hp
    rw [e, c1]
    unfold spec_l1In
    simp only [Option.bind_some, Bool.not_true, Bool.false_eq_true, if_false]
    rw [wrap_id (n := (N : Int) - 1) (by omega) (by omega)]
    by_cases ha : 0 ≤ a ∧ a ≤ (N : Int) - 1
    · rw [in_t ha]
      simp only [Bool.not_true, Bool.false_eq_true, if_false, Option.bind_some]
      by_cases hb : 0 ≤ b ∧ b ≤ (N : Int) - 1
      · rw [in_t hb]
        simp only [Bool.not_true, Bool.false_eq_true, if_false, Option.bind_some]
        refine tot_if (fun _ => tot_some h) (fun _ => ?_)
        obtain ⟨i, rfl⟩ : ∃ x : Nat, a = x := ⟨a.toNat, by omega⟩
        obtain ⟨j, rfl⟩ : ∃ x : Nat, b = x := ⟨b.toNat, by omega⟩
        have h1 : i < s.Table_.length := by rw [h.len]; omega
        have h2 : j < s.Table_[i].length := by rw [(h.row _ (List.getElem_mem h1)).1]; omega
        rw [idx_lt h1]
        simp only [Option.bind_some]
        rw [idx_lt h2]
        simp only [Option.bind_some]
        rw [app_eq (by simp; omega)]
        simp only [Option.bind_some]
        have hq : ∀ q ∈ s.Last_ ++ [(⟨(i : Int), (j : Int)⟩ : Timpl_Pair)], I64 q.Truth_ ∧ I64 q.Said_ := fun q hq => by
          rcases List.mem_append.1 hq with hq | hq
          · exact h.last q hq
          · rw [List.mem_singleton.1 hq]; exact ⟨⟨by show _ ≤ (i : Int); omega, by show (i : Int) ≤ _; omega⟩, ⟨by show _ ≤ (j : Int); omega, by show (j : Int) ≤ _; omega⟩⟩
        refine tot_if (fun hl => ?_) (fun _ => tot_some (set_shp h h1 (wrap_I64 _) (by simp; omega) hq))
        refine (tot_sub ⟨by omega, by simp; omega, by omega⟩).bind fun l hl => ?_
        subst hl
        rw [app_eq (by simp; omega)]
        refine tot_some (set_shp h h1 (wrap_I64 _) (by simp; omega) fun q hq' => hq q ?_)
        rw [List.nil_append] at hq'
        exact List.mem_of_mem_drop (List.mem_of_mem_take hq')
      · rw [in_f hb]
        exact tot_some h
    · rw [in_f ha]
      exact tot_some h
  · rw [e]; exact tot_some h
section
variable {p : List Int} {c : Tspec_l1Cur} (hp : p.length ≤ 1048576) (hc : Cur p c) {N : Nat} (hN : N = 2 ∨ N = 3)
include hp hc hN
theorem right_shp : Tot (spec_l25Right p c N) (fun v => Shp N v.1 ∧ Cur p v.2) := by
  unfold spec_l25Right
  refine (new_shp hN).bind fun s hs => (tot_once hp hc 6).bind fun o ho => ?_
  obtain ⟨hs, hl⟩ := hs
  refine tot_if (fun _ => ?_) (fun _ => ?_)
  · have h1 : 0 < s.Table_.length := by rw [hs.len]; omega
    have h2 : 0 < s.Table_[0].length := by rw [(hs.row _ (List.getElem_mem h1)).1]; omega
    have e1 : idx s.Table_ 0 = some s.Table_[0] := idx_lt h1
    have e2 : idx s.Table_[0] 0 = some s.Table_[0][0] := idx_lt h2
    rw [e1]
    simp only [Option.bind_some]
    refine (tot_below hp ho 2).bind fun d hd => ?_
    rw [e2]
    simp only [Option.bind_some]
    refine tot_for (Lp := fun k l i => spec_l25Right_L1 s s.Table_[0] d k l i) 20 (fun i l => l.length = i ∧ ∀ q ∈ l, I64 q.Truth_ ∧ I64 q.Said_) (fun k l h => ?_) (fun k l i hi h rec => ?_) (by omega) ⟨by rw [hl]; rfl, by rw [hl]; simp⟩
    · show Tot (spec_l25Right_L1 s _ d (k + 1) l _) _
      rw [spec_l25Right_L1, if_neg (by simp)]
      exact tot_some ⟨set_shp hs h1 (wrap_I64 _) (by omega) h.2, hd.2⟩
    · show Tot (spec_l25Right_L1 s _ d (k + 1) l _) _
      rw [spec_l25Right_L1, if_pos (by simp; omega), app_eq (by simp; omega), wrap_succ (by omega)]
      refine rec _ ⟨by simp [h.1], fun q hq => ?_⟩
      rcases List.mem_append.1 hq with hq | hq
      · exact h.2 q hq
      · rw [List.mem_singleton.1 hq]; exact ⟨⟨by show _ ≤ (0 : Int); omega, by show (0 : Int) ≤ _; omega⟩, ⟨by show _ ≤ (0 : Int); omega, by show (0 : Int) ≤ _; omega⟩⟩
  · refine (tot_pick hp ho (by simp)).bind fun m hm => ?_
    obtain ⟨hm, hc2⟩ := hm
    obtain ⟨n, hn⟩ : ∃ n : Nat, m.1 = n := ⟨m.1.toNat, by simp only [List.mem_cons, List.not_mem_nil, or_false] at hm; omega⟩
    have hn2 : n ≤ 30 := by simp only [List.mem_cons, List.not_mem_nil, or_false] at hm; omega
    refine tot_for (σ := Int × Int × Timpl_Score) (Lp := fun k s i => spec_l25Right_L2 m p N k s.1 s.2.1 s.2.2.Table_ s.2.2.Last_ i) (s := (m.2.i_, m.2.h_, s)) n (fun i s => Cur p ⟨s.1, s.2.1⟩ ∧ Shp N s.2.2) (fun k s h => ?_) (fun k s i hi h rec => ?_) (by omega) ⟨hc2, hs⟩
    · show Tot (spec_l25Right_L2 m p N (k + 1) s.1 s.2.1 _ _ _) _
      rw [spec_l25Right_L2, if_neg (by rw [hn]; simp)]
      exact tot_some ⟨h.2, h.1⟩
    · show Tot (spec_l25Right_L2 m p N (k + 1) s.1 s.2.1 _ _ _) _
      rw [spec_l25Right_L2, if_pos (by rw [hn]; simp; omega), wrap_succ (by omega)]
      refine (tot_below hp h.1 N).bind fun a ha => (tot_below hp ha.2 N).bind fun b hb => (add_shp hN h.2).bind fun t ht => ?_
      exact rec (b.2.i_, b.2.h_, t.1) ⟨hb.2, ht⟩
theorem draw_sml : Tot (spec_l25Draw p c N) (fun v => sml_Score v.1 ∧ Cur p v.2) := by
  unfold spec_l25Draw
  refine (right_shp hp hc hN).bind fun v hv => (tot_below hp hv.2 12).bind fun d hd => ?_
  obtain ⟨⟨s, c1⟩, hs, hc1⟩ := (⟨v, hv⟩ : ∃ v : Timpl_Score × Tspec_l1Cur, Shp N v.1 ∧ Cur p v.2)
  obtain ⟨hs, hc1⟩ := hv
  obtain ⟨s, c1⟩ := v
  simp only at hs hc1 ⊢
  have h0 : 1 < s.Table_.length := by rw [hs.len]; omega
  have h1 : 0 < s.Table_.length := by omega
  have h2 : 0 < s.Table_[0].length := by rw [(hs.row _ (List.getElem_mem h1)).1]; omega
  have h3 : 0 < s.Table_[1].length := by rw [(hs.row _ (List.getElem_mem h0)).1]; omega
  have e1 : idx s.Table_ 0 = some s.Table_[0] := idx_lt h1
  have e2 : idx s.Table_[0] 0 = some s.Table_[0][0] := idx_lt h2
  have e3 : idx s.Table_ 1 = some s.Table_[1] := idx_lt h0
  have e4 : idx s.Table_[1] 0 = some s.Table_[1][0] := idx_lt h3
  have hz : I64 0 := ⟨by omega, by omega⟩
  have sm := hs.sml (by omega)
  refine tot_if (fun _ => ?_) (fun _ => ?_)
  · rw [e1]
    simp only [Option.bind_some]
    rw [e2]
    simp only [Option.bind_some]
    exact tot_some ⟨(set_shp hs h1 (wrap_I64 _) hs.few hs.last).sml (by omega), hd.2⟩
  refine tot_if (fun _ => ?_) (fun _ => ?_)
  · rw [e3]
    simp only [Option.bind_some]
    refine (tot_pick hp hd.2 (by simp)).bind fun y hy => ?_
    rw [e4]
    simp only [Option.bind_some]
    refine tot_some ⟨(set_shp hs h0 ?_ hs.few hs.last).sml (by omega), hy.2⟩
    have := hy.1
    simp only [List.mem_cons, List.not_mem_nil, or_false] at this
    exact ⟨by omega, by omega⟩
  refine tot_if (fun _ => ?_) (fun _ => ?_)
  · refine (tot_below hp hd.2 4).bind fun y hy => ?_
    have := hs.few
    rw [app_eq (by simp; omega)]
    refine tot_some ⟨⟨sm.1, by simp; omega, fun q hq => ?_⟩, hy.2⟩
    rcases List.mem_append.1 hq with hq | hq
    · exact hs.last q hq
    · rw [List.mem_singleton.1 hq]; exact ⟨wrap_I64 _, hz⟩
  refine tot_if (fun _ => ?_) (fun _ => ?_)
  · have := hs.len
    rw [app_eq (by simp; omega)]
    refine tot_some ⟨⟨⟨by simp; omega, fun r hr => ?_⟩, sm.2⟩, hd.2⟩
    rcases List.mem_append.1 hr with hr | hr
    · exact sm.1.2 r hr
    · rw [List.mem_singleton.1 hr]; exact ⟨by simp, fun x hx => by rw [List.mem_singleton.1 hx]; exact hz⟩
  refine tot_if (fun _ => ?_) (fun _ => tot_some ⟨sm, hd.2⟩)
  refine tot_if (fun hl => ?_) (fun _ => tot_some ⟨sm, hd.2⟩)
  refine (tot_below hp hd.2 5).bind fun y hy => ?_
  have hl : 0 < s.Last_.length := by simpa using hl
  have e5 : idx s.Last_ 0 = some s.Last_[0] := idx_lt hl
  rw [e5]
  refine tot_some ⟨⟨sm.1, by have := hs.few; simp; omega, fun q hq => ?_⟩, hy.2⟩
  rcases List.mem_or_eq_of_mem_set hq with hq | rfl
  · exact hs.last q hq
  · exact ⟨(hs.last _ (List.getElem_mem hl)).1, wrap_I64 _⟩
end
theorem drawKappa {p : List Int} (hp : p.length ≤ 1048576) : Tot (spec_DrawKappa p) (fun v => sml_Score v.2) := by
  unfold spec_DrawKappa spec_l25Two
  refine Tot.bind (P := fun v => sml_Score v.2) ?_ (fun v hv => tot_some hv)
  refine (tot_new hp).bind fun c hc => (tot_below hp hc 2).bind fun b hb => ?_
  obtain ⟨N, hN, hw⟩ : ∃ N : Nat, (N = 2 ∨ N = 3) ∧ IntKind.i64.wrap (2 + b.1) = N := by
    have := hb.1
    refine ⟨(2 + b.1).toNat, by omega, ?_⟩
    rw [wrap_id (by omega) (by omega)]; omega
  rw [hw]
  refine (draw_sml hp hb.2 hN).bind fun v hv => (tot_once hp hv.2 12).bind fun o ho => tot_if (fun _ => ?_) (fun _ => tot_some hv.1)
  exact (tot_pick hp ho (by simp)).bind fun y _ => tot_some hv.1
/-! ### the numbers -/
theorem kappa_val {n : Int} {s : Timpl_Score} {N : Nat} (hs : sml_Score s) (hp : ScoreP n s) (h : Sq n s N) :
    impl_Kappa n s = some (IntKind.i64.wrap (IntKind.i64.wrap (tsum s.Table_ * diag s.Table_ N) - kE s.Table_ N), IntKind.i64.wrap (IntKind.i64.wrap (tsum s.Table_ * tsum s.Table_) - kE s.Table_ N)) ∧ impl_Right n s = some (diag s.Table_ N) := by
  have hN := h.two
  have hn := h.n_eq
  have hlen := h.len
  obtain ⟨c1, c2⟩ := count_both hs hp
  have e : impl_ScoreOk n s = some true := by
    rcases (implScore (n := n) hs).cases with ⟨e, _⟩ | ⟨_, h'⟩
    · exact e
    · exact absurd hp h'
  have hr : impl_Right n s = some (diag s.Table_ N) := by
    unfold impl_Right
    rw [e]
    exact (right_ok h).2
  refine ⟨?_, hr⟩
  unfold impl_Kappa
  rw [e]
  simp only [Option.bind_some, Bool.not_true, Bool.false_eq_true, if_false]
  have hcol : ∀ i, i < N → ∀ r ∈ s.Table_, 0 ≤ (r[i]?).getD 0 ∧ (r[i]?).getD 0 ≤ 1000000000 := fun i hi r hr => by
    obtain ⟨q, hq, rfl⟩ := List.mem_iff_getElem.1 hr
    have h2 : i < s.Table_[q].length := by rw [h.row q hq]; exact hi
    rw [List.getElem?_eq_getElem h2, Option.getD_some]
    have := (h.rows _ hr).2 _ (List.getElem_mem h2)
    omega
  refine for_idx (Lp := fun k i => impl_Kappa_L1 n s k (i : Int) (kE s.Table_ i)) (n := N) (fun k => ?_) (fun k i hi => ?_) (by omega)
  · show impl_Kappa_L1 n s (k + 1) _ _ = _
    rw [impl_Kappa_L1, if_neg (by simp; omega), c2, hr]
    rfl
  · show impl_Kappa_L1 n s (k + 1) _ _ = impl_Kappa_L1 n s k _ _
    have hi' : i < s.Table_.length := by omega
    have hr := h.rows _ (List.getElem_mem hi')
    rw [impl_Kappa_L1, if_pos (by simp; omega)]
    refine sum_loop (p := s.Table_) (fun r => (r[i]?).getD 0) (fun k2 v j => impl_Kappa_L2 s i (impl_Kappa_L1 n s k) (kE s.Table_ i) k2 j v) (fun v => impl_Kappa_L1 n s k ((i + 1 : Nat) : Int) (IntKind.i64.wrap (kE s.Table_ i + IntKind.i64.wrap (s.Table_[i].sum * v)))) (fun k2 v => ?_) (fun k2 v j hj => ?_) (hcol i hi) (by omega) |>.trans ?_
    · show impl_Kappa_L2 s i _ _ (k2 + 1) _ v = _
      rw [impl_Kappa_L2, if_neg (by simp), idx_lt hi', wrap_succ (by omega)]
      simp only [Option.bind_some]
      rw [total_ok (fun x hx => by have := hr.2 x hx; omega) (by omega)]
      rfl
    · show impl_Kappa_L2 s i _ _ (k2 + 1) _ v = _
      have h2 : i < s.Table_[j].length := by rw [h.row j hj]; exact hi
      rw [impl_Kappa_L2, if_pos (by simp; omega), idx_lt hj, wrap_succ (by omega)]
      simp only [Option.bind_some]
      rw [idx_lt h2, List.getElem?_eq_getElem h2]
      rfl
    · rw [kE, List.getElem?_eq_getElem hi']
      rfl
theorem sum_le_sum {α : Type} {f g : α → Int} : ∀ {l : List α}, (∀ x ∈ l, f x ≤ g x) → (l.map f).sum ≤ (l.map g).sum := by
  intro l
  induction l with
  | nil => intro _; simp
  | cons x l ih =>
    intro h
    have h1 := h x (by simp)
    have h2 := ih (fun y hy => h y (by simp [hy]))
    simp only [List.map_cons, List.sum_cons]
    omega
theorem sum_nn {r : List Int} (hr : ∀ x ∈ r, 0 ≤ x) : 0 ≤ r.sum := by
  induction r with
  | nil => simp
  | cons x r ih =>
    have h0 := hr x (by simp)
    have := ih (fun y hy => hr y (by simp [hy]))
    rw [List.sum_cons]
    omega
theorem elem_le_sum {r : List Int} (hr : ∀ x ∈ r, 0 ≤ x) (i : Nat) : (r[i]?).getD 0 ≤ r.sum := by
  induction r generalizing i with
  | nil => simp
  | cons x r ih =>
    have h0 := hr x (by simp)
    have hs := sum_nn (r := r) (fun y hy => hr y (by simp [hy]))
    rw [List.sum_cons]
    cases i with
    | zero => rw [List.getElem?_cons_zero, Option.getD_some]; omega
    | succ i => have := ih (fun y hy => hr y (by simp [hy])) i; rw [List.getElem?_cons_succ]; omega
theorem colsum_le {t : List (List Int)} (h : RowsP t) (k : Nat) : 0 ≤ colsum t k ∧ colsum t k ≤ tsum t := by
  unfold colsum tsum
  refine ⟨?_, sum_le_sum fun r hr => elem_le_sum (fun x hx => ((h r hr).2 x hx).1) k⟩
  have := sum_bound (p := t.map fun r => (r[k]?).getD 0) (b := 9999) (fun x hx => by
    obtain ⟨r, hr, rfl⟩ := List.mem_map.1 hx
    cases e : r[k]? with
    | none => simp
    | some v => simp; exact (h r hr).2 v (List.mem_of_getElem? e))
  exact this.1
theorem kE_bound {t : List (List Int)} (h : RowsP t) (hf : tsum t ≤ 9999) : ∀ i, i ≤ t.length → 0 ≤ kE t i ∧ kE t i ≤ tsum (t.take i) * tsum t ∧ tsum (t.take i) ≤ 9999 ∧ 0 ≤ tsum (t.take i) := by
  intro i
  induction i with
  | zero => intro _; simp [kE, tsum]
  | succ i ih =>
    intro hi
    obtain ⟨a1, a2, a3, a4⟩ := ih (by omega)
    have hi' : i < t.length := by omega
    have hr := row_bound (h _ (List.getElem_mem hi'))
    have hc := colsum_le h i
    have htk : RowsP (t.take (i + 1)) := fun r hr => h r (List.mem_of_mem_take hr)
    have ht : tsum (t.take (i + 1)) ≤ tsum t := by
      have h1 : tsum t = tsum (t.take (i + 1)) + tsum (t.drop (i + 1)) := by
        unfold tsum
        rw [← List.sum_append, ← List.map_append, List.take_append_drop]
      have := tsum_bound (t := t.drop (i + 1)) (fun r hr => h r (List.mem_of_mem_drop hr))
      omega
    have h0 := tsum_bound htk
    rw [kE, List.getElem?_eq_getElem hi', Option.getD_some]
    have m1 : 0 ≤ t[i].sum * colsum t i := Int.mul_nonneg hr.1 hc.1
    have m2 : t[i].sum * colsum t i ≤ t[i].sum * tsum t := Int.mul_le_mul_of_nonneg_left hc.2 hr.1
    have m3 : tsum (t.take (i + 1)) * tsum t = tsum (t.take i) * tsum t + t[i].sum * tsum t := by rw [tsum_succ hi', Int.add_mul]
    have m4 : tsum (t.take (i + 1)) * tsum t ≤ 9999 * 9999 := by
      refine Int.le_trans (Int.mul_le_mul_of_nonneg_left hf h0.1) ?_
      exact Int.mul_le_mul_of_nonneg_right (by omega) (by omega)
    rw [wrap_id (n := t[i].sum * colsum t i) (by omega) (by omega), wrap_id (by omega) (by omega)]
    exact ⟨by omega, by omega, by omega, h0.1⟩
theorem diag_le {n : Int} {s : Timpl_Score} {N : Nat} (h : Sq n s N) : 0 ≤ diag s.Table_ N ∧ diag s.Table_ N ≤ tsum s.Table_ := by
  have e : tsum s.Table_ = ((List.range N).map fun k => (s.Table_[k]?.getD []).sum).sum := by
    unfold tsum
    congr 1
    apply List.ext_getElem
    · simp [h.len]
    · intro k h1 h2
      simp at h1
      simp [h1]
  constructor
  · have := sum_bound (p := (List.range N).map fun k => ent s.Table_ k k) (b := 9999) (fun x hx => by
      obtain ⟨k, hk, rfl⟩ := List.mem_map.1 hx
      obtain ⟨h1, h2, e, h3⟩ := h.ent_b (List.mem_range.1 hk) (List.mem_range.1 hk)
      omega)
    exact this.1
  · rw [e]
    refine sum_le_sum fun k hk => ?_
    have hk := List.mem_range.1 hk
    have h1 : k < s.Table_.length := by rw [h.len]; exact hk
    unfold ent
    rw [List.getElem?_eq_getElem h1, Option.getD_some]
    exact elem_le_sum (fun x hx => ((h.rows _ (List.getElem_mem h1)).2 x hx).1) k
theorem lastRight_le {n : Int} {s : Timpl_Score} {N : Nat} (hs : sml_Score s) (hp : ScoreP n s) (h : Sq n s N) : ∃ m, impl_LastRight n s = some m ∧ m ≤ diag s.Table_ N := by
  have e : impl_ScoreOk n s = some true := by
    rcases (implScore (n := n) hs).cases with ⟨e, _⟩ | ⟨_, h'⟩
    · exact e
    · exact absurd hp h'
  have hl := hs.2.1
  refine ⟨((s.Last_.countP (fun p => p.Truth_ == p.Said_) : Nat) : Int), ?_, ?_⟩
  · unfold impl_LastRight
    rw [e]
    simp only [Option.bind_some, Bool.not_true, Bool.false_eq_true, if_false]
    have := for_idx (Lp := fun k i => impl_LastRight_L1 s k (i : Int) (((s.Last_.take i).countP (fun p => p.Truth_ == p.Said_) : Nat) : Int)) (n := s.Last_.length) (fin := some ((s.Last_.countP (fun p => p.Truth_ == p.Said_) : Nat) : Int)) (fun k => by
      show impl_LastRight_L1 s (k + 1) _ _ = _
      rw [impl_LastRight_L1, if_neg (by simp), List.take_length]) (fun k i hi => by
      show impl_LastRight_L1 s (k + 1) _ _ = impl_LastRight_L1 s k _ _
      have hc : (s.Last_.take i).countP (fun p => p.Truth_ == p.Said_) ≤ i := Nat.le_trans List.countP_le_length (by simp; omega)
      rw [impl_LastRight_L1, if_pos (by simp; omega), idx_lt hi, wrap_succ (by omega), wrap_succ (by omega), List.take_succ_eq_append_getElem hi, List.countP_append]
      simp only [Option.bind_some]
      by_cases h1 : s.Last_[i].Truth_ = s.Last_[i].Said_
      · simp [h1]
      · simp [h1]) (by omega)
    simpa using this
  · rw [← diag_count h.two (fun p hp' => by have := h.last p hp'; rwa [h.n_eq] at this)]
    unfold diag
    refine sum_le_sum fun k hk => ?_
    have hk := List.mem_range.1 hk
    obtain ⟨h1, h2, _, _⟩ := h.ent_b hk hk
    obtain ⟨_, _, hR, _⟩ := hp
    exact ((hR k h1 h1).2 k h2).2
theorem gcd_val : ∀ (b a k : Nat), b < k → impl_Gcd_L1 k (a : Int) (b : Int) = some ((Nat.gcd a b : Nat) : Int) := by
  intro b
  induction b using Nat.strongRecOn with
  | ind b ih =>
    intro a k hk
    obtain ⟨k, rfl⟩ : ∃ q, k = q + 1 := ⟨k - 1, by omega⟩
    rw [impl_Gcd_L1]
    by_cases hb : b = 0
    · subst hb; simp
    · have hr : rem (a : Int) (b : Int) = some ((a % b : Nat) : Int) := by
        unfold rem
        rw [if_neg (by omega), tmod_nat]
      rw [if_pos (by simp; omega), hr]
      simp only [Option.bind_some]
      rw [ih (a % b) (Nat.mod_lt _ (by omega)) b k (by have := Nat.mod_lt a (show b > 0 by omega); omega), Nat.gcd_comm a b, Nat.gcd_rec b a, Nat.gcd_comm]
theorem recall_low {n : Int} {s : Timpl_Score} {N : Nat} (hs : sml_Score s) (hp : ScoreP n s) (h : Sq n s N) {k : Nat} (hk : k < N) : ∃ r, impl_Recall n s k = some r ∧ 1 ≤ r.Den_ ∧ r.Num_ ≤ r.Den_ := by
  have hN := h.two
  have hn := h.n_eq
  have e : impl_ScoreOk n s = some true := by
    rcases (implScore (n := n) hs).cases with ⟨e, _⟩ | ⟨_, h'⟩
    · exact e
    · exact absurd hp h'
  obtain ⟨h1, h2, e3, h3⟩ := h.ent_b hk hk
  have hr := h.rows _ (List.getElem_mem h1)
  have hb := row_bound hr
  have hle := elem_le_sum (fun x hx => (hr.2 x hx).1) k
  rw [List.getElem?_eq_getElem h2, Option.getD_some] at hle
  unfold impl_Recall impl_within
  rw [e]
  simp only [Option.bind_some, Bool.not_true, Bool.false_eq_true, if_false]
  rw [wrap_id (n := n - 1) (by omega) (by omega), in_t (by omega)]
  simp only [Bool.not_true, Bool.false_eq_true, if_false]
  rw [idx_lt h1]
  simp only [Option.bind_some]
  rw [idx_lt h2]
  simp only [Option.bind_some]
  rw [total_ok (fun x hx => by have := hr.2 x hx; omega) (by omega)]
  simp only [Option.bind_some]
  unfold impl_share
  by_cases h0 : s.Table_[k].sum = 0
  · rw [if_pos (by simpa using h0)]
    exact ⟨_, rfl, Int.le_refl _, by show (0 : Int) ≤ 1; omega⟩
  · rw [if_neg (by simpa using h0)]
    obtain ⟨x, hx⟩ : ∃ x : Nat, s.Table_[k][k] = x := ⟨s.Table_[k][k].toNat, by omega⟩
    obtain ⟨y, hy⟩ : ∃ y : Nat, s.Table_[k].sum = y := ⟨s.Table_[k].sum.toNat, by omega⟩
    rw [hx, hy]
    have hg : 0 < Nat.gcd x y := Nat.gcd_pos_of_pos_right _ (by omega)
    have hd : Nat.gcd x y ≤ y := Nat.gcd_le_right _ (by omega)
    unfold impl_FracLow impl_FracOk impl_within impl_Gcd
    simp only [Option.bind_some]
    rw [in_t (by omega), in_t (by omega)]
    simp only [if_true, Option.bind_some, Bool.not_true, Bool.false_eq_true, if_false]
    rw [if_neg (by simp), gcd_val y x Fuel (fuel_gt (by omega))]
    simp only [Option.bind_some]
    unfold quo
    rw [if_neg (by omega), if_neg (by omega), tdiv_nat, tdiv_nat]
    have q1 : x / Nat.gcd x y ≤ y / Nat.gcd x y := Nat.div_le_div_right (by omega)
    have q2 : 1 ≤ y / Nat.gcd x y := (Nat.le_div_iff_mul_le hg).2 (by omega)
    have q3 : y / Nat.gcd x y ≤ y := Nat.div_le_self _ _
    generalize y / Nat.gcd x y = v at *
    generalize x / Nat.gcd x y = u at *
    refine ⟨_, rfl, ?_, ?_⟩
    · show 1 ≤ IntKind.i64.wrap _
      rw [wrap_id (by omega) (by omega)]; omega
    · show IntKind.i64.wrap _ ≤ IntKind.i64.wrap _
      rw [wrap_id (by omega) (by omega), wrap_id (by omega) (by omega)]; omega
theorem kappa_holds (p : List Int) : laws_FnKappa p = some true := by
  unfold laws_FnKappa laws_big
  simp only [Option.bind_some]
  by_cases hp : 1048576 < p.length
  · rw [if_pos (by simp; omega)]
  · rw [if_neg (by simp; omega)]
    obtain ⟨⟨n, s⟩, e, hs⟩ := drawKappa (p := p) (by omega)
    have hs : sml_Score s := hs
    rw [e]
    simp only [Option.bind_some]
    rcases (specScore (n := n) hs).cases with ⟨e1, hP⟩ | ⟨e1, hP⟩
    · obtain ⟨N, h⟩ := sq_of hP
      have hN := h.two
      have hn := h.n_eq
      obtain ⟨k1, k2⟩ := kappa_val hs hP h
      obtain ⟨_, c2⟩ := count_both hs hP
      obtain ⟨m, l1, l2⟩ := lastRight_le hs hP h
      obtain ⟨d1, d2⟩ := diag_le h
      have hf := h.few
      obtain ⟨b1, b2, _, _⟩ := kE_bound h.rows hf N (by rw [h.len]; omega)
      rw [show s.Table_.take N = s.Table_ by rw [← h.len, List.take_length]] at b2
      rw [k1, e1, c2, k2]
      simp only [Option.bind_some, Bool.not_true, Bool.false_eq_true, if_false]
      generalize hE : kE s.Table_ N = E at *
      generalize hR : diag s.Table_ N = R at *
      generalize hA : tsum s.Table_ = A at *
      have m1 : A * R ≤ A * A := Int.mul_le_mul_of_nonneg_left d2 (by omega)
      have m2 : 0 ≤ A * R := Int.mul_nonneg (by omega) d1
      have m3 : A * A ≤ 9999 * 9999 := Int.le_trans (Int.mul_le_mul_of_nonneg_left hf (by omega)) (Int.mul_le_mul_of_nonneg_right (by omega) (by omega))
      have m4 : A * (A - R) = A * A - A * R := Int.mul_sub ..
      rw [wrap_id (n := A * R) (by omega) (by omega), wrap_id (n := A * A) (by omega) (by omega), wrap_id (n := A * R - E) (by omega) (by omega), wrap_id (n := A * A - E) (by omega) (by omega)]
      refine for_idx (Lp := fun k i => laws_FnKappa_L1 (n, s) (A * R - E, A * A - E) A R k (i : Int)) (n := N) (fun k => ?_) (fun k i hi => ?_) (by omega)
      · show laws_FnKappa_L1 _ _ _ _ (k + 1) _ = _
        rw [laws_FnKappa_L1, if_neg (by simp; omega)]
        simp only
        rw [wrap_id (n := A * A - E - (A * R - E)) (by omega) (by omega), wrap_id (n := A - R) (by omega) (by omega), wrap_id (n := A * (A - R)) (by omega) (by omega), l1]
        rw [if_pos (by simp; omega)]
        simp only [Option.bind_some]
        rw [decide_eq_true (by omega)]
      · show laws_FnKappa_L1 _ _ _ _ (k + 1) _ = laws_FnKappa_L1 _ _ _ _ k _
        obtain ⟨r, r1, r2, r3⟩ := recall_low hs hP h hi
        rw [laws_FnKappa_L1, if_pos (by simp; omega)]
        simp only
        rw [r1, wrap_succ (by omega)]
        simp only [Option.bind_some]
        rw [if_neg (by simp; omega)]
    · have e2 : impl_ScoreOk n s = some false := by
        rw [← (specScore (n := n) hs).eq (implScore hs)]; exact e1
      unfold impl_Kappa
      rw [e1, e2]
      rfl
end Go.Vk
