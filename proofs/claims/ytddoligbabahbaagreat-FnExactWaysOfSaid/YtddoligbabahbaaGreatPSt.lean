/- Statistics: tested alike; the greatest of a list. -/
import Derived.Test.YtddoligbabahbaaGreatQW
import Derived.Test.YtddoligbabahbaaGreatPBo
namespace Go.Vk
theorem okM_of {a : Timpl_Attr} (h : sml_Attr a) : OkM a := by
  obtain ⟨h1, h2, h3⟩ := h
  exact ⟨by omega, by have := h2.1; omega, by have := h3.1; omega, fun y hy => by have := h3.2 y hy; omega⟩
theorem okS_of {s : Timpl_Schema} (h : sml_Schema s) : OkS s := by
  obtain ⟨h1, h2⟩ := h
  exact ⟨by have := h1.1; omega, fun a ha => okM_of (h1.2 a ha), by have := h2.1; omega, fun y hy => by have := h2.2 y hy; omega⟩
theorem dec_bind {o : Option Bool} {P R : Prop} {f : Bool → Option Bool} (h : Dec o P) (ht : P → Dec (f true) R) (hf : ¬ P → Dec (f false) R) : Dec (o.bind f) R := by
  rcases h.cases with ⟨e, hp⟩ | ⟨e, hp⟩
  · rw [e]; exact ht hp
  · rw [e]; exact hf hp
theorem dec_if {c : Prop} [Decidable c] {P R : Prop} {a b : Option Bool} (e : c ↔ P) (ht : P → Dec a R) (hf : ¬ P → Dec b R) : Dec (if c then a else b) R := by
  by_cases hc : c
  · rw [if_pos hc]; exact ht (e.1 hc)
  · rw [if_neg hc]; exact hf (fun hp => hc (e.2 hp))
theorem dec_within {x a b : Int} : Dec (impl_within x a b) (a ≤ x ∧ x ≤ b) := dec_in
theorem dec_l1In {x a b : Int} : Dec (spec_l1In x a b) (a ≤ x ∧ x ≤ b) := dec_in
/-- how many bins an attribute has -/
def nb (a : Timpl_Attr) : Nat := if 0 < a.Cuts_.length then a.Cuts_.length + 1 else a.Values_.length
theorem implBins {a : Timpl_Attr} (hx : sml_Attr a) : impl_bins a = some (nb a : Int) := by
  have h1 := hx.2.1.1
  unfold impl_bins nb
  by_cases h0 : 0 < a.Cuts_.length
  · rw [if_pos (by simpa using h0), if_pos h0, wrap_succ (by omega)]
  · rw [if_neg (by simpa using h0), if_neg h0]
theorem nb_b {a : Timpl_Attr} (h : AttrP a) : 2 ≤ nb a ∧ nb a ≤ 4 := by
  unfold nb
  rcases h.2 with ⟨h1, h2, _⟩ | ⟨h1, h2, _⟩
  · rw [if_neg (by omega)]; omega
  · rw [if_pos (by omega)]; omega
theorem specBins {a : Timpl_Attr} (hx : sml_Attr a) (h : AttrP a) : spec_Bins a = some (nb a : Int) := by
  obtain ⟨n, b1, b2, _⟩ := bins_ok (okM_of hx) h
  rw [b1, ← b2, implBins hx]
theorem SchemaP.attr {s : Timpl_Schema} (h : SchemaP s) {i : Nat} (hi : i < s.Attrs_.length) : AttrP s.Attrs_[i] := (h.2.2.2 i (Nat.zero_le _) hi hi).1
/-! sums of columns -/
def colS (l : List Int) (c k : Nat) : Nat → Int
  | 0 => 0
  | b + 1 => colS l c k b + l.getD (b * c + k) 0
def CellP (c n : Nat) (tot l : List Int) : Prop := l.length = n * c ∧ (∀ x ∈ l, 0 ≤ x ∧ x ≤ 999) ∧ ∀ k, k < c → colS l c k n ≤ tot.getD k 0
def StatsP (s : Timpl_Schema) (t : Timpl_Stats) : Prop := SchemaP s ∧ t.Totals_.length = s.Classes_.length ∧ (∀ x ∈ t.Totals_, 0 ≤ x ∧ x ≤ 999) ∧ t.Totals_.sum ≤ 999 ∧
  (t.Cells_.length = 0 ∨ (t.Cells_.length = s.Attrs_.length ∧ ∀ i (h : i < t.Cells_.length) (h2 : i < s.Attrs_.length), CellP s.Classes_.length (nb s.Attrs_[i]) t.Totals_ t.Cells_[i]))
theorem getD_b {l : List Int} (h : ∀ x ∈ l, 0 ≤ x ∧ x ≤ 999) (i : Nat) : 0 ≤ l.getD i 0 ∧ l.getD i 0 ≤ 999 := by
  rw [List.getD_eq_getElem?_getD]
  by_cases hi : i < l.length
  · rw [List.getElem?_eq_getElem hi]; exact h _ (List.getElem_mem hi)
  · rw [List.getElem?_eq_none (by omega)]; simp
theorem getD_lt {l : List Int} {i : Nat} (h : i < l.length) : l.getD i 0 = l[i] := by simp [h]
theorem colS_b {l : List Int} {c k : Nat} (h : ∀ x ∈ l, 0 ≤ x ∧ x ≤ 999) : ∀ n : Nat, 0 ≤ colS l c k n ∧ colS l c k n ≤ 999 * n
  | 0 => by simp [colS]
  | n + 1 => by
    have := colS_b (c := c) (k := k) h n
    have := getD_b h (n * c + k)
    simp only [colS]
    omega
theorem colS_mono {l : List Int} {c k : Nat} (h : ∀ x ∈ l, 0 ≤ x ∧ x ≤ 999) {n m : Nat} (hm : n ≤ m) : colS l c k n ≤ colS l c k m := by
  induction m with
  | zero => rw [show n = 0 by omega]; exact Int.le_refl _
  | succ m ih =>
    by_cases e : n = m + 1
    · rw [e]; exact Int.le_refl _
    · have := ih (by omega)
      have := getD_b h (m * c + k)
      simp only [colS]
      omega
theorem weights_ok {l : List Int} (hl : l.length ≤ 1048576) (n : Int) : Dec (impl_weights l n) ((l.length : Int) = n ∧ ∀ x ∈ l, 0 ≤ x ∧ x ≤ 999) := by
  unfold impl_weights
  by_cases hn : (l.length : Int) = n
  · rw [if_pos (by simpa using hn)]
    have hf : Dec (lib_slices_ContainsFunc___int_int___impl_weights_1 l) (∃ i, i < l.length ∧ ∀ h : i < l.length, ¬ (0 ≤ l[i] ∧ l[i] ≤ 999)) := by
      unfold lib_slices_ContainsFunc___int_int___impl_weights_1 lib_slices_IndexFunc___int_int___impl_weights_1
      refine find_idx (Lp := lib_slices_IndexFunc___int_int___impl_weights_1_L1 l) (n := l.length) (fun k i hi => ?_) (fun k i hi => ?_) (by omega)
      · show (if _ then _ else _) = _
        rw [if_neg (by simp; omega)]
      · rw [lib_slices_IndexFunc___int_int___impl_weights_1_L1, if_pos (by simp; omega), idx_lt hi, wrap_succ (by omega)]
        unfold impl_weights_1 impl_within
        simp only [Option.bind_some]
        by_cases h : 0 ≤ l[i] ∧ l[i] ≤ 999
        · rw [in_t h]; exact .inr ⟨fun g => g hi h, rfl⟩
        · rw [in_f h]; exact .inl ⟨fun _ => h, rfl⟩
    rcases hf.cases with ⟨e, i, hi, h⟩ | ⟨e, h⟩
    · rw [e]; exact dec_f fun g => h hi (g.2 _ (List.getElem_mem hi))
    · rw [e]; exact dec_t ⟨hn, fun x hx => by
        obtain ⟨i, hi, rfl⟩ := List.getElem_of_mem hx
        exact Classical.byContradiction fun c => h ⟨i, hi, fun _ => c⟩⟩
  · rw [if_neg (by simpa using hn)]
    exact dec_f fun g => hn g.1
theorem total_of {p : List Int} (hb : ∀ x ∈ p, 0 ≤ x ∧ x ≤ 1000000000) (hl : p.length ≤ 1048576) : impl_total p = some p.sum := by
  unfold impl_total
  have h := sum_loop (p := p) (fun x => x) (impl_total_L1 p) some (fun k s => by
    show (if _ then _ else _) = _
    rw [if_neg (by simp)]) (fun k s i hi => by
    rw [impl_total_L1, if_pos (by simp; omega), idx_lt hi, wrap_succ (by omega)]
    rfl) hb (by omega)
  simpa using h
/-! the program's loop over the cells of one attribute -/
def sumsAt (l : List Int) (c i : Nat) : List Int := (List.range c).map fun k => colS l c k (i / c + if k < i % c then 1 else 0)
theorem sumsAt_len (l : List Int) (c i : Nat) : (sumsAt l c i).length = c := by simp [sumsAt]
theorem sumsAt_get {l : List Int} {c i k : Nat} (h : k < c) : (sumsAt l c i)[k]'(by simpa [sumsAt] using h) = colS l c k (i / c + if k < i % c then 1 else 0) := by simp [sumsAt]
theorem sumsAt_succ {l : List Int} {c i : Nat} (hc : 0 < c) : sumsAt l c (i + 1) = (sumsAt l c i).set (i % c) (colS l c (i % c) (i / c + 1)) := by
  have hm := Nat.mod_lt i hc
  have hd := Nat.div_add_mod i c
  apply List.ext_getElem (by simp [sumsAt])
  intro k h1 h2
  have hk : k < c := by simpa [sumsAt] using h1
  rw [sumsAt_get hk, List.getElem_set]
  by_cases hlast : i % c + 1 = c
  · have e1 : (i + 1) / c = i / c + 1 := by
      have : i + 1 = c * (i / c + 1) := by rw [Nat.mul_add, Nat.mul_one]; omega
      rw [this, Nat.mul_div_cancel_left _ hc]
    have e2 : (i + 1) % c = 0 := by
      have : i + 1 = c * (i / c + 1) := by rw [Nat.mul_add, Nat.mul_one]; omega
      rw [this, Nat.mul_mod_right]
    rw [e1, e2, if_neg (by omega)]
    by_cases he : i % c = k
    · rw [if_pos he, he]
    · rw [if_neg he, sumsAt_get hk, if_pos (by omega)]
  · have e1 : (i + 1) / c = i / c := by
      have : i + 1 = (i % c + 1) + c * (i / c) := by omega
      rw [this, Nat.add_mul_div_left _ _ hc, Nat.div_eq_of_lt (by omega), Nat.zero_add]
    have e2 : (i + 1) % c = i % c + 1 := by
      have : i + 1 = (i % c + 1) + c * (i / c) := by omega
      rw [this, Nat.add_mul_mod_self_left, Nat.mod_eq_of_lt (by omega)]
    rw [e1, e2]
    by_cases he : i % c = k
    · rw [if_pos he, if_pos (by omega), he]
    · rw [if_neg he, sumsAt_get hk]
      by_cases hlt : k < i % c
      · rw [if_pos (by omega), if_pos hlt]
      · rw [if_neg (by omega), if_neg hlt]
theorem sumsAt_zero (l : List Int) (c : Nat) : sumsAt l c 0 = List.replicate c 0 := by
  apply List.ext_getElem (by simp [sumsAt])
  intro k h1 h2
  have hk : k < c := by simpa [sumsAt] using h1
  rw [sumsAt_get hk]
  simp [colS]
theorem cells_impl {s : Timpl_Schema} {t : Timpl_Stats} {l : List Int} {n : Nat} (hS : SchemaP s) (hT : t.Totals_.length = s.Classes_.length) (hn : n ≤ 4) (h1 : l.length = n * s.Classes_.length) (h2 : ∀ x ∈ l, 0 ≤ x ∧ x ≤ 999) (R : Int → Option Bool) (i : Nat) (hi : i ≤ 1048576) :
    ((∀ k, k < s.Classes_.length → colS l s.Classes_.length k n ≤ t.Totals_.getD k 0 ∨ n = 0) ∧ impl_StatsOk_L2 l s t R (i : Int) Fuel 0 (List.replicate s.Classes_.length 0) = R ((i + 1 : Nat) : Int)) ∨
    ((¬ ∀ k, k < s.Classes_.length → colS l s.Classes_.length k n ≤ t.Totals_.getD k 0 ∨ n = 0) ∧ impl_StatsOk_L2 l s t R (i : Int) Fuel 0 (List.replicate s.Classes_.length 0) = some false) := by
  have hcb : 2 ≤ s.Classes_.length ∧ s.Classes_.length ≤ 3 := by have := hS.2.1; omega
  generalize hc : s.Classes_.length = c at *
  have hc0 : 0 < c := by omega
  have hlen : l.length ≤ 12 := by
    have : n * c ≤ 4 * 3 := Nat.mul_le_mul hn hcb.2
    omega
  rw [← sumsAt_zero l c]
  rcases if_idx (Lp := fun k j => impl_StatsOk_L2 l s t R (i : Int) k (j : Int) (sumsAt l c j)) (n := l.length) (Q := fun j => colS l c (j % c) (j / c + 1) ≤ t.Totals_.getD (j % c) 0) (fin := R ((i + 1 : Nat) : Int)) (bad := some false) (fun k _ => by
      show impl_StatsOk_L2 l s t R (i : Int) (k + 1) _ _ = _
      rw [impl_StatsOk_L2, if_neg (by simp), wrap_succ (by omega)]) (fun k j hj _ => by
      show (_ ∧ impl_StatsOk_L2 l s t R (i : Int) (k + 1) _ _ = _) ∨ (_ ∧ impl_StatsOk_L2 l s t R (i : Int) (k + 1) _ _ = _)
      have hm := Nat.mod_lt j hc0
      have hrem : rem (j : Int) (c : Int) = some ((j % c : Nat) : Int) := by
        unfold rem
        rw [if_neg (by omega), tmod_nat]
      have hjd : j / c * c + j % c = j := by rw [Nat.mul_comm]; exact Nat.div_add_mod j c
      have hval : colS l c (j % c) (j / c + 1) = colS l c (j % c) (j / c) + l[j] := by
        simp only [colS]
        rw [hjd, getD_lt hj]
      have hb := colS_b (c := c) (k := j % c) h2 (j / c)
      have hdv : j / c ≤ 12 := Nat.le_trans (Nat.div_le_self _ _) (by omega)
      have hlj := h2 _ (List.getElem_mem hj)
      have hg : (sumsAt l c j)[j % c]'(by rw [sumsAt_len]; exact hm) = colS l c (j % c) (j / c) := by
        rw [sumsAt_get hm, if_neg (by omega)]; rfl
      have hw : IntKind.i64.wrap (colS l c (j % c) (j / c) + l[j]) = colS l c (j % c) (j / c + 1) := by
        rw [hval, wrap_id (by omega) (by omega)]
      rw [impl_StatsOk_L2, if_pos (by simp; omega), idx_lt hj, hc, hrem]
      simp only [Option.bind_some]
      rw [idx_lt (by rw [sumsAt_len]; exact hm), hg]
      simp only [Option.bind_some, Int.toNat_natCast]
      rw [hw, ← sumsAt_succ hc0, idx_lt (by rw [sumsAt_len]; exact hm), idx_lt (by omega : j % c < t.Totals_.length)]
      simp only [Option.bind_some]
      have hg2 : (sumsAt l c (j + 1))[j % c]'(by rw [sumsAt_len]; exact hm) = colS l c (j % c) (j / c + 1) := by
        simp only [sumsAt_succ hc0, List.getElem_set_self]
      rw [hg2, getD_lt (by omega : j % c < t.Totals_.length), wrap_succ (by omega)]
      by_cases hq : colS l c (j % c) (j / c + 1) ≤ t.Totals_[j % c]
      · rw [if_neg (by simpa using hq)]
        exact .inl ⟨hq, rfl⟩
      · rw [if_pos (by simpa using hq)]
        exact .inr ⟨hq, rfl⟩) (by omega) with ⟨h3, h4⟩ | ⟨h3, h4⟩
  · refine .inl ⟨fun k hk => ?_, h4⟩
    by_cases hn0 : n = 0
    · exact .inr hn0
    · left
      have hlt : (n - 1) * c + k < l.length := by
        rw [h1]
        obtain ⟨m, rfl⟩ : ∃ m, n = m + 1 := ⟨n - 1, by omega⟩
        rw [Nat.add_sub_cancel, Nat.add_mul]; omega
      have := h3 _ hlt
      rw [show ((n - 1) * c + k) % c = k by rw [Nat.mul_comm, Nat.mul_add_mod, Nat.mod_eq_of_lt hk], show ((n - 1) * c + k) / c + 1 = n by rw [Nat.mul_comm, Nat.mul_add_div hc0, Nat.div_eq_of_lt hk]; omega] at this
      exact this
  · refine .inr ⟨fun g => h3 fun j hj => ?_, h4⟩
    have hm := Nat.mod_lt j hc0
    rcases g _ hm with g | g
    · refine Int.le_trans (colS_mono h2 ?_) g
      have : j / c < n := Nat.div_lt_of_lt_mul (by rw [Nat.mul_comm]; omega)
      omega
    · rw [h1, g, Nat.zero_mul] at hj
      omega
theorem implStats {s : Timpl_Schema} {t : Timpl_Stats} (hs : sml_Schema s) (ht : sml_Stats t) : Dec (impl_StatsOk s t) (StatsP s t) := by
  unfold impl_StatsOk StatsP
  refine dec_bind (implSchema (okS_of hs)) (fun hS => ?_) (fun g => dec_f fun h => g h.1)
  simp only [Bool.not_true, Bool.false_eq_true, if_false]
  have hl := ht.1.1
  have hl2 := ht.2.1
  rcases (weights_ok hl (s.Classes_.length : Int)).cases with ⟨e, hw⟩ | ⟨e, hw⟩
  · rw [e]
    simp only [Option.bind_some, Bool.not_true, Bool.false_eq_true, if_false]
    have hT : t.Totals_.length = s.Classes_.length := by omega
    rw [total_of (fun x hx => by have := hw.2 x hx; omega) hl]
    simp only [Option.bind_some]
    by_cases hsum : t.Totals_.sum ≤ 999
    · rw [if_neg (by simp; omega)]
      by_cases h0 : t.Cells_.length = 0
      · rw [if_pos (by simp; exact List.length_eq_zero_iff.1 h0)]
        exact dec_t ⟨hS, hT, hw.2, hsum, .inl h0⟩
      · rw [if_neg (by rw [beq_iff_eq]; omega)]
        by_cases hn : t.Cells_.length = s.Attrs_.length
        · rw [if_neg (by simp [hn])]
          refine (dec_idx (Lp := fun k i => impl_StatsOk_L1 t s k (i : Int)) (n := t.Cells_.length) (Q := fun i => ∀ (h : i < t.Cells_.length) (h2 : i < s.Attrs_.length), CellP s.Classes_.length (nb s.Attrs_[i]) t.Totals_ t.Cells_[i]) (F := True) (fun k _ => ?_) (fun k i hi _ => ?_) (by omega)).of_iff
            ⟨fun g => ⟨hS, hT, hw.2, hsum, .inr ⟨hn, fun i h h2 => g.1 i h h h2⟩⟩, fun g => ⟨fun i _ h h2 => by
              rcases g.2.2.2.2 with g | g
              · exact absurd g h0
              · exact g.2 i h h2, trivial⟩⟩
          · show Dec (impl_StatsOk_L1 t s (k + 1) _) _
            rw [impl_StatsOk_L1, if_neg (by simp)]
            exact dec_t trivial
          · show (_ ∧ impl_StatsOk_L1 t s (k + 1) _ = impl_StatsOk_L1 t s k _) ∨ (_ ∧ impl_StatsOk_L1 t s (k + 1) _ = _)
            have ha : i < s.Attrs_.length := by omega
            have hA := hs.1.2 _ (List.getElem_mem ha)
            have hnb := nb_b (hS.attr ha)
            have hcl := ht.2.2 _ (List.getElem_mem hi)
            have hc := hS.2.1
            have hmul : nb s.Attrs_[i] * s.Classes_.length ≤ 4 * 3 := Nat.mul_le_mul (by omega) (by omega)
            rw [impl_StatsOk_L1, if_pos (by simp; omega), idx_lt hi, idx_lt ha]
            simp only [Option.bind_some]
            rw [implBins hA]
            simp only [Option.bind_some]
            have hw2 : IntKind.i64.wrap ((nb s.Attrs_[i] : Int) * (s.Classes_.length : Int)) = ((nb s.Attrs_[i] * s.Classes_.length : Nat) : Int) := by
              rw [← Int.natCast_mul, wrap_nat (by omega)]
            rw [hw2]
            rcases (weights_ok hcl.1 ((nb s.Attrs_[i] * s.Classes_.length : Nat) : Int)).cases with ⟨e2, h2⟩ | ⟨e2, h2⟩
            · rw [e2]
              simp only [Option.bind_some, Bool.not_true, Bool.false_eq_true, if_false]
              unfold impl_zeros
              rw [mk_eq _ (by omega)]
              simp only [Option.bind_some]
              have hlen : t.Cells_[i].length = nb s.Attrs_[i] * s.Classes_.length := by omega
              rcases cells_impl (t := t) hS hT hnb.2 hlen h2.2 (impl_StatsOk_L1 t s k) i (by omega) with ⟨h3, h4⟩ | ⟨h3, h4⟩
              · exact .inl ⟨fun _ _ => ⟨hlen, h2.2, fun k hk => by
                  rcases h3 k hk with g | g
                  · exact g
                  · omega⟩, h4⟩
              · exact .inr ⟨fun g => h3 fun k hk => .inl ((g hi ha).2.2 k hk), h4⟩
            · rw [e2]
              exact .inr ⟨fun g => h2 ⟨by have := (g hi ha).1; omega, (g hi ha).2.1⟩, rfl⟩
        · rw [if_pos (by simp; omega)]
          exact dec_f fun g => by
            rcases g.2.2.2.2 with g | g
            · exact h0 g
            · exact hn g.1
    · rw [if_pos (by simp; omega)]
      exact dec_f fun g => hsum g.2.2.2.1
  · rw [e]
    exact dec_f fun g => hw ⟨by have := g.2.1; omega, g.2.2.1⟩
/-! the reference's loops -/
theorem cells_spec {s : Timpl_Schema} {t : Timpl_Stats} {l : List Int} {n i : Nat} (hS : SchemaP s) (hT : t.Totals_.length = s.Classes_.length) (hn : n ≤ 4) (hi : i < t.Cells_.length) (hl : t.Cells_[i] = l) (h1 : l.length = n * s.Classes_.length) (R : Int → Option Bool) (hi2 : i ≤ 1048576) :
    (((∀ x ∈ l, 0 ≤ x ∧ x ≤ 999) ∧ ∀ k, k < s.Classes_.length → colS l s.Classes_.length k n ≤ t.Totals_.getD k 0) ∧ spec_StatsOk_L3 s (n : Int) t (i : Int) R Fuel 0 = R ((i + 1 : Nat) : Int)) ∨
    ((¬ ((∀ x ∈ l, 0 ≤ x ∧ x ≤ 999) ∧ ∀ k, k < s.Classes_.length → colS l s.Classes_.length k n ≤ t.Totals_.getD k 0)) ∧ spec_StatsOk_L3 s (n : Int) t (i : Int) R Fuel 0 = some false) := by
  have hcb : 2 ≤ s.Classes_.length ∧ s.Classes_.length ≤ 3 := by have := hS.2.1; omega
  generalize hc : s.Classes_.length = c at *
  have hc0 : 0 < c := by omega
  have hpos : ∀ k b, k < c → b < n → b * c + k < l.length := fun k b hk hb => by
    rw [h1]
    have : (b + 1) * c ≤ n * c := Nat.mul_le_mul_right _ hb
    rw [Nat.add_mul] at this; omega
  rcases if_idx (Lp := fun q k => spec_StatsOk_L3 s (n : Int) t (i : Int) R q (k : Int)) (n := c) (Q := fun k => (∀ b, b < n → 0 ≤ l.getD (b * c + k) 0 ∧ l.getD (b * c + k) 0 ≤ 999) ∧ colS l c k n ≤ t.Totals_.getD k 0) (fin := R ((i + 1 : Nat) : Int)) (bad := some false) (fun q _ => by
      show spec_StatsOk_L3 s (n : Int) t (i : Int) R (q + 1) _ = _
      rw [spec_StatsOk_L3, hc, if_neg (by simp), wrap_succ (by omega)]) (fun q k hk _ => by
      show (_ ∧ spec_StatsOk_L3 s (n : Int) t (i : Int) R (q + 1) _ = spec_StatsOk_L3 s (n : Int) t (i : Int) R q _) ∨ (_ ∧ spec_StatsOk_L3 s (n : Int) t (i : Int) R (q + 1) _ = _)
      rw [spec_StatsOk_L3, hc, if_pos (by simp; omega)]
      rcases if_idx (Lp := fun q2 b => spec_StatsOk_L4 (n : Int) t (i : Int) s (k : Int) (spec_StatsOk_L3 s (n : Int) t (i : Int) R q) q2 (colS l c k b) (b : Int)) (n := n) (Q := fun b => 0 ≤ l.getD (b * c + k) 0 ∧ l.getD (b * c + k) 0 ≤ 999)
          (fin := if colS l c k n ≤ t.Totals_.getD k 0 then spec_StatsOk_L3 s (n : Int) t (i : Int) R q ((k + 1 : Nat) : Int) else some false) (bad := some false) (fun q2 _ => by
          show spec_StatsOk_L4 (n : Int) t (i : Int) s (k : Int) (spec_StatsOk_L3 s (n : Int) t (i : Int) R q) (q2 + 1) _ _ = _
          rw [spec_StatsOk_L4, if_neg (by simp), idx_lt (by omega : k < t.Totals_.length), wrap_succ (by omega), getD_lt (by omega : k < t.Totals_.length)]
          simp only [Option.bind_some]
          by_cases g : colS l c k n ≤ t.Totals_[k]
          · rw [if_pos g, if_neg (by simpa using g)]
          · rw [if_neg g, if_pos (by simpa using g)]) (fun q2 b hb hQ => by
          show (_ ∧ spec_StatsOk_L4 (n : Int) t (i : Int) s (k : Int) (spec_StatsOk_L3 s (n : Int) t (i : Int) R q) (q2 + 1) _ _ = spec_StatsOk_L4 (n : Int) t (i : Int) s (k : Int) (spec_StatsOk_L3 s (n : Int) t (i : Int) R q) q2 _ _) ∨ (_ ∧ spec_StatsOk_L4 (n : Int) t (i : Int) s (k : Int) (spec_StatsOk_L3 s (n : Int) t (i : Int) R q) (q2 + 1) _ _ = _)
          have hlt := hpos k b hk hb
          have hbc : b * c ≤ 4 * 3 := Nat.mul_le_mul (by omega) (by omega)
          have hw : IntKind.i64.wrap (IntKind.i64.wrap ((b : Int) * (c : Int)) + (k : Int)) = ((b * c + k : Nat) : Int) := by
            rw [← Int.natCast_mul, wrap_nat (by omega), ← Int.natCast_add, wrap_nat (by omega)]
          have hcs : ∀ m, m ≤ b → 0 ≤ colS l c k m ∧ colS l c k m ≤ 999 * m := fun m => by
            induction m with
            | zero => intro _; simp [colS]
            | succ m ih =>
              intro hm
              have h3 := ih (by omega)
              have h4 := hQ m (by omega)
              simp only [colS]
              omega
          have hcb2 := hcs b (Nat.le_refl _)
          rw [spec_StatsOk_L4, if_pos (by simp; omega), idx_lt hi, hc, hw]
          simp only [Option.bind_some]
          rw [hl, idx_lt hlt]
          simp only [Option.bind_some]
          unfold spec_l1In
          simp only [Option.bind_some]
          have hgd := getD_lt hlt
          by_cases g : 0 ≤ l[b * c + k] ∧ l[b * c + k] ≤ 999
          · rw [in_t g, hgd]
            simp only [Bool.not_true, Bool.false_eq_true, if_false]
            rw [wrap_id (n := colS l c k b + l[b * c + k]) (by omega) (by omega), wrap_succ (by omega)]
            refine .inl ⟨g, ?_⟩
            congr 1
            simp only [colS]
            rw [hgd]
          · rw [in_f g, hgd]
            exact .inr ⟨g, rfl⟩) (by omega) with ⟨h3, h4⟩ | ⟨h3, h4⟩
      · have h4 : spec_StatsOk_L4 (n : Int) t (i : Int) s (k : Int) (spec_StatsOk_L3 s (n : Int) t (i : Int) R q) Fuel 0 0 = _ := h4
        rw [h4]
        by_cases g : colS l c k n ≤ t.Totals_.getD k 0
        · rw [if_pos g]; exact .inl ⟨⟨h3, g⟩, rfl⟩
        · rw [if_neg g]; exact .inr ⟨fun x => g x.2, rfl⟩
      · have h4 : spec_StatsOk_L4 (n : Int) t (i : Int) s (k : Int) (spec_StatsOk_L3 s (n : Int) t (i : Int) R q) Fuel 0 0 = _ := h4
        rw [h4]
        exact .inr ⟨fun x => h3 x.1, rfl⟩) (by omega) with ⟨h3, h4⟩ | ⟨h3, h4⟩
  · refine .inl ⟨⟨fun x hx => ?_, fun k hk => (h3 k hk).2⟩, h4⟩
    obtain ⟨j, hj, rfl⟩ := List.getElem_of_mem hx
    have hm := Nat.mod_lt j hc0
    have hjd : j / c * c + j % c = j := by rw [Nat.mul_comm]; exact Nat.div_add_mod j c
    have := (h3 _ hm).1 (j / c) (Nat.div_lt_of_lt_mul (by rw [Nat.mul_comm]; omega))
    rw [hjd, getD_lt hj] at this
    exact this
  · refine .inr ⟨fun g => h3 fun k hk => ⟨fun b hb => ?_, g.2 k hk⟩, h4⟩
    rw [getD_lt (hpos k b hk hb)]
    exact g.1 _ (List.getElem_mem _)
theorem specStats {s : Timpl_Schema} {t : Timpl_Stats} (hs : sml_Schema s) (ht : sml_Stats t) : Dec (spec_StatsOk s t) (StatsP s t) := by
  unfold spec_StatsOk StatsP
  refine dec_bind (specSchema (okS_of hs)) (fun hS => ?_) (fun g => dec_f fun h => g h.1)
  have hl := ht.1.1
  have hl2 := ht.2.1
  by_cases hT : t.Totals_.length = s.Classes_.length
  · rw [if_neg (by simp [hT])]
    have hcb : 2 ≤ s.Classes_.length ∧ s.Classes_.length ≤ 3 := by have := hS.2.1; omega
    have hD : (∀ i, i < t.Totals_.length → ∀ h : i < t.Totals_.length, 0 ≤ t.Totals_[i] ∧ t.Totals_[i] ≤ 999) → Dec (if decide (t.Totals_.sum > 999) then some false else if ((t.Cells_.length : Int) == 0) then some true else if ((t.Cells_.length : Int) != (s.Attrs_.length : Int)) then some false else spec_StatsOk_L2 t s Fuel 0) (t.Totals_.sum ≤ 999 ∧
        (t.Cells_.length = 0 ∨ (t.Cells_.length = s.Attrs_.length ∧ ∀ i (h : i < t.Cells_.length) (h2 : i < s.Attrs_.length), CellP s.Classes_.length (nb s.Attrs_[i]) t.Totals_ t.Cells_[i]))) := fun _ => by
      by_cases hsum : t.Totals_.sum ≤ 999
      · rw [if_neg (by simp; omega)]
        by_cases h0 : t.Cells_.length = 0
        · rw [if_pos (by simp; exact List.length_eq_zero_iff.1 h0)]
          exact dec_t ⟨hsum, .inl h0⟩
        · rw [if_neg (by rw [beq_iff_eq]; omega)]
          by_cases hn : t.Cells_.length = s.Attrs_.length
          · rw [if_neg (by simp [hn])]
            refine (dec_idx (Lp := fun k i => spec_StatsOk_L2 t s k (i : Int)) (n := t.Cells_.length) (Q := fun i => ∀ (h : i < t.Cells_.length) (h2 : i < s.Attrs_.length), CellP s.Classes_.length (nb s.Attrs_[i]) t.Totals_ t.Cells_[i]) (F := True) (fun k _ => ?_) (fun k i hi _ => ?_) (by omega)).of_iff
              ⟨fun g => ⟨hsum, .inr ⟨hn, fun i h h2 => g.1 i h h h2⟩⟩, fun g => ⟨fun i _ h h2 => by
                rcases g.2 with g | g
                · exact absurd g h0
                · exact g.2 i h h2, trivial⟩⟩
            · show Dec (spec_StatsOk_L2 t s (k + 1) _) _
              rw [spec_StatsOk_L2, if_neg (by simp)]
              exact dec_t trivial
            · show (_ ∧ spec_StatsOk_L2 t s (k + 1) _ = spec_StatsOk_L2 t s k _) ∨ (_ ∧ spec_StatsOk_L2 t s (k + 1) _ = _)
              have ha : i < s.Attrs_.length := by omega
              have hA := hs.1.2 _ (List.getElem_mem ha)
              have hnb := nb_b (hS.attr ha)
              have hmul : nb s.Attrs_[i] * s.Classes_.length ≤ 4 * 3 := Nat.mul_le_mul (by omega) (by omega)
              have hw2 : IntKind.i64.wrap ((nb s.Attrs_[i] : Int) * (s.Classes_.length : Int)) = ((nb s.Attrs_[i] * s.Classes_.length : Nat) : Int) := by
                rw [← Int.natCast_mul, wrap_nat (by omega)]
              rw [spec_StatsOk_L2, if_pos (by simp; omega), idx_lt hi, idx_lt ha]
              simp only [Option.bind_some]
              rw [specBins hA (hS.attr ha)]
              simp only [Option.bind_some]
              rw [hw2]
              by_cases hlen : t.Cells_[i].length = nb s.Attrs_[i] * s.Classes_.length
              · rw [if_neg (by rw [bne_iff_ne]; omega)]
                rcases cells_spec hS hT hnb.2 hi rfl hlen (spec_StatsOk_L2 t s k) (by omega) with ⟨h3, h4⟩ | ⟨h3, h4⟩
                · exact .inl ⟨fun _ _ => ⟨hlen, h3.1, h3.2⟩, h4⟩
                · exact .inr ⟨fun g => h3 ⟨(g hi ha).2.1, (g hi ha).2.2⟩, h4⟩
              · rw [if_pos (by rw [bne_iff_ne]; omega)]
                exact .inr ⟨fun g => hlen (g hi ha).1, rfl⟩
          · rw [if_pos (by simp; omega)]
            exact dec_f fun g => by
              rcases g.2 with g | g
              · exact h0 g
              · exact hn g.1
      · rw [if_pos (by simp; omega)]
        exact dec_f fun g => hsum g.1
    refine Dec.of_iff (P := (∀ i, i < t.Totals_.length → ∀ h : i < t.Totals_.length, 0 ≤ t.Totals_[i] ∧ t.Totals_[i] ≤ 999) ∧ (t.Totals_.sum ≤ 999 ∧
        (t.Cells_.length = 0 ∨ (t.Cells_.length = s.Attrs_.length ∧ ∀ i (h : i < t.Cells_.length) (h2 : i < s.Attrs_.length), CellP s.Classes_.length (nb s.Attrs_[i]) t.Totals_ t.Cells_[i])))) ?_ ⟨fun g => ⟨hS, hT, fun x hx => by
        obtain ⟨i, hi, rfl⟩ := List.getElem_of_mem hx
        exact g.1 i hi hi, g.2⟩, fun g => ⟨fun i hi _ => g.2.2.1 _ (List.getElem_mem hi), g.2.2.2⟩⟩
    have := dec_idx (Lp := fun k i => spec_StatsOk_L1 t s k (t.Totals_.take i).sum (i : Int)) (n := t.Totals_.length) (Q := fun i => ∀ h : i < t.Totals_.length, 0 ≤ t.Totals_[i] ∧ t.Totals_[i] ≤ 999) (F := t.Totals_.sum ≤ 999 ∧
        (t.Cells_.length = 0 ∨ (t.Cells_.length = s.Attrs_.length ∧ ∀ i (h : i < t.Cells_.length) (h2 : i < s.Attrs_.length), CellP s.Classes_.length (nb s.Attrs_[i]) t.Totals_ t.Cells_[i]))) (fun k hQ => by
      show Dec (spec_StatsOk_L1 t s (k + 1) _ _) _
      rw [spec_StatsOk_L1, if_neg (by simp), List.take_length]
      exact hD hQ) (fun k i hi hQ => by
      show (_ ∧ spec_StatsOk_L1 t s (k + 1) _ _ = spec_StatsOk_L1 t s k _ _) ∨ (_ ∧ spec_StatsOk_L1 t s (k + 1) _ _ = _)
      have hb := sum_bound (p := t.Totals_.take i) (b := 999) (fun x hx => by
        obtain ⟨j, hj, rfl⟩ := List.getElem_of_mem hx
        have hj2 : j < i := by have : j < (t.Totals_.take i).length := hj; simp at this; omega
        rw [List.getElem_take]
        exact hQ j hj2 (by omega))
      have hlt : ((t.Totals_.take i).length : Int) ≤ 3 := by simp; omega
      rw [spec_StatsOk_L1, if_pos (by simp; omega), idx_lt hi]
      unfold spec_l1In
      simp only [Option.bind_some]
      by_cases g : 0 ≤ t.Totals_[i] ∧ t.Totals_[i] ≤ 999
      · rw [in_t g]
        simp only [Bool.not_true, Bool.false_eq_true, if_false]
        rw [wrap_id (n := (t.Totals_.take i).sum + t.Totals_[i]) (by omega) (by omega), wrap_succ (by omega), sum_take hi]
        exact .inl ⟨fun _ => g, rfl⟩
      · rw [in_f g]
        exact .inr ⟨fun x => g (x hi), rfl⟩) (by omega)
    simpa using this
  · rw [if_pos (by simp; omega)]
    exact dec_f fun g => hT g.2.1
end Go.Vk
