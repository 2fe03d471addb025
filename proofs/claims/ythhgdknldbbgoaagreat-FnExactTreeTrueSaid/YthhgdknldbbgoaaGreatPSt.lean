/- Statistics: tested alike; the greatest of a list. -/
import Derived.Test.YthhgdknldbbgoaaGreatPT
import Derived.Test.YthhgdknldbbgoaaGreatVkM
namespace Go.Vk
theorem okM_of {a : Timpl_Attr} (h : sml_Attr a) : OkM a := by
  obtain ⟨h1, h2, h3⟩ := h
  exact ⟨by omega, by have := h2.1; omega, by have := h3.1; omega, fun y hy => by have := h3.2 y hy; omega⟩
theorem okS_of {s : Timpl_Schema} (h : sml_Schema s) : OkS s := by
  obtain ⟨h1, h2⟩ := h
  exact ⟨by have := h1.1; omega, fun a ha => okM_of (h1.2 a ha), by have := h2.1; omega, fun y hy => by have := h2.2 y hy; omega⟩
theorem dec_bind {o : Option Bool} {P R : Prop} {f : Bool → Option Bool} (h : Dec o P) (ht : P → Dec (f true) R) (hf : ¬ P → Dec (f false) R) : Dec (o.bind f) R := by
  rcases h.cases with ⟨e, hp⟩ | ⟨e, hp⟩
  · rw [e]; exact ht hp
  · rw [e]; exact hf hp
theorem dec_if {c : Prop} [Decidable c] {P R : Prop} {a b : Option Bool} (e : c ↔ P) (ht : P → Dec a R) (hf : ¬ P → Dec b R) : Dec (if c then a else b) R := by
  by_cases hc : c
  · rw [if_pos hc]; exact ht (e.1 hc)
  · rw [if_neg hc]; exact hf (fun hp => hc (e.2 hp))
theorem dec_within {x a b : Int} : Dec (impl_within x a b) (a ≤ x ∧ x ≤ b) := dec_in
theorem dec_l1In {x a b : Int} : Dec (spec_l1In x a b) (a ≤ x ∧ x ≤ b) := dec_in
/-- how many bins an attribute has -/
def nb (a : Timpl_Attr) : Nat := if 0 < a.Cuts_.length then a.Cuts_.length + 1 else a.Values_.length
theorem implBins {a : Timpl_Attr} (hx : sml_Attr a) : impl_bins a = some (nb a : Int) := by
  have h1 := hx.2.1.1
  unfold impl_bins nb
  by_cases h0 : 0 < a.Cuts_.length
  · rw [if_pos (by simpa using h0), if_pos h0, wrap_succ (by omega)]
  · rw [if_neg (by simpa using h0), if_neg h0]
theorem nb_b {a : Timpl_Attr} (h : AttrP a) : 2 ≤ nb a ∧ nb a ≤ 4 := by
  unfold nb
  rcases h.2 with ⟨h1, h2, _⟩ | ⟨h1, h2, _⟩
  · rw [if_neg (by omega)]; omega
  · rw [if_pos (by omega)]; omega
theorem specBins {a : Timpl_Attr} (hx : sml_Attr a) (h : AttrP a) : spec_Bins a = some (nb a : Int) := by
  obtain ⟨n, b1, b2, _⟩ := bins_ok (okM_of hx) h
  rw [b1, ← b2, implBins hx]
theorem SchemaP.attr {s : Timpl_Schema} (h : SchemaP s) {i : Nat} (hi : i < s.Attrs_.length) : AttrP s.Attrs_[i] := (h.2.2.2 i (Nat.zero_le _) hi hi).1
/-! sums of columns -/
def colS (l : List Int) (c k : Nat) : Nat → Int
  | 0 => 0
  | b + 1 => colS l c k b + l.getD (b * c + k) 0
def CellP (c n : Nat) (tot l : List Int) : Prop := l.length = n * c ∧ (∀ x ∈ l, 0 ≤ x ∧ x ≤ 999) ∧ ∀ k, k < c → colS l c k n ≤ tot.getD k 0
def StatsP (s : Timpl_Schema) (t : Timpl_Stats) : Prop := SchemaP s ∧ t.Totals_.length = s.Classes_.length ∧ (∀ x ∈ t.Totals_, 0 ≤ x ∧ x ≤ 999) ∧ t.Totals_.sum ≤ 999 ∧
  (t.Cells_.length = 0 ∨ (t.Cells_.length = s.Attrs_.length ∧ ∀ i (h : i < t.Cells_.length) (h2 : i < s.Attrs_.length), CellP s.Classes_.length (nb s.Attrs_[i]) t.Totals_ t.Cells_[i]))
theorem getD_b {l : List Int} (h : ∀ x ∈ l, 0 ≤ x ∧ x ≤ 999) (i : Nat) : 0 ≤ l.getD i 0 ∧ l.getD i 0 ≤ 999 := by
  rw [List.getD_eq_getElem?_getD]
  by_cases hi : i < l.length
  · rw [List.getElem?_eq_getElem hi]; exact h _ (List.getElem_mem hi)
  · rw [List.getElem?_eq_none (by omega)]; simp
theorem getD_lt {l : List Int} {i : Nat} (h : i < l.length) : l.getD i 0 = l[i] := by simp [h]
theorem colS_b {l : List Int} {c k : Nat} (h : ∀ x ∈ l, 0 ≤ x ∧ x ≤ 999) : ∀ n : Nat, 0 ≤ colS l c k n ∧ colS l c k n ≤ 999 * n
  | 0 => by simp [colS]
  | n + 1 => by
    have := colS_b (c := c) (k := k) h n
    have := getD_b h (n * c + k)
    simp only [colS]
    omega
theorem colS_mono {l : List Int} {c k : Nat} (h : ∀ x ∈ l, 0 ≤ x ∧ x ≤ 999) {n m : Nat} (hm : n ≤ m) : colS l c k n ≤ colS l c k m := by
  induction m with
  | zero => rw [show n = 0 by omega]; exact Int.le_refl _
  | succ m ih =>
    by_cases e : n = m + 1
    · rw [e]; exact Int.le_refl _
    · have := ih (by omega)
      have := getD_b h (m * c + k)
      simp only [colS]
      omega
theorem weights_ok {l : List Int} (hl : l.length ≤ 1048576) (n : Int) : Dec (impl_weights l n) ((l.length : Int) = n ∧ ∀ x ∈ l, 0 ≤ x ∧ x ≤ 999) := by
  unfold impl_weights
  by_cases hn : (l.length : Int) = n
  · rw [if_pos (by simpa using hn)]
    have hf : Dec (lib_slices_ContainsFunc___int_int___impl_weights_1 l) (∃ i, i < l.length ∧ ∀ h : i < l.length, ¬ (0 ≤ l[i] ∧ l[i] ≤ 999)) := by
      unfold lib_slices_ContainsFunc___int_int___impl_weights_1 lib_slices_IndexFunc___int_int___impl_weights_1
      refine find_idx (Lp := lib_slices_IndexFunc___int_int___impl_weights_1_L1 l) (n := l.length) (fun k i hi => ?_) (fun k i hi => ?_) (by omega)
      · show (if _ then _ else _) = _
        rw [if_neg (by simp; omega)]
      · rw [lib_slices_IndexFunc___int_int___impl_weights_1_L1, if_pos (by simp; omega), idx_lt hi, wrap_succ (by omega)]
        unfold impl_weights_1 impl_within
        simp only [Option.bind_some]
        by_cases h : 0 ≤ l[i] ∧ l[i] ≤ 999
        · rw [in_t h]; exact .inr ⟨fun g => g hi h, rfl⟩
        · rw [in_f h]; exact .inl ⟨fun _ => h, rfl⟩
    rcases hf.cases with ⟨e, i, hi, h⟩ | ⟨e, h⟩
    · rw [e]; exact dec_f fun g => h hi (g.2 _ (List.getElem_mem hi))
    · rw [e]; exact dec_t ⟨hn, fun x hx => by
        obtain ⟨i, hi, rfl⟩ := List.getElem_of_mem hx
        exact Classical.byContradiction fun c => h ⟨i, hi, fun _ => c⟩⟩
  · rw [if_neg (by simpa using hn)]
    exact dec_f fun g => hn g.1
theorem total_of {p : List Int} (hb : ∀ x ∈ p, 0 ≤ x ∧ x ≤ 1000000000) (hl : p.length ≤ 1048576) : impl_total p = some p.sum := by
  unfold impl_total
  have h := sum_loop (p := p) (fun x => x) (impl_total_L1 p) some (fun k s => by
    show (if _ then _ else _) = _
    rw [if_neg (by simp)]) (fun k s i hi => by
    rw [impl_total_L1, if_pos (by simp; omega), idx_lt hi, wrap_succ (by omega)]
    rfl) hb (by omega)
  simpa using h
theorem stats_totals {s : Timpl_Schema} (hS : SchemaP s) {l : List Int} (h1 : l.length = s.Classes_.length) (h2 : ∀ x ∈ l, 0 ≤ x ∧ x ≤ 999) : 0 ≤ l.sum ∧ l.sum ≤ 2997 := by
  have h := sum_bound h2
  have := hS.2.1
  omega
/-! the program's loop over the cells of one attribute -/
def sumsAt (l : List Int) (c i : Nat) : List Int := (List.range c).map fun k => colS l c k (i / c + if k < i % c then 1 else 0)
theorem sumsAt_len (l : List Int) (c i : Nat) : (sumsAt l c i).length = c := by simp [sumsAt]
theorem sumsAt_get {l : List Int} {c i k : Nat} (h : k < c) : (sumsAt l c i)[k]'(by simpa [sumsAt] using h) = colS l c k (i / c + if k < i % c then 1 else 0) := by simp [sumsAt]
theorem sumsAt_succ {l : List Int} {c i : Nat} (hc : 0 < c) : sumsAt l c (i + 1) = (sumsAt l c i).set (i % c) (colS l c (i % c) (i / c + 1)) := by
  have hm := Nat.mod_lt i hc
  have hd := Nat.div_add_mod i c
  apply List.ext_getElem (by simp [sumsAt])
  intro k h1 h2
  have hk : k < c := by simpa [sumsAt] using h1
  rw [sumsAt_get hk, List.getElem_set]
  by_cases hlast : i % c + 1 = c
  · have e1 : (i + 1) / c = i / c + 1 := by
      have : i + 1 = c * (i / c + 1) := by rw [Nat.mul_add, Nat.mul_one]; omega
      rw [this, Nat.mul_div_cancel_left _ hc]
    have e2 : (i + 1) % c = 0 := by
      have : i + 1 = c * (i / c + 1) := by rw [Nat.mul_add, Nat.mul_one]; omega
      rw [this, Nat.mul_mod_right]
    rw [e1, e2, if_neg (by omega)]
    by_cases he : i % c = k
    · rw [if_pos he, he]
    · rw [if_neg he, sumsAt_get hk, if_pos (by omega)]
  · have e1 : (i + 1) / c = i / c := by
      have : i + 1 = (i % c + 1) + c * (i / c) := by omega
      rw [this, Nat.add_mul_div_left _ _ hc, Nat.div_eq_of_lt (by omega), Nat.zero_add]
    have e2 : (i + 1) % c = i % c + 1 := by
      have : i + 1 = (i % c + 1) + c * (i / c) := by omega
      rw [this, Nat.add_mul_mod_self_left, Nat.mod_eq_of_lt (by omega)]
    rw [e1, e2]
    by_cases he : i % c = k
    · rw [if_pos he, if_pos (by omega), he]
    · rw [if_neg he, sumsAt_get hk]
      by_cases hlt : k < i % c
      · rw [if_pos (by omega), if_pos hlt]
      · rw [if_neg (by omega), if_neg hlt]
theorem sumsAt_zero (l : List Int) (c : Nat) : sumsAt l c 0 = List.replicate c 0 := by
  apply List.ext_getElem (by simp [sumsAt])
  intro k h1 h2
  have hk : k < c := by simpa [sumsAt] using h1
  rw [sumsAt_get hk]
  simp [colS]
theorem cells_impl {s : Timpl_Schema} {t : Timpl_Stats} {l : List Int} {n : Nat} (hS : SchemaP s) (hT : t.Totals_.length = s.Classes_.length) (hn : n ≤ 4) (h1 : l.length = n * s.Classes_.length) (h2 : ∀ x ∈ l, 0 ≤ x ∧ x ≤ 999) (R : Int → Option Bool) (i : Nat) (hi : i ≤ 1048576) :
    ((∀ k, k < s.Classes_.length → colS l s.Classes_.length k n ≤ t.Totals_.getD k 0 ∨ n = 0) ∧ impl_StatsOk_L2 l s t R (i : Int) Fuel 0 (List.replicate s.Classes_.length 0) = R ((i + 1 : Nat) : Int)) ∨
    ((¬ ∀ k, k < s.Classes_.length → colS l s.Classes_.length k n ≤ t.Totals_.getD k 0 ∨ n = 0) ∧ impl_StatsOk_L2 l s t R (i : Int) Fuel 0 (List.replicate s.Classes_.length 0) = some false) := by
  have hcb : 2 ≤ s.Classes_.length ∧ s.Classes_.length ≤ 3 := by have := hS.2.1; omega
  generalize hc : s.Classes_.length = c at *
  have hc0 : 0 < c := by omega
  have hlen : l.length ≤ 12 := by
    have : n * c ≤ 4 * 3 := Nat.mul_le_mul hn hcb.2
    omega
  rw [← sumsAt_zero l c]
  rcases if_idx (Lp := fun k j => impl_StatsOk_L2 l s t R (i : Int) k (j : Int) (sumsAt l c j)) (n := l.length) (Q := fun j => colS l c (j % c) (j / c + 1) ≤ t.Totals_.getD (j % c) 0) (fin := R ((i + 1 : Nat) : Int)) (bad := some false) (fun k _ => by
      show impl_StatsOk_L2 l s t R (i : Int) (k + 1) _ _ = _
      rw [impl_StatsOk_L2, if_neg (by simp), wrap_succ (by omega)]) (fun k j hj _ => by
      show (_ ∧ impl_StatsOk_L2 l s t R (i : Int) (k + 1) _ _ = _) ∨ (_ ∧ impl_StatsOk_L2 l s t R (i : Int) (k + 1) _ _ = _)
      have hm := Nat.mod_lt j hc0
      have hrem : rem (j : Int) (c : Int) = some ((j % c : Nat) : Int) := by
        unfold rem
        rw [if_neg (by omega), tmod_nat]
      have hjd : j / c * c + j % c = j := by rw [Nat.mul_comm]; exact Nat.div_add_mod j c
      have hval : colS l c (j % c) (j / c + 1) = colS l c (j % c) (j / c) + l[j] := by
        simp only [colS]
        rw [hjd, getD_lt hj]
      have hb := colS_b (c := c) (k := j % c) h2 (j / c)
      have hdv : j / c ≤ 12 := Nat.le_trans (Nat.div_le_self _ _) (by omega)
      have hlj := h2 _ (List.getElem_mem hj)
      have hg : (sumsAt l c j)[j % c]'(by rw [sumsAt_len]; exact hm) = colS l c (j % c) (j / c) := by
        rw [sumsAt_get hm, if_neg (by omega)]; rfl
      have hw : IntKind.i64.wrap (colS l c (j % c) (j / c) + l[j]) = colS l c (j % c) (j / c + 1) := by
        rw [hval, wrap_id (by omega) (by omega)]
      rw [impl_StatsOk_L2, if_pos (by simp; omega), idx_lt hj, hc, hrem]
      simp only [Option.bind_some]
      rw [idx_lt (by rw [sumsAt_len]; exact hm), hg]
      simp only [Option.bind_some, Int.toNat_natCast]
      rw [hw, ← sumsAt_succ hc0, idx_lt (by rw [sumsAt_len]; exact hm), idx_lt (by omega : j % c < t.Totals_.length)]
      simp only [Option.bind_some]
      have hg2 : (sumsAt l c (j + 1))[j % c]'(by rw [sumsAt_len]; exact hm) = colS l c (j % c) (j / c + 1) := by
        simp only [sumsAt_succ hc0, List.getElem_set_self]
      rw [hg2, getD_lt (by omega : j % c < t.Totals_.length), wrap_succ (by omega)]
      by_cases hq : colS l c (j % c) (j / c + 1) ≤ t.Totals_[j % c]
      · rw [if_neg (by simpa using hq)]
        exact .inl ⟨hq, rfl⟩
      · rw [if_pos (by simpa using hq)]
        exact .inr ⟨hq, rfl⟩) (by omega) with ⟨h3, h4⟩ | ⟨h3, h4⟩
  · refine .inl ⟨fun k hk => ?_, h4⟩
    by_cases hn0 : n = 0
    · exact .inr hn0
    · left
      have hlt : (n - 1) * c + k < l.length := by
        rw [h1]
        obtain ⟨m, rfl⟩ : ∃ m, n = m + 1 := ⟨n - 1, by omega⟩
        rw [Nat.add_sub_cancel, Nat.add_mul]; omega
      have := h3 _ hlt
      rw [show ((n - 1) * c + k) % c = k by rw [Nat.mul_comm, Nat.mul_add_mod, Nat.mod_eq_of_lt hk], show ((n - 1) * c + k) / c + 1 = n by rw [Nat.mul_comm, Nat.mul_add_div hc0, Nat.div_eq_of_lt hk]; omega] at this
      exact this
  · refine .inr ⟨fun g => h3 fun j hj => ?_, h4⟩
    have hm := Nat.mod_lt j hc0
    rcases g _ hm with g | g
    · refine Int.le_trans (colS_mono h2 ?_) g
      have : j / c < n := Nat.div_lt_of_lt_mul (by rw [Nat.mul_comm]; omega)
      omega
    · rw [h1, g, Nat.zero_mul] at hj
      omega
theorem implStats {s : Timpl_Schema} {t : Timpl_Stats} (hs : sml_Schema s) (ht : sml_Stats t) : Dec (impl_StatsOk s t) (StatsP s t) := by
  unfold impl_StatsOk StatsP
  refine dec_bind (implSchema (okS_of hs)) (fun hS => ?_) (fun g => dec_f fun h => g h.1)
  simp only [Bool.not_true, Bool.false_eq_true, if_false]
  have hl := ht.1.1
  have hl2 := ht.2.1
  rcases (weights_ok hl (s.Classes_.length : Int)).cases with ⟨e, hw⟩ | ⟨e, hw⟩
  · rw [e]
    simp only [Option.bind_some, Bool.not_true, Bool.false_eq_true, if_false]
    have hT : t.Totals_.length = s.Classes_.length := by omega
    rw [total_of (fun x hx => by have := hw.2 x hx; omega) hl]
    simp only [Option.bind_some]
    by_cases hsum : t.Totals_.sum ≤ 999
    · rw [if_neg (by simp; omega)]
      by_cases h0 : t.Cells_.length = 0
      · rw [if_pos (by simp; exact List.length_eq_zero_iff.1 h0)]
        exact dec_t ⟨hS, hT, hw.2, hsum, .inl h0⟩
      · rw [if_neg (by rw [beq_iff_eq]; omega)]
        by_cases hn : t.Cells_.length = s.Attrs_.length
        · rw [if_neg (by simp [hn])]
          refine (dec_idx (Lp := fun k i => impl_StatsOk_L1 t s k (i : Int)) (n := t.Cells_.length) (Q := fun i => ∀ (h : i < t.Cells_.length) (h2 : i < s.Attrs_.length), CellP s.Classes_.length (nb s.Attrs_[i]) t.Totals_ t.Cells_[i]) (F := True) (fun k _ => ?_) (fun k i hi _ => ?_) (by omega)).of_iff
            ⟨fun g => ⟨hS, hT, hw.2, hsum, .inr ⟨hn, fun i h h2 => g.1 i h h h2⟩⟩, fun g => ⟨fun i _ h h2 => by
              rcases g.2.2.2.2 with g | g
              · exact absurd g h0
              · exact g.2 i h h2, trivial⟩⟩
          · show Dec (impl_StatsOk_L1 t s (k + 1) _) _
            rw [impl_StatsOk_L1, if_neg (by simp)]
            exact dec_t trivial
          · show (_ ∧ impl_StatsOk_L1 t s (k + 1) _ = impl_StatsOk_L1 t s k _) ∨ (_ ∧ impl_StatsOk_L1 t s (k + 1) _ = _)
            have ha : i < s.Attrs_.length := by omega
            have hA := hs.1.2 _ (List.getElem_mem ha)
            have hnb := nb_b (hS.attr ha)
            have hcl := ht.2.2 _ (List.getElem_mem hi)
            have hc := hS.2.1
            have hmul : nb s.Attrs_[i] * s.Classes_.length ≤ 4 * 3 := Nat.mul_le_mul (by omega) (by omega)
            rw [impl_StatsOk_L1, if_pos (by simp; omega), idx_lt hi, idx_lt ha]
            simp only [Option.bind_some]
            rw [implBins hA]
            simp only [Option.bind_some]
            have hw2 : IntKind.i64.wrap ((nb s.Attrs_[i] : Int) * (s.Classes_.length : Int)) = ((nb s.Attrs_[i] * s.Classes_.length : Nat) : Int) := by
              rw [← Int.natCast_mul, wrap_nat (by omega)]
            rw [hw2]
            rcases (weights_ok hcl.1 ((nb s.Attrs_[i] * s.Classes_.length : Nat) : Int)).cases with ⟨e2, h2⟩ | ⟨e2, h2⟩
            · rw [e2]
              simp only [Option.bind_some, Bool.not_true, Bool.false_eq_true, if_false]
              unfold impl_zeros
              rw [mk_eq _ (by omega)]
              simp only [Option.bind_some]
              have hlen : t.Cells_[i].length = nb s.Attrs_[i] * s.Classes_.length := by omega
              rcases cells_impl (t := t) hS hT hnb.2 hlen h2.2 (impl_StatsOk_L1 t s k) i (by omega) with ⟨h3, h4⟩ | ⟨h3, h4⟩
              · exact .inl ⟨fun _ _ => ⟨hlen, h2.2, fun k hk => by
                  rcases h3 k hk with g | g
                  · exact g
                  · omega⟩, h4⟩
              · exact .inr ⟨fun g => h3 fun k hk => .inl ((g hi ha).2.2 k hk), h4⟩
            · rw [e2]
              exact .inr ⟨fun g => h2 ⟨by have := (g hi ha).1; omega, (g hi ha).2.1⟩, rfl⟩
        · rw [if_pos (by simp; omega)]
          exact dec_f fun g => by
            rcases g.2.2.2.2 with g | g
            · exact h0 g
            · exact hn g.1
    · rw [if_pos (by simp; omega)]
      exact dec_f fun g => hsum g.2.2.2.1
  · rw [e]
    exact dec_f fun g => hw ⟨by have := g.2.1; omega, g.2.2.1⟩
/-! the reference's loops -/
theorem cells_spec {s : Timpl_Schema} {t : Timpl_Stats} {l : List Int} {n i : Nat} (hS : SchemaP s) (hT : t.Totals_.length = s.Classes_.length) (hn : n ≤ 4) (hi : i < t.Cells_.length) (hl : t.Cells_[i] = l) (h1 : l.length = n * s.Classes_.length) (R : Int → Option Bool) (hi2 : i ≤ 1048576) :
    (((∀ x ∈ l, 0 ≤ x ∧ x ≤ 999) ∧ ∀ k, k < s.Classes_.length → colS l s.Classes_.length k n ≤ t.Totals_.getD k 0) ∧ spec_StatsOk_L3 s (n : Int) t (i : Int) R Fuel 0 = R ((i + 1 : Nat) : Int)) ∨
    ((¬ ((∀ x ∈ l, 0 ≤ x ∧ x ≤ 999) ∧ ∀ k, k < s.Classes_.length → colS l s.Classes_.length k n ≤ t.Totals_.getD k 0)) ∧ spec_StatsOk_L3 s (n : Int) t (i : Int) R Fuel 0 = some false) := by
  have hcb : 2 ≤ s.Classes_.length ∧ s.Classes_.length ≤ 3 := by have := hS.2.1; omega
  generalize hc : s.Classes_.length = c at *
  have hc0 : 0 < c := by omega
  have hpos : ∀ k b, k < c → b < n → b * c + k < l.length := fun k b hk hb => by
    rw [h1]
    have : (b + 1) * c ≤ n * c := Nat.mul_le_mul_right _ hb
    rw [Nat.add_mul] at this; omega
  rcases if_idx (Lp := fun q k => spec_StatsOk_L3 s (n : Int) t (i : Int) R q (k : Int)) (n := c) (Q := fun k => (∀ b, b < n → 0 ≤ l.getD (b * c + k) 0 ∧ l.getD (b * c + k) 0 ≤ 999) ∧ colS l c k n ≤ t.Totals_.getD k 0) (fin := R ((i + 1 : Nat) : Int)) (bad := some false) (fun q _ => by
      show spec_StatsOk_L3 s (n : Int) t (i : Int) R (q + 1) _ = _
      rw [spec_StatsOk_L3, hc, if_neg (by simp), wrap_succ (by omega)]) (fun q k hk _ => by
      show (_ ∧ spec_StatsOk_L3 s (n : Int) t (i : Int) R (q + 1) _ = spec_StatsOk_L3 s (n : Int) t (i : Int) R q _) ∨ (_ ∧ spec_StatsOk_L3 s (n : Int) t (i : Int) R (q + 1) _ = _)
      rw [spec_StatsOk_L3, hc, if_pos (by simp; omega)]
      rcases if_idx (Lp := fun q2 b => spec_StatsOk_L4 (n : Int) t (i : Int) s (k : Int) (spec_StatsOk_L3 s (n : Int) t (i : Int) R q) q2 (colS l c k b) (b : Int)) (n := n) (Q := fun b => 0 ≤ l.getD (b * c + k) 0 ∧ l.getD (b * c + k) 0 ≤ 999)
          (fin := if colS l c k n ≤ t.Totals_.getD k 0 then spec_StatsOk_L3 s (n : Int) t (i : Int) R q ((k + 1 : Nat) : Int) else some false) (bad := some false) (fun q2 _ => by
          show spec_StatsOk_L4 (n : Int) t (i : Int) s (k : Int) (spec_StatsOk_L3 s (n : Int) t (i : Int) R q) (q2 + 1) _ _ = _
          rw [spec_StatsOk_L4, if_neg (by simp), idx_lt (by omega : k < t.Totals_.length), wrap_succ (by omega), getD_lt (by omega : k < t.Totals_.length)]
          simp only [Option.bind_some]
          by_cases g : colS l c k n ≤ t.Totals_[k]
          · rw [if_pos g, if_neg (by simpa using g)]
          · rw [if_neg g, if_pos (by simpa using g)]) (fun q2 b hb hQ => by
          show (_ ∧ spec_StatsOk_L4 (n : Int) t (i : Int) s (k : Int) (spec_StatsOk_L3 s (n : Int) t (i : Int) R q) (q2 + 1) _ _ = spec_StatsOk_L4 (n : Int) t (i : Int) s (k : Int) (spec_StatsOk_L3 s (n : Int) t (i : Int) R q) q2 _ _) ∨ (_ ∧ spec_StatsOk_L4 (n : Int) t (i : Int) s (k : Int) (spec_StatsOk_L3 s (n : Int) t (i : Int) R q) (q2 + 1) _ _ = _)
          have hlt := hpos k b hk hb
          have hbc : b * c ≤ 4 * 3 := Nat.mul_le_mul (by omega) (by omega)
          have hw : IntKind.i64.wrap (IntKind.i64.wrap ((b : Int) * (c : Int)) + (k : Int)) = ((b * c + k : Nat) : Int) := by
            rw [← Int.natCast_mul, wrap_nat (by omega), ← Int.natCast_add, wrap_nat (by omega)]
          have hcs : ∀ m, m ≤ b → 0 ≤ colS l c k m ∧ colS l c k m ≤ 999 * m := fun m => by
            induction m with
            | zero => intro _; simp [colS]
            | succ m ih =>
              intro hm
              have h3 := ih (by omega)
              have h4 := hQ m (by omega)
              simp only [colS]
              omega
          have hcb2 := hcs b (Nat.le_refl _)
          rw [spec_StatsOk_L4, if_pos (by simp; omega), idx_lt hi, hc, hw]
          simp only [Option.bind_some]
          rw [hl, idx_lt hlt]
          simp only [Option.bind_some]
          unfold spec_l1In
          simp only [Option.bind_some]
          have hgd := getD_lt hlt
          by_cases g : 0 ≤ l[b * c + k] ∧ l[b * c + k] ≤ 999
          · rw [in_t g, hgd]
            simp only [Bool.not_true, Bool.false_eq_true, if_false]
            rw [wrap_id (n := colS l c k b + l[b * c + k]) (by omega) (by omega), wrap_succ (by omega)]
            refine .inl ⟨g, ?_⟩
            congr 1
            simp only [colS]
            rw [hgd]
          · rw [in_f g, hgd]
            exact .inr ⟨g, rfl⟩) (by omega) with ⟨h3, h4⟩ | ⟨h3, h4⟩
      · have h4 : spec_StatsOk_L4 (n : Int) t (i : Int) s (k : Int) (spec_StatsOk_L3 s (n : Int) t (i : Int) R q) Fuel 0 0 = _ := h4
        rw [h4]
        by_cases g : colS l c k n ≤ t.Totals_.getD k 0
        · rw [if_pos g]; exact .inl ⟨⟨h3, g⟩, rfl⟩
        · rw [if_neg g]; exact .inr ⟨fun x => g x.2, rfl⟩
      · have h4 : spec_StatsOk_L4 (n : Int) t (i : Int) s (k : Int) (spec_StatsOk_L3 s (n : Int) t (i : Int) R q) Fuel 0 0 = _ := h4
        rw [h4]
        exact .inr ⟨fun x => h3 x.1, rfl⟩) (by omega) with ⟨h3, h4⟩ | ⟨h3, h4⟩
  · refine .inl ⟨⟨fun x hx => ?_, fun k hk => (h3 k hk).2⟩, h4⟩
    obtain ⟨j, hj, rfl⟩ := List.getElem_of_mem hx
    have hm := Nat.mod_lt j hc0
    have hjd : j / c * c + j % c = j := by rw [Nat.mul_comm]; exact Nat.div_add_mod j c
    have := (h3 _ hm).1 (j / c) (Nat.div_lt_of_lt_mul (by rw [Nat.mul_comm]; omega))
    rw [hjd, getD_lt hj] at this
    exact this
  · refine .inr ⟨fun g => h3 fun k hk => ⟨fun b hb => ?_, g.2 k hk⟩, h4⟩
    rw [getD_lt (hpos k b hk hb)]
    exact g.1 _ (List.getElem_mem _)
theorem specStats {s : Timpl_Schema} {t : Timpl_Stats} (hs : sml_Schema s) (ht : sml_Stats t) : Dec (spec_StatsOk s t) (StatsP s t) := by
  unfold spec_StatsOk StatsP
  refine dec_bind (specSchema (okS_of hs)) (fun hS => ?_) (fun g => dec_f fun h => g h.1)
  have hl := ht.1.1
  have hl2 := ht.2.1
  by_cases hT : t.Totals_.length = s.Classes_.length
  · rw [if_neg (by simp [hT])]
    have hcb : 2 ≤ s.Classes_.length ∧ s.Classes_.length ≤ 3 := by have := hS.2.1; omega
    have hD : (∀ i, i < t.Totals_.length → ∀ h : i < t.Totals_.length, 0 ≤ t.Totals_[i] ∧ t.Totals_[i] ≤ 999) → Dec (if decide (t.Totals_.sum > 999) then some false else if ((t.Cells_.length : Int) == 0) then some true else if ((t.Cells_.length : Int) != (s.Attrs_.length : Int)) then some false else spec_StatsOk_L2 t s Fuel 0) (t.Totals_.sum ≤ 999 ∧
        (t.Cells_.length = 0 ∨ (t.Cells_.length = s.Attrs_.length ∧ ∀ i (h : i < t.Cells_.length) (h2 : i < s.Attrs_.length), CellP s.Classes_.length (nb s.Attrs_[i]) t.Totals_ t.Cells_[i]))) := fun _ => by
      by_cases hsum : t.Totals_.sum ≤ 999
      · rw [if_neg (by simp; omega)]
        by_cases h0 : t.Cells_.length = 0
        · rw [if_pos (by simp; exact List.length_eq_zero_iff.1 h0)]
          exact dec_t ⟨hsum, .inl h0⟩
        · rw [if_neg (by rw [beq_iff_eq]; omega)]
          by_cases hn : t.Cells_.length = s.Attrs_.length
          · rw [if_neg (by simp [hn])]
            refine (dec_idx (Lp := fun k i => spec_StatsOk_L2 t s k (i : Int)) (n := t.Cells_.length) (Q := fun i => ∀ (h : i < t.Cells_.length) (h2 : i < s.Attrs_.length), CellP s.Classes_.length (nb s.Attrs_[i]) t.Totals_ t.Cells_[i]) (F := True) (fun k _ => ?_) (fun k i hi _ => ?_) (by omega)).of_iff
              ⟨fun g => ⟨hsum, .inr ⟨hn, fun i h h2 => g.1 i h h h2⟩⟩, fun g => ⟨fun i _ h h2 => by
                rcases g.2 with g | g
                · exact absurd g h0
                · exact g.2 i h h2, trivial⟩⟩
            · show Dec (spec_StatsOk_L2 t s (k + 1) _) _
              rw [spec_StatsOk_L2, if_neg (by simp)]
              exact dec_t trivial
            · show (_ ∧ spec_StatsOk_L2 t s (k + 1) _ = spec_StatsOk_L2 t s k _) ∨ (_ ∧ spec_StatsOk_L2 t s (k + 1) _ = _)
              have ha : i < s.Attrs_.length := by omega
              have hA := hs.1.2 _ (List.getElem_mem ha)
              have hnb := nb_b (hS.attr ha)
              have hmul : nb s.Attrs_[i] * s.Classes_.length ≤ 4 * 3 := Nat.mul_le_mul (by omega) (by omega)
              have hw2 : IntKind.i64.wrap ((nb s.Attrs_[i] : Int) * (s.Classes_.length : Int)) = ((nb s.Attrs_[i] * s.Classes_.length : Nat) : Int) := by
                rw [← Int.natCast_mul, wrap_nat (by omega)]
              rw [spec_StatsOk_L2, if_pos (by simp; omega), idx_lt hi, idx_lt ha]
              simp only [Option.bind_some]
              rw [specBins hA (hS.attr ha)]
              simp only [Option.bind_some]
              rw [hw2]
              by_cases hlen : t.Cells_[i].length = nb s.Attrs_[i] * s.Classes_.length
              · rw [if_neg (by rw [bne_iff_ne]; omega)]
                rcases cells_spec hS hT hnb.2 hi rfl hlen (spec_StatsOk_L2 t s k) (by omega) with ⟨h3, h4⟩ | ⟨h3, h4⟩
                · exact .inl ⟨fun _ _ => ⟨hlen, h3.1, h3.2⟩, h4⟩
                · exact .inr ⟨fun g => h3 ⟨(g hi ha).2.1, (g hi ha).2.2⟩, h4⟩
              · rw [if_pos (by rw [bne_iff_ne]; omega)]
                exact .inr ⟨fun g => hlen (g hi ha).1, rfl⟩
          · rw [if_pos (by simp; omega)]
            exact dec_f fun g => by
              rcases g.2 with g | g
              · exact h0 g
              · exact hn g.1
      · rw [if_pos (by simp; omega)]
        exact dec_f fun g => hsum g.1
    refine Dec.of_iff (P := (∀ i, i < t.Totals_.length → ∀ h : i < t.Totals_.length, 0 ≤ t.Totals_[i] ∧ t.Totals_[i] ≤ 999) ∧ (t.Totals_.sum ≤ 999 ∧
        (t.Cells_.length = 0 ∨ (t.Cells_.length = s.Attrs_.length ∧ ∀ i (h : i < t.Cells_.length) (h2 : i < s.Attrs_.length), CellP s.Classes_.length (nb s.Attrs_[i]) t.Totals_ t.Cells_[i])))) ?_ ⟨fun g => ⟨hS, hT, fun x hx => by
        obtain ⟨i, hi, rfl⟩ := List.getElem_of_mem hx
        exact g.1 i hi hi, g.2⟩, fun g => ⟨fun i hi _ => g.2.2.1 _ (List.getElem_mem hi), g.2.2.2⟩⟩
    have := dec_idx (Lp := fun k i => spec_StatsOk_L1 t s k (t.Totals_.take i).sum (i : Int)) (n := t.Totals_.length) (Q := fun i => ∀ h : i < t.Totals_.length, 0 ≤ t.Totals_[i] ∧ t.Totals_[i] ≤ 999) (F := t.Totals_.sum ≤ 999 ∧
        (t.Cells_.length = 0 ∨ (t.Cells_.length = s.Attrs_.length ∧ ∀ i (h : i < t.Cells_.length) (h2 : i < s.Attrs_.length), CellP s.Classes_.length (nb s.Attrs_[i]) t.Totals_ t.Cells_[i]))) (fun k hQ => by
      show Dec (spec_StatsOk_L1 t s (k + 1) _ _) _
      rw [spec_StatsOk_L1, if_neg (by simp), List.take_length]
      exact hD hQ) (fun k i hi hQ => by
      show (_ ∧ spec_StatsOk_L1 t s (k + 1) _ _ = spec_StatsOk_L1 t s k _ _) ∨ (_ ∧ spec_StatsOk_L1 t s (k + 1) _ _ = _)
      have hb := sum_bound (p := t.Totals_.take i) (b := 999) (fun x hx => by
        obtain ⟨j, hj, rfl⟩ := List.getElem_of_mem hx
        have hj2 : j < i := by have : j < (t.Totals_.take i).length := hj; simp at this; omega
        rw [List.getElem_take]
        exact hQ j hj2 (by omega))
      have hlt : ((t.Totals_.take i).length : Int) ≤ 3 := by simp; omega
      rw [spec_StatsOk_L1, if_pos (by simp; omega), idx_lt hi]
      unfold spec_l1In
      simp only [Option.bind_some]
      by_cases g : 0 ≤ t.Totals_[i] ∧ t.Totals_[i] ≤ 999
      · rw [in_t g]
        simp only [Bool.not_true, Bool.false_eq_true, if_false]
        rw [wrap_id (n := (t.Totals_.take i).sum + t.Totals_[i]) (by omega) (by omega), wrap_succ (by omega), sum_take hi]
        exact .inl ⟨fun _ => g, rfl⟩
      · rw [in_f g]
        exact .inr ⟨fun x => g (x hi), rfl⟩) (by omega)
    simpa using this
  · rw [if_pos (by simp; omega)]
    exact dec_f fun g => hT g.2.1
end Go.Vk
/- Forks: tested alike. -/
namespace Go.Vk
/-! forks -/
def lastAt (a : Timpl_Attr) : Int := (nb a : Int) - (if 0 < a.Cuts_.length then 2 else 1)
def atr (s : Timpl_Schema) (f : Timpl_Fork) : Timpl_Attr := s.Attrs_.getD f.Attr_.toNat default
def ForkP (s : Timpl_Schema) (f : Timpl_Fork) : Prop := SchemaP s ∧ (0 ≤ f.Attr_ ∧ f.Attr_ ≤ (s.Attrs_.length : Int) - 1) ∧ (-1 ≤ f.At_ ∧ f.At_ ≤ lastAt (atr s f))
theorem atr_of {s : Timpl_Schema} {f : Timpl_Fork} (h : 0 ≤ f.Attr_ ∧ f.Attr_ ≤ (s.Attrs_.length : Int) - 1) : ∃ (i : Nat) (hi : i < s.Attrs_.length), f.Attr_ = i ∧ atr s f = s.Attrs_[i] := by
  refine ⟨f.Attr_.toNat, by omega, by omega, ?_⟩
  unfold atr
  simp [show f.Attr_.toNat < s.Attrs_.length by omega]
theorem idx_atr {s : Timpl_Schema} {f : Timpl_Fork} (h : 0 ≤ f.Attr_ ∧ f.Attr_ ≤ (s.Attrs_.length : Int) - 1) : idx s.Attrs_ f.Attr_ = some (atr s f) := by
  obtain ⟨i, hi, e1, e2⟩ := atr_of h
  rw [e1, e2, idx_lt hi]
theorem atr_mem {s : Timpl_Schema} {f : Timpl_Fork} (h : 0 ≤ f.Attr_ ∧ f.Attr_ ≤ (s.Attrs_.length : Int) - 1) : atr s f ∈ s.Attrs_ := by
  obtain ⟨i, hi, e1, e2⟩ := atr_of h
  rw [e2]; exact List.getElem_mem hi
theorem atr_ok {s : Timpl_Schema} {f : Timpl_Fork} (hS : SchemaP s) (h : 0 ≤ f.Attr_ ∧ f.Attr_ ≤ (s.Attrs_.length : Int) - 1) : AttrP (atr s f) := by
  obtain ⟨i, hi, e1, e2⟩ := atr_of h
  rw [e2]; exact hS.attr hi
theorem specFork {s : Timpl_Schema} {f : Timpl_Fork} (hs : sml_Schema s) : Dec (spec_ForkOk s f) (ForkP s f) := by
  unfold spec_ForkOk ForkP
  refine dec_bind (specSchema (okS_of hs)) (fun hS => ?_) (fun g => dec_f fun h => g h.1)
  have hn := hs.1.1
  simp only [Bool.not_true, Bool.false_eq_true, if_false]
  rw [wrap_id (n := (s.Attrs_.length : Int) - 1) (by omega) (by omega)]
  rcases (dec_l1In (x := f.Attr_) (a := 0) (b := (s.Attrs_.length : Int) - 1)).cases with ⟨e, hr⟩ | ⟨e, hr⟩
  · rw [e]
    simp only [Option.bind_some, Bool.not_true, Bool.false_eq_true, if_false]
    have hm := hs.1.2 _ (atr_mem hr)
    have hA := atr_ok hS hr
    have hnb := nb_b hA
    rw [idx_atr hr]
    simp only [Option.bind_some]
    rw [specBins hm hA]
    simp only [Option.bind_some]
    unfold lastAt
    refine dec_if (P := 0 < (atr s f).Cuts_.length) (by simp) (fun h => ?_) (fun h => ?_)
    · rw [if_pos h, wrap_id (by omega) (by omega)]
      have : ∀ o : Option Bool, (o.bind fun y => some y) = o := fun o => by cases o <;> rfl
      rw [this]
      exact dec_l1In.of_iff ⟨fun g => ⟨hS, hr, g⟩, fun g => g.2.2⟩
    · rw [if_neg h, wrap_id (by omega) (by omega)]
      have : ∀ o : Option Bool, (o.bind fun y => some y) = o := fun o => by cases o <;> rfl
      rw [this]
      exact dec_l1In.of_iff ⟨fun g => ⟨hS, hr, g⟩, fun g => g.2.2⟩
  · rw [e]
    exact dec_f fun g => hr g.2.1
theorem implFork {s : Timpl_Schema} {f : Timpl_Fork} (hs : sml_Schema s) : Dec (impl_ForkOk s f) (ForkP s f) := by
  unfold impl_ForkOk ForkP
  refine dec_bind (implSchema (okS_of hs)) (fun hS => ?_) (fun g => dec_f fun h => g h.1)
  have hn := hs.1.1
  simp only [Bool.not_true, Bool.false_eq_true, if_false]
  rw [wrap_id (n := (s.Attrs_.length : Int) - 1) (by omega) (by omega)]
  rcases (dec_within (x := f.Attr_) (a := 0) (b := (s.Attrs_.length : Int) - 1)).cases with ⟨e, hr⟩ | ⟨e, hr⟩
  · rw [e]
    simp only [Option.bind_some, Bool.not_true, Bool.false_eq_true, if_false]
    have hm := hs.1.2 _ (atr_mem hr)
    have hA := atr_ok hS hr
    have hnb := nb_b hA
    rw [idx_atr hr]
    simp only [Option.bind_some]
    rw [implBins hm]
    simp only [Option.bind_some]
    unfold lastAt
    have hid : ∀ o : Option Bool, (o.bind fun y => some y) = o := fun o => by cases o <;> rfl
    refine dec_if (P := 0 < (atr s f).Cuts_.length) (by simp) (fun h => ?_) (fun h => ?_)
    · rw [if_pos h, wrap_id (n := (nb (atr s f) : Int) - 1) (by omega) (by omega), wrap_id (by omega) (by omega), hid, show (nb (atr s f) : Int) - 1 - 1 = (nb (atr s f) : Int) - 2 by omega]
      exact dec_within.of_iff ⟨fun g => ⟨hS, hr, g⟩, fun g => g.2.2⟩
    · rw [if_neg h, wrap_id (by omega) (by omega), hid]
      exact dec_within.of_iff ⟨fun g => ⟨hS, hr, g⟩, fun g => g.2.2⟩
  · rw [e]
    exact dec_f fun g => hr g.2.1
end Go.Vk
/- Attributes' places, branches, nodes, trees: tested alike. -/
namespace Go.Vk
def Asc (l : List Int) : Prop := ∀ i, 1 ≤ i → i < l.length → ∀ h : i < l.length, l[i - 1] < l[i]
theorem asc_ok {l : List Int} (hl : l.length ≤ 1048576) : Dec (impl_ascending l) (Asc l) := by
  unfold impl_ascending
  refine all_idx (Lp := impl_ascending_L1 l) (n := l.length) (Q := fun i => ∀ h : i < l.length, l[i - 1] < l[i]) 1 (fun k i hi => ?_) (fun k i h1 hi => ?_) (by omega)
  · show (if _ then _ else _) = _
    rw [if_neg (by simp; omega)]
  · rw [impl_ascending_L1]
    rw [if_pos (by simp; omega), idx_lt hi, wrap_succ (by omega), wrap_id (by omega) (by omega), show (i : Int) - 1 = ((i - 1 : Nat) : Int) by omega, idx_lt (show i - 1 < l.length by omega)]
    simp only [Option.bind_some]
    by_cases hc : l[i] ≤ l[i - 1]
    · rw [if_pos (by simpa using hc)]
      exact .inr ⟨fun g => by have := g hi; omega, rfl⟩
    · rw [if_neg (by simpa using hc)]
      exact .inl ⟨fun _ => by omega, rfl⟩
theorem Asc.le {l : List Int} (h : Asc l) : ∀ {j : Nat} (i : Nat) (hi : i ≤ j) (hj : j < l.length), l[i] ≤ l[j]
  | 0, i, hi, hj => by
    have : i = 0 := by omega
    subst this; exact Int.le_refl _
  | j + 1, i, hi, hj => by
    by_cases e : i = j + 1
    · subst e; exact Int.le_refl _
    · have h1 := h.le (j := j) i (by omega) (by omega)
      have h2 := h (j + 1) (by omega) hj hj
      simp only [Nat.add_sub_cancel] at h2
      omega
def AttrsP (s : Timpl_Schema) (l : List Int) : Prop := SchemaP s ∧ l.length ≠ 0 ∧ ∀ i, 0 ≤ i → i < l.length → ∀ h : i < l.length, (0 ≤ l[i] ∧ l[i] ≤ (s.Attrs_.length : Int) - 1) ∧ (0 < i → l[i - 1] < l[i])
theorem specAttrs {s : Timpl_Schema} {l : List Int} (hs : sml_Schema s) (hl : l.length ≤ 1048576) : Dec (spec_AttrsOk s l) (AttrsP s l) := by
  unfold spec_AttrsOk AttrsP
  refine dec_bind (specSchema (okS_of hs)) (fun hS => ?_) (fun g => dec_f fun h => g h.1)
  have hn := hs.1.1
  by_cases h0 : l.length = 0
  · rw [if_pos (by simp; exact List.length_eq_zero_iff.1 h0)]
    exact dec_f fun g => g.2.1 h0
  · rw [if_neg (by simp; exact fun e => h0 (by rw [e]; rfl))]
    refine (all_idx (Lp := spec_AttrsOk_L1 l s) (n := l.length) (Q := fun i => ∀ h : i < l.length, (0 ≤ l[i] ∧ l[i] ≤ (s.Attrs_.length : Int) - 1) ∧ (0 < i → l[i - 1] < l[i])) 0 (fun k i hi => ?_) (fun k i _ hi => ?_) (by omega)).of_iff ⟨fun g => ⟨hS, h0, g⟩, fun g => g.2.2⟩
    · show (if _ then _ else _) = _
      rw [if_neg (by simp; omega)]
    · rw [spec_AttrsOk_L1, if_pos (by simp; omega), idx_lt hi, wrap_succ (by omega), wrap_id (n := (s.Attrs_.length : Int) - 1) (by omega) (by omega)]
      unfold spec_l1In
      simp only [Option.bind_some]
      by_cases hr : 0 ≤ l[i] ∧ l[i] ≤ (s.Attrs_.length : Int) - 1
      · rw [in_t hr]
        simp only [Bool.not_true, Bool.false_eq_true, if_false]
        by_cases h1 : 0 < i
        · rw [if_pos (by simp; omega), wrap_id (n := (i : Int) - 1) (by omega) (by omega), show (i : Int) - 1 = ((i - 1 : Nat) : Int) by omega, idx_lt (show i - 1 < l.length by omega)]
          simp only [Option.bind_some]
          by_cases hc : l[i] ≤ l[i - 1]
          · rw [if_pos (by simpa using hc)]
            exact .inr ⟨fun g => by have := (g hi).2 h1; omega, rfl⟩
          · rw [if_neg (by simpa using hc)]
            exact .inl ⟨fun _ => ⟨hr, fun _ => by omega⟩, rfl⟩
        · rw [if_neg (by simp; omega)]
          exact .inl ⟨fun _ => ⟨hr, fun g => absurd g h1⟩, rfl⟩
      · rw [in_f hr]
        exact .inr ⟨fun g => hr (g hi).1, rfl⟩
theorem implAttrs {s : Timpl_Schema} {l : List Int} (hs : sml_Schema s) (hl : l.length ≤ 1048576) : Dec (impl_AttrsOk s l) (AttrsP s l) := by
  unfold impl_AttrsOk AttrsP
  refine dec_bind (implSchema (okS_of hs)) (fun hS => ?_) (fun g => dec_f fun h => g h.1)
  have hn := hs.1.1
  by_cases h0 : l.length = 0
  · rw [if_neg (by simp; exact List.length_eq_zero_iff.1 h0)]
    exact dec_f fun g => g.2.1 h0
  · rw [if_pos (by simp only [Bool.and_eq_true, decide_eq_true_eq, eq_self, true_and]; omega)]
    rcases (asc_ok hl).cases with ⟨e, hA⟩ | ⟨e, hA⟩
    · rw [e]
      simp only [Option.bind_some, if_true]
      rw [show (0 : Int) = ((0 : Nat) : Int) from rfl, idx_lt (show 0 < l.length by omega), wrap_id (by omega) (by omega), show (l.length : Int) - 1 = ((l.length - 1 : Nat) : Int) by omega, idx_lt (show l.length - 1 < l.length by omega)]
      simp only [Option.bind_some]
      by_cases h1 : 0 ≤ l[0]
      · rw [if_pos (by simpa using h1)]
        refine ⟨_, rfl, ?_⟩
        rw [decide_eq_true_iff]
        refine ⟨fun g => ⟨hS, h0, fun i _ hi _ => ⟨⟨?_, ?_⟩, fun hp => hA i hp hi hi⟩⟩, fun g => ?_⟩
        · exact Int.le_trans h1 (hA.le 0 (Nat.zero_le _) hi)
        · have := hA.le (j := l.length - 1) i (by omega) (by omega); omega
        · have := (g.2.2 (l.length - 1) (Nat.zero_le _) (by omega) (by omega)).1; omega
      · rw [if_neg (by simpa using h1)]
        exact dec_f fun g => h1 (g.2.2 0 (Nat.zero_le _) (by omega) (by omega)).1.1
    · rw [e]
      exact dec_f fun g => hA fun i h1 hi _ => (g.2.2 i (Nat.zero_le _) hi hi).2 h1
theorem specTotal {s : Timpl_Schema} {t : Timpl_Stats} (hs : sml_Schema s) (ht : sml_Stats t) (h : StatsP s t) : spec_StatsTotal s t = some t.Totals_.sum := by
  unfold spec_StatsTotal
  rcases (specStats hs ht).cases with ⟨e, _⟩ | ⟨_, g⟩
  · rw [e]
    simp only [Option.bind_some, Bool.not_true, Bool.false_eq_true, if_false]
    have h1 := sum_loop (p := t.Totals_) (fun x => x) (spec_StatsTotal_L1 t) some (fun k s => by
      show (if _ then _ else _) = _
      rw [if_neg (by simp)]) (fun k s i hi => by
      have := ht.1.1
      rw [spec_StatsTotal_L1, if_pos (by simp; omega), idx_lt hi, wrap_succ (by omega)]
      rfl) (fun x hx => by have := h.2.2.1 x hx; omega) (by have := ht.1.1; omega)
    simpa using h1
  · exact absurd h g
/-- how many branches a fork has -/
def brN (s : Timpl_Schema) (f : Timpl_Fork) : Nat := if f.At_ = -1 then nb (atr s f) else 2
theorem brN_b {s : Timpl_Schema} {f : Timpl_Fork} (h : ForkP s f) : 2 ≤ brN s f ∧ brN s f ≤ 4 := by
  have := nb_b (atr_ok h.1 h.2.1)
  unfold brN
  split <;> omega
theorem specBranches {s : Timpl_Schema} {f : Timpl_Fork} (hs : sml_Schema s) (h : ForkP s f) : spec_Branches s f = some (brN s f : Int) := by
  unfold spec_Branches brN
  rcases (specFork (f := f) hs).cases with ⟨e, _⟩ | ⟨_, g⟩
  · rw [e]
    simp only [Option.bind_some, Bool.not_true, Bool.false_eq_true, if_false]
    rw [idx_atr h.2.1]
    simp only [Option.bind_some]
    rw [specBins (hs.1.2 _ (atr_mem h.2.1)) (atr_ok h.1 h.2.1)]
    by_cases h1 : f.At_ = -1
    · rw [if_pos (by simpa using h1), if_pos h1]; rfl
    · rw [if_neg (by simpa using h1), if_neg h1]; rfl
  · exact absurd h g
theorem implBranches {s : Timpl_Schema} {f : Timpl_Fork} (hs : sml_Schema s) (h : ForkP s f) : impl_Branches s f = some (brN s f : Int) := by
  unfold impl_Branches brN
  rcases (implFork (f := f) hs).cases with ⟨e, _⟩ | ⟨_, g⟩
  · rw [e]
    simp only [Option.bind_some, Bool.not_true, Bool.false_eq_true, if_false]
    rw [idx_atr h.2.1]
    simp only [Option.bind_some]
    rw [implBins (hs.1.2 _ (atr_mem h.2.1))]
    by_cases h1 : f.At_ = -1
    · rw [if_pos (by simpa using h1), if_pos h1]; rfl
    · rw [if_neg (by simpa using h1), if_neg h1]; rfl
  · exact absurd h g
theorem implBranches0 {s : Timpl_Schema} {f : Timpl_Fork} (hs : sml_Schema s) (h : ¬ ForkP s f) : impl_Branches s f = some 0 := by
  unfold impl_Branches
  rcases (implFork (f := f) hs).cases with ⟨_, g⟩ | ⟨e, _⟩
  · exact absurd g h
  · rw [e]; rfl
/-! nodes -/
def KidP (t : Timpl_Tree) (i : Nat) (x : Int) : Prop := ∃ m : Nat, ∃ hm : m < t.Nodes_.length, x = m ∧ i < m ∧ t.Nodes_[m].Up_ = i
def LeafP (n : Timpl_Node) : Prop := (n.Fork_.Attr_ = 0 ∧ n.Fork_.At_ = 0) ∧ n.Kids_.length = 0 ∧ n.Miss_ = 0 ∧ (0 ≤ n.Since_ ∧ n.Since_ ≤ if n.Stats_.Cells_.length = 0 then 0 else n.Stats_.Totals_.sum)
def KidsP (t : Timpl_Tree) (i : Nat) (l : List Int) : Prop := Asc l ∧ ∀ x ∈ l, KidP t i x
def SplitP (s : Timpl_Schema) (t : Timpl_Tree) (i : Nat) (n : Timpl_Node) : Prop := ForkP s n.Fork_ ∧ n.Kids_.length = brN s n.Fork_ ∧ (0 ≤ n.Miss_ ∧ n.Miss_ ≤ (n.Kids_.length : Int) - 1) ∧ n.Stats_.Cells_.length = 0 ∧ n.Since_ = 0 ∧ KidsP t i n.Kids_
def SelfP (s : Timpl_Schema) (t : Timpl_Tree) (i : Nat) (n : Timpl_Node) : Prop := (0 ≤ n.Depth_ ∧ n.Depth_ ≤ 6) ∧ (0 ≤ n.Born_ ∧ n.Born_ ≤ t.Seen_) ∧ StatsP s n.Stats_ ∧ AttrsP s n.Attrs_ ∧ (n.Leaf_ = true → LeafP n) ∧ (n.Leaf_ = false → SplitP s t i n)
def LinkP (t : Timpl_Tree) (i : Nat) (n : Timpl_Node) : Prop := (i = 0 → n.Up_ = -1 ∧ n.Depth_ = 0 ∧ n.Born_ = 0) ∧
  (0 < i → ∃ u, ∃ _ : u < i, ∃ hu : u < t.Nodes_.length, n.Up_ = u ∧ t.Nodes_[u].Leaf_ = false ∧ (i : Int) ∈ t.Nodes_[u].Kids_ ∧ t.Nodes_[u].Depth_ + 1 = n.Depth_ ∧ t.Nodes_[u].Born_ ≤ n.Born_)
def NodeP (s : Timpl_Schema) (t : Timpl_Tree) (i : Nat) : Prop := ∀ h : i < t.Nodes_.length, SelfP s t i t.Nodes_[i] ∧ LinkP t i t.Nodes_[i]
def TreeP (s : Timpl_Schema) (t : Timpl_Tree) : Prop := SchemaP s ∧ (1 ≤ (t.Nodes_.length : Int) ∧ (t.Nodes_.length : Int) ≤ 31) ∧ (0 ≤ t.Seen_ ∧ t.Seen_ ≤ 99999) ∧ ∀ i, i < t.Nodes_.length → NodeP s t i
theorem kid_bad {t : Timpl_Tree} (hl : t.Nodes_.length ≤ 1048576) {i : Nat} (hi : i < t.Nodes_.length) (x : Int) : Dec (impl_nodeOk_1 x (i : Int) t) (¬ KidP t i x) := by
  unfold impl_nodeOk_1
  rw [wrap_succ (by omega), wrap_id (n := (t.Nodes_.length : Int) - 1) (by omega) (by omega)]
  rcases (dec_within (x := x) (a := ((i + 1 : Nat) : Int)) (b := (t.Nodes_.length : Int) - 1)).cases with ⟨e, hr⟩ | ⟨e, hr⟩
  · rw [e]
    simp only [Option.bind_some, Bool.not_true, Bool.false_eq_true, if_false]
    obtain ⟨m, rfl⟩ : ∃ m : Nat, x = m := ⟨x.toNat, by omega⟩
    have hm : m < t.Nodes_.length := by omega
    rw [idx_lt hm]
    simp only [Option.bind_some]
    refine ⟨_, rfl, ?_⟩
    rw [bne_iff_ne]
    refine ⟨fun g ⟨m', _, h1, _, h2⟩ => ?_, fun g h => g ⟨m, hm, rfl, by omega, h⟩⟩
    obtain rfl : m = m' := by omega
    exact g h2
  · rw [e]
    exact dec_t fun ⟨m, hm, h1, h2, _⟩ => hr ⟨by omega, by omega⟩
theorem kids_impl {t : Timpl_Tree} (hl : t.Nodes_.length ≤ 1048576) {i : Nat} (hi : i < t.Nodes_.length) {l : List Int} (hk : l.length ≤ 1048576) : Dec (lib_slices_ContainsFunc___int_int___impl_nodeOk_1 l (i : Int) t) (∃ x ∈ l, ¬ KidP t i x) := by
  unfold lib_slices_ContainsFunc___int_int___impl_nodeOk_1 lib_slices_IndexFunc___int_int___impl_nodeOk_1
  refine (find_idx (Lp := lib_slices_IndexFunc___int_int___impl_nodeOk_1_L1 l (i : Int) t) (n := l.length) (Q := fun j => ∀ h : j < l.length, ¬ KidP t i l[j]) (fun k j hj => ?_) (fun k j hj => ?_) (by omega)).of_iff ⟨fun ⟨j, hj, g⟩ => ⟨_, List.getElem_mem hj, g hj⟩, fun ⟨x, hx, g⟩ => ?_⟩
  · show (if _ then _ else _) = _
    rw [if_neg (by simp; omega)]
  · rw [lib_slices_IndexFunc___int_int___impl_nodeOk_1_L1, if_pos (by simp; omega), idx_lt hj, wrap_succ (by omega)]
    simp only [Option.bind_some]
    rcases (kid_bad hl hi l[j]).cases with ⟨e, h⟩ | ⟨e, h⟩
    · rw [e]; exact .inl ⟨fun _ => h, rfl⟩
    · rw [e]; exact .inr ⟨fun g => h (g hj), rfl⟩
  · obtain ⟨j, hj, rfl⟩ := List.getElem_of_mem hx
    exact ⟨j, hj, fun _ => g⟩
theorem implNode {s : Timpl_Schema} {t : Timpl_Tree} (hs : sml_Schema s) (ht : sml_Tree t) {i : Nat} (hi : i < t.Nodes_.length) : Dec (impl_nodeOk s t (i : Int)) (SelfP s t i t.Nodes_[i]) := by
  unfold impl_nodeOk
  have hl := ht.1.1
  rw [idx_lt hi]
  simp only [Option.bind_some]
  have hnd := ht.1.2 _ (List.getElem_mem hi)
  generalize t.Nodes_[i] = n at *
  have hkl : n.Kids_.length ≤ 1048576 := hnd.2.2.1.1
  have hst : sml_Stats n.Stats_ := hnd.2.2.2.2.1
  have hal : n.Attrs_.length ≤ 1048576 := hnd.2.2.2.2.2.2.1.1
  rcases (dec_within (x := n.Depth_) (a := 0) (b := 6)).cases with ⟨e, hd⟩ | ⟨e, hd⟩
  · rw [e]
    simp only [Option.bind_some, Bool.not_true, Bool.false_eq_true, if_false]
    rcases (dec_within (x := n.Born_) (a := 0) (b := t.Seen_)).cases with ⟨e, hb⟩ | ⟨e, hb⟩
    · rw [e]
      simp only [Option.bind_some, Bool.not_true, Bool.false_eq_true, if_false]
      rcases (implStats hs hst).cases with ⟨e, hS⟩ | ⟨e, hS⟩
      · rw [e]
        simp only [Option.bind_some, Bool.not_true, Bool.false_eq_true, if_false]
        rcases (implAttrs hs hal).cases with ⟨e, hA⟩ | ⟨e, hA⟩
        · rw [e]
          simp only [Option.bind_some, Bool.not_true, Bool.false_eq_true, if_false]
          by_cases hL : n.Leaf_ = true
          case neg =>
            have hL' : n.Leaf_ = false := by simpa using hL
            rw [if_neg hL]
            by_cases hF : ForkP s n.Fork_
            · have hbr := brN_b hF
              rw [implBranches hs hF]
              simp only [Option.bind_some]
              by_cases hk : n.Kids_.length = brN s n.Fork_
              · rw [if_neg (by simp; omega)]
                rcases (asc_ok hkl).cases with ⟨e, hAs⟩ | ⟨e, hAs⟩
                · rw [e]
                  simp only [Option.bind_some, Bool.not_true, Bool.false_eq_true, if_false]
                  rw [wrap_id (n := (brN s n.Fork_ : Int) - 1) (by omega) (by omega)]
                  rcases (dec_within (x := n.Miss_) (a := 0) (b := (brN s n.Fork_ : Int) - 1)).cases with ⟨e, hm⟩ | ⟨e, hm⟩
                  · rw [e]
                    simp only [Option.bind_some, Bool.not_true, Bool.false_or]
                    by_cases hc : n.Stats_.Cells_.length = 0 ∧ n.Since_ = 0
                    · rw [if_neg (by simp [hc.1, hc.2])]
                      rcases (kids_impl hl hi hkl).cases with ⟨e, x, hx, hK⟩ | ⟨e, hK⟩
                      · rw [e]
                        exact dec_f fun g => hK ((g.2.2.2.2.2 hL').2.2.2.2.2.2 x hx)
                      · rw [e]
                        exact dec_t ⟨hd, hb, hS, hA, fun g => absurd g hL, fun _ => ⟨hF, hk, by omega, hc.1, hc.2, hAs, fun x hx => Classical.byContradiction fun c => hK ⟨x, hx, c⟩⟩⟩
                    · rw [if_pos (by simp only [Bool.or_eq_true, bne_iff_ne, ne_eq]; omega)]
                      exact dec_f fun g => hc ⟨(g.2.2.2.2.2 hL').2.2.2.1, (g.2.2.2.2.2 hL').2.2.2.2.1⟩
                  · rw [e]
                    exact dec_f fun g => hm (by have := (g.2.2.2.2.2 hL').2.2.1; omega)
                · rw [e]
                  exact dec_f fun g => hAs (g.2.2.2.2.2 hL').2.2.2.2.2.1
              · rw [if_pos (by simp; omega)]
                exact dec_f fun g => hk (g.2.2.2.2.2 hL').2.1
            · rw [implBranches0 hs hF]
              exact dec_f fun g => hF (g.2.2.2.2.2 hL').1
          case pos =>
            rw [if_pos hL, total_of (fun x hx => by have := hS.2.2.1 x hx; omega) hst.1.1]
            simp only [Option.bind_some]
            have key : ∀ q : Int, q = (if n.Stats_.Cells_.length = 0 then 0 else n.Stats_.Totals_.sum) → Dec (impl_nodeOk_J1 n q) (SelfP s t i n) := fun q hq => by
              unfold impl_nodeOk_J1
              have hid : ∀ o : Option Bool, (o.bind fun y => some y) = o := fun o => by cases o <;> rfl
              by_cases hc : (n.Fork_.Attr_ = 0 ∧ n.Fork_.At_ = 0) ∧ n.Kids_.length = 0 ∧ n.Miss_ = 0
              · rw [if_pos (by simp [hc.1.1, hc.1.2, hc.2.1, hc.2.2]), hid, hid]
                exact dec_within.of_iff ⟨fun g => ⟨hd, hb, hS, hA, fun _ => ⟨hc.1, hc.2.1, hc.2.2, by rw [← hq]; exact g⟩, fun g => by rw [hL] at g; cases g⟩, fun g => by rw [hq]; exact (g.2.2.2.2.1 hL).2.2.2⟩
              · rw [if_neg (by simp only [Bool.and_eq_true, beq_iff_eq, Bool.and_true]; omega)]
                exact dec_f fun g => hc ⟨(g.2.2.2.2.1 hL).1, (g.2.2.2.2.1 hL).2.1, (g.2.2.2.2.1 hL).2.2.1⟩
            by_cases hc : n.Stats_.Cells_.length = 0
            · rw [if_pos (by simp; exact List.length_eq_zero_iff.1 hc)]
              exact key 0 (by rw [if_pos hc])
            · rw [if_neg (by simp; exact fun e => hc (by rw [e]; rfl))]
              exact key _ (by rw [if_neg hc])
        · rw [e]
          exact dec_f fun g => hA g.2.2.2.1
      · rw [e]
        exact dec_f fun g => hS g.2.2.1
    · rw [e]
      exact dec_f fun g => hb g.2.1
  · rw [e]
    exact dec_f fun g => hd g.1
theorem specLeaf {s : Timpl_Schema} {n : Timpl_Node} (hs : sml_Schema s) (hn : sml_Node n) : Dec (spec_l19Leaf s n) (LeafP n ∧ StatsP s n.Stats_ ∧ AttrsP s n.Attrs_) := by
  unfold spec_l19Leaf
  have hst : sml_Stats n.Stats_ := hn.2.2.2.2.1
  have hal : n.Attrs_.length ≤ 1048576 := hn.2.2.2.2.2.2.1.1
  by_cases hc : (n.Fork_.Attr_ = 0 ∧ n.Fork_.At_ = 0) ∧ n.Kids_.length = 0 ∧ n.Miss_ = 0
  · rw [if_neg (by simp only [Bool.or_eq_true, Bool.not_eq_true', bne_iff_ne, decide_eq_true_eq, ne_eq, Bool.and_true, Bool.and_eq_false_iff, beq_eq_false_iff_ne]; omega)]
    rcases (specStats hs hst).cases with ⟨e, hS⟩ | ⟨e, hS⟩
    · rw [e]
      simp only [Option.bind_some, Bool.not_true, Bool.false_eq_true, if_false]
      rcases (specAttrs hs hal).cases with ⟨e, hA⟩ | ⟨e, hA⟩
      · rw [e]
        simp only [Option.bind_some, Bool.not_true, Bool.false_eq_true, if_false]
        by_cases h0 : n.Stats_.Cells_.length = 0
        · rw [if_pos (by simp only [beq_iff_eq]; omega)]
          refine ⟨_, rfl, ?_⟩
          rw [beq_iff_eq]
          exact ⟨fun g => ⟨⟨hc.1, hc.2.1, hc.2.2, by rw [if_pos h0]; omega⟩, hS, hA⟩, fun g => by have := g.1.2.2.2; rw [if_pos h0] at this; omega⟩
        · rw [if_neg (by simp only [beq_iff_eq]; omega), specTotal hs hst hS]
          simp only [Option.bind_some]
          have hid : ∀ o : Option Bool, (o.bind fun y => some y) = o := fun o => by cases o <;> rfl
          rw [hid]
          exact dec_l1In.of_iff ⟨fun g => ⟨⟨hc.1, hc.2.1, hc.2.2, by rw [if_neg h0]; exact g⟩, hS, hA⟩, fun g => by have := g.1.2.2.2; rw [if_neg h0] at this; exact this⟩
      · rw [e]
        exact dec_f fun g => hA g.2.2
    · rw [e]
      exact dec_f fun g => hS g.2.1
  · rw [if_pos (by simp only [Bool.or_eq_true, Bool.not_eq_true', bne_iff_ne, decide_eq_true_eq, ne_eq, Bool.and_true, Bool.and_eq_false_iff, beq_eq_false_iff_ne]; omega)]
    exact dec_f fun g => hc ⟨g.1.1, g.1.2.1, g.1.2.2.1⟩
theorem specSplit {s : Timpl_Schema} {t : Timpl_Tree} (hs : sml_Schema s) (ht : sml_Tree t) {i : Nat} (hi : i < t.Nodes_.length) : Dec (spec_l19Split s t (i : Int)) (SplitP s t i t.Nodes_[i] ∧ StatsP s t.Nodes_[i].Stats_ ∧ AttrsP s t.Nodes_[i].Attrs_) := by
  unfold spec_l19Split
  have hl := ht.1.1
  rw [idx_lt hi]
  simp only [Option.bind_some]
  have hnd := ht.1.2 _ (List.getElem_mem hi)
  generalize t.Nodes_[i] = n at *
  have hkl : n.Kids_.length ≤ 1048576 := hnd.2.2.1.1
  have hst : sml_Stats n.Stats_ := hnd.2.2.2.2.1
  have hal : n.Attrs_.length ≤ 1048576 := hnd.2.2.2.2.2.2.1.1
  rcases (specFork (f := n.Fork_) hs).cases with ⟨e, hF⟩ | ⟨e, hF⟩
  · rw [e]
    simp only [Option.bind_some, Bool.not_true, Bool.false_eq_true, if_false]
    have hbr := brN_b hF
    rw [specBranches hs hF]
    simp only [Option.bind_some]
    by_cases hk : n.Kids_.length = brN s n.Fork_
    · rw [if_neg (by simp only [bne_iff_ne, ne_eq]; omega), wrap_id (n := (n.Kids_.length : Int) - 1) (by omega) (by omega)]
      rcases (dec_l1In (x := n.Miss_) (a := 0) (b := (n.Kids_.length : Int) - 1)).cases with ⟨e, hm⟩ | ⟨e, hm⟩
      · rw [e]
        simp only [Option.bind_some, Bool.not_true, Bool.false_eq_true, if_false]
        rcases (specStats hs hst).cases with ⟨e, hS⟩ | ⟨e, hS⟩
        · rw [e]
          simp only [Option.bind_some, Bool.not_true, Bool.false_or]
          by_cases hc : n.Stats_.Cells_.length = 0 ∧ n.Since_ = 0
          · rw [if_neg (by simp only [Bool.or_eq_true, bne_iff_ne, decide_eq_true_eq, ne_eq]; omega)]
            rcases (specAttrs hs hal).cases with ⟨e, hA⟩ | ⟨e, hA⟩
            · rw [e]
              simp only [Option.bind_some, Bool.not_true, Bool.false_eq_true, if_false]
              refine (all_idx (Lp := spec_l19Split_L1 n (i : Int) t) (n := n.Kids_.length) (Q := fun j => ∀ h : j < n.Kids_.length, KidP t i n.Kids_[j] ∧ (0 < j → n.Kids_[j - 1] < n.Kids_[j])) 0 (fun k j hj => ?_) (fun k j _ hj => ?_) (by omega)).of_iff
                ⟨fun g => ⟨⟨hF, hk, hm, hc.1, hc.2, fun j h1 hj _ => (g j (Nat.zero_le _) hj hj).2 h1, fun x hx => by
                  obtain ⟨j, hj, rfl⟩ := List.getElem_of_mem hx
                  exact (g j (Nat.zero_le _) hj hj).1⟩, hS, hA⟩, fun g j _ hj _ => ⟨g.1.2.2.2.2.2.2 _ (List.getElem_mem hj), fun h1 => g.1.2.2.2.2.2.1 j h1 hj hj⟩⟩
              · show (if _ then _ else _) = _
                rw [if_neg (by simp; omega)]
              · rw [spec_l19Split_L1, if_pos (by simp; omega), idx_lt hj]
                simp only [Option.bind_some]
                rw [wrap_succ (i := i) (by omega), wrap_id (n := (t.Nodes_.length : Int) - 1) (by omega) (by omega), wrap_succ (i := j) (by omega)]
                generalize hx : n.Kids_[j] = x
                rcases (dec_l1In (x := x) (a := ((i + 1 : Nat) : Int)) (b := (t.Nodes_.length : Int) - 1)).cases with ⟨e, hr⟩ | ⟨e, hr⟩
                · rw [e]
                  simp only [Option.bind_some, Bool.not_true, Bool.false_eq_true, if_false]
                  obtain ⟨m, rfl⟩ : ∃ m : Nat, x = m := ⟨x.toNat, by omega⟩
                  have hm : m < t.Nodes_.length := by omega
                  rw [idx_lt hm]
                  simp only [Option.bind_some]
                  by_cases hu : t.Nodes_[m].Up_ = (i : Int)
                  · rw [if_neg (by simp only [bne_iff_ne, ne_eq]; omega)]
                    have hK : KidP t i n.Kids_[j] := by rw [hx]; exact ⟨m, hm, rfl, by omega, hu⟩
                    by_cases h1 : 0 < j
                    · rw [if_pos (by simp; omega), wrap_id (n := (j : Int) - 1) (by omega) (by omega), show (j : Int) - 1 = ((j - 1 : Nat) : Int) by omega, idx_lt (show j - 1 < n.Kids_.length by omega)]
                      simp only [Option.bind_some]
                      by_cases hlt : n.Kids_[j] ≤ n.Kids_[j - 1]
                      · rw [if_pos (by rw [← hx]; simpa using hlt)]
                        exact .inr ⟨fun g => by have := (g hj).2 h1; omega, rfl⟩
                      · rw [if_neg (by rw [← hx]; simpa using hlt)]
                        exact .inl ⟨fun _ => ⟨hK, fun _ => by omega⟩, rfl⟩
                    · rw [if_neg (by simp; omega)]
                      exact .inl ⟨fun _ => ⟨hK, fun g => absurd g h1⟩, rfl⟩
                  · rw [if_pos (by simp only [bne_iff_ne, ne_eq]; omega)]
                    exact .inr ⟨fun g => by
                      obtain ⟨m', hm', g1, _, g2⟩ := (g hj).1
                      rw [hx] at g1
                      obtain rfl : m = m' := by omega
                      exact hu g2, rfl⟩
                · rw [e]
                  exact .inr ⟨fun g => by
                      obtain ⟨m', hm', g1, g3, g2⟩ := (g hj).1
                      rw [hx] at g1
                      exact hr ⟨by omega, by omega⟩, rfl⟩
            · rw [e]
              exact dec_f fun g => hA g.2.2
          · rw [if_pos (by simp only [Bool.or_eq_true, bne_iff_ne, decide_eq_true_eq, ne_eq]; omega)]
            exact dec_f fun g => hc ⟨g.1.2.2.2.1, g.1.2.2.2.2.1⟩
        · rw [e]
          exact dec_f fun g => hS g.2.1
      · rw [e]
        exact dec_f fun g => hm g.1.2.2.1
    · rw [if_pos (by simp only [bne_iff_ne, ne_eq]; omega)]
      exact dec_f fun g => hk g.1.2.1
  · rw [e]
    exact dec_f fun g => hF g.1.1
/-! trees -/
theorem contains_int {l : List Int} (hl : l.length ≤ 1048576) (x : Int) : Dec (lib_slices_Contains___int_int_ l x) (x ∈ l) := by
  unfold lib_slices_Contains___int_int_ lib_slices_Index___int_int_
  refine (find_idx (Lp := lib_slices_Index___int_int__L1 l x) (n := l.length) (Q := fun j => ∀ h : j < l.length, x = l[j]) (fun k j hj => ?_) (fun k j hj => ?_) (by omega)).of_iff ⟨fun ⟨j, hj, g⟩ => by rw [g hj]; exact List.getElem_mem hj, fun hx => ?_⟩
  · show (if _ then _ else _) = _
    rw [if_neg (by simp; omega)]
  · rw [lib_slices_Index___int_int__L1, if_pos (by simp; omega), idx_lt hj, wrap_succ (by omega)]
    simp only [Option.bind_some]
    by_cases h : x = l[j]
    · rw [if_pos (by simpa using h)]; exact .inl ⟨fun _ => h, rfl⟩
    · rw [if_neg (by simpa using h)]; exact .inr ⟨fun g => h (g hj), rfl⟩
  · obtain ⟨j, hj, rfl⟩ := List.getElem_of_mem hx
    exact ⟨j, hj, fun _ => rfl⟩
theorem among_int {l : List Int} (hl : l.length ≤ 1048576) (x : Int) : Dec (spec_l19Among l x) (x ∈ l) := by
  unfold spec_l19Among
  have h := if_idx (Lp := fun k j => spec_l19Among_L1 l x k (j : Int)) (n := l.length) (Q := fun j => ∀ h : j < l.length, l[j] ≠ x) (fin := some false) (bad := some true) (fun k _ => by
    show spec_l19Among_L1 l x (k + 1) _ = _
    rw [spec_l19Among_L1, if_neg (by simp)]) (fun k j hj _ => by
    show (_ ∧ spec_l19Among_L1 l x (k + 1) _ = spec_l19Among_L1 l x k _) ∨ (_ ∧ spec_l19Among_L1 l x (k + 1) _ = _)
    rw [spec_l19Among_L1, if_pos (by simp; omega), idx_lt hj, wrap_succ (by omega)]
    simp only [Option.bind_some]
    by_cases h : l[j] = x
    · rw [if_pos (by simpa using h)]; exact .inr ⟨fun g => g hj h, rfl⟩
    · rw [if_neg (by simpa using h)]; exact .inl ⟨fun _ => h, rfl⟩) (by omega)
  rcases h with ⟨h1, h2⟩ | ⟨h1, h2⟩
  · have h2 : spec_l19Among_L1 l x Fuel 0 = some false := h2
    rw [h2]
    exact dec_f fun hx => by
      obtain ⟨j, hj, e⟩ := List.getElem_of_mem hx
      exact h1 j hj hj e
  · have h2 : spec_l19Among_L1 l x Fuel 0 = some true := h2
    rw [h2]
    refine dec_t (Classical.byContradiction fun hx => h1 fun j hj _ e => hx ?_)
    rw [← e]; exact List.getElem_mem hj
theorem implTree {s : Timpl_Schema} {t : Timpl_Tree} (hs : sml_Schema s) (ht : sml_Tree t) : Dec (impl_TreeOk s t) (TreeP s t) := by
  unfold impl_TreeOk
  have hl := ht.1.1
  rcases (implSchema (okS_of hs)).cases with ⟨e, hS⟩ | ⟨e, hS⟩
  · rw [e]
    simp only [Option.bind_some, Bool.not_true, Bool.false_eq_true, if_false]
    rcases (dec_within (x := (t.Nodes_.length : Int)) (a := 1) (b := 31)).cases with ⟨e, hn⟩ | ⟨e, hn⟩
    · rw [e]
      simp only [Option.bind_some, Bool.not_true, Bool.false_eq_true, if_false]
      rcases (dec_within (x := t.Seen_) (a := 0) (b := 99999)).cases with ⟨e, hq⟩ | ⟨e, hq⟩
      · rw [e]
        simp only [Option.bind_some, Bool.not_true, Bool.false_eq_true, if_false]
        refine (dec_idx (Lp := fun k i => impl_TreeOk_L1 t s k (i : Int)) (n := t.Nodes_.length) (Q := NodeP s t) (F := True) (fun k _ => ?_) (fun k i hi hQ => ?_) (by omega)).of_iff ⟨fun g => ⟨hS, hn, hq, g.1⟩, fun g => ⟨g.2.2.2, trivial⟩⟩
        · show Dec (impl_TreeOk_L1 t s (k + 1) _) _
          rw [impl_TreeOk_L1, if_neg (by simp)]
          exact dec_t trivial
        · show (_ ∧ impl_TreeOk_L1 t s (k + 1) _ = impl_TreeOk_L1 t s k _) ∨ (_ ∧ impl_TreeOk_L1 t s (k + 1) _ = _)
          rw [impl_TreeOk_L1, if_pos (by simp; omega), idx_lt hi, wrap_succ (by omega)]
          simp only [Option.bind_some]
          rcases (implNode hs ht hi).cases with ⟨e, hN⟩ | ⟨e, hN⟩
          · rw [e]
            simp only [Option.bind_some, Bool.not_true, Bool.false_eq_true, if_false]
            by_cases h0 : i = 0
            · rw [if_pos (by simp only [beq_iff_eq]; omega)]
              by_cases hL : t.Nodes_[i].Up_ = -1 ∧ t.Nodes_[i].Depth_ = 0 ∧ t.Nodes_[i].Born_ = 0
              · rw [if_neg (by simp only [Bool.or_eq_true, bne_iff_ne, ne_eq]; omega)]
                exact .inl ⟨fun _ => ⟨hN, fun _ => hL, fun g => by omega⟩, rfl⟩
              · rw [if_pos (by simp only [Bool.or_eq_true, bne_iff_ne, ne_eq]; omega)]
                exact .inr ⟨fun g => hL ((g hi).2.1 h0), rfl⟩
            · rw [if_neg (by simp only [beq_iff_eq]; omega), wrap_id (n := (i : Int) - 1) (by omega) (by omega)]
              rcases (dec_within (x := t.Nodes_[i].Up_) (a := 0) (b := (i : Int) - 1)).cases with ⟨e, hr⟩ | ⟨e, hr⟩
              · rw [e]
                simp only [Option.bind_some, Bool.not_true, Bool.false_eq_true, if_false]
                obtain ⟨u, hu⟩ : ∃ u : Nat, t.Nodes_[i].Up_ = u := ⟨t.Nodes_[i].Up_.toNat, by omega⟩
                have hui : u < i := by omega
                have hul : u < t.Nodes_.length := by omega
                rw [hu, idx_lt hul]
                simp only [Option.bind_some]
                have hNu := hQ u hui hul
                have hd := hN.1
                have hdu := hNu.1.1
                rw [wrap_id (n := t.Nodes_[i].Depth_ - 1) (by omega) (by omega)]
                by_cases hlf : t.Nodes_[u].Leaf_ = true
                · rw [if_pos hlf]
                  exact .inr ⟨fun g => by
                    obtain ⟨u', _, hu', h1, h2, _⟩ := (g hi).2.2 (by omega)
                    obtain rfl : u = u' := by omega
                    exact (nomatch h2.symm.trans hlf), rfl⟩
                · rw [if_neg hlf]
                  have hlf' : t.Nodes_[u].Leaf_ = false := by simpa using hlf
                  rcases (contains_int (l := t.Nodes_[u].Kids_) (ht.1.2 _ (List.getElem_mem hul)).2.2.1.1 (i : Int)).cases with ⟨e, hc⟩ | ⟨e, hc⟩
                  · rw [e]
                    simp only [Option.bind_some, Bool.not_true, Bool.false_or]
                    by_cases hd2 : t.Nodes_[u].Depth_ + 1 = t.Nodes_[i].Depth_ ∧ t.Nodes_[u].Born_ ≤ t.Nodes_[i].Born_
                    · rw [if_neg (by simp only [Bool.or_eq_true, bne_iff_ne, decide_eq_true_eq, ne_eq]; omega)]
                      exact .inl ⟨fun _ => ⟨hN, fun g => absurd g h0, fun _ => ⟨u, hui, hul, hu, hlf', hc, hd2.1, hd2.2⟩⟩, rfl⟩
                    · rw [if_pos (by simp only [Bool.or_eq_true, bne_iff_ne, decide_eq_true_eq, ne_eq]; omega)]
                      exact .inr ⟨fun g => by
                        obtain ⟨u', _, hu', h1, h2, h3, h4, h5⟩ := (g hi).2.2 (by omega)
                        obtain rfl : u = u' := by omega
                        exact hd2 ⟨h4, h5⟩, rfl⟩
                  · rw [e]
                    exact .inr ⟨fun g => by
                      obtain ⟨u', _, hu', h1, h2, h3, h4, h5⟩ := (g hi).2.2 (by omega)
                      obtain rfl : u = u' := by omega
                      exact hc h3, rfl⟩
              · rw [e]
                exact .inr ⟨fun g => by
                  obtain ⟨u', _, hu', h1, _⟩ := (g hi).2.2 (by omega)
                  exact hr ⟨by omega, by omega⟩, rfl⟩
          · rw [e]
            exact .inr ⟨fun g => hN (g hi).1, rfl⟩
      · rw [e]
        exact dec_f fun g => hq g.2.2.1
    · rw [e]
      exact dec_f fun g => hn g.2.1
  · rw [e]
    exact dec_f fun g => hS g.1
theorem specTree {s : Timpl_Schema} {t : Timpl_Tree} (hs : sml_Schema s) (ht : sml_Tree t) : Dec (spec_TreeOk s t) (TreeP s t) := by
  unfold spec_TreeOk
  have hl := ht.1.1
  rcases (specSchema (okS_of hs)).cases with ⟨e, hS⟩ | ⟨e, hS⟩
  · rw [e]
    simp only [Option.bind_some, Bool.not_true, Bool.false_eq_true, if_false]
    rcases (dec_l1In (x := (t.Nodes_.length : Int)) (a := 1) (b := 31)).cases with ⟨e, hn⟩ | ⟨e, hn⟩
    · rw [e]
      simp only [Option.bind_some, Bool.not_true, Bool.false_eq_true, if_false]
      rcases (dec_l1In (x := t.Seen_) (a := 0) (b := 99999)).cases with ⟨e, hq⟩ | ⟨e, hq⟩
      · rw [e]
        simp only [Option.bind_some, Bool.not_true, Bool.false_eq_true, if_false]
        refine (dec_idx (Lp := fun k i => spec_TreeOk_L1 t s k (i : Int)) (n := t.Nodes_.length) (Q := NodeP s t) (F := True) (fun k _ => ?_) (fun k i hi hQ => ?_) (by omega)).of_iff ⟨fun g => ⟨hS, hn, hq, g.1⟩, fun g => ⟨g.2.2.2, trivial⟩⟩
        · show Dec (spec_TreeOk_L1 t s (k + 1) _) _
          rw [spec_TreeOk_L1, if_neg (by simp)]
          exact dec_t trivial
        · show (_ ∧ spec_TreeOk_L1 t s (k + 1) _ = spec_TreeOk_L1 t s k _) ∨ (_ ∧ spec_TreeOk_L1 t s (k + 1) _ = _)
          rw [spec_TreeOk_L1, if_pos (by simp; omega), idx_lt hi, wrap_succ (by omega)]
          simp only [Option.bind_some]
          have hnd := ht.1.2 _ (List.getElem_mem hi)
          rcases (dec_l1In (x := t.Nodes_[i].Depth_) (a := 0) (b := 6)).cases with ⟨e, hdp⟩ | ⟨e, hdp⟩
          · rw [e]
            simp only [Option.bind_some, Bool.not_true, Bool.false_eq_true, if_false]
            rcases (dec_l1In (x := t.Nodes_[i].Born_) (a := 0) (b := t.Seen_)).cases with ⟨e, hbn⟩ | ⟨e, hbn⟩
            · rw [e]
              simp only [Option.bind_some, Bool.not_true, Bool.false_eq_true, if_false]
              have hself : ∀ b : Bool, t.Nodes_[i].Leaf_ = b → ∀ K : Bool → Option Bool, (SelfP s t i t.Nodes_[i] ∧ (((if t.Nodes_[i].Leaf_ = true then (spec_l19Leaf s ({ t.Nodes_[i] with Leaf_ := true })).bind fun y314 => some (!y314) else some false).bind fun u313 => (if u313 = true then some true else (if (!t.Nodes_[i].Leaf_) = true then (spec_l19Split s t (i : Int)).bind fun y320 => some (!y320) else some false).bind fun u319 => some u319).bind K) = K false)) ∨
                  (¬ SelfP s t i t.Nodes_[i] ∧ (((if t.Nodes_[i].Leaf_ = true then (spec_l19Leaf s ({ t.Nodes_[i] with Leaf_ := true })).bind fun y314 => some (!y314) else some false).bind fun u313 => (if u313 = true then some true else (if (!t.Nodes_[i].Leaf_) = true then (spec_l19Split s t (i : Int)).bind fun y320 => some (!y320) else some false).bind fun u319 => some u319).bind K) = K true)) := fun b hb K => by
                cases b
                · rw [hb]
                  simp only [Option.bind_some, Bool.not_false, Bool.false_eq_true, if_true, if_false]
                  rcases (specSplit hs ht hi).cases with ⟨e, h⟩ | ⟨e, h⟩
                  · rw [e]
                    exact .inl ⟨⟨hdp, hbn, h.2.1, h.2.2, fun g => (nomatch hb.symm.trans g), fun _ => h.1⟩, rfl⟩
                  · rw [e]
                    exact .inr ⟨fun g => h ⟨g.2.2.2.2.2 hb, g.2.2.1, g.2.2.2.1⟩, rfl⟩
                · have hE : ({ t.Nodes_[i] with Leaf_ := true } : Timpl_Node) = t.Nodes_[i] := by rw [← hb]
                  rw [hE, hb]
                  simp only [Option.bind_some, Bool.not_true, Bool.false_eq_true, if_true, if_false]
                  rcases (specLeaf hs hnd).cases with ⟨e, h⟩ | ⟨e, h⟩
                  · rw [e]
                    exact .inl ⟨⟨hdp, hbn, h.2.1, h.2.2, fun _ => h.1, fun g => (nomatch hb.symm.trans g)⟩, rfl⟩
                  · rw [e]
                    exact .inr ⟨fun g => h ⟨g.2.2.2.2.1 hb, g.2.2.1, g.2.2.2.1⟩, rfl⟩
              rcases hself _ rfl _ with ⟨hN, e⟩ | ⟨hN, e⟩
              · rw [e]
                simp only [Bool.false_eq_true, if_false]
                by_cases h0 : i = 0
                · rw [if_pos (by simp only [beq_iff_eq]; omega)]
                  by_cases hL : t.Nodes_[i].Up_ = -1 ∧ t.Nodes_[i].Depth_ = 0 ∧ t.Nodes_[i].Born_ = 0
                  · rw [if_neg (by simp only [Bool.or_eq_true, bne_iff_ne, ne_eq]; omega)]
                    exact .inl ⟨fun _ => ⟨hN, fun _ => hL, fun g => by omega⟩, rfl⟩
                  · rw [if_pos (by simp only [Bool.or_eq_true, bne_iff_ne, ne_eq]; omega)]
                    exact .inr ⟨fun g => hL ((g hi).2.1 h0), rfl⟩
                · rw [if_neg (by simp only [beq_iff_eq]; omega), wrap_id (n := (i : Int) - 1) (by omega) (by omega)]
                  rcases (dec_l1In (x := t.Nodes_[i].Up_) (a := 0) (b := (i : Int) - 1)).cases with ⟨e, hr⟩ | ⟨e, hr⟩
                  · rw [e]
                    simp only [Option.bind_some, Bool.not_true, Bool.false_eq_true, if_false]
                    obtain ⟨u, hu⟩ : ∃ u : Nat, t.Nodes_[i].Up_ = u := ⟨t.Nodes_[i].Up_.toNat, by omega⟩
                    have hui : u < i := by omega
                    have hul : u < t.Nodes_.length := by omega
                    rw [hu, idx_lt hul]
                    simp only [Option.bind_some]
                    have hNu := hQ u hui hul
                    have hdu := hNu.1.1
                    rw [wrap_id (n := t.Nodes_[u].Depth_ + 1) (by omega) (by omega)]
                    by_cases hlf : t.Nodes_[u].Leaf_ = true
                    · rw [if_pos hlf]
                      exact .inr ⟨fun g => by
                        obtain ⟨u', _, hu', h1, h2, _⟩ := (g hi).2.2 (by omega)
                        obtain rfl : u = u' := by omega
                        exact (nomatch h2.symm.trans hlf), rfl⟩
                    · rw [if_neg hlf]
                      have hlf' : t.Nodes_[u].Leaf_ = false := by simpa using hlf
                      rcases (among_int (l := t.Nodes_[u].Kids_) (ht.1.2 _ (List.getElem_mem hul)).2.2.1.1 (i : Int)).cases with ⟨e, hc⟩ | ⟨e, hc⟩
                      · rw [e]
                        simp only [Option.bind_some, Bool.not_true, Bool.false_or]
                        by_cases hd2 : t.Nodes_[u].Depth_ + 1 = t.Nodes_[i].Depth_ ∧ t.Nodes_[u].Born_ ≤ t.Nodes_[i].Born_
                        · rw [if_neg (by simp only [Bool.or_eq_true, bne_iff_ne, decide_eq_true_eq, ne_eq]; omega)]
                          exact .inl ⟨fun _ => ⟨hN, fun g => absurd g h0, fun _ => ⟨u, hui, hul, hu, hlf', hc, hd2.1, hd2.2⟩⟩, rfl⟩
                        · rw [if_pos (by simp only [Bool.or_eq_true, bne_iff_ne, decide_eq_true_eq, ne_eq]; omega)]
                          exact .inr ⟨fun g => by
                            obtain ⟨u', _, hu', h1, h2, h3, h4, h5⟩ := (g hi).2.2 (by omega)
                            obtain rfl : u = u' := by omega
                            exact hd2 ⟨h4, h5⟩, rfl⟩
                      · rw [e]
                        exact .inr ⟨fun g => by
                          obtain ⟨u', _, hu', h1, h2, h3, h4, h5⟩ := (g hi).2.2 (by omega)
                          obtain rfl : u = u' := by omega
                          exact hc h3, rfl⟩
                  · rw [e]
                    exact .inr ⟨fun g => by
                      obtain ⟨u', _, hu', h1, _⟩ := (g hi).2.2 (by omega)
                      exact hr ⟨by omega, by omega⟩, rfl⟩
              · rw [e]
                exact .inr ⟨fun g => hN (g hi).1, rfl⟩
            · rw [e]
              exact .inr ⟨fun g => hbn (g hi).1.2.1, rfl⟩
          · rw [e]
            exact .inr ⟨fun g => hdp (g hi).1.1, rfl⟩
      · rw [e]
        exact dec_f fun g => hq g.2.2.1
    · rw [e]
      exact dec_f fun g => hn g.2.1
  · rw [e]
    exact dec_f fun g => hS g.1
end Go.Vk
/- Where a bin goes; the mask of a branch; the mask of all: alike. -/
namespace Go.Vk
/-- the branch of a bin -/
def brOf (a : Timpl_Attr) (f : Timpl_Fork) (b : Int) : Int := if f.At_ = -1 then b else if 0 < a.Cuts_.length then (if f.At_ < b then 1 else 0) else (if b = f.At_ then 0 else 1)
theorem specBranchOf {s : Timpl_Schema} {f : Timpl_Fork} (hs : sml_Schema s) (h : ForkP s f) {b : Int} (hb : 0 ≤ b ∧ b ≤ (nb (atr s f) : Int) - 1) : spec_BranchOf s f b = some (brOf (atr s f) f b) := by
  unfold spec_BranchOf brOf
  have hm := hs.1.2 _ (atr_mem h.2.1)
  have hA := atr_ok h.1 h.2.1
  have hnb := nb_b hA
  rcases (specFork (f := f) hs).cases with ⟨e, _⟩ | ⟨_, g⟩
  · rw [e]
    simp only [Option.bind_some, Bool.not_true, Bool.false_eq_true, if_false]
    rw [idx_atr h.2.1]
    simp only [Option.bind_some]
    rw [specBins hm hA]
    simp only [Option.bind_some]
    rw [wrap_id (by omega) (by omega)]
    rcases (dec_l1In (x := b) (a := 0) (b := (nb (atr s f) : Int) - 1)).cases with ⟨e, _⟩ | ⟨_, g⟩
    · rw [e]
      simp only [Option.bind_some, Bool.not_true, Bool.false_eq_true, if_false]
      by_cases h1 : f.At_ = -1
      · rw [if_pos (by simpa using h1), if_pos h1]
      · rw [if_neg (by simpa using h1), if_neg h1]
        unfold spec_l1Bit
        by_cases h2 : 0 < (atr s f).Cuts_.length
        · rw [if_pos (by simpa using h2), if_pos h2]
          by_cases h3 : f.At_ < b
          · rw [if_pos h3, if_pos (by simpa using h3)]; rfl
          · rw [if_neg h3, if_neg (by simpa using h3)]; rfl
        · rw [if_neg (by simpa using h2), if_neg h2]
          by_cases h3 : b = f.At_
          · rw [if_pos h3, if_neg (by simpa using h3)]; rfl
          · rw [if_neg h3, if_pos (by simpa using h3)]; rfl
    · exact absurd hb g
  · exact absurd h g
theorem implBranchOf {s : Timpl_Schema} {f : Timpl_Fork} (hs : sml_Schema s) (h : ForkP s f) {b : Int} (hb : 0 ≤ b ∧ b ≤ (nb (atr s f) : Int) - 1) : impl_BranchOf s f b = some (brOf (atr s f) f b) := by
  unfold impl_BranchOf brOf
  have hm := hs.1.2 _ (atr_mem h.2.1)
  have hA := atr_ok h.1 h.2.1
  have hnb := nb_b hA
  rcases (implFork (f := f) hs).cases with ⟨e, _⟩ | ⟨_, g⟩
  · rw [e]
    simp only [Option.bind_some, Bool.not_true, Bool.false_eq_true, if_false]
    rw [idx_atr h.2.1]
    simp only [Option.bind_some]
    rw [implBins hm]
    simp only [Option.bind_some]
    rw [wrap_id (by omega) (by omega)]
    rcases (dec_within (x := b) (a := 0) (b := (nb (atr s f) : Int) - 1)).cases with ⟨e, _⟩ | ⟨_, g⟩
    · rw [e]
      simp only [Option.bind_some, Bool.not_true, Bool.false_eq_true, if_false]
      by_cases h1 : f.At_ = -1
      · rw [if_pos (by simpa using h1), if_pos h1]
      · rw [if_neg (by simpa using h1), if_neg h1]
        by_cases h3 : b = f.At_
        · rw [if_pos (by simpa using h3)]
          simp only [Option.bind_some, if_true]
          have h4 : ¬ f.At_ < b := by omega
          rw [if_pos h3, if_neg h4, ite_self]
        · rw [if_neg (by simpa using h3), if_neg h3]
          simp only [Option.bind_some]
          by_cases h2 : 0 < (atr s f).Cuts_.length
          · rw [if_pos h2]
            by_cases h4 : f.At_ < b
            · rw [if_neg (by simp only [Bool.and_eq_true, decide_eq_true_eq]; omega), if_pos h4]
            · rw [if_pos (by simp only [Bool.and_eq_true, decide_eq_true_eq]; omega), if_neg h4]
          · rw [if_neg (by simp only [Bool.and_eq_true, decide_eq_true_eq]; omega), if_neg h2]
    · exact absurd hb g
  · exact absurd h g
end Go.Vk
/- A window in words: alike. -/
namespace Go.Vk
end Go.Vk
/- Scores: tested alike. -/
namespace Go.Vk
end Go.Vk
/- Scores: tested alike by the program. -/
namespace Go.Vk
end Go.Vk
/- Rules, members, forests, states: tested alike. -/
namespace Go.Vk
theorem and_some (c y : Bool) : (if c = true then some y else some false : Option Bool) = some (c && y) := by cases c <;> rfl
def RuleP (r : Timpl_Rule) : Prop := (1 ≤ r.Sure_ ∧ r.Sure_ ≤ 9) ∧ (0 ≤ r.Tie_ ∧ r.Tie_ ≤ 999) ∧ (1 ≤ r.Grace_ ∧ r.Grace_ ≤ 200) ∧ (0 ≤ r.Depth_ ∧ r.Depth_ ≤ 6) ∧ (1 ≤ r.Nodes_ ∧ r.Nodes_ ≤ 31) ∧ (62 ≤ r.Units_ ∧ r.Units_ ≤ 2000)
theorem specRule (r : Timpl_Rule) : Dec (spec_RuleOk r) (RuleP r) := by
  unfold spec_RuleOk spec_l1In RuleP
  simp only [Option.bind_some, and_some]
  exact ⟨_, rfl, by simp [and_assoc]⟩
theorem implRule (r : Timpl_Rule) : Dec (impl_RuleOk r) (RuleP r) := by
  unfold impl_RuleOk impl_within RuleP
  simp only [Option.bind_some, and_some]
  exact ⟨_, rfl, by simp [and_assoc]⟩
end Go.Vk
/- Subsets by their rank: alike. -/
namespace Go.Vk
end Go.Vk
/- A new state: alike. -/
namespace Go.Vk
/-! tapes -/
/-! statistics, trees -/
def statsN (s : Timpl_Schema) : Timpl_Stats := ⟨List.replicate s.Classes_.length 0, s.Attrs_.map fun a => List.replicate (nb a * s.Classes_.length) 0⟩
theorem specStatsNew {s : Timpl_Schema} (hs : sml_Schema s) (hS : SchemaP s) : spec_StatsNew s = some (statsN s) := by
  unfold spec_StatsNew
  have hc := hS.2.1
  rcases (specSchema (okS_of hs)).cases with ⟨e, _⟩ | ⟨_, g⟩
  · rw [e]
    simp only [Option.bind_some, Bool.not_true, Bool.false_eq_true, if_false]
    rw [mk_eq _ (by omega)]
    simp only [Option.bind_some]
    refine map_loop (p := s.Attrs_) (fun a => List.replicate (nb a * s.Classes_.length) (0 : Int)) (spec_StatsNew_L1 s (List.replicate s.Classes_.length 0)) (fun l => some ⟨List.replicate s.Classes_.length 0, l⟩) (fun k l => ?_) (fun k l i h hi => ?_) (by have := hS.1; omega)
    · rw [spec_StatsNew_L1, if_neg (by simp)]
    · have hA := hs.1.2 _ (List.getElem_mem h)
      have hnb := nb_b (hS.attr h)
      have hm : nb s.Attrs_[i] * s.Classes_.length ≤ 4 * 3 := Nat.mul_le_mul (by omega) (by omega)
      have hsl := hS.1
      rw [spec_StatsNew_L1, if_pos (by simp; omega), idx_lt h, wrap_succ (by omega)]
      simp only [Option.bind_some]
      rw [specBins hA (hS.attr h)]
      simp only [Option.bind_some]
      rw [← Int.natCast_mul, wrap_nat (by omega), mk_eq _ (by omega)]
      simp only [Option.bind_some]
      rw [app_eq (by simp; omega)]
      rfl
  · exact absurd hS g
theorem implStatsNew {s : Timpl_Schema} (hs : sml_Schema s) (hS : SchemaP s) : impl_StatsNew s = some (statsN s) := by
  unfold impl_StatsNew impl_zeros
  have hc := hS.2.1
  rcases (implSchema (okS_of hs)).cases with ⟨e, _⟩ | ⟨_, g⟩
  · rw [e]
    simp only [Option.bind_some, Bool.not_true, Bool.false_eq_true, if_false]
    rw [mk_eq _ (by omega)]
    simp only [Option.bind_some]
    refine map_loop (p := s.Attrs_) (fun a => List.replicate (nb a * s.Classes_.length) (0 : Int)) (fun k l i => impl_StatsNew_L1 s (List.replicate s.Classes_.length 0) k i l) (fun l => some ⟨List.replicate s.Classes_.length 0, l⟩) (fun k l => ?_) (fun k l i h hi => ?_) (by have := hS.1; omega)
    · show impl_StatsNew_L1 s _ (k + 1) _ _ = _
      rw [impl_StatsNew_L1, if_neg (by simp)]
    · show impl_StatsNew_L1 s _ (k + 1) _ _ = impl_StatsNew_L1 s _ k _ _
      have hA := hs.1.2 _ (List.getElem_mem h)
      have hnb := nb_b (hS.attr h)
      have hm : nb s.Attrs_[i] * s.Classes_.length ≤ 4 * 3 := Nat.mul_le_mul (by omega) (by omega)
      have hsl := hS.1
      rw [impl_StatsNew_L1, if_pos (by simp; omega), idx_lt h, wrap_succ (by omega)]
      simp only [Option.bind_some]
      rw [implBins hA]
      unfold impl_zeros
      simp only [Option.bind_some]
      rw [← Int.natCast_mul, wrap_nat (by omega), mk_eq _ (by omega)]
      simp only [Option.bind_some]
      rw [app_eq (by simp; omega)]
      rfl
  · exact absurd hS g
end Go.Vk
/- Examples: tested alike. -/
namespace Go.Vk
def ExP (s : Timpl_Schema) (e : Timpl_Ex) : Prop := SchemaP s ∧ e.Bins_.length = s.Attrs_.length ∧ (-1 ≤ e.Class_ ∧ e.Class_ ≤ (s.Classes_.length : Int) - 1) ∧
  ∀ i, 0 ≤ i → i < e.Bins_.length → ∃ n : Nat, ∃ h : i < s.Attrs_.length, impl_bins s.Attrs_[i] = some (n : Int) ∧ n ≤ 4 ∧ ∀ hb : i < e.Bins_.length, -1 ≤ e.Bins_[i] ∧ e.Bins_[i] ≤ (n : Int) - 1
theorem specExBins {s : Timpl_Schema} {e : Timpl_Ex} (hs : OkS s) (hS : SchemaP s) (hl : e.Bins_.length = s.Attrs_.length) : Dec (spec_ExOk_L1 e s Fuel 0) (∀ i, 0 ≤ i → i < e.Bins_.length → ∃ n : Nat, ∃ h : i < s.Attrs_.length, impl_bins s.Attrs_[i] = some (n : Int) ∧ n ≤ 4 ∧ ∀ hb : i < e.Bins_.length, -1 ≤ e.Bins_[i] ∧ e.Bins_[i] ≤ (n : Int) - 1) := by
  refine all_idx (Lp := spec_ExOk_L1 e s) (n := e.Bins_.length) 0 (fun k i hi => ?_) (fun k i _ hi => ?_) (by have := hs.1; omega)
  · show (if _ then _ else _) = _
    rw [if_neg (by simp; omega)]
  · have ha : i < s.Attrs_.length := by omega
    obtain ⟨n, b1, b2, _, b3⟩ := bins_ok (hs.2.1 _ (List.getElem_mem ha)) (hS.2.2.2 i (Nat.zero_le _) ha ha).1
    rw [spec_ExOk_L1]
    rw [if_pos (by simp; omega), idx_lt hi, idx_lt ha, wrap_succ (by have := hs.1; omega)]
    simp only [Option.bind_some]
    rw [b1]
    simp only [Option.bind_some]
    rw [wrap_id (by omega) (by omega)]
    unfold spec_l1In
    simp only [Option.bind_some]
    by_cases hc : -1 ≤ e.Bins_[i] ∧ e.Bins_[i] ≤ (n : Int) - 1
    · rw [in_t hc]
      exact .inl ⟨⟨n, ha, b2, b3, fun _ => hc⟩, rfl⟩
    · rw [in_f hc]
      exact .inr ⟨fun ⟨n', _, b4, _, g⟩ => hc (by rw [b2] at b4; have := Option.some.inj b4; rw [this]; exact g hi), rfl⟩
theorem implExBins {s : Timpl_Schema} {e : Timpl_Ex} (hs : OkS s) (hS : SchemaP s) (hl : e.Bins_.length = s.Attrs_.length) : Dec (impl_ExOk_L1 e s Fuel 0) (∀ i, 0 ≤ i → i < e.Bins_.length → ∃ n : Nat, ∃ h : i < s.Attrs_.length, impl_bins s.Attrs_[i] = some (n : Int) ∧ n ≤ 4 ∧ ∀ hb : i < e.Bins_.length, -1 ≤ e.Bins_[i] ∧ e.Bins_[i] ≤ (n : Int) - 1) := by
  refine all_idx (Lp := impl_ExOk_L1 e s) (n := e.Bins_.length) 0 (fun k i hi => ?_) (fun k i _ hi => ?_) (by have := hs.1; omega)
  · show (if _ then _ else _) = _
    rw [if_neg (by simp; omega)]
  · have ha : i < s.Attrs_.length := by omega
    obtain ⟨n, b1, b2, _, b3⟩ := bins_ok (hs.2.1 _ (List.getElem_mem ha)) (hS.2.2.2 i (Nat.zero_le _) ha ha).1
    rw [impl_ExOk_L1]
    rw [if_pos (by simp; omega), idx_lt hi, idx_lt ha, wrap_succ (by have := hs.1; omega)]
    simp only [Option.bind_some]
    rw [b2]
    simp only [Option.bind_some]
    rw [wrap_id (by omega) (by omega)]
    unfold impl_within
    simp only [Option.bind_some]
    by_cases hc : -1 ≤ e.Bins_[i] ∧ e.Bins_[i] ≤ (n : Int) - 1
    · rw [in_t hc]
      exact .inl ⟨⟨n, ha, b2, b3, fun _ => hc⟩, rfl⟩
    · rw [in_f hc]
      exact .inr ⟨fun ⟨n', _, b4, _, g⟩ => hc (by rw [b2] at b4; have := Option.some.inj b4; rw [this]; exact g hi), rfl⟩
theorem specEx {s : Timpl_Schema} {e : Timpl_Ex} (hs : OkS s) : Dec (spec_ExOk s e) (ExP s e) := by
  unfold spec_ExOk ExP
  rcases (specSchema hs).cases with ⟨e1, h⟩ | ⟨e1, h⟩
  · rw [e1]
    unfold spec_l1In
    simp only [Option.bind_some, Bool.not_true, Bool.false_or]
    by_cases hn : e.Bins_.length = s.Attrs_.length
    · rw [if_neg (by simp [hn])]
      simp only [Option.bind_some]
      rw [wrap_id (by omega) (by have := hs.2.2.1; omega)]
      by_cases hc : -1 ≤ e.Class_ ∧ e.Class_ ≤ (s.Classes_.length : Int) - 1
      · rw [in_t hc]
        simp only [Bool.not_true, Bool.false_eq_true, if_false]
        exact (specExBins hs h hn).of_iff ⟨fun g => ⟨h, hn, hc, g⟩, fun g => g.2.2.2⟩
      · rw [in_f hc]
        exact dec_f fun g => hc g.2.2.1
    · rw [if_pos (by simp; omega)]
      exact dec_f fun g => hn g.2.1
  · rw [e1]
    exact dec_f fun g => h g.1
theorem implEx {s : Timpl_Schema} {e : Timpl_Ex} (hs : OkS s) : Dec (impl_ExOk s e) (ExP s e) := by
  unfold impl_ExOk ExP
  rcases (implSchema hs).cases with ⟨e1, h⟩ | ⟨e1, h⟩
  · rw [e1]
    unfold impl_within
    simp only [Option.bind_some, Bool.not_true, Bool.false_or]
    by_cases hn : e.Bins_.length = s.Attrs_.length
    · rw [if_neg (by simp [hn])]
      simp only [Option.bind_some]
      rw [wrap_id (by omega) (by have := hs.2.2.1; omega)]
      by_cases hc : -1 ≤ e.Class_ ∧ e.Class_ ≤ (s.Classes_.length : Int) - 1
      · rw [in_t hc]
        simp only [Bool.not_true, Bool.false_eq_true, if_false]
        exact (implExBins hs h hn).of_iff ⟨fun g => ⟨h, hn, hc, g⟩, fun g => g.2.2.2⟩
      · rw [in_f hc]
        exact dec_f fun g => hc g.2.2.1
    · rw [if_pos (by simp; omega)]
      exact dec_f fun g => hn g.2.1
  · rw [e1]
    exact dec_f fun g => h g.1
end Go.Vk
/- Entries: what the tests say. -/
namespace Go.Vk
def EntryP (s : Timpl_Schema) (e : Timpl_Entry) : Prop := ExP s e.Ex_ ∧ 0 ≤ e.Ex_.Class_ ∧ (1 ≤ e.Weight_ ∧ e.Weight_ ≤ 7)
theorem implEntry {s : Timpl_Schema} {e : Timpl_Entry} (hs : OkS s) : Dec (impl_EntriesOk_1 e s) (¬ EntryP s e) := by
  unfold impl_EntriesOk_1 EntryP impl_within
  rcases (implEx (e := e.Ex_) hs).cases with ⟨e1, h⟩ | ⟨e1, h⟩
  · rw [e1]
    simp only [Option.bind_some, Bool.not_true, Bool.false_or]
    by_cases h1 : e.Ex_.Class_ < 0
    · rw [if_pos (by simpa using h1)]
      exact dec_t fun g => by omega
    · rw [if_neg (by simpa using h1)]
      by_cases h2 : 1 ≤ e.Weight_ ∧ e.Weight_ ≤ 7
      · rw [in_t h2]
        exact dec_f fun g => g ⟨h, by omega, h2⟩
      · rw [in_f h2]
        exact dec_t fun g => h2 g.2.2
  · rw [e1]
    exact dec_t fun g => h g.1
theorem specEntries {s : Timpl_Schema} {l : List Timpl_Entry} (hs : OkS s) (hl : l.length ≤ 1048576) : Dec (spec_EntriesOk s l) (SchemaP s ∧ ∀ e ∈ l, EntryP s e) := by
  unfold spec_EntriesOk
  rcases (specSchema hs).cases with ⟨e, h⟩ | ⟨e, h⟩
  · rw [e]
    simp only [Option.bind_some, Bool.not_true, Bool.false_eq_true, if_false]
    refine (dec_idx (Lp := fun k i => spec_EntriesOk_L1 l s k (i : Int)) (n := l.length) (Q := fun i => ∀ h : i < l.length, EntryP s l[i]) (F := True) (fun k _ => ?_) (fun k i hi _ => ?_) (by omega)).of_iff ⟨fun g => ⟨h, fun x hx => ?_⟩, fun g => ⟨fun i hi _ => g.2 _ (List.getElem_mem hi), trivial⟩⟩
    · show Dec (spec_EntriesOk_L1 l s (k + 1) _) _
      rw [spec_EntriesOk_L1, if_neg (by simp)]
      exact dec_t trivial
    · show (_ ∧ spec_EntriesOk_L1 l s (k + 1) _ = spec_EntriesOk_L1 l s k _) ∨ (_ ∧ spec_EntriesOk_L1 l s (k + 1) _ = _)
      rw [spec_EntriesOk_L1, if_pos (by simp; omega), idx_lt hi, wrap_succ (by omega)]
      unfold EntryP spec_l1In
      simp only [Option.bind_some]
      rcases (specEx (e := l[i].Ex_) hs).cases with ⟨e1, h1⟩ | ⟨e1, h1⟩
      · rw [e1]
        simp only [Option.bind_some, Bool.not_true, Bool.false_eq_true, if_false]
        by_cases h2 : l[i].Ex_.Class_ < 0
        · rw [if_pos (by simpa using h2)]
          exact .inr ⟨fun g => by have := (g hi).2.1; omega, rfl⟩
        · rw [if_neg (by simpa using h2)]
          by_cases h3 : 1 ≤ l[i].Weight_ ∧ l[i].Weight_ ≤ 7
          · rw [in_t h3]
            exact .inl ⟨fun _ => ⟨h1, by omega, h3⟩, rfl⟩
          · rw [in_f h3]
            exact .inr ⟨fun g => h3 (g hi).2.2, rfl⟩
      · rw [e1]
        exact .inr ⟨fun g => h1 (g hi).1, rfl⟩
    · obtain ⟨i, hi, rfl⟩ := List.mem_iff_getElem.1 hx
      exact g.1 i hi hi
  · rw [e]
    exact dec_f fun g => h g.1
theorem implEntries {s : Timpl_Schema} {l : List Timpl_Entry} (hs : OkS s) (hl : l.length ≤ 1048576) : Dec (impl_EntriesOk s l) (SchemaP s ∧ ∀ e ∈ l, EntryP s e) := by
  unfold impl_EntriesOk
  rcases (implSchema hs).cases with ⟨e, h⟩ | ⟨e, h⟩
  · rw [e]
    simp only [Option.bind_some, if_true]
    unfold lib_slices_ContainsFunc___impl_Entry_impl_Entry___impl_EntriesOk_1 lib_slices_IndexFunc___impl_Entry_impl_Entry___impl_EntriesOk_1
    have hf := find_idx (Lp := lib_slices_IndexFunc___impl_Entry_impl_Entry___impl_EntriesOk_1_L1 l s) (n := l.length) (Q := fun j => ∀ hj : j < l.length, ¬ EntryP s l[j]) (fun k j hj => by
      show (if _ then _ else _) = _
      rw [if_neg (by simp; omega)]) (fun k j hj => by
      rw [lib_slices_IndexFunc___impl_Entry_impl_Entry___impl_EntriesOk_1_L1]
      rw [if_pos (by simp; omega), idx_lt hj, wrap_succ (by omega)]
      simp only [Option.bind_some]
      rcases (implEntry (e := l[j]) hs).cases with ⟨e1, h1⟩ | ⟨e1, h1⟩
      · rw [e1]
        exact .inl ⟨fun _ => h1, rfl⟩
      · rw [e1]
        exact .inr ⟨fun g => h1 (g hj), rfl⟩) (by omega)
    rcases hf.cases with ⟨e2, j, hj, hQ⟩ | ⟨e2, hQ⟩
    · rw [e2]
      exact dec_f fun g => hQ hj (g.2 _ (List.getElem_mem hj))
    · rw [e2]
      refine dec_t ⟨h, fun x hx => ?_⟩
      obtain ⟨i, hi, rfl⟩ := List.mem_iff_getElem.1 hx
      exact Classical.byContradiction fun c => hQ ⟨i, hi, fun _ => c⟩
  · rw [e]
    exact dec_f fun g => h g.1
theorem specInts {p q : List Int} (hp : p.length ≤ 1048576) : Dec (spec_l5SameInts p q) (p = q) :=
  eq_dec (spec_l5SameInts_L1 p q) rfl (fun k => by rw [spec_l5SameInts_L1, if_neg (by simp)]) (fun k i h1 h2 => by
    rw [spec_l5SameInts_L1, if_pos (by simp; omega), idx_lt h1, idx_lt h2, wrap_succ (by omega)]
    simp only [Option.bind_some]
    by_cases h : p[i] = q[i]
    · rw [if_neg (by simp [h])]; exact .inl ⟨h, rfl⟩
    · rw [if_pos (by simpa using h)]; exact .inr ⟨h, rfl⟩) (by omega)
theorem implInts {p q : List Int} (hp : p.length ≤ 1048576) : Dec (lib_slices_Equal___int_int_ p q) (p = q) :=
  eq_dec (lib_slices_Equal___int_int__L1 p q) rfl (fun k => by rw [lib_slices_Equal___int_int__L1, if_neg (by simp)]) (fun k i h1 h2 => by
    rw [lib_slices_Equal___int_int__L1, if_pos (by simp; omega), idx_lt h1, idx_lt h2, wrap_succ (by omega)]
    simp only [Option.bind_some]
    by_cases h : p[i] = q[i]
    · rw [if_neg (by simp [h])]; exact .inl ⟨h, rfl⟩
    · rw [if_pos (by simpa using h)]; exact .inr ⟨h, rfl⟩) (by omega)
end Go.Vk
