/- A window in words: alike. -/
import Derived.Test.YtjflgcighcjfkaaDoorPNu
namespace Go.Vk
theorem pow2_ok {n : Nat} (hn : n ≤ 40) : spec_l16Power (n : Int) = some ((2 ^ n : Nat) : Int) := by
  unfold spec_l16Power
  have key : ∀ (d k i : Nat), i + d = n → d < k → spec_l16Power_L1 (n : Int) k ((2 ^ i : Nat) : Int) (i : Int) = some ((2 ^ n : Nat) : Int) := by
    intro d
    induction d with
    | zero =>
      intro k i hd hk
      obtain ⟨k, rfl⟩ : ∃ q, k = q + 1 := ⟨k - 1, by omega⟩
      rw [spec_l16Power_L1]
      rw [if_neg (by simp; omega), show i = n by omega]
    | succ d ih =>
      intro k i hd hk
      obtain ⟨k, rfl⟩ : ∃ q, k = q + 1 := ⟨k - 1, by omega⟩
      rw [spec_l16Power_L1]
      have hp : (2 : Nat) ^ i ≤ 2 ^ 40 := Nat.pow_le_pow_right (by omega) (by omega)
      have e : IntKind.i64.wrap (((2 ^ i : Nat) : Int) * 2) = ((2 ^ (i + 1) : Nat) : Int) := by
        rw [Nat.pow_succ]
        generalize (2 : Nat) ^ i = q at hp
        rw [wrap_id (by omega) (by omega)]; omega
      rw [if_pos (decide_eq_true (by omega)), e, wrap_succ (by omega)]
      exact ih k (i + 1) (by omega) (by omega)
  exact key n Fuel 0 (by omega) (fuel_gt (by omega))
theorem shl_pow : ∀ n : Nat, n < 8 → shl .i64 1 (n : Int) = some ((2 ^ n : Nat) : Int) := by decide
def RowW (p : Timpl_Window) (i : Nat) : Prop := ∀ h : i < p.Rows_.length, (1 ≤ p.Rows_[i].length ∧ p.Rows_[i].length ≤ 3) ∧ ∀ x ∈ p.Rows_[i], 0 ≤ x ∧ x ≤ ((2 ^ i : Nat) : Int)
def WinP (p : Timpl_Window) : Prop := p.Rows_.length ≤ 8 ∧ ∀ i, i < p.Rows_.length → RowW p i
theorem specWin (p : Timpl_Window) : Dec (spec_WindowOk p) (WinP p) := by
  unfold spec_WindowOk WinP
  by_cases h8 : p.Rows_.length ≤ 8
  · rw [if_neg (by simp; omega)]
    rcases if_idx (Lp := fun k i => spec_WindowOk_L1 p k (i : Int)) (n := p.Rows_.length) (Q := RowW p) (fin := some true) (bad := some false) (fun k _ => by
      show spec_WindowOk_L1 p (k + 1) _ = _
      rw [spec_WindowOk_L1, if_neg (by simp)]) (fun k i hi _ => by
      show (_ ∧ spec_WindowOk_L1 p (k + 1) _ = spec_WindowOk_L1 p k _) ∨ (_ ∧ spec_WindowOk_L1 p (k + 1) _ = _)
      rw [spec_WindowOk_L1, if_pos (by simp; omega), idx_lt hi]
      unfold spec_l1In
      simp only [Option.bind_some]
      by_cases hr : 1 ≤ p.Rows_[i].length ∧ p.Rows_[i].length ≤ 3
      · rw [if_neg (by simp; omega), all_loop2 (p := p.Rows_[i]) (P := fun x => 0 ≤ x ∧ x ≤ ((2 ^ i : Nat) : Int)) (fin := spec_WindowOk_L1 p k ((i + 1 : Nat) : Int)) (bad := some false) (spec_WindowOk_L2 p i (spec_WindowOk_L1 p k)) (fun k2 => by
          rw [spec_WindowOk_L2, idx_lt hi]
          simp only [Option.bind_some]
          rw [if_neg (by simp), wrap_succ (by omega)]) (fun k2 j hj => by
          rw [spec_WindowOk_L2, idx_lt hi]
          simp only [Option.bind_some]
          rw [if_pos (by simp; omega), idx_lt hj, pow2_ok (by omega), wrap_succ (by omega)]
          unfold spec_l1In
          simp only [Option.bind_some]
          generalize ((2 ^ i : Nat) : Int) = q
          by_cases hx : 0 ≤ p.Rows_[i][j] ∧ p.Rows_[i][j] ≤ q
          · rw [if_pos hx, if_neg (by simp; omega)]
          · rw [if_neg hx, if_pos (by simp; omega)]) (by omega)]
        by_cases hx : ∀ x ∈ p.Rows_[i], 0 ≤ x ∧ x ≤ ((2 ^ i : Nat) : Int)
        · rw [if_pos hx]; exact .inl ⟨fun _ => ⟨hr, hx⟩, rfl⟩
        · rw [if_neg hx]; exact .inr ⟨fun g => hx (g hi).2, rfl⟩
      · rw [if_pos (by simp; omega)]
        exact .inr ⟨fun g => hr (g hi).1, rfl⟩) (by omega) with ⟨h1, h2⟩ | ⟨h1, h2⟩
    · exact ⟨true, h2, by simp; exact ⟨h8, h1⟩⟩
    · exact ⟨false, h2, by simp only [Bool.false_eq_true, false_iff]; exact fun g => h1 g.2⟩
  · rw [if_pos (by simp; omega)]
    exact ⟨false, rfl, by simp; omega⟩
theorem winHas {r : List Int} (hl : r.length ≤ 1048576) {i : Nat} (hi : i < 8) : Dec (lib_slices_ContainsFunc___int_int___impl_WindowOk_1 r i) (∃ x ∈ r, ¬ (0 ≤ x ∧ x ≤ ((2 ^ i : Nat) : Int))) := by
  unfold lib_slices_ContainsFunc___int_int___impl_WindowOk_1 lib_slices_IndexFunc___int_int___impl_WindowOk_1
  refine (find_idx (Lp := lib_slices_IndexFunc___int_int___impl_WindowOk_1_L1 r i) (n := r.length) (Q := fun j => ∀ hj : j < r.length, ¬ (0 ≤ r[j] ∧ r[j] ≤ ((2 ^ i : Nat) : Int))) (fun k j hj => by
    show (if _ then _ else _) = _
    rw [if_neg (by simp; omega)]) (fun k j hj => by
    rw [lib_slices_IndexFunc___int_int___impl_WindowOk_1_L1]
    rw [if_pos (by simp; omega), idx_lt hj, wrap_succ (by omega)]
    unfold impl_WindowOk_1 impl_within
    rw [shl_pow i hi]
    simp only [Option.bind_some]
    by_cases hc : 0 ≤ r[j] ∧ r[j] ≤ ((2 ^ i : Nat) : Int)
    · rw [in_t hc]
      exact .inr ⟨fun g => g hj hc, rfl⟩
    · rw [in_f hc]
      exact .inl ⟨fun _ => hc, rfl⟩) (by omega)).of_iff ⟨fun ⟨i, hi, h⟩ => ⟨r[i], List.getElem_mem hi, h hi⟩, fun ⟨x, hx, h⟩ => ?_⟩
  obtain ⟨i, hi, rfl⟩ := List.mem_iff_getElem.1 hx
  exact ⟨i, hi, fun _ => h⟩
theorem implWin {p : Timpl_Window} (_ : sml_Window p) : Dec (impl_WindowOk p) (WinP p) := by
  unfold impl_WindowOk WinP
  by_cases h8 : p.Rows_.length ≤ 8
  · rw [if_neg (by simp; omega)]
    rcases if_idx (Lp := fun k i => impl_WindowOk_L1 p k (i : Int)) (n := p.Rows_.length) (Q := RowW p) (fin := some true) (bad := some false) (fun k _ => by
      show impl_WindowOk_L1 p (k + 1) _ = _
      rw [impl_WindowOk_L1, if_neg (by simp)]) (fun k i hi _ => by
      show (_ ∧ impl_WindowOk_L1 p (k + 1) _ = impl_WindowOk_L1 p k _) ∨ (_ ∧ impl_WindowOk_L1 p (k + 1) _ = _)
      rw [impl_WindowOk_L1, if_pos (by simp; omega), idx_lt hi]
      unfold impl_within
      simp only [Option.bind_some]
      by_cases hr : 1 ≤ p.Rows_[i].length ∧ p.Rows_[i].length ≤ 3
      · rw [if_neg (by simp; omega)]
        rcases (winHas (r := p.Rows_[i]) (by omega) (i := i) (by omega)).cases with ⟨e, h⟩ | ⟨e, h⟩
        · rw [e]
          exact .inr ⟨fun g => by obtain ⟨x, hx, hq⟩ := h; exact hq ((g hi).2 x hx), rfl⟩
        · rw [e]
          refine .inl ⟨fun _ => ⟨hr, fun x hx => ?_⟩, by simp only [Option.bind_some]; rw [if_neg (by simp), wrap_succ (by omega)]⟩
          exact Decidable.by_contra fun hq => h ⟨x, hx, hq⟩
      · rw [if_pos (by simp; omega)]
        exact .inr ⟨fun g => hr (g hi).1, rfl⟩) (by omega) with ⟨h1, h2⟩ | ⟨h1, h2⟩
    · exact ⟨true, h2, by simp; exact ⟨h8, h1⟩⟩
    · exact ⟨false, h2, by simp only [Bool.false_eq_true, false_iff]; exact fun g => h1 g.2⟩
  · rw [if_pos (by simp; omega)]
    exact ⟨false, rfl, by simp; omega⟩
/-- the buckets of the first c rows, the oldest first -/
def bk (p : Timpl_Window) : Nat → List Timpl_Bucket
  | 0 => []
  | c + 1 => ((p.Rows_[c]?).getD []).map (Timpl_Bucket.mk ((2 ^ c : Nat) : Int)) ++ bk p c
theorem bk_len {p : Timpl_Window} (h : WinP p) : ∀ c, c ≤ p.Rows_.length → (bk p c).length ≤ 3 * c
  | 0, _ => by simp [bk]
  | c + 1, hc => by
    have := bk_len h c (by omega)
    have := ((h.2 c (by omega)) (by omega)).1
    have h' : c < p.Rows_.length := by omega
    simp [bk, h']
    omega
theorem bk_in {p : Timpl_Window} (hp : sml_Window p) : ∀ c, c ≤ 8 → ∀ b ∈ bk p c, I64 b.Ones_ ∧ I64 b.Size_
  | 0, _, _, h => by simp [bk] at h
  | c + 1, hc, b, hb => by
    simp only [bk, List.mem_append, List.mem_map] at hb
    rcases hb with ⟨x, hx, rfl⟩ | hb
    · have h2 : (2 : Nat) ^ c ≤ 2 ^ 8 := Nat.pow_le_pow_right (by omega) (by omega)
      refine ⟨?_, by show I64 ((2 ^ c : Nat) : Int); unfold I64; generalize (2 : Nat) ^ c = q at h2; omega⟩
      cases hq : p.Rows_[c]? with
      | none => rw [hq] at hx; simp at hx
      | some r =>
        rw [hq] at hx
        exact (hp.2 r (List.mem_of_getElem? hq)).2 x hx
    · exact bk_in hp c (by omega) b hb
theorem map_more {α β ρ : Type} {p : List α} (g : α → β) (l : List β) (Lp : Nat → List β → Int → Option ρ) (fin : List β → Option ρ)
    (hz : ∀ k v, Lp (k + 1) v (p.length : Int) = fin v)
    (hs : ∀ k v (i : Nat) (h : i < p.length), v.length = l.length + i → Lp (k + 1) v (i : Int) = Lp k (v ++ [g p[i]]) ((i + 1 : Nat) : Int))
    (hp : p.length < 1000000000000) : Lp Fuel l 0 = fin (l ++ p.map g) := by
  have := for_idx (Lp := fun k i => Lp k (l ++ (p.take i).map g) (i : Int)) (n := p.length) (fin := fin (l ++ p.map g)) (fun k => by
    show Lp _ _ _ = _
    rw [hz, List.take_length]) (fun k i hi => by
    show Lp _ _ _ = Lp _ _ _
    rw [hs _ _ _ hi (by simp; omega), List.take_succ_eq_append_getElem hi, List.map_append, List.append_assoc]
    rfl) hp
  simpa using this
theorem specBk {p : Timpl_Window} (h : WinP p) : ∀ c k l, c ≤ p.Rows_.length → c < k → l.length + 3 * c ≤ 1000 → spec_Buckets_L1 p k l ((c : Int) - 1) = some (l ++ bk p c) := by
  intro c
  induction c with
  | zero =>
    intro k l _ hk hl
    obtain ⟨k, rfl⟩ : ∃ q, k = q + 1 := ⟨k - 1, by omega⟩
    rw [spec_Buckets_L1, if_neg (by simp), bk, List.append_nil]
  | succ c ih =>
    intro k l hc hk hl
    obtain ⟨k, rfl⟩ : ∃ q, k = q + 1 := ⟨k - 1, by omega⟩
    have h8 := h.1
    have hc' : c < p.Rows_.length := by omega
    have hr := (h.2 c hc' hc').1
    have e : ((c + 1 : Nat) : Int) - 1 = c := by omega
    rw [e, spec_Buckets_L1, if_pos (by simp), map_more (p := p.Rows_[c]) (Timpl_Bucket.mk ((2 ^ c : Nat) : Int)) l (spec_Buckets_L2 p c (spec_Buckets_L1 p k)) (fun l => spec_Buckets_L1 p k l ((c : Int) - 1)) (fun k2 v => by
      rw [spec_Buckets_L2, idx_lt hc']
      simp only [Option.bind_some]
      rw [if_neg (by simp), wrap_id (by omega) (by omega)]) (fun k2 v j hj hv => by
      rw [spec_Buckets_L2, idx_lt hc']
      simp only [Option.bind_some]
      rw [if_pos (by simp; omega), idx_lt hj, pow2_ok (by omega), wrap_succ (by omega)]
      unfold app
      simp only [Option.bind_some]
      rw [if_pos (by simp; omega)]
      rfl) (by omega), ih k _ (by omega) (by omega) (by simp; omega)]
    simp [bk, hc']
theorem implBk {p : Timpl_Window} (h : WinP p) : ∀ c k l, c ≤ p.Rows_.length → c < k → l.length + 3 * c ≤ 1000 → impl_Buckets_L1 p k l ((c : Int) - 1) = some (l ++ bk p c) := by
  intro c
  induction c with
  | zero =>
    intro k l _ hk hl
    obtain ⟨k, rfl⟩ : ∃ q, k = q + 1 := ⟨k - 1, by omega⟩
    rw [impl_Buckets_L1, if_neg (by simp), bk, List.append_nil]
  | succ c ih =>
    intro k l hc hk hl
    obtain ⟨k, rfl⟩ : ∃ q, k = q + 1 := ⟨k - 1, by omega⟩
    have h8 := h.1
    have hc' : c < p.Rows_.length := by omega
    have hr := (h.2 c hc' hc').1
    have e : ((c + 1 : Nat) : Int) - 1 = c := by omega
    rw [e, impl_Buckets_L1, if_pos (by simp), idx_lt hc']
    simp only [Option.bind_some]
    rw [map_more (p := p.Rows_[c]) (Timpl_Bucket.mk ((2 ^ c : Nat) : Int)) l (fun k2 v j => impl_Buckets_L2 p.Rows_[c] c (impl_Buckets_L1 p k) k2 j v) (fun l => impl_Buckets_L1 p k l ((c : Int) - 1)) (fun k2 v => by
      show impl_Buckets_L2 _ _ _ _ _ _ = _
      rw [impl_Buckets_L2]
      rw [if_neg (by simp), wrap_id (by omega) (by omega)]) (fun k2 v j hj hv => by
      show impl_Buckets_L2 _ _ _ _ _ _ = _
      rw [impl_Buckets_L2]
      rw [if_pos (by simp; omega), idx_lt hj, shl_pow c (by omega), wrap_succ (by omega)]
      unfold app
      simp only [Option.bind_some]
      rw [if_pos (by simp; omega)]
      rfl) (by omega), ih k _ (by omega) (by omega) (by simp; omega)]
    simp [bk, hc']
theorem buckets_ok {p : Timpl_Window} (hp : sml_Window p) (h : WinP p) : spec_Buckets p = some (bk p p.Rows_.length) ∧ impl_Buckets p = some (bk p p.Rows_.length) := by
  unfold spec_Buckets impl_Buckets
  have h8 := h.1
  have e1 : spec_WindowOk p = some true := by
    rcases (specWin p).cases with ⟨e, _⟩ | ⟨_, g⟩
    · exact e
    · exact absurd h g
  have e2 : impl_WindowOk p = some true := by
    rcases (implWin hp).cases with ⟨e, _⟩ | ⟨_, g⟩
    · exact e
    · exact absurd h g
  rw [e1, e2]
  simp only [Option.bind_some, Bool.not_true, Bool.false_eq_true, if_false]
  rw [wrap_id (by omega) (by omega), specBk h _ _ _ (Nat.le_refl _) (fuel_gt (by omega)) (by simp; omega), implBk h _ _ _ (Nat.le_refl _) (fuel_gt (by omega)) (by simp; omega)]
  exact ⟨rfl, rfl⟩
theorem wrap_I64 (x : Int) : I64 (IntKind.i64.wrap x) := by
  unfold I64
  rw [IntKind.wrap_i64]
  omega
theorem spec_sums {y : List Timpl_Bucket} (hy : y.length ≤ 1000) : ∃ a, spec_WindowOnes_L1 y Fuel 0 0 = some a ∧ impl_WindowOnes_L1 y Fuel 0 0 = some a ∧ I64 a := by
  have e : ∀ k v i, spec_WindowOnes_L1 y k v i = impl_WindowOnes_L1 y k v i := by
    intro k
    induction k with
    | zero => intro v i; rfl
    | succ k ih =>
      intro v i
      rw [spec_WindowOnes_L1, impl_WindowOnes_L1]
      simp only [ih]
  have t : Tot (spec_WindowOnes_L1 y Fuel 0 0) I64 := tot_for (fun k s i => spec_WindowOnes_L1 y k s i) y.length (fun _ s => I64 s) (fun k s hs => by
    show Tot (spec_WindowOnes_L1 y (k + 1) s _) _
    rw [spec_WindowOnes_L1, if_neg (by simp)]
    exact tot_some hs) (fun k s i hi hs ih => by
    show Tot (spec_WindowOnes_L1 y (k + 1) s _) _
    rw [spec_WindowOnes_L1, if_pos (by simp; omega), idx_lt hi, wrap_succ (by omega)]
    exact ih _ (wrap_I64 _)) (by omega) (by unfold I64; omega)
  obtain ⟨a, h1, h2⟩ := t
  exact ⟨a, h1, by rw [← e, h1], h2⟩
theorem spec_sizes {y : List Timpl_Bucket} (hy : y.length ≤ 1000) : ∃ a, spec_WindowTotal_L1 y Fuel 0 0 = some a ∧ impl_WindowTotal_L1 y Fuel 0 0 = some a ∧ I64 a := by
  have e : ∀ k v i, spec_WindowTotal_L1 y k v i = impl_WindowTotal_L1 y k v i := by
    intro k
    induction k with
    | zero => intro v i; rfl
    | succ k ih =>
      intro v i
      rw [spec_WindowTotal_L1, impl_WindowTotal_L1]
      simp only [ih]
  have t : Tot (spec_WindowTotal_L1 y Fuel 0 0) I64 := tot_for (fun k s i => spec_WindowTotal_L1 y k s i) y.length (fun _ s => I64 s) (fun k s hs => by
    show Tot (spec_WindowTotal_L1 y (k + 1) s _) _
    rw [spec_WindowTotal_L1, if_neg (by simp)]
    exact tot_some hs) (fun k s i hi hs ih => by
    show Tot (spec_WindowTotal_L1 y (k + 1) s _) _
    rw [spec_WindowTotal_L1, if_pos (by simp; omega), idx_lt hi, wrap_succ (by omega)]
    exact ih _ (wrap_I64 _)) (by omega) (by unfold I64; omega)
  obtain ⟨a, h1, h2⟩ := t
  exact ⟨a, h1, by rw [← e, h1], h2⟩
def btext (b : Timpl_Bucket) : List UInt8 := [32] ++ Lib.itoa b.Ones_ ++ [47] ++ Lib.itoa b.Size_
theorem window_texts {y : List Timpl_Bucket} (hy : y.length ≤ 1000) (hb : ∀ b ∈ y, I64 b.Ones_ ∧ I64 b.Size_) {s : List UInt8} (hs : s.length ≤ 1000) : ∃ m, spec_WindowText_L1 y Fuel s 0 = some m ∧ impl_WindowText_L1 y Fuel 0 s = some m := by
  have hl : ∀ i, i ≤ y.length → (s ++ ((y.take i).map btext).flatten).length ≤ 1000 + 44 * i := by
    intro i
    induction i with
    | zero => intro _; simpa using hs
    | succ i ih =>
      intro hi
      have := ih (by omega)
      have hi' : i < y.length := by omega
      have h1 := itoa_len (hb _ (List.getElem_mem hi')).1
      have h2 := itoa_len (hb _ (List.getElem_mem hi')).2
      rw [List.take_succ_eq_append_getElem hi', List.map_append, List.flatten_append, ← List.append_assoc, List.length_append]
      have e : (List.map btext [y[i]]).flatten.length ≤ 44 := by simp [btext]; omega
      omega
  refine ⟨s ++ (y.map btext).flatten, ?_, ?_⟩
  · have := for_idx (Lp := fun k i => spec_WindowText_L1 y k (s ++ ((y.take i).map btext).flatten) (i : Int)) (n := y.length) (fin := some (s ++ (y.map btext).flatten)) (fun k => by
      show spec_WindowText_L1 _ _ _ _ = _
      rw [spec_WindowText_L1, if_neg (by simp), List.take_length]) (fun k i hi => by
      show spec_WindowText_L1 _ _ _ _ = spec_WindowText_L1 _ _ _ _
      have hq := hl i (by omega)
      have h1 := hb _ (List.getElem_mem hi)
      have l1 := itoa_len h1.1
      have l2 := itoa_len h1.2
      rw [spec_WindowText_L1, if_pos (by simp; omega), idx_lt hi, wrap_succ (by omega), List.take_succ_eq_append_getElem hi]
      simp only [List.map_append, List.flatten_append, List.map_cons, List.map_nil, List.flatten_cons, List.flatten_nil, List.append_nil]
      rw [← List.append_assoc s]
      generalize s ++ (List.map btext (List.take i y)).flatten = v at hq
      rw [sadd_eq (by simp; omega)]
      simp only [Option.bind_some]
      rw [specDigits h1.1, specDigits h1.2]
      unfold btext
      generalize Lib.itoa y[i].Ones_ = a at *
      generalize Lib.itoa y[i].Size_ = b at *
      simp only [Option.bind_some]
      repeat
        rw [sadd_eq (by simp; omega)]
        simp only [Option.bind_some]
      simp) (by omega)
    simpa using this
  · have := for_idx (Lp := fun k i => impl_WindowText_L1 y k (i : Int) (s ++ ((y.take i).map btext).flatten)) (n := y.length) (fin := some (s ++ (y.map btext).flatten)) (fun k => by
      show impl_WindowText_L1 _ _ _ _ = _
      rw [impl_WindowText_L1, if_neg (by simp), List.take_length]) (fun k i hi => by
      show impl_WindowText_L1 _ _ _ _ = impl_WindowText_L1 _ _ _ _
      have hq := hl i (by omega)
      have h1 := hb _ (List.getElem_mem hi)
      have l1 := itoa_len h1.1
      have l2 := itoa_len h1.2
      rw [impl_WindowText_L1, if_pos (by simp; omega), idx_lt hi, wrap_succ (by omega), List.take_succ_eq_append_getElem hi]
      simp only [List.map_append, List.flatten_append, List.map_cons, List.map_nil, List.flatten_cons, List.flatten_nil, List.append_nil]
      rw [← List.append_assoc s]
      generalize s ++ (List.map btext (List.take i y)).flatten = v at hq
      simp only [Option.bind_some]
      rw [implDigits h1.1, implDigits h1.2]
      unfold btext
      generalize Lib.itoa y[i].Ones_ = a at *
      generalize Lib.itoa y[i].Size_ = b at *
      simp only [Option.bind_some]
      repeat
        rw [sadd_eq (by simp; omega)]
        simp only [Option.bind_some]
      try simp) (by omega)
    simpa using this
theorem windowText_same {p : Timpl_Window} (hp : sml_Window p) : ∃ m, spec_WindowText p = some m ∧ impl_WindowText p = some m := by
  unfold spec_WindowText impl_WindowText
  rw [← (specWin p).eq (implWin hp)]
  rcases (specWin p).cases with ⟨e, h⟩ | ⟨e, h⟩
  · have h8 := h.1
    have hl := bk_len h _ (Nat.le_refl _)
    have hin := bk_in hp _ h8
    obtain ⟨b1, b2⟩ := buckets_ok hp h
    obtain ⟨a, a1, a2, a3⟩ := spec_sums (y := bk p p.Rows_.length) (by omega)
    obtain ⟨t, t1, t2, t3⟩ := spec_sizes (y := bk p p.Rows_.length) (by omega)
    have la := itoa_len a3
    have lt := itoa_len t3
    unfold spec_WindowOnes impl_WindowOnes spec_WindowTotal impl_WindowTotal
    rw [e, b1, b2]
    simp only [Option.bind_some, Bool.not_true, Bool.false_eq_true, if_false]
    rw [a1, a2, t1, t2]
    simp only [Option.bind_some]
    rw [specDigits a3, specDigits t3, implDigits a3, implDigits t3]
    simp only [Option.bind_some]
    generalize Lib.itoa a = a at *
    generalize Lib.itoa t = t at *
    rw [sadd_eq (by simp; omega)]
    simp only [Option.bind_some]
    rw [sadd_eq (by simp; omega)]
    simp only [Option.bind_some]
    exact window_texts (by omega) hin (by simp; omega)
  · rw [e]; exact ⟨[], rfl, rfl⟩
end Go.Vk
