/- Entries, replies: tested alike. -/
import Derived.Test.YtejneofoabmojaaPEx
import Derived.Test.YtejneofoabmojaaPT
namespace Go.Vk
theorem both_of {o o' : Option Bool} {P : Prop} (h : Dec o P) (h' : Dec o' P) : ∃ m, o = some m ∧ o' = some m := by
  have e := h.eq h'
  obtain ⟨b, rfl, _⟩ := h
  exact ⟨b, rfl, e.symm⟩
theorem okS_sml {s : Timpl_Schema} (h : sml_Schema s) : OkS s := by
  obtain ⟨⟨h1, h2⟩, h3, h4⟩ := h
  refine ⟨by omega, fun a ha => ?_, by omega, fun y hy => by have := h4 y hy; omega⟩
  obtain ⟨g1, g2, g3, g4⟩ := h2 a ha
  exact ⟨by omega, by have := g2.1; omega, by omega, fun y hy => by have := g4 y hy; omega⟩
def EntryP (s : Timpl_Schema) (e : Timpl_Entry) : Prop := ExP s e.Ex_ ∧ 0 ≤ e.Ex_.Class_ ∧ (1 ≤ e.Weight_ ∧ e.Weight_ ≤ 7)
theorem implEntry {s : Timpl_Schema} {e : Timpl_Entry} (hs : OkS s) : Dec (impl_EntriesOk_1 e s) (¬ EntryP s e) := by
  unfold impl_EntriesOk_1 EntryP impl_within
  rcases (implEx (e := e.Ex_) hs).cases with ⟨e1, h⟩ | ⟨e1, h⟩
  · rw [e1]
    simp only [Option.bind_some, Bool.not_true, Bool.false_or]
    by_cases h1 : e.Ex_.Class_ < 0
    · rw [if_pos (by simpa using h1)]
      exact dec_t fun g => by omega
    · rw [if_neg (by simpa using h1)]
      by_cases h2 : 1 ≤ e.Weight_ ∧ e.Weight_ ≤ 7
      · rw [in_t h2]
        exact dec_f fun g => g ⟨h, by omega, h2⟩
      · rw [in_f h2]
        exact dec_t fun g => h2 g.2.2
  · rw [e1]
    exact dec_t fun g => h g.1
theorem specEntries {s : Timpl_Schema} {l : List Timpl_Entry} (hs : OkS s) (hl : l.length ≤ 1048576) : Dec (spec_EntriesOk s l) (SchemaP s ∧ ∀ e ∈ l, EntryP s e) := by
  unfold spec_EntriesOk
  rcases (specSchema hs).cases with ⟨e, h⟩ | ⟨e, h⟩
  · rw [e]
    simp only [Option.bind_some, Bool.not_true, Bool.false_eq_true, if_false]
    refine (dec_idx (Lp := fun k i => spec_EntriesOk_L1 l s k (i : Int)) (n := l.length) (Q := fun i => ∀ h : i < l.length, EntryP s l[i]) (F := True) (fun k _ => ?_) (fun k i hi _ => ?_) (by omega)).of_iff ⟨fun g => ⟨h, fun x hx => ?_⟩, fun g => ⟨fun i hi _ => g.2 _ (List.getElem_mem hi), trivial⟩⟩
    · show Dec (spec_EntriesOk_L1 l s (k + 1) _) _
      rw [spec_EntriesOk_L1, if_neg (by simp)]
      exact dec_t trivial
    · show (_ ∧ spec_EntriesOk_L1 l s (k + 1) _ = spec_EntriesOk_L1 l s k _) ∨ (_ ∧ spec_EntriesOk_L1 l s (k + 1) _ = _)
      rw [spec_EntriesOk_L1, if_pos (by simp; omega), idx_lt hi, wrap_succ (by omega)]
      unfold EntryP spec_l1In
      simp only [Option.bind_some]
      rcases (specEx (e := l[i].Ex_) hs).cases with ⟨e1, h1⟩ | ⟨e1, h1⟩
      · rw [e1]
        simp only [Option.bind_some, Bool.not_true, Bool.false_eq_true, if_false]
        by_cases h2 : l[i].Ex_.Class_ < 0
        · rw [if_pos (by simpa using h2)]
          exact .inr ⟨fun g => by have := (g hi).2.1; omega, rfl⟩
        · rw [if_neg (by simpa using h2)]
          by_cases h3 : 1 ≤ l[i].Weight_ ∧ l[i].Weight_ ≤ 7
          · rw [in_t h3]
            exact .inl ⟨fun _ => ⟨h1, by omega, h3⟩, rfl⟩
          · rw [in_f h3]
            exact .inr ⟨fun g => h3 (g hi).2.2, rfl⟩
      · rw [e1]
        exact .inr ⟨fun g => h1 (g hi).1, rfl⟩
    · obtain ⟨i, hi, rfl⟩ := List.mem_iff_getElem.1 hx
      exact g.1 i hi hi
  · rw [e]
    exact dec_f fun g => h g.1
theorem implEntries {s : Timpl_Schema} {l : List Timpl_Entry} (hs : OkS s) (hl : l.length ≤ 1048576) : Dec (impl_EntriesOk s l) (SchemaP s ∧ ∀ e ∈ l, EntryP s e) := by
  unfold impl_EntriesOk
  rcases (implSchema hs).cases with ⟨e, h⟩ | ⟨e, h⟩
  · rw [e]
    simp only [Option.bind_some, if_true]
    unfold lib_slices_ContainsFunc___impl_Entry_impl_Entry___impl_EntriesOk_1 lib_slices_IndexFunc___impl_Entry_impl_Entry___impl_EntriesOk_1
    have hf := find_idx (Lp := lib_slices_IndexFunc___impl_Entry_impl_Entry___impl_EntriesOk_1_L1 l s) (n := l.length) (Q := fun j => ∀ hj : j < l.length, ¬ EntryP s l[j]) (fun k j hj => by
      show (if _ then _ else _) = _
      rw [if_neg (by simp; omega)]) (fun k j hj => by
      rw [lib_slices_IndexFunc___impl_Entry_impl_Entry___impl_EntriesOk_1_L1]
      rw [if_pos (by simp; omega), idx_lt hj, wrap_succ (by omega)]
      simp only [Option.bind_some]
      rcases (implEntry (e := l[j]) hs).cases with ⟨e1, h1⟩ | ⟨e1, h1⟩
      · rw [e1]
        exact .inl ⟨fun _ => h1, rfl⟩
      · rw [e1]
        exact .inr ⟨fun g => h1 (g hj), rfl⟩) (by omega)
    rcases hf.cases with ⟨e2, j, hj, hQ⟩ | ⟨e2, hQ⟩
    · rw [e2]
      exact dec_f fun g => hQ hj (g.2 _ (List.getElem_mem hj))
    · rw [e2]
      refine dec_t ⟨h, fun x hx => ?_⟩
      obtain ⟨i, hi, rfl⟩ := List.mem_iff_getElem.1 hx
      exact Classical.byContradiction fun c => hQ ⟨i, hi, fun _ => c⟩
  · rw [e]
    exact dec_f fun g => h g.1
theorem entries_same {s : Timpl_Schema} {l : List Timpl_Entry} (hs : sml_Schema s) (hl : sml_EntryS l) : ∃ m, spec_EntriesOk s l = some m ∧ impl_EntriesOk s l = some m :=
  both_of (specEntries (okS_sml hs) hl.1) (implEntries (okS_sml hs) hl.1)
theorem specInts {p q : List Int} (hp : p.length ≤ 1048576) : Dec (spec_l5SameInts p q) (p = q) :=
  eq_dec (spec_l5SameInts_L1 p q) rfl (fun k => by rw [spec_l5SameInts_L1, if_neg (by simp)]) (fun k i h1 h2 => by
    rw [spec_l5SameInts_L1, if_pos (by simp; omega), idx_lt h1, idx_lt h2, wrap_succ (by omega)]
    simp only [Option.bind_some]
    by_cases h : p[i] = q[i]
    · rw [if_neg (by simp [h])]; exact .inl ⟨h, rfl⟩
    · rw [if_pos (by simpa using h)]; exact .inr ⟨h, rfl⟩) (by omega)
theorem implInts {p q : List Int} (hp : p.length ≤ 1048576) : Dec (lib_slices_Equal___int_int_ p q) (p = q) :=
  eq_dec (lib_slices_Equal___int_int__L1 p q) rfl (fun k => by rw [lib_slices_Equal___int_int__L1, if_neg (by simp)]) (fun k i h1 h2 => by
    rw [lib_slices_Equal___int_int__L1, if_pos (by simp; omega), idx_lt h1, idx_lt h2, wrap_succ (by omega)]
    simp only [Option.bind_some]
    by_cases h : p[i] = q[i]
    · rw [if_neg (by simp [h])]; exact .inl ⟨h, rfl⟩
    · rw [if_pos (by simpa using h)]; exact .inr ⟨h, rfl⟩) (by omega)
theorem step_eq {a b : Timpl_Step} : (a.Said_ == b.Said_ && (a.Bit_ == b.Bit_ && (a.Weight_ == b.Weight_ && (a.Grow_ == b.Grow_ && (a.Young_ == b.Young_ && (a.Det_ == b.Det_ && (a.Began_ == b.Began_ && (a.Swapped_ == b.Swapped_ && true)))))))) = decide (a = b) := by
  rw [Bool.eq_iff_iff]
  obtain ⟨a1, a2, a3, a4, a5, a6, a7, a8⟩ := a
  obtain ⟨b1, b2, b3, b4, b5, b6, b7, b8⟩ := b
  simp
theorem implSteps {p q : List Timpl_Step} (hp : p.length ≤ 1048576) : Dec (lib_slices_Equal___impl_Step_impl_Step_ p q) (p = q) :=
  eq_dec (lib_slices_Equal___impl_Step_impl_Step__L1 p q) rfl (fun k => by rw [lib_slices_Equal___impl_Step_impl_Step__L1, if_neg (by simp)]) (fun k i h1 h2 => by
    rw [lib_slices_Equal___impl_Step_impl_Step__L1, if_pos (by simp; omega), idx_lt h1, idx_lt h2, wrap_succ (by omega)]
    simp only [Option.bind_some, step_eq]
    by_cases h : p[i] = q[i]
    · rw [if_neg (by simp [h])]; exact .inl ⟨h, rfl⟩
    · rw [if_pos (by simpa using h)]; exact .inr ⟨h, rfl⟩) (by omega)
theorem specSteps {x y : Timpl_Reply} (hl : x.Steps_.length = y.Steps_.length) (hp : x.Steps_.length ≤ 1048576) : Dec (spec_ReplySame_L1 x y Fuel 0) (x.Steps_ = y.Steps_) :=
  eq_dec (spec_ReplySame_L1 x y) (by rw [if_neg (by simp [hl])]) (fun k => by rw [spec_ReplySame_L1, if_neg (by simp)]) (fun k i h1 h2 => by
    rw [spec_ReplySame_L1, if_pos (by simp; omega), idx_lt h1, idx_lt h2, wrap_succ (by omega)]
    simp only [Option.bind_some, step_eq]
    by_cases h : x.Steps_[i] = y.Steps_[i]
    · rw [if_neg (by simp [h])]; exact .inl ⟨h, rfl⟩
    · rw [if_pos (by simpa using h)]; exact .inr ⟨h, rfl⟩) (by omega)
def ReplyP (x y : Timpl_Reply) : Prop := ((x.Code_ = y.Code_ ∧ x.At_ = y.At_) ∧ x.Says_ = y.Says_) ∧ x.Votes_ = y.Votes_ ∧ bytesOf x.Bytes_ = bytesOf y.Bytes_ ∧ x.Steps_ = y.Steps_
theorem specReply {x y : Timpl_Reply} (hx : sml_Reply x) : Dec (spec_ReplySame x y) (ReplyP x y) := by
  obtain ⟨_, _, _, h4, _, h6⟩ := hx
  unfold spec_ReplySame ReplyP
  by_cases h : (x.Code_ = y.Code_ ∧ x.At_ = y.At_) ∧ x.Says_ = y.Says_
  · rw [if_neg (by simp [h])]
    rcases (specInts (q := y.Votes_) h4.1).cases with ⟨e, g⟩ | ⟨e, g⟩
    · rw [e]
      simp only [Option.bind_some, Bool.not_true, Bool.false_or]
      by_cases hb : bytesOf x.Bytes_ = bytesOf y.Bytes_
      · by_cases hl : x.Steps_.length = y.Steps_.length
        · rw [if_neg (by simp [hb, hl])]
          exact (specSteps hl h6.1).of_iff ⟨fun k => ⟨h, g, hb, k⟩, fun k => k.2.2.2⟩
        · rw [if_pos (by simp; exact .inr (by omega))]
          exact dec_f fun k => hl (by rw [k.2.2.2])
      · rw [if_pos (by simp [hb])]
        exact dec_f fun k => hb k.2.2.1
    · rw [e]
      exact dec_f fun k => g k.2.1
  · rw [if_pos (by simp only [Bool.or_eq_true, bne_iff_ne, ne_eq]; rcases Decidable.not_and_iff_or_not.1 h with h | h
                   · exact .inl (Decidable.not_and_iff_or_not.1 h)
                   · exact .inr h)]
    exact dec_f fun k => h k.1
theorem implReply {x y : Timpl_Reply} (hx : sml_Reply x) : Dec (impl_ReplySame x y) (ReplyP x y) := by
  obtain ⟨_, _, _, h4, _, h6⟩ := hx
  unfold impl_ReplySame ReplyP lib_bytes_Equal
  by_cases h : (x.Code_ = y.Code_ ∧ x.At_ = y.At_) ∧ x.Says_ = y.Says_
  · rw [if_pos (by simp [h])]
    rcases (implInts (q := y.Votes_) h4.1).cases with ⟨e, g⟩ | ⟨e, g⟩
    · rw [e]
      simp only [Option.bind_some, if_true]
      by_cases hb : bytesOf x.Bytes_ = bytesOf y.Bytes_
      · rw [if_pos (by simp [hb])]
        rcases (implSteps (q := y.Steps_) h6.1).cases with ⟨e2, g2⟩ | ⟨e2, g2⟩
        · rw [e2]; exact dec_t ⟨h, g, hb, g2⟩
        · rw [e2]; exact dec_f fun k => g2 k.2.2.2
      · rw [if_neg (by simp [hb])]
        exact dec_f fun k => hb k.2.2.1
    · rw [e]
      exact dec_f fun k => g k.2.1
  · rw [if_neg (by simp only [Bool.and_eq_true, beq_iff_eq]; exact h)]
    exact dec_f fun k => h k.1
theorem reply_same {x y : Timpl_Reply} (hx : sml_Reply x) : ∃ m, spec_ReplySame x y = some m ∧ impl_ReplySame x y = some m :=
  both_of (specReply hx) (implReply hx)
end Go.Vk
