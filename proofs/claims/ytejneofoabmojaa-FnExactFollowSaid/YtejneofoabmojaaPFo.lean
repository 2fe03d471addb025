/- What was learned is followed alike. -/
import Derived.Test.YtejneofoabmojaaPT
import Derived.Test.YtejneofoabmojaaVkTo
namespace Go.Vk
theorem cloneInts {l : List Int} (h : l.length ≤ 68719476736) : lib_slices_Clone___int_int_ l = some l := by
  unfold lib_slices_Clone___int_int_
  rw [app_eq (by simp; omega)]
  rfl
theorem cloneEntries_ok {p : List Timpl_Entry} (h : sml_EntryS p) : impl_cloneEntries p = some p := by
  have hl := h.1
  unfold impl_cloneEntries
  have := map_loop (p := p) id (fun k l i => impl_cloneEntries_L1 p k l i) some (fun k l => by
    show impl_cloneEntries_L1 p (k + 1) l _ = _
    rw [impl_cloneEntries_L1, if_neg (by simp)]) (fun k l i hi hl => by
    show impl_cloneEntries_L1 p (k + 1) l _ = _
    have hg := (h.2 _ (List.getElem_mem hi)).1.1.1
    rw [impl_cloneEntries_L1, if_pos (by simp; omega), idx_lt hi, wrap_succ (by omega)]
    simp only [Option.bind_some]
    rw [cloneInts (by omega)]
    simp only [Option.bind_some]
    rw [app_eq (by simp; omega)]
    rfl) (by omega)
  rwa [List.map_id] at this
theorem copyEntries_ok {p : List Timpl_Entry} (h : sml_EntryS p) : spec_l30CopyEntries p = some p := by
  have hl := h.1
  unfold spec_l30CopyEntries
  have := map_loop (p := p) id (fun k l i => spec_l30CopyEntries_L1 p k l i) some (fun k l => by
    show spec_l30CopyEntries_L1 p (k + 1) l _ = _
    rw [spec_l30CopyEntries_L1, if_neg (by simp)]) (fun k l i hi hl => by
    show spec_l30CopyEntries_L1 p (k + 1) l _ = _
    have hg := (h.2 _ (List.getElem_mem hi)).1.1.1
    rw [spec_l30CopyEntries_L1, if_pos (by simp; omega), idx_lt hi, wrap_succ (by omega)]
    simp only [Option.bind_some]
    rw [app_eq (by simp; omega)]
    simp only [Option.bind_some]
    rw [app_eq (by simp; omega)]
    rfl) (by omega)
  rwa [List.map_id] at this
def grew (c : Int) : Bool := c == 0 || c == 1
/-- what becomes of one member's past -/
def fw (e : Timpl_Ex) (p : Timpl_Past) (s : Timpl_Step) : Timpl_Past :=
  let tree := if grew s.Grow_ then p.Tree_ ++ [⟨e, s.Weight_⟩] else p.Tree_
  let young := if s.Began_ then [] else if grew s.Young_ then p.Young_ ++ [⟨e, s.Weight_⟩] else p.Young_
  if s.Swapped_ then ⟨young, [], []⟩ else ⟨tree, young, p.Bits_ ++ [s.Bit_]⟩
theorem one_entry {e : Timpl_Ex} {s : Timpl_Step} (he : sml_Ex e) (hs : sml_Step s) : sml_EntryS [(⟨e, s.Weight_⟩ : Timpl_Entry)] :=
  ⟨by simp, fun y hy => by rw [List.mem_singleton.1 hy]; exact ⟨he, hs.2.2.1⟩⟩
section
variable {p : Timpl_Past} {e : Timpl_Ex} {s : Timpl_Step} (hp : sml_Past p) (he : sml_Ex e) (hs : sml_Step s)
include hp he hs
theorem spec_one (l : List Timpl_Past) (R : List Timpl_Past → Int → Option (List Timpl_Past)) (i : Int) (hl : l.length < 2000000) :
    ((spec_l30CopyEntries [(⟨e, s.Weight_⟩ : Timpl_Entry)]).bind fun y => (spec_l30Grew s.Grow_).bind fun g => if g then (app p.Tree_ y).bind fun t => spec_Follow_J2 s y p l R i t else spec_Follow_J2 s y p l R i p.Tree_) = R (l ++ [fw e p s]) (IntKind.i64.wrap (i + 1)) := by
  have h1 := hp.1.1
  have h2 := hp.2.1.1
  have h3 := hp.2.2.1
  rw [copyEntries_ok (one_entry he hs)]
  have hj4 : ∀ t b y, spec_Follow_J4 s l R i t b y = R (l ++ [if s.Swapped_ then ⟨y, [], []⟩ else ⟨t, y, b⟩]) (IntKind.i64.wrap (i + 1)) := fun t b y => by
    unfold spec_Follow_J4 spec_Follow_J1
    rw [app_eq (by simp; omega), app_eq (by simp; omega)]
    cases s.Swapped_ <;> rfl
  have hj3 : ∀ t y, spec_Follow_J3 p s l R i t y = R (l ++ [if s.Swapped_ then ⟨if s.Began_ then [] else y, [], []⟩ else ⟨t, if s.Began_ then [] else y, p.Bits_ ++ [s.Bit_]⟩]) (IntKind.i64.wrap (i + 1)) := fun t y => by
    unfold spec_Follow_J3
    rw [app_eq (by simp; omega)]
    simp only [Option.bind_some, hj4]
    cases s.Began_ <;> rfl
  have hj2 : ∀ t, spec_Follow_J2 s [(⟨e, s.Weight_⟩ : Timpl_Entry)] p l R i t = R (l ++ [if s.Swapped_ then ⟨if s.Began_ then [] else if grew s.Young_ then p.Young_ ++ [⟨e, s.Weight_⟩] else p.Young_, [], []⟩ else ⟨t, if s.Began_ then [] else if grew s.Young_ then p.Young_ ++ [⟨e, s.Weight_⟩] else p.Young_, p.Bits_ ++ [s.Bit_]⟩]) (IntKind.i64.wrap (i + 1)) := fun t => by
    unfold spec_Follow_J2 spec_l30Grew
    rw [copyEntries_ok (one_entry he hs)]
    simp only [Option.bind_some]
    rw [app_eq (by simp; omega)]
    simp only [Option.bind_some, hj3]
    show (if grew s.Young_ = true then _ else _) = _
    cases grew s.Young_ <;> rfl
  unfold spec_l30Grew
  simp only [Option.bind_some]
  rw [app_eq (by simp; omega)]
  simp only [Option.bind_some, hj2]
  show (if grew s.Grow_ = true then _ else _) = _
  unfold fw
  cases grew s.Grow_ <;> cases s.Swapped_ <;> rfl
theorem impl_one (l : List Timpl_Past) (R : Int → List Timpl_Past → Option (List Timpl_Past)) (i : Int) (hl : l.length < 2000000) :
    ((impl_learned s.Grow_).bind fun g => if g then (impl_Follow_1 e s).bind fun y => (app p.Tree_ y).bind fun t => impl_Follow_J2 s e p.Young_ p.Bits_ l R i t else impl_Follow_J2 s e p.Young_ p.Bits_ l R i p.Tree_) = R (IntKind.i64.wrap (i + 1)) (l ++ [fw e p s]) := by
  have h1 := hp.1.1
  have h2 := hp.2.1.1
  have h3 := hp.2.2.1
  have ho : impl_Follow_1 e s = some [⟨e, s.Weight_⟩] := by
    unfold impl_Follow_1
    rw [cloneEntries_ok (one_entry he hs)]
    rfl
  have hj4 : ∀ t b y, impl_Follow_J4 s l R i t b y = R (IntKind.i64.wrap (i + 1)) (l ++ [if s.Swapped_ then ⟨y, [], []⟩ else ⟨t, y, b⟩]) := fun t b y => by
    unfold impl_Follow_J4 impl_Follow_J1
    rw [app_eq (by simp; omega), app_eq (by simp; omega)]
    cases s.Swapped_ <;> rfl
  have hj3 : ∀ t y, impl_Follow_J3 p.Bits_ s l R i t y = R (IntKind.i64.wrap (i + 1)) (l ++ [if s.Swapped_ then ⟨if s.Began_ then [] else y, [], []⟩ else ⟨t, if s.Began_ then [] else y, p.Bits_ ++ [s.Bit_]⟩]) := fun t y => by
    unfold impl_Follow_J3
    rw [app_eq (by simp; omega)]
    simp only [Option.bind_some, hj4]
    cases s.Began_ <;> rfl
  have hj2 : ∀ t, impl_Follow_J2 s e p.Young_ p.Bits_ l R i t = R (IntKind.i64.wrap (i + 1)) (l ++ [if s.Swapped_ then ⟨if s.Began_ then [] else if grew s.Young_ then p.Young_ ++ [⟨e, s.Weight_⟩] else p.Young_, [], []⟩ else ⟨t, if s.Began_ then [] else if grew s.Young_ then p.Young_ ++ [⟨e, s.Weight_⟩] else p.Young_, p.Bits_ ++ [s.Bit_]⟩]) := fun t => by
    unfold impl_Follow_J2 impl_learned
    rw [ho]
    simp only [Option.bind_some]
    rw [app_eq (by simp; omega)]
    simp only [Option.bind_some, hj3]
    show (if grew s.Young_ = true then _ else _) = _
    cases grew s.Young_ <;> rfl
  unfold impl_learned
  rw [ho]
  simp only [Option.bind_some]
  rw [app_eq (by simp; omega)]
  simp only [Option.bind_some, hj2]
  show (if grew s.Grow_ = true then _ else _) = _
  unfold fw
  cases grew s.Grow_ <;> cases s.Swapped_ <;> rfl
end
/-- what the pasts become -/
def fwAll (l : List Timpl_Past) (e : Timpl_Ex) (s : List Timpl_Step) : Nat → Timpl_Past := fun i =>
  if l.length = s.length then (match l[i]?, s[i]? with | some p, some t => fw e p t | _, _ => default) else (l[i]?).getD default
theorem copyPast_ok {p : Timpl_Past} (hp : sml_Past p) : spec_l30CopyPast p = some p := by
  have h3 := hp.2.2.1
  unfold spec_l30CopyPast
  rw [copyEntries_ok hp.1, copyEntries_ok hp.2.1]
  simp only [Option.bind_some]
  rw [app_eq (by simp; omega)]
  rfl
theorem fwAll_get {l : List Timpl_Past} {e : Timpl_Ex} {s : List Timpl_Step} {i : Nat} (hi : i < l.length) : (l.length = s.length → ∀ h : i < s.length, fwAll l e s i = fw e l[i] s[i]) ∧ (¬ l.length = s.length → fwAll l e s i = l[i]) := by
  unfold fwAll
  refine ⟨fun h h2 => ?_, fun h => ?_⟩
  · rw [if_pos h, List.getElem?_eq_getElem hi, List.getElem?_eq_getElem h2]
  · rw [if_neg h, List.getElem?_eq_getElem hi]; rfl
theorem sum_range_le {f g : Nat → Nat} {K : Nat} : ∀ n, (∀ i, i < n → f i ≤ g i + K) → ((List.range n).map f).sum ≤ ((List.range n).map g).sum + n * K := by
  intro n
  induction n with
  | zero => intro _; simp
  | succ n ih =>
    intro h
    have h1 := h n (by omega)
    have h2 := ih (fun i hi => h i (by omega))
    rw [List.range_succ, List.map_append, List.sum_append, List.map_append, List.sum_append, Nat.add_mul]
    simp only [List.map_cons, List.map_nil, List.sum_cons, List.sum_nil]
    omega
def mp (y : Timpl_Past) : Nat := 1 + mc_EntryS y.Tree_ + mc_EntryS y.Young_ + mc_IntS y.Bits_
theorem mcE_app {t : List Timpl_Entry} {x : Timpl_Entry} : mc_EntryS (t ++ [x]) = mc_EntryS t + mc_EntryS [x] := by
  unfold mc_EntryS
  rw [List.map_append, List.sum_append]
theorem mcE_one {e : Timpl_Ex} {w : Int} (he : sml_Ex e) : mc_EntryS [(⟨e, w⟩ : Timpl_Entry)] ≤ 2000000 := by
  have := he.1.1
  unfold mc_EntryS mc_IntS
  simp only [List.map_cons, List.map_nil, List.sum_cons, List.sum_nil]
  rw [sum_ones']
  omega
theorem fw_mp {e : Timpl_Ex} {p : Timpl_Past} {s : Timpl_Step} (he : sml_Ex e) : mp (fw e p s) ≤ mp p + 5000000 := by
  have h := mcE_one (w := s.Weight_) he
  have h0 : mc_EntryS [] = 0 := rfl
  have h1 : mc_IntS [] = 0 := rfl
  have h2 : mc_IntS (p.Bits_ ++ [s.Bit_]) = mc_IntS p.Bits_ + 1 := by unfold mc_IntS; rw [List.map_append, List.sum_append]; rfl
  have ht := mcE_app (t := p.Tree_) (x := ⟨e, s.Weight_⟩)
  have hy := mcE_app (t := p.Young_) (x := ⟨e, s.Weight_⟩)
  unfold fw mp
  cases grew s.Grow_ <;> cases grew s.Young_ <;> cases s.Began_ <;> cases s.Swapped_ <;> simp only [Bool.false_eq_true, if_true, if_false] <;> omega
theorem lenE_app {t : List Timpl_Entry} {e : Timpl_Ex} {w : Int} (ht : sml_EntryS t) (he : sml_Ex e) : len_EntryS (t ++ [⟨e, w⟩]) := by
  have h1 := ht.1
  refine ⟨by simp; omega, fun y hy => ?_⟩
  rcases List.mem_append.1 hy with hy | hy
  · exact (len_of_EntryS ht).2 y hy
  · rw [List.mem_singleton.1 hy]; exact len_of_Ex he
theorem fw_len {e : Timpl_Ex} {p : Timpl_Past} {s : Timpl_Step} (he : sml_Ex e) (hp : sml_Past p) : len_Past (fw e p s) := by
  have h0 : len_EntryS [] := ⟨by simp, by simp⟩
  have h1 : len_IntS [] := by show (0 : Nat) < _; omega
  have h3 := hp.2.2.1
  have h2 : len_IntS (p.Bits_ ++ [s.Bit_]) := by show (p.Bits_ ++ [s.Bit_]).length < _; simp; omega
  have ht := lenE_app (w := s.Weight_) hp.1 he
  have hy := lenE_app (w := s.Weight_) hp.2.1 he
  obtain ⟨q1, q2, q3⟩ := len_of_Past hp
  unfold fw len_Past
  cases grew s.Grow_ <;> cases grew s.Young_ <;> cases s.Began_ <;> cases s.Swapped_ <;> simp only [Bool.false_eq_true, if_true, if_false] <;> exact ⟨by assumption, by assumption, by assumption⟩
theorem follow_same {l : List Timpl_Past} {e : Timpl_Ex} {s : List Timpl_Step} (hl : sml_PastS l) (he : sml_Ex e) (hs : sml_StepS s) (hm : mc_PastS l ≤ 16777216) (hn : mc_Ex e ≤ 16777216) :
    ∃ m, spec_Follow l e s = some m ∧ impl_Follow l e s = some m ∧ len_PastS m ∧ mc_PastS m ≤ 1000000000000000000 := by
  have h1 := hl.1
  refine ⟨(List.range l.length).map (fwAll l e s), ?_, ?_, ?_, ?_⟩
  · unfold spec_Follow
    refine build_loop (n := l.length) (fwAll l e s) (fun k o i => spec_Follow_L1 l s e k o i) some (fun k o => ?_) (fun k o i hi ho => ?_) (by omega)
    · show spec_Follow_L1 l s e (k + 1) o _ = _
      rw [spec_Follow_L1, if_neg (by simp)]
    · show spec_Follow_L1 l s e (k + 1) o _ = _
      have hp := hl.2 _ (List.getElem_mem hi)
      obtain ⟨f1, f2⟩ := fwAll_get (e := e) (s := s) hi
      rw [spec_Follow_L1, if_pos (by simp; omega), idx_lt hi]
      simp only [Option.bind_some]
      rw [copyPast_ok hp]
      simp only [Option.bind_some]
      by_cases hc : l.length = s.length
      · have hi2 : i < s.length := by omega
        rw [if_pos (by simp [hc]), idx_lt hi2]
        simp only [Option.bind_some]
        rw [spec_one hp he (hs.2 _ (List.getElem_mem hi2)) o _ _ (by omega), f1 hc hi2, wrap_succ (by omega)]
      · rw [if_neg (by simp; omega), f2 hc]
        unfold spec_Follow_J1
        rw [app_eq (by simp; omega), wrap_succ (by omega)]
        rfl
  · unfold impl_Follow
    refine build_loop (n := l.length) (fwAll l e s) (fun k o i => impl_Follow_L1 l s e k i o) some (fun k o => ?_) (fun k o i hi ho => ?_) (by omega)
    · show impl_Follow_L1 l s e (k + 1) _ o = _
      rw [impl_Follow_L1, if_neg (by simp)]
    · show impl_Follow_L1 l s e (k + 1) _ o = _
      have hp := hl.2 _ (List.getElem_mem hi)
      obtain ⟨f1, f2⟩ := fwAll_get (e := e) (s := s) hi
      have h3 := hp.2.2.1
      rw [impl_Follow_L1, if_pos (by simp; omega), idx_lt hi]
      simp only [Option.bind_some]
      rw [cloneEntries_ok hp.1, cloneEntries_ok hp.2.1, cloneInts (by omega)]
      simp only [Option.bind_some]
      by_cases hc : l.length = s.length
      · have hi2 : i < s.length := by omega
        rw [if_pos (by simp [hc]), idx_lt hi2]
        simp only [Option.bind_some]
        rw [impl_one hp he (hs.2 _ (List.getElem_mem hi2)) o _ _ (by omega), f1 hc hi2, wrap_succ (by omega)]
      · rw [if_neg (by simp; omega), f2 hc]
        unfold impl_Follow_J1
        rw [app_eq (by simp; omega), wrap_succ (by omega)]
        rfl
  · refine ⟨by simp; omega, fun y hy => ?_⟩
    obtain ⟨i, hi, rfl⟩ := List.mem_map.1 hy
    have hi := List.mem_range.1 hi
    obtain ⟨f1, f2⟩ := fwAll_get (e := e) (s := s) hi
    have hp := hl.2 _ (List.getElem_mem hi)
    by_cases hc : l.length = s.length
    · rw [f1 hc (by omega)]; exact fw_len he hp
    · rw [f2 hc]; exact len_of_Past hp
  · have e1 : mc_PastS l = ((List.range l.length).map fun i => mp ((l[i]?).getD default)).sum := by
      unfold mc_PastS
      congr 1
      apply List.ext_getElem
      · simp
      · intro k h1 h2
        simp at h1
        simp [h1, mp]
    have e2 : mc_PastS ((List.range l.length).map (fwAll l e s)) = ((List.range l.length).map fun i => mp (fwAll l e s i)).sum := by
      unfold mc_PastS
      rw [List.map_map]
      rfl
    rw [e2]
    have := sum_range_le (f := fun i => mp (fwAll l e s i)) (g := fun i => mp ((l[i]?).getD default)) (K := 5000000) l.length (fun i hi => by
      obtain ⟨f1, f2⟩ := fwAll_get (e := e) (s := s) hi
      rw [List.getElem?_eq_getElem hi, Option.getD_some]
      by_cases hc : l.length = s.length
      · rw [f1 hc (by omega)]; exact fw_mp he
      · rw [f2 hc]; omega)
    rw [← e1] at this
    omega
end Go.Vk
