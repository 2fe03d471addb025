/- A new state: alike. -/
import Derived.Test.YtddoligbabahbaaGreatPBi
import Derived.Test.YtddoligbabahbaaGreatPSo
namespace Go.Vk
/-! tapes -/
def TapeP (t : Timpl_Tape) : Prop := t.Bytes_.length ≤ 600 ∧ (∀ b ∈ t.Bytes_, 0 ≤ b ∧ b ≤ 255) ∧ 0 ≤ t.At_ ∧ t.At_ ≤ (t.Bytes_.length : Int)
theorem specCopyT {t : Timpl_Tape} (h : t.Bytes_.length ≤ 600) : spec_l15Copy t = some t := by
  unfold spec_l15Copy
  rw [app_eq (by simp; omega)]
  rfl
theorem implCopyT {t : Timpl_Tape} (h : t.Bytes_.length ≤ 600) : impl_cloneTape t = some t := by
  unfold impl_cloneTape lib_slices_Clone___byte_byte_
  rw [app_eq (by simp; omega)]
  rfl
theorem left_both {t : Timpl_Tape} (h : TapeP t) : spec_TapeLeft t = some ((t.Bytes_.length : Int) - t.At_) ∧ impl_TapeLeft t = some ((t.Bytes_.length : Int) - t.At_) := by
  obtain ⟨h1, _, h2, h3⟩ := h
  unfold spec_TapeLeft impl_TapeLeft spec_TapeOk impl_TapeOk spec_l1In impl_within
  simp only [Option.bind_some]
  rw [if_pos (by simp; omega), in_t ⟨h2, h3⟩, wrap_id (by omega) (by omega)]
  exact ⟨rfl, rfl⟩
theorem take_both {t : Timpl_Tape} (h : TapeP t) : Both (spec_Take t) (impl_Take t) (fun y => TapeP y.1 ∧ (0 ≤ y.2.1 ∧ y.2.1 ≤ 65535) ∧ (y.2.2 = false → y.1 = t ∧ y.2.1 = 0)) := by
  unfold spec_Take impl_Take
  obtain ⟨l1, l2⟩ := left_both h
  have h0 := h
  obtain ⟨h1, hb, h2, h3⟩ := h
  rw [specCopyT h1, implCopyT h1, l1, l2]
  simp only [Option.bind_some]
  refine both_if Iff.rfl (fun _ => both_some ⟨h0, by simp, fun _ => ⟨rfl, rfl⟩⟩) (fun g => ?_)
  have g : ¬ (t.Bytes_.length : Int) - t.At_ < 2 := by simpa using g
  obtain ⟨a, ha⟩ : ∃ a : Nat, t.At_ = a := ⟨t.At_.toNat, by omega⟩
  rw [ha, wrap_succ (by omega), idx_lt (by omega : a < t.Bytes_.length), idx_lt (by omega : a + 1 < t.Bytes_.length)]
  simp only [Option.bind_some]
  have b1 := hb _ (List.getElem_mem (by omega : a < t.Bytes_.length))
  have b2 := hb _ (List.getElem_mem (by omega : a + 1 < t.Bytes_.length))
  rw [wrap_id (n := t.Bytes_[a]) (by omega) (by omega), wrap_id (n := t.Bytes_[a + 1]) (by omega) (by omega), wrap_id (n := t.Bytes_[a] * 256) (by omega) (by omega), wrap_id (n := 256 * t.Bytes_[a]) (by omega) (by omega), Int.mul_comm 256, wrap_id (n := t.Bytes_[a] * 256 + t.Bytes_[a + 1]) (by omega) (by omega), wrap_id (n := (a : Int) + 2) (by omega) (by omega)]
  exact both_some ⟨⟨h1, hb, by show (0 : Int) ≤ (a : Int) + 2; omega, by show (a : Int) + 2 ≤ (t.Bytes_.length : Int); omega⟩, ⟨by show 0 ≤ t.Bytes_[a] * 256 + t.Bytes_[a + 1]; omega, by show t.Bytes_[a] * 256 + t.Bytes_[a + 1] ≤ 65535; omega⟩, fun g => by cases g⟩
theorem below_both {t : Timpl_Tape} (h : TapeP t) (n : Int) : Both (spec_TakeBelow t n) (impl_TakeBelow t n) (fun y => TapeP y.1 ∧ (0 ≤ y.2.1 ∧ y.2.1 ≤ 65535) ∧ (y.2.2 = false → y.1 = t)) := by
  unfold spec_TakeBelow impl_TakeBelow
  obtain ⟨y, y1, y2, hT, hx, hf⟩ := take_both h
  rw [y1, y2, specCopyT h.1, implCopyT h.1]
  simp only [Option.bind_some]
  rcases (dec_within (x := n) (a := 1) (b := 65536)).cases with ⟨e, hn⟩ | ⟨e, hn⟩
  · have e2 : spec_l1In n 1 65536 = some true := e
    rw [e, e2]
    simp only [Option.bind_some, Bool.not_true, Bool.false_eq_true, if_false]
    have hr : rem y.2.1 n = some (y.2.1 % n) := by
      unfold rem
      rw [if_neg (by omega), Int.tmod_eq_emod_of_nonneg (by omega)]
    have h0 := Int.emod_nonneg y.2.1 (b := n) (by omega)
    have h1 := Int.emod_lt_of_pos y.2.1 (b := n) (by omega)
    rw [hr]
    simp only [Option.bind_some]
    cases ho : y.2.2
    · simp only [Option.bind_some, Bool.not_false, if_true]
      obtain ⟨g1, g2⟩ := hf ho
      rw [g1, g2]
      have : (0 : Int) % n = 0 := Int.zero_emod n
      rw [this]
      exact both_some ⟨h, by simp, fun _ => rfl⟩
    · simp only [Option.bind_some, Bool.not_true, Bool.false_eq_true, if_false]
      exact both_some ⟨hT, ⟨h0, by show y.2.1 % n ≤ 65535; omega⟩, fun g => by cases g⟩
  · have e2 : spec_l1In n 1 65536 = some false := e
    rw [e, e2]
    simp only [Option.bind_some, Bool.not_false, if_true, ite_self]
    exact both_some ⟨h, by simp, fun _ => rfl⟩
theorem takeSub_both {t : Timpl_Tape} (h : TapeP t) {n k : Nat} (hn : n ≤ 20) (hk : k ≤ 20) : Both (spec_TakeSubset t n k) (impl_TakeSubset t n k) (fun y => TapeP y.1 ∧ smallS y.2.1 ∧ (y.2.2 = false → y.1 = t)) := by
  unfold spec_TakeSubset impl_TakeSubset
  rw [specBin, implBin]
  simp only [Option.bind_some]
  refine (below_both h _).bind fun y hy => ?_
  obtain ⟨hT, hx, hf⟩ := hy
  unfold spec_TakeSubset_J1 impl_TakeSubset_J1
  cases ho : y.2.2
  · simp only [Bool.not_false, if_true]
    rw [specCopyT h.1]
    simp only [Option.bind_some]
    have := hf ho
    rw [this]
    exact both_some ⟨h, ⟨by simp, fun x hx => by cases hx⟩, fun _ => rfl⟩
  · simp only [Bool.not_true, Bool.false_eq_true, if_false]
    refine (subset_both hn hk (by omega)).bind fun l hl => ?_
    exact both_some ⟨hT, hl, fun g => by cases g⟩
/-! statistics, trees -/
def statsN (s : Timpl_Schema) : Timpl_Stats := ⟨List.replicate s.Classes_.length 0, s.Attrs_.map fun a => List.replicate (nb a * s.Classes_.length) 0⟩
theorem specStatsNew {s : Timpl_Schema} (hs : sml_Schema s) (hS : SchemaP s) : spec_StatsNew s = some (statsN s) := by
  unfold spec_StatsNew
  have hc := hS.2.1
  rcases (specSchema (okS_of hs)).cases with ⟨e, _⟩ | ⟨_, g⟩
  · rw [e]
    simp only [Option.bind_some, Bool.not_true, Bool.false_eq_true, if_false]
    rw [mk_eq _ (by omega)]
    simp only [Option.bind_some]
    refine map_loop (p := s.Attrs_) (fun a => List.replicate (nb a * s.Classes_.length) (0 : Int)) (spec_StatsNew_L1 s (List.replicate s.Classes_.length 0)) (fun l => some ⟨List.replicate s.Classes_.length 0, l⟩) (fun k l => ?_) (fun k l i h hi => ?_) (by have := hS.1; omega)
    · rw [spec_StatsNew_L1, if_neg (by simp)]
    · have hA := hs.1.2 _ (List.getElem_mem h)
      have hnb := nb_b (hS.attr h)
      have hm : nb s.Attrs_[i] * s.Classes_.length ≤ 4 * 3 := Nat.mul_le_mul (by omega) (by omega)
      have hsl := hS.1
      rw [spec_StatsNew_L1, if_pos (by simp; omega), idx_lt h, wrap_succ (by omega)]
      simp only [Option.bind_some]
      rw [specBins hA (hS.attr h)]
      simp only [Option.bind_some]
      rw [← Int.natCast_mul, wrap_nat (by omega), mk_eq _ (by omega)]
      simp only [Option.bind_some]
      rw [app_eq (by simp; omega)]
      rfl
  · exact absurd hS g
theorem implStatsNew {s : Timpl_Schema} (hs : sml_Schema s) (hS : SchemaP s) : impl_StatsNew s = some (statsN s) := by
  unfold impl_StatsNew impl_zeros
  have hc := hS.2.1
  rcases (implSchema (okS_of hs)).cases with ⟨e, _⟩ | ⟨_, g⟩
  · rw [e]
    simp only [Option.bind_some, Bool.not_true, Bool.false_eq_true, if_false]
    rw [mk_eq _ (by omega)]
    simp only [Option.bind_some]
    refine map_loop (p := s.Attrs_) (fun a => List.replicate (nb a * s.Classes_.length) (0 : Int)) (fun k l i => impl_StatsNew_L1 s (List.replicate s.Classes_.length 0) k i l) (fun l => some ⟨List.replicate s.Classes_.length 0, l⟩) (fun k l => ?_) (fun k l i h hi => ?_) (by have := hS.1; omega)
    · show impl_StatsNew_L1 s _ (k + 1) _ _ = _
      rw [impl_StatsNew_L1, if_neg (by simp)]
    · show impl_StatsNew_L1 s _ (k + 1) _ _ = impl_StatsNew_L1 s _ k _ _
      have hA := hs.1.2 _ (List.getElem_mem h)
      have hnb := nb_b (hS.attr h)
      have hm : nb s.Attrs_[i] * s.Classes_.length ≤ 4 * 3 := Nat.mul_le_mul (by omega) (by omega)
      have hsl := hS.1
      rw [impl_StatsNew_L1, if_pos (by simp; omega), idx_lt h, wrap_succ (by omega)]
      simp only [Option.bind_some]
      rw [implBins hA]
      unfold impl_zeros
      simp only [Option.bind_some]
      rw [← Int.natCast_mul, wrap_nat (by omega), mk_eq _ (by omega)]
      simp only [Option.bind_some]
      rw [app_eq (by simp; omega)]
      rfl
  · exact absurd hS g
/-- a tree of few nodes -/
def TinyT (t : Timpl_Tree) : Prop := t = ⟨[], 0⟩ ∨ ∃ (s : Timpl_Schema) (l : List Int), SchemaP s ∧ smallS l ∧ t = ⟨[⟨true, ⟨0, 0⟩, [], 0, statsN s, 0, l, 0, -1, 0⟩], 0⟩
theorem treeNew_both {s : Timpl_Schema} (hs : sml_Schema s) {l : List Int} (hl : smallS l) : Both (spec_TreeNew s l) (impl_TreeNew s l) TinyT := by
  unfold spec_TreeNew impl_TreeNew
  have h20 := hl.1
  refine both_dec (specAttrs hs (by omega)) (implAttrs hs (by omega)) (fun hA => ?_) (fun _ => both_some (.inl rfl))
  simp only [Bool.not_true, Bool.false_eq_true, if_false]
  rw [specStatsNew hs hA.1, implStatsNew hs hA.1]
  unfold lib_slices_Clone___int_int_
  rw [app_eq (by simp; omega)]
  exact both_some (.inr ⟨s, l, hA.1, hl, rfl⟩)
def NewM (m : Timpl_Member) : Prop := TinyT m.Tree_ ∧ m.Young_ = ⟨[], 0⟩ ∧ m.Det_ = ⟨⟨[]⟩, ⟨[]⟩⟩ ∧ m.HasYoung_ = false
theorem root_both {c : Timpl_Conf} (hc : sml_Schema c.Schema_) (hC : ConfP c) {t : Timpl_Tape} (h : TapeP t) : Both (spec_l23Root c t) (impl_freshTree c t) (fun y => TapeP y.2.1 ∧ TinyT y.1 ∧ (y.2.2 = false → y.2.1 = t ∧ y.1 = ⟨[], 0⟩)) := by
  unfold spec_l23Root impl_freshTree
  have hn := hC.1.1
  have hp := hC.2.2.2.1
  obtain ⟨k, hk⟩ : ∃ k : Nat, c.Pick_ = k := ⟨c.Pick_.toNat, by omega⟩
  rw [hk]
  refine (takeSub_both h (n := c.Schema_.Attrs_.length) (k := k) (by omega) (by omega)).bind fun y hy => ?_
  obtain ⟨hT, hl, hf⟩ := hy
  rw [specCopyT h.1, implCopyT h.1]
  simp only [Option.bind_some]
  refine both_if Iff.rfl (fun _ => both_some ⟨h, .inl rfl, fun _ => ⟨rfl, rfl⟩⟩) (fun _ => ?_)
  refine (treeNew_both hc hl).bind fun u hu => ?_
  exact both_some ⟨hT, hu, fun g => by cases g⟩
theorem memberNew_both {c : Timpl_Conf} (hc : sml_Schema c.Schema_) (hC : ConfP c) {t : Timpl_Tape} (h : TapeP t) : Both (spec_MemberNew c t) (impl_MemberNew c t) (fun y => TapeP y.2.1 ∧ NewM y.1) := by
  unfold spec_MemberNew impl_MemberNew
  refine both_dec (specConf hc) (implConf hc) (fun _ => ?_) (fun g => absurd hC g)
  simp only [Bool.not_true, Bool.false_eq_true, if_false]
  refine (root_both hc hC h).bind fun y hy => ?_
  obtain ⟨hT, hu, hf⟩ := hy
  rw [specCopyT h.1]
  simp only [Option.bind_some]
  cases ho : y.2.2
  · obtain ⟨g1, g2⟩ := hf ho
    rw [g1, g2]
    exact both_some ⟨h, .inl rfl, rfl, rfl, rfl⟩
  · exact both_some ⟨hT, hu, rfl, rfl, rfl⟩
def NewF (f : Timpl_Forest) : Prop := f.Members_.length ≤ 4 ∧ ∀ m ∈ f.Members_, NewM m
theorem forestNew_both {c : Timpl_Conf} (hc : sml_Schema c.Schema_) {t : Timpl_Tape} (h : TapeP t) : Both (spec_ForestNew c t) (impl_ForestNew c t) (fun y => NewF y.1 ∧ (y.2.2 = true → ConfP c)) := by
  unfold spec_ForestNew impl_ForestNew
  rw [specCopyT h.1, implCopyT h.1]
  simp only [Option.bind_some]
  refine both_dec (specConf hc) (implConf hc) (fun hC => ?_) (fun _ => both_some ⟨⟨by simp, fun m hm => by cases hm⟩, fun g => by cases g⟩)
  simp only [Bool.not_true, Bool.false_eq_true, if_false]
  have hm := hC.2.2.1
  obtain ⟨n, hn⟩ : ∃ n : Nat, c.Members_ = n := ⟨c.Members_.toNat, by omega⟩
  refine both_for (σ := List Timpl_Member × List Int × Int) (τ := List Timpl_Member × List Int × Int) (fun k s i => spec_ForestNew_L1 c t k s.1 s.2.1 s.2.2 i) (fun k s i => impl_ForestNew_L1 c t k i s.1 s.2.1 s.2.2) n (fun i a b => a = b ∧ TapeP ⟨a.2.1, a.2.2⟩ ∧ a.1.length = i ∧ ∀ m ∈ a.1, NewM m) (fun k a b g => ?_) (fun k a b i hi g ih => ?_) (by omega) (s := ([], t.Bytes_, t.At_)) (t := ([], t.Bytes_, t.At_)) ⟨rfl, h, rfl, fun m hm => by cases hm⟩
  · obtain ⟨rfl, hT, hl, hM⟩ := g
    show Both (spec_ForestNew_L1 c t (k + 1) _ _ _ _) (impl_ForestNew_L1 c t (k + 1) _ _ _ _) _
    rw [spec_ForestNew_L1, impl_ForestNew_L1, hn, if_neg (by simp), if_neg (by simp)]
    exact both_some ⟨⟨by show a.1.length ≤ 4; omega, hM⟩, fun _ => hC⟩
  · obtain ⟨rfl, hT, hl, hM⟩ := g
    show Both (spec_ForestNew_L1 c t (k + 1) _ _ _ _) (impl_ForestNew_L1 c t (k + 1) _ _ _ _) _
    rw [spec_ForestNew_L1, impl_ForestNew_L1, hn, if_pos (by simp; omega), if_pos (by simp; omega)]
    refine (memberNew_both hc hC hT).bind fun y hy => ?_
    rw [specCopyT h.1, implCopyT h.1]
    simp only [Option.bind_some]
    refine both_if Iff.rfl (fun _ => both_some ⟨⟨by simp, fun m hm => by cases hm⟩, fun g => by cases g⟩) (fun _ => ?_)
    rw [app_eq (by simp; omega), wrap_succ (by omega)]
    simp only [Option.bind_some]
    refine ih (a.1 ++ [y.1], y.2.1.Bytes_, y.2.1.At_) (a.1 ++ [y.1], y.2.1.Bytes_, y.2.1.At_) ⟨rfl, hy.1, by simp; omega, fun m hm => ?_⟩
    rcases List.mem_append.1 hm with hm | hm
    · exact hM m hm
    · rw [List.mem_singleton.1 hm]; exact hy.2
/-! copies, scores -/
theorem copySchema {s : Timpl_Schema} (hs : sml_Schema s) : spec_l5Copy s = some s ∧ impl_cloneSchema s = some s := by
  have hl := hs.1.1
  have hcl := hs.2.1
  unfold spec_l5Copy impl_cloneSchema lib_slices_Clone___string_string_
  rw [app_eq (by simp; omega)]
  simp only [Option.bind_some, List.nil_append]
  constructor
  · have h := map_loop (p := s.Attrs_) (fun a => a) (spec_l5Copy_L1 s s.Classes_) (fun l => some (Timpl_Schema.mk l s.Classes_)) (fun k l => by rw [spec_l5Copy_L1, if_neg (by simp)]) (fun k l i h hi => by
      have hA := hs.1.2 _ (List.getElem_mem h)
      have h1 := hA.2.1.1
      have h2 := hA.2.2.1
      rw [spec_l5Copy_L1, if_pos (by simp; omega), idx_lt h, wrap_succ (by omega)]
      simp only [Option.bind_some]
      rw [app_eq (by simp; omega)]
      simp only [Option.bind_some]
      rw [app_eq (by simp; omega)]
      simp only [Option.bind_some]
      rw [app_eq (by simp; omega)]
      rfl) (by omega)
    simpa using h
  · have h := map_loop (p := s.Attrs_) (fun a => a) (fun k l i => impl_cloneSchema_L1 s s.Classes_ k i l) (fun l => some (Timpl_Schema.mk l s.Classes_)) (fun k l => by
      show impl_cloneSchema_L1 s _ (k + 1) _ _ = _
      rw [impl_cloneSchema_L1, if_neg (by simp)]) (fun k l i h hi => by
      show impl_cloneSchema_L1 s _ (k + 1) _ _ = impl_cloneSchema_L1 s _ k _ _
      have hA := hs.1.2 _ (List.getElem_mem h)
      have h1 := hA.2.1.1
      have h2 := hA.2.2.1
      rw [impl_cloneSchema_L1, if_pos (by simp; omega), idx_lt h, wrap_succ (by omega)]
      unfold lib_slices_Clone___int_int_ lib_slices_Clone___string_string_
      simp only [Option.bind_some]
      rw [app_eq (by simp; omega)]
      simp only [Option.bind_some]
      rw [app_eq (by simp; omega)]
      simp only [Option.bind_some]
      rw [app_eq (by simp; omega)]
      rfl) (by omega)
    simpa using h
def scoreN (n : Nat) : Timpl_Score := ⟨(List.range n).map fun _ => List.replicate n 0, []⟩
theorem scoreNew_both {n : Nat} (hn : n ≤ 1000) : Both (spec_ScoreNew n) (impl_ScoreNew n) (fun y => y = ⟨[], []⟩ ∨ (n ≤ 3 ∧ y = scoreN n)) := by
  unfold spec_ScoreNew impl_ScoreNew
  refine both_dec dec_l1In dec_within (fun h => ?_) (fun _ => both_some (.inl rfl))
  simp only [Bool.not_true, Bool.false_eq_true, if_false]
  have h1 := build_loop (n := n) (fun _ => List.replicate n (0 : Int)) (spec_ScoreNew_L1 n) (fun l => some (Timpl_Score.mk l [])) (fun k l => by rw [spec_ScoreNew_L1, if_neg (by simp)]) (fun k l i hi hl => by
    rw [spec_ScoreNew_L1, if_pos (by simp; omega), mk_eq _ (by omega), wrap_succ (by omega)]
    simp only [Option.bind_some]
    rw [app_eq (by simp; omega)]
    rfl) (by omega)
  have h2 := build_loop (n := n) (fun _ => List.replicate n (0 : Int)) (fun k l i => impl_ScoreNew_L1 n k i l) (fun l => some (Timpl_Score.mk l [])) (fun k l => by
    show impl_ScoreNew_L1 n (k + 1) _ _ = _
    rw [impl_ScoreNew_L1, if_neg (by simp)]) (fun k l i hi hl => by
    show impl_ScoreNew_L1 n (k + 1) _ _ = impl_ScoreNew_L1 n k _ _
    rw [impl_ScoreNew_L1, if_pos (by simp; omega), wrap_succ (by omega)]
    unfold impl_zeros
    rw [mk_eq _ (by omega)]
    simp only [Option.bind_some]
    rw [app_eq (by simp; omega)]
    rfl) (by omega)
  rw [h1]
  have h2 : impl_ScoreNew_L1 n Fuel 0 [] = _ := h2
  rw [h2]
  exact both_some (.inr ⟨by omega, rfl⟩)
/-! what marking costs -/
theorem mc_ints (l : List Int) : mc_IntS l = l.length := by unfold mc_IntS; rw [sum_ones']
theorem sum_map_le {α : Type} {f : α → Nat} {b : Nat} {l : List α} (h : ∀ x ∈ l, f x ≤ b) : (l.map f).sum ≤ b * l.length := by
  induction l with
  | nil => simp
  | cons x l ih =>
    have h1 := h x (by simp)
    have h2 := ih (fun y hy => h y (by simp [hy]))
    simp only [List.map_cons, List.sum_cons, List.length_cons, Nat.mul_succ]
    omega
theorem tiny_len {t : Timpl_Tree} (h : TinyT t) : len_Tree t ∧ mc_NodeS t.Nodes_ ≤ 1000 := by
  rcases h with rfl | ⟨s, l, hS, hl, rfl⟩
  · exact ⟨⟨by simp, fun y hy => by cases hy⟩, by simp [mc_NodeS]⟩
  · have hc := hS.2.1
    have ha := hS.1
    have hl1 := hl.1
    have hcells : ∀ x ∈ (statsN s).Cells_, x.length ≤ 12 := fun x hx => by
      obtain ⟨a, ha2, rfl⟩ := List.mem_map.1 (show x ∈ s.Attrs_.map _ from hx)
      obtain ⟨i, hi, rfl⟩ := List.getElem_of_mem ha2
      have hnb := nb_b (hS.attr hi)
      have hm : nb s.Attrs_[i] * s.Classes_.length ≤ 4 * 3 := Nat.mul_le_mul (by omega) (by omega)
      simp; omega
    have hcl : (statsN s).Cells_.length ≤ 5 := by simp [statsN]; omega
    have htl : (statsN s).Totals_.length ≤ 3 := by simp [statsN]; omega
    constructor
    · refine ⟨by simp, fun y hy => ?_⟩
      rw [List.mem_singleton.1 hy]
      exact ⟨by show ([] : List Int).length < _; simp, ⟨by show (statsN s).Totals_.length < _; omega, by show (statsN s).Cells_.length < _; omega, fun x hx => by have := hcells x hx; show x.length < _; omega⟩, by show l.length < _; omega⟩
    · have h1 := sum_map_le (f := fun y => 1 + mc_IntS y) (b := 13) (l := (statsN s).Cells_) (fun x hx => by
        have := hcells x hx
        show 1 + mc_IntS x ≤ 13
        rw [mc_ints]; omega)
      unfold mc_NodeS
      simp only [List.map_cons, List.map_nil, List.sum_cons, List.sum_nil]
      rw [mc_ints, mc_ints, mc_ints]
      unfold mc_IntSS
      simp only [List.length_nil]
      omega
theorem newM_len {m : Timpl_Member} (h : NewM m) : len_Member m ∧ 3 + mc_NodeS m.Tree_.Nodes_ + mc_NodeS m.Young_.Nodes_ + mc_IntSS m.Det_.Warn_.Rows_ + mc_IntSS m.Det_.Drift_.Rows_ ≤ 1003 := by
  obtain ⟨h1, h2, h3, _⟩ := h
  have := tiny_len h1
  have h0 := tiny_len (t := ⟨[], 0⟩) (.inl rfl)
  rw [h2, h3]
  refine ⟨⟨this.1, by rw [h2]; exact h0.1, by rw [h3]; exact ⟨⟨by simp, fun y hy => by cases hy⟩, ⟨by simp, fun y hy => by cases hy⟩⟩⟩, ?_⟩
  simp only [mc_NodeS, mc_IntSS, List.map_nil, List.sum_nil] at *
  omega
theorem stateNew_same {c : Timpl_Conf} {b : List Int} (hc : sml_Conf c) (hb : sml_ByteS b) (hm : mc_Conf c ≤ 16777216) : ∃ m, spec_StateNew c b = some m ∧ impl_StateNew c b = some m ∧ len_State m.1 ∧ mc_State m.1 ≤ 1000000000000000000 := by
  suffices h : Both (spec_StateNew c b) (impl_StateNew c b) (fun m => len_State m.1 ∧ mc_State m.1 ≤ 1000000000000000000) by
    obtain ⟨m, h1, h2, h3⟩ := h
    exact ⟨m, h1, h2, h3⟩
  unfold spec_StateNew impl_StateNew
  have htape : Both (spec_TapeNew b) (impl_TapeNew b) (fun y => TapeP y.1) := by
    unfold spec_TapeNew impl_TapeNew lib_slices_Clone___byte_byte_
    refine both_if Iff.rfl (fun _ => both_some ⟨by simp, fun x hx => (by cases hx), by simp, by simp⟩) (fun g => ?_)
    have g : ¬ (b.length : Int) > 600 := by simpa using g
    rw [app_eq (by simp; omega)]
    exact both_some ⟨by show b.length ≤ 600; omega, hb.2, by simp, by simp⟩
  refine htape.bind fun y hy => ?_
  refine (forestNew_both hc.1 hy).bind fun f hf => ?_
  refine both_if Iff.rfl (fun _ => both_some ⟨⟨⟨⟨by simp, fun y hy => by cases hy⟩, by show ([] : List (List UInt8)).length < _; simp⟩, ⟨by simp, fun y hy => by cases hy⟩, ⟨by simp, fun y hy => by cases hy⟩, by show ([] : List Timpl_Pair).length < _; simp⟩, by simp [mc_State, mc_Conf, mc_Schema, mc_AttrS, mc_StringS, mc_Forest, mc_MemberS, mc_Score, mc_IntSS, mc_PairS]⟩) (fun g => ?_)
  have hC : ConfP c := hf.2 (by simp at g; exact g.2)
  obtain ⟨k1, k2⟩ := copySchema hc.1
  unfold spec_l26CopyConf impl_cloneConf
  rw [k1, k2]
  simp only [Option.bind_some]
  have hcl := hC.1.2.1
  refine (scoreNew_both (n := c.Schema_.Classes_.length) (by omega)).bind fun sc hsc => ?_
  have hsl : len_Score sc ∧ mc_Score sc ≤ 100 := by
    rcases hsc with rfl | ⟨hn, rfl⟩
    · exact ⟨⟨⟨by simp, fun y hy => by cases hy⟩, by show ([] : List Timpl_Pair).length < _; simp⟩, by simp [mc_Score, mc_IntSS, mc_PairS]⟩
    · refine ⟨⟨⟨by simp [scoreN]; omega, fun y hy => ?_⟩, by show ([] : List Timpl_Pair).length < _; simp⟩, ?_⟩
      · obtain ⟨i, _, rfl⟩ := List.mem_map.1 (show y ∈ (List.range c.Schema_.Classes_.length).map _ from hy)
        show (List.replicate _ _).length < _
        simp; omega
      · have h1 := sum_map_le (f := fun y => 1 + mc_IntS y) (b := 4) (l := (scoreN c.Schema_.Classes_.length).Table_) (fun x hx => by
          obtain ⟨i, _, rfl⟩ := List.mem_map.1 (show x ∈ (List.range c.Schema_.Classes_.length).map _ from hx)
          show 1 + mc_IntS _ ≤ 4
          rw [mc_ints]; simp; omega)
        have h2 : (scoreN c.Schema_.Classes_.length).Table_.length ≤ 3 := by simp [scoreN]; omega
        show mc_IntSS _ + mc_PairS [] ≤ 100
        simp only [mc_IntSS, mc_PairS, List.map_nil, List.sum_nil]
        omega
  refine both_some ⟨⟨len_of_Conf hc, ⟨by have := hf.1.1; show f.1.Members_.length < _; omega, fun m hm => (newM_len (hf.1.2 m hm)).1⟩, hsl.1⟩, ?_⟩
  have h1 := sum_map_le (f := fun y => 3 + mc_NodeS y.Tree_.Nodes_ + mc_NodeS y.Young_.Nodes_ + mc_IntSS y.Det_.Warn_.Rows_ + mc_IntSS y.Det_.Drift_.Rows_) (b := 1003) (l := f.1.Members_) (fun m hm => (newM_len (hf.1.2 m hm)).2)
  have h2 := hf.1.1
  show mc_Conf c + mc_Forest f.1 + mc_Score sc ≤ _
  unfold mc_Forest mc_MemberS
  omega
end Go.Vk
