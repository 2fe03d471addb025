/- The laws' types: weighed, copied, compared; the rows' frames. Printed by program. -/
import Derived.Test.YtkhdakkhmikfcaaRF
import Derived.Test.YtkhdakkhmikfcaaVkZ
namespace Go.Vk
def sml_IntS (x : List Int) : Prop := x.length ≤ 1048576 ∧ ∀ y ∈ x, (-9223372036854775808 ≤ y ∧ y ≤ 9223372036854775807)
def len_IntS (x : List Int) : Prop := x.length < 1000000000000
theorem len_of_IntS {x : List Int} (h : sml_IntS x) : len_IntS x := by have := h.1; unfold len_IntS; omega
theorem eq_IntS_self {x : List Int} (h : len_IntS x) : laws_eqIntS x x = some true := by
  unfold laws_eqIntS
  rw [if_neg (by simp)]
  refine same_loop (p := x) (laws_eqIntS_L1 x x) (fun _ o => o) (fun k i => ?_) h (fun _ _ _ => rfl)
  show (if _ then _ else _) = _
  cases h : idx x i with
  | none => rfl
  | some e => simp only [Option.bind_some, bne_self_eq_false, Bool.false_eq_true, if_false]
def szn_IntS (x : List Int) : Nat := x.length
def fin_IntS (x : List Int) : Prop := x.length ≤ maxLen ∧ ∀ y ∈ x, IntOk .i64 y
theorem weighs_IntS {x : List Int} (hx : fin_IntS x) : Weighs laws_szIntS szn_IntS x := fun s hs => by
  obtain ⟨r, h1, h2⟩ := weigh_list (p := x) s hs
  exact ⟨r, h1, h2 (lt63 hx.1)⟩
def to_IntS (x : List Int) : List Int := x
theorem to_IntS_ok {x : List Int} (h : szn_IntS x ≤ 1048576) : laws_toIntS x = some (to_IntS x) := by
  unfold szn_IntS at h
  unfold laws_toIntS
  rw [mk_eq _ (by omega)]
  exact (copy_loop (F := some) (g := id) (laws_toIntS_L1 x) (fun _ _ _ => rfl) (by omega) (fun _ _ => rfl) _).trans (by rw [List.map_id]; rfl)
theorem sml_to_IntS {x : List Int} (hf : fin_IntS x) (h : szn_IntS x ≤ 1048576) : sml_IntS (to_IntS x) := by
  unfold szn_IntS at h
  exact ⟨by show x.length ≤ _; omega, fun y hy => i64_of (hf.2 y hy)⟩
def sml_IntSS (x : List (List Int)) : Prop := x.length ≤ 1048576 ∧ ∀ y ∈ x, sml_IntS y
def len_IntSS (x : List (List Int)) : Prop := x.length < 1000000000000 ∧ ∀ y ∈ x, len_IntS y
theorem len_of_IntSS {x : List (List Int)} (h : sml_IntSS x) : len_IntSS x := ⟨by have := h.1; omega, fun y hy => len_of_IntS (h.2 y hy)⟩
theorem eq_IntSS_self {x : List (List Int)} (h : len_IntSS x) : laws_eqIntSS x x = some true := by
  unfold laws_eqIntSS
  rw [if_neg (by simp)]
  refine same_loop (p := x) (laws_eqIntSS_L1 x x) (fun e o => (laws_eqIntS e e).bind fun y => if (!y) then some false else o) (fun k i => ?_) h.1 (fun y hy o => by rw [eq_IntS_self (h.2 y hy)]; rfl)
  show (if _ then _ else _) = _
  cases h : idx x i with
  | none => rfl
  | some e => rfl
def szn_IntSS (x : List (List Int)) : Nat := x.length + (x.map szn_IntS).sum
def fin_IntSS (x : List (List Int)) : Prop := x.length ≤ maxLen ∧ ∀ y ∈ x, fin_IntS y
theorem weighs_IntSS {x : List (List Int)} (hx : fin_IntSS x) : Weighs laws_szIntSS szn_IntSS x := fun s hs => by
  have h0 := lt63 hx.1
  unfold laws_szIntSS szn_IntSS
  rw [wrap_id (n := (s : Int) - (x.length : Int)) (by omega) (by omega)]
  by_cases h : s < x.length
  · rw [if_pos (by simp; omega)]
    exact ⟨_, rfl, .inl ⟨by omega, by omega⟩⟩
  · rw [if_neg (by simp; omega)]
    have := weigh_loop (p := x) (Z := laws_szIntS) (size := szn_IntS) (laws_szIntSS_L1 x) (fun _ _ _ => rfl) (by omega) (fun y hy => weighs_IntS (hx.2 y hy)) (s - x.length) (by omega)
    rw [show (s : Int) - (x.length : Int) = ((s - x.length : Nat) : Int) by omega]
    obtain ⟨r, h1, h2⟩ := this
    refine ⟨r, h1, ?_⟩
    rcases h2 with ⟨h2, h3⟩ | ⟨h2, h3⟩
    · exact .inl ⟨h2, by omega⟩
    · exact .inr ⟨by omega, by rw [h3]; congr 1; omega⟩
def to_IntSS (x : List (List Int)) : List (List Int) := x.map to_IntS
theorem to_IntSS_ok {x : List (List Int)} (h : szn_IntSS x ≤ 1048576) : laws_toIntSS x = some (to_IntSS x) := by
  unfold szn_IntSS at h
  unfold laws_toIntSS
  rw [mk_eq _ (by omega)]
  exact copy_loop (F := laws_toIntS) (g := to_IntS) (laws_toIntSS_L1 x) (fun _ _ _ => rfl) (by omega) (fun y hy => to_IntS_ok (by have := mem_sum (f := szn_IntS) hy; omega)) _
theorem sml_to_IntSS {x : List (List Int)} (hf : fin_IntSS x) (h : szn_IntSS x ≤ 1048576) : sml_IntSS (to_IntSS x) := by
  unfold szn_IntSS at h
  refine ⟨by show (x.map to_IntS).length ≤ _; rw [List.length_map]; omega, fun y hy => ?_⟩
  obtain ⟨b, hb, rfl⟩ := List.mem_map.1 (show y ∈ x.map to_IntS from hy)
  exact sml_to_IntS (hf.2 b hb) (by have := mem_sum (f := szn_IntS) hb; omega)
def sml_Pair (x : Timpl_Pair) : Prop := (-9223372036854775808 ≤ x.Truth_ ∧ x.Truth_ ≤ 9223372036854775807) ∧ (-9223372036854775808 ≤ x.Said_ ∧ x.Said_ ≤ 9223372036854775807)
theorem eq_Pair_self {x : Timpl_Pair} : laws_eqPair x x = some true := by
  unfold laws_eqPair
  simp
def fin_Pair (x : Tlaws_Pair) : Prop := IntOk .i64 x.Truth_ ∧ IntOk .i64 x.Said_
def to_Pair (x : Tlaws_Pair) : Timpl_Pair := ⟨x.Truth_, x.Said_⟩
theorem to_Pair_ok {x : Tlaws_Pair} : laws_toPair x = some (to_Pair x) := by
  unfold laws_toPair
  rfl
theorem sml_to_Pair {x : Tlaws_Pair} (hf : fin_Pair x) : sml_Pair (to_Pair x) := by
  obtain ⟨h0, h1⟩ := hf
  exact ⟨i64_of h0, i64_of h1⟩
def sml_PairS (x : List Timpl_Pair) : Prop := x.length ≤ 1048576 ∧ ∀ y ∈ x, sml_Pair y
def len_PairS (x : List Timpl_Pair) : Prop := x.length < 1000000000000
theorem len_of_PairS {x : List Timpl_Pair} (h : sml_PairS x) : len_PairS x := by have := h.1; unfold len_PairS; omega
theorem eq_PairS_self {x : List Timpl_Pair} (h : len_PairS x) : laws_eqPairS x x = some true := by
  unfold laws_eqPairS
  rw [if_neg (by simp)]
  refine same_loop (p := x) (laws_eqPairS_L1 x x) (fun e o => (laws_eqPair e e).bind fun y => if (!y) then some false else o) (fun k i => ?_) h (fun y _ o => by rw [eq_Pair_self]; rfl)
  show (if _ then _ else _) = _
  cases h : idx x i with
  | none => rfl
  | some e => rfl
def szn_PairS (x : List Tlaws_Pair) : Nat := x.length
def fin_PairS (x : List Tlaws_Pair) : Prop := x.length ≤ maxLen ∧ ∀ y ∈ x, fin_Pair y
theorem weighs_PairS {x : List Tlaws_Pair} (hx : fin_PairS x) : Weighs laws_szPairS szn_PairS x := fun s hs => by
  obtain ⟨r, h1, h2⟩ := weigh_list (p := x) s hs
  exact ⟨r, h1, h2 (lt63 hx.1)⟩
def to_PairS (x : List Tlaws_Pair) : List Timpl_Pair := x.map to_Pair
theorem to_PairS_ok {x : List Tlaws_Pair} (h : szn_PairS x ≤ 1048576) : laws_toPairS x = some (to_PairS x) := by
  unfold szn_PairS at h
  unfold laws_toPairS
  rw [mk_eq _ (by omega)]
  exact copy_loop (F := laws_toPair) (g := to_Pair) (laws_toPairS_L1 x) (fun _ _ _ => rfl) (by omega) (fun y _ => to_Pair_ok) _
theorem sml_to_PairS {x : List Tlaws_Pair} (hf : fin_PairS x) (h : szn_PairS x ≤ 1048576) : sml_PairS (to_PairS x) := by
  unfold szn_PairS at h
  refine ⟨by show (x.map to_Pair).length ≤ _; rw [List.length_map]; omega, fun y hy => ?_⟩
  obtain ⟨b, hb, rfl⟩ := List.mem_map.1 (show y ∈ x.map to_Pair from hy)
  exact sml_to_Pair (hf.2 b hb)
def sml_Score (x : Timpl_Score) : Prop := sml_IntSS x.Table_ ∧ sml_PairS x.Last_
def len_Score (x : Timpl_Score) : Prop := len_IntSS x.Table_ ∧ len_PairS x.Last_
theorem len_of_Score {x : Timpl_Score} (h : sml_Score x) : len_Score x := by
  obtain ⟨h0, h1⟩ := h
  exact ⟨len_of_IntSS h0, len_of_PairS h1⟩
theorem eq_Score_self {x : Timpl_Score} (h : len_Score x) : laws_eqScore x x = some true := by
  obtain ⟨h0, h1⟩ := h
  unfold laws_eqScore
  simp [eq_IntSS_self h0, eq_PairS_self h1]
def szn_Score (x : Tlaws_Score) : Nat := szn_IntSS x.Table_ + szn_PairS x.Last_
def fin_Score (x : Tlaws_Score) : Prop := fin_IntSS x.Table_ ∧ fin_PairS x.Last_
def to_Score (x : Tlaws_Score) : Timpl_Score := ⟨to_IntSS x.Table_, to_PairS x.Last_⟩
theorem weighs_Score {x : Tlaws_Score} (hx : fin_Score x) : Weighs laws_szScore szn_Score x := fun s hs => by
  obtain ⟨h0, h1⟩ := hx
  unfold laws_szScore szn_Score
  obtain ⟨r, e0, g0⟩ := weighs_IntSS h0 (s) (by omega)
  rw [e0]
  simp only [Option.bind_some]
  rcases g0 with ⟨g0, k0⟩ | ⟨g0, rfl⟩
  · rw [if_pos (by simpa using g0)]; exact ⟨_, rfl, .inl ⟨by omega, by omega⟩⟩
  · rw [if_neg (by simp)]
    obtain ⟨r, e1, g1⟩ := weighs_PairS h1 (s - szn_IntSS x.Table_) (by omega)
    rw [e1]
    simp only [Option.bind_some]
    rcases g1 with ⟨g1, k1⟩ | ⟨g1, rfl⟩
    · rw [if_pos (by simpa using g1)]; exact ⟨_, rfl, .inl ⟨by omega, by omega⟩⟩
    · rw [if_neg (by simp)]
      exact ⟨_, rfl, .inr ⟨by omega, by first | rfl | (congr 1; omega)⟩⟩
theorem to_Score_ok {x : Tlaws_Score} (h : szn_Score x ≤ 1048576) : laws_toScore x = some (to_Score x) := by
  unfold szn_Score at h
  unfold laws_toScore
  rw [to_IntSS_ok (x := x.Table_) (by omega), to_PairS_ok (x := x.Last_) (by omega)]
  rfl
theorem sml_to_Score {x : Tlaws_Score} (hf : fin_Score x) (h : szn_Score x ≤ 1048576) : sml_Score (to_Score x) := by
  unfold szn_Score at h
  obtain ⟨h0, h1⟩ := hf
  exact ⟨sml_to_IntSS h0 (show szn_IntSS x.Table_ ≤ 1048576 by omega), sml_to_PairS h1 (show szn_PairS x.Last_ ≤ 1048576 by omega)⟩
def sml_Frac (x : Timpl_Frac) : Prop := (-9223372036854775808 ≤ x.Num_ ∧ x.Num_ ≤ 9223372036854775807) ∧ (-9223372036854775808 ≤ x.Den_ ∧ x.Den_ ≤ 9223372036854775807)
theorem eq_Frac_self {x : Timpl_Frac} : laws_eqFrac x x = some true := by
  unfold laws_eqFrac
  simp
theorem exact_Accuracy {a0 : Int} {a1 : Tlaws_Score} (h1 : fin_Score a1) (hs : sml_Score (to_Score a1) → ∃ m, spec_Accuracy a0 (to_Score a1) = some m ∧ impl_Accuracy a0 (to_Score a1) = some m) : laws_FnExactAccuracy a0 a1 = some true := by
  unfold laws_FnExactAccuracy
  obtain ⟨r, e1, g1⟩ := weighs_Score h1 (1048576) (by omega)
  have e1 : laws_szScore a1 1048576 = some r := e1
  rw [e1]
  simp only [Option.bind_some]
  rcases g1 with ⟨g1, _⟩ | ⟨g1, rfl⟩
  · rw [if_pos (by simpa using g1)]
  · rw [if_neg (by simp)]
    have s1 := sml_to_Score h1 (show szn_Score a1 ≤ 1048576 by omega)
    rw [to_Score_ok (x := a1) (by omega)]
    simp only [Option.bind_some]
    obtain ⟨m, e, e'⟩ := hs s1
    rw [e]
    simp only [Option.bind_some]
    rw [e']
    simp [eq_Score_self (len_of_Score s1), eq_Frac_self]
theorem exact_Count {a0 : Int} {a1 : Tlaws_Score} (h1 : fin_Score a1) (hs : sml_Score (to_Score a1) → ∃ m, spec_Count a0 (to_Score a1) = some m ∧ impl_Count a0 (to_Score a1) = some m) : laws_FnExactCount a0 a1 = some true := by
  unfold laws_FnExactCount
  obtain ⟨r, e1, g1⟩ := weighs_Score h1 (1048576) (by omega)
  have e1 : laws_szScore a1 1048576 = some r := e1
  rw [e1]
  simp only [Option.bind_some]
  rcases g1 with ⟨g1, _⟩ | ⟨g1, rfl⟩
  · rw [if_pos (by simpa using g1)]
  · rw [if_neg (by simp)]
    have s1 := sml_to_Score h1 (show szn_Score a1 ≤ 1048576 by omega)
    rw [to_Score_ok (x := a1) (by omega)]
    simp only [Option.bind_some]
    obtain ⟨m, e, e'⟩ := hs s1
    rw [e]
    simp only [Option.bind_some]
    rw [e']
    simp [eq_Score_self (len_of_Score s1)]
theorem exact_Kappa {a0 : Int} {a1 : Tlaws_Score} (h1 : fin_Score a1) (hs : sml_Score (to_Score a1) → ∃ m, spec_Kappa a0 (to_Score a1) = some m ∧ impl_Kappa a0 (to_Score a1) = some m) : laws_FnExactKappa a0 a1 = some true := by
  unfold laws_FnExactKappa
  obtain ⟨r, e1, g1⟩ := weighs_Score h1 (1048576) (by omega)
  have e1 : laws_szScore a1 1048576 = some r := e1
  rw [e1]
  simp only [Option.bind_some]
  rcases g1 with ⟨g1, _⟩ | ⟨g1, rfl⟩
  · rw [if_pos (by simpa using g1)]
  · rw [if_neg (by simp)]
    have s1 := sml_to_Score h1 (show szn_Score a1 ≤ 1048576 by omega)
    rw [to_Score_ok (x := a1) (by omega)]
    simp only [Option.bind_some]
    obtain ⟨m, e, e'⟩ := hs s1
    rw [e]
    simp only [Option.bind_some]
    rw [e']
    simp [eq_Score_self (len_of_Score s1)]
theorem exact_LastRight {a0 : Int} {a1 : Tlaws_Score} (h1 : fin_Score a1) (hs : sml_Score (to_Score a1) → ∃ m, spec_LastRight a0 (to_Score a1) = some m ∧ impl_LastRight a0 (to_Score a1) = some m) : laws_FnExactLastRight a0 a1 = some true := by
  unfold laws_FnExactLastRight
  obtain ⟨r, e1, g1⟩ := weighs_Score h1 (1048576) (by omega)
  have e1 : laws_szScore a1 1048576 = some r := e1
  rw [e1]
  simp only [Option.bind_some]
  rcases g1 with ⟨g1, _⟩ | ⟨g1, rfl⟩
  · rw [if_pos (by simpa using g1)]
  · rw [if_neg (by simp)]
    have s1 := sml_to_Score h1 (show szn_Score a1 ≤ 1048576 by omega)
    rw [to_Score_ok (x := a1) (by omega)]
    simp only [Option.bind_some]
    obtain ⟨m, e, e'⟩ := hs s1
    rw [e]
    simp only [Option.bind_some]
    rw [e']
    simp [eq_Score_self (len_of_Score s1)]
theorem exact_Recall {a0 : Int} {a1 : Tlaws_Score} {a2 : Int} (h1 : fin_Score a1) (hs : sml_Score (to_Score a1) → ∃ m, spec_Recall a0 (to_Score a1) a2 = some m ∧ impl_Recall a0 (to_Score a1) a2 = some m) : laws_FnExactRecall a0 a1 a2 = some true := by
  unfold laws_FnExactRecall
  obtain ⟨r, e1, g1⟩ := weighs_Score h1 (1048576) (by omega)
  have e1 : laws_szScore a1 1048576 = some r := e1
  rw [e1]
  simp only [Option.bind_some]
  rcases g1 with ⟨g1, _⟩ | ⟨g1, rfl⟩
  · rw [if_pos (by simpa using g1)]
  · rw [if_neg (by simp)]
    have s1 := sml_to_Score h1 (show szn_Score a1 ≤ 1048576 by omega)
    rw [to_Score_ok (x := a1) (by omega)]
    simp only [Option.bind_some]
    obtain ⟨m, e, e'⟩ := hs s1
    rw [e]
    simp only [Option.bind_some]
    rw [e']
    simp [eq_Score_self (len_of_Score s1), eq_Frac_self]
theorem exact_Right {a0 : Int} {a1 : Tlaws_Score} (h1 : fin_Score a1) (hs : sml_Score (to_Score a1) → ∃ m, spec_Right a0 (to_Score a1) = some m ∧ impl_Right a0 (to_Score a1) = some m) : laws_FnExactRight a0 a1 = some true := by
  unfold laws_FnExactRight
  obtain ⟨r, e1, g1⟩ := weighs_Score h1 (1048576) (by omega)
  have e1 : laws_szScore a1 1048576 = some r := e1
  rw [e1]
  simp only [Option.bind_some]
  rcases g1 with ⟨g1, _⟩ | ⟨g1, rfl⟩
  · rw [if_pos (by simpa using g1)]
  · rw [if_neg (by simp)]
    have s1 := sml_to_Score h1 (show szn_Score a1 ≤ 1048576 by omega)
    rw [to_Score_ok (x := a1) (by omega)]
    simp only [Option.bind_some]
    obtain ⟨m, e, e'⟩ := hs s1
    rw [e]
    simp only [Option.bind_some]
    rw [e']
    simp [eq_Score_self (len_of_Score s1)]
def mc_IntS (x : List Int) : Nat := (x.map fun _ => 1).sum
theorem mcm_IntS {x : List Int} {y} (h : y ∈ x) : 1 ≤ mc_IntS x := mem_sum (f := fun _ => 1) h
theorem mcl_IntS {x : List Int} : x.length ≤ mc_IntS x := sum_len (fun y => by show 1 ≤ 1; omega)
theorem marks_IntS {x : List Int} (h : mc_IntS x ≤ 100000000000) : Marks laws_markIntS laws_heldIntS (mc_IntS x) x := by
  have hl := mcl_IntS (x := x)
  unfold laws_markIntS laws_heldIntS
  refine marks_loop2 (p := x) (c := fun _ => 1) (laws_markIntS_L1 x) (fun q => laws_heldIntS_L1 q) (fun k l m i h0 => by
    rw [laws_markIntS_L1, if_neg h0]) (fun q k m i h0 => by rw [laws_heldIntS_L1, if_neg h0]) (by omega) (fun x hx m hm => ?_)
  · have hy := mcm_IntS hx
    have hm : m + (1) < 4611686018427387904 := hm
    have w1 := wrap_succ (i := m) (by omega)
    refine ⟨(m + 1), ((m : Nat) : Int), fun k l i h0 h1 => ?_, fun q k i h0 h1 => ?_, by omega, by omega⟩
    · rw [laws_markIntS_L1, if_pos h0, h1]
      simp only [Option.bind_some, w1]
    · rw [laws_heldIntS_L1, if_pos h0]
      simp only [h1, Option.bind_some, bne_self_eq_false, Bool.false_eq_true, if_false, w1]
def mc_IntSS (x : List (List Int)) : Nat := (x.map fun y => 1 + mc_IntS y).sum
theorem mcm_IntSS {x : List (List Int)} {y} (h : y ∈ x) : 1 + mc_IntS y ≤ mc_IntSS x := mem_sum (f := fun y => 1 + mc_IntS y) h
theorem mcl_IntSS {x : List (List Int)} : x.length ≤ mc_IntSS x := sum_len (fun y => by show 1 ≤ 1 + mc_IntS y; omega)
theorem marks_IntSS {x : List (List Int)} (h : mc_IntSS x ≤ 100000000000) : Marks laws_markIntSS laws_heldIntSS (mc_IntSS x) x := by
  have hl := mcl_IntSS (x := x)
  unfold laws_markIntSS laws_heldIntSS
  refine marks_loop2 (p := x) (c := fun y => 1 + mc_IntS y) (laws_markIntSS_L1 x) (fun q => laws_heldIntSS_L1 q) (fun k l m i h0 => by
    rw [laws_markIntSS_L1, if_neg h0]) (fun q k m i h0 => by rw [laws_heldIntSS_L1, if_neg h0]) (by omega) (fun x hx m hm => ?_)
  · have hy := mcm_IntSS hx
    have hm : m + (1 + mc_IntS x) < 4611686018427387904 := hm
    obtain ⟨m1, z1, a1, b1, c1, d1⟩ := marks_IntS (x := x) (by omega) m (by omega)
    refine ⟨m1, z1, fun k l i h0 h1 => ?_, fun q k i h0 h1 => ?_, by omega, by omega⟩
    · rw [laws_markIntSS_L1, if_pos h0, h1]
      simp only [Option.bind_some, a1]
    · rw [laws_heldIntSS_L1, if_pos h0]
      simp only [h1, Option.bind_some, Bool.false_eq_true, if_false, nat_neg, decide_false, b1]
def mc_PairS (x : List Timpl_Pair) : Nat := (x.map fun _ => 2).sum
theorem mcm_PairS {x : List Timpl_Pair} {y} (h : y ∈ x) : 2 ≤ mc_PairS x := mem_sum (f := fun _ => 2) h
theorem mcl_PairS {x : List Timpl_Pair} : x.length ≤ mc_PairS x := sum_len (fun y => by show 1 ≤ 2; omega)
theorem marks_PairS {x : List Timpl_Pair} (h : mc_PairS x ≤ 100000000000) : Marks laws_markPairS laws_heldPairS (mc_PairS x) x := by
  have hl := mcl_PairS (x := x)
  unfold laws_markPairS laws_heldPairS
  refine marks_loop2 (p := x) (c := fun _ => 2) (laws_markPairS_L1 x) (fun q => laws_heldPairS_L1 q) (fun k l m i h0 => by
    rw [laws_markPairS_L1, if_neg h0]) (fun q k m i h0 => by rw [laws_heldPairS_L1, if_neg h0]) (by omega) (fun x hx m hm => ?_)
  · have hy := mcm_PairS hx
    have hm : m + (2) < 4611686018427387904 := hm
    have w1 := wrap_succ (i := m) (by omega)
    have w2 := wrap_succ (i := (m + 1)) (by omega)
    refine ⟨((m + 1) + 1), (Timpl_Pair.mk ((m : Nat) : Int) (((m + 1) : Nat) : Int)), fun k l i h0 h1 => ?_, fun q k i h0 h1 => ?_, by omega, by omega⟩
    · rw [laws_markPairS_L1, if_pos h0, h1]
      simp only [Option.bind_some, w1, w2]
    · rw [laws_heldPairS_L1, if_pos h0]
      simp only [h1, Option.bind_some, bne_self_eq_false, Bool.false_eq_true, if_false, w1, w2]
def mc_Score (x : Timpl_Score) : Nat := mc_IntSS x.Table_ + mc_PairS x.Last_
theorem marks_Score {x : Timpl_Score} (h : mc_Score x ≤ 100000000000) : Marks laws_markScore laws_heldScore (mc_Score x) x := fun m hm => by
  unfold mc_Score at h hm ⊢
  obtain ⟨m0, z0, a0, b0, c0, d0⟩ := marks_IntSS (x := x.Table_) (by omega) m (by omega)
  obtain ⟨m1, z1, a1, b1, c1, d1⟩ := marks_PairS (x := x.Last_) (by omega) m0 (by omega)
  unfold laws_markScore laws_heldScore
  refine ⟨m1, ⟨z0, z1⟩, ?_, ?_, by omega, by omega⟩
  · simp only [Option.bind_some, a0, a1]
  · simp only [Option.bind_some, Bool.false_eq_true, if_false, nat_neg, decide_false, b0, b1]
theorem mcb_IntS {x : List Int} : mc_IntS (to_IntS x) ≤ 16 * szn_IntS x := by
  unfold mc_IntS szn_IntS to_IntS
  rw [sum_ones']
  omega
theorem mcb_IntSS {x : List (List Int)} : mc_IntSS (to_IntSS x) ≤ 16 * szn_IntSS x := by
  unfold mc_IntSS szn_IntSS to_IntSS
  rw [List.map_map]
  refine Nat.le_trans (sum_le16 (g := fun y => szn_IntS y) (fun y _ => ?_)) (by first | omega | (rw [sum_zero]; omega) | exact Nat.le_refl _)
  show 1 + mc_IntS (to_IntS y) ≤ 16 * (1 + szn_IntS y)
  have := mcb_IntS (x := y)
  omega
theorem mcb_PairS {x : List Tlaws_Pair} : mc_PairS (to_PairS x) ≤ 16 * szn_PairS x := by
  unfold mc_PairS szn_PairS to_PairS
  rw [List.map_map]
  refine Nat.le_trans (sum_le16 (g := fun y => 0) (fun y _ => ?_)) (by first | omega | (rw [sum_zero]; omega) | exact Nat.le_refl _)
  show 2 ≤ 16 * (1 + 0)
  try unfold to_Pair
  
  omega
theorem mcb_Score {x : Tlaws_Score} : mc_Score (to_Score x) ≤ 16 * szn_Score x := by
  have := mcb_IntSS (x := x.Table_)
  have := mcb_PairS (x := x.Last_)
  unfold mc_Score szn_Score to_Score
  show mc_IntSS (to_IntSS x.Table_) + mc_PairS (to_PairS x.Last_) ≤ 16 * (szn_IntSS x.Table_ + szn_PairS x.Last_)
  omega
theorem exact_ScoreAdd {a0 : Int} {a1 : Tlaws_Score} {a2 : Int} {a3 : Int} (h1 : fin_Score a1) (hs : sml_Score (to_Score a1) → mc_Score (to_Score a1) ≤ 16777216 → ∃ m, spec_ScoreAdd a0 (to_Score a1) a2 a3 = some m ∧ impl_ScoreAdd a0 (to_Score a1) a2 a3 = some m ∧ len_Score m.1 ∧ mc_Score m.1 ≤ 100000000000) : laws_FnExactScoreAdd a0 a1 a2 a3 = some true := by
  unfold laws_FnExactScoreAdd
  obtain ⟨r, e1, g1⟩ := weighs_Score h1 (1048576) (by omega)
  have e1 : laws_szScore a1 1048576 = some r := e1
  rw [e1]
  simp only [Option.bind_some]
  rcases g1 with ⟨g1, _⟩ | ⟨g1, rfl⟩
  · rw [if_pos (by simpa using g1)]
  · rw [if_neg (by simp)]
    have s1 := sml_to_Score h1 (show szn_Score a1 ≤ 1048576 by omega)
    rw [to_Score_ok (x := a1) (by omega)]
    simp only [Option.bind_some]
    obtain ⟨m, e, e', l0, q0⟩ := hs s1 (by have := mcb_Score (x := a1); omega)
    have b1 := mcb_Score (x := a1)
    obtain ⟨k1, z1, p1, _, _, _⟩ := marks_Score (x := to_Score a1) (by omega) 1 (by omega)
    have p1 : laws_markScore (to_Score a1) 1 = some ((k1 : Int), z1) := p1
    obtain ⟨r1, y1, c1, d1, _, _⟩ := marks_Score (x := m.1) (by omega) 1 (by omega)
    have c1 : laws_markScore m.1 1 = some ((r1 : Int), y1) := c1
    have d1 : laws_heldScore y1 1 = some (r1 : Int) := d1
    rw [e]
    simp only [Option.bind_some]
    rw [e']
    simp [eq_Score_self (len_of_Score s1), eq_Score_self l0, p1, c1, d1, nat_neg]
end Go.Vk
