/- The laws' types: weighed, copied, compared; the rows' frames. Printed by program. -/
import Derived.Test.YtjflgcighcjfkaaGreatDoorRF
import Derived.Test.YtjflgcighcjfkaaGreatDoorVkZ
namespace Go.Vk
def sml_IntS (x : List Int) : Prop := x.length ≤ 1048576 ∧ ∀ y ∈ x, (-9223372036854775808 ≤ y ∧ y ≤ 9223372036854775807)
def len_IntS (x : List Int) : Prop := x.length < 1000000000000
theorem len_of_IntS {x : List Int} (h : sml_IntS x) : len_IntS x := by have := h.1; unfold len_IntS; omega
theorem eq_IntS_self {x : List Int} (h : len_IntS x) : laws_eqIntS x x = some true := by
  unfold laws_eqIntS
  rw [if_neg (by simp)]
  refine same_loop (p := x) (laws_eqIntS_L1 x x) (fun _ o => o) (fun k i => ?_) h (fun _ _ _ => rfl)
  show (if _ then _ else _) = _
  cases h : idx x i with
  | none => rfl
  | some e => simp only [Option.bind_some, bne_self_eq_false, Bool.false_eq_true, if_false]
def szn_IntS (x : List Int) : Nat := x.length
def fin_IntS (x : List Int) : Prop := x.length ≤ maxLen ∧ ∀ y ∈ x, IntOk .i64 y
theorem weighs_IntS {x : List Int} (hx : fin_IntS x) : Weighs laws_szIntS szn_IntS x := fun s hs => by
  obtain ⟨r, h1, h2⟩ := weigh_list (p := x) s hs
  exact ⟨r, h1, h2 (lt63 hx.1)⟩
def to_IntS (x : List Int) : List Int := x
theorem to_IntS_ok {x : List Int} (h : szn_IntS x ≤ 1048576) : laws_toIntS x = some (to_IntS x) := by
  unfold szn_IntS at h
  unfold laws_toIntS
  rw [mk_eq _ (by omega)]
  exact (copy_loop (F := some) (g := id) (laws_toIntS_L1 x) (fun _ _ _ => rfl) (by omega) (fun _ _ => rfl) _).trans (by rw [List.map_id]; rfl)
theorem sml_to_IntS {x : List Int} (hf : fin_IntS x) (h : szn_IntS x ≤ 1048576) : sml_IntS (to_IntS x) := by
  unfold szn_IntS at h
  exact ⟨by show x.length ≤ _; omega, fun y hy => i64_of (hf.2 y hy)⟩
def sml_StringS (x : List (List UInt8)) : Prop := x.length ≤ 1048576 ∧ ∀ y ∈ x, y.length ≤ 1048576
def len_StringS (x : List (List UInt8)) : Prop := x.length < 1000000000000
theorem len_of_StringS {x : List (List UInt8)} (h : sml_StringS x) : len_StringS x := by have := h.1; unfold len_StringS; omega
theorem eq_StringS_self {x : List (List UInt8)} (h : len_StringS x) : laws_eqStringS x x = some true := by
  unfold laws_eqStringS
  rw [if_neg (by simp)]
  refine same_loop (p := x) (laws_eqStringS_L1 x x) (fun _ o => o) (fun k i => ?_) h (fun _ _ _ => rfl)
  show (if _ then _ else _) = _
  cases h : idx x i with
  | none => rfl
  | some e => simp only [Option.bind_some, beq_self_eq_true, Bool.not_true, Bool.false_eq_true, if_false]
def szn_StringS (x : List (List UInt8)) : Nat := x.length + (x.map List.length).sum
def fin_StringS (x : List (List UInt8)) : Prop := x.length ≤ maxLen ∧ ∀ y ∈ x, y.length ≤ maxLen
theorem weighs_StringS {x : List (List UInt8)} (hx : fin_StringS x) : Weighs laws_szStringS szn_StringS x := fun s hs => by
  have h0 := lt63 hx.1
  unfold laws_szStringS szn_StringS
  rw [wrap_id (n := (s : Int) - (x.length : Int)) (by omega) (by omega)]
  by_cases h : s < x.length
  · rw [if_pos (by simp; omega)]
    exact ⟨_, rfl, .inl ⟨by omega, by omega⟩⟩
  · rw [if_neg (by simp; omega)]
    have := weigh_loop (p := x) (Z := fun e s => if decide ((IntKind.i64.wrap (s - (e.length : Int))) < 0) then some (-1) else some (IntKind.i64.wrap (s - (e.length : Int)))) (size := List.length) (laws_szStringS_L1 x) (fun k s i => by
      show (if _ then (idx x i).bind _ else _) = _
      cases idx x i with
      | none => rfl
      | some e =>
        simp only [Option.bind_some]
        split
        · by_cases h : IntKind.i64.wrap (s - (e.length : Int)) < 0
          · simp [h]
          · simp [h]
        · rfl) (by omega) (fun y hy s hs => by
      obtain ⟨r, h1, h2⟩ := weigh_list (p := y) s hs
      exact ⟨r, h1, h2 (lt63 (hx.2 y hy))⟩) (s - x.length) (by omega)
    rw [show (s : Int) - (x.length : Int) = ((s - x.length : Nat) : Int) by omega]
    obtain ⟨r, h1, h2⟩ := this
    refine ⟨r, h1, ?_⟩
    rcases h2 with ⟨h2, h3⟩ | ⟨h2, h3⟩
    · exact .inl ⟨h2, by omega⟩
    · exact .inr ⟨by omega, by rw [h3]; congr 1; omega⟩
def to_StringS (x : List (List UInt8)) : List (List UInt8) := x
theorem to_StringS_ok {x : List (List UInt8)} (h : szn_StringS x ≤ 1048576) : laws_toStringS x = some (to_StringS x) := by
  unfold szn_StringS at h
  unfold laws_toStringS
  rw [mk_eq _ (by omega)]
  exact (copy_loop (F := some) (g := id) (laws_toStringS_L1 x) (fun _ _ _ => rfl) (by omega) (fun _ _ => rfl) _).trans (by rw [List.map_id]; rfl)
theorem sml_to_StringS {x : List (List UInt8)} (_ : fin_StringS x) (h : szn_StringS x ≤ 1048576) : sml_StringS (to_StringS x) := by
  unfold szn_StringS at h
  exact ⟨by show x.length ≤ _; omega, fun y hy => by have := mem_sum (f := List.length) (show y ∈ x from hy); omega⟩
def sml_Attr (x : Timpl_Attr) : Prop := x.Name_.length ≤ 1048576 ∧ sml_IntS x.Cuts_ ∧ sml_StringS x.Values_
def len_Attr (x : Timpl_Attr) : Prop := len_IntS x.Cuts_ ∧ len_StringS x.Values_
theorem len_of_Attr {x : Timpl_Attr} (h : sml_Attr x) : len_Attr x := by
  obtain ⟨_, h1, h2⟩ := h
  exact ⟨len_of_IntS h1, len_of_StringS h2⟩
theorem eq_Attr_self {x : Timpl_Attr} (h : len_Attr x) : laws_eqAttr x x = some true := by
  obtain ⟨h1, h2⟩ := h
  unfold laws_eqAttr
  simp [eq_IntS_self h1, eq_StringS_self h2]
def szn_Attr (x : Tlaws_Attr) : Nat := x.Name_.length + szn_IntS x.Cuts_ + szn_StringS x.Values_
def fin_Attr (x : Tlaws_Attr) : Prop := x.Name_.length ≤ maxLen ∧ fin_IntS x.Cuts_ ∧ fin_StringS x.Values_
def to_Attr (x : Tlaws_Attr) : Timpl_Attr := ⟨x.Name_, to_IntS x.Cuts_, to_StringS x.Values_⟩
theorem weighs_Attr {x : Tlaws_Attr} (hx : fin_Attr x) : Weighs laws_szAttr szn_Attr x := fun s hs => by
  obtain ⟨h0, h1, h2⟩ := hx
  unfold laws_szAttr szn_Attr
  have l0 := lt63 h0
  rw [wrap_id (n := ((s : Nat) : Int) - (x.Name_.length : Int)) (by omega) (by omega)]
  by_cases c0 : s < x.Name_.length
  · rw [if_pos (by simp; omega)]; exact ⟨_, rfl, .inl ⟨by omega, by omega⟩⟩
  · rw [if_neg (by simp; omega), show ((s : Nat) : Int) - (x.Name_.length : Int) = ((s - x.Name_.length : Nat) : Int) by omega]
    obtain ⟨r, e1, g1⟩ := weighs_IntS h1 (s - x.Name_.length) (by omega)
    rw [e1]
    simp only [Option.bind_some]
    rcases g1 with ⟨g1, k1⟩ | ⟨g1, rfl⟩
    · rw [if_pos (by simpa using g1)]; exact ⟨_, rfl, .inl ⟨by omega, by omega⟩⟩
    · rw [if_neg (by simp)]
      obtain ⟨r, e2, g2⟩ := weighs_StringS h2 (s - x.Name_.length - szn_IntS x.Cuts_) (by omega)
      rw [e2]
      simp only [Option.bind_some]
      rcases g2 with ⟨g2, k2⟩ | ⟨g2, rfl⟩
      · rw [if_pos (by simpa using g2)]; exact ⟨_, rfl, .inl ⟨by omega, by omega⟩⟩
      · rw [if_neg (by simp)]
        exact ⟨_, rfl, .inr ⟨by omega, by first | rfl | (congr 1; omega)⟩⟩
theorem to_Attr_ok {x : Tlaws_Attr} (h : szn_Attr x ≤ 1048576) : laws_toAttr x = some (to_Attr x) := by
  unfold szn_Attr at h
  unfold laws_toAttr
  rw [to_IntS_ok (x := x.Cuts_) (by omega), to_StringS_ok (x := x.Values_) (by omega)]
  rfl
theorem sml_to_Attr {x : Tlaws_Attr} (hf : fin_Attr x) (h : szn_Attr x ≤ 1048576) : sml_Attr (to_Attr x) := by
  unfold szn_Attr at h
  obtain ⟨_, h1, h2⟩ := hf
  exact ⟨by show x.Name_.length ≤ _; omega, sml_to_IntS h1 (show szn_IntS x.Cuts_ ≤ 1048576 by omega), sml_to_StringS h2 (show szn_StringS x.Values_ ≤ 1048576 by omega)⟩
def sml_AttrS (x : List Timpl_Attr) : Prop := x.length ≤ 1048576 ∧ ∀ y ∈ x, sml_Attr y
def len_AttrS (x : List Timpl_Attr) : Prop := x.length < 1000000000000 ∧ ∀ y ∈ x, len_Attr y
theorem len_of_AttrS {x : List Timpl_Attr} (h : sml_AttrS x) : len_AttrS x := ⟨by have := h.1; omega, fun y hy => len_of_Attr (h.2 y hy)⟩
theorem eq_AttrS_self {x : List Timpl_Attr} (h : len_AttrS x) : laws_eqAttrS x x = some true := by
  unfold laws_eqAttrS
  rw [if_neg (by simp)]
  refine same_loop (p := x) (laws_eqAttrS_L1 x x) (fun e o => (laws_eqAttr e e).bind fun y => if (!y) then some false else o) (fun k i => ?_) h.1 (fun y hy o => by rw [eq_Attr_self (h.2 y hy)]; rfl)
  show (if _ then _ else _) = _
  cases h : idx x i with
  | none => rfl
  | some e => rfl
def szn_AttrS (x : List Tlaws_Attr) : Nat := x.length + (x.map szn_Attr).sum
def fin_AttrS (x : List Tlaws_Attr) : Prop := x.length ≤ maxLen ∧ ∀ y ∈ x, fin_Attr y
theorem weighs_AttrS {x : List Tlaws_Attr} (hx : fin_AttrS x) : Weighs laws_szAttrS szn_AttrS x := fun s hs => by
  have h0 := lt63 hx.1
  unfold laws_szAttrS szn_AttrS
  rw [wrap_id (n := (s : Int) - (x.length : Int)) (by omega) (by omega)]
  by_cases h : s < x.length
  · rw [if_pos (by simp; omega)]
    exact ⟨_, rfl, .inl ⟨by omega, by omega⟩⟩
  · rw [if_neg (by simp; omega)]
    have := weigh_loop (p := x) (Z := laws_szAttr) (size := szn_Attr) (laws_szAttrS_L1 x) (fun _ _ _ => rfl) (by omega) (fun y hy => weighs_Attr (hx.2 y hy)) (s - x.length) (by omega)
    rw [show (s : Int) - (x.length : Int) = ((s - x.length : Nat) : Int) by omega]
    obtain ⟨r, h1, h2⟩ := this
    refine ⟨r, h1, ?_⟩
    rcases h2 with ⟨h2, h3⟩ | ⟨h2, h3⟩
    · exact .inl ⟨h2, by omega⟩
    · exact .inr ⟨by omega, by rw [h3]; congr 1; omega⟩
def to_AttrS (x : List Tlaws_Attr) : List Timpl_Attr := x.map to_Attr
theorem to_AttrS_ok {x : List Tlaws_Attr} (h : szn_AttrS x ≤ 1048576) : laws_toAttrS x = some (to_AttrS x) := by
  unfold szn_AttrS at h
  unfold laws_toAttrS
  rw [mk_eq _ (by omega)]
  exact copy_loop (F := laws_toAttr) (g := to_Attr) (laws_toAttrS_L1 x) (fun _ _ _ => rfl) (by omega) (fun y hy => to_Attr_ok (by have := mem_sum (f := szn_Attr) hy; omega)) _
theorem sml_to_AttrS {x : List Tlaws_Attr} (hf : fin_AttrS x) (h : szn_AttrS x ≤ 1048576) : sml_AttrS (to_AttrS x) := by
  unfold szn_AttrS at h
  refine ⟨by show (x.map to_Attr).length ≤ _; rw [List.length_map]; omega, fun y hy => ?_⟩
  obtain ⟨b, hb, rfl⟩ := List.mem_map.1 (show y ∈ x.map to_Attr from hy)
  exact sml_to_Attr (hf.2 b hb) (by have := mem_sum (f := szn_Attr) hb; omega)
def sml_Schema (x : Timpl_Schema) : Prop := sml_AttrS x.Attrs_ ∧ sml_StringS x.Classes_
def len_Schema (x : Timpl_Schema) : Prop := len_AttrS x.Attrs_ ∧ len_StringS x.Classes_
theorem len_of_Schema {x : Timpl_Schema} (h : sml_Schema x) : len_Schema x := by
  obtain ⟨h0, h1⟩ := h
  exact ⟨len_of_AttrS h0, len_of_StringS h1⟩
theorem eq_Schema_self {x : Timpl_Schema} (h : len_Schema x) : laws_eqSchema x x = some true := by
  obtain ⟨h0, h1⟩ := h
  unfold laws_eqSchema
  simp [eq_AttrS_self h0, eq_StringS_self h1]
def szn_Schema (x : Tlaws_Schema) : Nat := szn_AttrS x.Attrs_ + szn_StringS x.Classes_
def fin_Schema (x : Tlaws_Schema) : Prop := fin_AttrS x.Attrs_ ∧ fin_StringS x.Classes_
def to_Schema (x : Tlaws_Schema) : Timpl_Schema := ⟨to_AttrS x.Attrs_, to_StringS x.Classes_⟩
theorem weighs_Schema {x : Tlaws_Schema} (hx : fin_Schema x) : Weighs laws_szSchema szn_Schema x := fun s hs => by
  obtain ⟨h0, h1⟩ := hx
  unfold laws_szSchema szn_Schema
  obtain ⟨r, e0, g0⟩ := weighs_AttrS h0 (s) (by omega)
  rw [e0]
  simp only [Option.bind_some]
  rcases g0 with ⟨g0, k0⟩ | ⟨g0, rfl⟩
  · rw [if_pos (by simpa using g0)]; exact ⟨_, rfl, .inl ⟨by omega, by omega⟩⟩
  · rw [if_neg (by simp)]
    obtain ⟨r, e1, g1⟩ := weighs_StringS h1 (s - szn_AttrS x.Attrs_) (by omega)
    rw [e1]
    simp only [Option.bind_some]
    rcases g1 with ⟨g1, k1⟩ | ⟨g1, rfl⟩
    · rw [if_pos (by simpa using g1)]; exact ⟨_, rfl, .inl ⟨by omega, by omega⟩⟩
    · rw [if_neg (by simp)]
      exact ⟨_, rfl, .inr ⟨by omega, by first | rfl | (congr 1; omega)⟩⟩
theorem to_Schema_ok {x : Tlaws_Schema} (h : szn_Schema x ≤ 1048576) : laws_toSchema x = some (to_Schema x) := by
  unfold szn_Schema at h
  unfold laws_toSchema
  rw [to_AttrS_ok (x := x.Attrs_) (by omega), to_StringS_ok (x := x.Classes_) (by omega)]
  rfl
theorem sml_to_Schema {x : Tlaws_Schema} (hf : fin_Schema x) (h : szn_Schema x ≤ 1048576) : sml_Schema (to_Schema x) := by
  unfold szn_Schema at h
  obtain ⟨h0, h1⟩ := hf
  exact ⟨sml_to_AttrS h0 (show szn_AttrS x.Attrs_ ≤ 1048576 by omega), sml_to_StringS h1 (show szn_StringS x.Classes_ ≤ 1048576 by omega)⟩
def sml_Fork (x : Timpl_Fork) : Prop := (-9223372036854775808 ≤ x.Attr_ ∧ x.Attr_ ≤ 9223372036854775807) ∧ (-9223372036854775808 ≤ x.At_ ∧ x.At_ ≤ 9223372036854775807)
theorem eq_Fork_self {x : Timpl_Fork} : laws_eqFork x x = some true := by
  unfold laws_eqFork
  simp
def fin_Fork (x : Tlaws_Fork) : Prop := IntOk .i64 x.Attr_ ∧ IntOk .i64 x.At_
def to_Fork (x : Tlaws_Fork) : Timpl_Fork := ⟨x.Attr_, x.At_⟩
theorem to_Fork_ok {x : Tlaws_Fork} : laws_toFork x = some (to_Fork x) := by
  unfold laws_toFork
  rfl
theorem sml_to_Fork {x : Tlaws_Fork} (hf : fin_Fork x) : sml_Fork (to_Fork x) := by
  obtain ⟨h0, h1⟩ := hf
  exact ⟨i64_of h0, i64_of h1⟩
def sml_IntSS (x : List (List Int)) : Prop := x.length ≤ 1048576 ∧ ∀ y ∈ x, sml_IntS y
def len_IntSS (x : List (List Int)) : Prop := x.length < 1000000000000 ∧ ∀ y ∈ x, len_IntS y
theorem len_of_IntSS {x : List (List Int)} (h : sml_IntSS x) : len_IntSS x := ⟨by have := h.1; omega, fun y hy => len_of_IntS (h.2 y hy)⟩
theorem eq_IntSS_self {x : List (List Int)} (h : len_IntSS x) : laws_eqIntSS x x = some true := by
  unfold laws_eqIntSS
  rw [if_neg (by simp)]
  refine same_loop (p := x) (laws_eqIntSS_L1 x x) (fun e o => (laws_eqIntS e e).bind fun y => if (!y) then some false else o) (fun k i => ?_) h.1 (fun y hy o => by rw [eq_IntS_self (h.2 y hy)]; rfl)
  show (if _ then _ else _) = _
  cases h : idx x i with
  | none => rfl
  | some e => rfl
def szn_IntSS (x : List (List Int)) : Nat := x.length + (x.map szn_IntS).sum
def fin_IntSS (x : List (List Int)) : Prop := x.length ≤ maxLen ∧ ∀ y ∈ x, fin_IntS y
theorem weighs_IntSS {x : List (List Int)} (hx : fin_IntSS x) : Weighs laws_szIntSS szn_IntSS x := fun s hs => by
  have h0 := lt63 hx.1
  unfold laws_szIntSS szn_IntSS
  rw [wrap_id (n := (s : Int) - (x.length : Int)) (by omega) (by omega)]
  by_cases h : s < x.length
  · rw [if_pos (by simp; omega)]
    exact ⟨_, rfl, .inl ⟨by omega, by omega⟩⟩
  · rw [if_neg (by simp; omega)]
    have := weigh_loop (p := x) (Z := laws_szIntS) (size := szn_IntS) (laws_szIntSS_L1 x) (fun _ _ _ => rfl) (by omega) (fun y hy => weighs_IntS (hx.2 y hy)) (s - x.length) (by omega)
    rw [show (s : Int) - (x.length : Int) = ((s - x.length : Nat) : Int) by omega]
    obtain ⟨r, h1, h2⟩ := this
    refine ⟨r, h1, ?_⟩
    rcases h2 with ⟨h2, h3⟩ | ⟨h2, h3⟩
    · exact .inl ⟨h2, by omega⟩
    · exact .inr ⟨by omega, by rw [h3]; congr 1; omega⟩
def to_IntSS (x : List (List Int)) : List (List Int) := x.map to_IntS
theorem to_IntSS_ok {x : List (List Int)} (h : szn_IntSS x ≤ 1048576) : laws_toIntSS x = some (to_IntSS x) := by
  unfold szn_IntSS at h
  unfold laws_toIntSS
  rw [mk_eq _ (by omega)]
  exact copy_loop (F := laws_toIntS) (g := to_IntS) (laws_toIntSS_L1 x) (fun _ _ _ => rfl) (by omega) (fun y hy => to_IntS_ok (by have := mem_sum (f := szn_IntS) hy; omega)) _
theorem sml_to_IntSS {x : List (List Int)} (hf : fin_IntSS x) (h : szn_IntSS x ≤ 1048576) : sml_IntSS (to_IntSS x) := by
  unfold szn_IntSS at h
  refine ⟨by show (x.map to_IntS).length ≤ _; rw [List.length_map]; omega, fun y hy => ?_⟩
  obtain ⟨b, hb, rfl⟩ := List.mem_map.1 (show y ∈ x.map to_IntS from hy)
  exact sml_to_IntS (hf.2 b hb) (by have := mem_sum (f := szn_IntS) hb; omega)
def sml_Stats (x : Timpl_Stats) : Prop := sml_IntS x.Totals_ ∧ sml_IntSS x.Cells_
def len_Stats (x : Timpl_Stats) : Prop := len_IntS x.Totals_ ∧ len_IntSS x.Cells_
theorem len_of_Stats {x : Timpl_Stats} (h : sml_Stats x) : len_Stats x := by
  obtain ⟨h0, h1⟩ := h
  exact ⟨len_of_IntS h0, len_of_IntSS h1⟩
theorem eq_Stats_self {x : Timpl_Stats} (h : len_Stats x) : laws_eqStats x x = some true := by
  obtain ⟨h0, h1⟩ := h
  unfold laws_eqStats
  simp [eq_IntS_self h0, eq_IntSS_self h1]
def szn_Stats (x : Tlaws_Stats) : Nat := szn_IntS x.Totals_ + szn_IntSS x.Cells_
def fin_Stats (x : Tlaws_Stats) : Prop := fin_IntS x.Totals_ ∧ fin_IntSS x.Cells_
def to_Stats (x : Tlaws_Stats) : Timpl_Stats := ⟨to_IntS x.Totals_, to_IntSS x.Cells_⟩
theorem weighs_Stats {x : Tlaws_Stats} (hx : fin_Stats x) : Weighs laws_szStats szn_Stats x := fun s hs => by
  obtain ⟨h0, h1⟩ := hx
  unfold laws_szStats szn_Stats
  obtain ⟨r, e0, g0⟩ := weighs_IntS h0 (s) (by omega)
  rw [e0]
  simp only [Option.bind_some]
  rcases g0 with ⟨g0, k0⟩ | ⟨g0, rfl⟩
  · rw [if_pos (by simpa using g0)]; exact ⟨_, rfl, .inl ⟨by omega, by omega⟩⟩
  · rw [if_neg (by simp)]
    obtain ⟨r, e1, g1⟩ := weighs_IntSS h1 (s - szn_IntS x.Totals_) (by omega)
    rw [e1]
    simp only [Option.bind_some]
    rcases g1 with ⟨g1, k1⟩ | ⟨g1, rfl⟩
    · rw [if_pos (by simpa using g1)]; exact ⟨_, rfl, .inl ⟨by omega, by omega⟩⟩
    · rw [if_neg (by simp)]
      exact ⟨_, rfl, .inr ⟨by omega, by first | rfl | (congr 1; omega)⟩⟩
theorem to_Stats_ok {x : Tlaws_Stats} (h : szn_Stats x ≤ 1048576) : laws_toStats x = some (to_Stats x) := by
  unfold szn_Stats at h
  unfold laws_toStats
  rw [to_IntS_ok (x := x.Totals_) (by omega), to_IntSS_ok (x := x.Cells_) (by omega)]
  rfl
theorem sml_to_Stats {x : Tlaws_Stats} (hf : fin_Stats x) (h : szn_Stats x ≤ 1048576) : sml_Stats (to_Stats x) := by
  unfold szn_Stats at h
  obtain ⟨h0, h1⟩ := hf
  exact ⟨sml_to_IntS h0 (show szn_IntS x.Totals_ ≤ 1048576 by omega), sml_to_IntSS h1 (show szn_IntSS x.Cells_ ≤ 1048576 by omega)⟩
def sml_Node (x : Timpl_Node) : Prop := True ∧ sml_Fork x.Fork_ ∧ sml_IntS x.Kids_ ∧ (-9223372036854775808 ≤ x.Miss_ ∧ x.Miss_ ≤ 9223372036854775807) ∧ sml_Stats x.Stats_ ∧ (-9223372036854775808 ≤ x.Since_ ∧ x.Since_ ≤ 9223372036854775807) ∧ sml_IntS x.Attrs_ ∧ (-9223372036854775808 ≤ x.Depth_ ∧ x.Depth_ ≤ 9223372036854775807) ∧ (-9223372036854775808 ≤ x.Up_ ∧ x.Up_ ≤ 9223372036854775807) ∧ (-9223372036854775808 ≤ x.Born_ ∧ x.Born_ ≤ 9223372036854775807)
def len_Node (x : Timpl_Node) : Prop := len_IntS x.Kids_ ∧ len_Stats x.Stats_ ∧ len_IntS x.Attrs_
theorem len_of_Node {x : Timpl_Node} (h : sml_Node x) : len_Node x := by
  obtain ⟨_, _, h2, _, h4, _, h6, _, _, _⟩ := h
  exact ⟨len_of_IntS h2, len_of_Stats h4, len_of_IntS h6⟩
theorem eq_Node_self {x : Timpl_Node} (h : len_Node x) : laws_eqNode x x = some true := by
  obtain ⟨h2, h4, h6⟩ := h
  unfold laws_eqNode
  simp [eq_Fork_self (x := x.Fork_), eq_IntS_self h2, eq_Stats_self h4, eq_IntS_self h6]
def szn_Node (x : Tlaws_Node) : Nat := szn_IntS x.Kids_ + szn_Stats x.Stats_ + szn_IntS x.Attrs_
def fin_Node (x : Tlaws_Node) : Prop := True ∧ fin_Fork x.Fork_ ∧ fin_IntS x.Kids_ ∧ IntOk .i64 x.Miss_ ∧ fin_Stats x.Stats_ ∧ IntOk .i64 x.Since_ ∧ fin_IntS x.Attrs_ ∧ IntOk .i64 x.Depth_ ∧ IntOk .i64 x.Up_ ∧ IntOk .i64 x.Born_
def to_Node (x : Tlaws_Node) : Timpl_Node := ⟨x.Leaf_, to_Fork x.Fork_, to_IntS x.Kids_, x.Miss_, to_Stats x.Stats_, x.Since_, to_IntS x.Attrs_, x.Depth_, x.Up_, x.Born_⟩
theorem weighs_Node {x : Tlaws_Node} (hx : fin_Node x) : Weighs laws_szNode szn_Node x := fun s hs => by
  obtain ⟨_, _, h2, _, h4, _, h6, _, _, _⟩ := hx
  unfold laws_szNode szn_Node
  obtain ⟨r, e2, g2⟩ := weighs_IntS h2 (s) (by omega)
  rw [e2]
  simp only [Option.bind_some]
  rcases g2 with ⟨g2, k2⟩ | ⟨g2, rfl⟩
  · rw [if_pos (by simpa using g2)]; exact ⟨_, rfl, .inl ⟨by omega, by omega⟩⟩
  · rw [if_neg (by simp)]
    obtain ⟨r, e4, g4⟩ := weighs_Stats h4 (s - szn_IntS x.Kids_) (by omega)
    rw [e4]
    simp only [Option.bind_some]
    rcases g4 with ⟨g4, k4⟩ | ⟨g4, rfl⟩
    · rw [if_pos (by simpa using g4)]; exact ⟨_, rfl, .inl ⟨by omega, by omega⟩⟩
    · rw [if_neg (by simp)]
      obtain ⟨r, e6, g6⟩ := weighs_IntS h6 (s - szn_IntS x.Kids_ - szn_Stats x.Stats_) (by omega)
      rw [e6]
      simp only [Option.bind_some]
      rcases g6 with ⟨g6, k6⟩ | ⟨g6, rfl⟩
      · rw [if_pos (by simpa using g6)]; exact ⟨_, rfl, .inl ⟨by omega, by omega⟩⟩
      · rw [if_neg (by simp)]
        exact ⟨_, rfl, .inr ⟨by omega, by first | rfl | (congr 1; omega)⟩⟩
theorem to_Node_ok {x : Tlaws_Node} (h : szn_Node x ≤ 1048576) : laws_toNode x = some (to_Node x) := by
  unfold szn_Node at h
  unfold laws_toNode
  rw [to_Fork_ok (x := x.Fork_), to_IntS_ok (x := x.Kids_) (by omega), to_Stats_ok (x := x.Stats_) (by omega), to_IntS_ok (x := x.Attrs_) (by omega)]
  rfl
theorem sml_to_Node {x : Tlaws_Node} (hf : fin_Node x) (h : szn_Node x ≤ 1048576) : sml_Node (to_Node x) := by
  unfold szn_Node at h
  obtain ⟨_, h1, h2, h3, h4, h5, h6, h7, h8, h9⟩ := hf
  exact ⟨trivial, sml_to_Fork h1, sml_to_IntS h2 (show szn_IntS x.Kids_ ≤ 1048576 by omega), i64_of h3, sml_to_Stats h4 (show szn_Stats x.Stats_ ≤ 1048576 by omega), i64_of h5, sml_to_IntS h6 (show szn_IntS x.Attrs_ ≤ 1048576 by omega), i64_of h7, i64_of h8, i64_of h9⟩
def sml_NodeS (x : List Timpl_Node) : Prop := x.length ≤ 1048576 ∧ ∀ y ∈ x, sml_Node y
def len_NodeS (x : List Timpl_Node) : Prop := x.length < 1000000000000 ∧ ∀ y ∈ x, len_Node y
theorem len_of_NodeS {x : List Timpl_Node} (h : sml_NodeS x) : len_NodeS x := ⟨by have := h.1; omega, fun y hy => len_of_Node (h.2 y hy)⟩
theorem eq_NodeS_self {x : List Timpl_Node} (h : len_NodeS x) : laws_eqNodeS x x = some true := by
  unfold laws_eqNodeS
  rw [if_neg (by simp)]
  refine same_loop (p := x) (laws_eqNodeS_L1 x x) (fun e o => (laws_eqNode e e).bind fun y => if (!y) then some false else o) (fun k i => ?_) h.1 (fun y hy o => by rw [eq_Node_self (h.2 y hy)]; rfl)
  show (if _ then _ else _) = _
  cases h : idx x i with
  | none => rfl
  | some e => rfl
def szn_NodeS (x : List Tlaws_Node) : Nat := x.length + (x.map szn_Node).sum
def fin_NodeS (x : List Tlaws_Node) : Prop := x.length ≤ maxLen ∧ ∀ y ∈ x, fin_Node y
theorem weighs_NodeS {x : List Tlaws_Node} (hx : fin_NodeS x) : Weighs laws_szNodeS szn_NodeS x := fun s hs => by
  have h0 := lt63 hx.1
  unfold laws_szNodeS szn_NodeS
  rw [wrap_id (n := (s : Int) - (x.length : Int)) (by omega) (by omega)]
  by_cases h : s < x.length
  · rw [if_pos (by simp; omega)]
    exact ⟨_, rfl, .inl ⟨by omega, by omega⟩⟩
  · rw [if_neg (by simp; omega)]
    have := weigh_loop (p := x) (Z := laws_szNode) (size := szn_Node) (laws_szNodeS_L1 x) (fun _ _ _ => rfl) (by omega) (fun y hy => weighs_Node (hx.2 y hy)) (s - x.length) (by omega)
    rw [show (s : Int) - (x.length : Int) = ((s - x.length : Nat) : Int) by omega]
    obtain ⟨r, h1, h2⟩ := this
    refine ⟨r, h1, ?_⟩
    rcases h2 with ⟨h2, h3⟩ | ⟨h2, h3⟩
    · exact .inl ⟨h2, by omega⟩
    · exact .inr ⟨by omega, by rw [h3]; congr 1; omega⟩
def to_NodeS (x : List Tlaws_Node) : List Timpl_Node := x.map to_Node
theorem to_NodeS_ok {x : List Tlaws_Node} (h : szn_NodeS x ≤ 1048576) : laws_toNodeS x = some (to_NodeS x) := by
  unfold szn_NodeS at h
  unfold laws_toNodeS
  rw [mk_eq _ (by omega)]
  exact copy_loop (F := laws_toNode) (g := to_Node) (laws_toNodeS_L1 x) (fun _ _ _ => rfl) (by omega) (fun y hy => to_Node_ok (by have := mem_sum (f := szn_Node) hy; omega)) _
theorem sml_to_NodeS {x : List Tlaws_Node} (hf : fin_NodeS x) (h : szn_NodeS x ≤ 1048576) : sml_NodeS (to_NodeS x) := by
  unfold szn_NodeS at h
  refine ⟨by show (x.map to_Node).length ≤ _; rw [List.length_map]; omega, fun y hy => ?_⟩
  obtain ⟨b, hb, rfl⟩ := List.mem_map.1 (show y ∈ x.map to_Node from hy)
  exact sml_to_Node (hf.2 b hb) (by have := mem_sum (f := szn_Node) hb; omega)
def sml_Tree (x : Timpl_Tree) : Prop := sml_NodeS x.Nodes_ ∧ (-9223372036854775808 ≤ x.Seen_ ∧ x.Seen_ ≤ 9223372036854775807)
def len_Tree (x : Timpl_Tree) : Prop := len_NodeS x.Nodes_
theorem len_of_Tree {x : Timpl_Tree} (h : sml_Tree x) : len_Tree x := by
  obtain ⟨h0, _⟩ := h
  exact len_of_NodeS h0
theorem eq_Tree_self {x : Timpl_Tree} (h : len_Tree x) : laws_eqTree x x = some true := by
  have h0 : len_NodeS x.Nodes_ := h
  unfold laws_eqTree
  simp [eq_NodeS_self h0]
def szn_Tree (x : Tlaws_Tree) : Nat := szn_NodeS x.Nodes_
def fin_Tree (x : Tlaws_Tree) : Prop := fin_NodeS x.Nodes_ ∧ IntOk .i64 x.Seen_
def to_Tree (x : Tlaws_Tree) : Timpl_Tree := ⟨to_NodeS x.Nodes_, x.Seen_⟩
theorem weighs_Tree {x : Tlaws_Tree} (hx : fin_Tree x) : Weighs laws_szTree szn_Tree x := fun s hs => by
  obtain ⟨h0, _⟩ := hx
  unfold laws_szTree szn_Tree
  obtain ⟨r, e0, g0⟩ := weighs_NodeS h0 (s) (by omega)
  rw [e0]
  simp only [Option.bind_some]
  rcases g0 with ⟨g0, k0⟩ | ⟨g0, rfl⟩
  · rw [if_pos (by simpa using g0)]; exact ⟨_, rfl, .inl ⟨by omega, by omega⟩⟩
  · rw [if_neg (by simp)]
    exact ⟨_, rfl, .inr ⟨by omega, by first | rfl | (congr 1; omega)⟩⟩
theorem to_Tree_ok {x : Tlaws_Tree} (h : szn_Tree x ≤ 1048576) : laws_toTree x = some (to_Tree x) := by
  unfold szn_Tree at h
  unfold laws_toTree
  rw [to_NodeS_ok (x := x.Nodes_) (by omega)]
  rfl
theorem sml_to_Tree {x : Tlaws_Tree} (hf : fin_Tree x) (h : szn_Tree x ≤ 1048576) : sml_Tree (to_Tree x) := by
  unfold szn_Tree at h
  obtain ⟨h0, h1⟩ := hf
  exact ⟨sml_to_NodeS h0 (show szn_NodeS x.Nodes_ ≤ 1048576 by omega), i64_of h1⟩
theorem exact_TreeText {a0 : Tlaws_Schema} {a1 : Tlaws_Tree} (h0 : fin_Schema a0) (h1 : fin_Tree a1) (hs : sml_Schema (to_Schema a0) → sml_Tree (to_Tree a1) → ∃ m, spec_TreeText (to_Schema a0) (to_Tree a1) = some m ∧ impl_TreeText (to_Schema a0) (to_Tree a1) = some m) : laws_FnExactTreeText a0 a1 = some true := by
  unfold laws_FnExactTreeText
  obtain ⟨r, e0, g0⟩ := weighs_Schema h0 (1048576) (by omega)
  have e0 : laws_szSchema a0 1048576 = some r := e0
  rw [e0]
  simp only [Option.bind_some]
  rcases g0 with ⟨g0, _⟩ | ⟨g0, rfl⟩
  · rw [if_pos (by simpa using g0)]
  · rw [if_neg (by simp)]
    obtain ⟨r, e1, g1⟩ := weighs_Tree h1 (1048576 - szn_Schema a0) (by omega)
    rw [e1]
    simp only [Option.bind_some]
    rcases g1 with ⟨g1, _⟩ | ⟨g1, rfl⟩
    · rw [if_pos (by simpa using g1)]
    · rw [if_neg (by simp)]
      have s0 := sml_to_Schema h0 (show szn_Schema a0 ≤ 1048576 by omega)
      have s1 := sml_to_Tree h1 (show szn_Tree a1 ≤ 1048576 by omega)
      rw [to_Schema_ok (x := a0) (by omega), to_Tree_ok (x := a1) (by omega)]
      simp only [Option.bind_some]
      obtain ⟨m, e, e'⟩ := hs s0 s1
      rw [e]
      simp only [Option.bind_some]
      rw [e']
      simp [eq_Schema_self (len_of_Schema s0), eq_Tree_self (len_of_Tree s1)]
end Go.Vk
