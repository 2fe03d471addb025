/- The laws' types: weighed, copied, compared; the rows' frames. Printed by program. -/
import Derived.Test.YthhgdknldbbgoaaGreatRF
import Derived.Test.YthhgdknldbbgoaaGreatVkM
namespace Go.Vk
def sml_IntS (x : List Int) : Prop := x.length ≤ 1048576 ∧ ∀ y ∈ x, (-9223372036854775808 ≤ y ∧ y ≤ 9223372036854775807)
def len_IntS (x : List Int) : Prop := x.length < 1000000000000
theorem len_of_IntS {x : List Int} (h : sml_IntS x) : len_IntS x := by have := h.1; unfold len_IntS; omega
theorem eq_IntS_self {x : List Int} (h : len_IntS x) : laws_eqIntS x x = some true := by
  unfold laws_eqIntS
  rw [if_neg (by simp)]
  refine same_loop (p := x) (laws_eqIntS_L1 x x) (fun _ o => o) (fun k i => ?_) h (fun _ _ _ => rfl)
  show (if _ then _ else _) = _
  cases h : idx x i with
  | none => rfl
  | some e => simp only [Option.bind_some, bne_self_eq_false, Bool.false_eq_true, if_false]
def szn_IntS (x : List Int) : Nat := x.length
def fin_IntS (x : List Int) : Prop := x.length ≤ maxLen ∧ ∀ y ∈ x, IntOk .i64 y
theorem weighs_IntS {x : List Int} (hx : fin_IntS x) : Weighs laws_szIntS szn_IntS x := fun s hs => by
  obtain ⟨r, h1, h2⟩ := weigh_list (p := x) s hs
  exact ⟨r, h1, h2 (lt63 hx.1)⟩
def to_IntS (x : List Int) : List Int := x
theorem to_IntS_ok {x : List Int} (h : szn_IntS x ≤ 1048576) : laws_toIntS x = some (to_IntS x) := by
  unfold szn_IntS at h
  unfold laws_toIntS
  rw [mk_eq _ (by omega)]
  exact (copy_loop (F := some) (g := id) (laws_toIntS_L1 x) (fun _ _ _ => rfl) (by omega) (fun _ _ => rfl) _).trans (by rw [List.map_id]; rfl)
theorem sml_to_IntS {x : List Int} (hf : fin_IntS x) (h : szn_IntS x ≤ 1048576) : sml_IntS (to_IntS x) := by
  unfold szn_IntS at h
  exact ⟨by show x.length ≤ _; omega, fun y hy => i64_of (hf.2 y hy)⟩
def sml_StringS (x : List (List UInt8)) : Prop := x.length ≤ 1048576 ∧ ∀ y ∈ x, y.length ≤ 1048576
def len_StringS (x : List (List UInt8)) : Prop := x.length < 1000000000000
theorem len_of_StringS {x : List (List UInt8)} (h : sml_StringS x) : len_StringS x := by have := h.1; unfold len_StringS; omega
theorem eq_StringS_self {x : List (List UInt8)} (h : len_StringS x) : laws_eqStringS x x = some true := by
  unfold laws_eqStringS
  rw [if_neg (by simp)]
  refine same_loop (p := x) (laws_eqStringS_L1 x x) (fun _ o => o) (fun k i => ?_) h (fun _ _ _ => rfl)
  show (if _ then _ else _) = _
  cases h : idx x i with
  | none => rfl
  | some e => simp only [Option.bind_some, beq_self_eq_true, Bool.not_true, Bool.false_eq_true, if_false]
def szn_StringS (x : List (List UInt8)) : Nat := x.length + (x.map List.length).sum
def fin_StringS (x : List (List UInt8)) : Prop := x.length ≤ maxLen ∧ ∀ y ∈ x, y.length ≤ maxLen
theorem weighs_StringS {x : List (List UInt8)} (hx : fin_StringS x) : Weighs laws_szStringS szn_StringS x := fun s hs => by
  have h0 := lt63 hx.1
  unfold laws_szStringS szn_StringS
  rw [wrap_id (n := (s : Int) - (x.length : Int)) (by omega) (by omega)]
  by_cases h : s < x.length
  · rw [if_pos (by simp; omega)]
    exact ⟨_, rfl, .inl ⟨by omega, by omega⟩⟩
  · rw [if_neg (by simp; omega)]
    have := weigh_loop (p := x) (Z := fun e s => if decide ((IntKind.i64.wrap (s - (e.length : Int))) < 0) then some (-1) else some (IntKind.i64.wrap (s - (e.length : Int)))) (size := List.length) (laws_szStringS_L1 x) (fun k s i => by
      show (if _ then (idx x i).bind _ else _) = _
      cases idx x i with
      | none => rfl
      | some e =>
        simp only [Option.bind_some]
        split
        · by_cases h : IntKind.i64.wrap (s - (e.length : Int)) < 0
          · simp [h]
          · simp [h]
        · rfl) (by omega) (fun y hy s hs => by
      obtain ⟨r, h1, h2⟩ := weigh_list (p := y) s hs
      exact ⟨r, h1, h2 (lt63 (hx.2 y hy))⟩) (s - x.length) (by omega)
    rw [show (s : Int) - (x.length : Int) = ((s - x.length : Nat) : Int) by omega]
    obtain ⟨r, h1, h2⟩ := this
    refine ⟨r, h1, ?_⟩
    rcases h2 with ⟨h2, h3⟩ | ⟨h2, h3⟩
    · exact .inl ⟨h2, by omega⟩
    · exact .inr ⟨by omega, by rw [h3]; congr 1; omega⟩
def to_StringS (x : List (List UInt8)) : List (List UInt8) := x
theorem to_StringS_ok {x : List (List UInt8)} (h : szn_StringS x ≤ 1048576) : laws_toStringS x = some (to_StringS x) := by
  unfold szn_StringS at h
  unfold laws_toStringS
  rw [mk_eq _ (by omega)]
  exact (copy_loop (F := some) (g := id) (laws_toStringS_L1 x) (fun _ _ _ => rfl) (by omega) (fun _ _ => rfl) _).trans (by rw [List.map_id]; rfl)
theorem sml_to_StringS {x : List (List UInt8)} (_ : fin_StringS x) (h : szn_StringS x ≤ 1048576) : sml_StringS (to_StringS x) := by
  unfold szn_StringS at h
  exact ⟨by show x.length ≤ _; omega, fun y hy => by have := mem_sum (f := List.length) (show y ∈ x from hy); omega⟩
def sml_Attr (x : Timpl_Attr) : Prop := x.Name_.length ≤ 1048576 ∧ sml_IntS x.Cuts_ ∧ sml_StringS x.Values_
def len_Attr (x : Timpl_Attr) : Prop := len_IntS x.Cuts_ ∧ len_StringS x.Values_
theorem len_of_Attr {x : Timpl_Attr} (h : sml_Attr x) : len_Attr x := by
  obtain ⟨_, h1, h2⟩ := h
  exact ⟨len_of_IntS h1, len_of_StringS h2⟩
theorem eq_Attr_self {x : Timpl_Attr} (h : len_Attr x) : laws_eqAttr x x = some true := by
  obtain ⟨h1, h2⟩ := h
  unfold laws_eqAttr
  simp [eq_IntS_self h1, eq_StringS_self h2]
def szn_Attr (x : Tlaws_Attr) : Nat := x.Name_.length + szn_IntS x.Cuts_ + szn_StringS x.Values_
def fin_Attr (x : Tlaws_Attr) : Prop := x.Name_.length ≤ maxLen ∧ fin_IntS x.Cuts_ ∧ fin_StringS x.Values_
def to_Attr (x : Tlaws_Attr) : Timpl_Attr := ⟨x.Name_, to_IntS x.Cuts_, to_StringS x.Values_⟩
theorem weighs_Attr {x : Tlaws_Attr} (hx : fin_Attr x) : Weighs laws_szAttr szn_Attr x := fun s hs => by
  obtain ⟨h0, h1, h2⟩ := hx
  unfold laws_szAttr szn_Attr
  have l0 := lt63 h0
  rw [wrap_id (n := ((s : Nat) : Int) - (x.Name_.length : Int)) (by omega) (by omega)]
  by_cases c0 : s < x.Name_.length
  · rw [if_pos (by simp; omega)]; exact ⟨_, rfl, .inl ⟨by omega, by omega⟩⟩
  · rw [if_neg (by simp; omega), show ((s : Nat) : Int) - (x.Name_.length : Int) = ((s - x.Name_.length : Nat) : Int) by omega]
    obtain ⟨r, e1, g1⟩ := weighs_IntS h1 (s - x.Name_.length) (by omega)
    rw [e1]
    simp only [Option.bind_some]
    rcases g1 with ⟨g1, k1⟩ | ⟨g1, rfl⟩
    · rw [if_pos (by simpa using g1)]; exact ⟨_, rfl, .inl ⟨by omega, by omega⟩⟩
    · rw [if_neg (by simp)]
      obtain ⟨r, e2, g2⟩ := weighs_StringS h2 (s - x.Name_.length - szn_IntS x.Cuts_) (by omega)
      rw [e2]
      simp only [Option.bind_some]
      rcases g2 with ⟨g2, k2⟩ | ⟨g2, rfl⟩
      · rw [if_pos (by simpa using g2)]; exact ⟨_, rfl, .inl ⟨by omega, by omega⟩⟩
      · rw [if_neg (by simp)]
        exact ⟨_, rfl, .inr ⟨by omega, by first | rfl | (congr 1; omega)⟩⟩
theorem to_Attr_ok {x : Tlaws_Attr} (h : szn_Attr x ≤ 1048576) : laws_toAttr x = some (to_Attr x) := by
  unfold szn_Attr at h
  unfold laws_toAttr
  rw [to_IntS_ok (x := x.Cuts_) (by omega), to_StringS_ok (x := x.Values_) (by omega)]
  rfl
theorem sml_to_Attr {x : Tlaws_Attr} (hf : fin_Attr x) (h : szn_Attr x ≤ 1048576) : sml_Attr (to_Attr x) := by
  unfold szn_Attr at h
  obtain ⟨_, h1, h2⟩ := hf
  exact ⟨by show x.Name_.length ≤ _; omega, sml_to_IntS h1 (show szn_IntS x.Cuts_ ≤ 1048576 by omega), sml_to_StringS h2 (show szn_StringS x.Values_ ≤ 1048576 by omega)⟩
def sml_AttrS (x : List Timpl_Attr) : Prop := x.length ≤ 1048576 ∧ ∀ y ∈ x, sml_Attr y
def len_AttrS (x : List Timpl_Attr) : Prop := x.length < 1000000000000 ∧ ∀ y ∈ x, len_Attr y
theorem len_of_AttrS {x : List Timpl_Attr} (h : sml_AttrS x) : len_AttrS x := ⟨by have := h.1; omega, fun y hy => len_of_Attr (h.2 y hy)⟩
theorem eq_AttrS_self {x : List Timpl_Attr} (h : len_AttrS x) : laws_eqAttrS x x = some true := by
  unfold laws_eqAttrS
  rw [if_neg (by simp)]
  refine same_loop (p := x) (laws_eqAttrS_L1 x x) (fun e o => (laws_eqAttr e e).bind fun y => if (!y) then some false else o) (fun k i => ?_) h.1 (fun y hy o => by rw [eq_Attr_self (h.2 y hy)]; rfl)
  show (if _ then _ else _) = _
  cases h : idx x i with
  | none => rfl
  | some e => rfl
def szn_AttrS (x : List Tlaws_Attr) : Nat := x.length + (x.map szn_Attr).sum
def fin_AttrS (x : List Tlaws_Attr) : Prop := x.length ≤ maxLen ∧ ∀ y ∈ x, fin_Attr y
theorem weighs_AttrS {x : List Tlaws_Attr} (hx : fin_AttrS x) : Weighs laws_szAttrS szn_AttrS x := fun s hs => by
  have h0 := lt63 hx.1
  unfold laws_szAttrS szn_AttrS
  rw [wrap_id (n := (s : Int) - (x.length : Int)) (by omega) (by omega)]
  by_cases h : s < x.length
  · rw [if_pos (by simp; omega)]
    exact ⟨_, rfl, .inl ⟨by omega, by omega⟩⟩
  · rw [if_neg (by simp; omega)]
    have := weigh_loop (p := x) (Z := laws_szAttr) (size := szn_Attr) (laws_szAttrS_L1 x) (fun _ _ _ => rfl) (by omega) (fun y hy => weighs_Attr (hx.2 y hy)) (s - x.length) (by omega)
    rw [show (s : Int) - (x.length : Int) = ((s - x.length : Nat) : Int) by omega]
    obtain ⟨r, h1, h2⟩ := this
    refine ⟨r, h1, ?_⟩
    rcases h2 with ⟨h2, h3⟩ | ⟨h2, h3⟩
    · exact .inl ⟨h2, by omega⟩
    · exact .inr ⟨by omega, by rw [h3]; congr 1; omega⟩
def to_AttrS (x : List Tlaws_Attr) : List Timpl_Attr := x.map to_Attr
theorem to_AttrS_ok {x : List Tlaws_Attr} (h : szn_AttrS x ≤ 1048576) : laws_toAttrS x = some (to_AttrS x) := by
  unfold szn_AttrS at h
  unfold laws_toAttrS
  rw [mk_eq _ (by omega)]
  exact copy_loop (F := laws_toAttr) (g := to_Attr) (laws_toAttrS_L1 x) (fun _ _ _ => rfl) (by omega) (fun y hy => to_Attr_ok (by have := mem_sum (f := szn_Attr) hy; omega)) _
theorem sml_to_AttrS {x : List Tlaws_Attr} (hf : fin_AttrS x) (h : szn_AttrS x ≤ 1048576) : sml_AttrS (to_AttrS x) := by
  unfold szn_AttrS at h
  refine ⟨by show (x.map to_Attr).length ≤ _; rw [List.length_map]; omega, fun y hy => ?_⟩
  obtain ⟨b, hb, rfl⟩ := List.mem_map.1 (show y ∈ x.map to_Attr from hy)
  exact sml_to_Attr (hf.2 b hb) (by have := mem_sum (f := szn_Attr) hb; omega)
def sml_Schema (x : Timpl_Schema) : Prop := sml_AttrS x.Attrs_ ∧ sml_StringS x.Classes_
def len_Schema (x : Timpl_Schema) : Prop := len_AttrS x.Attrs_ ∧ len_StringS x.Classes_
theorem len_of_Schema {x : Timpl_Schema} (h : sml_Schema x) : len_Schema x := by
  obtain ⟨h0, h1⟩ := h
  exact ⟨len_of_AttrS h0, len_of_StringS h1⟩
theorem eq_Schema_self {x : Timpl_Schema} (h : len_Schema x) : laws_eqSchema x x = some true := by
  obtain ⟨h0, h1⟩ := h
  unfold laws_eqSchema
  simp [eq_AttrS_self h0, eq_StringS_self h1]
def szn_Schema (x : Tlaws_Schema) : Nat := szn_AttrS x.Attrs_ + szn_StringS x.Classes_
def fin_Schema (x : Tlaws_Schema) : Prop := fin_AttrS x.Attrs_ ∧ fin_StringS x.Classes_
def to_Schema (x : Tlaws_Schema) : Timpl_Schema := ⟨to_AttrS x.Attrs_, to_StringS x.Classes_⟩
theorem weighs_Schema {x : Tlaws_Schema} (hx : fin_Schema x) : Weighs laws_szSchema szn_Schema x := fun s hs => by
  obtain ⟨h0, h1⟩ := hx
  unfold laws_szSchema szn_Schema
  obtain ⟨r, e0, g0⟩ := weighs_AttrS h0 (s) (by omega)
  rw [e0]
  simp only [Option.bind_some]
  rcases g0 with ⟨g0, k0⟩ | ⟨g0, rfl⟩
  · rw [if_pos (by simpa using g0)]; exact ⟨_, rfl, .inl ⟨by omega, by omega⟩⟩
  · rw [if_neg (by simp)]
    obtain ⟨r, e1, g1⟩ := weighs_StringS h1 (s - szn_AttrS x.Attrs_) (by omega)
    rw [e1]
    simp only [Option.bind_some]
    rcases g1 with ⟨g1, k1⟩ | ⟨g1, rfl⟩
    · rw [if_pos (by simpa using g1)]; exact ⟨_, rfl, .inl ⟨by omega, by omega⟩⟩
    · rw [if_neg (by simp)]
      exact ⟨_, rfl, .inr ⟨by omega, by first | rfl | (congr 1; omega)⟩⟩
theorem to_Schema_ok {x : Tlaws_Schema} (h : szn_Schema x ≤ 1048576) : laws_toSchema x = some (to_Schema x) := by
  unfold szn_Schema at h
  unfold laws_toSchema
  rw [to_AttrS_ok (x := x.Attrs_) (by omega), to_StringS_ok (x := x.Classes_) (by omega)]
  rfl
theorem sml_to_Schema {x : Tlaws_Schema} (hf : fin_Schema x) (h : szn_Schema x ≤ 1048576) : sml_Schema (to_Schema x) := by
  unfold szn_Schema at h
  obtain ⟨h0, h1⟩ := hf
  exact ⟨sml_to_AttrS h0 (show szn_AttrS x.Attrs_ ≤ 1048576 by omega), sml_to_StringS h1 (show szn_StringS x.Classes_ ≤ 1048576 by omega)⟩
def sml_Rule (x : Timpl_Rule) : Prop := (-9223372036854775808 ≤ x.Sure_ ∧ x.Sure_ ≤ 9223372036854775807) ∧ (-9223372036854775808 ≤ x.Tie_ ∧ x.Tie_ ≤ 9223372036854775807) ∧ (-9223372036854775808 ≤ x.Grace_ ∧ x.Grace_ ≤ 9223372036854775807) ∧ (-9223372036854775808 ≤ x.Depth_ ∧ x.Depth_ ≤ 9223372036854775807) ∧ (-9223372036854775808 ≤ x.Nodes_ ∧ x.Nodes_ ≤ 9223372036854775807) ∧ (-9223372036854775808 ≤ x.Units_ ∧ x.Units_ ≤ 9223372036854775807) ∧ True
def fin_Rule (x : Tlaws_Rule) : Prop := IntOk .i64 x.Sure_ ∧ IntOk .i64 x.Tie_ ∧ IntOk .i64 x.Grace_ ∧ IntOk .i64 x.Depth_ ∧ IntOk .i64 x.Nodes_ ∧ IntOk .i64 x.Units_ ∧ True
def to_Rule (x : Tlaws_Rule) : Timpl_Rule := ⟨x.Sure_, x.Tie_, x.Grace_, x.Depth_, x.Nodes_, x.Units_, x.Two_⟩
theorem to_Rule_ok {x : Tlaws_Rule} : laws_toRule x = some (to_Rule x) := by
  unfold laws_toRule
  rfl
theorem sml_to_Rule {x : Tlaws_Rule} (hf : fin_Rule x) : sml_Rule (to_Rule x) := by
  obtain ⟨h0, h1, h2, h3, h4, h5, _⟩ := hf
  exact ⟨i64_of h0, i64_of h1, i64_of h2, i64_of h3, i64_of h4, i64_of h5, trivial⟩
def sml_Fork (x : Timpl_Fork) : Prop := (-9223372036854775808 ≤ x.Attr_ ∧ x.Attr_ ≤ 9223372036854775807) ∧ (-9223372036854775808 ≤ x.At_ ∧ x.At_ ≤ 9223372036854775807)
theorem eq_Fork_self {x : Timpl_Fork} : laws_eqFork x x = some true := by
  unfold laws_eqFork
  simp
def fin_Fork (x : Tlaws_Fork) : Prop := IntOk .i64 x.Attr_ ∧ IntOk .i64 x.At_
def to_Fork (x : Tlaws_Fork) : Timpl_Fork := ⟨x.Attr_, x.At_⟩
theorem to_Fork_ok {x : Tlaws_Fork} : laws_toFork x = some (to_Fork x) := by
  unfold laws_toFork
  rfl
theorem sml_to_Fork {x : Tlaws_Fork} (hf : fin_Fork x) : sml_Fork (to_Fork x) := by
  obtain ⟨h0, h1⟩ := hf
  exact ⟨i64_of h0, i64_of h1⟩
def sml_IntSS (x : List (List Int)) : Prop := x.length ≤ 1048576 ∧ ∀ y ∈ x, sml_IntS y
def len_IntSS (x : List (List Int)) : Prop := x.length < 1000000000000 ∧ ∀ y ∈ x, len_IntS y
theorem len_of_IntSS {x : List (List Int)} (h : sml_IntSS x) : len_IntSS x := ⟨by have := h.1; omega, fun y hy => len_of_IntS (h.2 y hy)⟩
theorem eq_IntSS_self {x : List (List Int)} (h : len_IntSS x) : laws_eqIntSS x x = some true := by
  unfold laws_eqIntSS
  rw [if_neg (by simp)]
  refine same_loop (p := x) (laws_eqIntSS_L1 x x) (fun e o => (laws_eqIntS e e).bind fun y => if (!y) then some false else o) (fun k i => ?_) h.1 (fun y hy o => by rw [eq_IntS_self (h.2 y hy)]; rfl)
  show (if _ then _ else _) = _
  cases h : idx x i with
  | none => rfl
  | some e => rfl
def szn_IntSS (x : List (List Int)) : Nat := x.length + (x.map szn_IntS).sum
def fin_IntSS (x : List (List Int)) : Prop := x.length ≤ maxLen ∧ ∀ y ∈ x, fin_IntS y
theorem weighs_IntSS {x : List (List Int)} (hx : fin_IntSS x) : Weighs laws_szIntSS szn_IntSS x := fun s hs => by
  have h0 := lt63 hx.1
  unfold laws_szIntSS szn_IntSS
  rw [wrap_id (n := (s : Int) - (x.length : Int)) (by omega) (by omega)]
  by_cases h : s < x.length
  · rw [if_pos (by simp; omega)]
    exact ⟨_, rfl, .inl ⟨by omega, by omega⟩⟩
  · rw [if_neg (by simp; omega)]
    have := weigh_loop (p := x) (Z := laws_szIntS) (size := szn_IntS) (laws_szIntSS_L1 x) (fun _ _ _ => rfl) (by omega) (fun y hy => weighs_IntS (hx.2 y hy)) (s - x.length) (by omega)
    rw [show (s : Int) - (x.length : Int) = ((s - x.length : Nat) : Int) by omega]
    obtain ⟨r, h1, h2⟩ := this
    refine ⟨r, h1, ?_⟩
    rcases h2 with ⟨h2, h3⟩ | ⟨h2, h3⟩
    · exact .inl ⟨h2, by omega⟩
    · exact .inr ⟨by omega, by rw [h3]; congr 1; omega⟩
def to_IntSS (x : List (List Int)) : List (List Int) := x.map to_IntS
theorem to_IntSS_ok {x : List (List Int)} (h : szn_IntSS x ≤ 1048576) : laws_toIntSS x = some (to_IntSS x) := by
  unfold szn_IntSS at h
  unfold laws_toIntSS
  rw [mk_eq _ (by omega)]
  exact copy_loop (F := laws_toIntS) (g := to_IntS) (laws_toIntSS_L1 x) (fun _ _ _ => rfl) (by omega) (fun y hy => to_IntS_ok (by have := mem_sum (f := szn_IntS) hy; omega)) _
theorem sml_to_IntSS {x : List (List Int)} (hf : fin_IntSS x) (h : szn_IntSS x ≤ 1048576) : sml_IntSS (to_IntSS x) := by
  unfold szn_IntSS at h
  refine ⟨by show (x.map to_IntS).length ≤ _; rw [List.length_map]; omega, fun y hy => ?_⟩
  obtain ⟨b, hb, rfl⟩ := List.mem_map.1 (show y ∈ x.map to_IntS from hy)
  exact sml_to_IntS (hf.2 b hb) (by have := mem_sum (f := szn_IntS) hb; omega)
def sml_Stats (x : Timpl_Stats) : Prop := sml_IntS x.Totals_ ∧ sml_IntSS x.Cells_
def len_Stats (x : Timpl_Stats) : Prop := len_IntS x.Totals_ ∧ len_IntSS x.Cells_
theorem len_of_Stats {x : Timpl_Stats} (h : sml_Stats x) : len_Stats x := by
  obtain ⟨h0, h1⟩ := h
  exact ⟨len_of_IntS h0, len_of_IntSS h1⟩
theorem eq_Stats_self {x : Timpl_Stats} (h : len_Stats x) : laws_eqStats x x = some true := by
  obtain ⟨h0, h1⟩ := h
  unfold laws_eqStats
  simp [eq_IntS_self h0, eq_IntSS_self h1]
def szn_Stats (x : Tlaws_Stats) : Nat := szn_IntS x.Totals_ + szn_IntSS x.Cells_
def fin_Stats (x : Tlaws_Stats) : Prop := fin_IntS x.Totals_ ∧ fin_IntSS x.Cells_
def to_Stats (x : Tlaws_Stats) : Timpl_Stats := ⟨to_IntS x.Totals_, to_IntSS x.Cells_⟩
theorem weighs_Stats {x : Tlaws_Stats} (hx : fin_Stats x) : Weighs laws_szStats szn_Stats x := fun s hs => by
  obtain ⟨h0, h1⟩ := hx
  unfold laws_szStats szn_Stats
  obtain ⟨r, e0, g0⟩ := weighs_IntS h0 (s) (by omega)
  rw [e0]
  simp only [Option.bind_some]
  rcases g0 with ⟨g0, k0⟩ | ⟨g0, rfl⟩
  · rw [if_pos (by simpa using g0)]; exact ⟨_, rfl, .inl ⟨by omega, by omega⟩⟩
  · rw [if_neg (by simp)]
    obtain ⟨r, e1, g1⟩ := weighs_IntSS h1 (s - szn_IntS x.Totals_) (by omega)
    rw [e1]
    simp only [Option.bind_some]
    rcases g1 with ⟨g1, k1⟩ | ⟨g1, rfl⟩
    · rw [if_pos (by simpa using g1)]; exact ⟨_, rfl, .inl ⟨by omega, by omega⟩⟩
    · rw [if_neg (by simp)]
      exact ⟨_, rfl, .inr ⟨by omega, by first | rfl | (congr 1; omega)⟩⟩
theorem to_Stats_ok {x : Tlaws_Stats} (h : szn_Stats x ≤ 1048576) : laws_toStats x = some (to_Stats x) := by
  unfold szn_Stats at h
  unfold laws_toStats
  rw [to_IntS_ok (x := x.Totals_) (by omega), to_IntSS_ok (x := x.Cells_) (by omega)]
  rfl
theorem sml_to_Stats {x : Tlaws_Stats} (hf : fin_Stats x) (h : szn_Stats x ≤ 1048576) : sml_Stats (to_Stats x) := by
  unfold szn_Stats at h
  obtain ⟨h0, h1⟩ := hf
  exact ⟨sml_to_IntS h0 (show szn_IntS x.Totals_ ≤ 1048576 by omega), sml_to_IntSS h1 (show szn_IntSS x.Cells_ ≤ 1048576 by omega)⟩
def sml_Node (x : Timpl_Node) : Prop := True ∧ sml_Fork x.Fork_ ∧ sml_IntS x.Kids_ ∧ (-9223372036854775808 ≤ x.Miss_ ∧ x.Miss_ ≤ 9223372036854775807) ∧ sml_Stats x.Stats_ ∧ (-9223372036854775808 ≤ x.Since_ ∧ x.Since_ ≤ 9223372036854775807) ∧ sml_IntS x.Attrs_ ∧ (-9223372036854775808 ≤ x.Depth_ ∧ x.Depth_ ≤ 9223372036854775807) ∧ (-9223372036854775808 ≤ x.Up_ ∧ x.Up_ ≤ 9223372036854775807) ∧ (-9223372036854775808 ≤ x.Born_ ∧ x.Born_ ≤ 9223372036854775807)
def len_Node (x : Timpl_Node) : Prop := len_IntS x.Kids_ ∧ len_Stats x.Stats_ ∧ len_IntS x.Attrs_
theorem len_of_Node {x : Timpl_Node} (h : sml_Node x) : len_Node x := by
  obtain ⟨_, _, h2, _, h4, _, h6, _, _, _⟩ := h
  exact ⟨len_of_IntS h2, len_of_Stats h4, len_of_IntS h6⟩
theorem eq_Node_self {x : Timpl_Node} (h : len_Node x) : laws_eqNode x x = some true := by
  obtain ⟨h2, h4, h6⟩ := h
  unfold laws_eqNode
  simp [eq_Fork_self (x := x.Fork_), eq_IntS_self h2, eq_Stats_self h4, eq_IntS_self h6]
def szn_Node (x : Tlaws_Node) : Nat := szn_IntS x.Kids_ + szn_Stats x.Stats_ + szn_IntS x.Attrs_
def fin_Node (x : Tlaws_Node) : Prop := True ∧ fin_Fork x.Fork_ ∧ fin_IntS x.Kids_ ∧ IntOk .i64 x.Miss_ ∧ fin_Stats x.Stats_ ∧ IntOk .i64 x.Since_ ∧ fin_IntS x.Attrs_ ∧ IntOk .i64 x.Depth_ ∧ IntOk .i64 x.Up_ ∧ IntOk .i64 x.Born_
def to_Node (x : Tlaws_Node) : Timpl_Node := ⟨x.Leaf_, to_Fork x.Fork_, to_IntS x.Kids_, x.Miss_, to_Stats x.Stats_, x.Since_, to_IntS x.Attrs_, x.Depth_, x.Up_, x.Born_⟩
theorem weighs_Node {x : Tlaws_Node} (hx : fin_Node x) : Weighs laws_szNode szn_Node x := fun s hs => by
  obtain ⟨_, _, h2, _, h4, _, h6, _, _, _⟩ := hx
  unfold laws_szNode szn_Node
  obtain ⟨r, e2, g2⟩ := weighs_IntS h2 (s) (by omega)
  rw [e2]
  simp only [Option.bind_some]
  rcases g2 with ⟨g2, k2⟩ | ⟨g2, rfl⟩
  · rw [if_pos (by simpa using g2)]; exact ⟨_, rfl, .inl ⟨by omega, by omega⟩⟩
  · rw [if_neg (by simp)]
    obtain ⟨r, e4, g4⟩ := weighs_Stats h4 (s - szn_IntS x.Kids_) (by omega)
    rw [e4]
    simp only [Option.bind_some]
    rcases g4 with ⟨g4, k4⟩ | ⟨g4, rfl⟩
    · rw [if_pos (by simpa using g4)]; exact ⟨_, rfl, .inl ⟨by omega, by omega⟩⟩
    · rw [if_neg (by simp)]
      obtain ⟨r, e6, g6⟩ := weighs_IntS h6 (s - szn_IntS x.Kids_ - szn_Stats x.Stats_) (by omega)
      rw [e6]
      simp only [Option.bind_some]
      rcases g6 with ⟨g6, k6⟩ | ⟨g6, rfl⟩
      · rw [if_pos (by simpa using g6)]; exact ⟨_, rfl, .inl ⟨by omega, by omega⟩⟩
      · rw [if_neg (by simp)]
        exact ⟨_, rfl, .inr ⟨by omega, by first | rfl | (congr 1; omega)⟩⟩
theorem to_Node_ok {x : Tlaws_Node} (h : szn_Node x ≤ 1048576) : laws_toNode x = some (to_Node x) := by
  unfold szn_Node at h
  unfold laws_toNode
  rw [to_Fork_ok (x := x.Fork_), to_IntS_ok (x := x.Kids_) (by omega), to_Stats_ok (x := x.Stats_) (by omega), to_IntS_ok (x := x.Attrs_) (by omega)]
  rfl
theorem sml_to_Node {x : Tlaws_Node} (hf : fin_Node x) (h : szn_Node x ≤ 1048576) : sml_Node (to_Node x) := by
  unfold szn_Node at h
  obtain ⟨_, h1, h2, h3, h4, h5, h6, h7, h8, h9⟩ := hf
  exact ⟨trivial, sml_to_Fork h1, sml_to_IntS h2 (show szn_IntS x.Kids_ ≤ 1048576 by omega), i64_of h3, sml_to_Stats h4 (show szn_Stats x.Stats_ ≤ 1048576 by omega), i64_of h5, sml_to_IntS h6 (show szn_IntS x.Attrs_ ≤ 1048576 by omega), i64_of h7, i64_of h8, i64_of h9⟩
def sml_NodeS (x : List Timpl_Node) : Prop := x.length ≤ 1048576 ∧ ∀ y ∈ x, sml_Node y
def len_NodeS (x : List Timpl_Node) : Prop := x.length < 1000000000000 ∧ ∀ y ∈ x, len_Node y
theorem len_of_NodeS {x : List Timpl_Node} (h : sml_NodeS x) : len_NodeS x := ⟨by have := h.1; omega, fun y hy => len_of_Node (h.2 y hy)⟩
theorem eq_NodeS_self {x : List Timpl_Node} (h : len_NodeS x) : laws_eqNodeS x x = some true := by
  unfold laws_eqNodeS
  rw [if_neg (by simp)]
  refine same_loop (p := x) (laws_eqNodeS_L1 x x) (fun e o => (laws_eqNode e e).bind fun y => if (!y) then some false else o) (fun k i => ?_) h.1 (fun y hy o => by rw [eq_Node_self (h.2 y hy)]; rfl)
  show (if _ then _ else _) = _
  cases h : idx x i with
  | none => rfl
  | some e => rfl
def szn_NodeS (x : List Tlaws_Node) : Nat := x.length + (x.map szn_Node).sum
def fin_NodeS (x : List Tlaws_Node) : Prop := x.length ≤ maxLen ∧ ∀ y ∈ x, fin_Node y
theorem weighs_NodeS {x : List Tlaws_Node} (hx : fin_NodeS x) : Weighs laws_szNodeS szn_NodeS x := fun s hs => by
  have h0 := lt63 hx.1
  unfold laws_szNodeS szn_NodeS
  rw [wrap_id (n := (s : Int) - (x.length : Int)) (by omega) (by omega)]
  by_cases h : s < x.length
  · rw [if_pos (by simp; omega)]
    exact ⟨_, rfl, .inl ⟨by omega, by omega⟩⟩
  · rw [if_neg (by simp; omega)]
    have := weigh_loop (p := x) (Z := laws_szNode) (size := szn_Node) (laws_szNodeS_L1 x) (fun _ _ _ => rfl) (by omega) (fun y hy => weighs_Node (hx.2 y hy)) (s - x.length) (by omega)
    rw [show (s : Int) - (x.length : Int) = ((s - x.length : Nat) : Int) by omega]
    obtain ⟨r, h1, h2⟩ := this
    refine ⟨r, h1, ?_⟩
    rcases h2 with ⟨h2, h3⟩ | ⟨h2, h3⟩
    · exact .inl ⟨h2, by omega⟩
    · exact .inr ⟨by omega, by rw [h3]; congr 1; omega⟩
def to_NodeS (x : List Tlaws_Node) : List Timpl_Node := x.map to_Node
theorem to_NodeS_ok {x : List Tlaws_Node} (h : szn_NodeS x ≤ 1048576) : laws_toNodeS x = some (to_NodeS x) := by
  unfold szn_NodeS at h
  unfold laws_toNodeS
  rw [mk_eq _ (by omega)]
  exact copy_loop (F := laws_toNode) (g := to_Node) (laws_toNodeS_L1 x) (fun _ _ _ => rfl) (by omega) (fun y hy => to_Node_ok (by have := mem_sum (f := szn_Node) hy; omega)) _
theorem sml_to_NodeS {x : List Tlaws_Node} (hf : fin_NodeS x) (h : szn_NodeS x ≤ 1048576) : sml_NodeS (to_NodeS x) := by
  unfold szn_NodeS at h
  refine ⟨by show (x.map to_Node).length ≤ _; rw [List.length_map]; omega, fun y hy => ?_⟩
  obtain ⟨b, hb, rfl⟩ := List.mem_map.1 (show y ∈ x.map to_Node from hy)
  exact sml_to_Node (hf.2 b hb) (by have := mem_sum (f := szn_Node) hb; omega)
def sml_Tree (x : Timpl_Tree) : Prop := sml_NodeS x.Nodes_ ∧ (-9223372036854775808 ≤ x.Seen_ ∧ x.Seen_ ≤ 9223372036854775807)
def len_Tree (x : Timpl_Tree) : Prop := len_NodeS x.Nodes_
theorem len_of_Tree {x : Timpl_Tree} (h : sml_Tree x) : len_Tree x := by
  obtain ⟨h0, _⟩ := h
  exact len_of_NodeS h0
theorem eq_Tree_self {x : Timpl_Tree} (h : len_Tree x) : laws_eqTree x x = some true := by
  have h0 : len_NodeS x.Nodes_ := h
  unfold laws_eqTree
  simp [eq_NodeS_self h0]
def szn_Tree (x : Tlaws_Tree) : Nat := szn_NodeS x.Nodes_
def fin_Tree (x : Tlaws_Tree) : Prop := fin_NodeS x.Nodes_ ∧ IntOk .i64 x.Seen_
def to_Tree (x : Tlaws_Tree) : Timpl_Tree := ⟨to_NodeS x.Nodes_, x.Seen_⟩
theorem weighs_Tree {x : Tlaws_Tree} (hx : fin_Tree x) : Weighs laws_szTree szn_Tree x := fun s hs => by
  obtain ⟨h0, _⟩ := hx
  unfold laws_szTree szn_Tree
  obtain ⟨r, e0, g0⟩ := weighs_NodeS h0 (s) (by omega)
  rw [e0]
  simp only [Option.bind_some]
  rcases g0 with ⟨g0, k0⟩ | ⟨g0, rfl⟩
  · rw [if_pos (by simpa using g0)]; exact ⟨_, rfl, .inl ⟨by omega, by omega⟩⟩
  · rw [if_neg (by simp)]
    exact ⟨_, rfl, .inr ⟨by omega, by first | rfl | (congr 1; omega)⟩⟩
theorem to_Tree_ok {x : Tlaws_Tree} (h : szn_Tree x ≤ 1048576) : laws_toTree x = some (to_Tree x) := by
  unfold szn_Tree at h
  unfold laws_toTree
  rw [to_NodeS_ok (x := x.Nodes_) (by omega)]
  rfl
theorem sml_to_Tree {x : Tlaws_Tree} (hf : fin_Tree x) (h : szn_Tree x ≤ 1048576) : sml_Tree (to_Tree x) := by
  unfold szn_Tree at h
  obtain ⟨h0, h1⟩ := hf
  exact ⟨sml_to_NodeS h0 (show szn_NodeS x.Nodes_ ≤ 1048576 by omega), i64_of h1⟩
def sml_Ex (x : Timpl_Ex) : Prop := sml_IntS x.Bins_ ∧ (-9223372036854775808 ≤ x.Class_ ∧ x.Class_ ≤ 9223372036854775807)
def len_Ex (x : Timpl_Ex) : Prop := len_IntS x.Bins_
theorem len_of_Ex {x : Timpl_Ex} (h : sml_Ex x) : len_Ex x := by
  obtain ⟨h0, _⟩ := h
  exact len_of_IntS h0
theorem eq_Ex_self {x : Timpl_Ex} (h : len_Ex x) : laws_eqEx x x = some true := by
  have h0 : len_IntS x.Bins_ := h
  unfold laws_eqEx
  simp [eq_IntS_self h0]
def szn_Ex (x : Tlaws_Ex) : Nat := szn_IntS x.Bins_
def fin_Ex (x : Tlaws_Ex) : Prop := fin_IntS x.Bins_ ∧ IntOk .i64 x.Class_
def to_Ex (x : Tlaws_Ex) : Timpl_Ex := ⟨to_IntS x.Bins_, x.Class_⟩
theorem weighs_Ex {x : Tlaws_Ex} (hx : fin_Ex x) : Weighs laws_szEx szn_Ex x := fun s hs => by
  obtain ⟨h0, _⟩ := hx
  unfold laws_szEx szn_Ex
  obtain ⟨r, e0, g0⟩ := weighs_IntS h0 (s) (by omega)
  rw [e0]
  simp only [Option.bind_some]
  rcases g0 with ⟨g0, k0⟩ | ⟨g0, rfl⟩
  · rw [if_pos (by simpa using g0)]; exact ⟨_, rfl, .inl ⟨by omega, by omega⟩⟩
  · rw [if_neg (by simp)]
    exact ⟨_, rfl, .inr ⟨by omega, by first | rfl | (congr 1; omega)⟩⟩
theorem to_Ex_ok {x : Tlaws_Ex} (h : szn_Ex x ≤ 1048576) : laws_toEx x = some (to_Ex x) := by
  unfold szn_Ex at h
  unfold laws_toEx
  rw [to_IntS_ok (x := x.Bins_) (by omega)]
  rfl
theorem sml_to_Ex {x : Tlaws_Ex} (hf : fin_Ex x) (h : szn_Ex x ≤ 1048576) : sml_Ex (to_Ex x) := by
  unfold szn_Ex at h
  obtain ⟨h0, h1⟩ := hf
  exact ⟨sml_to_IntS h0 (show szn_IntS x.Bins_ ≤ 1048576 by omega), i64_of h1⟩
def sml_Entry (x : Timpl_Entry) : Prop := sml_Ex x.Ex_ ∧ (-9223372036854775808 ≤ x.Weight_ ∧ x.Weight_ ≤ 9223372036854775807)
def len_Entry (x : Timpl_Entry) : Prop := len_Ex x.Ex_
theorem len_of_Entry {x : Timpl_Entry} (h : sml_Entry x) : len_Entry x := by
  obtain ⟨h0, _⟩ := h
  exact len_of_Ex h0
theorem eq_Entry_self {x : Timpl_Entry} (h : len_Entry x) : laws_eqEntry x x = some true := by
  have h0 : len_Ex x.Ex_ := h
  unfold laws_eqEntry
  simp [eq_Ex_self h0]
def szn_Entry (x : Tlaws_Entry) : Nat := szn_Ex x.Ex_
def fin_Entry (x : Tlaws_Entry) : Prop := fin_Ex x.Ex_ ∧ IntOk .i64 x.Weight_
def to_Entry (x : Tlaws_Entry) : Timpl_Entry := ⟨to_Ex x.Ex_, x.Weight_⟩
theorem weighs_Entry {x : Tlaws_Entry} (hx : fin_Entry x) : Weighs laws_szEntry szn_Entry x := fun s hs => by
  obtain ⟨h0, _⟩ := hx
  unfold laws_szEntry szn_Entry
  obtain ⟨r, e0, g0⟩ := weighs_Ex h0 (s) (by omega)
  rw [e0]
  simp only [Option.bind_some]
  rcases g0 with ⟨g0, k0⟩ | ⟨g0, rfl⟩
  · rw [if_pos (by simpa using g0)]; exact ⟨_, rfl, .inl ⟨by omega, by omega⟩⟩
  · rw [if_neg (by simp)]
    exact ⟨_, rfl, .inr ⟨by omega, by first | rfl | (congr 1; omega)⟩⟩
theorem to_Entry_ok {x : Tlaws_Entry} (h : szn_Entry x ≤ 1048576) : laws_toEntry x = some (to_Entry x) := by
  unfold szn_Entry at h
  unfold laws_toEntry
  rw [to_Ex_ok (x := x.Ex_) (by omega)]
  rfl
theorem sml_to_Entry {x : Tlaws_Entry} (hf : fin_Entry x) (h : szn_Entry x ≤ 1048576) : sml_Entry (to_Entry x) := by
  unfold szn_Entry at h
  obtain ⟨h0, h1⟩ := hf
  exact ⟨sml_to_Ex h0 (show szn_Ex x.Ex_ ≤ 1048576 by omega), i64_of h1⟩
def sml_EntryS (x : List Timpl_Entry) : Prop := x.length ≤ 1048576 ∧ ∀ y ∈ x, sml_Entry y
def len_EntryS (x : List Timpl_Entry) : Prop := x.length < 1000000000000 ∧ ∀ y ∈ x, len_Entry y
theorem len_of_EntryS {x : List Timpl_Entry} (h : sml_EntryS x) : len_EntryS x := ⟨by have := h.1; omega, fun y hy => len_of_Entry (h.2 y hy)⟩
theorem eq_EntryS_self {x : List Timpl_Entry} (h : len_EntryS x) : laws_eqEntryS x x = some true := by
  unfold laws_eqEntryS
  rw [if_neg (by simp)]
  refine same_loop (p := x) (laws_eqEntryS_L1 x x) (fun e o => (laws_eqEntry e e).bind fun y => if (!y) then some false else o) (fun k i => ?_) h.1 (fun y hy o => by rw [eq_Entry_self (h.2 y hy)]; rfl)
  show (if _ then _ else _) = _
  cases h : idx x i with
  | none => rfl
  | some e => rfl
def szn_EntryS (x : List Tlaws_Entry) : Nat := x.length + (x.map szn_Entry).sum
def fin_EntryS (x : List Tlaws_Entry) : Prop := x.length ≤ maxLen ∧ ∀ y ∈ x, fin_Entry y
theorem weighs_EntryS {x : List Tlaws_Entry} (hx : fin_EntryS x) : Weighs laws_szEntryS szn_EntryS x := fun s hs => by
  have h0 := lt63 hx.1
  unfold laws_szEntryS szn_EntryS
  rw [wrap_id (n := (s : Int) - (x.length : Int)) (by omega) (by omega)]
  by_cases h : s < x.length
  · rw [if_pos (by simp; omega)]
    exact ⟨_, rfl, .inl ⟨by omega, by omega⟩⟩
  · rw [if_neg (by simp; omega)]
    have := weigh_loop (p := x) (Z := laws_szEntry) (size := szn_Entry) (laws_szEntryS_L1 x) (fun _ _ _ => rfl) (by omega) (fun y hy => weighs_Entry (hx.2 y hy)) (s - x.length) (by omega)
    rw [show (s : Int) - (x.length : Int) = ((s - x.length : Nat) : Int) by omega]
    obtain ⟨r, h1, h2⟩ := this
    refine ⟨r, h1, ?_⟩
    rcases h2 with ⟨h2, h3⟩ | ⟨h2, h3⟩
    · exact .inl ⟨h2, by omega⟩
    · exact .inr ⟨by omega, by rw [h3]; congr 1; omega⟩
def to_EntryS (x : List Tlaws_Entry) : List Timpl_Entry := x.map to_Entry
theorem to_EntryS_ok {x : List Tlaws_Entry} (h : szn_EntryS x ≤ 1048576) : laws_toEntryS x = some (to_EntryS x) := by
  unfold szn_EntryS at h
  unfold laws_toEntryS
  rw [mk_eq _ (by omega)]
  exact copy_loop (F := laws_toEntry) (g := to_Entry) (laws_toEntryS_L1 x) (fun _ _ _ => rfl) (by omega) (fun y hy => to_Entry_ok (by have := mem_sum (f := szn_Entry) hy; omega)) _
theorem sml_to_EntryS {x : List Tlaws_Entry} (hf : fin_EntryS x) (h : szn_EntryS x ≤ 1048576) : sml_EntryS (to_EntryS x) := by
  unfold szn_EntryS at h
  refine ⟨by show (x.map to_Entry).length ≤ _; rw [List.length_map]; omega, fun y hy => ?_⟩
  obtain ⟨b, hb, rfl⟩ := List.mem_map.1 (show y ∈ x.map to_Entry from hy)
  exact sml_to_Entry (hf.2 b hb) (by have := mem_sum (f := szn_Entry) hb; omega)
theorem exact_TreeTrue {a0 : Tlaws_Schema} {a1 : Tlaws_Rule} {a2 : Tlaws_Tree} {a3 : List Tlaws_Entry} (h0 : fin_Schema a0) (h1 : fin_Rule a1) (h2 : fin_Tree a2) (h3 : fin_EntryS a3) (hs : sml_Schema (to_Schema a0) → sml_Rule (to_Rule a1) → sml_Tree (to_Tree a2) → sml_EntryS (to_EntryS a3) → ∃ m, spec_TreeTrue (to_Schema a0) (to_Rule a1) (to_Tree a2) (to_EntryS a3) = some m ∧ impl_TreeTrue (to_Schema a0) (to_Rule a1) (to_Tree a2) (to_EntryS a3) = some m) : laws_FnExactTreeTrue a0 a1 a2 a3 = some true := by
  unfold laws_FnExactTreeTrue
  obtain ⟨r, e0, g0⟩ := weighs_Schema h0 (1048576) (by omega)
  have e0 : laws_szSchema a0 1048576 = some r := e0
  rw [e0]
  simp only [Option.bind_some]
  rcases g0 with ⟨g0, _⟩ | ⟨g0, rfl⟩
  · rw [if_pos (by simpa using g0)]
  · rw [if_neg (by simp)]
    obtain ⟨r, e2, g2⟩ := weighs_Tree h2 (1048576 - szn_Schema a0) (by omega)
    rw [e2]
    simp only [Option.bind_some]
    rcases g2 with ⟨g2, _⟩ | ⟨g2, rfl⟩
    · rw [if_pos (by simpa using g2)]
    · rw [if_neg (by simp)]
      obtain ⟨r, e3, g3⟩ := weighs_EntryS h3 (1048576 - szn_Schema a0 - szn_Tree a2) (by omega)
      rw [e3]
      simp only [Option.bind_some]
      rcases g3 with ⟨g3, _⟩ | ⟨g3, rfl⟩
      · rw [if_pos (by simpa using g3)]
      · rw [if_neg (by simp)]
        have s0 := sml_to_Schema h0 (show szn_Schema a0 ≤ 1048576 by omega)
        have s1 := sml_to_Rule h1
        have s2 := sml_to_Tree h2 (show szn_Tree a2 ≤ 1048576 by omega)
        have s3 := sml_to_EntryS h3 (show szn_EntryS a3 ≤ 1048576 by omega)
        rw [to_Schema_ok (x := a0) (by omega), to_Rule_ok (x := a1), to_Tree_ok (x := a2) (by omega), to_EntryS_ok (x := a3) (by omega)]
        simp only [Option.bind_some]
        obtain ⟨m, e, e'⟩ := hs s0 s1 s2 s3
        rw [e]
        simp only [Option.bind_some]
        rw [e']
        simp [eq_Schema_self (len_of_Schema s0), eq_Tree_self (len_of_Tree s2), eq_EntryS_self (len_of_EntryS s3)]
end Go.Vk
/- Words, cuts, attributes: tested alike. -/
namespace Go.Vk
def WordP (w : List UInt8) : Prop := (1 ≤ (w.length : Int) ∧ (w.length : Int) ≤ 8) ∧ ∀ i, 0 ≤ i → (h : i < w.length) → 97 ≤ (w[i]).toNat ∧ (w[i]).toNat ≤ 122
theorem specWord {w : List UInt8} (hw : w.length < 1000000000000) : Dec (spec_WordOk w) (WordP w) := by
  unfold spec_WordOk spec_l1In WordP
  simp only [Option.bind_some]
  by_cases h : 1 ≤ (w.length : Int) ∧ (w.length : Int) ≤ 8
  · rw [in_t h]
    simp only [Bool.not_true, Bool.false_eq_true, if_false]
    refine (all_idx (Lp := spec_WordOk_L1 w) (n := w.length) (Q := fun i => ∀ h : i < w.length, 97 ≤ (w[i]).toNat ∧ (w[i]).toNat ≤ 122) 0 (fun k i hi => ?_) (fun k i _ hi => ?_) hw).of_iff ⟨fun g => ⟨h, fun i h0 h1 => g i h0 h1 h1⟩, fun g i h0 h1 _ => g.2 i h0 h1⟩
    · show (if _ then _ else _) = _
      rw [if_neg (by simp; omega)]
    · rw [spec_WordOk_L1]
      rw [if_pos (by simp; omega), idx_lt hi, wrap_succ (by omega)]
      simp only [Option.bind_some]
      by_cases h1 : ((w[i]).toNat : Int) < 97
      · rw [if_pos (by simpa using h1)]
        exact .inr ⟨fun g => by have := g hi; omega, rfl⟩
      · rw [if_neg (by simpa using h1)]
        simp only [Option.bind_some]
        by_cases h2 : ((w[i]).toNat : Int) > 122
        · rw [if_pos (by simpa using h2)]
          exact .inr ⟨fun g => by have := g hi; omega, rfl⟩
        · rw [if_neg (by simpa using h2)]
          exact .inl ⟨fun _ => ⟨by omega, by omega⟩, rfl⟩
  · rw [in_f h]
    exact dec_f fun g => h g.1
theorem implWord {w : List UInt8} (hw : w.length < 1000000000000) : Dec (impl_WordOk w) (WordP w) := by
  unfold impl_WordOk impl_within WordP
  simp only [Option.bind_some]
  by_cases h : 1 ≤ (w.length : Int) ∧ (w.length : Int) ≤ 8
  · rw [in_t h]
    simp only [Bool.not_true, Bool.false_eq_true, if_false]
    refine (all_idx (Lp := impl_WordOk_L1 w) (n := w.length) (Q := fun i => ∀ h : i < w.length, 97 ≤ (w[i]).toNat ∧ (w[i]).toNat ≤ 122) 0 (fun k i hi => ?_) (fun k i _ hi => ?_) hw).of_iff ⟨fun g => ⟨h, fun i h0 h1 => g i h0 h1 h1⟩, fun g i h0 h1 _ => g.2 i h0 h1⟩
    · show (if _ then _ else _) = _
      rw [if_neg (by simp; omega)]
    · rw [impl_WordOk_L1]
      rw [if_pos (by simp; omega), idx_lt hi, wrap_succ (by omega)]
      simp only [Option.bind_some]
      by_cases h1 : ((w[i]).toNat : Int) < 97
      · rw [if_pos (by simpa using h1)]
        exact .inr ⟨fun g => by have := g hi; omega, rfl⟩
      · rw [if_neg (by simpa using h1)]
        simp only [Option.bind_some]
        by_cases h2 : ((w[i]).toNat : Int) > 122
        · rw [if_pos (by simpa using h2)]
          exact .inr ⟨fun g => by have := g hi; omega, rfl⟩
        · rw [if_neg (by simpa using h2)]
          exact .inl ⟨fun _ => ⟨by omega, by omega⟩, rfl⟩
  · rw [in_f h]
    exact dec_f fun g => h g.1
/-- each a word, and none twice -/
def WordsP (ws : List (List UInt8)) : Prop := ∀ i, 0 ≤ i → i < ws.length → ∀ h : i < ws.length, WordP ws[i] ∧ ∀ j, (hj : j < i) → ws[i] ≠ ws[j]
theorem specWords {ws : List (List UInt8)} (hn : ws.length < 1000000000000) (hl : ∀ w ∈ ws, w.length < 1000000000000) : Dec (spec_l5Words ws) (WordsP ws) := by
  unfold spec_l5Words
  refine all_idx (Lp := spec_l5Words_L1 ws) (n := ws.length) (Q := fun i => ∀ h : i < ws.length, WordP ws[i] ∧ ∀ j, (hj : j < i) → ws[i] ≠ ws[j]) 0 (fun k i hi => ?_) (fun k i _ hi => ?_) hn
  · show (if _ then _ else _) = _
    rw [if_neg (by simp; omega)]
  · rw [spec_l5Words_L1]
    rw [if_pos (by simp; omega), idx_lt hi]
    simp only [Option.bind_some]
    rcases (specWord (hl _ (List.getElem_mem hi))).cases with ⟨e, hw⟩ | ⟨e, hw⟩
    · rw [e]
      simp only [Option.bind_some, Bool.not_true, Bool.false_eq_true, if_false]
      have key : ∀ (d q j : Nat), i - j = d → d < q → (hj : j ≤ i) → (∀ m, (hm : m < j) → ws[i] ≠ ws[m]'(by omega)) →
          ((∀ m, (hm : m < i) → ws[i] ≠ ws[m]) ∧ spec_l5Words_L2 i ws (spec_l5Words_L1 ws k) q (j : Int) = spec_l5Words_L1 ws k ((i + 1 : Nat) : Int)) ∨ ((¬ ∀ m, (hm : m < i) → ws[i] ≠ ws[m]) ∧ spec_l5Words_L2 i ws (spec_l5Words_L1 ws k) q (j : Int) = some false) := by
        intro d
        induction d with
        | zero =>
          intro q j hd hq hj hm
          obtain ⟨q, rfl⟩ : ∃ r, q = r + 1 := ⟨q - 1, by omega⟩
          rw [spec_l5Words_L2]
          rw [if_neg (by simp; omega), wrap_succ (by omega)]
          exact .inl ⟨fun m hm' => hm m (by omega), rfl⟩
        | succ d ih =>
          intro q j hd hq hj hm
          obtain ⟨q, rfl⟩ : ∃ r, q = r + 1 := ⟨q - 1, by omega⟩
          rw [spec_l5Words_L2]
          rw [if_pos (by simp; omega), idx_lt hi, idx_lt (show j < ws.length by omega)]
          simp only [Option.bind_some]
          by_cases hc : ws[i] = ws[j]
          · rw [if_pos (by simpa using hc)]
            exact .inr ⟨fun g => g j (by omega) hc, rfl⟩
          · rw [if_neg (by simpa using hc), wrap_succ (by omega)]
            exact ih q (j + 1) (by omega) (by omega) (by omega) (fun m hm' => by
              by_cases h : m = j
              · subst h; exact hc
              · exact hm m (by omega))
      rcases key i Fuel 0 (by omega) (fuel_gt (by omega)) (by omega) (fun m hm => by omega) with ⟨h1, h2⟩ | ⟨h1, h2⟩
      · exact .inl ⟨fun _ => ⟨hw, h1⟩, h2⟩
      · exact .inr ⟨fun g => h1 (g hi).2, h2⟩
    · rw [e]
      exact .inr ⟨fun g => hw (g hi).1, rfl⟩
theorem implWords {ws : List (List UInt8)} (hn : ws.length < 1000000000000) (hl : ∀ w ∈ ws, w.length < 1000000000000) : Dec (impl_distinctWords ws) (WordsP ws) := by
  unfold impl_distinctWords
  refine all_idx (Lp := impl_distinctWords_L1 ws) (n := ws.length) (Q := fun i => ∀ h : i < ws.length, WordP ws[i] ∧ ∀ j, (hj : j < i) → ws[i] ≠ ws[j]) 0 (fun k i hi => ?_) (fun k i _ hi => ?_) hn
  · show (if _ then _ else _) = _
    rw [if_neg (by simp; omega)]
  · rw [impl_distinctWords_L1]
    rw [if_pos (by simp; omega), idx_lt hi, wrap_succ (by omega)]
    simp only [Option.bind_some]
    rcases (implWord (hl _ (List.getElem_mem hi))).cases with ⟨e, hw⟩ | ⟨e, hw⟩
    · rw [e]
      simp only [Option.bind_some, Bool.not_true, Bool.false_eq_true, if_false]
      have hs : sub ws 0 (i : Int) = some (ws.take i) := by
        unfold sub
        rw [if_pos (by omega)]
        simp
      rw [hs]
      simp only [Option.bind_some]
      unfold lib_slices_Contains___string_string_ lib_slices_Index___string_string_
      have hf := find_idx (Lp := lib_slices_Index___string_string__L1 (ws.take i) ws[i]) (n := i) (Q := fun j => ∀ hj : j < i, ws[i] = ws[j]) (fun k j hj => by
        show (if _ then _ else _) = _
        rw [if_neg (by simp; omega)]) (fun k j hj => by
        rw [lib_slices_Index___string_string__L1]
        rw [if_pos (by simp; omega), idx_lt (show j < (ws.take i).length by simp; omega), wrap_succ (by omega)]
        simp only [Option.bind_some, List.getElem_take]
        by_cases hc : ws[i] = ws[j]
        · rw [if_pos (by simpa using hc)]
          exact .inl ⟨fun _ => hc, rfl⟩
        · rw [if_neg (by simpa using hc)]
          exact .inr ⟨fun g => hc (g hj), rfl⟩) (by omega)
      rcases hf.cases with ⟨e2, j, hj, hQ⟩ | ⟨e2, hQ⟩
      · rw [e2]
        exact .inr ⟨fun g => (g hi).2 j hj (hQ hj), rfl⟩
      · rw [e2]
        exact .inl ⟨fun _ => ⟨hw, fun j hj hc => hQ ⟨j, hj, fun _ => hc⟩⟩, rfl⟩
    · rw [e]
      exact .inr ⟨fun g => hw (g hi).1, rfl⟩
/-- cuts that rise, each in its range -/
def CutsP (l : List Int) : Prop := ∀ i, 0 ≤ i → i < l.length → ∀ h : i < l.length, (-9999 ≤ l[i] ∧ l[i] ≤ 9998) ∧ ∀ h0 : 0 < i, l[i - 1] < l[i]
theorem implCuts {l : List Int} (hn : l.length < 1000000000000) : Dec (impl_CutsOk l) ((1 ≤ (l.length : Int) ∧ (l.length : Int) ≤ 3) ∧ CutsP l) := by
  unfold impl_CutsOk impl_within
  simp only [Option.bind_some]
  by_cases h : 1 ≤ (l.length : Int) ∧ (l.length : Int) ≤ 3
  · rw [in_t h]
    simp only [if_true]
    have ha : Dec (impl_ascending l) (∀ i, 1 ≤ i → i < l.length → ∀ (h : i < l.length), l[i - 1] < l[i]) := by
      unfold impl_ascending
      refine all_idx (Lp := impl_ascending_L1 l) (n := l.length) (Q := fun i => ∀ (h : i < l.length), l[i - 1] < l[i]) 1 (fun k i hi => ?_) (fun k i h1 hi => ?_) hn
      · show (if _ then _ else _) = _
        rw [if_neg (by simp; omega)]
      · rw [impl_ascending_L1]
        rw [if_pos (by simp; omega), idx_lt hi, wrap_succ (by omega), wrap_id (by omega) (by omega), show (i : Int) - 1 = ((i - 1 : Nat) : Int) by omega, idx_lt (show i - 1 < l.length by omega)]
        simp only [Option.bind_some]
        by_cases hc : l[i] ≤ l[i - 1]
        · rw [if_pos (by simpa using hc)]
          exact .inr ⟨fun g => by have := g hi; omega, rfl⟩
        · rw [if_neg (by simpa using hc)]
          exact .inl ⟨fun _ => by omega, rfl⟩
    rcases ha.cases with ⟨e, hA⟩ | ⟨e, hA⟩
    · rw [e]
      simp only [Option.bind_some, if_true]
      unfold lib_slices_ContainsFunc___int_int___impl_CutsOk_1 lib_slices_IndexFunc___int_int___impl_CutsOk_1
      have hf := find_idx (Lp := lib_slices_IndexFunc___int_int___impl_CutsOk_1_L1 l) (n := l.length) (Q := fun j => ∀ hj : j < l.length, ¬ (-9999 ≤ l[j] ∧ l[j] ≤ 9998)) (fun k j hj => by
        show (if _ then _ else _) = _
        rw [if_neg (by simp; omega)]) (fun k j hj => by
        rw [lib_slices_IndexFunc___int_int___impl_CutsOk_1_L1]
        rw [if_pos (by simp; omega), idx_lt hj, wrap_succ (by omega)]
        unfold impl_CutsOk_1 impl_isCut impl_within
        simp only [Option.bind_some]
        by_cases hc : -9999 ≤ l[j] ∧ l[j] ≤ 9998
        · rw [in_t hc]
          exact .inr ⟨fun g => g hj hc, rfl⟩
        · rw [in_f hc]
          exact .inl ⟨fun _ => hc, rfl⟩) hn
      rcases hf.cases with ⟨e2, j, hj, hQ⟩ | ⟨e2, hQ⟩
      · rw [e2]
        exact dec_f fun g => hQ hj (g.2 j (Nat.zero_le _) hj hj).1
      · rw [e2]
        exact dec_t ⟨h, fun i _ hi _ => ⟨Classical.byContradiction fun c => hQ ⟨i, hi, fun _ => c⟩, fun h0 => hA i h0 hi hi⟩⟩
    · rw [e]
      exact dec_f fun g => hA fun i h1 hi h2 => (g.2 i (Nat.zero_le _) hi h2).2 h1
  · rw [in_f h]
    exact dec_f fun g => h g.1
end Go.Vk
/- Attributes: weighed, copied, compared; FullMask. -/
namespace Go.Vk
def AttrP (x : Timpl_Attr) : Prop := WordP x.Name_ ∧ ((x.Cuts_.length = 0 ∧ (2 ≤ (x.Values_.length : Int) ∧ (x.Values_.length : Int) ≤ 4) ∧ WordsP x.Values_) ∨ (x.Values_.length = 0 ∧ (1 ≤ (x.Cuts_.length : Int) ∧ (x.Cuts_.length : Int) ≤ 3) ∧ CutsP x.Cuts_))
def OkM (x : Timpl_Attr) : Prop := x.Name_.length < 1000000000000 ∧ x.Cuts_.length < 1000000000000 ∧ x.Values_.length < 1000000000000 ∧ ∀ y ∈ x.Values_, y.length < 1000000000000
theorem specAttr {x : Timpl_Attr} (hx : OkM x) : Dec (spec_AttrOk x) (AttrP x) := by
  obtain ⟨h1, h2, h3, h4⟩ := hx
  unfold spec_AttrOk AttrP
  rcases (specWord h1).cases with ⟨e, hw⟩ | ⟨e, hw⟩
  · rw [e]
    simp only [Option.bind_some, Bool.not_true, Bool.false_eq_true, if_false]
    by_cases hc : x.Cuts_.length = 0
    · rw [if_pos (by rw [beq_iff_eq]; omega)]
      unfold spec_l1In
      simp only [Option.bind_some]
      by_cases hv : 2 ≤ (x.Values_.length : Int) ∧ (x.Values_.length : Int) ≤ 4
      · rw [in_t hv]
        simp only [if_true]
        rcases (specWords h3 h4).cases with ⟨e2, hW⟩ | ⟨e2, hW⟩
        · rw [e2]; exact dec_t ⟨hw, .inl ⟨hc, hv, hW⟩⟩
        · rw [e2]; exact dec_f fun g => by rcases g.2 with ⟨_, _, g⟩ | ⟨_, g, _⟩ <;> first | exact hW g | omega
      · rw [in_f hv]
        exact dec_f fun g => by rcases g.2 with ⟨_, g, _⟩ | ⟨_, g, _⟩ <;> omega
    · rw [if_neg (by rw [beq_iff_eq]; omega)]
      by_cases hb : 0 < x.Values_.length ∨ 3 < x.Cuts_.length
      · rw [if_pos (by simp; omega)]
        exact dec_f fun g => by rcases g.2 with ⟨g, _, _⟩ | ⟨_, g, _⟩ <;> omega
      · rw [if_neg (by rw [Bool.or_eq_true, decide_eq_true_eq, decide_eq_true_eq]; omega)]
        have ha : Dec (spec_AttrOk_L1 x Fuel 0) (CutsP x.Cuts_) := by
          refine all_idx (Lp := spec_AttrOk_L1 x) (n := x.Cuts_.length) (Q := fun i => ∀ h : i < x.Cuts_.length, (-9999 ≤ x.Cuts_[i] ∧ x.Cuts_[i] ≤ 9998) ∧ ∀ h0 : 0 < i, x.Cuts_[i - 1] < x.Cuts_[i]) 0 (fun k i hi => ?_) (fun k i _ hi => ?_) h2
          · show (if _ then _ else _) = _
            rw [if_neg (by simp; omega)]
          · rw [spec_AttrOk_L1]
            rw [if_pos (by simp; omega), idx_lt hi, wrap_succ (by omega)]
            unfold spec_l1In
            simp only [Option.bind_some]
            by_cases hr : -9999 ≤ x.Cuts_[i] ∧ x.Cuts_[i] ≤ 9998
            · rw [in_t hr]
              simp only [Bool.not_true, Bool.false_eq_true, if_false]
              by_cases h0 : 0 < i
              · rw [if_pos (by simp; omega), wrap_id (by omega) (by omega), show (i : Int) - 1 = ((i - 1 : Nat) : Int) by omega, idx_lt (show i - 1 < x.Cuts_.length by omega)]
                simp only [Option.bind_some]
                by_cases hle : x.Cuts_[i] ≤ x.Cuts_[i - 1]
                · rw [if_pos (by simpa using hle)]
                  exact .inr ⟨fun g => by have := (g hi).2 h0; omega, rfl⟩
                · rw [if_neg (by simpa using hle)]
                  exact .inl ⟨fun _ => ⟨hr, fun _ => by omega⟩, rfl⟩
              · rw [if_neg (by simp; omega)]
                exact .inl ⟨fun _ => ⟨hr, fun h => absurd h h0⟩, rfl⟩
            · rw [in_f hr]
              exact .inr ⟨fun g => hr (g hi).1, rfl⟩
        exact ha.of_iff ⟨fun g => ⟨hw, .inr ⟨by omega, by omega, g⟩⟩, fun g => by rcases g.2 with ⟨g, _, _⟩ | ⟨_, _, g⟩; exact absurd g hc; exact g⟩
  · rw [e]
    exact dec_f fun g => hw g.1
theorem implAttr {x : Timpl_Attr} (hx : OkM x) : Dec (impl_AttrOk x) (AttrP x) := by
  obtain ⟨h1, h2, h3, h4⟩ := hx
  unfold impl_AttrOk AttrP
  rcases (implWord h1).cases with ⟨e, hw⟩ | ⟨e, hw⟩
  · rw [e]
    simp only [Option.bind_some, Bool.not_true, Bool.false_eq_true, if_false]
    by_cases hc : x.Cuts_.length = 0
    · rw [if_pos (by rw [beq_iff_eq]; omega)]
      unfold impl_within
      simp only [Option.bind_some]
      by_cases hv : 2 ≤ (x.Values_.length : Int) ∧ (x.Values_.length : Int) ≤ 4
      · rw [in_t hv]
        simp only [if_true]
        rcases (implWords h3 h4).cases with ⟨e2, hW⟩ | ⟨e2, hW⟩
        · rw [e2]; exact dec_t ⟨hw, .inl ⟨hc, hv, hW⟩⟩
        · rw [e2]; exact dec_f fun g => by rcases g.2 with ⟨_, _, g⟩ | ⟨_, g, _⟩ <;> first | exact hW g | omega
      · rw [in_f hv]
        exact dec_f fun g => by rcases g.2 with ⟨_, g, _⟩ | ⟨_, g, _⟩ <;> omega
    · rw [if_neg (by rw [beq_iff_eq]; omega)]
      by_cases hb : x.Values_.length = 0
      · rw [if_pos (by rw [beq_iff_eq]; omega)]
        rcases (implCuts h2).cases with ⟨e2, hC⟩ | ⟨e2, hC⟩
        · rw [e2]; exact dec_t ⟨hw, .inr ⟨hb, hC.1, hC.2⟩⟩
        · rw [e2]; exact dec_f fun g => by
            rcases g.2 with ⟨g, _, _⟩ | ⟨_, g, g'⟩
            · exact hc g
            · exact hC ⟨g, g'⟩
      · rw [if_neg (by rw [beq_iff_eq]; omega)]
        exact dec_f fun g => by rcases g.2 with ⟨g, _, _⟩ | ⟨g, _, _⟩ <;> omega
  · rw [e]
    exact dec_f fun g => hw g.1
end Go.Vk
/- FullMask answers alike. -/
namespace Go.Vk
theorem bins_ok {x : Timpl_Attr} (hx : OkM x) (h : AttrP x) : ∃ n : Nat, spec_Bins x = some (n : Int) ∧ impl_bins x = some (n : Int) ∧ 2 ≤ n ∧ n ≤ 4 := by
  unfold spec_Bins impl_bins
  rcases (specAttr hx).cases with ⟨e, _⟩ | ⟨_, g⟩
  · rw [e]
    simp only [Option.bind_some, Bool.not_true, Bool.false_eq_true, if_false]
    rcases h.2 with ⟨h1, h2, _⟩ | ⟨h1, h2, _⟩
    · rw [if_neg (fun g => by have := of_decide_eq_true g; omega)]
      exact ⟨_, rfl, rfl, by omega, by omega⟩
    · rw [if_pos (decide_eq_true (by omega)), wrap_succ (by omega)]
      exact ⟨_, rfl, rfl, by omega, by omega⟩
  · exact absurd h g
end Go.Vk
/- Schemas: tested, weighed, copied, compared; AllRoom. -/
namespace Go.Vk
def NamedP (l : List Timpl_Attr) : Prop := ∀ i, 0 ≤ i → i < l.length → ∀ h : i < l.length, AttrP l[i] ∧ ∀ j, (hj : j < i) → l[i].Name_ ≠ l[j].Name_
def SchemaP (x : Timpl_Schema) : Prop := (1 ≤ (x.Attrs_.length : Int) ∧ (x.Attrs_.length : Int) ≤ 5) ∧ (2 ≤ (x.Classes_.length : Int) ∧ (x.Classes_.length : Int) ≤ 3) ∧ WordsP x.Classes_ ∧ NamedP x.Attrs_
def OkS (x : Timpl_Schema) : Prop := x.Attrs_.length < 1000000000 ∧ (∀ a ∈ x.Attrs_, OkM a) ∧ x.Classes_.length < 1000000000000 ∧ ∀ y ∈ x.Classes_, y.length < 1000000000000
theorem specNamed {x : Timpl_Schema} (hx : OkS x) : Dec (spec_SchemaOk_L1 x Fuel 0) (NamedP x.Attrs_) := by
  obtain ⟨h1, h2, _, _⟩ := hx
  refine all_idx (Lp := spec_SchemaOk_L1 x) (n := x.Attrs_.length) (Q := fun i => ∀ h : i < x.Attrs_.length, AttrP x.Attrs_[i] ∧ ∀ j, (hj : j < i) → x.Attrs_[i].Name_ ≠ x.Attrs_[j].Name_) 0 (fun k i hi => ?_) (fun k i _ hi => ?_) (by omega)
  · show (if _ then _ else _) = _
    rw [if_neg (by simp; omega)]
  · rw [spec_SchemaOk_L1]
    rw [if_pos (by simp; omega), idx_lt hi]
    simp only [Option.bind_some]
    rcases (specAttr (h2 _ (List.getElem_mem hi))).cases with ⟨e, hw⟩ | ⟨e, hw⟩
    · rw [e]
      simp only [Option.bind_some, Bool.not_true, Bool.false_eq_true, if_false]
      have key : ∀ (d q j : Nat), i - j = d → d < q → (hj : j ≤ i) → (∀ m, (hm : m < j) → x.Attrs_[i].Name_ ≠ (x.Attrs_[m]'(by omega)).Name_) →
          ((∀ m, (hm : m < i) → x.Attrs_[i].Name_ ≠ x.Attrs_[m].Name_) ∧ spec_SchemaOk_L2 i x (spec_SchemaOk_L1 x k) q (j : Int) = spec_SchemaOk_L1 x k ((i + 1 : Nat) : Int)) ∨ ((¬ ∀ m, (hm : m < i) → x.Attrs_[i].Name_ ≠ x.Attrs_[m].Name_) ∧ spec_SchemaOk_L2 i x (spec_SchemaOk_L1 x k) q (j : Int) = some false) := by
        intro d
        induction d with
        | zero =>
          intro q j hd hq hj hm
          obtain ⟨q, rfl⟩ : ∃ r, q = r + 1 := ⟨q - 1, by omega⟩
          rw [spec_SchemaOk_L2]
          rw [if_neg (by simp; omega), wrap_succ (by omega)]
          exact .inl ⟨fun m hm' => hm m (by omega), rfl⟩
        | succ d ih =>
          intro q j hd hq hj hm
          obtain ⟨q, rfl⟩ : ∃ r, q = r + 1 := ⟨q - 1, by omega⟩
          rw [spec_SchemaOk_L2]
          rw [if_pos (by simp; omega), idx_lt hi, idx_lt (show j < x.Attrs_.length by omega)]
          simp only [Option.bind_some]
          by_cases hc : x.Attrs_[i].Name_ = x.Attrs_[j].Name_
          · rw [if_pos (by simpa using hc)]
            exact .inr ⟨fun g => g j (by omega) hc, rfl⟩
          · rw [if_neg (by simpa using hc), wrap_succ (by omega)]
            exact ih q (j + 1) (by omega) (by omega) (by omega) (fun m hm' => by
              by_cases h : m = j
              · subst h; exact hc
              · exact hm m (by omega))
      rcases key i Fuel 0 (by omega) (fuel_gt (by omega)) (by omega) (fun m hm => by omega) with ⟨h1, h2⟩ | ⟨h1, h2⟩
      · exact .inl ⟨fun _ => ⟨hw, h1⟩, h2⟩
      · exact .inr ⟨fun g => h1 (g hi).2, h2⟩
    · rw [e]
      exact .inr ⟨fun g => hw (g hi).1, rfl⟩
theorem implNamed {x : Timpl_Schema} (hx : OkS x) : Dec (impl_SchemaOk_L1 x Fuel 0 []) (NamedP x.Attrs_) := by
  obtain ⟨h1, h2, _, _⟩ := hx
  have hW : Dec (impl_distinctWords (x.Attrs_.map Timpl_Attr.Name_)) (WordsP (x.Attrs_.map Timpl_Attr.Name_)) := implWords (by simp; omega) (fun w hw => by
    obtain ⟨a, ha, rfl⟩ := List.mem_map.1 hw
    exact (h2 a ha).1)
  have key : ∀ (d k i : Nat), x.Attrs_.length - i = d → d < k → i ≤ x.Attrs_.length → Dec (impl_SchemaOk_L1 x k (i : Int) ((x.Attrs_.take i).map Timpl_Attr.Name_)) ((∀ j, i ≤ j → ∀ hj : j < x.Attrs_.length, AttrP x.Attrs_[j]) ∧ WordsP (x.Attrs_.map Timpl_Attr.Name_)) := by
    intro d
    induction d with
    | zero =>
      intro k i hd hk hi
      obtain ⟨k, rfl⟩ : ∃ q, k = q + 1 := ⟨k - 1, by omega⟩
      rw [impl_SchemaOk_L1]
      rw [if_neg (by simp; omega), List.take_of_length_le (by omega)]
      have : ∀ o : Option Bool, (o.bind fun y => some y) = o := fun o => by cases o <;> rfl
      rw [this]
      exact hW.of_iff ⟨fun g => ⟨fun j h3 h4 => by omega, g⟩, fun g => g.2⟩
    | succ d ih =>
      intro k i hd hk hi
      obtain ⟨k, rfl⟩ : ∃ q, k = q + 1 := ⟨k - 1, by omega⟩
      have hlt : i < x.Attrs_.length := by omega
      rw [impl_SchemaOk_L1]
      rw [if_pos (by simp; omega), idx_lt hlt]
      simp only [Option.bind_some]
      rcases (implAttr (h2 _ (List.getElem_mem hlt))).cases with ⟨e, hw⟩ | ⟨e, hw⟩
      · rw [e]
        simp only [Option.bind_some, Bool.not_true, Bool.false_eq_true, if_false]
        rw [app_eq (by simp; omega)]
        simp only [Option.bind_some]
        rw [wrap_succ (by omega), show (x.Attrs_.take i).map Timpl_Attr.Name_ ++ [x.Attrs_[i].Name_] = (x.Attrs_.take (i + 1)).map Timpl_Attr.Name_ by rw [List.take_succ_eq_append_getElem hlt, List.map_append]; rfl]
        refine (ih k (i + 1) (by omega) (by omega) (by omega)).of_iff ⟨fun g => ⟨fun j h3 h4 => ?_, g.2⟩, fun g => ⟨fun j h3 h4 => g.1 j (by omega) h4, g.2⟩⟩
        by_cases hj : j = i
        · subst hj; exact hw
        · exact g.1 j (by omega) h4
      · rw [e]
        exact dec_f fun g => hw (g.1 i (Nat.le_refl _) hlt)
  have := key x.Attrs_.length Fuel 0 (by omega) (fuel_gt (by omega)) (by omega)
  have h0 : Dec (impl_SchemaOk_L1 x Fuel 0 []) ((∀ j, 0 ≤ j → ∀ hj : j < x.Attrs_.length, AttrP x.Attrs_[j]) ∧ WordsP (x.Attrs_.map Timpl_Attr.Name_)) := this
  refine h0.of_iff ⟨fun g i _ _ h => ⟨g.1 i (Nat.zero_le _) h, fun j hj hc => ?_⟩, fun g => ⟨fun j _ hj => (g j (Nat.zero_le _) hj hj).1, fun i _ _ h => ?_⟩⟩
  · have := (g.2 i (Nat.zero_le _) (by simpa using h) (by simpa using h)).2 j hj
    simp at this
    exact this hc
  · have hi : i < x.Attrs_.length := by simpa using h
    obtain ⟨g1, g2⟩ := g i (Nat.zero_le _) hi hi
    exact ⟨by simpa using g1.1, fun j hj => by simpa using g2 j hj⟩
theorem specSchema {x : Timpl_Schema} (hx : OkS x) : Dec (spec_SchemaOk x) (SchemaP x) := by
  have hN := specNamed hx
  obtain ⟨h1, h2, h3, h4⟩ := hx
  unfold spec_SchemaOk spec_l1In SchemaP
  simp only [Option.bind_some]
  by_cases ha : 1 ≤ (x.Attrs_.length : Int) ∧ (x.Attrs_.length : Int) ≤ 5
  · rw [in_t ha]
    simp only [Bool.not_true, Bool.false_eq_true, if_false]
    by_cases hc : 2 ≤ (x.Classes_.length : Int) ∧ (x.Classes_.length : Int) ≤ 3
    · rw [in_t hc]
      simp only [Option.bind_some, Bool.not_true, Bool.false_eq_true, if_false]
      rcases (specWords h3 h4).cases with ⟨e, hW⟩ | ⟨e, hW⟩
      · rw [e]
        simp only [Option.bind_some, Bool.not_true, Bool.false_eq_true, if_false]
        exact hN.of_iff ⟨fun g => ⟨ha, hc, hW, g⟩, fun g => g.2.2.2⟩
      · rw [e]
        exact dec_f fun g => hW g.2.2.1
    · rw [in_f hc]
      exact dec_f fun g => hc g.2.1
  · rw [in_f ha]
    exact dec_f fun g => ha g.1
theorem implSchema {x : Timpl_Schema} (hx : OkS x) : Dec (impl_SchemaOk x) (SchemaP x) := by
  have hN := implNamed hx
  obtain ⟨h1, h2, h3, h4⟩ := hx
  unfold impl_SchemaOk impl_within SchemaP
  simp only [Option.bind_some]
  by_cases ha : 1 ≤ (x.Attrs_.length : Int) ∧ (x.Attrs_.length : Int) ≤ 5
  · rw [in_t ha]
    simp only [Bool.not_true, Bool.false_eq_true, if_false]
    by_cases hc : 2 ≤ (x.Classes_.length : Int) ∧ (x.Classes_.length : Int) ≤ 3
    · rw [in_t hc]
      simp only [Option.bind_some, Bool.not_true, Bool.false_eq_true, if_false]
      rcases (implWords h3 h4).cases with ⟨e, hW⟩ | ⟨e, hW⟩
      · rw [e]
        simp only [Option.bind_some, Bool.not_true, Bool.false_eq_true, if_false]
        exact hN.of_iff ⟨fun g => ⟨ha, hc, hW, g⟩, fun g => g.2.2.2⟩
      · rw [e]
        exact dec_f fun g => hW g.2.2.1
    · rw [in_f hc]
      exact dec_f fun g => hc g.2.1
  · rw [in_f ha]
    exact dec_f fun g => ha g.1
/-! ### weighed, copied, compared -/
end Go.Vk
/- Masks. -/
namespace Go.Vk
end Go.Vk
/- Two texts of data, walked side by side. -/
namespace Go.Vk
/-- both answer, alike, and as said -/
def Both {ρ : Type} (a b : Option ρ) (Q : ρ → Prop) : Prop := ∃ m, a = some m ∧ b = some m ∧ Q m
theorem both_some {ρ : Type} {m : ρ} {Q : ρ → Prop} (h : Q m) : Both (some m) (some m) Q := ⟨m, rfl, rfl, h⟩
theorem Both.mono {ρ : Type} {a b : Option ρ} {Q R : ρ → Prop} (h : Both a b Q) (f : ∀ m, Q m → R m) : Both a b R := by
  obtain ⟨m, h1, h2, h3⟩ := h
  exact ⟨m, h1, h2, f m h3⟩
theorem Both.bind {α ρ : Type} {a b : Option α} {Q : α → Prop} {f g : α → Option ρ} {R : ρ → Prop} (h : Both a b Q) (k : ∀ m, Q m → Both (f m) (g m) R) : Both (a.bind f) (b.bind g) R := by
  obtain ⟨m, h1, h2, h3⟩ := h
  rw [h1, h2]
  exact k m h3
theorem both_if {ρ : Type} {c d : Prop} [Decidable c] [Decidable d] {a b a' b' : Option ρ} {Q : ρ → Prop} (e : c ↔ d) (h : c → Both a b Q) (h' : ¬ c → Both a' b' Q) : Both (if c then a else a') (if d then b else b') Q := by
  by_cases hc : c
  · rw [if_pos hc, if_pos (e.1 hc)]; exact h hc
  · rw [if_neg hc, if_neg (fun hd => hc (e.2 hd))]; exact h' hc
theorem both_dec {ρ : Type} {a b : Option Bool} {P : Prop} {f g : Bool → Option ρ} {R : ρ → Prop} (h : Dec a P) (h' : Dec b P) (ht : P → Both (f true) (g true) R) (hf : ¬ P → Both (f false) (g false) R) : Both (a.bind f) (b.bind g) R := by
  rw [← h.eq h']
  rcases h.cases with ⟨e, hp⟩ | ⟨e, hp⟩
  · rw [e]; exact ht hp
  · rw [e]; exact hf hp
/-- two counted loops, side by side -/
theorem both_for {σ τ ρ : Type} (Lp : Nat → σ → Int → Option ρ) (Lq : Nat → τ → Int → Option ρ) (n : Nat) (I : Nat → σ → τ → Prop) {Q : ρ → Prop}
    (hz : ∀ k s t, I n s t → Both (Lp (k + 1) s (n : Int)) (Lq (k + 1) t (n : Int)) Q)
    (hs : ∀ k s t i, i < n → I i s t → (∀ s' t', I (i + 1) s' t' → Both (Lp k s' ((i + 1 : Nat) : Int)) (Lq k t' ((i + 1 : Nat) : Int)) Q) → Both (Lp (k + 1) s (i : Int)) (Lq (k + 1) t (i : Int)) Q)
    (hn : n < 1000000000000) {s : σ} {t : τ} (h0 : I 0 s t) : Both (Lp Fuel s 0) (Lq Fuel t 0) Q := by
  have key : ∀ (d k i : Nat) (s : σ) (t : τ), n - i = d → d < k → i ≤ n → I i s t → Both (Lp k s (i : Int)) (Lq k t (i : Int)) Q := by
    intro d
    induction d with
    | zero =>
      intro k i s t hd hk hi h
      obtain ⟨k, rfl⟩ : ∃ q, k = q + 1 := ⟨k - 1, by omega⟩
      have : i = n := by omega
      subst this
      exact hz k s t h
    | succ d ih =>
      intro k i s t hd hk hi h
      obtain ⟨k, rfl⟩ : ∃ q, k = q + 1 := ⟨k - 1, by omega⟩
      exact hs k s t i (by omega) h (fun s' t' h' => ih k (i + 1) s' t' (by omega) (by omega) (by omega) h')
  exact key n Fuel 0 s t (by omega) (fuel_gt hn) (Nat.zero_le _) h0
end Go.Vk
