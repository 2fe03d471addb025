/- The laws' types: weighed, copied, compared; the rows' frames. Printed by program. -/
import Derived.Test.YtejneofoabmojaaRF
import Derived.Test.YtejneofoabmojaaVkZ
namespace Go.Vk
def sml_IntS (x : List Int) : Prop := x.length ≤ 1048576 ∧ ∀ y ∈ x, (-9223372036854775808 ≤ y ∧ y ≤ 9223372036854775807)
def len_IntS (x : List Int) : Prop := x.length < 1000000000000
theorem len_of_IntS {x : List Int} (h : sml_IntS x) : len_IntS x := by have := h.1; unfold len_IntS; omega
theorem eq_IntS_self {x : List Int} (h : len_IntS x) : laws_eqIntS x x = some true := by
  unfold laws_eqIntS
  rw [if_neg (by simp)]
  refine same_loop (p := x) (laws_eqIntS_L1 x x) (fun _ o => o) (fun k i => ?_) h (fun _ _ _ => rfl)
  show (if _ then _ else _) = _
  cases h : idx x i with
  | none => rfl
  | some e => simp only [Option.bind_some, bne_self_eq_false, Bool.false_eq_true, if_false]
def szn_IntS (x : List Int) : Nat := x.length
def fin_IntS (x : List Int) : Prop := x.length ≤ maxLen ∧ ∀ y ∈ x, IntOk .i64 y
theorem weighs_IntS {x : List Int} (hx : fin_IntS x) : Weighs laws_szIntS szn_IntS x := fun s hs => by
  obtain ⟨r, h1, h2⟩ := weigh_list (p := x) s hs
  exact ⟨r, h1, h2 (lt63 hx.1)⟩
def to_IntS (x : List Int) : List Int := x
theorem to_IntS_ok {x : List Int} (h : szn_IntS x ≤ 1048576) : laws_toIntS x = some (to_IntS x) := by
  unfold szn_IntS at h
  unfold laws_toIntS
  rw [mk_eq _ (by omega)]
  exact (copy_loop (F := some) (g := id) (laws_toIntS_L1 x) (fun _ _ _ => rfl) (by omega) (fun _ _ => rfl) _).trans (by rw [List.map_id]; rfl)
theorem sml_to_IntS {x : List Int} (hf : fin_IntS x) (h : szn_IntS x ≤ 1048576) : sml_IntS (to_IntS x) := by
  unfold szn_IntS at h
  exact ⟨by show x.length ≤ _; omega, fun y hy => i64_of (hf.2 y hy)⟩
def sml_StringS (x : List (List UInt8)) : Prop := x.length ≤ 1048576 ∧ ∀ y ∈ x, y.length ≤ 1048576
def len_StringS (x : List (List UInt8)) : Prop := x.length < 1000000000000
theorem len_of_StringS {x : List (List UInt8)} (h : sml_StringS x) : len_StringS x := by have := h.1; unfold len_StringS; omega
theorem eq_StringS_self {x : List (List UInt8)} (h : len_StringS x) : laws_eqStringS x x = some true := by
  unfold laws_eqStringS
  rw [if_neg (by simp)]
  refine same_loop (p := x) (laws_eqStringS_L1 x x) (fun _ o => o) (fun k i => ?_) h (fun _ _ _ => rfl)
  show (if _ then _ else _) = _
  cases h : idx x i with
  | none => rfl
  | some e => simp only [Option.bind_some, beq_self_eq_true, Bool.not_true, Bool.false_eq_true, if_false]
def szn_StringS (x : List (List UInt8)) : Nat := x.length + (x.map List.length).sum
def fin_StringS (x : List (List UInt8)) : Prop := x.length ≤ maxLen ∧ ∀ y ∈ x, y.length ≤ maxLen
theorem weighs_StringS {x : List (List UInt8)} (hx : fin_StringS x) : Weighs laws_szStringS szn_StringS x := fun s hs => by
  have h0 := lt63 hx.1
  unfold laws_szStringS szn_StringS
  rw [wrap_id (n := (s : Int) - (x.length : Int)) (by omega) (by omega)]
  by_cases h : s < x.length
  · rw [if_pos (by simp; omega)]
    exact ⟨_, rfl, .inl ⟨by omega, by omega⟩⟩
  · rw [if_neg (by simp; omega)]
    have := weigh_loop (p := x) (Z := fun e s => if decide ((IntKind.i64.wrap (s - (e.length : Int))) < 0) then some (-1) else some (IntKind.i64.wrap (s - (e.length : Int)))) (size := List.length) (laws_szStringS_L1 x) (fun k s i => by
      show (if _ then (idx x i).bind _ else _) = _
      cases idx x i with
      | none => rfl
      | some e =>
        simp only [Option.bind_some]
        split
        · by_cases h : IntKind.i64.wrap (s - (e.length : Int)) < 0
          · simp [h]
          · simp [h]
        · rfl) (by omega) (fun y hy s hs => by
      obtain ⟨r, h1, h2⟩ := weigh_list (p := y) s hs
      exact ⟨r, h1, h2 (lt63 (hx.2 y hy))⟩) (s - x.length) (by omega)
    rw [show (s : Int) - (x.length : Int) = ((s - x.length : Nat) : Int) by omega]
    obtain ⟨r, h1, h2⟩ := this
    refine ⟨r, h1, ?_⟩
    rcases h2 with ⟨h2, h3⟩ | ⟨h2, h3⟩
    · exact .inl ⟨h2, by omega⟩
    · exact .inr ⟨by omega, by rw [h3]; congr 1; omega⟩
def to_StringS (x : List (List UInt8)) : List (List UInt8) := x
theorem to_StringS_ok {x : List (List UInt8)} (h : szn_StringS x ≤ 1048576) : laws_toStringS x = some (to_StringS x) := by
  unfold szn_StringS at h
  unfold laws_toStringS
  rw [mk_eq _ (by omega)]
  exact (copy_loop (F := some) (g := id) (laws_toStringS_L1 x) (fun _ _ _ => rfl) (by omega) (fun _ _ => rfl) _).trans (by rw [List.map_id]; rfl)
theorem sml_to_StringS {x : List (List UInt8)} (_ : fin_StringS x) (h : szn_StringS x ≤ 1048576) : sml_StringS (to_StringS x) := by
  unfold szn_StringS at h
  exact ⟨by show x.length ≤ _; omega, fun y hy => by have := mem_sum (f := List.length) (show y ∈ x from hy); omega⟩
def sml_Attr (x : Timpl_Attr) : Prop := x.Name_.length ≤ 1048576 ∧ sml_IntS x.Cuts_ ∧ sml_StringS x.Values_
def len_Attr (x : Timpl_Attr) : Prop := len_IntS x.Cuts_ ∧ len_StringS x.Values_
theorem len_of_Attr {x : Timpl_Attr} (h : sml_Attr x) : len_Attr x := by
  obtain ⟨_, h1, h2⟩ := h
  exact ⟨len_of_IntS h1, len_of_StringS h2⟩
theorem eq_Attr_self {x : Timpl_Attr} (h : len_Attr x) : laws_eqAttr x x = some true := by
  obtain ⟨h1, h2⟩ := h
  unfold laws_eqAttr
  simp [eq_IntS_self h1, eq_StringS_self h2]
def szn_Attr (x : Tlaws_Attr) : Nat := x.Name_.length + szn_IntS x.Cuts_ + szn_StringS x.Values_
def fin_Attr (x : Tlaws_Attr) : Prop := x.Name_.length ≤ maxLen ∧ fin_IntS x.Cuts_ ∧ fin_StringS x.Values_
def to_Attr (x : Tlaws_Attr) : Timpl_Attr := ⟨x.Name_, to_IntS x.Cuts_, to_StringS x.Values_⟩
theorem weighs_Attr {x : Tlaws_Attr} (hx : fin_Attr x) : Weighs laws_szAttr szn_Attr x := fun s hs => by
  obtain ⟨h0, h1, h2⟩ := hx
  unfold laws_szAttr szn_Attr
  have l0 := lt63 h0
  rw [wrap_id (n := ((s : Nat) : Int) - (x.Name_.length : Int)) (by omega) (by omega)]
  by_cases c0 : s < x.Name_.length
  · rw [if_pos (by simp; omega)]; exact ⟨_, rfl, .inl ⟨by omega, by omega⟩⟩
  · rw [if_neg (by simp; omega), show ((s : Nat) : Int) - (x.Name_.length : Int) = ((s - x.Name_.length : Nat) : Int) by omega]
    obtain ⟨r, e1, g1⟩ := weighs_IntS h1 (s - x.Name_.length) (by omega)
    rw [e1]
    simp only [Option.bind_some]
    rcases g1 with ⟨g1, k1⟩ | ⟨g1, rfl⟩
    · rw [if_pos (by simpa using g1)]; exact ⟨_, rfl, .inl ⟨by omega, by omega⟩⟩
    · rw [if_neg (by simp)]
      obtain ⟨r, e2, g2⟩ := weighs_StringS h2 (s - x.Name_.length - szn_IntS x.Cuts_) (by omega)
      rw [e2]
      simp only [Option.bind_some]
      rcases g2 with ⟨g2, k2⟩ | ⟨g2, rfl⟩
      · rw [if_pos (by simpa using g2)]; exact ⟨_, rfl, .inl ⟨by omega, by omega⟩⟩
      · rw [if_neg (by simp)]
        exact ⟨_, rfl, .inr ⟨by omega, by first | rfl | (congr 1; omega)⟩⟩
theorem to_Attr_ok {x : Tlaws_Attr} (h : szn_Attr x ≤ 1048576) : laws_toAttr x = some (to_Attr x) := by
  unfold szn_Attr at h
  unfold laws_toAttr
  rw [to_IntS_ok (x := x.Cuts_) (by omega), to_StringS_ok (x := x.Values_) (by omega)]
  rfl
theorem sml_to_Attr {x : Tlaws_Attr} (hf : fin_Attr x) (h : szn_Attr x ≤ 1048576) : sml_Attr (to_Attr x) := by
  unfold szn_Attr at h
  obtain ⟨_, h1, h2⟩ := hf
  exact ⟨by show x.Name_.length ≤ _; omega, sml_to_IntS h1 (show szn_IntS x.Cuts_ ≤ 1048576 by omega), sml_to_StringS h2 (show szn_StringS x.Values_ ≤ 1048576 by omega)⟩
def sml_AttrS (x : List Timpl_Attr) : Prop := x.length ≤ 1048576 ∧ ∀ y ∈ x, sml_Attr y
def len_AttrS (x : List Timpl_Attr) : Prop := x.length < 1000000000000 ∧ ∀ y ∈ x, len_Attr y
theorem len_of_AttrS {x : List Timpl_Attr} (h : sml_AttrS x) : len_AttrS x := ⟨by have := h.1; omega, fun y hy => len_of_Attr (h.2 y hy)⟩
theorem eq_AttrS_self {x : List Timpl_Attr} (h : len_AttrS x) : laws_eqAttrS x x = some true := by
  unfold laws_eqAttrS
  rw [if_neg (by simp)]
  refine same_loop (p := x) (laws_eqAttrS_L1 x x) (fun e o => (laws_eqAttr e e).bind fun y => if (!y) then some false else o) (fun k i => ?_) h.1 (fun y hy o => by rw [eq_Attr_self (h.2 y hy)]; rfl)
  show (if _ then _ else _) = _
  cases h : idx x i with
  | none => rfl
  | some e => rfl
def szn_AttrS (x : List Tlaws_Attr) : Nat := x.length + (x.map szn_Attr).sum
def fin_AttrS (x : List Tlaws_Attr) : Prop := x.length ≤ maxLen ∧ ∀ y ∈ x, fin_Attr y
theorem weighs_AttrS {x : List Tlaws_Attr} (hx : fin_AttrS x) : Weighs laws_szAttrS szn_AttrS x := fun s hs => by
  have h0 := lt63 hx.1
  unfold laws_szAttrS szn_AttrS
  rw [wrap_id (n := (s : Int) - (x.length : Int)) (by omega) (by omega)]
  by_cases h : s < x.length
  · rw [if_pos (by simp; omega)]
    exact ⟨_, rfl, .inl ⟨by omega, by omega⟩⟩
  · rw [if_neg (by simp; omega)]
    have := weigh_loop (p := x) (Z := laws_szAttr) (size := szn_Attr) (laws_szAttrS_L1 x) (fun _ _ _ => rfl) (by omega) (fun y hy => weighs_Attr (hx.2 y hy)) (s - x.length) (by omega)
    rw [show (s : Int) - (x.length : Int) = ((s - x.length : Nat) : Int) by omega]
    obtain ⟨r, h1, h2⟩ := this
    refine ⟨r, h1, ?_⟩
    rcases h2 with ⟨h2, h3⟩ | ⟨h2, h3⟩
    · exact .inl ⟨h2, by omega⟩
    · exact .inr ⟨by omega, by rw [h3]; congr 1; omega⟩
def to_AttrS (x : List Tlaws_Attr) : List Timpl_Attr := x.map to_Attr
theorem to_AttrS_ok {x : List Tlaws_Attr} (h : szn_AttrS x ≤ 1048576) : laws_toAttrS x = some (to_AttrS x) := by
  unfold szn_AttrS at h
  unfold laws_toAttrS
  rw [mk_eq _ (by omega)]
  exact copy_loop (F := laws_toAttr) (g := to_Attr) (laws_toAttrS_L1 x) (fun _ _ _ => rfl) (by omega) (fun y hy => to_Attr_ok (by have := mem_sum (f := szn_Attr) hy; omega)) _
theorem sml_to_AttrS {x : List Tlaws_Attr} (hf : fin_AttrS x) (h : szn_AttrS x ≤ 1048576) : sml_AttrS (to_AttrS x) := by
  unfold szn_AttrS at h
  refine ⟨by show (x.map to_Attr).length ≤ _; rw [List.length_map]; omega, fun y hy => ?_⟩
  obtain ⟨b, hb, rfl⟩ := List.mem_map.1 (show y ∈ x.map to_Attr from hy)
  exact sml_to_Attr (hf.2 b hb) (by have := mem_sum (f := szn_Attr) hb; omega)
def sml_Schema (x : Timpl_Schema) : Prop := sml_AttrS x.Attrs_ ∧ sml_StringS x.Classes_
def len_Schema (x : Timpl_Schema) : Prop := len_AttrS x.Attrs_ ∧ len_StringS x.Classes_
theorem len_of_Schema {x : Timpl_Schema} (h : sml_Schema x) : len_Schema x := by
  obtain ⟨h0, h1⟩ := h
  exact ⟨len_of_AttrS h0, len_of_StringS h1⟩
theorem eq_Schema_self {x : Timpl_Schema} (h : len_Schema x) : laws_eqSchema x x = some true := by
  obtain ⟨h0, h1⟩ := h
  unfold laws_eqSchema
  simp [eq_AttrS_self h0, eq_StringS_self h1]
def szn_Schema (x : Tlaws_Schema) : Nat := szn_AttrS x.Attrs_ + szn_StringS x.Classes_
def fin_Schema (x : Tlaws_Schema) : Prop := fin_AttrS x.Attrs_ ∧ fin_StringS x.Classes_
def to_Schema (x : Tlaws_Schema) : Timpl_Schema := ⟨to_AttrS x.Attrs_, to_StringS x.Classes_⟩
theorem weighs_Schema {x : Tlaws_Schema} (hx : fin_Schema x) : Weighs laws_szSchema szn_Schema x := fun s hs => by
  obtain ⟨h0, h1⟩ := hx
  unfold laws_szSchema szn_Schema
  obtain ⟨r, e0, g0⟩ := weighs_AttrS h0 (s) (by omega)
  rw [e0]
  simp only [Option.bind_some]
  rcases g0 with ⟨g0, k0⟩ | ⟨g0, rfl⟩
  · rw [if_pos (by simpa using g0)]; exact ⟨_, rfl, .inl ⟨by omega, by omega⟩⟩
  · rw [if_neg (by simp)]
    obtain ⟨r, e1, g1⟩ := weighs_StringS h1 (s - szn_AttrS x.Attrs_) (by omega)
    rw [e1]
    simp only [Option.bind_some]
    rcases g1 with ⟨g1, k1⟩ | ⟨g1, rfl⟩
    · rw [if_pos (by simpa using g1)]; exact ⟨_, rfl, .inl ⟨by omega, by omega⟩⟩
    · rw [if_neg (by simp)]
      exact ⟨_, rfl, .inr ⟨by omega, by first | rfl | (congr 1; omega)⟩⟩
theorem to_Schema_ok {x : Tlaws_Schema} (h : szn_Schema x ≤ 1048576) : laws_toSchema x = some (to_Schema x) := by
  unfold szn_Schema at h
  unfold laws_toSchema
  rw [to_AttrS_ok (x := x.Attrs_) (by omega), to_StringS_ok (x := x.Classes_) (by omega)]
  rfl
theorem sml_to_Schema {x : Tlaws_Schema} (hf : fin_Schema x) (h : szn_Schema x ≤ 1048576) : sml_Schema (to_Schema x) := by
  unfold szn_Schema at h
  obtain ⟨h0, h1⟩ := hf
  exact ⟨sml_to_AttrS h0 (show szn_AttrS x.Attrs_ ≤ 1048576 by omega), sml_to_StringS h1 (show szn_StringS x.Classes_ ≤ 1048576 by omega)⟩
theorem exact_AllRoom {a0 : Tlaws_Schema} (h0 : fin_Schema a0) (hs : sml_Schema (to_Schema a0) → ∃ m, spec_AllRoom (to_Schema a0) = some m ∧ impl_AllRoom (to_Schema a0) = some m) : laws_FnExactAllRoom a0 = some true := by
  unfold laws_FnExactAllRoom
  obtain ⟨r, e0, g0⟩ := weighs_Schema h0 (1048576) (by omega)
  have e0 : laws_szSchema a0 1048576 = some r := e0
  rw [e0]
  simp only [Option.bind_some]
  rcases g0 with ⟨g0, _⟩ | ⟨g0, rfl⟩
  · rw [if_pos (by simpa using g0)]
  · rw [if_neg (by simp)]
    have s0 := sml_to_Schema h0 (show szn_Schema a0 ≤ 1048576 by omega)
    rw [to_Schema_ok (x := a0) (by omega)]
    simp only [Option.bind_some]
    obtain ⟨m, e, e'⟩ := hs s0
    rw [e]
    simp only [Option.bind_some]
    rw [e']
    simp [eq_Schema_self (len_of_Schema s0)]
def sml_Ex (x : Timpl_Ex) : Prop := sml_IntS x.Bins_ ∧ (-9223372036854775808 ≤ x.Class_ ∧ x.Class_ ≤ 9223372036854775807)
def len_Ex (x : Timpl_Ex) : Prop := len_IntS x.Bins_
theorem len_of_Ex {x : Timpl_Ex} (h : sml_Ex x) : len_Ex x := by
  obtain ⟨h0, _⟩ := h
  exact len_of_IntS h0
theorem eq_Ex_self {x : Timpl_Ex} (h : len_Ex x) : laws_eqEx x x = some true := by
  have h0 : len_IntS x.Bins_ := h
  unfold laws_eqEx
  simp [eq_IntS_self h0]
def szn_Ex (x : Tlaws_Ex) : Nat := szn_IntS x.Bins_
def fin_Ex (x : Tlaws_Ex) : Prop := fin_IntS x.Bins_ ∧ IntOk .i64 x.Class_
def to_Ex (x : Tlaws_Ex) : Timpl_Ex := ⟨to_IntS x.Bins_, x.Class_⟩
theorem weighs_Ex {x : Tlaws_Ex} (hx : fin_Ex x) : Weighs laws_szEx szn_Ex x := fun s hs => by
  obtain ⟨h0, _⟩ := hx
  unfold laws_szEx szn_Ex
  obtain ⟨r, e0, g0⟩ := weighs_IntS h0 (s) (by omega)
  rw [e0]
  simp only [Option.bind_some]
  rcases g0 with ⟨g0, k0⟩ | ⟨g0, rfl⟩
  · rw [if_pos (by simpa using g0)]; exact ⟨_, rfl, .inl ⟨by omega, by omega⟩⟩
  · rw [if_neg (by simp)]
    exact ⟨_, rfl, .inr ⟨by omega, by first | rfl | (congr 1; omega)⟩⟩
theorem to_Ex_ok {x : Tlaws_Ex} (h : szn_Ex x ≤ 1048576) : laws_toEx x = some (to_Ex x) := by
  unfold szn_Ex at h
  unfold laws_toEx
  rw [to_IntS_ok (x := x.Bins_) (by omega)]
  rfl
theorem sml_to_Ex {x : Tlaws_Ex} (hf : fin_Ex x) (h : szn_Ex x ≤ 1048576) : sml_Ex (to_Ex x) := by
  unfold szn_Ex at h
  obtain ⟨h0, h1⟩ := hf
  exact ⟨sml_to_IntS h0 (show szn_IntS x.Bins_ ≤ 1048576 by omega), i64_of h1⟩
def sml_Entry (x : Timpl_Entry) : Prop := sml_Ex x.Ex_ ∧ (-9223372036854775808 ≤ x.Weight_ ∧ x.Weight_ ≤ 9223372036854775807)
def len_Entry (x : Timpl_Entry) : Prop := len_Ex x.Ex_
theorem len_of_Entry {x : Timpl_Entry} (h : sml_Entry x) : len_Entry x := by
  obtain ⟨h0, _⟩ := h
  exact len_of_Ex h0
theorem eq_Entry_self {x : Timpl_Entry} (h : len_Entry x) : laws_eqEntry x x = some true := by
  have h0 : len_Ex x.Ex_ := h
  unfold laws_eqEntry
  simp [eq_Ex_self h0]
def szn_Entry (x : Tlaws_Entry) : Nat := szn_Ex x.Ex_
def fin_Entry (x : Tlaws_Entry) : Prop := fin_Ex x.Ex_ ∧ IntOk .i64 x.Weight_
def to_Entry (x : Tlaws_Entry) : Timpl_Entry := ⟨to_Ex x.Ex_, x.Weight_⟩
theorem weighs_Entry {x : Tlaws_Entry} (hx : fin_Entry x) : Weighs laws_szEntry szn_Entry x := fun s hs => by
  obtain ⟨h0, _⟩ := hx
  unfold laws_szEntry szn_Entry
  obtain ⟨r, e0, g0⟩ := weighs_Ex h0 (s) (by omega)
  rw [e0]
  simp only [Option.bind_some]
  rcases g0 with ⟨g0, k0⟩ | ⟨g0, rfl⟩
  · rw [if_pos (by simpa using g0)]; exact ⟨_, rfl, .inl ⟨by omega, by omega⟩⟩
  · rw [if_neg (by simp)]
    exact ⟨_, rfl, .inr ⟨by omega, by first | rfl | (congr 1; omega)⟩⟩
theorem to_Entry_ok {x : Tlaws_Entry} (h : szn_Entry x ≤ 1048576) : laws_toEntry x = some (to_Entry x) := by
  unfold szn_Entry at h
  unfold laws_toEntry
  rw [to_Ex_ok (x := x.Ex_) (by omega)]
  rfl
theorem sml_to_Entry {x : Tlaws_Entry} (hf : fin_Entry x) (h : szn_Entry x ≤ 1048576) : sml_Entry (to_Entry x) := by
  unfold szn_Entry at h
  obtain ⟨h0, h1⟩ := hf
  exact ⟨sml_to_Ex h0 (show szn_Ex x.Ex_ ≤ 1048576 by omega), i64_of h1⟩
def sml_EntryS (x : List Timpl_Entry) : Prop := x.length ≤ 1048576 ∧ ∀ y ∈ x, sml_Entry y
def len_EntryS (x : List Timpl_Entry) : Prop := x.length < 1000000000000 ∧ ∀ y ∈ x, len_Entry y
theorem len_of_EntryS {x : List Timpl_Entry} (h : sml_EntryS x) : len_EntryS x := ⟨by have := h.1; omega, fun y hy => len_of_Entry (h.2 y hy)⟩
theorem eq_EntryS_self {x : List Timpl_Entry} (h : len_EntryS x) : laws_eqEntryS x x = some true := by
  unfold laws_eqEntryS
  rw [if_neg (by simp)]
  refine same_loop (p := x) (laws_eqEntryS_L1 x x) (fun e o => (laws_eqEntry e e).bind fun y => if (!y) then some false else o) (fun k i => ?_) h.1 (fun y hy o => by rw [eq_Entry_self (h.2 y hy)]; rfl)
  show (if _ then _ else _) = _
  cases h : idx x i with
  | none => rfl
  | some e => rfl
def szn_EntryS (x : List Tlaws_Entry) : Nat := x.length + (x.map szn_Entry).sum
def fin_EntryS (x : List Tlaws_Entry) : Prop := x.length ≤ maxLen ∧ ∀ y ∈ x, fin_Entry y
theorem weighs_EntryS {x : List Tlaws_Entry} (hx : fin_EntryS x) : Weighs laws_szEntryS szn_EntryS x := fun s hs => by
  have h0 := lt63 hx.1
  unfold laws_szEntryS szn_EntryS
  rw [wrap_id (n := (s : Int) - (x.length : Int)) (by omega) (by omega)]
  by_cases h : s < x.length
  · rw [if_pos (by simp; omega)]
    exact ⟨_, rfl, .inl ⟨by omega, by omega⟩⟩
  · rw [if_neg (by simp; omega)]
    have := weigh_loop (p := x) (Z := laws_szEntry) (size := szn_Entry) (laws_szEntryS_L1 x) (fun _ _ _ => rfl) (by omega) (fun y hy => weighs_Entry (hx.2 y hy)) (s - x.length) (by omega)
    rw [show (s : Int) - (x.length : Int) = ((s - x.length : Nat) : Int) by omega]
    obtain ⟨r, h1, h2⟩ := this
    refine ⟨r, h1, ?_⟩
    rcases h2 with ⟨h2, h3⟩ | ⟨h2, h3⟩
    · exact .inl ⟨h2, by omega⟩
    · exact .inr ⟨by omega, by rw [h3]; congr 1; omega⟩
def to_EntryS (x : List Tlaws_Entry) : List Timpl_Entry := x.map to_Entry
theorem to_EntryS_ok {x : List Tlaws_Entry} (h : szn_EntryS x ≤ 1048576) : laws_toEntryS x = some (to_EntryS x) := by
  unfold szn_EntryS at h
  unfold laws_toEntryS
  rw [mk_eq _ (by omega)]
  exact copy_loop (F := laws_toEntry) (g := to_Entry) (laws_toEntryS_L1 x) (fun _ _ _ => rfl) (by omega) (fun y hy => to_Entry_ok (by have := mem_sum (f := szn_Entry) hy; omega)) _
theorem sml_to_EntryS {x : List Tlaws_Entry} (hf : fin_EntryS x) (h : szn_EntryS x ≤ 1048576) : sml_EntryS (to_EntryS x) := by
  unfold szn_EntryS at h
  refine ⟨by show (x.map to_Entry).length ≤ _; rw [List.length_map]; omega, fun y hy => ?_⟩
  obtain ⟨b, hb, rfl⟩ := List.mem_map.1 (show y ∈ x.map to_Entry from hy)
  exact sml_to_Entry (hf.2 b hb) (by have := mem_sum (f := szn_Entry) hb; omega)
theorem exact_EntriesOk {a0 : Tlaws_Schema} {a1 : List Tlaws_Entry} (h0 : fin_Schema a0) (h1 : fin_EntryS a1) (hs : sml_Schema (to_Schema a0) → sml_EntryS (to_EntryS a1) → ∃ m, spec_EntriesOk (to_Schema a0) (to_EntryS a1) = some m ∧ impl_EntriesOk (to_Schema a0) (to_EntryS a1) = some m) : laws_FnExactEntriesOk a0 a1 = some true := by
  unfold laws_FnExactEntriesOk
  obtain ⟨r, e0, g0⟩ := weighs_Schema h0 (1048576) (by omega)
  have e0 : laws_szSchema a0 1048576 = some r := e0
  rw [e0]
  simp only [Option.bind_some]
  rcases g0 with ⟨g0, _⟩ | ⟨g0, rfl⟩
  · rw [if_pos (by simpa using g0)]
  · rw [if_neg (by simp)]
    obtain ⟨r, e1, g1⟩ := weighs_EntryS h1 (1048576 - szn_Schema a0) (by omega)
    rw [e1]
    simp only [Option.bind_some]
    rcases g1 with ⟨g1, _⟩ | ⟨g1, rfl⟩
    · rw [if_pos (by simpa using g1)]
    · rw [if_neg (by simp)]
      have s0 := sml_to_Schema h0 (show szn_Schema a0 ≤ 1048576 by omega)
      have s1 := sml_to_EntryS h1 (show szn_EntryS a1 ≤ 1048576 by omega)
      rw [to_Schema_ok (x := a0) (by omega), to_EntryS_ok (x := a1) (by omega)]
      simp only [Option.bind_some]
      obtain ⟨m, e, e'⟩ := hs s0 s1
      rw [e]
      simp only [Option.bind_some]
      rw [e']
      simp [eq_Schema_self (len_of_Schema s0), eq_EntryS_self (len_of_EntryS s1)]
def sml_Past (x : Timpl_Past) : Prop := sml_EntryS x.Tree_ ∧ sml_EntryS x.Young_ ∧ sml_IntS x.Bits_
def len_Past (x : Timpl_Past) : Prop := len_EntryS x.Tree_ ∧ len_EntryS x.Young_ ∧ len_IntS x.Bits_
theorem len_of_Past {x : Timpl_Past} (h : sml_Past x) : len_Past x := by
  obtain ⟨h0, h1, h2⟩ := h
  exact ⟨len_of_EntryS h0, len_of_EntryS h1, len_of_IntS h2⟩
theorem eq_Past_self {x : Timpl_Past} (h : len_Past x) : laws_eqPast x x = some true := by
  obtain ⟨h0, h1, h2⟩ := h
  unfold laws_eqPast
  simp [eq_EntryS_self h0, eq_EntryS_self h1, eq_IntS_self h2]
def szn_Past (x : Tlaws_Past) : Nat := szn_EntryS x.Tree_ + szn_EntryS x.Young_ + szn_IntS x.Bits_
def fin_Past (x : Tlaws_Past) : Prop := fin_EntryS x.Tree_ ∧ fin_EntryS x.Young_ ∧ fin_IntS x.Bits_
def to_Past (x : Tlaws_Past) : Timpl_Past := ⟨to_EntryS x.Tree_, to_EntryS x.Young_, to_IntS x.Bits_⟩
theorem weighs_Past {x : Tlaws_Past} (hx : fin_Past x) : Weighs laws_szPast szn_Past x := fun s hs => by
  obtain ⟨h0, h1, h2⟩ := hx
  unfold laws_szPast szn_Past
  obtain ⟨r, e0, g0⟩ := weighs_EntryS h0 (s) (by omega)
  rw [e0]
  simp only [Option.bind_some]
  rcases g0 with ⟨g0, k0⟩ | ⟨g0, rfl⟩
  · rw [if_pos (by simpa using g0)]; exact ⟨_, rfl, .inl ⟨by omega, by omega⟩⟩
  · rw [if_neg (by simp)]
    obtain ⟨r, e1, g1⟩ := weighs_EntryS h1 (s - szn_EntryS x.Tree_) (by omega)
    rw [e1]
    simp only [Option.bind_some]
    rcases g1 with ⟨g1, k1⟩ | ⟨g1, rfl⟩
    · rw [if_pos (by simpa using g1)]; exact ⟨_, rfl, .inl ⟨by omega, by omega⟩⟩
    · rw [if_neg (by simp)]
      obtain ⟨r, e2, g2⟩ := weighs_IntS h2 (s - szn_EntryS x.Tree_ - szn_EntryS x.Young_) (by omega)
      rw [e2]
      simp only [Option.bind_some]
      rcases g2 with ⟨g2, k2⟩ | ⟨g2, rfl⟩
      · rw [if_pos (by simpa using g2)]; exact ⟨_, rfl, .inl ⟨by omega, by omega⟩⟩
      · rw [if_neg (by simp)]
        exact ⟨_, rfl, .inr ⟨by omega, by first | rfl | (congr 1; omega)⟩⟩
theorem to_Past_ok {x : Tlaws_Past} (h : szn_Past x ≤ 1048576) : laws_toPast x = some (to_Past x) := by
  unfold szn_Past at h
  unfold laws_toPast
  rw [to_EntryS_ok (x := x.Tree_) (by omega), to_EntryS_ok (x := x.Young_) (by omega), to_IntS_ok (x := x.Bits_) (by omega)]
  rfl
theorem sml_to_Past {x : Tlaws_Past} (hf : fin_Past x) (h : szn_Past x ≤ 1048576) : sml_Past (to_Past x) := by
  unfold szn_Past at h
  obtain ⟨h0, h1, h2⟩ := hf
  exact ⟨sml_to_EntryS h0 (show szn_EntryS x.Tree_ ≤ 1048576 by omega), sml_to_EntryS h1 (show szn_EntryS x.Young_ ≤ 1048576 by omega), sml_to_IntS h2 (show szn_IntS x.Bits_ ≤ 1048576 by omega)⟩
def sml_PastS (x : List Timpl_Past) : Prop := x.length ≤ 1048576 ∧ ∀ y ∈ x, sml_Past y
def len_PastS (x : List Timpl_Past) : Prop := x.length < 1000000000000 ∧ ∀ y ∈ x, len_Past y
theorem len_of_PastS {x : List Timpl_Past} (h : sml_PastS x) : len_PastS x := ⟨by have := h.1; omega, fun y hy => len_of_Past (h.2 y hy)⟩
theorem eq_PastS_self {x : List Timpl_Past} (h : len_PastS x) : laws_eqPastS x x = some true := by
  unfold laws_eqPastS
  rw [if_neg (by simp)]
  refine same_loop (p := x) (laws_eqPastS_L1 x x) (fun e o => (laws_eqPast e e).bind fun y => if (!y) then some false else o) (fun k i => ?_) h.1 (fun y hy o => by rw [eq_Past_self (h.2 y hy)]; rfl)
  show (if _ then _ else _) = _
  cases h : idx x i with
  | none => rfl
  | some e => rfl
def szn_PastS (x : List Tlaws_Past) : Nat := x.length + (x.map szn_Past).sum
def fin_PastS (x : List Tlaws_Past) : Prop := x.length ≤ maxLen ∧ ∀ y ∈ x, fin_Past y
theorem weighs_PastS {x : List Tlaws_Past} (hx : fin_PastS x) : Weighs laws_szPastS szn_PastS x := fun s hs => by
  have h0 := lt63 hx.1
  unfold laws_szPastS szn_PastS
  rw [wrap_id (n := (s : Int) - (x.length : Int)) (by omega) (by omega)]
  by_cases h : s < x.length
  · rw [if_pos (by simp; omega)]
    exact ⟨_, rfl, .inl ⟨by omega, by omega⟩⟩
  · rw [if_neg (by simp; omega)]
    have := weigh_loop (p := x) (Z := laws_szPast) (size := szn_Past) (laws_szPastS_L1 x) (fun _ _ _ => rfl) (by omega) (fun y hy => weighs_Past (hx.2 y hy)) (s - x.length) (by omega)
    rw [show (s : Int) - (x.length : Int) = ((s - x.length : Nat) : Int) by omega]
    obtain ⟨r, h1, h2⟩ := this
    refine ⟨r, h1, ?_⟩
    rcases h2 with ⟨h2, h3⟩ | ⟨h2, h3⟩
    · exact .inl ⟨h2, by omega⟩
    · exact .inr ⟨by omega, by rw [h3]; congr 1; omega⟩
def to_PastS (x : List Tlaws_Past) : List Timpl_Past := x.map to_Past
theorem to_PastS_ok {x : List Tlaws_Past} (h : szn_PastS x ≤ 1048576) : laws_toPastS x = some (to_PastS x) := by
  unfold szn_PastS at h
  unfold laws_toPastS
  rw [mk_eq _ (by omega)]
  exact copy_loop (F := laws_toPast) (g := to_Past) (laws_toPastS_L1 x) (fun _ _ _ => rfl) (by omega) (fun y hy => to_Past_ok (by have := mem_sum (f := szn_Past) hy; omega)) _
theorem sml_to_PastS {x : List Tlaws_Past} (hf : fin_PastS x) (h : szn_PastS x ≤ 1048576) : sml_PastS (to_PastS x) := by
  unfold szn_PastS at h
  refine ⟨by show (x.map to_Past).length ≤ _; rw [List.length_map]; omega, fun y hy => ?_⟩
  obtain ⟨b, hb, rfl⟩ := List.mem_map.1 (show y ∈ x.map to_Past from hy)
  exact sml_to_Past (hf.2 b hb) (by have := mem_sum (f := szn_Past) hb; omega)
def sml_Step (x : Timpl_Step) : Prop := (-9223372036854775808 ≤ x.Said_ ∧ x.Said_ ≤ 9223372036854775807) ∧ (-9223372036854775808 ≤ x.Bit_ ∧ x.Bit_ ≤ 9223372036854775807) ∧ (-9223372036854775808 ≤ x.Weight_ ∧ x.Weight_ ≤ 9223372036854775807) ∧ (-9223372036854775808 ≤ x.Grow_ ∧ x.Grow_ ≤ 9223372036854775807) ∧ (-9223372036854775808 ≤ x.Young_ ∧ x.Young_ ≤ 9223372036854775807) ∧ (-9223372036854775808 ≤ x.Det_ ∧ x.Det_ ≤ 9223372036854775807) ∧ True ∧ True
theorem eq_Step_self {x : Timpl_Step} : laws_eqStep x x = some true := by
  unfold laws_eqStep
  simp
def fin_Step (x : Tlaws_Step) : Prop := IntOk .i64 x.Said_ ∧ IntOk .i64 x.Bit_ ∧ IntOk .i64 x.Weight_ ∧ IntOk .i64 x.Grow_ ∧ IntOk .i64 x.Young_ ∧ IntOk .i64 x.Det_ ∧ True ∧ True
def to_Step (x : Tlaws_Step) : Timpl_Step := ⟨x.Said_, x.Bit_, x.Weight_, x.Grow_, x.Young_, x.Det_, x.Began_, x.Swapped_⟩
theorem to_Step_ok {x : Tlaws_Step} : laws_toStep x = some (to_Step x) := by
  unfold laws_toStep
  rfl
theorem sml_to_Step {x : Tlaws_Step} (hf : fin_Step x) : sml_Step (to_Step x) := by
  obtain ⟨h0, h1, h2, h3, h4, h5, _, _⟩ := hf
  exact ⟨i64_of h0, i64_of h1, i64_of h2, i64_of h3, i64_of h4, i64_of h5, trivial, trivial⟩
def sml_StepS (x : List Timpl_Step) : Prop := x.length ≤ 1048576 ∧ ∀ y ∈ x, sml_Step y
def len_StepS (x : List Timpl_Step) : Prop := x.length < 1000000000000
theorem len_of_StepS {x : List Timpl_Step} (h : sml_StepS x) : len_StepS x := by have := h.1; unfold len_StepS; omega
theorem eq_StepS_self {x : List Timpl_Step} (h : len_StepS x) : laws_eqStepS x x = some true := by
  unfold laws_eqStepS
  rw [if_neg (by simp)]
  refine same_loop (p := x) (laws_eqStepS_L1 x x) (fun e o => (laws_eqStep e e).bind fun y => if (!y) then some false else o) (fun k i => ?_) h (fun y _ o => by rw [eq_Step_self]; rfl)
  show (if _ then _ else _) = _
  cases h : idx x i with
  | none => rfl
  | some e => rfl
def szn_StepS (x : List Tlaws_Step) : Nat := x.length
def fin_StepS (x : List Tlaws_Step) : Prop := x.length ≤ maxLen ∧ ∀ y ∈ x, fin_Step y
theorem weighs_StepS {x : List Tlaws_Step} (hx : fin_StepS x) : Weighs laws_szStepS szn_StepS x := fun s hs => by
  obtain ⟨r, h1, h2⟩ := weigh_list (p := x) s hs
  exact ⟨r, h1, h2 (lt63 hx.1)⟩
def to_StepS (x : List Tlaws_Step) : List Timpl_Step := x.map to_Step
theorem to_StepS_ok {x : List Tlaws_Step} (h : szn_StepS x ≤ 1048576) : laws_toStepS x = some (to_StepS x) := by
  unfold szn_StepS at h
  unfold laws_toStepS
  rw [mk_eq _ (by omega)]
  exact copy_loop (F := laws_toStep) (g := to_Step) (laws_toStepS_L1 x) (fun _ _ _ => rfl) (by omega) (fun y _ => to_Step_ok) _
theorem sml_to_StepS {x : List Tlaws_Step} (hf : fin_StepS x) (h : szn_StepS x ≤ 1048576) : sml_StepS (to_StepS x) := by
  unfold szn_StepS at h
  refine ⟨by show (x.map to_Step).length ≤ _; rw [List.length_map]; omega, fun y hy => ?_⟩
  obtain ⟨b, hb, rfl⟩ := List.mem_map.1 (show y ∈ x.map to_Step from hy)
  exact sml_to_Step (hf.2 b hb)
def mc_IntS (x : List Int) : Nat := (x.map fun _ => 1).sum
theorem mcm_IntS {x : List Int} {y} (h : y ∈ x) : 1 ≤ mc_IntS x := mem_sum (f := fun _ => 1) h
theorem mcl_IntS {x : List Int} : x.length ≤ mc_IntS x := sum_len (fun y => by show 1 ≤ 1; omega)
theorem marks_IntS {x : List Int} (hl : len_IntS x) (_ : mc_IntS x ≤ 1000000000000000000) : Marks laws_markIntS laws_heldIntS (mc_IntS x) x := by
  unfold laws_markIntS laws_heldIntS
  refine marks_loop2 (p := x) (c := fun _ => 1) (laws_markIntS_L1 x) (fun q => laws_heldIntS_L1 q) (fun k l m i h0 => by
    rw [laws_markIntS_L1, if_neg h0]) (fun q k m i h0 => by rw [laws_heldIntS_L1, if_neg h0]) hl (fun x _ m hm => ?_)
  · skip
    have hm : m + (1) < 4611686018427387904 := hm
    have w1 := wrap_succ (i := m) (by omega)
    refine ⟨(m + 1), ((m : Nat) : Int), fun k l i h0 h1 => ?_, fun q k i h0 h1 => ?_, by omega, by omega⟩
    · rw [laws_markIntS_L1, if_pos h0, h1]
      simp only [Option.bind_some, w1]
    · rw [laws_heldIntS_L1, if_pos h0]
      simp only [h1, Option.bind_some, bne_self_eq_false, Bool.false_eq_true, if_false, w1]
def mc_EntryS (x : List Timpl_Entry) : Nat := (x.map fun y => 2 + mc_IntS y.Ex_.Bins_).sum
theorem mcm_EntryS {x : List Timpl_Entry} {y} (h : y ∈ x) : 2 + mc_IntS y.Ex_.Bins_ ≤ mc_EntryS x := mem_sum (f := fun y => 2 + mc_IntS y.Ex_.Bins_) h
theorem mcl_EntryS {x : List Timpl_Entry} : x.length ≤ mc_EntryS x := sum_len (fun y => by show 1 ≤ 2 + mc_IntS y.Ex_.Bins_; omega)
theorem marks_EntryS {x : List Timpl_Entry} (hl : len_EntryS x) (h : mc_EntryS x ≤ 1000000000000000000) : Marks laws_markEntryS laws_heldEntryS (mc_EntryS x) x := by
  unfold laws_markEntryS laws_heldEntryS
  refine marks_loop2 (p := x) (c := fun y => 2 + mc_IntS y.Ex_.Bins_) (laws_markEntryS_L1 x) (fun q => laws_heldEntryS_L1 q) (fun k l m i h0 => by
    rw [laws_markEntryS_L1, if_neg h0]) (fun q k m i h0 => by rw [laws_heldEntryS_L1, if_neg h0]) hl.1 (fun x hx m hm => ?_)
  · have hy := mcm_EntryS hx
    have hm : m + (2 + mc_IntS x.Ex_.Bins_) < 4611686018427387904 := hm
    obtain ⟨m1, z1, a1, b1, c1, d1⟩ := marks_IntS (x := x.Ex_.Bins_) (hl.2 x hx) (by omega) m (by omega)
    have w2 := wrap_succ (i := m1) (by omega)
    have w3 := wrap_succ (i := (m1 + 1)) (by omega)
    refine ⟨((m1 + 1) + 1), (Timpl_Entry.mk (Timpl_Ex.mk z1 ((m1 : Nat) : Int)) (((m1 + 1) : Nat) : Int)), fun k l i h0 h1 => ?_, fun q k i h0 h1 => ?_, by omega, by omega⟩
    · rw [laws_markEntryS_L1, if_pos h0, h1]
      simp only [Option.bind_some, a1, w2, w3]
    · rw [laws_heldEntryS_L1, if_pos h0]
      simp only [h1, Option.bind_some, bne_self_eq_false, Bool.false_eq_true, if_false, nat_neg, decide_false, w2, w3, b1]
def mc_PastS (x : List Timpl_Past) : Nat := (x.map fun y => 1 + mc_EntryS y.Tree_ + mc_EntryS y.Young_ + mc_IntS y.Bits_).sum
theorem mcm_PastS {x : List Timpl_Past} {y} (h : y ∈ x) : 1 + mc_EntryS y.Tree_ + mc_EntryS y.Young_ + mc_IntS y.Bits_ ≤ mc_PastS x := mem_sum (f := fun y => 1 + mc_EntryS y.Tree_ + mc_EntryS y.Young_ + mc_IntS y.Bits_) h
theorem mcl_PastS {x : List Timpl_Past} : x.length ≤ mc_PastS x := sum_len (fun y => by show 1 ≤ 1 + mc_EntryS y.Tree_ + mc_EntryS y.Young_ + mc_IntS y.Bits_; omega)
theorem marks_PastS {x : List Timpl_Past} (hl : len_PastS x) (h : mc_PastS x ≤ 1000000000000000000) : Marks laws_markPastS laws_heldPastS (mc_PastS x) x := by
  unfold laws_markPastS laws_heldPastS
  refine marks_loop2 (p := x) (c := fun y => 1 + mc_EntryS y.Tree_ + mc_EntryS y.Young_ + mc_IntS y.Bits_) (laws_markPastS_L1 x) (fun q => laws_heldPastS_L1 q) (fun k l m i h0 => by
    rw [laws_markPastS_L1, if_neg h0]) (fun q k m i h0 => by rw [laws_heldPastS_L1, if_neg h0]) hl.1 (fun x hx m hm => ?_)
  · have hy := mcm_PastS hx
    have hm : m + (1 + mc_EntryS x.Tree_ + mc_EntryS x.Young_ + mc_IntS x.Bits_) < 4611686018427387904 := hm
    obtain ⟨m1, z1, a1, b1, c1, d1⟩ := marks_EntryS (x := x.Tree_) (hl.2 x hx).1 (by omega) m (by omega)
    obtain ⟨m2, z2, a2, b2, c2, d2⟩ := marks_EntryS (x := x.Young_) (hl.2 x hx).2.1 (by omega) m1 (by omega)
    obtain ⟨m3, z3, a3, b3, c3, d3⟩ := marks_IntS (x := x.Bits_) (hl.2 x hx).2.2 (by omega) m2 (by omega)
    refine ⟨m3, (Timpl_Past.mk z1 z2 z3), fun k l i h0 h1 => ?_, fun q k i h0 h1 => ?_, by omega, by omega⟩
    · rw [laws_markPastS_L1, if_pos h0, h1]
      simp only [Option.bind_some, a1, a2, a3]
    · rw [laws_heldPastS_L1, if_pos h0]
      simp only [h1, Option.bind_some, Bool.false_eq_true, if_false, nat_neg, decide_false, b1, b2, b3]
theorem mcb_IntS {x : List Int} : mc_IntS (to_IntS x) ≤ 16 * szn_IntS x := by
  unfold mc_IntS szn_IntS to_IntS
  rw [sum_ones']
  omega
theorem mcb_EntryS {x : List Tlaws_Entry} : mc_EntryS (to_EntryS x) ≤ 16 * szn_EntryS x := by
  unfold mc_EntryS szn_EntryS to_EntryS
  rw [List.map_map]
  refine Nat.le_trans (sum_le16 (g := fun y => szn_Entry y) (fun y _ => ?_)) (by first | omega | (rw [sum_zero]; omega) | exact Nat.le_refl _)
  show 2 + mc_IntS (to_IntS y.Ex_.Bins_) ≤ 16 * (1 + ((szn_IntS y.Ex_.Bins_)))
  have := mcb_IntS (x := y.Ex_.Bins_)
  omega
theorem mcb_PastS {x : List Tlaws_Past} : mc_PastS (to_PastS x) ≤ 16 * szn_PastS x := by
  unfold mc_PastS szn_PastS to_PastS
  rw [List.map_map]
  refine Nat.le_trans (sum_le16 (g := fun y => szn_Past y) (fun y _ => ?_)) (by first | omega | (rw [sum_zero]; omega) | exact Nat.le_refl _)
  show 1 + mc_EntryS (to_EntryS y.Tree_) + mc_EntryS (to_EntryS y.Young_) + mc_IntS (to_IntS y.Bits_) ≤ 16 * (1 + (szn_EntryS y.Tree_ + szn_EntryS y.Young_ + szn_IntS y.Bits_))
  have := mcb_EntryS (x := y.Tree_)
  have := mcb_EntryS (x := y.Young_)
  have := mcb_IntS (x := y.Bits_)
  omega
def mc_Ex (x : Timpl_Ex) : Nat := mc_IntS x.Bins_
theorem marks_Ex {x : Timpl_Ex} (hl : len_Ex x) (h : mc_Ex x ≤ 1000000000000000000) : MarksM laws_markEx (mc_Ex x) x := fun m hm => by
  unfold mc_Ex at h hm ⊢
  obtain ⟨m0, z0, a0, b0, c0, d0⟩ := marks_IntS (x := x.Bins_) hl (by omega) m (by omega)
  unfold laws_markEx
  refine ⟨m0, ⟨z0, x.Class_⟩, ?_, by omega, by omega⟩
  simp only [Option.bind_some, a0]
theorem mcb_Ex {x : Tlaws_Ex} : mc_Ex (to_Ex x) ≤ 16 * szn_Ex x := by
  have := mcb_IntS (x := x.Bins_)
  unfold mc_Ex szn_Ex to_Ex
  show mc_IntS (to_IntS x.Bins_) ≤ 16 * (szn_IntS x.Bins_)
  omega
def mc_StepS (x : List Timpl_Step) : Nat := (x.map fun _ => 8).sum
theorem mcm_StepS {x : List Timpl_Step} {y} (h : y ∈ x) : 8 ≤ mc_StepS x := mem_sum (f := fun _ => 8) h
theorem mcl_StepS {x : List Timpl_Step} : x.length ≤ mc_StepS x := sum_len (fun y => by show 1 ≤ 8; omega)
theorem marks_StepS {x : List Timpl_Step} (hl : len_StepS x) (_ : mc_StepS x ≤ 1000000000000000000) : MarksM laws_markStepS (mc_StepS x) x := by
  unfold laws_markStepS
  refine markM_loop (p := x) (c := fun _ => 8) (laws_markStepS_L1 x) (fun k l m i h0 => by
    rw [laws_markStepS_L1, if_neg h0]) hl (fun x _ m hm => ?_)
  · skip
    have hm : m + (8) < 4611686018427387904 := hm
    have w1 := wrap_succ (i := m) (by omega)
    have w2 := wrap_succ (i := (m + 1)) (by omega)
    have w3 := wrap_succ (i := ((m + 1) + 1)) (by omega)
    have w4 := wrap_succ (i := (((m + 1) + 1) + 1)) (by omega)
    have w5 := wrap_succ (i := ((((m + 1) + 1) + 1) + 1)) (by omega)
    have w6 := wrap_succ (i := (((((m + 1) + 1) + 1) + 1) + 1)) (by omega)
    have w7 := wrap_succ (i := ((((((m + 1) + 1) + 1) + 1) + 1) + 1)) (by omega)
    have w8 := wrap_succ (i := (((((((m + 1) + 1) + 1) + 1) + 1) + 1) + 1)) (by omega)
    refine ⟨((((((((m + 1) + 1) + 1) + 1) + 1) + 1) + 1) + 1), (Timpl_Step.mk ((m : Nat) : Int) (((m + 1) : Nat) : Int) ((((m + 1) + 1) : Nat) : Int) (((((m + 1) + 1) + 1) : Nat) : Int) ((((((m + 1) + 1) + 1) + 1) : Nat) : Int) (((((((m + 1) + 1) + 1) + 1) + 1) : Nat) : Int) (Int.tmod ((((((((m + 1) + 1) + 1) + 1) + 1) + 1) : Nat) : Int) 3 == 0) (Int.tmod (((((((((m + 1) + 1) + 1) + 1) + 1) + 1) + 1) : Nat) : Int) 3 == 0)), fun k l i h0 h1 => ?_, by omega, by omega⟩
    · rw [laws_markStepS_L1, if_pos h0, h1]
      simp only [Option.bind_some, w1, w2, w3, w4, w5, w6, w7, w8]
theorem mcb_StepS {x : List Tlaws_Step} : mc_StepS (to_StepS x) ≤ 16 * szn_StepS x := by
  unfold mc_StepS szn_StepS to_StepS
  rw [List.map_map]
  refine Nat.le_trans (sum_le16 (g := fun _ => 0) (fun y _ => ?_)) (by first | omega | (rw [sum_zero]; omega) | exact Nat.le_refl _)
  show 8 ≤ 16 * (1 + 0)
  omega
theorem exact_Follow {a0 : List Tlaws_Past} {a1 : Tlaws_Ex} {a2 : List Tlaws_Step} (h0 : fin_PastS a0) (h1 : fin_Ex a1) (h2 : fin_StepS a2) (hs : sml_PastS (to_PastS a0) → sml_Ex (to_Ex a1) → sml_StepS (to_StepS a2) → mc_PastS (to_PastS a0) ≤ 16777216 → mc_Ex (to_Ex a1) ≤ 16777216 → mc_StepS (to_StepS a2) ≤ 16777216 → ∃ m, spec_Follow (to_PastS a0) (to_Ex a1) (to_StepS a2) = some m ∧ impl_Follow (to_PastS a0) (to_Ex a1) (to_StepS a2) = some m ∧ len_PastS m ∧ mc_PastS m ≤ 1000000000000000000) : laws_FnExactFollow a0 a1 a2 = some true := by
  unfold laws_FnExactFollow
  obtain ⟨r, e0, g0⟩ := weighs_PastS h0 (1048576) (by omega)
  have e0 : laws_szPastS a0 1048576 = some r := e0
  rw [e0]
  simp only [Option.bind_some]
  rcases g0 with ⟨g0, _⟩ | ⟨g0, rfl⟩
  · rw [if_pos (by simpa using g0)]
  · rw [if_neg (by simp)]
    obtain ⟨r, e1, g1⟩ := weighs_Ex h1 (1048576 - szn_PastS a0) (by omega)
    rw [e1]
    simp only [Option.bind_some]
    rcases g1 with ⟨g1, _⟩ | ⟨g1, rfl⟩
    · rw [if_pos (by simpa using g1)]
    · rw [if_neg (by simp)]
      obtain ⟨r, e2, g2⟩ := weighs_StepS h2 (1048576 - szn_PastS a0 - szn_Ex a1) (by omega)
      rw [e2]
      simp only [Option.bind_some]
      rcases g2 with ⟨g2, _⟩ | ⟨g2, rfl⟩
      · rw [if_pos (by simpa using g2)]
      · rw [if_neg (by simp)]
        have s0 := sml_to_PastS h0 (show szn_PastS a0 ≤ 1048576 by omega)
        have s1 := sml_to_Ex h1 (show szn_Ex a1 ≤ 1048576 by omega)
        have s2 := sml_to_StepS h2 (show szn_StepS a2 ≤ 1048576 by omega)
        rw [to_PastS_ok (x := a0) (by omega), to_Ex_ok (x := a1) (by omega), to_StepS_ok (x := a2) (by omega)]
        simp only [Option.bind_some]
        obtain ⟨m, e, e', l0, q0⟩ := hs s0 s1 s2 (by have := mcb_PastS (x := a0); omega) (by have := mcb_Ex (x := a1); omega) (by have := mcb_StepS (x := a2); omega)
        have b0 := mcb_PastS (x := a0)
        obtain ⟨k1, z1, p1, _, _, _⟩ := marks_PastS (x := to_PastS a0) (len_of_PastS s0) (by omega) 1 (by omega)
        have p1 : laws_markPastS (to_PastS a0) 1 = some ((k1 : Int), z1) := p1
        have b1 := mcb_Ex (x := a1)
        obtain ⟨k2, z2, p2, _, _⟩ := marks_Ex (x := to_Ex a1) (len_of_Ex s1) (by omega) k1 (by omega)
        have b2 := mcb_StepS (x := a2)
        obtain ⟨k3, z3, p3, _, _⟩ := marks_StepS (x := to_StepS a2) (len_of_StepS s2) (by omega) k2 (by omega)
        obtain ⟨r1, y1, c1, d1, _, _⟩ := marks_PastS (x := m) l0 (by omega) 1 (by omega)
        have c1 : laws_markPastS m 1 = some ((r1 : Int), y1) := c1
        have d1 : laws_heldPastS y1 1 = some (r1 : Int) := d1
        rw [e]
        simp only [Option.bind_some]
        rw [e']
        simp [eq_PastS_self (len_of_PastS s0), eq_Ex_self (len_of_Ex s1), eq_StepS_self (len_of_StepS s2), eq_PastS_self l0, p1, p2, p3, c1, d1, nat_neg]
theorem exact_FullMask {a0 : Tlaws_Attr} (h0 : fin_Attr a0) (hs : sml_Attr (to_Attr a0) → ∃ m, spec_FullMask (to_Attr a0) = some m ∧ impl_FullMask (to_Attr a0) = some m) : laws_FnExactFullMask a0 = some true := by
  unfold laws_FnExactFullMask
  obtain ⟨r, e0, g0⟩ := weighs_Attr h0 (1048576) (by omega)
  have e0 : laws_szAttr a0 1048576 = some r := e0
  rw [e0]
  simp only [Option.bind_some]
  rcases g0 with ⟨g0, _⟩ | ⟨g0, rfl⟩
  · rw [if_pos (by simpa using g0)]
  · rw [if_neg (by simp)]
    have s0 := sml_to_Attr h0 (show szn_Attr a0 ≤ 1048576 by omega)
    rw [to_Attr_ok (x := a0) (by omega)]
    simp only [Option.bind_some]
    obtain ⟨m, e, e'⟩ := hs s0
    rw [e]
    simp only [Option.bind_some]
    rw [e']
    simp [eq_Attr_self (len_of_Attr s0)]
def sml_ByteS (x : List Int) : Prop := x.length ≤ 1048576 ∧ ∀ y ∈ x, (0 ≤ y ∧ y ≤ 255)
def len_ByteS (x : List Int) : Prop := x.length < 1000000000000
theorem len_of_ByteS {x : List Int} (h : sml_ByteS x) : len_ByteS x := by have := h.1; unfold len_ByteS; omega
theorem eq_ByteS_self {x : List Int} (h : len_ByteS x) : laws_eqByteS x x = some true := by
  unfold laws_eqByteS
  rw [if_neg (by simp)]
  refine same_loop (p := x) (laws_eqByteS_L1 x x) (fun _ o => o) (fun k i => ?_) h (fun _ _ _ => rfl)
  show (if _ then _ else _) = _
  cases h : idx x i with
  | none => rfl
  | some e => simp only [Option.bind_some, bne_self_eq_false, Bool.false_eq_true, if_false]
def szn_ByteS (x : List Int) : Nat := x.length
def fin_ByteS (x : List Int) : Prop := x.length ≤ maxLen ∧ ∀ y ∈ x, IntOk .u8 y
theorem weighs_ByteS {x : List Int} (hx : fin_ByteS x) : Weighs laws_szByteS szn_ByteS x := fun s hs => by
  obtain ⟨r, h1, h2⟩ := weigh_list (p := x) s hs
  exact ⟨r, h1, h2 (lt63 hx.1)⟩
def to_ByteS (x : List Int) : List Int := x
theorem to_ByteS_ok {x : List Int} (h : szn_ByteS x ≤ 1048576) : laws_toByteS x = some (to_ByteS x) := by
  unfold szn_ByteS at h
  unfold laws_toByteS
  rw [mk_eq _ (by omega)]
  exact (copy_loop (F := some) (g := id) (laws_toByteS_L1 x) (fun _ _ _ => rfl) (by omega) (fun _ _ => rfl) _).trans (by rw [List.map_id]; rfl)
theorem sml_to_ByteS {x : List Int} (hf : fin_ByteS x) (h : szn_ByteS x ≤ 1048576) : sml_ByteS (to_ByteS x) := by
  unfold szn_ByteS at h
  exact ⟨by show x.length ≤ _; omega, fun y hy => u8_of (hf.2 y hy)⟩
def sml_Reply (x : Timpl_Reply) : Prop := (-9223372036854775808 ≤ x.Code_ ∧ x.Code_ ≤ 9223372036854775807) ∧ (-9223372036854775808 ≤ x.At_ ∧ x.At_ ≤ 9223372036854775807) ∧ (-9223372036854775808 ≤ x.Says_ ∧ x.Says_ ≤ 9223372036854775807) ∧ sml_IntS x.Votes_ ∧ sml_ByteS x.Bytes_ ∧ sml_StepS x.Steps_
def len_Reply (x : Timpl_Reply) : Prop := len_IntS x.Votes_ ∧ len_ByteS x.Bytes_ ∧ len_StepS x.Steps_
theorem len_of_Reply {x : Timpl_Reply} (h : sml_Reply x) : len_Reply x := by
  obtain ⟨_, _, _, h3, h4, h5⟩ := h
  exact ⟨len_of_IntS h3, len_of_ByteS h4, len_of_StepS h5⟩
theorem eq_Reply_self {x : Timpl_Reply} (h : len_Reply x) : laws_eqReply x x = some true := by
  obtain ⟨h3, h4, h5⟩ := h
  unfold laws_eqReply
  simp [eq_IntS_self h3, eq_ByteS_self h4, eq_StepS_self h5]
def szn_Reply (x : Tlaws_Reply) : Nat := szn_IntS x.Votes_ + szn_ByteS x.Bytes_ + szn_StepS x.Steps_
def fin_Reply (x : Tlaws_Reply) : Prop := IntOk .i64 x.Code_ ∧ IntOk .i64 x.At_ ∧ IntOk .i64 x.Says_ ∧ fin_IntS x.Votes_ ∧ fin_ByteS x.Bytes_ ∧ fin_StepS x.Steps_
def to_Reply (x : Tlaws_Reply) : Timpl_Reply := ⟨x.Code_, x.At_, x.Says_, to_IntS x.Votes_, to_ByteS x.Bytes_, to_StepS x.Steps_⟩
theorem weighs_Reply {x : Tlaws_Reply} (hx : fin_Reply x) : Weighs laws_szReply szn_Reply x := fun s hs => by
  obtain ⟨_, _, _, h3, h4, h5⟩ := hx
  unfold laws_szReply szn_Reply
  obtain ⟨r, e3, g3⟩ := weighs_IntS h3 (s) (by omega)
  rw [e3]
  simp only [Option.bind_some]
  rcases g3 with ⟨g3, k3⟩ | ⟨g3, rfl⟩
  · rw [if_pos (by simpa using g3)]; exact ⟨_, rfl, .inl ⟨by omega, by omega⟩⟩
  · rw [if_neg (by simp)]
    obtain ⟨r, e4, g4⟩ := weighs_ByteS h4 (s - szn_IntS x.Votes_) (by omega)
    rw [e4]
    simp only [Option.bind_some]
    rcases g4 with ⟨g4, k4⟩ | ⟨g4, rfl⟩
    · rw [if_pos (by simpa using g4)]; exact ⟨_, rfl, .inl ⟨by omega, by omega⟩⟩
    · rw [if_neg (by simp)]
      obtain ⟨r, e5, g5⟩ := weighs_StepS h5 (s - szn_IntS x.Votes_ - szn_ByteS x.Bytes_) (by omega)
      rw [e5]
      simp only [Option.bind_some]
      rcases g5 with ⟨g5, k5⟩ | ⟨g5, rfl⟩
      · rw [if_pos (by simpa using g5)]; exact ⟨_, rfl, .inl ⟨by omega, by omega⟩⟩
      · rw [if_neg (by simp)]
        exact ⟨_, rfl, .inr ⟨by omega, by first | rfl | (congr 1; omega)⟩⟩
theorem to_Reply_ok {x : Tlaws_Reply} (h : szn_Reply x ≤ 1048576) : laws_toReply x = some (to_Reply x) := by
  unfold szn_Reply at h
  unfold laws_toReply
  rw [to_IntS_ok (x := x.Votes_) (by omega), to_ByteS_ok (x := x.Bytes_) (by omega), to_StepS_ok (x := x.Steps_) (by omega)]
  rfl
theorem sml_to_Reply {x : Tlaws_Reply} (hf : fin_Reply x) (h : szn_Reply x ≤ 1048576) : sml_Reply (to_Reply x) := by
  unfold szn_Reply at h
  obtain ⟨h0, h1, h2, h3, h4, h5⟩ := hf
  exact ⟨i64_of h0, i64_of h1, i64_of h2, sml_to_IntS h3 (show szn_IntS x.Votes_ ≤ 1048576 by omega), sml_to_ByteS h4 (show szn_ByteS x.Bytes_ ≤ 1048576 by omega), sml_to_StepS h5 (show szn_StepS x.Steps_ ≤ 1048576 by omega)⟩
theorem exact_ReplySame {a0 : Tlaws_Reply} {a1 : Tlaws_Reply} (h0 : fin_Reply a0) (h1 : fin_Reply a1) (hs : sml_Reply (to_Reply a0) → sml_Reply (to_Reply a1) → ∃ m, spec_ReplySame (to_Reply a0) (to_Reply a1) = some m ∧ impl_ReplySame (to_Reply a0) (to_Reply a1) = some m) : laws_FnExactReplySame a0 a1 = some true := by
  unfold laws_FnExactReplySame
  obtain ⟨r, e0, g0⟩ := weighs_Reply h0 (1048576) (by omega)
  have e0 : laws_szReply a0 1048576 = some r := e0
  rw [e0]
  simp only [Option.bind_some]
  rcases g0 with ⟨g0, _⟩ | ⟨g0, rfl⟩
  · rw [if_pos (by simpa using g0)]
  · rw [if_neg (by simp)]
    obtain ⟨r, e1, g1⟩ := weighs_Reply h1 (1048576 - szn_Reply a0) (by omega)
    rw [e1]
    simp only [Option.bind_some]
    rcases g1 with ⟨g1, _⟩ | ⟨g1, rfl⟩
    · rw [if_pos (by simpa using g1)]
    · rw [if_neg (by simp)]
      have s0 := sml_to_Reply h0 (show szn_Reply a0 ≤ 1048576 by omega)
      have s1 := sml_to_Reply h1 (show szn_Reply a1 ≤ 1048576 by omega)
      rw [to_Reply_ok (x := a0) (by omega), to_Reply_ok (x := a1) (by omega)]
      simp only [Option.bind_some]
      obtain ⟨m, e, e'⟩ := hs s0 s1
      rw [e]
      simp only [Option.bind_some]
      rw [e']
      simp [eq_Reply_self (len_of_Reply s0), eq_Reply_self (len_of_Reply s1)]
def sml_Way (x : Timpl_Way) : Prop := (-9223372036854775808 ≤ x.Leaf_ ∧ x.Leaf_ ≤ 9223372036854775807) ∧ sml_IntS x.Masks_
def len_Way (x : Timpl_Way) : Prop := len_IntS x.Masks_
theorem len_of_Way {x : Timpl_Way} (h : sml_Way x) : len_Way x := by
  obtain ⟨_, h1⟩ := h
  exact len_of_IntS h1
theorem eq_Way_self {x : Timpl_Way} (h : len_Way x) : laws_eqWay x x = some true := by
  have h1 : len_IntS x.Masks_ := h
  unfold laws_eqWay
  simp [eq_IntS_self h1]
def szn_Way (x : Tlaws_Way) : Nat := szn_IntS x.Masks_
def fin_Way (x : Tlaws_Way) : Prop := IntOk .i64 x.Leaf_ ∧ fin_IntS x.Masks_
def to_Way (x : Tlaws_Way) : Timpl_Way := ⟨x.Leaf_, to_IntS x.Masks_⟩
theorem weighs_Way {x : Tlaws_Way} (hx : fin_Way x) : Weighs laws_szWay szn_Way x := fun s hs => by
  obtain ⟨_, h1⟩ := hx
  unfold laws_szWay szn_Way
  obtain ⟨r, e1, g1⟩ := weighs_IntS h1 (s) (by omega)
  rw [e1]
  simp only [Option.bind_some]
  rcases g1 with ⟨g1, k1⟩ | ⟨g1, rfl⟩
  · rw [if_pos (by simpa using g1)]; exact ⟨_, rfl, .inl ⟨by omega, by omega⟩⟩
  · rw [if_neg (by simp)]
    exact ⟨_, rfl, .inr ⟨by omega, by first | rfl | (congr 1; omega)⟩⟩
theorem to_Way_ok {x : Tlaws_Way} (h : szn_Way x ≤ 1048576) : laws_toWay x = some (to_Way x) := by
  unfold szn_Way at h
  unfold laws_toWay
  rw [to_IntS_ok (x := x.Masks_) (by omega)]
  rfl
theorem sml_to_Way {x : Tlaws_Way} (hf : fin_Way x) (h : szn_Way x ≤ 1048576) : sml_Way (to_Way x) := by
  unfold szn_Way at h
  obtain ⟨h0, h1⟩ := hf
  exact ⟨i64_of h0, sml_to_IntS h1 (show szn_IntS x.Masks_ ≤ 1048576 by omega)⟩
theorem exact_WayMeets {a0 : Tlaws_Schema} {a1 : Tlaws_Way} {a2 : Tlaws_Ex} (h0 : fin_Schema a0) (h1 : fin_Way a1) (h2 : fin_Ex a2) (hs : sml_Schema (to_Schema a0) → sml_Way (to_Way a1) → sml_Ex (to_Ex a2) → ∃ m, spec_WayMeets (to_Schema a0) (to_Way a1) (to_Ex a2) = some m ∧ impl_WayMeets (to_Schema a0) (to_Way a1) (to_Ex a2) = some m) : laws_FnExactWayMeets a0 a1 a2 = some true := by
  unfold laws_FnExactWayMeets
  obtain ⟨r, e0, g0⟩ := weighs_Schema h0 (1048576) (by omega)
  have e0 : laws_szSchema a0 1048576 = some r := e0
  rw [e0]
  simp only [Option.bind_some]
  rcases g0 with ⟨g0, _⟩ | ⟨g0, rfl⟩
  · rw [if_pos (by simpa using g0)]
  · rw [if_neg (by simp)]
    obtain ⟨r, e1, g1⟩ := weighs_Way h1 (1048576 - szn_Schema a0) (by omega)
    rw [e1]
    simp only [Option.bind_some]
    rcases g1 with ⟨g1, _⟩ | ⟨g1, rfl⟩
    · rw [if_pos (by simpa using g1)]
    · rw [if_neg (by simp)]
      obtain ⟨r, e2, g2⟩ := weighs_Ex h2 (1048576 - szn_Schema a0 - szn_Way a1) (by omega)
      rw [e2]
      simp only [Option.bind_some]
      rcases g2 with ⟨g2, _⟩ | ⟨g2, rfl⟩
      · rw [if_pos (by simpa using g2)]
      · rw [if_neg (by simp)]
        have s0 := sml_to_Schema h0 (show szn_Schema a0 ≤ 1048576 by omega)
        have s1 := sml_to_Way h1 (show szn_Way a1 ≤ 1048576 by omega)
        have s2 := sml_to_Ex h2 (show szn_Ex a2 ≤ 1048576 by omega)
        rw [to_Schema_ok (x := a0) (by omega), to_Way_ok (x := a1) (by omega), to_Ex_ok (x := a2) (by omega)]
        simp only [Option.bind_some]
        obtain ⟨m, e, e'⟩ := hs s0 s1 s2
        rw [e]
        simp only [Option.bind_some]
        rw [e']
        simp [eq_Schema_self (len_of_Schema s0), eq_Way_self (len_of_Way s1), eq_Ex_self (len_of_Ex s2)]
theorem exact_WayOk {a0 : Tlaws_Schema} {a1 : Tlaws_Way} (h0 : fin_Schema a0) (h1 : fin_Way a1) (hs : sml_Schema (to_Schema a0) → sml_Way (to_Way a1) → ∃ m, spec_WayOk (to_Schema a0) (to_Way a1) = some m ∧ impl_WayOk (to_Schema a0) (to_Way a1) = some m) : laws_FnExactWayOk a0 a1 = some true := by
  unfold laws_FnExactWayOk
  obtain ⟨r, e0, g0⟩ := weighs_Schema h0 (1048576) (by omega)
  have e0 : laws_szSchema a0 1048576 = some r := e0
  rw [e0]
  simp only [Option.bind_some]
  rcases g0 with ⟨g0, _⟩ | ⟨g0, rfl⟩
  · rw [if_pos (by simpa using g0)]
  · rw [if_neg (by simp)]
    obtain ⟨r, e1, g1⟩ := weighs_Way h1 (1048576 - szn_Schema a0) (by omega)
    rw [e1]
    simp only [Option.bind_some]
    rcases g1 with ⟨g1, _⟩ | ⟨g1, rfl⟩
    · rw [if_pos (by simpa using g1)]
    · rw [if_neg (by simp)]
      have s0 := sml_to_Schema h0 (show szn_Schema a0 ≤ 1048576 by omega)
      have s1 := sml_to_Way h1 (show szn_Way a1 ≤ 1048576 by omega)
      rw [to_Schema_ok (x := a0) (by omega), to_Way_ok (x := a1) (by omega)]
      simp only [Option.bind_some]
      obtain ⟨m, e, e'⟩ := hs s0 s1
      rw [e]
      simp only [Option.bind_some]
      rw [e']
      simp [eq_Schema_self (len_of_Schema s0), eq_Way_self (len_of_Way s1)]
theorem exact_WayRoom {a0 : Tlaws_Schema} {a1 : Tlaws_Way} (h0 : fin_Schema a0) (h1 : fin_Way a1) (hs : sml_Schema (to_Schema a0) → sml_Way (to_Way a1) → ∃ m, spec_WayRoom (to_Schema a0) (to_Way a1) = some m ∧ impl_WayRoom (to_Schema a0) (to_Way a1) = some m) : laws_FnExactWayRoom a0 a1 = some true := by
  unfold laws_FnExactWayRoom
  obtain ⟨r, e0, g0⟩ := weighs_Schema h0 (1048576) (by omega)
  have e0 : laws_szSchema a0 1048576 = some r := e0
  rw [e0]
  simp only [Option.bind_some]
  rcases g0 with ⟨g0, _⟩ | ⟨g0, rfl⟩
  · rw [if_pos (by simpa using g0)]
  · rw [if_neg (by simp)]
    obtain ⟨r, e1, g1⟩ := weighs_Way h1 (1048576 - szn_Schema a0) (by omega)
    rw [e1]
    simp only [Option.bind_some]
    rcases g1 with ⟨g1, _⟩ | ⟨g1, rfl⟩
    · rw [if_pos (by simpa using g1)]
    · rw [if_neg (by simp)]
      have s0 := sml_to_Schema h0 (show szn_Schema a0 ≤ 1048576 by omega)
      have s1 := sml_to_Way h1 (show szn_Way a1 ≤ 1048576 by omega)
      rw [to_Schema_ok (x := a0) (by omega), to_Way_ok (x := a1) (by omega)]
      simp only [Option.bind_some]
      obtain ⟨m, e, e'⟩ := hs s0 s1
      rw [e]
      simp only [Option.bind_some]
      rw [e']
      simp [eq_Schema_self (len_of_Schema s0), eq_Way_self (len_of_Way s1)]
end Go.Vk
