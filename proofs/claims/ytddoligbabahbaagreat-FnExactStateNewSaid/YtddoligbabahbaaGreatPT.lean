/- The laws' types: weighed, copied, compared; the rows' frames. Printed by program. -/
import Derived.Test.YtddoligbabahbaaGreatRF
import Derived.Test.YtddoligbabahbaaGreatVkZ
namespace Go.Vk
theorem sadd_le {a b : List UInt8} (h : a.length + b.length ≤ 10000) : sadd a b = some (a ++ b) := by
  unfold sadd
  rw [if_pos (by omega)]
theorem markText_ok {m : Nat} (h : m + 1 < 4611686018427387905) : ∃ t, laws_markText (m : Int) = some t := by
  have key : ∀ (d k i : Nat) (s : List UInt8), i < 10 ^ d → i < 4611686018427387905 → d < k → s.length + d ≤ 1000 → ∃ t, laws_markText_L1 k (i : Int) s = some t := by
    intro d
    induction d with
    | zero =>
      intro k i s hi hb hk hs
      obtain ⟨k, rfl⟩ : ∃ q, k = q + 1 := ⟨k - 1, by omega⟩
      rw [laws_markText_L1, if_neg (by simp at hi ⊢; omega), sadd_le (by simp; omega)]
      exact ⟨_, rfl⟩
    | succ d ih =>
      intro k i s hi hb hk hs
      obtain ⟨k, rfl⟩ : ∃ q, k = q + 1 := ⟨k - 1, by omega⟩
      rw [laws_markText_L1]
      split
      · rw [sadd_le (by simp [bytesOf]; omega)]
        simp only [Option.bind_some]
        have hd : i / 10 < 10 ^ d := by rw [Nat.pow_succ] at hi; omega
        have e : IntKind.i64.wrap (Int.tdiv (i : Int) 10) = ((i / 10 : Nat) : Int) := by
          rw [show (10 : Int) = ((10 : Nat) : Int) from rfl, tdiv_nat, wrap_nat (by omega)]
        rw [e]
        exact ih k _ _ hd (by omega) (by omega) (by simp [bytesOf]; omega)
      · rw [sadd_le (by simp; omega)]
        exact ⟨_, rfl⟩
  unfold laws_markText
  split
  · exact ⟨_, rfl⟩
  · exact key 19 Fuel m [] (by omega) (by omega) (fuel_gt (by omega)) (by simp)
def sml_IntS (x : List Int) : Prop := x.length ≤ 1048576 ∧ ∀ y ∈ x, (-9223372036854775808 ≤ y ∧ y ≤ 9223372036854775807)
def len_IntS (x : List Int) : Prop := x.length < 1000000000000
theorem len_of_IntS {x : List Int} (h : sml_IntS x) : len_IntS x := by have := h.1; unfold len_IntS; omega
theorem eq_IntS_self {x : List Int} (h : len_IntS x) : laws_eqIntS x x = some true := by
  unfold laws_eqIntS
  rw [if_neg (by simp)]
  refine same_loop (p := x) (laws_eqIntS_L1 x x) (fun _ o => o) (fun k i => ?_) h (fun _ _ _ => rfl)
  show (if _ then _ else _) = _
  cases h : idx x i with
  | none => rfl
  | some e => simp only [Option.bind_some, bne_self_eq_false, Bool.false_eq_true, if_false]
def szn_IntS (x : List Int) : Nat := x.length
def fin_IntS (x : List Int) : Prop := x.length ≤ maxLen ∧ ∀ y ∈ x, IntOk .i64 y
theorem weighs_IntS {x : List Int} (hx : fin_IntS x) : Weighs laws_szIntS szn_IntS x := fun s hs => by
  obtain ⟨r, h1, h2⟩ := weigh_list (p := x) s hs
  exact ⟨r, h1, h2 (lt63 hx.1)⟩
def to_IntS (x : List Int) : List Int := x
theorem to_IntS_ok {x : List Int} (h : szn_IntS x ≤ 1048576) : laws_toIntS x = some (to_IntS x) := by
  unfold szn_IntS at h
  unfold laws_toIntS
  rw [mk_eq _ (by omega)]
  exact (copy_loop (F := some) (g := id) (laws_toIntS_L1 x) (fun _ _ _ => rfl) (by omega) (fun _ _ => rfl) _).trans (by rw [List.map_id]; rfl)
theorem sml_to_IntS {x : List Int} (hf : fin_IntS x) (h : szn_IntS x ≤ 1048576) : sml_IntS (to_IntS x) := by
  unfold szn_IntS at h
  exact ⟨by show x.length ≤ _; omega, fun y hy => i64_of (hf.2 y hy)⟩
def sml_StringS (x : List (List UInt8)) : Prop := x.length ≤ 1048576 ∧ ∀ y ∈ x, y.length ≤ 1048576
def len_StringS (x : List (List UInt8)) : Prop := x.length < 1000000000000
theorem len_of_StringS {x : List (List UInt8)} (h : sml_StringS x) : len_StringS x := by have := h.1; unfold len_StringS; omega
theorem eq_StringS_self {x : List (List UInt8)} (h : len_StringS x) : laws_eqStringS x x = some true := by
  unfold laws_eqStringS
  rw [if_neg (by simp)]
  refine same_loop (p := x) (laws_eqStringS_L1 x x) (fun _ o => o) (fun k i => ?_) h (fun _ _ _ => rfl)
  show (if _ then _ else _) = _
  cases h : idx x i with
  | none => rfl
  | some e => simp only [Option.bind_some, beq_self_eq_true, Bool.not_true, Bool.false_eq_true, if_false]
def szn_StringS (x : List (List UInt8)) : Nat := x.length + (x.map List.length).sum
def fin_StringS (x : List (List UInt8)) : Prop := x.length ≤ maxLen ∧ ∀ y ∈ x, y.length ≤ maxLen
theorem weighs_StringS {x : List (List UInt8)} (hx : fin_StringS x) : Weighs laws_szStringS szn_StringS x := fun s hs => by
  have h0 := lt63 hx.1
  unfold laws_szStringS szn_StringS
  rw [wrap_id (n := (s : Int) - (x.length : Int)) (by omega) (by omega)]
  by_cases h : s < x.length
  · rw [if_pos (by simp; omega)]
    exact ⟨_, rfl, .inl ⟨by omega, by omega⟩⟩
  · rw [if_neg (by simp; omega)]
    have := weigh_loop (p := x) (Z := fun e s => if decide ((IntKind.i64.wrap (s - (e.length : Int))) < 0) then some (-1) else some (IntKind.i64.wrap (s - (e.length : Int)))) (size := List.length) (laws_szStringS_L1 x) (fun k s i => by
      show (if _ then (idx x i).bind _ else _) = _
      cases idx x i with
      | none => rfl
      | some e =>
        simp only [Option.bind_some]
        split
        · by_cases h : IntKind.i64.wrap (s - (e.length : Int)) < 0
          · simp [h]
          · simp [h]
        · rfl) (by omega) (fun y hy s hs => by
      obtain ⟨r, h1, h2⟩ := weigh_list (p := y) s hs
      exact ⟨r, h1, h2 (lt63 (hx.2 y hy))⟩) (s - x.length) (by omega)
    rw [show (s : Int) - (x.length : Int) = ((s - x.length : Nat) : Int) by omega]
    obtain ⟨r, h1, h2⟩ := this
    refine ⟨r, h1, ?_⟩
    rcases h2 with ⟨h2, h3⟩ | ⟨h2, h3⟩
    · exact .inl ⟨h2, by omega⟩
    · exact .inr ⟨by omega, by rw [h3]; congr 1; omega⟩
def to_StringS (x : List (List UInt8)) : List (List UInt8) := x
theorem to_StringS_ok {x : List (List UInt8)} (h : szn_StringS x ≤ 1048576) : laws_toStringS x = some (to_StringS x) := by
  unfold szn_StringS at h
  unfold laws_toStringS
  rw [mk_eq _ (by omega)]
  exact (copy_loop (F := some) (g := id) (laws_toStringS_L1 x) (fun _ _ _ => rfl) (by omega) (fun _ _ => rfl) _).trans (by rw [List.map_id]; rfl)
theorem sml_to_StringS {x : List (List UInt8)} (_ : fin_StringS x) (h : szn_StringS x ≤ 1048576) : sml_StringS (to_StringS x) := by
  unfold szn_StringS at h
  exact ⟨by show x.length ≤ _; omega, fun y hy => by have := mem_sum (f := List.length) (show y ∈ x from hy); omega⟩
def sml_Attr (x : Timpl_Attr) : Prop := x.Name_.length ≤ 1048576 ∧ sml_IntS x.Cuts_ ∧ sml_StringS x.Values_
def len_Attr (x : Timpl_Attr) : Prop := len_IntS x.Cuts_ ∧ len_StringS x.Values_
theorem len_of_Attr {x : Timpl_Attr} (h : sml_Attr x) : len_Attr x := by
  obtain ⟨_, h1, h2⟩ := h
  exact ⟨len_of_IntS h1, len_of_StringS h2⟩
theorem eq_Attr_self {x : Timpl_Attr} (h : len_Attr x) : laws_eqAttr x x = some true := by
  obtain ⟨h1, h2⟩ := h
  unfold laws_eqAttr
  simp [eq_IntS_self h1, eq_StringS_self h2]
def szn_Attr (x : Tlaws_Attr) : Nat := x.Name_.length + szn_IntS x.Cuts_ + szn_StringS x.Values_
def fin_Attr (x : Tlaws_Attr) : Prop := x.Name_.length ≤ maxLen ∧ fin_IntS x.Cuts_ ∧ fin_StringS x.Values_
def to_Attr (x : Tlaws_Attr) : Timpl_Attr := ⟨x.Name_, to_IntS x.Cuts_, to_StringS x.Values_⟩
theorem weighs_Attr {x : Tlaws_Attr} (hx : fin_Attr x) : Weighs laws_szAttr szn_Attr x := fun s hs => by
  obtain ⟨h0, h1, h2⟩ := hx
  unfold laws_szAttr szn_Attr
  have l0 := lt63 h0
  rw [wrap_id (n := ((s : Nat) : Int) - (x.Name_.length : Int)) (by omega) (by omega)]
  by_cases c0 : s < x.Name_.length
  · rw [if_pos (by simp; omega)]; exact ⟨_, rfl, .inl ⟨by omega, by omega⟩⟩
  · rw [if_neg (by simp; omega), show ((s : Nat) : Int) - (x.Name_.length : Int) = ((s - x.Name_.length : Nat) : Int) by omega]
    obtain ⟨r, e1, g1⟩ := weighs_IntS h1 (s - x.Name_.length) (by omega)
    rw [e1]
    simp only [Option.bind_some]
    rcases g1 with ⟨g1, k1⟩ | ⟨g1, rfl⟩
    · rw [if_pos (by simpa using g1)]; exact ⟨_, rfl, .inl ⟨by omega, by omega⟩⟩
    · rw [if_neg (by simp)]
      obtain ⟨r, e2, g2⟩ := weighs_StringS h2 (s - x.Name_.length - szn_IntS x.Cuts_) (by omega)
      rw [e2]
      simp only [Option.bind_some]
      rcases g2 with ⟨g2, k2⟩ | ⟨g2, rfl⟩
      · rw [if_pos (by simpa using g2)]; exact ⟨_, rfl, .inl ⟨by omega, by omega⟩⟩
      · rw [if_neg (by simp)]
        exact ⟨_, rfl, .inr ⟨by omega, by first | rfl | (congr 1; omega)⟩⟩
theorem to_Attr_ok {x : Tlaws_Attr} (h : szn_Attr x ≤ 1048576) : laws_toAttr x = some (to_Attr x) := by
  unfold szn_Attr at h
  unfold laws_toAttr
  rw [to_IntS_ok (x := x.Cuts_) (by omega), to_StringS_ok (x := x.Values_) (by omega)]
  rfl
theorem sml_to_Attr {x : Tlaws_Attr} (hf : fin_Attr x) (h : szn_Attr x ≤ 1048576) : sml_Attr (to_Attr x) := by
  unfold szn_Attr at h
  obtain ⟨_, h1, h2⟩ := hf
  exact ⟨by show x.Name_.length ≤ _; omega, sml_to_IntS h1 (show szn_IntS x.Cuts_ ≤ 1048576 by omega), sml_to_StringS h2 (show szn_StringS x.Values_ ≤ 1048576 by omega)⟩
def sml_AttrS (x : List Timpl_Attr) : Prop := x.length ≤ 1048576 ∧ ∀ y ∈ x, sml_Attr y
def len_AttrS (x : List Timpl_Attr) : Prop := x.length < 1000000000000 ∧ ∀ y ∈ x, len_Attr y
theorem len_of_AttrS {x : List Timpl_Attr} (h : sml_AttrS x) : len_AttrS x := ⟨by have := h.1; omega, fun y hy => len_of_Attr (h.2 y hy)⟩
theorem eq_AttrS_self {x : List Timpl_Attr} (h : len_AttrS x) : laws_eqAttrS x x = some true := by
  unfold laws_eqAttrS
  rw [if_neg (by simp)]
  refine same_loop (p := x) (laws_eqAttrS_L1 x x) (fun e o => (laws_eqAttr e e).bind fun y => if (!y) then some false else o) (fun k i => ?_) h.1 (fun y hy o => by rw [eq_Attr_self (h.2 y hy)]; rfl)
  show (if _ then _ else _) = _
  cases h : idx x i with
  | none => rfl
  | some e => rfl
def szn_AttrS (x : List Tlaws_Attr) : Nat := x.length + (x.map szn_Attr).sum
def fin_AttrS (x : List Tlaws_Attr) : Prop := x.length ≤ maxLen ∧ ∀ y ∈ x, fin_Attr y
theorem weighs_AttrS {x : List Tlaws_Attr} (hx : fin_AttrS x) : Weighs laws_szAttrS szn_AttrS x := fun s hs => by
  have h0 := lt63 hx.1
  unfold laws_szAttrS szn_AttrS
  rw [wrap_id (n := (s : Int) - (x.length : Int)) (by omega) (by omega)]
  by_cases h : s < x.length
  · rw [if_pos (by simp; omega)]
    exact ⟨_, rfl, .inl ⟨by omega, by omega⟩⟩
  · rw [if_neg (by simp; omega)]
    have := weigh_loop (p := x) (Z := laws_szAttr) (size := szn_Attr) (laws_szAttrS_L1 x) (fun _ _ _ => rfl) (by omega) (fun y hy => weighs_Attr (hx.2 y hy)) (s - x.length) (by omega)
    rw [show (s : Int) - (x.length : Int) = ((s - x.length : Nat) : Int) by omega]
    obtain ⟨r, h1, h2⟩ := this
    refine ⟨r, h1, ?_⟩
    rcases h2 with ⟨h2, h3⟩ | ⟨h2, h3⟩
    · exact .inl ⟨h2, by omega⟩
    · exact .inr ⟨by omega, by rw [h3]; congr 1; omega⟩
def to_AttrS (x : List Tlaws_Attr) : List Timpl_Attr := x.map to_Attr
theorem to_AttrS_ok {x : List Tlaws_Attr} (h : szn_AttrS x ≤ 1048576) : laws_toAttrS x = some (to_AttrS x) := by
  unfold szn_AttrS at h
  unfold laws_toAttrS
  rw [mk_eq _ (by omega)]
  exact copy_loop (F := laws_toAttr) (g := to_Attr) (laws_toAttrS_L1 x) (fun _ _ _ => rfl) (by omega) (fun y hy => to_Attr_ok (by have := mem_sum (f := szn_Attr) hy; omega)) _
theorem sml_to_AttrS {x : List Tlaws_Attr} (hf : fin_AttrS x) (h : szn_AttrS x ≤ 1048576) : sml_AttrS (to_AttrS x) := by
  unfold szn_AttrS at h
  refine ⟨by show (x.map to_Attr).length ≤ _; rw [List.length_map]; omega, fun y hy => ?_⟩
  obtain ⟨b, hb, rfl⟩ := List.mem_map.1 (show y ∈ x.map to_Attr from hy)
  exact sml_to_Attr (hf.2 b hb) (by have := mem_sum (f := szn_Attr) hb; omega)
def sml_Schema (x : Timpl_Schema) : Prop := sml_AttrS x.Attrs_ ∧ sml_StringS x.Classes_
def len_Schema (x : Timpl_Schema) : Prop := len_AttrS x.Attrs_ ∧ len_StringS x.Classes_
theorem len_of_Schema {x : Timpl_Schema} (h : sml_Schema x) : len_Schema x := by
  obtain ⟨h0, h1⟩ := h
  exact ⟨len_of_AttrS h0, len_of_StringS h1⟩
theorem eq_Schema_self {x : Timpl_Schema} (h : len_Schema x) : laws_eqSchema x x = some true := by
  obtain ⟨h0, h1⟩ := h
  unfold laws_eqSchema
  simp [eq_AttrS_self h0, eq_StringS_self h1]
def szn_Schema (x : Tlaws_Schema) : Nat := szn_AttrS x.Attrs_ + szn_StringS x.Classes_
def fin_Schema (x : Tlaws_Schema) : Prop := fin_AttrS x.Attrs_ ∧ fin_StringS x.Classes_
def to_Schema (x : Tlaws_Schema) : Timpl_Schema := ⟨to_AttrS x.Attrs_, to_StringS x.Classes_⟩
theorem weighs_Schema {x : Tlaws_Schema} (hx : fin_Schema x) : Weighs laws_szSchema szn_Schema x := fun s hs => by
  obtain ⟨h0, h1⟩ := hx
  unfold laws_szSchema szn_Schema
  obtain ⟨r, e0, g0⟩ := weighs_AttrS h0 (s) (by omega)
  rw [e0]
  simp only [Option.bind_some]
  rcases g0 with ⟨g0, k0⟩ | ⟨g0, rfl⟩
  · rw [if_pos (by simpa using g0)]; exact ⟨_, rfl, .inl ⟨by omega, by omega⟩⟩
  · rw [if_neg (by simp)]
    obtain ⟨r, e1, g1⟩ := weighs_StringS h1 (s - szn_AttrS x.Attrs_) (by omega)
    rw [e1]
    simp only [Option.bind_some]
    rcases g1 with ⟨g1, k1⟩ | ⟨g1, rfl⟩
    · rw [if_pos (by simpa using g1)]; exact ⟨_, rfl, .inl ⟨by omega, by omega⟩⟩
    · rw [if_neg (by simp)]
      exact ⟨_, rfl, .inr ⟨by omega, by first | rfl | (congr 1; omega)⟩⟩
theorem to_Schema_ok {x : Tlaws_Schema} (h : szn_Schema x ≤ 1048576) : laws_toSchema x = some (to_Schema x) := by
  unfold szn_Schema at h
  unfold laws_toSchema
  rw [to_AttrS_ok (x := x.Attrs_) (by omega), to_StringS_ok (x := x.Classes_) (by omega)]
  rfl
theorem sml_to_Schema {x : Tlaws_Schema} (hf : fin_Schema x) (h : szn_Schema x ≤ 1048576) : sml_Schema (to_Schema x) := by
  unfold szn_Schema at h
  obtain ⟨h0, h1⟩ := hf
  exact ⟨sml_to_AttrS h0 (show szn_AttrS x.Attrs_ ≤ 1048576 by omega), sml_to_StringS h1 (show szn_StringS x.Classes_ ≤ 1048576 by omega)⟩
theorem eq_Fork_self {x : Timpl_Fork} : laws_eqFork x x = some true := by
  unfold laws_eqFork
  simp
def len_IntSS (x : List (List Int)) : Prop := x.length < 1000000000000 ∧ ∀ y ∈ x, len_IntS y
theorem eq_IntSS_self {x : List (List Int)} (h : len_IntSS x) : laws_eqIntSS x x = some true := by
  unfold laws_eqIntSS
  rw [if_neg (by simp)]
  refine same_loop (p := x) (laws_eqIntSS_L1 x x) (fun e o => (laws_eqIntS e e).bind fun y => if (!y) then some false else o) (fun k i => ?_) h.1 (fun y hy o => by rw [eq_IntS_self (h.2 y hy)]; rfl)
  show (if _ then _ else _) = _
  cases h : idx x i with
  | none => rfl
  | some e => rfl
def len_Stats (x : Timpl_Stats) : Prop := len_IntS x.Totals_ ∧ len_IntSS x.Cells_
theorem eq_Stats_self {x : Timpl_Stats} (h : len_Stats x) : laws_eqStats x x = some true := by
  obtain ⟨h0, h1⟩ := h
  unfold laws_eqStats
  simp [eq_IntS_self h0, eq_IntSS_self h1]
def len_Node (x : Timpl_Node) : Prop := len_IntS x.Kids_ ∧ len_Stats x.Stats_ ∧ len_IntS x.Attrs_
theorem eq_Node_self {x : Timpl_Node} (h : len_Node x) : laws_eqNode x x = some true := by
  obtain ⟨h2, h4, h6⟩ := h
  unfold laws_eqNode
  simp [eq_Fork_self (x := x.Fork_), eq_IntS_self h2, eq_Stats_self h4, eq_IntS_self h6]
def len_NodeS (x : List Timpl_Node) : Prop := x.length < 1000000000000 ∧ ∀ y ∈ x, len_Node y
theorem eq_NodeS_self {x : List Timpl_Node} (h : len_NodeS x) : laws_eqNodeS x x = some true := by
  unfold laws_eqNodeS
  rw [if_neg (by simp)]
  refine same_loop (p := x) (laws_eqNodeS_L1 x x) (fun e o => (laws_eqNode e e).bind fun y => if (!y) then some false else o) (fun k i => ?_) h.1 (fun y hy o => by rw [eq_Node_self (h.2 y hy)]; rfl)
  show (if _ then _ else _) = _
  cases h : idx x i with
  | none => rfl
  | some e => rfl
def len_Tree (x : Timpl_Tree) : Prop := len_NodeS x.Nodes_
theorem eq_Tree_self {x : Timpl_Tree} (h : len_Tree x) : laws_eqTree x x = some true := by
  have h0 : len_NodeS x.Nodes_ := h
  unfold laws_eqTree
  simp [eq_NodeS_self h0]
def mc_IntS (x : List Int) : Nat := (x.map fun _ => 1).sum
theorem marks_IntS {x : List Int} (hl : len_IntS x) (_ : mc_IntS x ≤ 1000000000000000000) : Marks laws_markIntS laws_heldIntS (mc_IntS x) x := by
  unfold laws_markIntS laws_heldIntS
  refine marks_loop2 (p := x) (c := fun _ => 1) (laws_markIntS_L1 x) (fun q => laws_heldIntS_L1 q) (fun k l m i h0 => by
    rw [laws_markIntS_L1, if_neg h0]) (fun q k m i h0 => by rw [laws_heldIntS_L1, if_neg h0]) hl (fun x _ m hm => ?_)
  · skip
    have hm : m + (1) < 4611686018427387904 := hm
    have w1 := wrap_succ (i := m) (by omega)
    refine ⟨(m + 1), ((m : Nat) : Int), fun k l i h0 h1 => ?_, fun q k i h0 h1 => ?_, by omega, by omega⟩
    · rw [laws_markIntS_L1, if_pos h0, h1]
      simp only [Option.bind_some, w1]
    · rw [laws_heldIntS_L1, if_pos h0]
      simp only [h1, Option.bind_some, bne_self_eq_false, Bool.false_eq_true, if_false, w1]
def mc_StringS (x : List (List UInt8)) : Nat := (x.map fun _ => 1).sum
theorem marks_StringS {x : List (List UInt8)} (hl : len_StringS x) (_ : mc_StringS x ≤ 1000000000000000000) : Marks laws_markStringS laws_heldStringS (mc_StringS x) x := by
  unfold laws_markStringS laws_heldStringS
  refine marks_loop2 (p := x) (c := fun _ => 1) (laws_markStringS_L1 x) (fun q => laws_heldStringS_L1 q) (fun k l m i h0 => by
    rw [laws_markStringS_L1, if_neg h0]) (fun q k m i h0 => by rw [laws_heldStringS_L1, if_neg h0]) hl (fun x _ m hm => ?_)
  · skip
    have hm : m + (1) < 4611686018427387904 := hm
    obtain ⟨t1, s1⟩ := markText_ok (m := m) (by omega)
    have w1 := wrap_succ (i := m) (by omega)
    refine ⟨(m + 1), t1, fun k l i h0 h1 => ?_, fun q k i h0 h1 => ?_, by omega, by omega⟩
    · rw [laws_markStringS_L1, if_pos h0, h1]
      simp only [Option.bind_some, s1, w1]
    · rw [laws_heldStringS_L1, if_pos h0]
      simp only [h1, Option.bind_some, beq_self_eq_true, Bool.not_true, Bool.false_eq_true, if_false, s1, w1]
def mc_AttrS (x : List Timpl_Attr) : Nat := (x.map fun y => 1 + mc_IntS y.Cuts_ + mc_StringS y.Values_).sum
theorem mcm_AttrS {x : List Timpl_Attr} {y} (h : y ∈ x) : 1 + mc_IntS y.Cuts_ + mc_StringS y.Values_ ≤ mc_AttrS x := mem_sum (f := fun y => 1 + mc_IntS y.Cuts_ + mc_StringS y.Values_) h
theorem marks_AttrS {x : List Timpl_Attr} (hl : len_AttrS x) (h : mc_AttrS x ≤ 1000000000000000000) : Marks laws_markAttrS laws_heldAttrS (mc_AttrS x) x := by
  unfold laws_markAttrS laws_heldAttrS
  refine marks_loop2 (p := x) (c := fun y => 1 + mc_IntS y.Cuts_ + mc_StringS y.Values_) (laws_markAttrS_L1 x) (fun q => laws_heldAttrS_L1 q) (fun k l m i h0 => by
    rw [laws_markAttrS_L1, if_neg h0]) (fun q k m i h0 => by rw [laws_heldAttrS_L1, if_neg h0]) hl.1 (fun x hx m hm => ?_)
  · have hy := mcm_AttrS hx
    have hm : m + (1 + mc_IntS x.Cuts_ + mc_StringS x.Values_) < 4611686018427387904 := hm
    obtain ⟨t1, s1⟩ := markText_ok (m := m) (by omega)
    have w1 := wrap_succ (i := m) (by omega)
    obtain ⟨m2, z2, a2, b2, c2, d2⟩ := marks_IntS (x := x.Cuts_) (hl.2 x hx).1 (by omega) (m + 1) (by omega)
    obtain ⟨m3, z3, a3, b3, c3, d3⟩ := marks_StringS (x := x.Values_) (hl.2 x hx).2 (by omega) m2 (by omega)
    refine ⟨m3, (Timpl_Attr.mk t1 z2 z3), fun k l i h0 h1 => ?_, fun q k i h0 h1 => ?_, by omega, by omega⟩
    · rw [laws_markAttrS_L1, if_pos h0, h1]
      simp only [Option.bind_some, s1, w1, a2, a3]
    · rw [laws_heldAttrS_L1, if_pos h0]
      simp only [h1, Option.bind_some, beq_self_eq_true, Bool.not_true, Bool.false_eq_true, if_false, nat_neg, decide_false, s1, w1, b2, b3]
def mc_Schema (x : Timpl_Schema) : Nat := mc_AttrS x.Attrs_ + mc_StringS x.Classes_
theorem marks_Schema {x : Timpl_Schema} (hl : len_Schema x) (h : mc_Schema x ≤ 1000000000000000000) : Marks laws_markSchema laws_heldSchema (mc_Schema x) x := fun m hm => by
  unfold mc_Schema at h hm ⊢
  obtain ⟨m0, z0, a0, b0, c0, d0⟩ := marks_AttrS (x := x.Attrs_) hl.1 (by omega) m (by omega)
  obtain ⟨m1, z1, a1, b1, c1, d1⟩ := marks_StringS (x := x.Classes_) hl.2 (by omega) m0 (by omega)
  unfold laws_markSchema laws_heldSchema
  refine ⟨m1, ⟨z0, z1⟩, ?_, ?_, by omega, by omega⟩
  · simp only [Option.bind_some, a0, a1]
  · simp only [Option.bind_some, Bool.false_eq_true, if_false, nat_neg, decide_false, b0, b1]
theorem mcb_IntS {x : List Int} : mc_IntS (to_IntS x) ≤ 16 * szn_IntS x := by
  unfold mc_IntS szn_IntS to_IntS
  rw [sum_ones']
  omega
theorem mcb_StringS {x : List (List UInt8)} : mc_StringS (to_StringS x) ≤ 16 * szn_StringS x := by
  unfold mc_StringS szn_StringS to_StringS
  rw [sum_ones']
  omega
theorem mcb_AttrS {x : List Tlaws_Attr} : mc_AttrS (to_AttrS x) ≤ 16 * szn_AttrS x := by
  unfold mc_AttrS szn_AttrS to_AttrS
  rw [List.map_map]
  refine Nat.le_trans (sum_le16 (g := fun y => szn_Attr y) (fun y _ => ?_)) (by first | omega | (rw [sum_zero]; omega) | exact Nat.le_refl _)
  show 1 + mc_IntS (to_IntS y.Cuts_) + mc_StringS (to_StringS y.Values_) ≤ 16 * (1 + (y.Name_.length + szn_IntS y.Cuts_ + szn_StringS y.Values_))
  have := mcb_IntS (x := y.Cuts_)
  have := mcb_StringS (x := y.Values_)
  omega
theorem mcb_Schema {x : Tlaws_Schema} : mc_Schema (to_Schema x) ≤ 16 * szn_Schema x := by
  have := mcb_AttrS (x := x.Attrs_)
  have := mcb_StringS (x := x.Classes_)
  unfold mc_Schema szn_Schema to_Schema
  show mc_AttrS (to_AttrS x.Attrs_) + mc_StringS (to_StringS x.Classes_) ≤ 16 * (szn_AttrS x.Attrs_ + szn_StringS x.Classes_)
  omega
def mc_IntSS (x : List (List Int)) : Nat := (x.map fun y => 1 + mc_IntS y).sum
theorem mcm_IntSS {x : List (List Int)} {y} (h : y ∈ x) : 1 + mc_IntS y ≤ mc_IntSS x := mem_sum (f := fun y => 1 + mc_IntS y) h
theorem marks_IntSS {x : List (List Int)} (hl : len_IntSS x) (h : mc_IntSS x ≤ 1000000000000000000) : Marks laws_markIntSS laws_heldIntSS (mc_IntSS x) x := by
  unfold laws_markIntSS laws_heldIntSS
  refine marks_loop2 (p := x) (c := fun y => 1 + mc_IntS y) (laws_markIntSS_L1 x) (fun q => laws_heldIntSS_L1 q) (fun k l m i h0 => by
    rw [laws_markIntSS_L1, if_neg h0]) (fun q k m i h0 => by rw [laws_heldIntSS_L1, if_neg h0]) hl.1 (fun x hx m hm => ?_)
  · have hy := mcm_IntSS hx
    have hm : m + (1 + mc_IntS x) < 4611686018427387904 := hm
    obtain ⟨m1, z1, a1, b1, c1, d1⟩ := marks_IntS (x := x) (hl.2 x hx) (by omega) m (by omega)
    refine ⟨m1, z1, fun k l i h0 h1 => ?_, fun q k i h0 h1 => ?_, by omega, by omega⟩
    · rw [laws_markIntSS_L1, if_pos h0, h1]
      simp only [Option.bind_some, a1]
    · rw [laws_heldIntSS_L1, if_pos h0]
      simp only [h1, Option.bind_some, Bool.false_eq_true, if_false, nat_neg, decide_false, b1]
def mc_NodeS (x : List Timpl_Node) : Nat := (x.map fun y => 8 + mc_IntS y.Kids_ + mc_IntS y.Stats_.Totals_ + mc_IntSS y.Stats_.Cells_ + mc_IntS y.Attrs_).sum
theorem mcm_NodeS {x : List Timpl_Node} {y} (h : y ∈ x) : 8 + mc_IntS y.Kids_ + mc_IntS y.Stats_.Totals_ + mc_IntSS y.Stats_.Cells_ + mc_IntS y.Attrs_ ≤ mc_NodeS x := mem_sum (f := fun y => 8 + mc_IntS y.Kids_ + mc_IntS y.Stats_.Totals_ + mc_IntSS y.Stats_.Cells_ + mc_IntS y.Attrs_) h
theorem marks_NodeS {x : List Timpl_Node} (hl : len_NodeS x) (h : mc_NodeS x ≤ 1000000000000000000) : Marks laws_markNodeS laws_heldNodeS (mc_NodeS x) x := by
  unfold laws_markNodeS laws_heldNodeS
  refine marks_loop2 (p := x) (c := fun y => 8 + mc_IntS y.Kids_ + mc_IntS y.Stats_.Totals_ + mc_IntSS y.Stats_.Cells_ + mc_IntS y.Attrs_) (laws_markNodeS_L1 x) (fun q => laws_heldNodeS_L1 q) (fun k l m i h0 => by
    rw [laws_markNodeS_L1, if_neg h0]) (fun q k m i h0 => by rw [laws_heldNodeS_L1, if_neg h0]) hl.1 (fun x hx m hm => ?_)
  · have hy := mcm_NodeS hx
    have hm : m + (8 + mc_IntS x.Kids_ + mc_IntS x.Stats_.Totals_ + mc_IntSS x.Stats_.Cells_ + mc_IntS x.Attrs_) < 4611686018427387904 := hm
    have w1 := wrap_succ (i := m) (by omega)
    have w2 := wrap_succ (i := (m + 1)) (by omega)
    have w3 := wrap_succ (i := ((m + 1) + 1)) (by omega)
    obtain ⟨m1, z1, a1, b1, c1, d1⟩ := marks_IntS (x := x.Kids_) (hl.2 x hx).1 (by omega) (((m + 1) + 1) + 1) (by omega)
    have w5 := wrap_succ (i := m1) (by omega)
    obtain ⟨m2, z2, a2, b2, c2, d2⟩ := marks_IntS (x := x.Stats_.Totals_) (hl.2 x hx).2.1.1 (by omega) (m1 + 1) (by omega)
    obtain ⟨m3, z3, a3, b3, c3, d3⟩ := marks_IntSS (x := x.Stats_.Cells_) (hl.2 x hx).2.1.2 (by omega) m2 (by omega)
    have w8 := wrap_succ (i := m3) (by omega)
    obtain ⟨m4, z4, a4, b4, c4, d4⟩ := marks_IntS (x := x.Attrs_) (hl.2 x hx).2.2 (by omega) (m3 + 1) (by omega)
    have w10 := wrap_succ (i := m4) (by omega)
    have w11 := wrap_succ (i := (m4 + 1)) (by omega)
    have w12 := wrap_succ (i := ((m4 + 1) + 1)) (by omega)
    refine ⟨(((m4 + 1) + 1) + 1), (Timpl_Node.mk (Int.tmod ((m : Nat) : Int) 3 == 0) (Timpl_Fork.mk (((m + 1) : Nat) : Int) ((((m + 1) + 1) : Nat) : Int)) z1 ((m1 : Nat) : Int) (Timpl_Stats.mk z2 z3) ((m3 : Nat) : Int) z4 ((m4 : Nat) : Int) (((m4 + 1) : Nat) : Int) ((((m4 + 1) + 1) : Nat) : Int)), fun k l i h0 h1 => ?_, fun q k i h0 h1 => ?_, by omega, by omega⟩
    · rw [laws_markNodeS_L1, if_pos h0, h1]
      simp only [Option.bind_some, w1, w2, w3, a1, w5, a2, a3, w8, a4, w10, w11, w12]
    · rw [laws_heldNodeS_L1, if_pos h0]
      simp only [h1, Option.bind_some, bne_self_eq_false, Bool.false_eq_true, if_false, nat_neg, decide_false, w1, w2, w3, w5, w8, w10, w11, w12, b1, b2, b3, b4]
def sml_Rule (x : Timpl_Rule) : Prop := (-9223372036854775808 ≤ x.Sure_ ∧ x.Sure_ ≤ 9223372036854775807) ∧ (-9223372036854775808 ≤ x.Tie_ ∧ x.Tie_ ≤ 9223372036854775807) ∧ (-9223372036854775808 ≤ x.Grace_ ∧ x.Grace_ ≤ 9223372036854775807) ∧ (-9223372036854775808 ≤ x.Depth_ ∧ x.Depth_ ≤ 9223372036854775807) ∧ (-9223372036854775808 ≤ x.Nodes_ ∧ x.Nodes_ ≤ 9223372036854775807) ∧ (-9223372036854775808 ≤ x.Units_ ∧ x.Units_ ≤ 9223372036854775807) ∧ True
theorem eq_Rule_self {x : Timpl_Rule} : laws_eqRule x x = some true := by
  unfold laws_eqRule
  simp
def fin_Rule (x : Tlaws_Rule) : Prop := IntOk .i64 x.Sure_ ∧ IntOk .i64 x.Tie_ ∧ IntOk .i64 x.Grace_ ∧ IntOk .i64 x.Depth_ ∧ IntOk .i64 x.Nodes_ ∧ IntOk .i64 x.Units_ ∧ True
def to_Rule (x : Tlaws_Rule) : Timpl_Rule := ⟨x.Sure_, x.Tie_, x.Grace_, x.Depth_, x.Nodes_, x.Units_, x.Two_⟩
theorem to_Rule_ok {x : Tlaws_Rule} : laws_toRule x = some (to_Rule x) := by
  unfold laws_toRule
  rfl
theorem sml_to_Rule {x : Tlaws_Rule} (hf : fin_Rule x) : sml_Rule (to_Rule x) := by
  obtain ⟨h0, h1, h2, h3, h4, h5, _⟩ := hf
  exact ⟨i64_of h0, i64_of h1, i64_of h2, i64_of h3, i64_of h4, i64_of h5, trivial⟩
def sml_Conf (x : Timpl_Conf) : Prop := sml_Schema x.Schema_ ∧ sml_Rule x.Rule_ ∧ (-9223372036854775808 ≤ x.Members_ ∧ x.Members_ ≤ 9223372036854775807) ∧ (-9223372036854775808 ≤ x.Pick_ ∧ x.Pick_ ≤ 9223372036854775807) ∧ (-9223372036854775808 ≤ x.Lambda_ ∧ x.Lambda_ ≤ 9223372036854775807) ∧ (-9223372036854775808 ≤ x.Warn_ ∧ x.Warn_ ≤ 9223372036854775807) ∧ (-9223372036854775808 ≤ x.Drift_ ∧ x.Drift_ ≤ 9223372036854775807)
def len_Conf (x : Timpl_Conf) : Prop := len_Schema x.Schema_
theorem len_of_Conf {x : Timpl_Conf} (h : sml_Conf x) : len_Conf x := by
  obtain ⟨h0, _, _, _, _, _, _⟩ := h
  exact len_of_Schema h0
theorem eq_Conf_self {x : Timpl_Conf} (h : len_Conf x) : laws_eqConf x x = some true := by
  have h0 : len_Schema x.Schema_ := h
  unfold laws_eqConf
  simp [eq_Schema_self h0, eq_Rule_self (x := x.Rule_)]
def szn_Conf (x : Tlaws_Conf) : Nat := szn_Schema x.Schema_
def fin_Conf (x : Tlaws_Conf) : Prop := fin_Schema x.Schema_ ∧ fin_Rule x.Rule_ ∧ IntOk .i64 x.Members_ ∧ IntOk .i64 x.Pick_ ∧ IntOk .i64 x.Lambda_ ∧ IntOk .i64 x.Warn_ ∧ IntOk .i64 x.Drift_
def to_Conf (x : Tlaws_Conf) : Timpl_Conf := ⟨to_Schema x.Schema_, to_Rule x.Rule_, x.Members_, x.Pick_, x.Lambda_, x.Warn_, x.Drift_⟩
theorem weighs_Conf {x : Tlaws_Conf} (hx : fin_Conf x) : Weighs laws_szConf szn_Conf x := fun s hs => by
  obtain ⟨h0, _, _, _, _, _, _⟩ := hx
  unfold laws_szConf szn_Conf
  obtain ⟨r, e0, g0⟩ := weighs_Schema h0 (s) (by omega)
  rw [e0]
  simp only [Option.bind_some]
  rcases g0 with ⟨g0, k0⟩ | ⟨g0, rfl⟩
  · rw [if_pos (by simpa using g0)]; exact ⟨_, rfl, .inl ⟨by omega, by omega⟩⟩
  · rw [if_neg (by simp)]
    exact ⟨_, rfl, .inr ⟨by omega, by first | rfl | (congr 1; omega)⟩⟩
theorem to_Conf_ok {x : Tlaws_Conf} (h : szn_Conf x ≤ 1048576) : laws_toConf x = some (to_Conf x) := by
  unfold szn_Conf at h
  unfold laws_toConf
  rw [to_Schema_ok (x := x.Schema_) (by omega), to_Rule_ok (x := x.Rule_)]
  rfl
theorem sml_to_Conf {x : Tlaws_Conf} (hf : fin_Conf x) (h : szn_Conf x ≤ 1048576) : sml_Conf (to_Conf x) := by
  unfold szn_Conf at h
  obtain ⟨h0, h1, h2, h3, h4, h5, h6⟩ := hf
  exact ⟨sml_to_Schema h0 (show szn_Schema x.Schema_ ≤ 1048576 by omega), sml_to_Rule h1, i64_of h2, i64_of h3, i64_of h4, i64_of h5, i64_of h6⟩
def sml_ByteS (x : List Int) : Prop := x.length ≤ 1048576 ∧ ∀ y ∈ x, (0 ≤ y ∧ y ≤ 255)
def len_ByteS (x : List Int) : Prop := x.length < 1000000000000
theorem len_of_ByteS {x : List Int} (h : sml_ByteS x) : len_ByteS x := by have := h.1; unfold len_ByteS; omega
theorem eq_ByteS_self {x : List Int} (h : len_ByteS x) : laws_eqByteS x x = some true := by
  unfold laws_eqByteS
  rw [if_neg (by simp)]
  refine same_loop (p := x) (laws_eqByteS_L1 x x) (fun _ o => o) (fun k i => ?_) h (fun _ _ _ => rfl)
  show (if _ then _ else _) = _
  cases h : idx x i with
  | none => rfl
  | some e => simp only [Option.bind_some, bne_self_eq_false, Bool.false_eq_true, if_false]
def szn_ByteS (x : List Int) : Nat := x.length
def fin_ByteS (x : List Int) : Prop := x.length ≤ maxLen ∧ ∀ y ∈ x, IntOk .u8 y
def to_ByteS (x : List Int) : List Int := x
theorem to_ByteS_ok {x : List Int} (h : szn_ByteS x ≤ 1048576) : laws_toByteS x = some (to_ByteS x) := by
  unfold szn_ByteS at h
  unfold laws_toByteS
  rw [mk_eq _ (by omega)]
  exact (copy_loop (F := some) (g := id) (laws_toByteS_L1 x) (fun _ _ _ => rfl) (by omega) (fun _ _ => rfl) _).trans (by rw [List.map_id]; rfl)
theorem sml_to_ByteS {x : List Int} (hf : fin_ByteS x) (h : szn_ByteS x ≤ 1048576) : sml_ByteS (to_ByteS x) := by
  unfold szn_ByteS at h
  exact ⟨by show x.length ≤ _; omega, fun y hy => u8_of (hf.2 y hy)⟩
def len_Window (x : Timpl_Window) : Prop := len_IntSS x.Rows_
theorem eq_Window_self {x : Timpl_Window} (h : len_Window x) : laws_eqWindow x x = some true := by
  have h0 : len_IntSS x.Rows_ := h
  unfold laws_eqWindow
  simp [eq_IntSS_self h0]
def len_Det (x : Timpl_Det) : Prop := len_Window x.Warn_ ∧ len_Window x.Drift_
theorem eq_Det_self {x : Timpl_Det} (h : len_Det x) : laws_eqDet x x = some true := by
  obtain ⟨h0, h1⟩ := h
  unfold laws_eqDet
  simp [eq_Window_self h0, eq_Window_self h1]
def len_Member (x : Timpl_Member) : Prop := len_Tree x.Tree_ ∧ len_Tree x.Young_ ∧ len_Det x.Det_
theorem eq_Member_self {x : Timpl_Member} (h : len_Member x) : laws_eqMember x x = some true := by
  obtain ⟨h0, h2, h3⟩ := h
  unfold laws_eqMember
  simp [eq_Tree_self h0, eq_Tree_self h2, eq_Det_self h3]
def len_MemberS (x : List Timpl_Member) : Prop := x.length < 1000000000000 ∧ ∀ y ∈ x, len_Member y
theorem eq_MemberS_self {x : List Timpl_Member} (h : len_MemberS x) : laws_eqMemberS x x = some true := by
  unfold laws_eqMemberS
  rw [if_neg (by simp)]
  refine same_loop (p := x) (laws_eqMemberS_L1 x x) (fun e o => (laws_eqMember e e).bind fun y => if (!y) then some false else o) (fun k i => ?_) h.1 (fun y hy o => by rw [eq_Member_self (h.2 y hy)]; rfl)
  show (if _ then _ else _) = _
  cases h : idx x i with
  | none => rfl
  | some e => rfl
def len_Forest (x : Timpl_Forest) : Prop := len_MemberS x.Members_
theorem eq_Forest_self {x : Timpl_Forest} (h : len_Forest x) : laws_eqForest x x = some true := by
  have h0 : len_MemberS x.Members_ := h
  unfold laws_eqForest
  simp [eq_MemberS_self h0]
theorem eq_Pair_self {x : Timpl_Pair} : laws_eqPair x x = some true := by
  unfold laws_eqPair
  simp
def len_PairS (x : List Timpl_Pair) : Prop := x.length < 1000000000000
theorem eq_PairS_self {x : List Timpl_Pair} (h : len_PairS x) : laws_eqPairS x x = some true := by
  unfold laws_eqPairS
  rw [if_neg (by simp)]
  refine same_loop (p := x) (laws_eqPairS_L1 x x) (fun e o => (laws_eqPair e e).bind fun y => if (!y) then some false else o) (fun k i => ?_) h (fun y _ o => by rw [eq_Pair_self]; rfl)
  show (if _ then _ else _) = _
  cases h : idx x i with
  | none => rfl
  | some e => rfl
def len_Score (x : Timpl_Score) : Prop := len_IntSS x.Table_ ∧ len_PairS x.Last_
theorem eq_Score_self {x : Timpl_Score} (h : len_Score x) : laws_eqScore x x = some true := by
  obtain ⟨h0, h1⟩ := h
  unfold laws_eqScore
  simp [eq_IntSS_self h0, eq_PairS_self h1]
def len_State (x : Timpl_State) : Prop := len_Conf x.Conf_ ∧ len_Forest x.Forest_ ∧ len_Score x.Score_
theorem eq_State_self {x : Timpl_State} (h : len_State x) : laws_eqState x x = some true := by
  obtain ⟨h0, h1, h2⟩ := h
  unfold laws_eqState
  simp [eq_Conf_self h0, eq_Forest_self h1, eq_Score_self h2]
def mc_Conf (x : Timpl_Conf) : Nat := mc_Schema x.Schema_
theorem marks_Conf {x : Timpl_Conf} (hl : len_Conf x) (h : mc_Conf x ≤ 1000000000000000000) : Marks laws_markConf laws_heldConf (mc_Conf x) x := fun m hm => by
  unfold mc_Conf at h hm ⊢
  obtain ⟨m0, z0, a0, b0, c0, d0⟩ := marks_Schema (x := x.Schema_) hl (by omega) m (by omega)
  unfold laws_markConf laws_heldConf
  refine ⟨m0, ⟨z0, x.Rule_, x.Members_, x.Pick_, x.Lambda_, x.Warn_, x.Drift_⟩, ?_, ?_, by omega, by omega⟩
  · simp only [Option.bind_some, a0]
  · simp only [Option.bind_some, Bool.false_eq_true, if_false, nat_neg, decide_false, b0]
theorem mcb_Conf {x : Tlaws_Conf} : mc_Conf (to_Conf x) ≤ 16 * szn_Conf x := by
  have := mcb_Schema (x := x.Schema_)
  unfold mc_Conf szn_Conf to_Conf
  show mc_Schema (to_Schema x.Schema_) ≤ 16 * (szn_Schema x.Schema_)
  omega
def mc_ByteS (x : List Int) : Nat := (x.map fun _ => 1).sum
theorem marks_ByteS {x : List Int} (hl : len_ByteS x) (_ : mc_ByteS x ≤ 1000000000000000000) : MarksM laws_markByteS (mc_ByteS x) x := by
  unfold laws_markByteS
  refine markM_loop (p := x) (c := fun _ => 1) (laws_markByteS_L1 x) (fun k l m i h0 => by
    rw [laws_markByteS_L1, if_neg h0]) hl (fun x _ m hm => ?_)
  · skip
    have hm : m + (1) < 4611686018427387904 := hm
    have w1 := wrap_succ (i := m) (by omega)
    refine ⟨(m + 1), (IntKind.u8.wrap ((m : Nat) : Int)), fun k l i h0 h1 => ?_, by omega, by omega⟩
    · rw [laws_markByteS_L1, if_pos h0, h1]
      simp only [Option.bind_some, w1]
theorem mcb_ByteS {x : List Int} : mc_ByteS (to_ByteS x) ≤ 16 * szn_ByteS x := by
  unfold mc_ByteS szn_ByteS to_ByteS
  rw [sum_ones']
  omega
def mc_MemberS (x : List Timpl_Member) : Nat := (x.map fun y => 3 + mc_NodeS y.Tree_.Nodes_ + mc_NodeS y.Young_.Nodes_ + mc_IntSS y.Det_.Warn_.Rows_ + mc_IntSS y.Det_.Drift_.Rows_).sum
theorem mcm_MemberS {x : List Timpl_Member} {y} (h : y ∈ x) : 3 + mc_NodeS y.Tree_.Nodes_ + mc_NodeS y.Young_.Nodes_ + mc_IntSS y.Det_.Warn_.Rows_ + mc_IntSS y.Det_.Drift_.Rows_ ≤ mc_MemberS x := mem_sum (f := fun y => 3 + mc_NodeS y.Tree_.Nodes_ + mc_NodeS y.Young_.Nodes_ + mc_IntSS y.Det_.Warn_.Rows_ + mc_IntSS y.Det_.Drift_.Rows_) h
theorem marks_MemberS {x : List Timpl_Member} (hl : len_MemberS x) (h : mc_MemberS x ≤ 1000000000000000000) : Marks laws_markMemberS laws_heldMemberS (mc_MemberS x) x := by
  unfold laws_markMemberS laws_heldMemberS
  refine marks_loop2 (p := x) (c := fun y => 3 + mc_NodeS y.Tree_.Nodes_ + mc_NodeS y.Young_.Nodes_ + mc_IntSS y.Det_.Warn_.Rows_ + mc_IntSS y.Det_.Drift_.Rows_) (laws_markMemberS_L1 x) (fun q => laws_heldMemberS_L1 q) (fun k l m i h0 => by
    rw [laws_markMemberS_L1, if_neg h0]) (fun q k m i h0 => by rw [laws_heldMemberS_L1, if_neg h0]) hl.1 (fun x hx m hm => ?_)
  · have hy := mcm_MemberS hx
    have hm : m + (3 + mc_NodeS x.Tree_.Nodes_ + mc_NodeS x.Young_.Nodes_ + mc_IntSS x.Det_.Warn_.Rows_ + mc_IntSS x.Det_.Drift_.Rows_) < 4611686018427387904 := hm
    obtain ⟨m1, z1, a1, b1, c1, d1⟩ := marks_NodeS (x := x.Tree_.Nodes_) (hl.2 x hx).1 (by omega) m (by omega)
    have w2 := wrap_succ (i := m1) (by omega)
    have w3 := wrap_succ (i := (m1 + 1)) (by omega)
    obtain ⟨m2, z2, a2, b2, c2, d2⟩ := marks_NodeS (x := x.Young_.Nodes_) (hl.2 x hx).2.1 (by omega) ((m1 + 1) + 1) (by omega)
    have w5 := wrap_succ (i := m2) (by omega)
    obtain ⟨m3, z3, a3, b3, c3, d3⟩ := marks_IntSS (x := x.Det_.Warn_.Rows_) (hl.2 x hx).2.2.1 (by omega) (m2 + 1) (by omega)
    obtain ⟨m4, z4, a4, b4, c4, d4⟩ := marks_IntSS (x := x.Det_.Drift_.Rows_) (hl.2 x hx).2.2.2 (by omega) m3 (by omega)
    refine ⟨m4, (Timpl_Member.mk (Timpl_Tree.mk z1 ((m1 : Nat) : Int)) (Int.tmod (((m1 + 1) : Nat) : Int) 3 == 0) (Timpl_Tree.mk z2 ((m2 : Nat) : Int)) (Timpl_Det.mk (Timpl_Window.mk z3) (Timpl_Window.mk z4))), fun k l i h0 h1 => ?_, fun q k i h0 h1 => ?_, by omega, by omega⟩
    · rw [laws_markMemberS_L1, if_pos h0, h1]
      simp only [Option.bind_some, a1, w2, w3, a2, w5, a3, a4]
    · rw [laws_heldMemberS_L1, if_pos h0]
      simp only [h1, Option.bind_some, bne_self_eq_false, Bool.false_eq_true, if_false, nat_neg, decide_false, w2, w3, w5, b1, b2, b3, b4]
def mc_Forest (x : Timpl_Forest) : Nat := mc_MemberS x.Members_
theorem marks_Forest {x : Timpl_Forest} (hl : len_Forest x) (h : mc_Forest x ≤ 1000000000000000000) : Marks laws_markForest laws_heldForest (mc_Forest x) x := fun m hm => by
  unfold mc_Forest at h hm ⊢
  obtain ⟨m0, z0, a0, b0, c0, d0⟩ := marks_MemberS (x := x.Members_) hl (by omega) m (by omega)
  unfold laws_markForest laws_heldForest
  refine ⟨m0, ⟨z0⟩, ?_, ?_, by omega, by omega⟩
  · simp only [Option.bind_some, a0]
  · simp only [Option.bind_some, Bool.false_eq_true, if_false, nat_neg, decide_false, b0]
def mc_PairS (x : List Timpl_Pair) : Nat := (x.map fun _ => 2).sum
theorem marks_PairS {x : List Timpl_Pair} (hl : len_PairS x) (_ : mc_PairS x ≤ 1000000000000000000) : Marks laws_markPairS laws_heldPairS (mc_PairS x) x := by
  unfold laws_markPairS laws_heldPairS
  refine marks_loop2 (p := x) (c := fun _ => 2) (laws_markPairS_L1 x) (fun q => laws_heldPairS_L1 q) (fun k l m i h0 => by
    rw [laws_markPairS_L1, if_neg h0]) (fun q k m i h0 => by rw [laws_heldPairS_L1, if_neg h0]) hl (fun x _ m hm => ?_)
  · skip
    have hm : m + (2) < 4611686018427387904 := hm
    have w1 := wrap_succ (i := m) (by omega)
    have w2 := wrap_succ (i := (m + 1)) (by omega)
    refine ⟨((m + 1) + 1), (Timpl_Pair.mk ((m : Nat) : Int) (((m + 1) : Nat) : Int)), fun k l i h0 h1 => ?_, fun q k i h0 h1 => ?_, by omega, by omega⟩
    · rw [laws_markPairS_L1, if_pos h0, h1]
      simp only [Option.bind_some, w1, w2]
    · rw [laws_heldPairS_L1, if_pos h0]
      simp only [h1, Option.bind_some, bne_self_eq_false, Bool.false_eq_true, if_false, w1, w2]
def mc_Score (x : Timpl_Score) : Nat := mc_IntSS x.Table_ + mc_PairS x.Last_
theorem marks_Score {x : Timpl_Score} (hl : len_Score x) (h : mc_Score x ≤ 1000000000000000000) : Marks laws_markScore laws_heldScore (mc_Score x) x := fun m hm => by
  unfold mc_Score at h hm ⊢
  obtain ⟨m0, z0, a0, b0, c0, d0⟩ := marks_IntSS (x := x.Table_) hl.1 (by omega) m (by omega)
  obtain ⟨m1, z1, a1, b1, c1, d1⟩ := marks_PairS (x := x.Last_) hl.2 (by omega) m0 (by omega)
  unfold laws_markScore laws_heldScore
  refine ⟨m1, ⟨z0, z1⟩, ?_, ?_, by omega, by omega⟩
  · simp only [Option.bind_some, a0, a1]
  · simp only [Option.bind_some, Bool.false_eq_true, if_false, nat_neg, decide_false, b0, b1]
theorem mkf_Conf {x z : Timpl_Conf} {m k : Int} (h : laws_markConf x m = some (k, z)) : z = ⟨z.Schema_, x.Rule_, x.Members_, x.Pick_, x.Lambda_, x.Warn_, x.Drift_⟩ := by
  unfold laws_markConf at h
  obtain ⟨_, _, h⟩ := of_bind h
  obtain ⟨rfl, rfl⟩ := Prod.mk.inj (Option.some.inj h)
  rfl
def mc_State (x : Timpl_State) : Nat := mc_Conf x.Conf_ + mc_Forest x.Forest_ + mc_Score x.Score_
theorem marks_State {x : Timpl_State} (hl : len_State x) (h : mc_State x ≤ 1000000000000000000) : Marks laws_markState laws_heldState (mc_State x) x := fun m hm => by
  unfold mc_State at h hm ⊢
  obtain ⟨m0, z0, a0, b0, c0, d0⟩ := marks_Conf (x := x.Conf_) hl.1 (by omega) m (by omega)
  obtain ⟨m1, z1, a1, b1, c1, d1⟩ := marks_Forest (x := x.Forest_) hl.2.1 (by omega) m0 (by omega)
  obtain ⟨m2, z2, a2, b2, c2, d2⟩ := marks_Score (x := x.Score_) hl.2.2 (by omega) m1 (by omega)
  unfold laws_markState laws_heldState
  refine ⟨m2, ⟨z0, z1, z2⟩, ?_, ?_, by omega, by omega⟩
  · simp only [Option.bind_some, a0, a1, a2, ← mkf_Conf a0]
  · simp only [Option.bind_some, Bool.false_eq_true, if_false, nat_neg, decide_false, b0, b1, b2]
theorem mkf_State {x z : Timpl_State} {m k : Int} (h : laws_markState x m = some (k, z)) : z = ⟨⟨z.Conf_.Schema_, x.Conf_.Rule_, x.Conf_.Members_, x.Conf_.Pick_, x.Conf_.Lambda_, x.Conf_.Warn_, x.Conf_.Drift_⟩, z.Forest_, z.Score_⟩ := by
  unfold laws_markState at h
  obtain ⟨_, _, h⟩ := of_bind h
  obtain ⟨_, _, h⟩ := of_bind h
  obtain ⟨_, _, h⟩ := of_bind h
  obtain ⟨rfl, rfl⟩ := Prod.mk.inj (Option.some.inj h)
  rfl
theorem exact_StateNew {a0 : Tlaws_Conf} {a1 : List Int} (h0 : fin_Conf a0) (h1 : fin_ByteS a1) (hs : sml_Conf (to_Conf a0) → sml_ByteS (to_ByteS a1) → mc_Conf (to_Conf a0) ≤ 16777216 → mc_ByteS (to_ByteS a1) ≤ 16777216 → ∃ m, spec_StateNew (to_Conf a0) (to_ByteS a1) = some m ∧ impl_StateNew (to_Conf a0) (to_ByteS a1) = some m ∧ len_State m.1 ∧ mc_State m.1 ≤ 1000000000000000000) : laws_FnExactStateNew a0 a1 = some true := by
  unfold laws_FnExactStateNew
  by_cases c1 : 1048576 < a1.length
  · rw [if_pos (by simp; omega)]
  · rw [if_neg (by simp; omega)]
    have g1 : szn_ByteS a1 ≤ 1048576 := by unfold szn_ByteS; omega
    obtain ⟨r, e0, g0⟩ := weighs_Conf h0 (1048576) (by omega)
    have e0 : laws_szConf a0 1048576 = some r := e0
    rw [e0]
    simp only [Option.bind_some]
    rcases g0 with ⟨g0, _⟩ | ⟨g0, rfl⟩
    · rw [if_pos (by simpa using g0)]
    · rw [if_neg (by simp)]
      have s0 := sml_to_Conf h0 (show szn_Conf a0 ≤ 1048576 by omega)
      have s1 := sml_to_ByteS h1 (show szn_ByteS a1 ≤ 1048576 by omega)
      rw [to_Conf_ok (x := a0) (by omega), to_ByteS_ok (x := a1) (by omega)]
      simp only [Option.bind_some]
      obtain ⟨m, e, e', l0, q0⟩ := hs s0 s1 (by have := mcb_Conf (x := a0); omega) (by have := mcb_ByteS (x := a1); omega)
      have b0 := mcb_Conf (x := a0)
      obtain ⟨k1, z1, p1, _, _, _⟩ := marks_Conf (x := to_Conf a0) (len_of_Conf s0) (by omega) 1 (by omega)
      have p1 : laws_markConf (to_Conf a0) 1 = some ((k1 : Int), z1) := p1
      have b1 := mcb_ByteS (x := a1)
      obtain ⟨k2, z2, p2, _, _⟩ := marks_ByteS (x := to_ByteS a1) (len_of_ByteS s1) (by omega) k1 (by omega)
      obtain ⟨r1, y1, c1, d1, _, _⟩ := marks_State (x := m.1) l0 (by omega) 1 (by omega)
      have c1 : laws_markState m.1 1 = some ((r1 : Int), y1) := c1
      have d1 : laws_heldState y1 1 = some (r1 : Int) := d1
      rw [e]
      simp only [Option.bind_some]
      rw [e']
      simp [eq_Conf_self (len_of_Conf s0), eq_ByteS_self (len_of_ByteS s1), eq_State_self l0, p1, p2, c1, d1, ← mkf_State c1, nat_neg]
end Go.Vk
