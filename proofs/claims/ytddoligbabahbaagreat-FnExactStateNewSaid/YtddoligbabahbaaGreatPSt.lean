/- Statistics: tested alike; the greatest of a list. -/
import Derived.Test.YtddoligbabahbaaGreatQW
import Derived.Test.YtddoligbabahbaaGreatPBo
namespace Go.Vk
theorem okM_of {a : Timpl_Attr} (h : sml_Attr a) : OkM a := by
  obtain ⟨h1, h2, h3⟩ := h
  exact ⟨by omega, by have := h2.1; omega, by have := h3.1; omega, fun y hy => by have := h3.2 y hy; omega⟩
theorem okS_of {s : Timpl_Schema} (h : sml_Schema s) : OkS s := by
  obtain ⟨h1, h2⟩ := h
  exact ⟨by have := h1.1; omega, fun a ha => okM_of (h1.2 a ha), by have := h2.1; omega, fun y hy => by have := h2.2 y hy; omega⟩
theorem dec_bind {o : Option Bool} {P R : Prop} {f : Bool → Option Bool} (h : Dec o P) (ht : P → Dec (f true) R) (hf : ¬ P → Dec (f false) R) : Dec (o.bind f) R := by
  rcases h.cases with ⟨e, hp⟩ | ⟨e, hp⟩
  · rw [e]; exact ht hp
  · rw [e]; exact hf hp
theorem dec_within {x a b : Int} : Dec (impl_within x a b) (a ≤ x ∧ x ≤ b) := dec_in
theorem dec_l1In {x a b : Int} : Dec (spec_l1In x a b) (a ≤ x ∧ x ≤ b) := dec_in
/-- how many bins an attribute has -/
def nb (a : Timpl_Attr) : Nat := if 0 < a.Cuts_.length then a.Cuts_.length + 1 else a.Values_.length
theorem implBins {a : Timpl_Attr} (hx : sml_Attr a) : impl_bins a = some (nb a : Int) := by
  have h1 := hx.2.1.1
  unfold impl_bins nb
  by_cases h0 : 0 < a.Cuts_.length
  · rw [if_pos (by simpa using h0), if_pos h0, wrap_succ (by omega)]
  · rw [if_neg (by simpa using h0), if_neg h0]
theorem nb_b {a : Timpl_Attr} (h : AttrP a) : 2 ≤ nb a ∧ nb a ≤ 4 := by
  unfold nb
  rcases h.2 with ⟨h1, h2, _⟩ | ⟨h1, h2, _⟩
  · rw [if_neg (by omega)]; omega
  · rw [if_pos (by omega)]; omega
theorem specBins {a : Timpl_Attr} (hx : sml_Attr a) (h : AttrP a) : spec_Bins a = some (nb a : Int) := by
  obtain ⟨n, b1, b2, _⟩ := bins_ok (okM_of hx) h
  rw [b1, ← b2, implBins hx]
theorem SchemaP.attr {s : Timpl_Schema} (h : SchemaP s) {i : Nat} (hi : i < s.Attrs_.length) : AttrP s.Attrs_[i] := (h.2.2.2 i (Nat.zero_le _) hi hi).1
end Go.Vk
