/- Attributes: weighed, copied, compared; FullMask. -/
import Derived.Test.YtejneofoabmojaaPA
namespace Go.Vk
theorem weighs_ints {x : List Int} (hx : x.length < 9223372036854775808) : Weighs laws_szIntS List.length x := fun s hs => by
  obtain ⟨r, h1, h2⟩ := weigh_list (p := x) s hs
  exact ⟨r, h1, h2 hx⟩
theorem toIntS_id {p : List Int} (hp : p.length ≤ 1048576) : laws_toIntS p = some p := by
  unfold laws_toIntS
  rw [mk_eq _ (by omega)]
  have := copy_loop (F := some) (g := id) (laws_toIntS_L1 p) (fun _ _ _ => rfl) (by omega) (fun _ _ => rfl) 0
  simpa using this
theorem eqIntS_self {p : List Int} (hp : p.length < 1000000000000) : laws_eqIntS p p = some true := by
  unfold laws_eqIntS
  rw [if_neg (by simp)]
  refine same_loop (p := p) (laws_eqIntS_L1 p p) (fun _ o => o) (fun k i => ?_) hp (fun _ _ _ => rfl)
  show (if _ then _ else _) = _
  cases h : idx p i with
  | none => rfl
  | some e => simp only [Option.bind_some, bne_self_eq_false, Bool.false_eq_true, if_false]
def szTs (x : List (List UInt8)) : Nat := x.length + (x.map List.length).sum
theorem weighs_texts {x : List (List UInt8)} (hx : x.length < 9223372036854775808) (he : ∀ y ∈ x, y.length < 9223372036854775808) : Weighs laws_szStringS szTs x := fun s hs => by
  unfold laws_szStringS szTs
  rw [wrap_id (n := (s : Int) - (x.length : Int)) (by omega) (by omega)]
  by_cases h : s < x.length
  · rw [if_pos (by simp; omega)]
    exact ⟨_, rfl, .inl ⟨by omega, by omega⟩⟩
  · rw [if_neg (by simp; omega)]
    have := weigh_loop (p := x) (Z := fun e s => if decide ((IntKind.i64.wrap (s - (e.length : Int))) < 0) then some (-1) else some (IntKind.i64.wrap (s - (e.length : Int)))) (size := List.length) (laws_szStringS_L1 x) (fun k s i => by
      show (if _ then (idx x i).bind _ else _) = _
      cases idx x i with
      | none => rfl
      | some e =>
        simp only [Option.bind_some]
        split
        · by_cases h : IntKind.i64.wrap (s - (e.length : Int)) < 0
          · simp [h]
          · simp [h]
        · rfl) (by omega) (fun y hy s hs => by
      obtain ⟨r, h1, h2⟩ := weigh_list (p := y) s hs
      exact ⟨r, h1, h2 (he y hy)⟩) (s - x.length) (by omega)
    rw [show (s : Int) - (x.length : Int) = ((s - x.length : Nat) : Int) by omega]
    obtain ⟨r, h1, h2⟩ := this
    refine ⟨r, h1, ?_⟩
    rcases h2 with ⟨h2, h3⟩ | ⟨h2, h3⟩
    · exact .inl ⟨h2, by omega⟩
    · exact .inr ⟨by omega, by rw [h3]; congr 1; omega⟩
theorem toStringS_id {p : List (List UInt8)} (hp : p.length ≤ 1048576) : laws_toStringS p = some p := by
  unfold laws_toStringS
  rw [mk_eq _ (by omega)]
  have := copy_loop (F := some) (g := id) (laws_toStringS_L1 p) (fun _ _ _ => rfl) (by omega) (fun _ _ => rfl) []
  simpa using this
theorem eqStringS_self {p : List (List UInt8)} (hp : p.length < 1000000000000) : laws_eqStringS p p = some true := by
  unfold laws_eqStringS
  rw [if_neg (by simp)]
  refine same_loop (p := p) (laws_eqStringS_L1 p p) (fun _ o => o) (fun k i => ?_) hp (fun _ _ _ => rfl)
  show (if _ then _ else _) = _
  cases h : idx p i with
  | none => rfl
  | some e => simp only [Option.bind_some, beq_self_eq_true, Bool.not_true, Bool.false_eq_true, if_false]
def szA (x : Tlaws_Attr) : Nat := x.Name_.length + x.Cuts_.length + szTs x.Values_
def OkA (x : Tlaws_Attr) : Prop := x.Name_.length < 9223372036854775808 ∧ x.Cuts_.length < 9223372036854775808 ∧ x.Values_.length < 9223372036854775808 ∧ ∀ y ∈ x.Values_, y.length < 9223372036854775808
theorem weighs_attr {x : Tlaws_Attr} (hx : OkA x) : Weighs laws_szAttr szA x := fun s hs => by
  obtain ⟨h1, h2, h3, h4⟩ := hx
  unfold laws_szAttr szA
  rw [wrap_id (n := (s : Int) - (x.Name_.length : Int)) (by omega) (by omega)]
  by_cases h : s < x.Name_.length
  · rw [if_pos (by simp; omega)]; exact ⟨_, rfl, .inl ⟨by omega, by omega⟩⟩
  · rw [if_neg (by simp; omega), show (s : Int) - (x.Name_.length : Int) = ((s - x.Name_.length : Nat) : Int) by omega]
    obtain ⟨r, e1, g⟩ := weighs_ints h2 (s - x.Name_.length) (by omega)
    rw [e1]
    simp only [Option.bind_some]
    rcases g with ⟨g, g'⟩ | ⟨g, rfl⟩
    · rw [if_pos (by simpa using g)]; exact ⟨_, rfl, .inl ⟨by omega, by omega⟩⟩
    · rw [if_neg (by simp)]
      obtain ⟨r, e2, g2⟩ := weighs_texts h3 h4 (s - x.Name_.length - x.Cuts_.length) (by omega)
      rw [e2]
      simp only [Option.bind_some]
      rcases g2 with ⟨f, f'⟩ | ⟨f, rfl⟩
      · rw [if_pos (by simpa using f)]; exact ⟨_, rfl, .inl ⟨by omega, by omega⟩⟩
      · rw [if_neg (by simp)]; exact ⟨_, rfl, .inr ⟨by omega, by congr 1; omega⟩⟩
def toA (x : Tlaws_Attr) : Timpl_Attr := ⟨x.Name_, x.Cuts_, x.Values_⟩
theorem toAttr_ok {x : Tlaws_Attr} (h : szA x ≤ 1048576) : laws_toAttr x = some (toA x) := by
  unfold szA szTs at h
  unfold laws_toAttr
  rw [toIntS_id (by omega), toStringS_id (by omega)]
  rfl
theorem eqAttr_self {x : Timpl_Attr} (h1 : x.Cuts_.length < 1000000000000) (h2 : x.Values_.length < 1000000000000) : laws_eqAttr x x = some true := by
  unfold laws_eqAttr
  simp only [beq_self_eq_true, Bool.not_true, Bool.false_eq_true, if_false]
  rw [eqIntS_self h1, eqStringS_self h2]
  rfl
/-! ### attributes -/
def AttrP (x : Timpl_Attr) : Prop := WordP x.Name_ ∧ ((x.Cuts_.length = 0 ∧ (2 ≤ (x.Values_.length : Int) ∧ (x.Values_.length : Int) ≤ 4) ∧ WordsP x.Values_) ∨ (x.Values_.length = 0 ∧ (1 ≤ (x.Cuts_.length : Int) ∧ (x.Cuts_.length : Int) ≤ 3) ∧ CutsP x.Cuts_))
def OkM (x : Timpl_Attr) : Prop := x.Name_.length < 1000000000000 ∧ x.Cuts_.length < 1000000000000 ∧ x.Values_.length < 1000000000000 ∧ ∀ y ∈ x.Values_, y.length < 1000000000000
theorem specAttr {x : Timpl_Attr} (hx : OkM x) : Dec (spec_AttrOk x) (AttrP x) := by
  obtain ⟨h1, h2, h3, h4⟩ := hx
  unfold spec_AttrOk AttrP
  rcases (specWord h1).cases with ⟨e, hw⟩ | ⟨e, hw⟩
  · rw [e]
    simp only [Option.bind_some, Bool.not_true, Bool.false_eq_true, if_false]
    by_cases hc : x.Cuts_.length = 0
    · rw [if_pos (by rw [beq_iff_eq]; omega)]
      unfold spec_l1In
      simp only [Option.bind_some]
      by_cases hv : 2 ≤ (x.Values_.length : Int) ∧ (x.Values_.length : Int) ≤ 4
      · rw [in_t hv]
        simp only [if_true]
        rcases (specWords h3 h4).cases with ⟨e2, hW⟩ | ⟨e2, hW⟩
        · rw [e2]; exact dec_t ⟨hw, .inl ⟨hc, hv, hW⟩⟩
        · rw [e2]; exact dec_f fun g => by rcases g.2 with ⟨_, _, g⟩ | ⟨_, g, _⟩ <;> first | exact hW g | omega
      · rw [in_f hv]
        exact dec_f fun g => by rcases g.2 with ⟨_, g, _⟩ | ⟨_, g, _⟩ <;> omega
    · rw [if_neg (by rw [beq_iff_eq]; omega)]
      by_cases hb : 0 < x.Values_.length ∨ 3 < x.Cuts_.length
      · rw [if_pos (by simp; omega)]
        exact dec_f fun g => by rcases g.2 with ⟨g, _, _⟩ | ⟨_, g, _⟩ <;> omega
      · rw [if_neg (by rw [Bool.or_eq_true, decide_eq_true_eq, decide_eq_true_eq]; omega)]
        have ha : Dec (spec_AttrOk_L1 x Fuel 0) (CutsP x.Cuts_) := by
          refine all_idx (Lp := spec_AttrOk_L1 x) (n := x.Cuts_.length) (Q := fun i => ∀ h : i < x.Cuts_.length, (-9999 ≤ x.Cuts_[i] ∧ x.Cuts_[i] ≤ 9998) ∧ ∀ h0 : 0 < i, x.Cuts_[i - 1] < x.Cuts_[i]) 0 (fun k i hi => ?_) (fun k i _ hi => ?_) h2
          · show (if _ then _ else _) = _
            rw [if_neg (by simp; omega)]
          · rw [spec_AttrOk_L1]
            rw [if_pos (by simp; omega), idx_lt hi, wrap_succ (by omega)]
            unfold spec_l1In
            simp only [Option.bind_some]
            by_cases hr : -9999 ≤ x.Cuts_[i] ∧ x.Cuts_[i] ≤ 9998
            · rw [in_t hr]
              simp only [Bool.not_true, Bool.false_eq_true, if_false]
              by_cases h0 : 0 < i
              · rw [if_pos (by simp; omega), wrap_id (by omega) (by omega), show (i : Int) - 1 = ((i - 1 : Nat) : Int) by omega, idx_lt (show i - 1 < x.Cuts_.length by omega)]
                simp only [Option.bind_some]
                by_cases hle : x.Cuts_[i] ≤ x.Cuts_[i - 1]
                · rw [if_pos (by simpa using hle)]
                  exact .inr ⟨fun g => by have := (g hi).2 h0; omega, rfl⟩
                · rw [if_neg (by simpa using hle)]
                  exact .inl ⟨fun _ => ⟨hr, fun _ => by omega⟩, rfl⟩
              · rw [if_neg (by simp; omega)]
                exact .inl ⟨fun _ => ⟨hr, fun h => absurd h h0⟩, rfl⟩
            · rw [in_f hr]
              exact .inr ⟨fun g => hr (g hi).1, rfl⟩
        exact ha.of_iff ⟨fun g => ⟨hw, .inr ⟨by omega, by omega, g⟩⟩, fun g => by rcases g.2 with ⟨g, _, _⟩ | ⟨_, _, g⟩; exact absurd g hc; exact g⟩
  · rw [e]
    exact dec_f fun g => hw g.1
theorem implAttr {x : Timpl_Attr} (hx : OkM x) : Dec (impl_AttrOk x) (AttrP x) := by
  obtain ⟨h1, h2, h3, h4⟩ := hx
  unfold impl_AttrOk AttrP
  rcases (implWord h1).cases with ⟨e, hw⟩ | ⟨e, hw⟩
  · rw [e]
    simp only [Option.bind_some, Bool.not_true, Bool.false_eq_true, if_false]
    by_cases hc : x.Cuts_.length = 0
    · rw [if_pos (by rw [beq_iff_eq]; omega)]
      unfold impl_within
      simp only [Option.bind_some]
      by_cases hv : 2 ≤ (x.Values_.length : Int) ∧ (x.Values_.length : Int) ≤ 4
      · rw [in_t hv]
        simp only [if_true]
        rcases (implWords h3 h4).cases with ⟨e2, hW⟩ | ⟨e2, hW⟩
        · rw [e2]; exact dec_t ⟨hw, .inl ⟨hc, hv, hW⟩⟩
        · rw [e2]; exact dec_f fun g => by rcases g.2 with ⟨_, _, g⟩ | ⟨_, g, _⟩ <;> first | exact hW g | omega
      · rw [in_f hv]
        exact dec_f fun g => by rcases g.2 with ⟨_, g, _⟩ | ⟨_, g, _⟩ <;> omega
    · rw [if_neg (by rw [beq_iff_eq]; omega)]
      by_cases hb : x.Values_.length = 0
      · rw [if_pos (by rw [beq_iff_eq]; omega)]
        rcases (implCuts h2).cases with ⟨e2, hC⟩ | ⟨e2, hC⟩
        · rw [e2]; exact dec_t ⟨hw, .inr ⟨hb, hC.1, hC.2⟩⟩
        · rw [e2]; exact dec_f fun g => by
            rcases g.2 with ⟨g, _, _⟩ | ⟨_, g, g'⟩
            · exact hc g
            · exact hC ⟨g, g'⟩
      · rw [if_neg (by rw [beq_iff_eq]; omega)]
        exact dec_f fun g => by rcases g.2 with ⟨g, _, _⟩ | ⟨g, _, _⟩ <;> omega
  · rw [e]
    exact dec_f fun g => hw g.1
end Go.Vk
