/- A cell in words, a way in words: alike. -/
import Derived.Test.YtjflgcighcjfkaaDoorQX
import Derived.Test.YtjflgcighcjfkaaDoorPBo
namespace Go.Vk
theorem okM_sml {a : Timpl_Attr} (h : sml_Attr a) : OkM a := by
  obtain ⟨h1, h2, h3⟩ := h
  exact ⟨by omega, by have := h2.1; omega, by have := h3.1; omega, fun y hy => by have := h3.2 y hy; omega⟩
theorem okS_sml {s : Timpl_Schema} (h : sml_Schema s) : OkS s := by
  obtain ⟨h1, h2⟩ := h
  exact ⟨by have := h1.1; omega, fun a ha => okM_sml (h1.2 a ha), by have := h2.1; omega, fun y hy => by have := h2.2 y hy; omega⟩
theorem cell_same {a : Timpl_Attr} (hs : sml_Attr a) (h : AttrP a) {n : Nat} (hn : spec_Bins a = some (n : Int)) (hn' : impl_bins a = some (n : Int)) (c : Int) : Both (spec_CellText a c) (impl_CellText a c) (fun t => t.length ≤ 21) := by
  have hx := okM_sml hs
  obtain ⟨n', b1, b2, b3, b4⟩ := bins_ok hx h
  obtain rfl : n' = n := by have := b1.symm.trans hn; simp at this; omega
  unfold spec_CellText impl_CellText
  refine both_dec (specAttr hx) (implAttr hx) (fun _ => ?_) (fun g => absurd h g)
  simp only [Bool.not_true, Bool.false_eq_true, if_false]
  rw [hn, hn']
  unfold spec_l1In impl_within
  simp only [Option.bind_some]
  have hb : (n' : Int) = if 0 < a.Cuts_.length then ((a.Cuts_.length : Int) + 1) else (a.Values_.length : Int) := by
    have hc := h.2
    unfold impl_bins at hn'
    by_cases h0 : 0 < a.Cuts_.length
    · rw [if_pos (by simpa using h0), wrap_succ (by omega)] at hn'
      rw [if_pos h0]
      simp at hn'
      omega
    · rw [if_neg (by simpa using h0)] at hn'
      rw [if_neg h0]
      simp at hn'
      omega
  rw [wrap_id (by omega) (by omega)]
  refine both_if Iff.rfl (fun _ => both_some (by simp)) (fun hr => ?_)
  have hr' : -1 ≤ c ∧ c ≤ n' - 1 := by simp at hr; omega
  refine both_if Iff.rfl (fun _ => both_some (by simp)) (fun h1 => ?_)
  have h1' : c ≠ -1 := by simpa using h1
  obtain ⟨j, rfl⟩ : ∃ j : Nat, c = j := ⟨c.toNat, by omega⟩
  rcases h.2 with ⟨c0, c1, c2⟩ | ⟨c0, c1, c2⟩
  · rw [if_neg (by omega)] at hb
    have hj : j < a.Values_.length := by omega
    rw [if_pos (by simp; omega), if_pos (by simp; omega), idx_lt hj]
    exact both_some (by have := (c2 j (by omega) hj hj).1.1; omega)
  · rw [if_pos (by omega)] at hb
    have hv : ¬ (decide ((a.Values_.length : Int) > 0) = true) := by rw [c0]; simp
    rw [if_neg hv, if_neg hv]
    refine both_if Iff.rfl (fun g => ?_) (fun g => ?_)
    · have hj : j < a.Cuts_.length := by simpa using g
      have hi := hs.2.1.2 _ (List.getElem_mem hj)
      rw [idx_lt hj]
      simp only [Option.bind_some]
      rw [specDigits hi, implDigits hi]
      exact both_some (itoa_len hi)
    · have hj : ¬ j < a.Cuts_.length := by simpa using g
      have e : j = a.Cuts_.length := by omega
      have hk : a.Cuts_.length - 1 < a.Cuts_.length := by omega
      have e2 : IntKind.i64.wrap ((a.Cuts_.length : Int) - 1) = ((a.Cuts_.length - 1 : Nat) : Int) := by rw [wrap_id (by omega) (by omega)]; omega
      subst e
      have hi := hs.2.1.2 _ (List.getElem_mem hk)
      rw [e2, idx_lt hk]
      simp only [Option.bind_some]
      have hw : I64 (IntKind.i64.wrap (a.Cuts_[a.Cuts_.length - 1] + 1)) := by
        unfold I64
        rw [IntKind.wrap_i64]
        omega
      rw [specDigits hw, implDigits hw]
      exact both_some (itoa_len hw)
theorem bit_same : ∀ m : Nat, m < 32 → ∀ j : Nat, j < 4 → ((shr .i64 (m : Int) (j : Int)).map fun v => ibits .and .i64 v 1 == 1) = some (ibits .and .i64 (m : Int) ((2 ^ j : Nat) : Int) != 0) := by decide
def Few (b n : Nat) (l : List (List UInt8)) : Prop := l.length ≤ n ∧ ∀ x ∈ l, x.length ≤ b
theorem Few.snoc {b n : Nat} {l : List (List UInt8)} {x : List UInt8} (h : Few b n l) (hx : x.length ≤ b) : Few b (n + 1) (l ++ [x]) := ⟨by have := h.1; simp; omega, fun y hy => by
  rcases List.mem_append.1 hy with hy | hy
  · exact h.2 y hy
  · rw [List.mem_singleton.1 hy]; exact hx⟩
theorem Few.join {b n k : Nat} {l : List (List UInt8)} {sep : List UInt8} (h : Few b n l) (hk : (sep.length + b) * n ≤ k) : (Lib.join l sep).length ≤ k := by
  have h1 := join_len (sep := sep) h.2
  have h2 : (sep.length + b) * l.length ≤ (sep.length + b) * n := Nat.mul_le_mul_left _ h.1
  omega
theorem both_app {α ρ : Type} {l : List α} {x : α} {f g : List α → Option ρ} {Q : ρ → Prop} (hl : l.length ≤ 1000000) (h : Both (f (l ++ [x])) (g (l ++ [x])) Q) : Both ((app l [x]).bind f) ((app l [x]).bind g) Q := by
  unfold app
  rw [if_pos (by simp; omega)]
  exact h
theorem wayPiece {s : Timpl_Schema} {i : Nat} (hi : i < s.Attrs_.length) (hA : AttrP s.Attrs_[i]) {l l2 : List (List UInt8)} (h2 : Few 21 5 l2) (hl : l.length ≤ 100) (h5 : i ≤ 100)
    {R : List (List UInt8) → Int → Option (List UInt8)} {R' : Int → List (List UInt8) → Option (List UInt8)} {Q : List UInt8 → Prop}
    (h : ∀ x : List UInt8, x.length ≤ 200 → Both (R (l ++ [x]) ((i + 1 : Nat) : Int)) (R' ((i + 1 : Nat) : Int) (l ++ [x])) Q) : Both (spec_WayText_J1 s i l R l2) (impl_WayText_J1 s.Attrs_[i] l R' i l2) Q := by
  unfold spec_WayText_J1 impl_WayText_J1
  have hn := hA.1.1
  have hj := h2.join (sep := [44]) (k := 110) (by simp)
  rw [idx_lt hi, wrap_succ (by omega)]
  simp only [Option.bind_some]
  rw [sadd_eq (by simp; omega), specJoin (by have := h2.1; omega) (by omega) (by simp), implJoin (by have := h2.1; omega) (by omega)]
  generalize Lib.join l2 [44] = t at hj
  simp only [Option.bind_some]
  rw [sadd_eq (by simp; omega)]
  simp only [Option.bind_some]
  rw [sadd_eq (by simp; omega)]
  simp only [Option.bind_some]
  exact both_app (by omega) (h _ (by simp; omega))
theorem mask_b {x : Int} {F : Nat} (hF : F ≤ 31) (h : 0 ≤ x ∧ ibits .and .i64 x F = x) : ∃ m : Nat, x = m ∧ m < 32 := by
  obtain ⟨h1, h2⟩ := mask_and (e := x) hF
  rw [h.2] at h1
  exact ⟨_, h1, by omega⟩
theorem wayText_same {s : Timpl_Schema} {w : Timpl_Way} (hs : sml_Schema s) (hw : sml_Way w) : ∃ m, spec_WayText s w = some m ∧ impl_WayText s w = some m := by
  suffices h : Both (spec_WayText s w) (impl_WayText s w) (fun _ => True) by
    obtain ⟨m, h1, h2, _⟩ := h
    exact ⟨m, h1, h2⟩
  have hS := okS_sml hs
  unfold spec_WayText impl_WayText
  refine both_dec (specWay hS) (implWay hS (fun e he => hw.2.2 e he)) (fun hW => ?_) (fun _ => both_some trivial)
  simp only [Bool.not_true, Bool.false_eq_true, if_false]
  obtain ⟨⟨⟨a1, a5⟩, _, _, hN⟩, _, hlen, hM⟩ := hW
  refine both_for (fun k l i => spec_WayText_L1 w s k l i) (fun k l i => impl_WayText_L1 w s k i l) w.Masks_.length (fun i l l' => l' = l ∧ Few 200 i l) (fun k l l' h => ?_) (fun k l l' i hi h ih => ?_) (by omega) ⟨rfl, by simp, by simp⟩
  · obtain ⟨rfl, h⟩ := h
    show Both (spec_WayText_L1 w s (k + 1) _ _) (impl_WayText_L1 w s (k + 1) _ _) _
    have hc : ¬ (decide ((w.Masks_.length : Int) < (w.Masks_.length : Int)) = true) := by simp
    rw [spec_WayText_L1, impl_WayText_L1, if_neg hc, if_neg hc]
    refine both_if Iff.rfl (fun _ => both_some trivial) (fun _ => ?_)
    have hl := h.1
    have hj : (Lib.join l' [38]).length ≤ 2000 := h.join (by simp; omega)
    rw [specJoin (by omega) (by omega) (by simp), implJoin (by omega) (by omega)]
    exact both_some trivial
  · obtain ⟨rfl, h⟩ := h
    show Both (spec_WayText_L1 w s (k + 1) _ _) (impl_WayText_L1 w s (k + 1) _ _) _
    have hl := h.1
    have ha : i < s.Attrs_.length := by omega
    have hA := hN i (by omega) ha ha
    have hsa := hs.1.2 _ (List.getElem_mem ha)
    obtain ⟨F, hF, e1, e2⟩ := fullMask_ok (hS.2.1 _ (List.getElem_mem ha))
    obtain ⟨F', _, f1, f2⟩ := hM i (by omega) hi
    obtain rfl : F' = F := by have := f1.symm.trans e1; simpa using this
    obtain ⟨m, hm, hm'⟩ := mask_b hF (f2 hi)
    rw [spec_WayText_L1, impl_WayText_L1, if_pos (by simp; omega), if_pos (by simp; omega), idx_lt hi, idx_lt ha]
    simp only [Option.bind_some]
    rw [e1, e2]
    simp only [Option.bind_some]
    refine both_if Iff.rfl (fun _ => ?_) (fun _ => ?_)
    · rw [wrap_succ (by omega)]
      exact ih l' l' ⟨rfl, by omega, h.2⟩
    · obtain ⟨n, b1, b2, b3, b4⟩ := bins_ok (okM_sml hsa) hA.1
      rw [b2, hm]
      simp only [Option.bind_some]
      have fin : ∀ l2, Few 21 5 l2 → Both (spec_WayText_J1 s i l' (spec_WayText_L1 w s k) l2) (impl_WayText_J1 s.Attrs_[i] l' (impl_WayText_L1 w s k) i l2) (fun _ => True) := fun l2 h2 =>
        wayPiece ha hA.1 h2 (by omega) (by omega) (fun x hx => ih _ _ ⟨rfl, h.snoc hx⟩)
      refine both_for (fun k2 l2 j => spec_WayText_L2 s i w l' (spec_WayText_L1 w s k) k2 l2 j) (fun k2 l2 j => impl_WayText_L2 n m s.Attrs_[i] l' (impl_WayText_L1 w s k) i k2 j l2) n (fun j l2 l2' => l2' = l2 ∧ Few 21 j l2) (fun k2 l2 l2' g => ?_) (fun k2 l2 l2' j hj g ih2 => ?_) (by omega) ⟨rfl, by simp, by simp⟩
      · obtain ⟨rfl, g⟩ := g
        show Both (spec_WayText_L2 s i w l' _ (k2 + 1) _ _) (impl_WayText_L2 _ _ _ _ _ _ (k2 + 1) _ _) _
        have gl := g.1
        rw [spec_WayText_L2, impl_WayText_L2, idx_lt ha]
        simp only [Option.bind_some]
        rw [b1, idx_lt hi, hm]
        simp only [Option.bind_some]
        have hc : ¬ (decide ((n : Int) < (n : Int)) = true) := by simp
        rw [if_neg hc, if_neg hc]
        refine both_if Iff.rfl (fun _ => ?_) (fun _ => fin _ ⟨by omega, g.2⟩)
        have g2 := g.snoc (x := [63]) (by simp)
        exact both_app (by omega) (fin _ ⟨by have := g2.1; omega, g2.2⟩)
      · obtain ⟨rfl, g⟩ := g
        show Both (spec_WayText_L2 s i w l' _ (k2 + 1) _ _) (impl_WayText_L2 _ _ _ _ _ _ (k2 + 1) _ _) _
        have gl := g.1
        rw [spec_WayText_L2, impl_WayText_L2, idx_lt ha]
        simp only [Option.bind_some]
        rw [b1, idx_lt hi, hm]
        simp only [Option.bind_some]
        have hc : decide ((j : Int) < (n : Int)) = true := by simp; omega
        rw [if_pos hc, if_pos hc, power_ok (by omega)]
        have hbit := bit_same m hm' j (by omega)
        cases hv : shr .i64 (m : Int) (j : Int) with
        | none => rw [hv] at hbit; simp at hbit
        | some v =>
          rw [hv] at hbit
          have hbit : (ibits .and .i64 v 1 == 1) = (ibits .and .i64 (m : Int) ((2 ^ j : Nat) : Int) != 0) := by simpa using hbit
          simp only [Option.bind_some]
          rw [hbit, wrap_succ (by omega)]
          refine both_if Iff.rfl (fun _ => ?_) (fun _ => ih2 _ _ ⟨rfl, by omega, g.2⟩)
          refine (cell_same hsa hA.1 b1 b2 j).bind fun t ht => ?_
          exact both_app (by omega) (ih2 _ _ ⟨rfl, g.snoc ht⟩)
end Go.Vk
