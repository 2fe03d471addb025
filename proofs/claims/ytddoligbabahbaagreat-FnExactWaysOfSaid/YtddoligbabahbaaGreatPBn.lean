/- Where a bin goes; the mask of a branch; the mask of all: alike. -/
import Derived.Test.YtddoligbabahbaaGreatPTr
import Derived.Test.YtddoligbabahbaaGreatPBo
namespace Go.Vk
/-- the branch of a bin -/
def brOf (a : Timpl_Attr) (f : Timpl_Fork) (b : Int) : Int := if f.At_ = -1 then b else if 0 < a.Cuts_.length then (if f.At_ < b then 1 else 0) else (if b = f.At_ then 0 else 1)
theorem specBranchOf {s : Timpl_Schema} {f : Timpl_Fork} (hs : sml_Schema s) (h : ForkP s f) {b : Int} (hb : 0 ≤ b ∧ b ≤ (nb (atr s f) : Int) - 1) : spec_BranchOf s f b = some (brOf (atr s f) f b) := by
  unfold spec_BranchOf brOf
  have hm := hs.1.2 _ (atr_mem h.2.1)
  have hA := atr_ok h.1 h.2.1
  have hnb := nb_b hA
  rcases (specFork (f := f) hs).cases with ⟨e, _⟩ | ⟨_, g⟩
  · rw [e]
    simp only [Option.bind_some, Bool.not_true, Bool.false_eq_true, if_false]
    rw [idx_atr h.2.1]
    simp only [Option.bind_some]
    rw [specBins hm hA]
    simp only [Option.bind_some]
    rw [wrap_id (by omega) (by omega)]
    rcases (dec_l1In (x := b) (a := 0) (b := (nb (atr s f) : Int) - 1)).cases with ⟨e, _⟩ | ⟨_, g⟩
    · rw [e]
      simp only [Option.bind_some, Bool.not_true, Bool.false_eq_true, if_false]
      by_cases h1 : f.At_ = -1
      · rw [if_pos (by simpa using h1), if_pos h1]
      · rw [if_neg (by simpa using h1), if_neg h1]
        unfold spec_l1Bit
        by_cases h2 : 0 < (atr s f).Cuts_.length
        · rw [if_pos (by simpa using h2), if_pos h2]
          by_cases h3 : f.At_ < b
          · rw [if_pos h3, if_pos (by simpa using h3)]; rfl
          · rw [if_neg h3, if_neg (by simpa using h3)]; rfl
        · rw [if_neg (by simpa using h2), if_neg h2]
          by_cases h3 : b = f.At_
          · rw [if_pos h3, if_neg (by simpa using h3)]; rfl
          · rw [if_neg h3, if_pos (by simpa using h3)]; rfl
    · exact absurd hb g
  · exact absurd h g
theorem implBranchOf {s : Timpl_Schema} {f : Timpl_Fork} (hs : sml_Schema s) (h : ForkP s f) {b : Int} (hb : 0 ≤ b ∧ b ≤ (nb (atr s f) : Int) - 1) : impl_BranchOf s f b = some (brOf (atr s f) f b) := by
  unfold impl_BranchOf brOf
  have hm := hs.1.2 _ (atr_mem h.2.1)
  have hA := atr_ok h.1 h.2.1
  have hnb := nb_b hA
  rcases (implFork (f := f) hs).cases with ⟨e, _⟩ | ⟨_, g⟩
  · rw [e]
    simp only [Option.bind_some, Bool.not_true, Bool.false_eq_true, if_false]
    rw [idx_atr h.2.1]
    simp only [Option.bind_some]
    rw [implBins hm]
    simp only [Option.bind_some]
    rw [wrap_id (by omega) (by omega)]
    rcases (dec_within (x := b) (a := 0) (b := (nb (atr s f) : Int) - 1)).cases with ⟨e, _⟩ | ⟨_, g⟩
    · rw [e]
      simp only [Option.bind_some, Bool.not_true, Bool.false_eq_true, if_false]
      by_cases h1 : f.At_ = -1
      · rw [if_pos (by simpa using h1), if_pos h1]
      · rw [if_neg (by simpa using h1), if_neg h1]
        by_cases h3 : b = f.At_
        · rw [if_pos (by simpa using h3)]
          simp only [Option.bind_some, if_true]
          have h4 : ¬ f.At_ < b := by omega
          rw [if_pos h3, if_neg h4, ite_self]
        · rw [if_neg (by simpa using h3), if_neg h3]
          simp only [Option.bind_some]
          by_cases h2 : 0 < (atr s f).Cuts_.length
          · rw [if_pos h2]
            by_cases h4 : f.At_ < b
            · rw [if_neg (by simp only [Bool.and_eq_true, decide_eq_true_eq]; omega), if_pos h4]
            · rw [if_pos (by simp only [Bool.and_eq_true, decide_eq_true_eq]; omega), if_neg h4]
          · rw [if_neg (by simp only [Bool.and_eq_true, decide_eq_true_eq]; omega), if_neg h2]
    · exact absurd hb g
  · exact absurd h g
/-! masks -/
theorem or_pow : ∀ i : Nat, i < 4 → ∀ m : Nat, m < 2 ^ i → ibits .or .i64 (m : Int) ((2 ^ i : Nat) : Int) = ((m + 2 ^ i : Nat) : Int) := by decide
theorem or_16 : ∀ m : Nat, m < 16 → ibits .or .i64 (m : Int) 16 = ((m + 16 : Nat) : Int) := by decide
theorem shl_one : ∀ i : Nat, i < 4 → shl .i64 1 (i : Int) = some ((2 ^ i : Nat) : Int) := by decide
def brMask (a : Timpl_Attr) (f : Timpl_Fork) (b : Int) : Nat → Nat
  | 0 => 0
  | i + 1 => brMask a f b i + if brOf a f i = b then 2 ^ i else 0
theorem brMask_lt (a : Timpl_Attr) (f : Timpl_Fork) (b : Int) : ∀ i : Nat, brMask a f b i < 2 ^ i
  | 0 => by simp [brMask]
  | i + 1 => by
    have := brMask_lt a f b i
    simp only [brMask]
    rw [Nat.pow_succ]
    split <;> omega
/-- the mask of a node's branch -/
def maskOf (s : Timpl_Schema) (n : Timpl_Node) (b : Int) : Nat := brMask (atr s n.Fork_) n.Fork_ b (nb (atr s n.Fork_)) + if n.Miss_ = b then 16 else 0
theorem pow_le16 {n : Nat} (h : n ≤ 4) : 2 ^ n ≤ 16 := by
  have : (2 : Nat) ^ n ≤ 2 ^ 4 := Nat.pow_le_pow_right (by omega) h
  omega
theorem implMask {s : Timpl_Schema} {n : Timpl_Node} (hs : sml_Schema s) (h : ForkP s n.Fork_) (b : Int) : impl_branchMask s n b = some (maskOf s n b : Int) := by
  unfold impl_branchMask maskOf
  have hm := hs.1.2 _ (atr_mem h.2.1)
  have hA := atr_ok h.1 h.2.1
  have hnb := nb_b hA
  rw [idx_atr h.2.1]
  simp only [Option.bind_some]
  rw [implBins hm]
  simp only [Option.bind_some]
  have hbo := fun (i : Nat) (hi : i < nb (atr s n.Fork_)) => implBranchOf hs h (b := (i : Int)) (by omega)
  generalize hq : nb (atr s n.Fork_) = q at *
  have hlt := brMask_lt (atr s n.Fork_) n.Fork_ b q
  have h16 := pow_le16 hnb.2
  refine for_idx (Lp := fun k i => impl_branchMask_L1 (q : Int) s n b k (i : Int) ((brMask (atr s n.Fork_) n.Fork_ b i : Nat) : Int)) (n := q) (fun k => ?_) (fun k i hi => ?_) (by omega)
  · show impl_branchMask_L1 (q : Int) s n b (k + 1) _ _ = _
    rw [impl_branchMask_L1, if_neg (by simp)]
    by_cases hb : n.Miss_ = b
    · rw [if_pos (by simpa using hb), if_pos hb, or_16 _ (by omega)]
    · rw [if_neg (by simpa using hb), if_neg hb]; rfl
  · show impl_branchMask_L1 (q : Int) s n b (k + 1) _ _ = impl_branchMask_L1 (q : Int) s n b k _ _
    rw [impl_branchMask_L1, if_pos (by simp; omega), hbo i hi, wrap_succ (by omega)]
    simp only [Option.bind_some]
    by_cases hb : brOf (atr s n.Fork_) n.Fork_ i = b
    · rw [if_pos (by simpa using hb), shl_one i (by omega)]
      simp only [Option.bind_some]
      rw [or_pow i (by omega) _ (brMask_lt _ _ _ _)]
      congr 1
      simp only [brMask]
      rw [if_pos hb]
    · rw [if_neg (by simpa using hb)]
      congr 1
      simp only [brMask]
      rw [if_neg hb]; simp
theorem specMask {s : Timpl_Schema} {n : Timpl_Node} (hs : sml_Schema s) (h : ForkP s n.Fork_) (b : Int) : spec_l31Branch s n b = some (maskOf s n b : Int) := by
  unfold spec_l31Branch maskOf
  have hm := hs.1.2 _ (atr_mem h.2.1)
  have hA := atr_ok h.1 h.2.1
  have hnb := nb_b hA
  have hbo := fun (i : Nat) (hi : i < nb (atr s n.Fork_)) => specBranchOf hs h (b := (i : Int)) (by omega)
  have hsb := specBins hm hA
  generalize hq : nb (atr s n.Fork_) = q at *
  have hlt := brMask_lt (atr s n.Fork_) n.Fork_ b q
  have h16 := pow_le16 hnb.2
  refine for_idx (Lp := fun k i => spec_l31Branch_L1 s n b k ((brMask (atr s n.Fork_) n.Fork_ b i : Nat) : Int) (i : Int)) (n := q) (fun k => ?_) (fun k i hi => ?_) (by omega)
  · show spec_l31Branch_L1 s n b (k + 1) _ _ = _
    rw [spec_l31Branch_L1, idx_atr h.2.1]
    simp only [Option.bind_some]
    rw [hsb]
    simp only [Option.bind_some]
    rw [if_neg (by simp)]
    by_cases hb : n.Miss_ = b
    · rw [if_pos (by simpa using hb), if_pos hb, wrap_id (by omega) (by omega)]; rfl
    · rw [if_neg (by simpa using hb), if_neg hb]; rfl
  · show spec_l31Branch_L1 s n b (k + 1) _ _ = spec_l31Branch_L1 s n b k _ _
    have hl := brMask_lt (atr s n.Fork_) n.Fork_ b i
    have hl2 := pow_le16 (show i ≤ 4 by omega)
    rw [spec_l31Branch_L1, idx_atr h.2.1]
    simp only [Option.bind_some]
    rw [hsb]
    simp only [Option.bind_some]
    rw [if_pos (by simp; omega), hbo i hi, wrap_succ (by omega)]
    simp only [Option.bind_some]
    by_cases hb : brOf (atr s n.Fork_) n.Fork_ i = b
    · rw [if_pos (by simpa using hb), power_ok (by omega)]
      simp only [Option.bind_some]
      rw [wrap_id (by omega) (by omega)]
      congr 1
      simp only [brMask]
      rw [if_pos hb]; simp
    · rw [if_neg (by simpa using hb)]
      congr 1
      simp only [brMask]
      rw [if_neg hb]; simp
def fm (a : Timpl_Attr) : Nat := 2 ^ nb a + 15
theorem full_ok {a : Timpl_Attr} (hx : sml_Attr a) (h : AttrP a) : spec_FullMask a = some (fm a : Int) ∧ impl_FullMask a = some (fm a : Int) := by
  unfold spec_FullMask impl_FullMask fm
  rcases (specAttr (okM_of hx)).cases with ⟨e, _⟩ | ⟨_, g⟩
  · rcases (implAttr (okM_of hx)).cases with ⟨e2, _⟩ | ⟨_, g⟩
    · rw [e, e2]
      simp only [Option.bind_some, Bool.not_true, Bool.false_eq_true, if_false]
      rw [specBins hx h, implBins hx]
      simp only [Option.bind_some]
      have := nb_b h
      rw [power_ok (by omega)]
      have hn : nb a = 2 ∨ nb a = 3 ∨ nb a = 4 := by omega
      rcases hn with hn | hn | hn
      · rw [hn]; exact ⟨by decide, by decide⟩
      · rw [hn]; exact ⟨by decide, by decide⟩
      · rw [hn]; exact ⟨by decide, by decide⟩
    · exact absurd h g
  · exact absurd h g
end Go.Vk
