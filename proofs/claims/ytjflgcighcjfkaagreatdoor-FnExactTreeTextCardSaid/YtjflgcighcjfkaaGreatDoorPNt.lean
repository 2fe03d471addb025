/- A fork in words, a node in words: alike. -/
import Derived.Test.YtjflgcighcjfkaaGreatDoorPFk
import Derived.Test.YtjflgcighcjfkaaGreatDoorPTop
import Derived.Test.YtjflgcighcjfkaaGreatDoorPNu
namespace Go.Vk
theorem fork_text {s : Timpl_Schema} {f : Timpl_Fork} (hs : sml_Schema s) (h : ForkP s f) : Both (spec_ForkText s f) (impl_ForkText s f) (fun t => t.length ≤ 40) := by
  unfold spec_ForkText impl_ForkText
  refine both_dec (specFork hs) (implFork hs) (fun _ => ?_) (fun g => absurd h g)
  simp only [Bool.not_true, Bool.false_eq_true, if_false]
  rw [idx_atr h.2.1]
  simp only [Option.bind_some]
  have hA := atr_ok h.1 h.2.1
  have hm := hs.1.2 _ (atr_mem h.2.1)
  have hat := h.2.2
  unfold lastAt nb at hat
  generalize atr s f = a at *
  have hn := hA.1.1
  refine both_if Iff.rfl (fun _ => ?_) (fun h1 => ?_)
  · rw [sadd_eq (by simp; omega)]
    exact both_some (by simp; omega)
  · have h1' : f.At_ ≠ -1 := by simpa using h1
    obtain ⟨j, hj⟩ : ∃ j : Nat, f.At_ = j := ⟨f.At_.toNat, by omega⟩
    rw [hj]
    rcases hA.2 with ⟨c0, c1, c2⟩ | ⟨c0, c1, c2⟩
    · rw [if_neg (by omega), if_neg (by omega)] at hat
      have hlt : j < a.Values_.length := by omega
      have hv := (c2 j (by omega) hlt hlt).1.1
      rw [if_neg (by simp only [decide_eq_true_eq]; omega), if_neg (by simp only [decide_eq_true_eq]; omega), sadd_eq (by simp; omega), idx_lt hlt]
      unfold lib_slices_Clone___string_string_
      have hvl := hm.2.2.1
      rw [app_eq (by simp; omega)]
      simp only [Option.bind_some, List.nil_append]
      rw [idx_lt hlt]
      simp only [Option.bind_some]
      rw [sadd_eq (by simp; omega)]
      exact both_some (by simp; omega)
    · rw [if_pos (by omega), if_pos (by omega)] at hat
      have hlt : j < a.Cuts_.length := by omega
      have hi := hm.2.1.2 _ (List.getElem_mem hlt)
      have hl := itoa_len hi
      rw [if_pos (by simp; omega), if_pos (by simp; omega), sadd_eq (by simp; omega), idx_lt hlt]
      simp only [Option.bind_some]
      rw [specDigits hi, implDigits hi]
      simp only [Option.bind_some]
      rw [sadd_eq (by simp; omega)]
      exact both_some (by simp; omega)
theorem totals_both {p : List Int} (hp : sml_IntS p) (h3 : p.length ≤ 3) : Both (spec_TotalsText p) (impl_TotalsText p) (fun t => t.length ≤ 363) := by
  obtain ⟨m, e1, e2⟩ := totals_same hp
  obtain ⟨h1, h2⟩ := numbers_same (sep := [47]) hp (by simp)
  refine ⟨m, e1, e2, ?_⟩
  unfold impl_TotalsText at e2
  rw [h1] at e2
  have : Lib.join (p.map Lib.itoa) [47] = m := Option.some.inj e2
  rw [← this]
  omega
theorem word_both {s : Timpl_Schema} {n : Timpl_Node} (hn : sml_Node n) (h : StatsP s n.Stats_) {w : List UInt8} (hw : w.length = 4) : Both (spec_NodeText_J1 n s w) (impl_NodeText_J1 n s w) (fun t => t.length ≤ 500) := by
  unfold spec_NodeText_J1 impl_NodeText_J1
  have hst := hn.2.2.2.2.1.1
  have hc := h.1.2.1
  have hlen := h.2.1
  obtain ⟨t, t1, t2, t3⟩ := totals_both hst (by omega)
  obtain ⟨j, ⟨hj, _⟩, j1, j2⟩ := top_both hst.1 (by omega)
  have hjc : j < s.Classes_.length := by omega
  have hcl := (h.1.2.2.1 j (Nat.zero_le _) hjc hjc).1.1
  have hsn : I64 n.Since_ := hn.2.2.2.2.2.1
  have hsl := itoa_len hsn
  rw [t1, t2, j1, j2, specDigits hsn, implDigits hsn, sadd_eq (by simp; omega)]
  simp only [Option.bind_some]
  rw [idx_lt hjc]
  generalize s.Classes_[j] = c at *
  generalize Lib.itoa n.Since_ = d at *
  simp only [Option.bind_some]
  rw [implJoin (by simp) (by simp [Lib.join]; omega)]
  refine ⟨_, ?_, rfl, ?_⟩
  · repeat
      rw [sadd_eq (by simp; omega)]
      simp only [Option.bind_some]
    simp [Lib.join]
  · simp [Lib.join]; omega
theorem node_text {s : Timpl_Schema} {n : Timpl_Node} (hs : sml_Schema s) (hn : sml_Node n) : Both (spec_NodeText s n) (impl_NodeText s n) (fun t => t.length ≤ 500 + 65 * n.Kids_.length) := by
  unfold spec_NodeText impl_NodeText
  by_cases hL : n.Leaf_ = true
  · rw [if_pos hL, if_pos hL]
    refine both_dec (specStats hs hn.2.2.2.2.1) (implStats hs hn.2.2.2.2.1) (fun hS => ?_) (fun _ => both_some (by simp))
    unfold impl_active
    simp only [Option.bind_some, Bool.not_true, Bool.false_eq_true, Bool.true_and, if_false, hL]
    by_cases h0 : n.Stats_.Cells_.length = 0
    · rw [if_pos (by simp only [beq_iff_eq]; omega), if_neg (by simp only [decide_eq_true_eq]; omega)]
      exact (word_both hn hS rfl).mono fun t ht => by omega
    · rw [if_neg (by simp only [beq_iff_eq]; omega), if_pos (by simp only [decide_eq_true_eq]; omega)]
      exact (word_both hn hS rfl).mono fun t ht => by omega
  · rw [if_neg hL, if_neg hL]
    refine both_dec (specFork hs) (implFork hs) (fun hF => ?_) (fun _ => both_some (by simp))
    simp only [Bool.not_true, Bool.false_eq_true, if_false]
    refine (fork_text hs hF).bind fun t ht => ?_
    have hm : I64 n.Miss_ := hn.2.2.2.1
    have hml := itoa_len hm
    have hk := hn.2.2.1.1
    rw [sadd_eq (by simp; omega), specDigits hm, implDigits hm]
    generalize Lib.itoa n.Miss_ = d at *
    simp only [Option.bind_some]
    rw [sadd_eq (by simp; omega)]
    simp only [Option.bind_some]
    refine both_for (fun k u i => spec_NodeText_L1 n k u i) (fun k l i => impl_NodeText_L1 n k i l) n.Kids_.length (fun i u l => u = Lib.join l [32] ∧ l.length = i + 3 ∧ ∀ x ∈ l, x.length ≤ 64) (fun k u l h => ?_) (fun k u l i hi h ih => ?_) (by omega) ⟨?_, rfl, fun x hx => ?_⟩
    · obtain ⟨rfl, hl, hx⟩ := h
      have hj := join_len (sep := [32]) hx
      rw [hl] at hj
      simp only [List.length_singleton] at hj
      show Both (spec_NodeText_L1 n (k + 1) _ _) (impl_NodeText_L1 n (k + 1) _ _) _
      rw [spec_NodeText_L1, impl_NodeText_L1, if_neg (by simp), if_neg (by simp), implJoin (by omega) (by omega)]
      exact both_some (by omega)
    · obtain ⟨rfl, hl, hx⟩ := h
      have hj := join_len (sep := [32]) hx
      rw [hl] at hj
      simp only [List.length_singleton] at hj
      have hv : I64 n.Kids_[i] := hn.2.2.1.2 _ (List.getElem_mem hi)
      have hvl := itoa_len hv
      show Both (spec_NodeText_L1 n (k + 1) _ _) (impl_NodeText_L1 n (k + 1) _ _) _
      rw [spec_NodeText_L1, impl_NodeText_L1, if_pos (by simp; omega), if_pos (by simp; omega), idx_lt hi, wrap_succ (by omega)]
      simp only [Option.bind_some]
      rw [specDigits hv, implDigits hv, sadd_eq (by simp; omega)]
      simp only [Option.bind_some]
      rw [sadd_eq (by simp; omega), app_eq (by simp; omega)]
      simp only [Option.bind_some]
      refine ih _ _ ⟨?_, by simp; omega, fun x hx2 => ?_⟩
      · rw [join_snoc, if_neg (fun e => by rw [e] at hl; simp at hl)]
      · rcases List.mem_append.1 hx2 with hx2 | hx2
        · exact hx x hx2
        · rw [List.mem_singleton.1 hx2]; omega
    · simp [Lib.join]
    · simp only [List.mem_cons, List.not_mem_nil, or_false] at hx
      rcases hx with rfl | rfl | rfl
      · omega
      · simp
      · omega
theorem nodeText_same {s : Timpl_Schema} {n : Timpl_Node} (hs : sml_Schema s) (hn : sml_Node n) : ∃ m, spec_NodeText s n = some m ∧ impl_NodeText s n = some m := by
  obtain ⟨m, h1, h2, _⟩ := node_text hs hn
  exact ⟨m, h1, h2⟩
end Go.Vk
