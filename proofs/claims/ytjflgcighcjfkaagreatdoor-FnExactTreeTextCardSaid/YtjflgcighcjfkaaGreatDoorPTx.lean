/- A tree in words: alike. -/
import Derived.Test.YtjflgcighcjfkaaGreatDoorPNt
import Derived.Test.YtjflgcighcjfkaaGreatDoorPTr
namespace Go.Vk
theorem rep_eq {l : List UInt8} {d : Nat} (hd : d ≤ 6) (h0 : 0 < l.length) (h1 : l.length ≤ 100) : sRepeat l (d : Int) = some (Lib.repeatL l d) := by
  unfold sRepeat
  rw [if_pos ⟨by omega, by omega, by omega, h0⟩]
  simp
theorem rep_snoc (l : List UInt8) : ∀ d : Nat, Lib.repeatL l (d + 1) = Lib.repeatL l d ++ l
  | 0 => by simp [Lib.repeatL]
  | d + 1 => by
    have h := rep_snoc l d
    show l ++ Lib.repeatL l (d + 1) = (l ++ Lib.repeatL l d) ++ l
    rw [h, List.append_assoc]
theorem kids_b {s : Timpl_Schema} {t : Timpl_Tree} {i : Nat} (h : NodeP s t i) (hi : i < t.Nodes_.length) : t.Nodes_[i].Kids_.length ≤ 4 := by
  obtain ⟨⟨_, _, _, _, h1, h2⟩, _⟩ := h hi
  cases hL : t.Nodes_[i].Leaf_
  · have g := h2 hL
    have := brN_b g.1
    have := g.2.1
    omega
  · have := (h1 hL).2.1
    omega
theorem tree_text {s : Timpl_Schema} {t : Timpl_Tree} (hs : sml_Schema s) (ht : sml_Tree t) : Both (spec_TreeText s t) (impl_TreeText s t) (fun u => u.length ≤ 30000) := by
  unfold spec_TreeText impl_TreeText
  refine both_dec (specTree hs ht) (implTree hs ht) (fun hT => ?_) (fun _ => both_some (by simp))
  simp only [Bool.not_true, Bool.false_eq_true, if_false]
  have hn := hT.2.1
  refine both_for (fun k u i => spec_TreeText_L1 t s k u i) (fun k u i => impl_TreeText_L1 t s k i u) t.Nodes_.length (fun i u v => v = u ∧ u.length ≤ 900 * i) (fun k u v h => ?_) (fun k u v i hi h ih => ?_) (by omega) ⟨rfl, by simp⟩
  · obtain ⟨rfl, h⟩ := h
    show Both (spec_TreeText_L1 t s (k + 1) _ _) (impl_TreeText_L1 t s (k + 1) _ _) _
    rw [spec_TreeText_L1, impl_TreeText_L1, if_neg (by simp), if_neg (by simp)]
    exact both_some (by omega)
  · obtain ⟨rfl, h⟩ := h
    show Both (spec_TreeText_L1 t s (k + 1) _ _) (impl_TreeText_L1 t s (k + 1) _ _) _
    have hN := hT.2.2.2 i hi
    have hk := kids_b hN hi
    have hdp := (hN hi).1.1
    have hsn := ht.1.2 _ (List.getElem_mem hi)
    obtain ⟨d, hd⟩ : ∃ d : Nat, t.Nodes_[i].Depth_ = d := ⟨t.Nodes_[i].Depth_.toNat, by omega⟩
    have hi64 : I64 (i : Int) := by unfold I64; omega
    have hil := itoa_len hi64
    have hrl := Lib.repeatL_length [32, 32] d
    simp only [List.length_cons, List.length_nil] at hrl
    rw [spec_TreeText_L1, impl_TreeText_L1, if_pos (by simp; omega), if_pos (by simp; omega), idx_lt hi]
    simp only [Option.bind_some]
    rw [hd, rep_eq (by omega) (by simp) (by simp), implDigits hi64]
    simp only [Option.bind_some]
    rw [sadd_eq (by omega)]
    simp only [Option.bind_some]
    rw [sadd_eq (by simp; omega)]
    simp only [Option.bind_some]
    have key : spec_TreeText_L2 t (i : Int) s (spec_TreeText_L1 t s k) Fuel v 0 = (spec_NodeText s t.Nodes_[i]).bind fun y => spec_TreeText_L1 t s k (v ++ Lib.repeatL [32, 32] d ++ Lib.itoa i ++ [58, 32] ++ y ++ [10]) ((i + 1 : Nat) : Int) := by
      have g := for_idx (Lp := fun q j => spec_TreeText_L2 t (i : Int) s (spec_TreeText_L1 t s k) q (v ++ Lib.repeatL [32, 32] j) (j : Int)) (n := d) (fin := (spec_NodeText s t.Nodes_[i]).bind fun y => spec_TreeText_L1 t s k (v ++ Lib.repeatL [32, 32] d ++ Lib.itoa i ++ [58, 32] ++ y ++ [10]) ((i + 1 : Nat) : Int)) (fun q => ?_) (fun q j hj => ?_) (by omega)
      · have g : spec_TreeText_L2 t (i : Int) s (spec_TreeText_L1 t s k) Fuel (v ++ []) 0 = _ := g
        rw [List.append_nil] at g
        exact g
      · show spec_TreeText_L2 t (i : Int) s (spec_TreeText_L1 t s k) (q + 1) _ _ = _
        rw [spec_TreeText_L2, idx_lt hi]
        simp only [Option.bind_some]
        rw [hd, if_neg (by simp), specDigits hi64]
        simp only [Option.bind_some]
        rw [sadd_eq (by simp; omega)]
        simp only [Option.bind_some]
        rw [sadd_eq (by simp; omega)]
        simp only [Option.bind_some]
        obtain ⟨m, m1, _, m3⟩ := node_text hs hsn
        rw [m1]
        simp only [Option.bind_some]
        rw [sadd_eq (by simp; omega)]
        simp only [Option.bind_some]
        rw [sadd_eq (by simp; omega), wrap_succ (by omega)]
        rfl
      · show spec_TreeText_L2 t (i : Int) s (spec_TreeText_L1 t s k) (q + 1) _ _ = spec_TreeText_L2 t (i : Int) s (spec_TreeText_L1 t s k) q _ _
        have hrj := Lib.repeatL_length [32, 32] j
        simp only [List.length_cons, List.length_nil] at hrj
        rw [spec_TreeText_L2, idx_lt hi]
        simp only [Option.bind_some]
        rw [hd, if_pos (by simp; omega), sadd_eq (by simp; omega), wrap_succ (by omega), rep_snoc, List.append_assoc]
        rfl
    rw [key]
    refine (node_text hs hsn).bind fun y hy => ?_
    rw [sadd_eq (by simp; omega)]
    simp only [Option.bind_some]
    rw [sadd_eq (by simp; omega)]
    simp only [Option.bind_some]
    rw [sadd_eq (by simp; omega), wrap_succ (by omega)]
    refine ih _ _ ⟨by simp, by simp; omega⟩
theorem treeText_same {s : Timpl_Schema} {t : Timpl_Tree} (hs : sml_Schema s) (ht : sml_Tree t) : ∃ m, spec_TreeText s t = some m ∧ impl_TreeText s t = some m := by
  obtain ⟨m, h1, h2, _⟩ := tree_text hs ht
  exact ⟨m, h1, h2⟩
end Go.Vk
