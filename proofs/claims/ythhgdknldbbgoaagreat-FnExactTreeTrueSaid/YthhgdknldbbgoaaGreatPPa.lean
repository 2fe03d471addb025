/- The path of an example: alike. -/
import Derived.Test.YthhgdknldbbgoaaGreatPSt
namespace Go.Vk
def nodeAt (t : Timpl_Tree) (i : Nat) : Timpl_Node := t.Nodes_.getD i default
theorem nodeAt_eq {t : Timpl_Tree} {i : Nat} (h : i < t.Nodes_.length) : nodeAt t i = t.Nodes_[i] := by unfold nodeAt; simp [h]
def ints (l : List Nat) : List Int := l.map (fun (i : Nat) => (i : Int))
/-- the branch that an example takes at a node -/
def takes (s : Timpl_Schema) (n : Timpl_Node) (e : Timpl_Ex) : Int :=
  let b := e.Bins_.getD n.Fork_.Attr_.toNat 0
  if 0 ≤ b then brOf (atr s n.Fork_) n.Fork_ b else n.Miss_
def nxt (s : Timpl_Schema) (t : Timpl_Tree) (e : Timpl_Ex) (i : Nat) : Nat := ((nodeAt t i).Kids_.getD (takes s (nodeAt t i) e).toNat 0).toNat
def pathN (s : Timpl_Schema) (t : Timpl_Tree) (e : Timpl_Ex) : Nat → Nat → List Nat
  | 0, i => [i]
  | d + 1, i => if (nodeAt t i).Leaf_ = true then [i] else i :: pathN s t e d (nxt s t e i)
theorem brOf_b {s : Timpl_Schema} {f : Timpl_Fork} (_ : ForkP s f) {b : Int} (hb : 0 ≤ b ∧ b ≤ (nb (atr s f) : Int) - 1) : 0 ≤ brOf (atr s f) f b ∧ brOf (atr s f) f b ≤ (brN s f : Int) - 1 := by
  unfold brOf brN
  split
  · omega
  · split <;> split <;> omega
/-- what an example finds at an inner node -/
theorem bin_ok {s : Timpl_Schema} {f : Timpl_Fork} {e : Timpl_Ex} (hs : sml_Schema s) (hE : ExP s e) (h : ForkP s f) : ∃ b, idx e.Bins_ f.Attr_ = some b ∧ b = e.Bins_.getD f.Attr_.toNat 0 ∧ -1 ≤ b ∧ b ≤ (nb (atr s f) : Int) - 1 := by
  obtain ⟨a, ha, ea, et⟩ := atr_of h.2.1
  have hl : a < e.Bins_.length := by have := hE.2.1; omega
  obtain ⟨n, h1, h2, _, h3⟩ := hE.2.2.2 a (Nat.zero_le _) hl
  have hn : nb s.Attrs_[a] = n := by
    have := implBins (hs.1.2 _ (List.getElem_mem ha))
    rw [h2] at this
    have := Option.some.inj this
    omega
  have h3 := h3 hl
  rw [ea, et, hn, idx_lt hl, Int.toNat_natCast, getD_lt hl]
  exact ⟨_, rfl, rfl, h3.1, h3.2⟩
theorem takes_b {s : Timpl_Schema} {t : Timpl_Tree} {n : Timpl_Node} {i : Nat} {e : Timpl_Ex} (hs : sml_Schema s) (hE : ExP s e) (h : SplitP s t i n) : ∃ k : Nat, takes s n e = k ∧ k < n.Kids_.length := by
  obtain ⟨b, _, hb, h1, h2⟩ := bin_ok hs hE h.1
  unfold takes
  rw [← hb]
  have hk := h.2.1
  have hm := h.2.2.1
  by_cases h0 : 0 ≤ b
  · have := brOf_b h.1 ⟨h0, h2⟩
    show ∃ k : Nat, (if 0 ≤ b then _ else _) = (k : Int) ∧ _
    rw [if_pos h0]
    exact ⟨(brOf (atr s n.Fork_) n.Fork_ b).toNat, by omega, by omega⟩
  · show ∃ k : Nat, (if 0 ≤ b then _ else _) = (k : Int) ∧ _
    rw [if_neg h0]
    exact ⟨n.Miss_.toNat, by omega, by omega⟩
theorem nxt_ok {s : Timpl_Schema} {t : Timpl_Tree} {e : Timpl_Ex} (hs : sml_Schema s) (hT : TreeP s t) (hE : ExP s e) {i : Nat} (hi : i < t.Nodes_.length) (hL : t.Nodes_[i].Leaf_ = false) : ∃ (k : Nat) (hk : k < t.Nodes_[i].Kids_.length) (hn : nxt s t e i < t.Nodes_.length), takes s t.Nodes_[i] e = k ∧ t.Nodes_[i].Kids_[k] = (nxt s t e i : Int) ∧ i < nxt s t e i ∧ t.Nodes_[nxt s t e i].Up_ = i := by
  have hS := (hT.2.2.2 i hi hi).1.2.2.2.2.2 hL
  obtain ⟨k, hk, hkl⟩ := takes_b hs hE hS
  obtain ⟨m, hm, h1, h2, h3⟩ := hS.2.2.2.2.2.2 _ (List.getElem_mem hkl)
  have hx : nxt s t e i = m := by
    unfold nxt
    rw [nodeAt_eq hi, hk, Int.toNat_natCast, getD_lt hkl, h1, Int.toNat_natCast]
  rw [hx]
  exact ⟨k, hkl, hm, hk, h1, h2, h3⟩
theorem path_both {s : Timpl_Schema} {t : Timpl_Tree} {e : Timpl_Ex} (hs : sml_Schema s) (hT : TreeP s t) (hE : ExP s e) : ∀ (d k k' i : Nat) (pre : List Int), t.Nodes_.length - i ≤ d → d < k → d < k' → i < t.Nodes_.length → pre.length ≤ i →
    spec_l19Walk_L1 t e s k pre (i : Int) = some (pre ++ ints (pathN s t e d i)) ∧ impl_pathTo_L1 t e s k' (pre ++ [(i : Int)]) = some (pre ++ ints (pathN s t e d i), false) := by
  intro d
  have hlen := hT.2.1
  induction d with
  | zero => intro k k' i pre h1 h2 h3 h4; omega
  | succ d ih =>
    intro k k' i pre h1 h2 h3 hi hp
    obtain ⟨k, rfl⟩ : ∃ q, k = q + 1 := ⟨k - 1, by omega⟩
    obtain ⟨k', rfl⟩ : ∃ q, k' = q + 1 := ⟨k' - 1, by omega⟩
    have hlast : idx (pre ++ [(i : Int)]) (IntKind.i64.wrap (((pre ++ [(i : Int)]).length : Int) - 1)) = some (i : Int) := by
      rw [show ((pre ++ [(i : Int)]).length : Int) - 1 = (pre.length : Int) by simp, wrap_id (by omega) (by omega), idx_lt (by simp)]
      simp
    rw [spec_l19Walk_L1, impl_pathTo_L1, hlast]
    simp only [Option.bind_some]
    rw [idx_lt hi]
    simp only [Option.bind_some, pathN]
    rw [nodeAt_eq hi]
    cases hL : t.Nodes_[i].Leaf_
    · simp only [Bool.not_false, Bool.false_eq_true, if_true, if_false]
      obtain ⟨j, hj, hn, ht, hk, hlt, _⟩ := nxt_ok hs hT hE hi hL
      have hS := (hT.2.2.2 i hi hi).1.2.2.2.2.2 hL
      obtain ⟨b, hb, hb2, hb3, hb4⟩ := bin_ok hs hE hS.1
      rw [app_eq (by simp; omega), hb]
      simp only [Option.bind_some]
      have htk : takes s t.Nodes_[i] e = if 0 ≤ b then brOf (atr s t.Nodes_[i].Fork_) t.Nodes_[i].Fork_ b else t.Nodes_[i].Miss_ := by rw [hb2]; rfl
      obtain ⟨i1, i2⟩ := ih k k' (nxt s t e i) (pre ++ [(i : Int)]) (by omega) (by omega) (by omega) hn (by simp; omega)
      have hcons : pre ++ [(i : Int)] ++ ints (pathN s t e d (nxt s t e i)) = pre ++ ints (i :: pathN s t e d (nxt s t e i)) := by simp [ints]
      rw [hcons] at i1 i2
      have hJ : ∀ q : Int, q = takes s t.Nodes_[i] e → impl_pathTo_J1 t.Nodes_[i] (pre ++ [(i : Int)]) (impl_pathTo_L1 t e s k') q = some (pre ++ ints (i :: pathN s t e d (nxt s t e i)), false) := fun q hq => by
        unfold impl_pathTo_J1
        rw [hq, ht, idx_lt hj, hk]
        simp only [Option.bind_some]
        rw [app_eq (by simp; omega)]
        exact i2
      by_cases h0 : 0 ≤ b
      · rw [if_pos (by simpa using h0), if_pos (by simpa using h0), specBranchOf hs hS.1 ⟨h0, hb4⟩, implBranchOf hs hS.1 ⟨h0, hb4⟩]
        rw [if_pos h0] at htk
        simp only [Option.bind_some]
        rw [← htk, ht, idx_lt hj, hk]
        simp only [Option.bind_some]
        exact ⟨i1, by rw [← ht]; exact hJ _ rfl⟩
      · rw [if_neg (by simpa using h0), if_neg (by simpa using h0)]
        rw [if_neg h0] at htk
        rw [← htk, ht, idx_lt hj, hk]
        simp only [Option.bind_some]
        exact ⟨i1, by rw [← ht]; exact hJ _ rfl⟩
    · simp only [Bool.not_true, Bool.false_eq_true, if_true, if_false]
      rw [app_eq (by simp; omega)]
      exact ⟨rfl, rfl⟩
theorem paths {s : Timpl_Schema} {t : Timpl_Tree} {e : Timpl_Ex} (hs : sml_Schema s) (hT : TreeP s t) (hE : ExP s e) : spec_l19Walk s t e = some (ints (pathN s t e 32 0)) ∧ impl_pathTo s t e = some (ints (pathN s t e 32 0), false) := by
  have hlen := hT.2.1
  obtain ⟨h1, h2⟩ := path_both hs hT hE 32 Fuel Fuel 0 [] (by omega) (fuel_gt (by omega)) (fuel_gt (by omega)) (by omega) (Nat.le_refl _)
  exact ⟨h1, h2⟩
theorem path_len {s : Timpl_Schema} {t : Timpl_Tree} {e : Timpl_Ex} : ∀ d i, (pathN s t e d i).length ≤ d + 1
  | 0, i => by simp [pathN]
  | d + 1, i => by
    have := path_len (s := s) (t := t) (e := e) d (nxt s t e i)
    simp only [pathN]
    split
    · simp
    · simp only [List.length_cons]; omega
end Go.Vk
/- An example added: alike. -/
namespace Go.Vk
theorem copyStats {t : Timpl_Stats} (h : sml_Stats t) : spec_l8Copy t = some t ∧ impl_cloneStats t = some t := by
  have h1 := h.1.1
  have h2 := h.2.1
  unfold spec_l8Copy impl_cloneStats lib_slices_Clone___int_int_ impl_cloneLists
  rw [app_eq (by simp; omega)]
  simp only [Option.bind_some, List.nil_append]
  constructor
  · have g := map_loop (p := t.Cells_) (fun x => x) (spec_l8Copy_L1 t t.Totals_) (fun l => some (Timpl_Stats.mk t.Totals_ l)) (fun k l => by rw [spec_l8Copy_L1, if_neg (by simp)]) (fun k l i hi hl => by
      have := (h.2.2 _ (List.getElem_mem hi)).1
      rw [spec_l8Copy_L1, if_pos (by simp; omega), idx_lt hi, wrap_succ (by omega)]
      simp only [Option.bind_some]
      rw [app_eq (by simp; omega)]
      simp only [Option.bind_some]
      rw [app_eq (by simp; omega)]
      rfl) (by omega)
    simpa using g
  · have g := map_loop (p := t.Cells_) (fun x => x) (impl_cloneLists_L1 t.Cells_) some (fun k l => by rw [impl_cloneLists_L1, if_neg (by simp)]) (fun k l i hi hl => by
      have := (h.2.2 _ (List.getElem_mem hi)).1
      rw [impl_cloneLists_L1, if_pos (by simp; omega), idx_lt hi, wrap_succ (by omega)]
      unfold lib_slices_Clone___int_int_
      simp only [Option.bind_some]
      rw [app_eq (by simp; omega)]
      simp only [Option.bind_some]
      rw [app_eq (by simp; omega)]
      rfl) (by omega)
    rw [g]
    simp
/-- whole numbers from 0 to 2000, so many -/
def Weights (l : List Int) (n : Nat) : Prop := l.length = n ∧ ∀ x ∈ l, 0 ≤ x ∧ x ≤ 2000
theorem weights_set {l : List Int} {n i : Nat} {v : Int} (h : Weights l n) (hv : 0 ≤ v ∧ v ≤ 2000) : Weights (l.set i v) n := by
  refine ⟨by simp [h.1], fun x hx => ?_⟩
  rcases List.mem_or_eq_of_mem_set hx with hx | rfl
  · exact h.2 x hx
  · exact hv
theorem weights_sml {l : List Int} {n : Nat} (h : Weights l n) (hn : n ≤ 1000) : sml_IntS l := ⟨by rw [h.1]; omega, fun x hx => by have := h.2 x hx; omega⟩
/-- statistics of the right form, small -/
def CellsF (s : Timpl_Schema) (l : List (List Int)) : Prop := (l.length = 0 ∨ l.length = s.Attrs_.length) ∧ ∀ i (h : i < l.length) (h2 : i < s.Attrs_.length), Weights l[i] (nb s.Attrs_[i] * s.Classes_.length)
def FormS (s : Timpl_Schema) (t : Timpl_Stats) : Prop := Weights t.Totals_ s.Classes_.length ∧ CellsF s t.Cells_
theorem nbc {s : Timpl_Schema} (hS : SchemaP s) {i : Nat} (h : i < s.Attrs_.length) : nb s.Attrs_[i] * s.Classes_.length ≤ 12 := by
  have h1 := (nb_b (hS.attr h)).2
  have h2 : s.Classes_.length ≤ 3 := by have := hS.2.1; omega
  calc _ ≤ 4 * 3 := Nat.mul_le_mul h1 h2
    _ = 12 := rfl
theorem sml_form {s : Timpl_Schema} {t : Timpl_Stats} (hs : sml_Schema s) (hS : SchemaP s) (h : FormS s t) : sml_Stats t := by
  have h2 : s.Classes_.length ≤ 3 := by have := hS.2.1; omega
  have h3 := hs.1.1
  refine ⟨weights_sml h.1 (by omega), by rcases h.2.1 with g | g <;> omega, fun x hx => ?_⟩
  obtain ⟨i, hi, rfl⟩ := List.getElem_of_mem hx
  have hi2 : i < s.Attrs_.length := by rcases h.2.1 with g | g <;> omega
  exact weights_sml (h.2.2 i hi hi2) (by have := nbc hS hi2; omega)
theorem form_new {s : Timpl_Schema} : FormS s (statsN s) := by
  have hw : ∀ n, Weights (List.replicate n 0) n := fun n => ⟨by simp, fun x hx => by rw [List.eq_of_mem_replicate hx]; omega⟩
  refine ⟨hw _, .inr (by simp [statsN]), fun i h h2 => ?_⟩
  simp only [statsN, List.getElem_map]
  exact hw _
theorem cell_at {b n c k : Nat} (hb : b < n) (hk : k < c) : b * c + k < n * c := by
  calc b * c + k < b * c + c := by omega
    _ = (b + 1) * c := by rw [Nat.add_mul, Nat.one_mul]
    _ ≤ n * c := Nat.mul_le_mul_right c hb
theorem add_both {s : Timpl_Schema} {t : Timpl_Stats} {e : Timpl_Ex} {w : Int} (hs : sml_Schema s) (hS : SchemaP s) (ht : FormS s t) : Both (spec_StatsAdd s t e w) (impl_StatsAdd s t e w) (fun y => FormS s y.1) := by
  have hm := sml_form hs hS ht
  obtain ⟨c1, c2⟩ := copyStats hm
  unfold spec_StatsAdd impl_StatsAdd
  rw [c1, c2]
  simp only [Option.bind_some]
  have bad : Both (some (t, false)) (some (t, false)) (fun y : Timpl_Stats × Bool => FormS s y.1) := both_some ht
  refine both_dec (specStats hs hm) (implStats hs hm) (fun hP => ?_) (fun _ => by simp only [Option.bind_some, Bool.not_false, Bool.true_or, if_true]; exact bad)
  simp only [Bool.not_true, Bool.false_eq_true, if_false]
  rw [← ((specEx (e := e) (okS_of hs)).eq (implEx (okS_of hs)))]
  rcases (specEx (e := e) (okS_of hs)).cases with ⟨e1, hE⟩ | ⟨e1, _⟩
  · rw [e1]
    simp only [Option.bind_some, Bool.not_true, Bool.false_or]
    obtain ⟨hcl1, hcl2⟩ := hE.2.2.1
    by_cases hc : e.Class_ < 0
    · rw [show (decide (e.Class_ < 0)) = true by simpa using hc, show (e.Class_ == -1) = true by simp; omega]
      simp only [Option.bind_some, if_true]
      exact bad
    · rw [show (decide (e.Class_ < 0)) = false by simpa using hc, show (e.Class_ == -1) = false by simp; omega]
      simp only [Bool.false_eq_true, if_false]
      rw [← ((dec_l1In (x := w) (a := 1) (b := 7)).eq dec_within)]
      rcases (dec_l1In (x := w) (a := 1) (b := 7)).cases with ⟨e2, hw⟩ | ⟨e2, _⟩
      · rw [e2]
        simp only [Option.bind_some, Bool.not_true, Bool.false_eq_true, if_false]
        have hsum := stats_totals hS hP.2.1 hP.2.2.1
        rw [specTotal hs hm hP, total_of (fun x hx => by have := hP.2.2.1 x hx; omega) hm.1.1]
        simp only [Option.bind_some]
        obtain ⟨c, hcc⟩ : ∃ c : Nat, e.Class_ = c := ⟨e.Class_.toNat, by omega⟩
        have hcn : c < s.Classes_.length := by omega
        have hct : c < t.Totals_.length := by rw [ht.1.1]; exact hcn
        refine both_if Iff.rfl (fun _ => bad) (fun _ => ?_)
        rw [hcc, idx_lt hct]
        simp only [Option.bind_some]
        have hx : 0 ≤ t.Totals_[c] ∧ t.Totals_[c] ≤ 999 := hP.2.2.1 _ (List.getElem_mem hct)
        have hT : Weights (t.Totals_.set c (IntKind.i64.wrap (t.Totals_[c] + w))) s.Classes_.length := weights_set ht.1 (by rw [wrap_id (by omega) (by omega)]; omega)
        have hlen := hm.2.1
        refine both_for (fun k l i => spec_StatsAdd_L1 t e s w t.Totals_[c] k l i) (fun k l i => impl_StatsAdd_L1 t e s w t.Totals_[c] k l i) t.Cells_.length
          (fun i a b => b = a ∧ a.length = t.Cells_.length ∧ CellsF s a ∧ ∀ j (h : j < a.length) (h2 : j < t.Cells_.length), i ≤ j → a[j] = t.Cells_[j]) (fun k a b h => ?_) (fun k a b i hi h hk => ?_) (by omega) ⟨rfl, rfl, ht.2, fun j h h2 _ => rfl⟩
        · obtain ⟨rfl, h1, h2, _⟩ := h
          rw [spec_StatsAdd_L1, impl_StatsAdd_L1, if_neg (by simp), if_neg (by simp), hcc]
          exact both_some ⟨hT, h2⟩
        · obtain ⟨rfl, h1, h2, h3⟩ := h
          have hib : i < b.length := by omega
          have hia : i < s.Attrs_.length := by have := ht.2.1; omega
          have hie : i < e.Bins_.length := by rw [hE.2.1]; exact hia
          have hcell := h2.2 i hib hia
          rw [spec_StatsAdd_L1, impl_StatsAdd_L1, if_pos (by simp; omega), if_pos (by simp; omega), idx_lt hie, idx_lt hib, wrap_succ (by omega)]
          simp only [Option.bind_some]
          refine both_if Iff.rfl (fun hb0 => ?_) (fun _ => hk _ _ ⟨rfl, h1, h2, fun j h h' hj => h3 j h h' (by omega)⟩)
          have hb0 : 0 ≤ e.Bins_[i] := by simpa using hb0
          obtain ⟨n, hia2, hn1, hn2, hn3⟩ := hE.2.2.2 i (Nat.zero_le _) hie
          have hn : nb s.Attrs_[i] = n := by
            have := implBins (hs.1.2 _ (List.getElem_mem hia))
            rw [hn1] at this
            have := Option.some.inj this
            omega
          have hn3 := (hn3 hie).2
          obtain ⟨q, hq⟩ : ∃ q : Nat, e.Bins_[i] = q := ⟨e.Bins_[i].toNat, by omega⟩
          have hqc : q * s.Classes_.length + c < b[i].length := by rw [hcell.1, hn]; exact cell_at (by omega) hcn
          have h12 := nbc hS hia
          have hcl := hcell.1
          have hqn : q * s.Classes_.length ≤ 12 := by omega
          have hcx : b[i] = t.Cells_[i] := h3 i hib hi (Nat.le_refl _)
          have hcb : ∀ x ∈ b[i], 0 ≤ x ∧ x ≤ 999 := by
            rw [hcx]
            rcases hP.2.2.2.2 with g | ⟨_, g⟩
            · omega
            · exact (g i hi hia).2.1
          rw [hq, hcc, ← Int.natCast_mul, wrap_nat (by omega), ← Int.natCast_add, wrap_nat (by omega), idx_lt hqc]
          simp only [Option.bind_some]
          have hv := hcb _ (List.getElem_mem hqc)
          refine hk _ _ ⟨rfl, by simpa using h1, ⟨?_, fun j h h' => ?_⟩, fun j h h' hj => ?_⟩
          · simpa using h2.1
          · simp only [List.getElem_set, Int.toNat_natCast]
            split
            · rename_i hj
              subst hj
              exact weights_set hcell (by rw [wrap_id (by omega) (by omega)]; omega)
            · exact h2.2 j (by simpa using h) h'
          · simp only [List.getElem_set, Int.toNat_natCast]
            rw [if_neg (by omega)]
            exact h3 j (by simpa using h) h' (by omega)
      · rw [e2]
        simp only [Option.bind_some, Bool.not_false, if_true]
        exact bad
  · rw [e1]
    simp only [Option.bind_some, Bool.not_false, Bool.true_or, if_true]
    exact bad
end Go.Vk
/- A tree and its past: alike. -/
namespace Go.Vk
theorem both_from {σ τ ρ : Type} (Lp : Nat → σ → Int → Option ρ) (Lq : Nat → τ → Int → Option ρ) (i0 n : Nat) (I : Nat → σ → τ → Prop) {Q : ρ → Prop}
    (hz : ∀ k s t i, n ≤ i → i ≤ n ∨ i = i0 → I i s t → Both (Lp (k + 1) s (i : Int)) (Lq (k + 1) t (i : Int)) Q)
    (hs : ∀ k s t i, i0 ≤ i → i < n → I i s t → (∀ s' t', I (i + 1) s' t' → Both (Lp k s' ((i + 1 : Nat) : Int)) (Lq k t' ((i + 1 : Nat) : Int)) Q) → Both (Lp (k + 1) s (i : Int)) (Lq (k + 1) t (i : Int)) Q)
    (hn : n < 1000000000000) {s : σ} {t : τ} (h0 : I i0 s t) : Both (Lp Fuel s (i0 : Int)) (Lq Fuel t (i0 : Int)) Q := by
  have key : ∀ (d k k' i : Nat) (s : σ) (t : τ), n - i = d → d < k → k' = k → i0 ≤ i → i ≤ n ∨ i = i0 → I i s t → Both (Lp k s (i : Int)) (Lq k' t (i : Int)) Q := by
    intro d
    induction d with
    | zero =>
      intro k k' i s t hd hk hk' hi hi2 h
      obtain ⟨k, rfl⟩ : ∃ q, k = q + 1 := ⟨k - 1, by omega⟩
      subst hk'
      exact hz k s t i (by omega) hi2 h
    | succ d ih =>
      intro k k' i s t hd hk hk' hi hi2 h
      obtain ⟨k, rfl⟩ : ∃ q, k = q + 1 := ⟨k - 1, by omega⟩
      subst hk'
      exact hs k s t i hi (by omega) h (fun s' t' h' => ih k k (i + 1) s' t' (by omega) (by omega) rfl (by omega) (by omega) h')
  exact key (n - i0) Fuel Fuel i0 s t rfl (fuel_gt (by omega)) rfl (Nat.le_refl _) (.inr rfl) h0
/-- the end of a node's own entries -/
theorem end_both {s : Timpl_Schema} {t : Timpl_Tree} {l : List Timpl_Entry} (hT : TreeP s t) {i : Nat} (hi : i < t.Nodes_.length) : ∃ n : Nat, n ≤ l.length ∧ spec_l30End t l i = some (n : Int) ∧ impl_ownEntries s t l i = impl_ownEntries_L1 n l s t i Fuel [] t.Nodes_[i].Born_ := by
  unfold spec_l30End impl_ownEntries impl_ownEntries_J1 spec_l1Min
  rw [idx_lt hi]
  simp only [Option.bind_some]
  cases hL : t.Nodes_[i].Leaf_
  · simp only [Bool.not_false, Bool.false_eq_true, if_true, if_false]
    have hS := (hT.2.2.2 i hi hi).1.2.2.2.2.2 hL
    have hb := brN_b hS.1
    have hk : 0 < t.Nodes_[i].Kids_.length := by have := hS.2.1; omega
    obtain ⟨m, hm, h1, h2, _⟩ := hS.2.2.2.2.2.2 _ (List.getElem_mem hk)
    have hB := (hT.2.2.2 m hm hm).1.2.1.1
    have e0 : idx t.Nodes_[i].Kids_ 0 = some (m : Int) := by
      have := idx_lt hk
      rw [h1] at this
      simpa using this
    rw [e0]
    simp only [Option.bind_some]
    rw [idx_lt hm]
    simp only [Option.bind_some]
    by_cases h : t.Nodes_[m].Born_ < (l.length : Int)
    · rw [if_pos (by simpa using h), if_pos h]
      exact ⟨t.Nodes_[m].Born_.toNat, by omega, by simp only [Option.bind_some]; congr 1; omega, by congr 1; omega⟩
    · rw [if_neg (by simpa using h), if_neg h]
      exact ⟨l.length, Nat.le_refl _, rfl, rfl⟩
  · simp only [Bool.not_true, Bool.false_eq_true, if_true, if_false]
    exact ⟨l.length, Nat.le_refl _, rfl, rfl⟩
theorem own_both {s : Timpl_Schema} {t : Timpl_Tree} {l : List Timpl_Entry} (hs : sml_Schema s) (hT : TreeP s t) (hl : l.length ≤ 1048576) (hE : ∀ e ∈ l, EntryP s e) {i : Nat} (hi : i < t.Nodes_.length) :
    ∃ ns : List Nat, spec_l30Own s t l i = some (ints ns) ∧ impl_ownEntries s t l i = some (ints ns) ∧ ns.length ≤ l.length ∧ ∀ n ∈ ns, n < l.length := by
  obtain ⟨n, hn, he1, he2⟩ := end_both (l := l) hT hi
  have hseen := hT.2.2.1
  have hB := (hT.2.2.2 i hi hi).1.2.1
  obtain ⟨b, hb⟩ : ∃ b : Nat, t.Nodes_[i].Born_ = b := ⟨t.Nodes_[i].Born_.toNat, by omega⟩
  suffices h : Both (spec_l30Own s t l i) (impl_ownEntries s t l i) (fun y => ∃ ns : List Nat, y = ints ns ∧ ns.length ≤ l.length ∧ ∀ n ∈ ns, n < l.length) by
    obtain ⟨m, h1, h2, ns, rfl, h3⟩ := h
    exact ⟨ns, h1, h2, h3⟩
  rw [he2]
  unfold spec_l30Own
  rw [idx_lt hi]
  simp only [Option.bind_some]
  rw [hb]
  refine both_from (fun k x j => spec_l30Own_L1 t l i s k j x) (fun k x j => impl_ownEntries_L1 n l s t i k x j) b n (fun j x y => y = x ∧ ∃ ns : List Nat, x = ints ns ∧ (ns.length ≤ j ∧ (b < n → ns.length ≤ n) ∧ (n ≤ b → ns = [])) ∧ ∀ n ∈ ns, n < l.length) (fun k x y j hj hj2 h => ?_) (fun k x y j hj hj2 h hk => ?_) (by omega) ⟨rfl, [], rfl, ⟨by simp, fun _ => by simp, fun _ => rfl⟩, fun n h => by cases h⟩
  · obtain ⟨rfl, ns, rfl, ⟨h1, h2, h3⟩, h4⟩ := h
    rw [spec_l30Own_L1, impl_ownEntries_L1, he1]
    simp only [Option.bind_some]
    rw [if_neg (by simp; omega), if_neg (by simp; omega)]
    refine both_some ⟨ns, rfl, ?_, h4⟩
    by_cases h : b < n
    · have := h2 h; omega
    · rw [h3 (by omega)]; simp
  · obtain ⟨rfl, ns, rfl, ⟨h1, h2, h3⟩, h4⟩ := h
    have hjl : j < l.length := by omega
    have hP := hE _ (List.getElem_mem hjl)
    obtain ⟨p1, p2⟩ := paths hs hT hP.1
    rw [spec_l30Own_L1, impl_ownEntries_L1, he1]
    simp only [Option.bind_some]
    rw [if_pos (by simp; omega), if_pos (by simp; omega), idx_lt hjl, wrap_succ (by omega)]
    simp only [Option.bind_some]
    rw [p1, p2]
    simp only [Option.bind_some]
    have hp : (ints (pathN s t l[j].Ex_ 32 0)).length ≤ 1048576 := by
      have := path_len (s := s) (t := t) (e := l[j].Ex_) 32 0
      unfold ints
      rw [List.length_map]; omega
    refine both_dec (among_int hp i) (contains_int hp i) (fun _ => ?_) (fun _ => ?_)
    · rw [if_pos rfl, if_pos rfl, app_eq (by simp [ints]; omega)]
      simp only [Option.bind_some]
      refine hk _ _ ⟨rfl, ns ++ [j], by simp [ints], ⟨by simp; omega, fun _ => by simp; omega, fun h => by omega⟩, fun m hm => ?_⟩
      rcases List.mem_append.1 hm with hm | hm
      · exact h4 m hm
      · rw [List.mem_singleton.1 hm]; exact hjl
    · rw [if_neg (by simp), if_neg (by simp)]
      exact hk _ _ ⟨rfl, ns, rfl, ⟨by omega, fun h => h2 h, h3⟩, h4⟩
def entN (l : List Timpl_Entry) (j : Nat) : Timpl_Entry := l.getD j default
theorem entN_eq {l : List Timpl_Entry} {j : Nat} (h : j < l.length) : entN l j = l[j] := by unfold entN; simp [h]
noncomputable def addS (s : Timpl_Schema) (t : Timpl_Stats) (e : Timpl_Entry) : Timpl_Stats := ((impl_StatsAdd s t e.Ex_ e.Weight_).getD (t, false)).1
theorem addS_ok {s : Timpl_Schema} {t : Timpl_Stats} {e : Timpl_Entry} (hs : sml_Schema s) (hS : SchemaP s) (ht : FormS s t) : ∃ b, spec_StatsAdd s t e.Ex_ e.Weight_ = some (addS s t e, b) ∧ impl_StatsAdd s t e.Ex_ e.Weight_ = some (addS s t e, b) ∧ FormS s (addS s t e) := by
  obtain ⟨m, h1, h2, h3⟩ := add_both (e := e.Ex_) (w := e.Weight_) hs hS ht
  unfold addS
  rw [h2]
  exact ⟨m.2, h1, rfl, h3⟩
noncomputable def foldS (s : Timpl_Schema) (l : List Timpl_Entry) (ns : List Nat) : Timpl_Stats := ns.foldl (fun t j => addS s t (entN l j)) (statsN s)
theorem foldS_succ {s : Timpl_Schema} {l : List Timpl_Entry} {ns : List Nat} {i : Nat} (h : i < ns.length) : foldS s l (ns.take (i + 1)) = addS s (foldS s l (ns.take i)) (entN l ns[i]) := by
  unfold foldS
  rw [List.take_succ_eq_append_getElem h, List.foldl_append]
  rfl
theorem form_fold {s : Timpl_Schema} {l : List Timpl_Entry} (hs : sml_Schema s) (hS : SchemaP s) (ns : List Nat) : FormS s (foldS s l ns) := by
  have key : ∀ (ns : List Nat) (t : Timpl_Stats), FormS s t → FormS s (ns.foldl (fun t j => addS s t (entN l j)) t) := by
    intro ns
    induction ns with
    | nil => intro t h; exact h
    | cons a ns ih =>
      intro t h
      obtain ⟨_, _, _, h3⟩ := addS_ok (e := entN l a) hs hS h
      exact ih _ h3
  exact key ns _ form_new
def since (r : Timpl_Rule) (l : List Timpl_Entry) (ns : List Nat) : Int := ns.foldl (fun c j => if c + (entN l j).Weight_ ≥ r.Grace_ then 0 else c + (entN l j).Weight_) 0
theorem since_succ {r : Timpl_Rule} {l : List Timpl_Entry} {ns : List Nat} {i : Nat} (h : i < ns.length) : since r l (ns.take (i + 1)) = if since r l (ns.take i) + (entN l ns[i]).Weight_ ≥ r.Grace_ then 0 else since r l (ns.take i) + (entN l ns[i]).Weight_ := by
  unfold since
  rw [List.take_succ_eq_append_getElem h, List.foldl_append]
  rfl
theorem idx_ints {ns : List Nat} {i : Nat} (h : i < ns.length) : idx (ints ns) (i : Int) = some (ns[i] : Int) := by
  rw [idx_lt (by simpa [ints] using h)]
  simp [ints]
theorem len_ints (ns : List Nat) : (ints ns).length = ns.length := by simp [ints]
theorem hist {s : Timpl_Schema} {r : Timpl_Rule} {t : Timpl_Tree} {l : List Timpl_Entry} {i : Nat} {ns : List Nat} (hs : sml_Schema s) (hS : SchemaP s) (hl : l.length ≤ 1048576) (hE : ∀ e ∈ l, EntryP s e) (hO : impl_ownEntries s t l i = some (ints ns)) (hn : ns.length ≤ l.length) (hb : ∀ n ∈ ns, n < l.length) :
    Tot (impl_history s r t l i) (fun y => y.1 = foldS s l ns ∧ y.2.1 = since r l ns) := by
  unfold impl_history
  rw [implStatsNew hs hS, hO]
  simp only [Option.bind_some]
  refine tot_for (fun k (σ : Timpl_Stats × Int × List Timpl_checkpoint) j => impl_history_L1 (ints ns) l s r k σ.1.Totals_ σ.1.Cells_ σ.2.1 σ.2.2 j) ns.length (fun j σ => σ.1 = foldS s l (ns.take j) ∧ σ.2.1 = since r l (ns.take j) ∧ (0 ≤ σ.2.1 ∧ σ.2.1 ≤ 7 * (j : Int)) ∧ σ.2.2.length ≤ j) (fun k σ h => ?_) (fun k σ j hj h hk => ?_) (by omega) (s := (statsN s, 0, [])) ⟨rfl, rfl, ⟨by simp, by simp⟩, by simp⟩
  · obtain ⟨h1, h2, _⟩ := h
    show Tot (impl_history_L1 _ _ _ _ (k + 1) _ _ _ _ _) _
    rw [impl_history_L1, len_ints, if_neg (by simp)]
    rw [List.take_length] at h1 h2
    exact tot_some ⟨h1, h2⟩
  · obtain ⟨h1, h2, h3, h4⟩ := h
    have hx := hb _ (List.getElem_mem hj)
    have hw := (hE _ (List.getElem_mem hx)).2.2
    have hF : FormS s σ.1 := by rw [h1]; exact form_fold hs hS _
    obtain ⟨b, _, ha, _⟩ := addS_ok (e := l[ns[j]]) hs hS hF
    show Tot (impl_history_L1 _ _ _ _ (k + 1) _ _ _ _ _) _
    rw [impl_history_L1, len_ints, if_pos (by simp; omega), idx_ints hj]
    simp only [Option.bind_some]
    rw [idx_lt hx]
    simp only [Option.bind_some]
    rw [show (Timpl_Stats.mk σ.1.Totals_ σ.1.Cells_) = σ.1 from rfl, ha]
    simp only [Option.bind_some]
    rw [wrap_id (n := σ.2.1 + l[ns[j]].Weight_) (by omega) (by omega), wrap_succ (by omega)]
    have e1 : addS s σ.1 l[ns[j]] = foldS s l (ns.take (j + 1)) := by rw [foldS_succ hj, ← h1, entN_eq hx]
    have e2 := since_succ (r := r) (l := l) hj
    rw [← h2, entN_eq hx] at e2
    by_cases hg : σ.2.1 + l[ns[j]].Weight_ ≥ r.Grace_
    · rw [if_pos (by simpa using hg), app_eq (by simp; omega)]
      simp only [Option.bind_some]
      rw [if_pos hg] at e2
      exact hk (_, _, _) ⟨e1, e2.symm, ⟨by simp, by simp; omega⟩, by simp; omega⟩
    · rw [if_neg (by simpa using hg)]
      rw [if_neg hg] at e2
      exact hk (_, _, _) ⟨e1, e2.symm, ⟨by simp only []; omega, by simp only [Int.natCast_add]; omega⟩, Nat.le_succ_of_le h4⟩
theorem truth_val {s : Timpl_Schema} {l : List Timpl_Entry} {ns : List Nat} (hs : sml_Schema s) (hS : SchemaP s) (hl : l.length ≤ 1048576) (hn : ns.length ≤ l.length) (hb : ∀ n ∈ ns, n < l.length) :
    Tot (spec_NodeTruth_L1 (ints ns) l s Fuel 0 (statsN s).Totals_ (statsN s).Cells_) (fun y => y = foldS s l ns) := by
  refine tot_for (fun k (σ : Timpl_Stats) j => spec_NodeTruth_L1 (ints ns) l s k j σ.Totals_ σ.Cells_) ns.length (fun j σ => σ = foldS s l (ns.take j)) (fun k σ h => ?_) (fun k σ j hj h hk => ?_) (by omega) (s := statsN s) rfl
  · show Tot (spec_NodeTruth_L1 _ _ _ (k + 1) _ _ _) _
    rw [spec_NodeTruth_L1, len_ints, if_neg (by simp)]
    rw [List.take_length] at h
    exact tot_some h
  · have hx := hb _ (List.getElem_mem hj)
    have hF : FormS s σ := by rw [h]; exact form_fold hs hS _
    obtain ⟨b, ha, _, _⟩ := addS_ok (e := l[ns[j]]) hs hS hF
    show Tot (spec_NodeTruth_L1 _ _ _ (k + 1) _ _ _) _
    rw [spec_NodeTruth_L1, len_ints, if_pos (by simp; omega), idx_ints hj]
    simp only [Option.bind_some]
    rw [idx_lt hx]
    simp only [Option.bind_some]
    rw [show (Timpl_Stats.mk σ.Totals_ σ.Cells_) = σ from rfl, ha]
    simp only [Option.bind_some]
    rw [wrap_succ (by omega)]
    exact hk (addS s σ l[ns[j]]) (by rw [foldS_succ hj, ← h, entN_eq hx])
theorem checks_val {s : Timpl_Schema} {r : Timpl_Rule} {l : List Timpl_Entry} {ns : List Nat} (hl : l.length ≤ 1048576) (hE : ∀ e ∈ l, EntryP s e) (hn : ns.length ≤ l.length) (hb : ∀ n ∈ ns, n < l.length) :
    Tot (spec_l30Checks r l (ints ns)) (fun y => y.2 = since r l ns) := by
  unfold spec_l30Checks
  refine tot_for (fun k (σ : List Bool × Int) j => spec_l30Checks_L1 (ints ns) l r k j σ.1 σ.2) ns.length (fun j σ => σ.2 = since r l (ns.take j) ∧ (0 ≤ σ.2 ∧ σ.2 ≤ 7 * (j : Int)) ∧ σ.1.length ≤ j) (fun k σ h => ?_) (fun k σ j hj h hk => ?_) (by omega) (s := ([], 0)) ⟨rfl, ⟨by simp, by simp⟩, by simp⟩
  · show Tot (spec_l30Checks_L1 _ _ _ (k + 1) _ _ _) _
    rw [spec_l30Checks_L1, len_ints, if_neg (by simp)]
    have h1 := h.1
    rw [List.take_length] at h1
    exact tot_some h1
  · obtain ⟨h2, h3, h4⟩ := h
    have hx := hb _ (List.getElem_mem hj)
    have hw := (hE _ (List.getElem_mem hx)).2.2
    show Tot (spec_l30Checks_L1 _ _ _ (k + 1) _ _ _) _
    rw [spec_l30Checks_L1, len_ints, if_pos (by simp; omega), idx_ints hj]
    simp only [Option.bind_some]
    rw [idx_lt hx]
    simp only [Option.bind_some]
    rw [wrap_id (n := σ.2 + l[ns[j]].Weight_) (by omega) (by omega), wrap_succ (by omega), app_eq (by simp; omega)]
    simp only [Option.bind_some]
    have e2 := since_succ (r := r) (l := l) hj
    rw [← h2, entN_eq hx] at e2
    by_cases hg : σ.2 + l[ns[j]].Weight_ ≥ r.Grace_
    · rw [if_pos (by simpa using hg)]
      rw [if_pos hg] at e2
      exact hk (_, _) ⟨e2.symm, ⟨by simp, by simp; omega⟩, by simp; omega⟩
    · rw [if_neg (by simpa using hg)]
      rw [if_neg hg] at e2
      exact hk (_, _) ⟨e2.symm, ⟨by simp only []; omega, by simp only [Int.natCast_add]; omega⟩, by simp; omega⟩
theorem specStatsSame {a b : Timpl_Stats} (ha : sml_Stats a) : Dec (spec_StatsSame a b) (a.Totals_ = b.Totals_ ∧ a.Cells_ = b.Cells_) := by
  unfold spec_StatsSame
  rcases (specInts (q := b.Totals_) ha.1.1).cases with ⟨e, h⟩ | ⟨e, h⟩
  · rw [e]
    simp only [Option.bind_some, Bool.not_true, Bool.false_or]
    refine (eq_dec (p := a.Cells_) (q := b.Cells_) (spec_StatsSame_L1 a b) rfl (fun k => by rw [spec_StatsSame_L1, if_neg (by simp)]) (fun k i h1 h2 => ?_) (by have := ha.2.1; omega)).of_iff ⟨fun g => ⟨h, g⟩, fun g => g.2⟩
    have := ha.2.1
    rw [spec_StatsSame_L1, if_pos (by simp; omega), idx_lt h1, idx_lt h2, wrap_succ (by omega)]
    simp only [Option.bind_some]
    rcases (specInts (q := b.Cells_[i]) (ha.2.2 _ (List.getElem_mem h1)).1).cases with ⟨e, h⟩ | ⟨e, h⟩
    · rw [e]; exact .inl ⟨h, rfl⟩
    · rw [e]; exact .inr ⟨h, rfl⟩
  · rw [e]
    exact dec_f fun g => h g.1
theorem implStatsSame {a b : Timpl_Stats} (ha : sml_Stats a) : Dec (impl_StatsSame a b) (a.Totals_ = b.Totals_ ∧ a.Cells_ = b.Cells_) := by
  unfold impl_StatsSame impl_sameLists
  rcases (implInts (q := b.Totals_) ha.1.1).cases with ⟨e, h⟩ | ⟨e, h⟩
  · rw [e]
    simp only [Option.bind_some, if_true]
    have key : Dec (lib_slices_EqualFunc_____int_____int___int___int___impl_sameLists_1 a.Cells_ b.Cells_) (a.Cells_ = b.Cells_) := eq_dec (p := a.Cells_) (q := b.Cells_) (lib_slices_EqualFunc_____int_____int___int___int___impl_sameLists_1_L1 a.Cells_ b.Cells_) rfl (fun k => by rw [lib_slices_EqualFunc_____int_____int___int___int___impl_sameLists_1_L1, if_neg (by simp)]) (fun k i h1 h2 => by
      have := ha.2.1
      rw [lib_slices_EqualFunc_____int_____int___int___int___impl_sameLists_1_L1, if_pos (by simp; omega), idx_lt h1, idx_lt h2, wrap_succ (by omega)]
      unfold impl_sameLists_1
      simp only [Option.bind_some]
      rcases (implInts (q := b.Cells_[i]) (ha.2.2 _ (List.getElem_mem h1)).1).cases with ⟨e, h⟩ | ⟨e, h⟩
      · rw [e]; exact .inl ⟨h, rfl⟩
      · rw [e]; exact .inr ⟨h, rfl⟩) (by have := ha.2.1; omega)
    rcases key.cases with ⟨e, g⟩ | ⟨e, g⟩
    · rw [e]
      exact dec_t ⟨h, g⟩
    · rw [e]
      exact dec_f fun q => g q.2
  · rw [e]
    exact dec_f fun g => h g.1
theorem treeTrue_same {s : Timpl_Schema} {r : Timpl_Rule} {t : Timpl_Tree} {l : List Timpl_Entry} (hs : sml_Schema s) (ht : sml_Tree t) (hl : sml_EntryS l) : ∃ m, spec_TreeTrue s r t l = some m ∧ impl_TreeTrue s r t l = some m := by
  suffices h : Both (spec_TreeTrue s r t l) (impl_TreeTrue s r t l) (fun _ => True) by
    obtain ⟨m, h1, h2, _⟩ := h
    exact ⟨m, h1, h2⟩
  unfold spec_TreeTrue impl_TreeTrue
  have bad : ∀ b : Bool, Both (some b) (some b) (fun _ => True) := fun b => both_some trivial
  refine both_dec (specTree hs ht) (implTree hs ht) (fun hT => ?_) (fun _ => by simp only [Option.bind_some, Bool.not_false, Bool.true_or, if_true]; exact bad _)
  simp only [Bool.not_true, Bool.false_eq_true, if_false]
  rw [← (specRule r).eq (implRule r)]
  rcases (specRule r).cases with ⟨e1, _⟩ | ⟨e1, _⟩
  · rw [e1]
    simp only [Option.bind_some, Bool.not_true, Bool.false_eq_true, if_false]
    rw [← ((specEntries (okS_of hs) hl.1).eq (implEntries (okS_of hs) hl.1))]
    rcases (specEntries (okS_of hs) hl.1).cases with ⟨e2, hE⟩ | ⟨e2, _⟩
    · rw [e2]
      simp only [Option.bind_some, Bool.not_true, Bool.false_or]
      refine both_if Iff.rfl (fun _ => bad _) (fun _ => ?_)
      have hlen := hT.2.1
      refine both_for (fun k (_ : Unit) j => spec_TreeTrue_L1 t s l r k j) (fun k (_ : Unit) j => impl_TreeTrue_L1 t s r l k j) t.Nodes_.length (fun _ _ _ => True) (fun k _ _ _ => ?_) (fun k _ _ j hj _ hk => ?_) (by omega) (s := ()) (t := ()) trivial
      · rw [spec_TreeTrue_L1, impl_TreeTrue_L1, if_neg (by simp), if_neg (by simp)]
        exact bad _
      · have hN := ht.1.2 _ (List.getElem_mem hj)
        have hst : sml_Stats t.Nodes_[j].Stats_ := hN.2.2.2.2.1
        obtain ⟨ns, o1, o2, h3, h4⟩ := own_both hs hT hl.1 hE.2 hj
        obtain ⟨z, hz, hz1, hz2⟩ := hist (r := r) hs hT.1 hl.1 hE.2 o2 h3 h4
        obtain ⟨c, hc, hc2⟩ := checks_val (r := r) (s := s) hl.1 hE.2 h3 h4
        have hv : spec_NodeTruth s t l j = some (foldS s l ns) := by
          obtain ⟨y, hy, hy2⟩ := truth_val (l := l) hs hT.1 hl.1 h3 h4
          unfold spec_NodeTruth
          rcases (specTree hs ht).cases with ⟨q1, _⟩ | ⟨_, g⟩
          · rw [q1]
            simp only [Option.bind_some, Bool.not_true, Bool.false_eq_true, if_false]
            rw [e2]
            simp only [Option.bind_some, Bool.not_true, Bool.false_eq_true, if_false]
            rcases (dec_l1In (x := (j : Int)) (a := 0) (b := IntKind.i64.wrap ((t.Nodes_.length : Int) - 1))).cases with ⟨q2, _⟩ | ⟨_, g⟩
            · rw [q2]
              simp only [Option.bind_some, Bool.not_true, Bool.false_eq_true, if_false]
              rw [specStatsNew hs hT.1, o1]
              simp only [Option.bind_some]
              rw [hy, hy2]
            · exact absurd ⟨by omega, by rw [wrap_id (by omega) (by omega)]; omega⟩ g
          · exact absurd hT g
        rw [spec_TreeTrue_L1, impl_TreeTrue_L1, if_pos (by simp; omega), if_pos (by simp; omega), idx_lt hj, wrap_succ (by omega)]
        simp only [Option.bind_some]
        rw [hv, hz]
        simp only [Option.bind_some]
        rw [hz1]
        refine both_dec (specInts hst.1.1) (implInts hst.1.1) (fun _ => ?_) (fun _ => by simp only [Bool.not_false, if_true]; exact bad _)
        unfold impl_active
        simp only [Option.bind_some, Bool.not_true, Bool.false_eq_true, if_false]
        cases (t.Nodes_[j].Leaf_ && decide ((t.Nodes_[j].Stats_.Cells_.length : Int) > 0))
        · simp only [Option.bind_some, Bool.false_eq_true, if_false]
          exact hk () () trivial
        · simp only [if_true]
          rw [o1]
          simp only [Option.bind_some]
          rw [hc]
          simp only [Option.bind_some]
          rw [hc2, hz2, ← (specStatsSame hst).eq (implStatsSame hst)]
          rcases (specStatsSame (b := foldS s l ns) hst).cases with ⟨q, _⟩ | ⟨q, _⟩
          · rw [q]
            simp only [Option.bind_some, Bool.not_true, Bool.false_or]
            exact both_if Iff.rfl (fun _ => bad _) (fun _ => hk () () trivial)
          · rw [q]
            simp only [Option.bind_some, Bool.not_false, Bool.true_or, if_true]
            exact bad _
    · rw [e2]
      simp only [Option.bind_some, Bool.not_false, Bool.true_or, if_true]
      exact bad _
  · rw [e1]
    simp only [Option.bind_some, Bool.not_false, Bool.true_or, if_true]
    exact bad _
end Go.Vk
