/- The ways of a tree: alike. -/
import Derived.Test.YtddoligbabahbaaGreatPBn
namespace Go.Vk
def nodeAt (t : Timpl_Tree) (i : Nat) : Timpl_Node := t.Nodes_.getD i default
theorem nodeAt_eq {t : Timpl_Tree} {i : Nat} (h : i < t.Nodes_.length) : nodeAt t i = t.Nodes_[i] := by unfold nodeAt; simp [h]
/-- the leaves among the first nodes -/
def lvN (t : Timpl_Tree) : Nat → List Nat
  | 0 => []
  | i + 1 => lvN t i ++ if (nodeAt t i).Leaf_ then [i] else []
theorem lvN_mem {t : Timpl_Tree} : ∀ {i : Nat} {x : Nat}, x ∈ lvN t i → x < i ∧ (nodeAt t x).Leaf_ = true
  | 0, x, h => by simp [lvN] at h
  | i + 1, x, h => by
    simp only [lvN] at h
    rcases List.mem_append.1 h with h | h
    · have := lvN_mem h; exact ⟨by omega, this.2⟩
    · by_cases hl : (nodeAt t i).Leaf_ = true
      · rw [if_pos hl] at h
        rw [List.mem_singleton.1 h]; exact ⟨by omega, hl⟩
      · rw [if_neg hl] at h; cases h
theorem lvN_len (t : Timpl_Tree) : ∀ i : Nat, (lvN t i).length ≤ i
  | 0 => by simp [lvN]
  | i + 1 => by
    have := lvN_len t i
    simp only [lvN, List.length_append]
    split <;> simp <;> omega
def lv (t : Timpl_Tree) : List Nat := lvN t t.Nodes_.length
def ints (l : List Nat) : List Int := l.map (fun (i : Nat) => (i : Int))
theorem ints_app (a b : List Nat) : ints (a ++ b) = ints a ++ ints b := List.map_append
theorem specLeaves {t : Timpl_Tree} (ht : t.Nodes_.length ≤ 1048576) : spec_Leaves t = some (ints (lv t)) := by
  unfold spec_Leaves lv
  refine for_idx (Lp := fun k i => spec_Leaves_L1 t k (ints (lvN t i)) (i : Int)) (n := t.Nodes_.length) (fun k => ?_) (fun k i hi => ?_) (by omega)
  · show spec_Leaves_L1 t (k + 1) _ _ = _
    rw [spec_Leaves_L1, if_neg (by simp)]
  · show spec_Leaves_L1 t (k + 1) _ _ = spec_Leaves_L1 t k _ _
    have hl := lvN_len t i
    rw [spec_Leaves_L1, if_pos (by simp; omega), idx_lt hi, wrap_succ (by omega)]
    simp only [Option.bind_some, lvN]
    rw [nodeAt_eq hi]
    by_cases h : t.Nodes_[i].Leaf_ = true
    · rw [if_pos h, if_pos h, ints_app, app_eq (by simp [ints]; omega)]
      rfl
    · rw [if_neg h, if_neg h, List.append_nil]
theorem implLeaves {t : Timpl_Tree} (ht : t.Nodes_.length ≤ 1048576) : impl_Leaves t = some (ints (lv t)) := by
  unfold impl_Leaves impl_nodesWith__impl_Leaves_1 lv
  have h := for_idx (Lp := fun k i => impl_nodesWith__impl_Leaves_1_L1 t k (i : Int) (ints (lvN t i))) (n := t.Nodes_.length) (fin := some (ints (lvN t t.Nodes_.length))) (fun k => by
    show impl_nodesWith__impl_Leaves_1_L1 t (k + 1) _ _ = _
    rw [impl_nodesWith__impl_Leaves_1_L1, if_neg (by simp)]) (fun k i hi => by
    show impl_nodesWith__impl_Leaves_1_L1 t (k + 1) _ _ = impl_nodesWith__impl_Leaves_1_L1 t k _ _
    have hl := lvN_len t i
    rw [impl_nodesWith__impl_Leaves_1_L1, if_pos (by simp; omega), idx_lt hi, wrap_succ (by omega)]
    unfold impl_Leaves_1
    simp only [Option.bind_some, lvN]
    rw [nodeAt_eq hi]
    by_cases h : t.Nodes_[i].Leaf_ = true
    · rw [if_pos h, if_pos h, ints_app, app_eq (by simp [ints]; omega)]
      rfl
    · rw [if_neg h, if_neg h, List.append_nil]) (by omega)
  have h : impl_nodesWith__impl_Leaves_1_L1 t Fuel 0 [] = _ := h
  rw [h]
  rfl
/-! the way up -/
/-- the place of x in l -/
def place (x : Int) : List Int → Nat
  | [] => 0
  | y :: l => if y = x then 0 else place x l + 1
theorem place_ok {x : Int} : ∀ {l : List Int}, x ∈ l → ∃ h : place x l < l.length, l[place x l] = x
  | [], h => by cases h
  | y :: l, h => by
    by_cases e : y = x
    · have hp : place x (y :: l) = 0 := by simp [place, e]
      simp only [hp]
      exact ⟨by simp, e⟩
    · have hm : x ∈ l := by
        rcases List.mem_cons.1 h with h | h
        · exact absurd h.symm e
        · exact h
      obtain ⟨h1, h2⟩ := place_ok hm
      have hp : place x (y :: l) = place x l + 1 := by simp [place, e]
      simp only [hp]
      exact ⟨by simp; exact h1, by simpa using h2⟩
def upOf (t : Timpl_Tree) (i : Nat) : Nat := (nodeAt t i).Up_.toNat
/-- the masks behind a step up -/
def stepM (s : Timpl_Schema) (t : Timpl_Tree) (i : Nat) (m : List Int) : List Int :=
  let u := nodeAt t (upOf t i)
  m.set u.Fork_.Attr_.toNat (ibits .and .i64 (m.getD u.Fork_.Attr_.toNat 0) (maskOf s u (place (i : Int) u.Kids_)))
def climb (s : Timpl_Schema) (t : Timpl_Tree) : Nat → Nat → List Int → List Int
  | 0, _, m => m
  | k + 1, i, m => if i = 0 then m else climb s t k (upOf t i) (stepM s t i m)
theorem stepM_len {s : Timpl_Schema} {t : Timpl_Tree} {i : Nat} {m : List Int} : (stepM s t i m).length = m.length := by simp [stepM]
theorem climb_len {s : Timpl_Schema} {t : Timpl_Tree} : ∀ (k i : Nat) (m : List Int), (climb s t k i m).length = m.length
  | 0, _, _ => rfl
  | k + 1, i, m => by
    simp only [climb]
    split
    · rfl
    · rw [climb_len k, stepM_len]
/-- what stands above a node -/
theorem up_ok {s : Timpl_Schema} {t : Timpl_Tree} (hT : TreeP s t) {i : Nat} (hi : i < t.Nodes_.length) (h0 : 0 < i) : ∃ hu : upOf t i < t.Nodes_.length, upOf t i < i ∧ t.Nodes_[i].Up_ = (upOf t i : Int) ∧ t.Nodes_[upOf t i].Leaf_ = false ∧ (i : Int) ∈ t.Nodes_[upOf t i].Kids_ ∧ SplitP s t (upOf t i) t.Nodes_[upOf t i] := by
  obtain ⟨u, hui, hul, h1, h2, h3, _⟩ := (hT.2.2.2 i hi hi).2.2 h0
  have he : upOf t i = u := by unfold upOf; rw [nodeAt_eq hi, h1]; simp
  rw [he]
  exact ⟨hul, hui, h1, h2, h3, (hT.2.2.2 u hul hul).1.2.2.2.2.2 h2⟩
theorem index_ok {l : List Int} (hl : l.length ≤ 1048576) {x : Int} (hx : x ∈ l) (hA : Asc l) : lib_slices_Index___int_int_ l x = some (place x l : Int) := by
  obtain ⟨hp, hv⟩ := place_ok hx
  unfold lib_slices_Index___int_int_
  have h := for_idx (Lp := fun k i => lib_slices_Index___int_int__L1 l x k (i : Int)) (n := place x l) (fin := some (place x l : Int)) (fun k => by
    show lib_slices_Index___int_int__L1 l x (k + 1) _ = _
    rw [lib_slices_Index___int_int__L1, if_pos (by simp; omega), idx_lt hp]
    simp only [Option.bind_some]
    rw [if_pos (by simp [hv])]) (fun k i hi => by
    show lib_slices_Index___int_int__L1 l x (k + 1) _ = lib_slices_Index___int_int__L1 l x k _
    have hlt : i < l.length := by omega
    have := hA (place x l) (by omega) hp hp
    have h2 := hA.le (j := place x l - 1) i (by omega) (by omega)
    rw [lib_slices_Index___int_int__L1, if_pos (by simp; omega), idx_lt hlt, wrap_succ (by omega)]
    simp only [Option.bind_some]
    rw [if_neg (by simp; omega)]) (by omega)
  exact h
theorem kids_loop {s : Timpl_Schema} {u : Timpl_Node} {t : Timpl_Tree} {x : Int} {i : Nat} {R : Int → List Int → Option (List Timpl_Way)} {m : List Int} (hs : sml_Schema s) (hF : ForkP s u.Fork_) (hk : u.Kids_.length ≤ 1048576) (hx : (i : Int) ∈ u.Kids_) (hA : Asc u.Kids_) (hm : m.length = s.Attrs_.length) (hi : i < t.Nodes_.length) (hup : t.Nodes_[i].Up_ = x) :
    spec_WaysOf_L4 u (i : Int) s t R Fuel 0 m = R x (m.set u.Fork_.Attr_.toNat (ibits .and .i64 (m.getD u.Fork_.Attr_.toNat 0) (maskOf s u (place (i : Int) u.Kids_)))) := by
  obtain ⟨hp, hv⟩ := place_ok hx
  obtain ⟨a, ha, ea, _⟩ := atr_of hF.2.1
  generalize hpl : place (i : Int) u.Kids_ = p at *
  have hset : ∀ q : Nat, (if q ≤ p then m else m.set a (ibits .and .i64 (m.getD a 0) (maskOf s u (p : Int)))) = (if q ≤ p then m else m.set a (ibits .and .i64 (m.getD a 0) (maskOf s u (p : Int)))) := fun _ => rfl
  rw [ea]
  simp only [Int.toNat_natCast]
  refine for_idx (Lp := fun k q => spec_WaysOf_L4 u (i : Int) s t R k (q : Int) (if q ≤ p then m else m.set a (ibits .and .i64 (m.getD a 0) (maskOf s u (p : Int))))) (n := u.Kids_.length) (fun k => ?_) (fun k q hq => ?_) (by omega) |> fun g => by simpa using g
  · show spec_WaysOf_L4 u (i : Int) s t R (k + 1) _ _ = _
    rw [spec_WaysOf_L4, if_neg (by simp), idx_lt hi, if_neg (by omega)]
    simp only [Option.bind_some]
    rw [hup]; simp
  · show spec_WaysOf_L4 u (i : Int) s t R (k + 1) _ _ = spec_WaysOf_L4 u (i : Int) s t R k _ _
    rw [spec_WaysOf_L4, if_pos (by simp; omega), idx_lt hq, wrap_succ (by omega), ea]
    simp only [Option.bind_some]
    by_cases he : q = p
    · subst he
      rw [if_pos (by simp [hv]), if_pos (Nat.le_refl _), if_neg (by omega), idx_lt (by omega : a < m.length), specMask hs hF]
      simp only [Option.bind_some, Int.toNat_natCast]
      rw [getD_lt (by omega : a < m.length)]
    · have hne : ¬ (u.Kids_[q] == (i : Int)) = true := by
        rw [beq_iff_eq, ← hv]
        intro g
        rcases Nat.lt_or_gt_of_ne he with c | c
        · have h1 := hA p (by omega) hp hp
          have h2 := hA.le (j := p - 1) q (by omega) (by omega)
          omega
        · have h1 := hA q (by omega) hq hq
          have h2 := hA.le (j := q - 1) p (by omega) (by omega)
          omega
      rw [if_neg hne]
      by_cases hle : q ≤ p
      · rw [if_pos hle, if_pos (by omega)]
      · rw [if_neg hle, if_neg (by omega)]
theorem climb_both {s : Timpl_Schema} {t : Timpl_Tree} (hs : sml_Schema s) (ht : sml_Tree t) (hT : TreeP s t) (lw : List Timpl_Way) (leaf : Int) (R : List Timpl_Way → Int → Option (List Timpl_Way)) (R' : Int → List Timpl_Way → Option (List Timpl_Way)) (j : Int) : ∀ (d k k' i : Nat) (m : List Int), i < d → d < k → d < k' → i < t.Nodes_.length → m.length = s.Attrs_.length →
    spec_WaysOf_L3 t s lw leaf R j k (i : Int) m = ((app lw [(Timpl_Way.mk leaf (climb s t d i m))]).bind fun l => R l (IntKind.i64.wrap (j + 1))) ∧
    impl_WaysOf_L3 t s lw leaf R' j k' (i : Int) m = ((app lw [(Timpl_Way.mk leaf (climb s t d i m))]).bind fun l => R' (IntKind.i64.wrap (j + 1)) l) := by
  intro d
  induction d with
  | zero => intro k k' i m h; omega
  | succ d ih =>
    intro k k' i m hd hk hk' hi hm
    obtain ⟨k, rfl⟩ : ∃ q, k = q + 1 := ⟨k - 1, by omega⟩
    obtain ⟨k', rfl⟩ : ∃ q, k' = q + 1 := ⟨k' - 1, by omega⟩
    rw [spec_WaysOf_L3, impl_WaysOf_L3, idx_lt hi]
    simp only [Option.bind_some, climb]
    by_cases h0 : i = 0
    · have hup : t.Nodes_[i].Up_ = -1 := ((hT.2.2.2 i hi hi).2.1 h0).1
      have c1 : ¬ (decide ((i : Int) > 0) = true) := by rw [h0]; simp
      have c2 : ¬ (decide ((-1 : Int) ≥ 0) = true) := by simp
      rw [hup, if_neg c1, if_neg c2, if_pos h0]
      exact ⟨rfl, rfl⟩
    · obtain ⟨hul, hui, hup, hlf, hmem, hsp⟩ := up_ok hT hi (by omega)
      have hkl := (ht.1.2 _ (List.getElem_mem hul)).2.2.1.1
      have hF := hsp.1
      have hA := hsp.2.2.2.2.2.1
      obtain ⟨a, ha, ea, _⟩ := atr_of hF.2.1
      have c1 : decide ((i : Int) > 0) = true := by simp; omega
      have c2 : decide ((upOf t i : Int) ≥ 0) = true := by simp
      rw [if_neg h0, hup, if_pos c1, if_pos c2, idx_lt hul]
      simp only [Option.bind_some]
      have hst : stepM s t i m = m.set t.Nodes_[upOf t i].Fork_.Attr_.toNat (ibits .and .i64 (m.getD t.Nodes_[upOf t i].Fork_.Attr_.toNat 0) (maskOf s t.Nodes_[upOf t i] (place (i : Int) t.Nodes_[upOf t i].Kids_))) := by
        unfold stepM
        rw [nodeAt_eq hul]
      obtain ⟨i1, i2⟩ := ih k k' (upOf t i) (stepM s t i m) (by omega) (by omega) (by omega) hul (by rw [stepM_len, hm])
      constructor
      · rw [kids_loop hs hF hkl hmem hA hm hi hup, ← hst]
        exact i1
      · rw [index_ok hkl hmem hA]
        simp only [Option.bind_some]
        rw [implMask hs hF]
        simp only [Option.bind_some]
        have hg : m.getD t.Nodes_[upOf t i].Fork_.Attr_.toNat 0 = m[a]'(by omega) := by rw [ea, Int.toNat_natCast, getD_lt (by omega : a < m.length)]
        rw [hg] at hst
        have hx : idx m t.Nodes_[upOf t i].Fork_.Attr_ = some (m[a]'(by omega)) := by rw [ea, idx_lt (by omega : a < m.length)]
        rw [hx]
        simp only [Option.bind_some]
        rw [← hst]
        exact i2
def fullM (s : Timpl_Schema) : List Int := s.Attrs_.map fun a => (fm a : Int)
def wayOf (s : Timpl_Schema) (t : Timpl_Tree) (i : Nat) : Timpl_Way := ⟨i, climb s t 32 i (fullM s)⟩
theorem ways_both {s : Timpl_Schema} {t : Timpl_Tree} (hs : sml_Schema s) (ht : sml_Tree t) (hT : TreeP s t) : spec_WaysOf s t = some ((lv t).map (wayOf s t)) ∧ impl_WaysOf s t = some ((lv t).map (wayOf s t)) := by
  unfold spec_WaysOf impl_WaysOf
  rcases (specTree hs ht).cases with ⟨e, _⟩ | ⟨_, g⟩
  · rcases (implTree hs ht).cases with ⟨e2, _⟩ | ⟨_, g⟩
    · rw [e, e2, specLeaves ht.1.1, implLeaves ht.1.1]
      simp only [Option.bind_some, Bool.not_true, Bool.false_eq_true, if_false]
      have hn := hT.2.1
      have hlen := lvN_len t t.Nodes_.length
      have hna := hT.1.1
      have hlv : (ints (lv t)).length = (lv t).length := by simp [ints]
      have hall : ∀ (i : Nat) (h : i < (lv t).length), (ints (lv t))[i]'(by rw [hlv]; exact h) = (((lv t)[i] : Nat) : Int) := fun i h => by simp [ints]
      have hmem : ∀ (i : Nat) (h : i < (lv t).length), (lv t)[i] < t.Nodes_.length := fun i h => (lvN_mem (List.getElem_mem h)).1
      constructor
      · refine for_idx (Lp := fun k i => spec_WaysOf_L1 (ints (lv t)) s t k (((lv t).take i).map (wayOf s t)) (i : Int)) (n := (lv t).length) (fun k => ?_) (fun k i hi => ?_) (by unfold lv; omega)
        · show spec_WaysOf_L1 (ints (lv t)) s t (k + 1) _ _ = _
          rw [spec_WaysOf_L1, if_neg (by simp [ints]), List.take_length]
        · show spec_WaysOf_L1 (ints (lv t)) s t (k + 1) _ _ = spec_WaysOf_L1 (ints (lv t)) s t k _ _
          rw [spec_WaysOf_L1, if_pos (by simp [ints]; omega), idx_lt (by rw [hlv]; exact hi), hall i hi]
          simp only [Option.bind_some]
          have hf := for_idx (Lp := fun q j => spec_WaysOf_L2 s (ints (lv t)) (i : Int) t (((lv t).take i).map (wayOf s t)) (((lv t)[i] : Nat) : Int) (spec_WaysOf_L1 (ints (lv t)) s t k) q ((s.Attrs_.take j).map fun a => (fm a : Int)) (j : Int)) (n := s.Attrs_.length)
            (fin := spec_WaysOf_L3 t s (((lv t).take i).map (wayOf s t)) (((lv t)[i] : Nat) : Int) (spec_WaysOf_L1 (ints (lv t)) s t k) (i : Int) Fuel (((lv t)[i] : Nat) : Int) (fullM s)) (fun q => by
              show spec_WaysOf_L2 s (ints (lv t)) (i : Int) t _ _ (spec_WaysOf_L1 (ints (lv t)) s t k) (q + 1) _ _ = _
              rw [spec_WaysOf_L2, if_neg (by simp), List.take_length, idx_lt (by rw [hlv]; exact hi), hall i hi]
              rfl) (fun q j hj => by
              show spec_WaysOf_L2 s (ints (lv t)) (i : Int) t _ _ (spec_WaysOf_L1 (ints (lv t)) s t k) (q + 1) _ _ = spec_WaysOf_L2 s (ints (lv t)) (i : Int) t _ _ (spec_WaysOf_L1 (ints (lv t)) s t k) q _ _
              rw [spec_WaysOf_L2, if_pos (by simp; omega), idx_lt hj, wrap_succ (by omega)]
              simp only [Option.bind_some]
              rw [(full_ok (hs.1.2 _ (List.getElem_mem hj)) (hT.1.attr hj)).1]
              simp only [Option.bind_some]
              rw [app_eq (by simp; omega), List.take_succ_eq_append_getElem hj, List.map_append]
              rfl) (by omega)
          have hf : spec_WaysOf_L2 s (ints (lv t)) (i : Int) t (((lv t).take i).map (wayOf s t)) (((lv t)[i] : Nat) : Int) (spec_WaysOf_L1 (ints (lv t)) s t k) Fuel [] 0 = _ := hf
          rw [hf, (climb_both hs ht hT _ _ _ (fun _ _ => none) _ 32 Fuel Fuel (lv t)[i] (fullM s) (by have := hmem i hi; omega) (fuel_gt (by omega)) (fuel_gt (by omega)) (hmem i hi) (by simp [fullM])).1, app_eq (by simp; unfold lv at *; omega), wrap_succ (by unfold lv at *; omega), List.take_succ_eq_append_getElem hi, List.map_append]
          rfl
      · have h := for_idx (Lp := fun k i => impl_WaysOf_L1 (ints (lv t)) s t k (i : Int) (((lv t).take i).map (wayOf s t))) (n := (lv t).length) (fin := some ((lv t).map (wayOf s t))) (fun k => by
          show impl_WaysOf_L1 (ints (lv t)) s t (k + 1) _ _ = _
          rw [impl_WaysOf_L1, if_neg (by simp [ints]), List.take_length]) (fun k i hi => by
          show impl_WaysOf_L1 (ints (lv t)) s t (k + 1) _ _ = impl_WaysOf_L1 (ints (lv t)) s t k _ _
          rw [impl_WaysOf_L1, if_pos (by simp [ints]; omega), idx_lt (by rw [hlv]; exact hi), hall i hi]
          simp only [Option.bind_some]
          have hf := for_idx (Lp := fun q j => impl_WaysOf_L2 s t (((lv t).take i).map (wayOf s t)) (((lv t)[i] : Nat) : Int) (impl_WaysOf_L1 (ints (lv t)) s t k) (i : Int) q (j : Int) ((s.Attrs_.take j).map fun a => (fm a : Int))) (n := s.Attrs_.length)
            (fin := impl_WaysOf_L3 t s (((lv t).take i).map (wayOf s t)) (((lv t)[i] : Nat) : Int) (impl_WaysOf_L1 (ints (lv t)) s t k) (i : Int) Fuel (((lv t)[i] : Nat) : Int) (fullM s)) (fun q => by
              show impl_WaysOf_L2 s t _ _ (impl_WaysOf_L1 (ints (lv t)) s t k) (i : Int) (q + 1) _ _ = _
              rw [impl_WaysOf_L2, if_neg (by simp), List.take_length]
              rfl) (fun q j hj => by
              show impl_WaysOf_L2 s t _ _ (impl_WaysOf_L1 (ints (lv t)) s t k) (i : Int) (q + 1) _ _ = impl_WaysOf_L2 s t _ _ (impl_WaysOf_L1 (ints (lv t)) s t k) (i : Int) q _ _
              rw [impl_WaysOf_L2, if_pos (by simp; omega), idx_lt hj, wrap_succ (by omega)]
              simp only [Option.bind_some]
              rw [(full_ok (hs.1.2 _ (List.getElem_mem hj)) (hT.1.attr hj)).2]
              simp only [Option.bind_some]
              rw [app_eq (by simp; omega), List.take_succ_eq_append_getElem hj, List.map_append]
              rfl) (by omega)
          have hf : impl_WaysOf_L2 s t (((lv t).take i).map (wayOf s t)) (((lv t)[i] : Nat) : Int) (impl_WaysOf_L1 (ints (lv t)) s t k) (i : Int) Fuel 0 [] = _ := hf
          rw [hf, (climb_both hs ht hT _ _ (fun _ _ => none) _ _ 32 Fuel Fuel (lv t)[i] (fullM s) (by have := hmem i hi; omega) (fuel_gt (by omega)) (fuel_gt (by omega)) (hmem i hi) (by simp [fullM])).2, app_eq (by simp; unfold lv at *; omega), wrap_succ (by unfold lv at *; omega), List.take_succ_eq_append_getElem hi, List.map_append]
          rfl) (by unfold lv; omega)
        exact h
    · exact absurd hT g
  · exact absurd hT g
theorem waysOf_same {s : Timpl_Schema} {t : Timpl_Tree} (hs : sml_Schema s) (ht : sml_Tree t) : ∃ m, spec_WaysOf s t = some m ∧ impl_WaysOf s t = some m ∧ len_WayS m ∧ mc_WayS m ≤ 1000000000000000000 := by
  by_cases hT : TreeP s t
  · obtain ⟨h1, h2⟩ := ways_both hs ht hT
    refine ⟨_, h1, h2, ?_, ?_⟩
    · have hlen := lvN_len t t.Nodes_.length
      have hn := hT.2.1
      refine ⟨by simp; unfold lv; omega, fun y hy => ?_⟩
      obtain ⟨i, _, rfl⟩ := List.mem_map.1 hy
      show (climb s t 32 i (fullM s)).length < _
      rw [climb_len]
      have := hT.1.1
      simp [fullM]; omega
    · have hlen := lvN_len t t.Nodes_.length
      have hn := hT.2.1
      have hb : ∀ y ∈ (lv t).map (wayOf s t), 1 + mc_IntS y.Masks_ ≤ 6 := fun y hy => by
        obtain ⟨i, _, rfl⟩ := List.mem_map.1 hy
        have := hT.1.1
        show 1 + mc_IntS (climb s t 32 i (fullM s)) ≤ 6
        unfold mc_IntS
        rw [sum_ones', climb_len]
        simp [fullM]; omega
      have hsum : ∀ l : List Timpl_Way, (∀ y ∈ l, 1 + mc_IntS y.Masks_ ≤ 6) → mc_WayS l ≤ 6 * l.length := fun l => by
        unfold mc_WayS
        induction l with
        | nil => simp
        | cons x l ih =>
          intro h
          have h1 := h x (by simp)
          have h2 := ih (fun y hy => h y (by simp [hy]))
          simp only [List.map_cons, List.sum_cons, List.length_cons]
          omega
      have := hsum _ hb
      simp only [List.length_map] at this
      unfold lv at *
      omega
  · unfold spec_WaysOf impl_WaysOf
    rcases (specTree hs ht).cases with ⟨_, g⟩ | ⟨e, _⟩
    · exact absurd g hT
    · rcases (implTree hs ht).cases with ⟨_, g⟩ | ⟨e2, _⟩
      · exact absurd g hT
      · rw [e, e2]
        exact ⟨[], rfl, rfl, ⟨by simp, fun y hy => by cases hy⟩, by simp [mc_WayS]⟩
end Go.Vk
