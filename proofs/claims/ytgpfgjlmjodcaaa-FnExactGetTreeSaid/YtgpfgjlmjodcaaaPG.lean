/- Trees: weighed, copied, put, compared, marked. -/
import Derived.Test.YtgpfgjlmjodcaaaPF
namespace Go.Vk
def szN (x : Tlaws_Node) : Nat := x.Kids_.length + (x.Stats_.Totals_.length + szSS x.Stats_.Cells_) + x.Attrs_.length
def szM (x : Timpl_Node) : Nat := x.Kids_.length + (x.Stats_.Totals_.length + szSS x.Stats_.Cells_) + x.Attrs_.length
def OkN (x : Tlaws_Node) : Prop := x.Kids_.length < 9223372036854775808 ∧ x.Stats_.Totals_.length < 9223372036854775808 ∧ x.Stats_.Cells_.length < 9223372036854775808 ∧ (∀ y ∈ x.Stats_.Cells_, y.length < 9223372036854775808) ∧ x.Attrs_.length < 9223372036854775808
theorem weighs_stats {x : Tlaws_Stats} (h1 : x.Totals_.length < 9223372036854775808) (h2 : x.Cells_.length < 9223372036854775808) (h3 : ∀ y ∈ x.Cells_, y.length < 9223372036854775808) : Weighs laws_szStats (fun x => x.Totals_.length + szSS x.Cells_) x := fun s hs => by
  show ∃ r, laws_szStats x s = some r ∧ ((r < 0 ∧ s < x.Totals_.length + szSS x.Cells_) ∨ (x.Totals_.length + szSS x.Cells_ ≤ s ∧ r = ((s - (x.Totals_.length + szSS x.Cells_) : Nat) : Int)))
  unfold laws_szStats
  obtain ⟨r, e1, h⟩ := weighs_ints h1 s hs
  rw [e1]
  simp only [Option.bind_some]
  rcases h with ⟨h, h'⟩ | ⟨h, rfl⟩
  · rw [if_pos (by simpa using h)]; exact ⟨_, rfl, .inl ⟨by omega, by omega⟩⟩
  · rw [if_neg (by simp)]
    obtain ⟨r, e2, h''⟩ := weighs_intss h2 h3 (s - x.Totals_.length) (by omega)
    rw [e2]
    simp only [Option.bind_some]
    rcases h'' with ⟨g, g'⟩ | ⟨g, rfl⟩
    · rw [if_pos (by simpa using g)]; exact ⟨_, rfl, .inl ⟨by omega, by omega⟩⟩
    · rw [if_neg (by simp)]; exact ⟨_, rfl, .inr ⟨by omega, by congr 1; omega⟩⟩
theorem weighs_node {x : Tlaws_Node} (hx : OkN x) : Weighs laws_szNode szN x := fun s hs => by
  obtain ⟨h1, h2, h3, h4, h5⟩ := hx
  unfold laws_szNode szN
  obtain ⟨r, e1, h⟩ := weighs_ints h1 s hs
  rw [e1]
  simp only [Option.bind_some]
  rcases h with ⟨h, h'⟩ | ⟨h, rfl⟩
  · rw [if_pos (by simpa using h)]; exact ⟨_, rfl, .inl ⟨by omega, by omega⟩⟩
  · rw [if_neg (by simp)]
    obtain ⟨r, e2, h''⟩ := weighs_stats h2 h3 h4 (s - x.Kids_.length) (by omega)
    have h'' : (r < 0 ∧ s - x.Kids_.length < x.Stats_.Totals_.length + szSS x.Stats_.Cells_) ∨ (x.Stats_.Totals_.length + szSS x.Stats_.Cells_ ≤ s - x.Kids_.length ∧ r = ((s - x.Kids_.length - (x.Stats_.Totals_.length + szSS x.Stats_.Cells_) : Nat) : Int)) := h''
    rw [e2]
    simp only [Option.bind_some]
    rcases h'' with ⟨g, g'⟩ | ⟨g, rfl⟩
    · rw [if_pos (by simpa using g)]; exact ⟨_, rfl, .inl ⟨by omega, by omega⟩⟩
    · rw [if_neg (by simp)]
      obtain ⟨r, e3, h3'⟩ := weighs_ints h5 (s - x.Kids_.length - (x.Stats_.Totals_.length + szSS x.Stats_.Cells_)) (by omega)
      rw [e3]
      simp only [Option.bind_some]
      rcases h3' with ⟨f, f'⟩ | ⟨f, rfl⟩
      · rw [if_pos (by simpa using f)]; exact ⟨_, rfl, .inl ⟨by omega, by omega⟩⟩
      · rw [if_neg (by simp)]; exact ⟨_, rfl, .inr ⟨by omega, by congr 1; omega⟩⟩
def szT (x : Tlaws_Tree) : Nat := x.Nodes_.length + (x.Nodes_.map szN).sum
def OkT (x : Tlaws_Tree) : Prop := x.Nodes_.length < 9223372036854775808 ∧ ∀ y ∈ x.Nodes_, OkN y
theorem weighs_tree {x : Tlaws_Tree} (hx : OkT x) : Weighs laws_szTree szT x := fun s hs => by
  obtain ⟨h1, h2⟩ := hx
  unfold laws_szTree laws_szNodeS szT
  rw [wrap_id (n := (s : Int) - (x.Nodes_.length : Int)) (by omega) (by omega)]
  by_cases h : s < x.Nodes_.length
  · rw [if_pos (by simp; omega)]
    exact ⟨_, rfl, .inl ⟨by omega, by omega⟩⟩
  · rw [if_neg (by simp; omega)]
    obtain ⟨r, e1, h3⟩ := weigh_loop (p := x.Nodes_) (Z := laws_szNode) (size := szN) (laws_szNodeS_L1 x.Nodes_) (fun _ _ _ => rfl) (by omega) (fun y hy => weighs_node (h2 y hy)) (s - x.Nodes_.length) (by omega)
    rw [show (s : Int) - (x.Nodes_.length : Int) = ((s - x.Nodes_.length : Nat) : Int) by omega, e1]
    simp only [Option.bind_some]
    rcases h3 with ⟨h3, h4⟩ | ⟨h3, h4⟩
    · rw [if_pos (by simpa using h3)]; exact ⟨_, rfl, .inl ⟨by omega, by omega⟩⟩
    · rw [if_neg (by simp; omega)]; exact ⟨_, rfl, .inr ⟨by omega, by rw [h4]; congr 1; omega⟩⟩
/-! copied -/
def toN (x : Tlaws_Node) : Timpl_Node := ⟨x.Leaf_, ⟨x.Fork_.Attr_, x.Fork_.At_⟩, x.Kids_, x.Miss_, ⟨x.Stats_.Totals_, x.Stats_.Cells_⟩, x.Since_, x.Attrs_, x.Depth_, x.Up_, x.Born_⟩
def toT (x : Tlaws_Tree) : Timpl_Tree := ⟨x.Nodes_.map toN, x.Seen_⟩
theorem toNode_ok {x : Tlaws_Node} (h : szN x ≤ 1048576) : laws_toNode x = some (toN x) := by
  unfold szN at h
  have h4 := @szSS_le x.Stats_.Cells_
  unfold laws_toNode laws_toFork laws_toStats
  rw [toIntS_id (p := x.Kids_) (by omega), toIntS_id (p := x.Stats_.Totals_) (by omega), toIntSS_id (p := x.Stats_.Cells_) (by omega) (fun y hy => by have := szSS_mem hy; omega), toIntS_id (p := x.Attrs_) (by omega)]
  rfl
theorem szN_mem {x : Tlaws_Tree} (h : szT x ≤ 1048576) {y : Tlaws_Node} (hy : y ∈ x.Nodes_) : szN y ≤ 1048576 := by
  have := sum_ge (f := szN) hy
  unfold szT at h; omega
theorem toTree_ok {x : Tlaws_Tree} (h : szT x ≤ 1048576) : laws_toTree x = some (toT x) := by
  unfold laws_toTree laws_toNodeS
  have hl : x.Nodes_.length ≤ 1048576 := by unfold szT at h; omega
  rw [mk_eq _ (by omega)]
  simp only [Option.bind_some]
  rw [copy_loop (F := laws_toNode) (g := toN) (laws_toNodeS_L1 x.Nodes_) (fun _ _ _ => rfl) (by omega) (fun y hy => toNode_ok (szN_mem h hy))]
  rfl
/-! compared -/
def szU (x : Timpl_Tree) : Nat := x.Nodes_.length + (x.Nodes_.map szM).sum
theorem szU_toT (x : Tlaws_Tree) : szU (toT x) = szT x := by
  unfold szU szT toT
  simp only [List.length_map, List.map_map]
  rfl
theorem szM_mem {x : Timpl_Tree} {y : Timpl_Node} (hy : y ∈ x.Nodes_) : szM y ≤ szU x := by
  have := sum_ge (f := szM) hy
  unfold szU; omega
theorem eqNode_self {x : Timpl_Node} (h : szM x ≤ 10000000) : laws_eqNode x x = some true := by
  unfold szM at h
  have h4 := @szSS_le x.Stats_.Cells_
  unfold laws_eqNode laws_eqFork laws_eqStats
  simp only [bne_self_eq_false, Bool.false_eq_true, if_false, Option.bind_some]
  rw [eqIntS_self (p := x.Kids_) (by omega), eqIntS_self (p := x.Stats_.Totals_) (by omega), eqIntSS_self (p := x.Stats_.Cells_) (by omega) (fun y hy => by have := szSS_mem hy; omega), eqIntS_self (p := x.Attrs_) (by omega)]
  rfl
theorem eqTree_self {x : Timpl_Tree} (h : szU x ≤ 10000000) : laws_eqTree x x = some true := by
  have hl : x.Nodes_.length ≤ 10000000 := by unfold szU at h; omega
  unfold laws_eqTree laws_eqNodeS
  rw [if_neg (by simp), same_loop (p := x.Nodes_) (laws_eqNodeS_L1 x.Nodes_ x.Nodes_) (fun x o => (laws_eqNode x x).bind fun y => if (!y) then some false else o) (fun k i => by
    show (if _ then _ else _) = _
    cases h : idx x.Nodes_ i with
    | none => rfl
    | some e => rfl) (by omega) (fun y hy o => by rw [eqNode_self (by have := szM_mem hy; omega)]; rfl)]
  simp only [Option.bind_some, bne_self_eq_false, Bool.not_true, Bool.false_eq_true, if_false]
/-! marked -/
theorem markIntSS_ok2 {p : List (List Int)} (hp : p.length < 1000000000) (hs : szSS p ≤ 1048576) : ∀ m : Nat, m + szSS p < 4611686018427387904 →
    ∃ (m' : Nat) (p' : List (List Int)), laws_markIntSS p (m : Int) = some ((m' : Int), p') ∧ laws_heldIntSS p' (m : Int) = some (m' : Int) ∧ m ≤ m' ∧ m' ≤ m + (p.map List.length).sum ∧ p'.length = p.length := by
  intro m hm
  have hle : (p.map List.length).sum ≤ szSS p := by unfold szSS; omega
  unfold laws_markIntSS laws_heldIntSS
  exact marks_loop (p := p) (Mk := laws_markIntS) (Hd := laws_heldIntS) (c := List.length) (B := szSS p) (laws_markIntSS_L1 p) (fun q => laws_heldIntSS_L1 q) (fun _ _ _ _ => rfl) (fun q k m i e y h0 h1 h2 h3 => by
    show (if _ then (idx q i).bind _ else _) = _
    rw [if_pos h0, h1]
    simp only [Option.bind_some]
    rw [h2]
    simp only [Option.bind_some]
    rw [if_neg (by simp; omega)]) (fun q k m i h0 => if_neg h0) (by omega) (fun x hx => marks_ints (by have := szSS_mem hx; omega)) hle m hm
noncomputable def mkN (e : Timpl_Node) (m : Int) : Option (Int × Timpl_Node) :=
  (laws_markIntS e.Kids_ (IntKind.i64.wrap ((IntKind.i64.wrap ((IntKind.i64.wrap (m + 1)) + 1)) + 1))).bind fun y131 => (laws_markIntS e.Stats_.Totals_ (IntKind.i64.wrap (y131.1 + 1))).bind fun y137 => (laws_markIntSS e.Stats_.Cells_ y137.1).bind fun y143 => (laws_markIntS e.Attrs_ (IntKind.i64.wrap (y143.1 + 1))).bind fun y149 =>
    some (IntKind.i64.wrap ((IntKind.i64.wrap ((IntKind.i64.wrap (y149.1 + 1)) + 1)) + 1), Timpl_Node.mk ((Int.tmod m 3) == 0) (Timpl_Fork.mk (IntKind.i64.wrap (m + 1)) (IntKind.i64.wrap ((IntKind.i64.wrap (m + 1)) + 1))) y131.2 y131.1 (Timpl_Stats.mk y137.2 y143.2) y143.1 y149.2 y149.1 (IntKind.i64.wrap (y149.1 + 1)) (IntKind.i64.wrap ((IntKind.i64.wrap (y149.1 + 1)) + 1)))
noncomputable def hdK (e : Timpl_Node) (m : Int) (K : Int → Option Int) : Option Int :=
  if (e.Leaf_ != ((Int.tmod m 3) == 0)) then some (-1) else if (e.Fork_.Attr_ != (IntKind.i64.wrap (m + 1))) then some (-1) else if (e.Fork_.At_ != (IntKind.i64.wrap ((IntKind.i64.wrap (m + 1)) + 1))) then some (-1) else
  (laws_heldIntS e.Kids_ (IntKind.i64.wrap ((IntKind.i64.wrap ((IntKind.i64.wrap (m + 1)) + 1)) + 1))).bind fun y1087 => if decide (y1087 < 0) then some (-1) else if (e.Miss_ != y1087) then some (-1) else
  (laws_heldIntS e.Stats_.Totals_ (IntKind.i64.wrap (y1087 + 1))).bind fun y1165 => if decide (y1165 < 0) then some (-1) else (laws_heldIntSS e.Stats_.Cells_ y1165).bind fun y1205 => if decide (y1205 < 0) then some (-1) else if (e.Since_ != y1205) then some (-1) else
  (laws_heldIntS e.Attrs_ (IntKind.i64.wrap (y1205 + 1))).bind fun y1283 => if decide (y1283 < 0) then some (-1) else if (e.Depth_ != y1283) then some (-1) else if (e.Up_ != (IntKind.i64.wrap (y1283 + 1))) then some (-1) else if (e.Born_ != (IntKind.i64.wrap ((IntKind.i64.wrap (y1283 + 1)) + 1))) then some (-1) else
  K (IntKind.i64.wrap ((IntKind.i64.wrap ((IntKind.i64.wrap (y1283 + 1)) + 1)) + 1))
noncomputable def hdN (e : Timpl_Node) (m : Int) : Option Int := hdK e m some
theorem st_if {c : Bool} {A A' R : Option Int} {y : Int} (h3 : 0 ≤ y) (k : A = some y → A' = R) : (if c then some (-1) else A) = some y → (if c then some (-1) else A') = R := by
  cases c
  · exact k
  · intro h; exact absurd (Option.some.inj h) (by omega)
theorem st_bind {α : Type} {o : Option α} {f f' : α → Option Int} {R : Option Int} {y : Int} (k : ∀ a, f a = some y → f' a = R) : o.bind f = some y → o.bind f' = R := by
  cases o with
  | none => intro h; cases h
  | some a => exact k a
theorem hdK_eq {e : Timpl_Node} {m y : Int} {K : Int → Option Int} (h2 : hdK e m some = some y) (h3 : 0 ≤ y) : hdK e m K = K y := by
  revert h2
  unfold hdK
  exact st_if h3 (st_if h3 (st_if h3 (st_bind fun _ => st_if h3 (st_if h3 (st_bind fun _ => st_if h3 (st_bind fun _ => st_if h3 (st_if h3 (st_bind fun _ => st_if h3 (st_if h3 (st_if h3 (st_if h3 fun h => by rw [Option.some.inj h])))))))))))
theorem marks_node {x : Timpl_Node} (h : szM x ≤ 1048576) : Marks mkN hdN (szM x + 10) x := fun m hm => by
  unfold szM at h hm ⊢
  have h4 := @szSS_le x.Stats_.Cells_
  have hle : (x.Stats_.Cells_.map List.length).sum ≤ szSS x.Stats_.Cells_ := by unfold szSS; omega
  unfold mkN
  obtain ⟨m1, k1, a1, a2, a3, a4, a5⟩ := markIntS_ok (p := x.Kids_) (by omega) (m + 1 + 1 + 1) (by omega)
  obtain ⟨m2, k2, b1, b2, b3, b4, b5⟩ := markIntS_ok (p := x.Stats_.Totals_) (by omega) (m1 + 1) (by omega)
  obtain ⟨m3, k3, c1, c2, c3, c4, c5⟩ := markIntSS_ok2 (p := x.Stats_.Cells_) (by omega) (by omega) m2 (by omega)
  obtain ⟨m4, k4, d1, d2, d3, d4, d5⟩ := markIntS_ok (p := x.Attrs_) (by omega) (m3 + 1) (by omega)
  rw [wrap_succ (i := m) (by omega), wrap_succ (i := m + 1) (by omega), wrap_succ (i := m + 1 + 1) (by omega), a1]
  simp only [Option.bind_some]
  rw [wrap_succ (i := m1) (by omega), b1]
  simp only [Option.bind_some]
  rw [c1]
  simp only [Option.bind_some]
  rw [wrap_succ (i := m3) (by omega), d1]
  simp only [Option.bind_some]
  rw [wrap_succ (i := m4) (by omega), wrap_succ (i := m4 + 1) (by omega), wrap_succ (i := m4 + 1 + 1) (by omega)]
  refine ⟨_, _, rfl, ?_, by omega, by omega⟩
  unfold hdN hdK
  rw [wrap_succ (i := m) (by omega), wrap_succ (i := m + 1) (by omega), wrap_succ (i := m + 1 + 1) (by omega)]
  simp only [bne_self_eq_false, Bool.false_eq_true, if_false]
  rw [a2]
  simp only [Option.bind_some]
  rw [wrap_succ (i := m1) (by omega), if_neg (by simp), if_neg (by simp), b2]
  simp only [Option.bind_some]
  rw [if_neg (by simp), c2]
  simp only [Option.bind_some]
  rw [wrap_succ (i := m3) (by omega), if_neg (by simp), if_neg (by simp), d2]
  simp only [Option.bind_some]
  rw [wrap_succ (i := m4) (by omega), wrap_succ (i := m4 + 1) (by omega), wrap_succ (i := m4 + 1 + 1) (by omega), if_neg (by simp), if_neg (by simp), if_neg (by simp), if_neg (by simp)]
theorem markTree_ok {x : Timpl_Tree} (h : szU x ≤ 1048576) : ∃ (m : Nat) (y : Timpl_Tree), laws_markTree x 1 = some ((m : Int), y) ∧ (∀ z, laws_heldTree ⟨y.Nodes_, z⟩ 1 = some (m : Int)) := by
  have hl : x.Nodes_.length ≤ 1048576 := by unfold szU at h; omega
  have hsum : (x.Nodes_.map fun y => szM y + 10).sum ≤ 100000000 := by
    have : (x.Nodes_.map fun y => szM y + 10).sum = (x.Nodes_.map szM).sum + 10 * x.Nodes_.length := by
      generalize x.Nodes_ = q
      induction q with
      | nil => rfl
      | cons a q ih => simp only [List.map_cons, List.sum_cons, List.length_cons, ih]; omega
    unfold szU at h; omega
  obtain ⟨m', p', h1, h2, h3, h4, h5⟩ := marks_loop (p := x.Nodes_) (Mk := mkN) (Hd := hdN) (c := fun y => szM y + 10) (B := 100000000) (laws_markNodeS_L1 x.Nodes_) (fun q => laws_heldNodeS_L1 q) (fun k l m i => by
    show (if _ then (idx l i).bind _ else _) = _
    split
    · cases idx l i with
      | none => rfl
      | some e =>
        simp only [Option.bind_some]
        unfold mkN
        cases laws_markIntS e.Kids_ (IntKind.i64.wrap ((IntKind.i64.wrap ((IntKind.i64.wrap (m + 1)) + 1)) + 1)) with
        | none => rfl
        | some y1 =>
          simp only [Option.bind_some]
          cases laws_markIntS e.Stats_.Totals_ (IntKind.i64.wrap (y1.1 + 1)) with
          | none => rfl
          | some y2 =>
            simp only [Option.bind_some]
            cases laws_markIntSS e.Stats_.Cells_ y2.1 with
            | none => rfl
            | some y3 =>
              simp only [Option.bind_some]
              cases laws_markIntS e.Attrs_ (IntKind.i64.wrap (y3.1 + 1)) with
              | none => rfl
              | some y4 => rfl
    · rfl) (fun q k m i e y h0 h1 h2 h3 => by
    show (if _ then (idx q i).bind _ else _) = _
    rw [if_pos h0, h1]
    show hdK e m (fun y => laws_heldNodeS_L1 q k y (IntKind.i64.wrap (i + 1))) = _
    exact hdK_eq (K := fun y => laws_heldNodeS_L1 q k y (IntKind.i64.wrap (i + 1))) h2 h3) (fun q k m i h0 => if_neg h0) (by omega) (fun y hy => marks_node (by have := szM_mem hy; omega)) hsum 1 (by omega)
  have h1' : laws_markNodeS x.Nodes_ 1 = some ((m' : Int), p') := h1
  have h2' : laws_heldNodeS p' 1 = some (m' : Int) := h2
  refine ⟨m', ⟨p', x.Seen_⟩, by unfold laws_markTree; rw [h1']; rfl, fun z => ?_⟩
  unfold laws_heldTree
  show (laws_heldNodeS p' 1).bind _ = _
  rw [h2']
  simp only [Option.bind_some]
  rw [if_neg (by simp)]
end Go.Vk
