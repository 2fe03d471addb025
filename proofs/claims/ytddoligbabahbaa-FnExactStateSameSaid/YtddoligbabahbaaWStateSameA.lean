/- The code does what the functions of data say. Printed by program. -/

import Derived.Test.YtddoligbabahbaaRF

import Derived.Test.YtddoligbabahbaaChecked

namespace Go.Vk

open Go.Proofs Go.RowKit



def eTlaws_Attr : Enc Tlaws_Attr := eIso (ePair (eStr) (ePair (eList (eVal (Value.int .i64) (fun _ => rfl)) 3) (eList (eStr) 9))) (fun x => (x.Name_, x.Cuts_, x.Values_))

theorem rdm_Tlaws_Attr {w : World} {X : List Nat} {x : Tlaws_Attr} {c0 c1 c2 : List Value} (h0 : (eStr).rd w X x.Name_ c0) (h1 : (eList (eVal (Value.int .i64) (fun _ => rfl)) 3).rd w X x.Cuts_ c1) (h2 : (eList (eStr) 9).rd w X x.Values_ c2) : (eTlaws_Attr).rd w X x (c0 ++ (c1 ++ c2)) := by
  show (ePair (eStr) (ePair (eList (eVal (Value.int .i64) (fun _ => rfl)) 3) (eList (eStr) 9))).rd w X (x.Name_, x.Cuts_, x.Values_) _
  exact (ePair_rd h0 (ePair_rd h1 h2))

theorem rdo_Tlaws_Attr {w : World} {X : List Nat} {x : Tlaws_Attr} {cs : List Value} (h : (eTlaws_Attr).rd w X x cs) : ∃ c0 c1 c2, cs = (c0 ++ (c1 ++ c2)) ∧ (eStr).rd w X x.Name_ c0 ∧ (eList (eVal (Value.int .i64) (fun _ => rfl)) 3).rd w X x.Cuts_ c1 ∧ (eList (eStr) 9).rd w X x.Values_ c2 := by
  have h : (ePair (eStr) (ePair (eList (eVal (Value.int .i64) (fun _ => rfl)) 3) (eList (eStr) 9))).rd w X (x.Name_, x.Cuts_, x.Values_) cs := h
  obtain ⟨c0, d0, rfl, h0, r0⟩ := h
  obtain ⟨c1, c2, rfl, h1, h2⟩ := r0
  exact ⟨c0, c1, c2, rfl, h0, h1, h2⟩

def eTlaws_Schema : Enc Tlaws_Schema := eIso (ePair (eList (eTlaws_Attr) 124) (eList (eStr) 9)) (fun x => (x.Attrs_, x.Classes_))

theorem rdm_Tlaws_Schema {w : World} {X : List Nat} {x : Tlaws_Schema} {c0 c1 : List Value} (h0 : (eList (eTlaws_Attr) 124).rd w X x.Attrs_ c0) (h1 : (eList (eStr) 9).rd w X x.Classes_ c1) : (eTlaws_Schema).rd w X x (c0 ++ c1) := by
  show (ePair (eList (eTlaws_Attr) 124) (eList (eStr) 9)).rd w X (x.Attrs_, x.Classes_) _
  exact (ePair_rd h0 h1)

theorem rdo_Tlaws_Schema {w : World} {X : List Nat} {x : Tlaws_Schema} {cs : List Value} (h : (eTlaws_Schema).rd w X x cs) : ∃ c0 c1, cs = (c0 ++ c1) ∧ (eList (eTlaws_Attr) 124).rd w X x.Attrs_ c0 ∧ (eList (eStr) 9).rd w X x.Classes_ c1 := by
  have h : (ePair (eList (eTlaws_Attr) 124) (eList (eStr) 9)).rd w X (x.Attrs_, x.Classes_) cs := h
  obtain ⟨c0, c1, rfl, h0, h1⟩ := h
  exact ⟨c0, c1, rfl, h0, h1⟩

def eTlaws_Rule : Enc Tlaws_Rule := eFlat (fun x => [.int .i64 x.Sure_, .int .i64 x.Tie_, .int .i64 x.Grace_, .int .i64 x.Depth_, .int .i64 x.Nodes_, .int .i64 x.Units_, .bool x.Two_]) 7 (fun _ => rfl) (by intro x u hu; simp only [List.mem_cons, List.not_mem_nil, or_false] at hu; rcases hu with rfl | rfl | rfl | rfl | rfl | rfl | rfl <;> rfl)

def eTlaws_Conf : Enc Tlaws_Conf := eIso (ePair (eTlaws_Schema) (ePair (eTlaws_Rule) (ePair (eVal (Value.int .i64) (fun _ => rfl)) (ePair (eVal (Value.int .i64) (fun _ => rfl)) (ePair (eVal (Value.int .i64) (fun _ => rfl)) (ePair (eVal (Value.int .i64) (fun _ => rfl)) (eVal (Value.int .i64) (fun _ => rfl)))))))) (fun x => (x.Schema_, x.Rule_, x.Members_, x.Pick_, x.Lambda_, x.Warn_, x.Drift_))

theorem rdm_Tlaws_Conf {w : World} {X : List Nat} {x : Tlaws_Conf} {c0 c1 c2 c3 c4 c5 c6 : List Value} (h0 : (eTlaws_Schema).rd w X x.Schema_ c0) (h1 : (eTlaws_Rule).rd w X x.Rule_ c1) (h2 : (eVal (Value.int .i64) (fun _ => rfl)).rd w X x.Members_ c2) (h3 : (eVal (Value.int .i64) (fun _ => rfl)).rd w X x.Pick_ c3) (h4 : (eVal (Value.int .i64) (fun _ => rfl)).rd w X x.Lambda_ c4) (h5 : (eVal (Value.int .i64) (fun _ => rfl)).rd w X x.Warn_ c5) (h6 : (eVal (Value.int .i64) (fun _ => rfl)).rd w X x.Drift_ c6) : (eTlaws_Conf).rd w X x (c0 ++ (c1 ++ (c2 ++ (c3 ++ (c4 ++ (c5 ++ c6)))))) := by
  show (ePair (eTlaws_Schema) (ePair (eTlaws_Rule) (ePair (eVal (Value.int .i64) (fun _ => rfl)) (ePair (eVal (Value.int .i64) (fun _ => rfl)) (ePair (eVal (Value.int .i64) (fun _ => rfl)) (ePair (eVal (Value.int .i64) (fun _ => rfl)) (eVal (Value.int .i64) (fun _ => rfl)))))))).rd w X (x.Schema_, x.Rule_, x.Members_, x.Pick_, x.Lambda_, x.Warn_, x.Drift_) _
  exact (ePair_rd h0 (ePair_rd h1 (ePair_rd h2 (ePair_rd h3 (ePair_rd h4 (ePair_rd h5 h6))))))

theorem rdo_Tlaws_Conf {w : World} {X : List Nat} {x : Tlaws_Conf} {cs : List Value} (h : (eTlaws_Conf).rd w X x cs) : ∃ c0 c1 c2 c3 c4 c5 c6, cs = (c0 ++ (c1 ++ (c2 ++ (c3 ++ (c4 ++ (c5 ++ c6)))))) ∧ (eTlaws_Schema).rd w X x.Schema_ c0 ∧ (eTlaws_Rule).rd w X x.Rule_ c1 ∧ (eVal (Value.int .i64) (fun _ => rfl)).rd w X x.Members_ c2 ∧ (eVal (Value.int .i64) (fun _ => rfl)).rd w X x.Pick_ c3 ∧ (eVal (Value.int .i64) (fun _ => rfl)).rd w X x.Lambda_ c4 ∧ (eVal (Value.int .i64) (fun _ => rfl)).rd w X x.Warn_ c5 ∧ (eVal (Value.int .i64) (fun _ => rfl)).rd w X x.Drift_ c6 := by
  have h : (ePair (eTlaws_Schema) (ePair (eTlaws_Rule) (ePair (eVal (Value.int .i64) (fun _ => rfl)) (ePair (eVal (Value.int .i64) (fun _ => rfl)) (ePair (eVal (Value.int .i64) (fun _ => rfl)) (ePair (eVal (Value.int .i64) (fun _ => rfl)) (eVal (Value.int .i64) (fun _ => rfl)))))))).rd w X (x.Schema_, x.Rule_, x.Members_, x.Pick_, x.Lambda_, x.Warn_, x.Drift_) cs := h
  obtain ⟨c0, d0, rfl, h0, r0⟩ := h
  obtain ⟨c1, d1, rfl, h1, r1⟩ := r0
  obtain ⟨c2, d2, rfl, h2, r2⟩ := r1
  obtain ⟨c3, d3, rfl, h3, r3⟩ := r2
  obtain ⟨c4, d4, rfl, h4, r4⟩ := r3
  obtain ⟨c5, c6, rfl, h5, h6⟩ := r4
  exact ⟨c0, c1, c2, c3, c4, c5, c6, rfl, h0, h1, h2, h3, h4, h5, h6⟩

def eTlaws_Stats : Enc Tlaws_Stats := eIso (ePair (eList (eVal (Value.int .i64) (fun _ => rfl)) 3) (eList (eList (eVal (Value.int .i64) (fun _ => rfl)) 3) 82)) (fun x => (x.Totals_, x.Cells_))

theorem rdm_Tlaws_Stats {w : World} {X : List Nat} {x : Tlaws_Stats} {c0 c1 : List Value} (h0 : (eList (eVal (Value.int .i64) (fun _ => rfl)) 3).rd w X x.Totals_ c0) (h1 : (eList (eList (eVal (Value.int .i64) (fun _ => rfl)) 3) 82).rd w X x.Cells_ c1) : (eTlaws_Stats).rd w X x (c0 ++ c1) := by
  show (ePair (eList (eVal (Value.int .i64) (fun _ => rfl)) 3) (eList (eList (eVal (Value.int .i64) (fun _ => rfl)) 3) 82)).rd w X (x.Totals_, x.Cells_) _
  exact (ePair_rd h0 h1)

theorem rdo_Tlaws_Stats {w : World} {X : List Nat} {x : Tlaws_Stats} {cs : List Value} (h : (eTlaws_Stats).rd w X x cs) : ∃ c0 c1, cs = (c0 ++ c1) ∧ (eList (eVal (Value.int .i64) (fun _ => rfl)) 3).rd w X x.Totals_ c0 ∧ (eList (eList (eVal (Value.int .i64) (fun _ => rfl)) 3) 82).rd w X x.Cells_ c1 := by
  have h : (ePair (eList (eVal (Value.int .i64) (fun _ => rfl)) 3) (eList (eList (eVal (Value.int .i64) (fun _ => rfl)) 3) 82)).rd w X (x.Totals_, x.Cells_) cs := h
  obtain ⟨c0, c1, rfl, h0, h1⟩ := h
  exact ⟨c0, c1, rfl, h0, h1⟩

def eTlaws_Fork : Enc Tlaws_Fork := eFlat (fun x => [.int .i64 x.Attr_, .int .i64 x.At_]) 2 (fun _ => rfl) (by intro x u hu; simp only [List.mem_cons, List.not_mem_nil, or_false] at hu; rcases hu with rfl | rfl <;> rfl)

def eTlaws_Node : Enc Tlaws_Node := eIso (ePair (eBool) (ePair (eTlaws_Fork) (ePair (eList (eVal (Value.int .i64) (fun _ => rfl)) 3) (ePair (eVal (Value.int .i64) (fun _ => rfl)) (ePair (eTlaws_Stats) (ePair (eVal (Value.int .i64) (fun _ => rfl)) (ePair (eList (eVal (Value.int .i64) (fun _ => rfl)) 3) (ePair (eVal (Value.int .i64) (fun _ => rfl)) (ePair (eVal (Value.int .i64) (fun _ => rfl)) (eVal (Value.int .i64) (fun _ => rfl))))))))))) (fun x => (x.Leaf_, x.Fork_, x.Kids_, x.Miss_, x.Stats_, x.Since_, x.Attrs_, x.Depth_, x.Up_, x.Born_))

theorem rdm_Tlaws_Node {w : World} {X : List Nat} {x : Tlaws_Node} {c0 c1 c2 c3 c4 c5 c6 c7 c8 c9 : List Value} (h0 : (eBool).rd w X x.Leaf_ c0) (h1 : (eTlaws_Fork).rd w X x.Fork_ c1) (h2 : (eList (eVal (Value.int .i64) (fun _ => rfl)) 3).rd w X x.Kids_ c2) (h3 : (eVal (Value.int .i64) (fun _ => rfl)).rd w X x.Miss_ c3) (h4 : (eTlaws_Stats).rd w X x.Stats_ c4) (h5 : (eVal (Value.int .i64) (fun _ => rfl)).rd w X x.Since_ c5) (h6 : (eList (eVal (Value.int .i64) (fun _ => rfl)) 3).rd w X x.Attrs_ c6) (h7 : (eVal (Value.int .i64) (fun _ => rfl)).rd w X x.Depth_ c7) (h8 : (eVal (Value.int .i64) (fun _ => rfl)).rd w X x.Up_ c8) (h9 : (eVal (Value.int .i64) (fun _ => rfl)).rd w X x.Born_ c9) : (eTlaws_Node).rd w X x (c0 ++ (c1 ++ (c2 ++ (c3 ++ (c4 ++ (c5 ++ (c6 ++ (c7 ++ (c8 ++ c9))))))))) := by
  show (ePair (eBool) (ePair (eTlaws_Fork) (ePair (eList (eVal (Value.int .i64) (fun _ => rfl)) 3) (ePair (eVal (Value.int .i64) (fun _ => rfl)) (ePair (eTlaws_Stats) (ePair (eVal (Value.int .i64) (fun _ => rfl)) (ePair (eList (eVal (Value.int .i64) (fun _ => rfl)) 3) (ePair (eVal (Value.int .i64) (fun _ => rfl)) (ePair (eVal (Value.int .i64) (fun _ => rfl)) (eVal (Value.int .i64) (fun _ => rfl))))))))))).rd w X (x.Leaf_, x.Fork_, x.Kids_, x.Miss_, x.Stats_, x.Since_, x.Attrs_, x.Depth_, x.Up_, x.Born_) _
  exact (ePair_rd h0 (ePair_rd h1 (ePair_rd h2 (ePair_rd h3 (ePair_rd h4 (ePair_rd h5 (ePair_rd h6 (ePair_rd h7 (ePair_rd h8 h9)))))))))

theorem rdo_Tlaws_Node {w : World} {X : List Nat} {x : Tlaws_Node} {cs : List Value} (h : (eTlaws_Node).rd w X x cs) : ∃ c0 c1 c2 c3 c4 c5 c6 c7 c8 c9, cs = (c0 ++ (c1 ++ (c2 ++ (c3 ++ (c4 ++ (c5 ++ (c6 ++ (c7 ++ (c8 ++ c9))))))))) ∧ (eBool).rd w X x.Leaf_ c0 ∧ (eTlaws_Fork).rd w X x.Fork_ c1 ∧ (eList (eVal (Value.int .i64) (fun _ => rfl)) 3).rd w X x.Kids_ c2 ∧ (eVal (Value.int .i64) (fun _ => rfl)).rd w X x.Miss_ c3 ∧ (eTlaws_Stats).rd w X x.Stats_ c4 ∧ (eVal (Value.int .i64) (fun _ => rfl)).rd w X x.Since_ c5 ∧ (eList (eVal (Value.int .i64) (fun _ => rfl)) 3).rd w X x.Attrs_ c6 ∧ (eVal (Value.int .i64) (fun _ => rfl)).rd w X x.Depth_ c7 ∧ (eVal (Value.int .i64) (fun _ => rfl)).rd w X x.Up_ c8 ∧ (eVal (Value.int .i64) (fun _ => rfl)).rd w X x.Born_ c9 := by
  have h : (ePair (eBool) (ePair (eTlaws_Fork) (ePair (eList (eVal (Value.int .i64) (fun _ => rfl)) 3) (ePair (eVal (Value.int .i64) (fun _ => rfl)) (ePair (eTlaws_Stats) (ePair (eVal (Value.int .i64) (fun _ => rfl)) (ePair (eList (eVal (Value.int .i64) (fun _ => rfl)) 3) (ePair (eVal (Value.int .i64) (fun _ => rfl)) (ePair (eVal (Value.int .i64) (fun _ => rfl)) (eVal (Value.int .i64) (fun _ => rfl))))))))))).rd w X (x.Leaf_, x.Fork_, x.Kids_, x.Miss_, x.Stats_, x.Since_, x.Attrs_, x.Depth_, x.Up_, x.Born_) cs := h
  obtain ⟨c0, d0, rfl, h0, r0⟩ := h
  obtain ⟨c1, d1, rfl, h1, r1⟩ := r0
  obtain ⟨c2, d2, rfl, h2, r2⟩ := r1
  obtain ⟨c3, d3, rfl, h3, r3⟩ := r2
  obtain ⟨c4, d4, rfl, h4, r4⟩ := r3
  obtain ⟨c5, d5, rfl, h5, r5⟩ := r4
  obtain ⟨c6, d6, rfl, h6, r6⟩ := r5
  obtain ⟨c7, d7, rfl, h7, r7⟩ := r6
  obtain ⟨c8, c9, rfl, h8, h9⟩ := r7
  exact ⟨c0, c1, c2, c3, c4, c5, c6, c7, c8, c9, rfl, h0, h1, h2, h3, h4, h5, h6, h7, h8, h9⟩

def eTlaws_Tree : Enc Tlaws_Tree := eIso (ePair (eList (eTlaws_Node) 149) (eVal (Value.int .i64) (fun _ => rfl))) (fun x => (x.Nodes_, x.Seen_))

theorem rdm_Tlaws_Tree {w : World} {X : List Nat} {x : Tlaws_Tree} {c0 c1 : List Value} (h0 : (eList (eTlaws_Node) 149).rd w X x.Nodes_ c0) (h1 : (eVal (Value.int .i64) (fun _ => rfl)).rd w X x.Seen_ c1) : (eTlaws_Tree).rd w X x (c0 ++ c1) := by
  show (ePair (eList (eTlaws_Node) 149) (eVal (Value.int .i64) (fun _ => rfl))).rd w X (x.Nodes_, x.Seen_) _
  exact (ePair_rd h0 h1)

theorem rdo_Tlaws_Tree {w : World} {X : List Nat} {x : Tlaws_Tree} {cs : List Value} (h : (eTlaws_Tree).rd w X x cs) : ∃ c0 c1, cs = (c0 ++ c1) ∧ (eList (eTlaws_Node) 149).rd w X x.Nodes_ c0 ∧ (eVal (Value.int .i64) (fun _ => rfl)).rd w X x.Seen_ c1 := by
  have h : (ePair (eList (eTlaws_Node) 149) (eVal (Value.int .i64) (fun _ => rfl))).rd w X (x.Nodes_, x.Seen_) cs := h
  obtain ⟨c0, c1, rfl, h0, h1⟩ := h
  exact ⟨c0, c1, rfl, h0, h1⟩

def eTlaws_Window : Enc Tlaws_Window := eIso (eList (eList (eVal (Value.int .i64) (fun _ => rfl)) 3) 82) (fun x => x.Rows_)

theorem rdm_Tlaws_Window {w : World} {X : List Nat} {x : Tlaws_Window} {c0 : List Value} (h0 : (eList (eList (eVal (Value.int .i64) (fun _ => rfl)) 3) 82).rd w X x.Rows_ c0) : (eTlaws_Window).rd w X x c0 := by
  show (eList (eList (eVal (Value.int .i64) (fun _ => rfl)) 3) 82).rd w X x.Rows_ _
  exact h0

theorem rdo_Tlaws_Window {w : World} {X : List Nat} {x : Tlaws_Window} {cs : List Value} (h : (eTlaws_Window).rd w X x cs) : ∃ c0, cs = c0 ∧ (eList (eList (eVal (Value.int .i64) (fun _ => rfl)) 3) 82).rd w X x.Rows_ c0 := by
  have h : (eList (eList (eVal (Value.int .i64) (fun _ => rfl)) 3) 82).rd w X x.Rows_ cs := h
  exact ⟨cs, rfl, h⟩

def eTlaws_Det : Enc Tlaws_Det := eIso (ePair (eTlaws_Window) (eTlaws_Window)) (fun x => (x.Warn_, x.Drift_))

theorem rdm_Tlaws_Det {w : World} {X : List Nat} {x : Tlaws_Det} {c0 c1 : List Value} (h0 : (eTlaws_Window).rd w X x.Warn_ c0) (h1 : (eTlaws_Window).rd w X x.Drift_ c1) : (eTlaws_Det).rd w X x (c0 ++ c1) := by
  show (ePair (eTlaws_Window) (eTlaws_Window)).rd w X (x.Warn_, x.Drift_) _
  exact (ePair_rd h0 h1)

theorem rdo_Tlaws_Det {w : World} {X : List Nat} {x : Tlaws_Det} {cs : List Value} (h : (eTlaws_Det).rd w X x cs) : ∃ c0 c1, cs = (c0 ++ c1) ∧ (eTlaws_Window).rd w X x.Warn_ c0 ∧ (eTlaws_Window).rd w X x.Drift_ c1 := by
  have h : (ePair (eTlaws_Window) (eTlaws_Window)).rd w X (x.Warn_, x.Drift_) cs := h
  obtain ⟨c0, c1, rfl, h0, h1⟩ := h
  exact ⟨c0, c1, rfl, h0, h1⟩

def eTlaws_Member : Enc Tlaws_Member := eIso (ePair (eTlaws_Tree) (ePair (eBool) (ePair (eTlaws_Tree) (eTlaws_Det)))) (fun x => (x.Tree_, x.HasYoung_, x.Young_, x.Det_))

theorem rdm_Tlaws_Member {w : World} {X : List Nat} {x : Tlaws_Member} {c0 c1 c2 c3 : List Value} (h0 : (eTlaws_Tree).rd w X x.Tree_ c0) (h1 : (eBool).rd w X x.HasYoung_ c1) (h2 : (eTlaws_Tree).rd w X x.Young_ c2) (h3 : (eTlaws_Det).rd w X x.Det_ c3) : (eTlaws_Member).rd w X x (c0 ++ (c1 ++ (c2 ++ c3))) := by
  show (ePair (eTlaws_Tree) (ePair (eBool) (ePair (eTlaws_Tree) (eTlaws_Det)))).rd w X (x.Tree_, x.HasYoung_, x.Young_, x.Det_) _
  exact (ePair_rd h0 (ePair_rd h1 (ePair_rd h2 h3)))

theorem rdo_Tlaws_Member {w : World} {X : List Nat} {x : Tlaws_Member} {cs : List Value} (h : (eTlaws_Member).rd w X x cs) : ∃ c0 c1 c2 c3, cs = (c0 ++ (c1 ++ (c2 ++ c3))) ∧ (eTlaws_Tree).rd w X x.Tree_ c0 ∧ (eBool).rd w X x.HasYoung_ c1 ∧ (eTlaws_Tree).rd w X x.Young_ c2 ∧ (eTlaws_Det).rd w X x.Det_ c3 := by
  have h : (ePair (eTlaws_Tree) (ePair (eBool) (ePair (eTlaws_Tree) (eTlaws_Det)))).rd w X (x.Tree_, x.HasYoung_, x.Young_, x.Det_) cs := h
  obtain ⟨c0, d0, rfl, h0, r0⟩ := h
  obtain ⟨c1, d1, rfl, h1, r1⟩ := r0
  obtain ⟨c2, c3, rfl, h2, h3⟩ := r1
  exact ⟨c0, c1, c2, c3, rfl, h0, h1, h2, h3⟩

def eTlaws_Forest : Enc Tlaws_Forest := eIso (eList (eTlaws_Member) 105) (fun x => x.Members_)

theorem rdm_Tlaws_Forest {w : World} {X : List Nat} {x : Tlaws_Forest} {c0 : List Value} (h0 : (eList (eTlaws_Member) 105).rd w X x.Members_ c0) : (eTlaws_Forest).rd w X x c0 := by
  show (eList (eTlaws_Member) 105).rd w X x.Members_ _
  exact h0

theorem rdo_Tlaws_Forest {w : World} {X : List Nat} {x : Tlaws_Forest} {cs : List Value} (h : (eTlaws_Forest).rd w X x cs) : ∃ c0, cs = c0 ∧ (eList (eTlaws_Member) 105).rd w X x.Members_ c0 := by
  have h : (eList (eTlaws_Member) 105).rd w X x.Members_ cs := h
  exact ⟨cs, rfl, h⟩

def eTlaws_Pair : Enc Tlaws_Pair := eFlat (fun x => [.int .i64 x.Truth_, .int .i64 x.Said_]) 2 (fun _ => rfl) (by intro x u hu; simp only [List.mem_cons, List.not_mem_nil, or_false] at hu; rcases hu with rfl | rfl <;> rfl)

def eTlaws_Score : Enc Tlaws_Score := eIso (ePair (eList (eList (eVal (Value.int .i64) (fun _ => rfl)) 3) 82) (eList (eTlaws_Pair) 117)) (fun x => (x.Table_, x.Last_))

theorem rdm_Tlaws_Score {w : World} {X : List Nat} {x : Tlaws_Score} {c0 c1 : List Value} (h0 : (eList (eList (eVal (Value.int .i64) (fun _ => rfl)) 3) 82).rd w X x.Table_ c0) (h1 : (eList (eTlaws_Pair) 117).rd w X x.Last_ c1) : (eTlaws_Score).rd w X x (c0 ++ c1) := by
  show (ePair (eList (eList (eVal (Value.int .i64) (fun _ => rfl)) 3) 82) (eList (eTlaws_Pair) 117)).rd w X (x.Table_, x.Last_) _
  exact (ePair_rd h0 h1)

theorem rdo_Tlaws_Score {w : World} {X : List Nat} {x : Tlaws_Score} {cs : List Value} (h : (eTlaws_Score).rd w X x cs) : ∃ c0 c1, cs = (c0 ++ c1) ∧ (eList (eList (eVal (Value.int .i64) (fun _ => rfl)) 3) 82).rd w X x.Table_ c0 ∧ (eList (eTlaws_Pair) 117).rd w X x.Last_ c1 := by
  have h : (ePair (eList (eList (eVal (Value.int .i64) (fun _ => rfl)) 3) 82) (eList (eTlaws_Pair) 117)).rd w X (x.Table_, x.Last_) cs := h
  obtain ⟨c0, c1, rfl, h0, h1⟩ := h
  exact ⟨c0, c1, rfl, h0, h1⟩

def eTlaws_State : Enc Tlaws_State := eIso (ePair (eTlaws_Conf) (ePair (eTlaws_Forest) (eTlaws_Score))) (fun x => (x.Conf_, x.Forest_, x.Score_))

theorem rdm_Tlaws_State {w : World} {X : List Nat} {x : Tlaws_State} {c0 c1 c2 : List Value} (h0 : (eTlaws_Conf).rd w X x.Conf_ c0) (h1 : (eTlaws_Forest).rd w X x.Forest_ c1) (h2 : (eTlaws_Score).rd w X x.Score_ c2) : (eTlaws_State).rd w X x (c0 ++ (c1 ++ c2)) := by
  show (ePair (eTlaws_Conf) (ePair (eTlaws_Forest) (eTlaws_Score))).rd w X (x.Conf_, x.Forest_, x.Score_) _
  exact (ePair_rd h0 (ePair_rd h1 h2))

theorem rdo_Tlaws_State {w : World} {X : List Nat} {x : Tlaws_State} {cs : List Value} (h : (eTlaws_State).rd w X x cs) : ∃ c0 c1 c2, cs = (c0 ++ (c1 ++ c2)) ∧ (eTlaws_Conf).rd w X x.Conf_ c0 ∧ (eTlaws_Forest).rd w X x.Forest_ c1 ∧ (eTlaws_Score).rd w X x.Score_ c2 := by
  have h : (ePair (eTlaws_Conf) (ePair (eTlaws_Forest) (eTlaws_Score))).rd w X (x.Conf_, x.Forest_, x.Score_) cs := h
  obtain ⟨c0, d0, rfl, h0, r0⟩ := h
  obtain ⟨c1, c2, rfl, h1, h2⟩ := r0
  exact ⟨c0, c1, c2, rfl, h0, h1, h2⟩

def eTimpl_Attr : Enc Timpl_Attr := eIso (ePair (eStr) (ePair (eList (eVal (Value.int .i64) (fun _ => rfl)) 3) (eList (eStr) 9))) (fun x => (x.Name_, x.Cuts_, x.Values_))

theorem rdm_Timpl_Attr {w : World} {X : List Nat} {x : Timpl_Attr} {c0 c1 c2 : List Value} (h0 : (eStr).rd w X x.Name_ c0) (h1 : (eList (eVal (Value.int .i64) (fun _ => rfl)) 3).rd w X x.Cuts_ c1) (h2 : (eList (eStr) 9).rd w X x.Values_ c2) : (eTimpl_Attr).rd w X x (c0 ++ (c1 ++ c2)) := by
  show (ePair (eStr) (ePair (eList (eVal (Value.int .i64) (fun _ => rfl)) 3) (eList (eStr) 9))).rd w X (x.Name_, x.Cuts_, x.Values_) _
  exact (ePair_rd h0 (ePair_rd h1 h2))

theorem rdo_Timpl_Attr {w : World} {X : List Nat} {x : Timpl_Attr} {cs : List Value} (h : (eTimpl_Attr).rd w X x cs) : ∃ c0 c1 c2, cs = (c0 ++ (c1 ++ c2)) ∧ (eStr).rd w X x.Name_ c0 ∧ (eList (eVal (Value.int .i64) (fun _ => rfl)) 3).rd w X x.Cuts_ c1 ∧ (eList (eStr) 9).rd w X x.Values_ c2 := by
  have h : (ePair (eStr) (ePair (eList (eVal (Value.int .i64) (fun _ => rfl)) 3) (eList (eStr) 9))).rd w X (x.Name_, x.Cuts_, x.Values_) cs := h
  obtain ⟨c0, d0, rfl, h0, r0⟩ := h
  obtain ⟨c1, c2, rfl, h1, h2⟩ := r0
  exact ⟨c0, c1, c2, rfl, h0, h1, h2⟩

theorem ownm_Timpl_Attr {w : World} {F0 F1 F2 : List Nat} {x : Timpl_Attr} {c0 c1 c2 : List Value} (h0 : (eStr).own w F0 x.Name_ c0) (h1 : (eList (eVal (Value.int .i64) (fun _ => rfl)) 3).own w F1 x.Cuts_ c1) (h2 : (eList (eStr) 9).own w F2 x.Values_ c2) : (eTimpl_Attr).own w (F0 ++ (F1 ++ F2)) x (c0 ++ (c1 ++ c2)) := by
  show (ePair (eStr) (ePair (eList (eVal (Value.int .i64) (fun _ => rfl)) 3) (eList (eStr) 9))).own w _ (x.Name_, x.Cuts_, x.Values_) _
  exact (ePair_own h0 (ePair_own h1 h2))

theorem owno_Timpl_Attr {w : World} {F : List Nat} {x : Timpl_Attr} {cs : List Value} (h : (eTimpl_Attr).own w F x cs) : ∃ F0 F1 F2 c0 c1 c2, F = (F0 ++ (F1 ++ F2)) ∧ cs = (c0 ++ (c1 ++ c2)) ∧ (eStr).own w F0 x.Name_ c0 ∧ (eList (eVal (Value.int .i64) (fun _ => rfl)) 3).own w F1 x.Cuts_ c1 ∧ (eList (eStr) 9).own w F2 x.Values_ c2 := by
  have h : (ePair (eStr) (ePair (eList (eVal (Value.int .i64) (fun _ => rfl)) 3) (eList (eStr) 9))).own w F (x.Name_, x.Cuts_, x.Values_) cs := h
  obtain ⟨F0, G0, c0, d0, rfl, rfl, h0, r0⟩ := h
  obtain ⟨F1, F2, c1, c2, rfl, rfl, h1, h2⟩ := r0
  exact ⟨F0, F1, F2, c0, c1, c2, rfl, rfl, h0, h1, h2⟩

theorem opn_Timpl_Attr {w0 : World} {M : List Nat} {L : List Res} {w : World} {F : List Nat} {x : Timpl_Attr} {cs : List Value} {i : Nat} (h : St w0 M L w) (hi : L[i]? = some (Res.own (eTimpl_Attr) F x cs)) :
    ∃ (a_1 : Option Addr) (k_1 : Nat) (F_1 : List Nat), ∃ (a_2 : Option Addr) (k_2 : Nat) (F_2 : List Nat), cs = [vS x.Name_, .slice a_1 (x.Cuts_).length k_1, .slice a_2 (x.Values_).length k_2] ∧ St w0 M (nilAt L [i] ++ [Res.own (eList (eVal (Value.int .i64) (fun _ => rfl)) 3) F_1 x.Cuts_ [.slice a_1 (x.Cuts_).length k_1], Res.own (eList (eStr) 9) F_2 x.Values_ [.slice a_2 (x.Values_).length k_2]]) w := by
  obtain ⟨hok, _, _⟩ := h.one hi
  have hok : (eTimpl_Attr).own w F x cs := hok
  obtain ⟨F1_0, F1_1, F1_2, c1_0, c1_1, c1_2, rfl, rfl, h1_0, h1_1, h1_2⟩ := owno_Timpl_Attr hok
  obtain ⟨rfl, rfl⟩ : F1_0 = [] ∧ c1_0 = [vS x.Name_] := h1_0
  obtain ⟨a2, k2, rfl⟩ := own_sl1 h1_1
  obtain ⟨a3, k3, rfl⟩ := own_sl1 h1_2
  refine ⟨a2, k2, F1_1, a3, k3, F1_2, rfl, h.re [i] _ rfl ?_ ?_⟩
  · simp [selR_cons, selR_nil, hi, foot, Res.own]
  · intro s hs; simp only [List.mem_cons, List.not_mem_nil, or_false] at hs; rcases hs with rfl | rfl
    · exact h1_1
    · exact h1_2

theorem fus_Timpl_Attr {w0 : World} {M : List Nat} {L : List Res} {w : World} {x0 : List UInt8} {x1 : List Int} {a1 : Option Addr} {n1 k1 : Nat} {G1 : List Nat} {x2 : List (List UInt8)} {a2 : Option Addr} {n2 k2 : Nat} {G2 : List Nat} (idx : List Nat) (h : St w0 M L w) (hs : selR L idx = [Res.own (eList (eVal (Value.int .i64) (fun _ => rfl)) 3) G1 x1 [.slice a1 n1 k1], Res.own (eList (eStr) 9) G2 x2 [.slice a2 n2 k2]]) (hn : nodB idx = true) :
    ∃ F, St w0 M (nilAt L idx ++ [Res.own (eTimpl_Attr) F (Timpl_Attr.mk x0 x1 x2) [vS x0, .slice a1 n1 k1, .slice a2 n2 k2]]) w := by
  have o0 : (eList (eVal (Value.int .i64) (fun _ => rfl)) 3).own w G1 x1 [.slice a1 n1 k1] := h.ok' (mem_sel (L := L) (is := idx) (by rw [hs]; simp : Res.own (eList (eVal (Value.int .i64) (fun _ => rfl)) 3) G1 x1 [.slice a1 n1 k1] ∈ selR L idx))
  have o1 : (eList (eStr) 9).own w G2 x2 [.slice a2 n2 k2] := h.ok' (mem_sel (L := L) (is := idx) (by rw [hs]; simp : Res.own (eList (eStr) 9) G2 x2 [.slice a2 n2 k2] ∈ selR L idx))
  have ho := (ownm_Timpl_Attr (x := (Timpl_Attr.mk x0 x1 x2)) (⟨rfl, rfl⟩ : (eStr).own w [] _ _) o0 o1)
  refine ⟨_, h.re idx [Res.own (eTimpl_Attr) _ (Timpl_Attr.mk x0 x1 x2) [vS x0, .slice a1 n1 k1, .slice a2 n2 k2]] hn ?_ (fun s hs => by rw [List.mem_singleton.1 hs]; exact ho)⟩
  rw [hs]
  simp [foot, Res.own]

def eTimpl_Fork : Enc Timpl_Fork := eFlat (fun x => [.int .i64 x.Attr_, .int .i64 x.At_]) 2 (fun _ => rfl) (by intro x u hu; simp only [List.mem_cons, List.not_mem_nil, or_false] at hu; rcases hu with rfl | rfl <;> rfl)

def eTimpl_Stats : Enc Timpl_Stats := eIso (ePair (eList (eVal (Value.int .i64) (fun _ => rfl)) 3) (eList (eList (eVal (Value.int .i64) (fun _ => rfl)) 3) 82)) (fun x => (x.Totals_, x.Cells_))

theorem rdm_Timpl_Stats {w : World} {X : List Nat} {x : Timpl_Stats} {c0 c1 : List Value} (h0 : (eList (eVal (Value.int .i64) (fun _ => rfl)) 3).rd w X x.Totals_ c0) (h1 : (eList (eList (eVal (Value.int .i64) (fun _ => rfl)) 3) 82).rd w X x.Cells_ c1) : (eTimpl_Stats).rd w X x (c0 ++ c1) := by
  show (ePair (eList (eVal (Value.int .i64) (fun _ => rfl)) 3) (eList (eList (eVal (Value.int .i64) (fun _ => rfl)) 3) 82)).rd w X (x.Totals_, x.Cells_) _
  exact (ePair_rd h0 h1)

theorem rdo_Timpl_Stats {w : World} {X : List Nat} {x : Timpl_Stats} {cs : List Value} (h : (eTimpl_Stats).rd w X x cs) : ∃ c0 c1, cs = (c0 ++ c1) ∧ (eList (eVal (Value.int .i64) (fun _ => rfl)) 3).rd w X x.Totals_ c0 ∧ (eList (eList (eVal (Value.int .i64) (fun _ => rfl)) 3) 82).rd w X x.Cells_ c1 := by
  have h : (ePair (eList (eVal (Value.int .i64) (fun _ => rfl)) 3) (eList (eList (eVal (Value.int .i64) (fun _ => rfl)) 3) 82)).rd w X (x.Totals_, x.Cells_) cs := h
  obtain ⟨c0, c1, rfl, h0, h1⟩ := h
  exact ⟨c0, c1, rfl, h0, h1⟩

theorem ownm_Timpl_Stats {w : World} {F0 F1 : List Nat} {x : Timpl_Stats} {c0 c1 : List Value} (h0 : (eList (eVal (Value.int .i64) (fun _ => rfl)) 3).own w F0 x.Totals_ c0) (h1 : (eList (eList (eVal (Value.int .i64) (fun _ => rfl)) 3) 82).own w F1 x.Cells_ c1) : (eTimpl_Stats).own w (F0 ++ F1) x (c0 ++ c1) := by
  show (ePair (eList (eVal (Value.int .i64) (fun _ => rfl)) 3) (eList (eList (eVal (Value.int .i64) (fun _ => rfl)) 3) 82)).own w _ (x.Totals_, x.Cells_) _
  exact (ePair_own h0 h1)

theorem owno_Timpl_Stats {w : World} {F : List Nat} {x : Timpl_Stats} {cs : List Value} (h : (eTimpl_Stats).own w F x cs) : ∃ F0 F1 c0 c1, F = (F0 ++ F1) ∧ cs = (c0 ++ c1) ∧ (eList (eVal (Value.int .i64) (fun _ => rfl)) 3).own w F0 x.Totals_ c0 ∧ (eList (eList (eVal (Value.int .i64) (fun _ => rfl)) 3) 82).own w F1 x.Cells_ c1 := by
  have h : (ePair (eList (eVal (Value.int .i64) (fun _ => rfl)) 3) (eList (eList (eVal (Value.int .i64) (fun _ => rfl)) 3) 82)).own w F (x.Totals_, x.Cells_) cs := h
  obtain ⟨F0, F1, c0, c1, rfl, rfl, h0, h1⟩ := h
  exact ⟨F0, F1, c0, c1, rfl, rfl, h0, h1⟩

def eTimpl_Node : Enc Timpl_Node := eIso (ePair (eBool) (ePair (eTimpl_Fork) (ePair (eList (eVal (Value.int .i64) (fun _ => rfl)) 3) (ePair (eVal (Value.int .i64) (fun _ => rfl)) (ePair (eTimpl_Stats) (ePair (eVal (Value.int .i64) (fun _ => rfl)) (ePair (eList (eVal (Value.int .i64) (fun _ => rfl)) 3) (ePair (eVal (Value.int .i64) (fun _ => rfl)) (ePair (eVal (Value.int .i64) (fun _ => rfl)) (eVal (Value.int .i64) (fun _ => rfl))))))))))) (fun x => (x.Leaf_, x.Fork_, x.Kids_, x.Miss_, x.Stats_, x.Since_, x.Attrs_, x.Depth_, x.Up_, x.Born_))

theorem rdm_Timpl_Node {w : World} {X : List Nat} {x : Timpl_Node} {c0 c1 c2 c3 c4 c5 c6 c7 c8 c9 : List Value} (h0 : (eBool).rd w X x.Leaf_ c0) (h1 : (eTimpl_Fork).rd w X x.Fork_ c1) (h2 : (eList (eVal (Value.int .i64) (fun _ => rfl)) 3).rd w X x.Kids_ c2) (h3 : (eVal (Value.int .i64) (fun _ => rfl)).rd w X x.Miss_ c3) (h4 : (eTimpl_Stats).rd w X x.Stats_ c4) (h5 : (eVal (Value.int .i64) (fun _ => rfl)).rd w X x.Since_ c5) (h6 : (eList (eVal (Value.int .i64) (fun _ => rfl)) 3).rd w X x.Attrs_ c6) (h7 : (eVal (Value.int .i64) (fun _ => rfl)).rd w X x.Depth_ c7) (h8 : (eVal (Value.int .i64) (fun _ => rfl)).rd w X x.Up_ c8) (h9 : (eVal (Value.int .i64) (fun _ => rfl)).rd w X x.Born_ c9) : (eTimpl_Node).rd w X x (c0 ++ (c1 ++ (c2 ++ (c3 ++ (c4 ++ (c5 ++ (c6 ++ (c7 ++ (c8 ++ c9))))))))) := by
  show (ePair (eBool) (ePair (eTimpl_Fork) (ePair (eList (eVal (Value.int .i64) (fun _ => rfl)) 3) (ePair (eVal (Value.int .i64) (fun _ => rfl)) (ePair (eTimpl_Stats) (ePair (eVal (Value.int .i64) (fun _ => rfl)) (ePair (eList (eVal (Value.int .i64) (fun _ => rfl)) 3) (ePair (eVal (Value.int .i64) (fun _ => rfl)) (ePair (eVal (Value.int .i64) (fun _ => rfl)) (eVal (Value.int .i64) (fun _ => rfl))))))))))).rd w X (x.Leaf_, x.Fork_, x.Kids_, x.Miss_, x.Stats_, x.Since_, x.Attrs_, x.Depth_, x.Up_, x.Born_) _
  exact (ePair_rd h0 (ePair_rd h1 (ePair_rd h2 (ePair_rd h3 (ePair_rd h4 (ePair_rd h5 (ePair_rd h6 (ePair_rd h7 (ePair_rd h8 h9)))))))))

theorem rdo_Timpl_Node {w : World} {X : List Nat} {x : Timpl_Node} {cs : List Value} (h : (eTimpl_Node).rd w X x cs) : ∃ c0 c1 c2 c3 c4 c5 c6 c7 c8 c9, cs = (c0 ++ (c1 ++ (c2 ++ (c3 ++ (c4 ++ (c5 ++ (c6 ++ (c7 ++ (c8 ++ c9))))))))) ∧ (eBool).rd w X x.Leaf_ c0 ∧ (eTimpl_Fork).rd w X x.Fork_ c1 ∧ (eList (eVal (Value.int .i64) (fun _ => rfl)) 3).rd w X x.Kids_ c2 ∧ (eVal (Value.int .i64) (fun _ => rfl)).rd w X x.Miss_ c3 ∧ (eTimpl_Stats).rd w X x.Stats_ c4 ∧ (eVal (Value.int .i64) (fun _ => rfl)).rd w X x.Since_ c5 ∧ (eList (eVal (Value.int .i64) (fun _ => rfl)) 3).rd w X x.Attrs_ c6 ∧ (eVal (Value.int .i64) (fun _ => rfl)).rd w X x.Depth_ c7 ∧ (eVal (Value.int .i64) (fun _ => rfl)).rd w X x.Up_ c8 ∧ (eVal (Value.int .i64) (fun _ => rfl)).rd w X x.Born_ c9 := by
  have h : (ePair (eBool) (ePair (eTimpl_Fork) (ePair (eList (eVal (Value.int .i64) (fun _ => rfl)) 3) (ePair (eVal (Value.int .i64) (fun _ => rfl)) (ePair (eTimpl_Stats) (ePair (eVal (Value.int .i64) (fun _ => rfl)) (ePair (eList (eVal (Value.int .i64) (fun _ => rfl)) 3) (ePair (eVal (Value.int .i64) (fun _ => rfl)) (ePair (eVal (Value.int .i64) (fun _ => rfl)) (eVal (Value.int .i64) (fun _ => rfl))))))))))).rd w X (x.Leaf_, x.Fork_, x.Kids_, x.Miss_, x.Stats_, x.Since_, x.Attrs_, x.Depth_, x.Up_, x.Born_) cs := h
  obtain ⟨c0, d0, rfl, h0, r0⟩ := h
  obtain ⟨c1, d1, rfl, h1, r1⟩ := r0
  obtain ⟨c2, d2, rfl, h2, r2⟩ := r1
  obtain ⟨c3, d3, rfl, h3, r3⟩ := r2
  obtain ⟨c4, d4, rfl, h4, r4⟩ := r3
  obtain ⟨c5, d5, rfl, h5, r5⟩ := r4
  obtain ⟨c6, d6, rfl, h6, r6⟩ := r5
  obtain ⟨c7, d7, rfl, h7, r7⟩ := r6
  obtain ⟨c8, c9, rfl, h8, h9⟩ := r7
  exact ⟨c0, c1, c2, c3, c4, c5, c6, c7, c8, c9, rfl, h0, h1, h2, h3, h4, h5, h6, h7, h8, h9⟩

theorem ownm_Timpl_Node {w : World} {F0 F1 F2 F3 F4 F5 F6 F7 F8 F9 : List Nat} {x : Timpl_Node} {c0 c1 c2 c3 c4 c5 c6 c7 c8 c9 : List Value} (h0 : (eBool).own w F0 x.Leaf_ c0) (h1 : (eTimpl_Fork).own w F1 x.Fork_ c1) (h2 : (eList (eVal (Value.int .i64) (fun _ => rfl)) 3).own w F2 x.Kids_ c2) (h3 : (eVal (Value.int .i64) (fun _ => rfl)).own w F3 x.Miss_ c3) (h4 : (eTimpl_Stats).own w F4 x.Stats_ c4) (h5 : (eVal (Value.int .i64) (fun _ => rfl)).own w F5 x.Since_ c5) (h6 : (eList (eVal (Value.int .i64) (fun _ => rfl)) 3).own w F6 x.Attrs_ c6) (h7 : (eVal (Value.int .i64) (fun _ => rfl)).own w F7 x.Depth_ c7) (h8 : (eVal (Value.int .i64) (fun _ => rfl)).own w F8 x.Up_ c8) (h9 : (eVal (Value.int .i64) (fun _ => rfl)).own w F9 x.Born_ c9) : (eTimpl_Node).own w (F0 ++ (F1 ++ (F2 ++ (F3 ++ (F4 ++ (F5 ++ (F6 ++ (F7 ++ (F8 ++ F9))))))))) x (c0 ++ (c1 ++ (c2 ++ (c3 ++ (c4 ++ (c5 ++ (c6 ++ (c7 ++ (c8 ++ c9))))))))) := by
  show (ePair (eBool) (ePair (eTimpl_Fork) (ePair (eList (eVal (Value.int .i64) (fun _ => rfl)) 3) (ePair (eVal (Value.int .i64) (fun _ => rfl)) (ePair (eTimpl_Stats) (ePair (eVal (Value.int .i64) (fun _ => rfl)) (ePair (eList (eVal (Value.int .i64) (fun _ => rfl)) 3) (ePair (eVal (Value.int .i64) (fun _ => rfl)) (ePair (eVal (Value.int .i64) (fun _ => rfl)) (eVal (Value.int .i64) (fun _ => rfl))))))))))).own w _ (x.Leaf_, x.Fork_, x.Kids_, x.Miss_, x.Stats_, x.Since_, x.Attrs_, x.Depth_, x.Up_, x.Born_) _
  exact (ePair_own h0 (ePair_own h1 (ePair_own h2 (ePair_own h3 (ePair_own h4 (ePair_own h5 (ePair_own h6 (ePair_own h7 (ePair_own h8 h9)))))))))

theorem owno_Timpl_Node {w : World} {F : List Nat} {x : Timpl_Node} {cs : List Value} (h : (eTimpl_Node).own w F x cs) : ∃ F0 F1 F2 F3 F4 F5 F6 F7 F8 F9 c0 c1 c2 c3 c4 c5 c6 c7 c8 c9, F = (F0 ++ (F1 ++ (F2 ++ (F3 ++ (F4 ++ (F5 ++ (F6 ++ (F7 ++ (F8 ++ F9))))))))) ∧ cs = (c0 ++ (c1 ++ (c2 ++ (c3 ++ (c4 ++ (c5 ++ (c6 ++ (c7 ++ (c8 ++ c9))))))))) ∧ (eBool).own w F0 x.Leaf_ c0 ∧ (eTimpl_Fork).own w F1 x.Fork_ c1 ∧ (eList (eVal (Value.int .i64) (fun _ => rfl)) 3).own w F2 x.Kids_ c2 ∧ (eVal (Value.int .i64) (fun _ => rfl)).own w F3 x.Miss_ c3 ∧ (eTimpl_Stats).own w F4 x.Stats_ c4 ∧ (eVal (Value.int .i64) (fun _ => rfl)).own w F5 x.Since_ c5 ∧ (eList (eVal (Value.int .i64) (fun _ => rfl)) 3).own w F6 x.Attrs_ c6 ∧ (eVal (Value.int .i64) (fun _ => rfl)).own w F7 x.Depth_ c7 ∧ (eVal (Value.int .i64) (fun _ => rfl)).own w F8 x.Up_ c8 ∧ (eVal (Value.int .i64) (fun _ => rfl)).own w F9 x.Born_ c9 := by
  have h : (ePair (eBool) (ePair (eTimpl_Fork) (ePair (eList (eVal (Value.int .i64) (fun _ => rfl)) 3) (ePair (eVal (Value.int .i64) (fun _ => rfl)) (ePair (eTimpl_Stats) (ePair (eVal (Value.int .i64) (fun _ => rfl)) (ePair (eList (eVal (Value.int .i64) (fun _ => rfl)) 3) (ePair (eVal (Value.int .i64) (fun _ => rfl)) (ePair (eVal (Value.int .i64) (fun _ => rfl)) (eVal (Value.int .i64) (fun _ => rfl))))))))))).own w F (x.Leaf_, x.Fork_, x.Kids_, x.Miss_, x.Stats_, x.Since_, x.Attrs_, x.Depth_, x.Up_, x.Born_) cs := h
  obtain ⟨F0, G0, c0, d0, rfl, rfl, h0, r0⟩ := h
  obtain ⟨F1, G1, c1, d1, rfl, rfl, h1, r1⟩ := r0
  obtain ⟨F2, G2, c2, d2, rfl, rfl, h2, r2⟩ := r1
  obtain ⟨F3, G3, c3, d3, rfl, rfl, h3, r3⟩ := r2
  obtain ⟨F4, G4, c4, d4, rfl, rfl, h4, r4⟩ := r3
  obtain ⟨F5, G5, c5, d5, rfl, rfl, h5, r5⟩ := r4
  obtain ⟨F6, G6, c6, d6, rfl, rfl, h6, r6⟩ := r5
  obtain ⟨F7, G7, c7, d7, rfl, rfl, h7, r7⟩ := r6
  obtain ⟨F8, F9, c8, c9, rfl, rfl, h8, h9⟩ := r7
  exact ⟨F0, F1, F2, F3, F4, F5, F6, F7, F8, F9, c0, c1, c2, c3, c4, c5, c6, c7, c8, c9, rfl, rfl, h0, h1, h2, h3, h4, h5, h6, h7, h8, h9⟩

theorem opn_Timpl_Node {w0 : World} {M : List Nat} {L : List Res} {w : World} {F : List Nat} {x : Timpl_Node} {cs : List Value} {i : Nat} (h : St w0 M L w) (hi : L[i]? = some (Res.own (eTimpl_Node) F x cs)) :
    ∃ (a_1 : Option Addr) (k_1 : Nat) (F_1 : List Nat), ∃ (a_2 : Option Addr) (k_2 : Nat) (F_2 : List Nat), ∃ (a_3 : Option Addr) (k_3 : Nat) (F_3 : List Nat), ∃ (a_4 : Option Addr) (k_4 : Nat) (F_4 : List Nat), cs = [.bool x.Leaf_, .int .i64 x.Fork_.Attr_, .int .i64 x.Fork_.At_, .slice a_1 (x.Kids_).length k_1, .int .i64 x.Miss_, .slice a_2 (x.Stats_.Totals_).length k_2, .slice a_3 (x.Stats_.Cells_).length k_3, .int .i64 x.Since_, .slice a_4 (x.Attrs_).length k_4, .int .i64 x.Depth_, .int .i64 x.Up_, .int .i64 x.Born_] ∧ St w0 M (nilAt L [i] ++ [Res.own (eList (eVal (Value.int .i64) (fun _ => rfl)) 3) F_1 x.Kids_ [.slice a_1 (x.Kids_).length k_1], Res.own (eList (eVal (Value.int .i64) (fun _ => rfl)) 3) F_2 x.Stats_.Totals_ [.slice a_2 (x.Stats_.Totals_).length k_2], Res.own (eList (eList (eVal (Value.int .i64) (fun _ => rfl)) 3) 82) F_3 x.Stats_.Cells_ [.slice a_3 (x.Stats_.Cells_).length k_3], Res.own (eList (eVal (Value.int .i64) (fun _ => rfl)) 3) F_4 x.Attrs_ [.slice a_4 (x.Attrs_).length k_4]]) w := by
  obtain ⟨hok, _, _⟩ := h.one hi
  have hok : (eTimpl_Node).own w F x cs := hok
  obtain ⟨F1_0, F1_1, F1_2, F1_3, F1_4, F1_5, F1_6, F1_7, F1_8, F1_9, c1_0, c1_1, c1_2, c1_3, c1_4, c1_5, c1_6, c1_7, c1_8, c1_9, rfl, rfl, h1_0, h1_1, h1_2, h1_3, h1_4, h1_5, h1_6, h1_7, h1_8, h1_9⟩ := owno_Timpl_Node hok
  obtain ⟨rfl, rfl⟩ : F1_0 = [] ∧ c1_0 = [.bool x.Leaf_] := h1_0
  obtain ⟨rfl, rfl⟩ : F1_1 = [] ∧ c1_1 = [.int .i64 x.Fork_.Attr_, .int .i64 x.Fork_.At_] := h1_1
  obtain ⟨a2, k2, rfl⟩ := own_sl1 h1_2
  obtain ⟨rfl, rfl⟩ : F1_3 = [] ∧ c1_3 = [.int .i64 x.Miss_] := h1_3
  obtain ⟨F3_0, F3_1, c3_0, c3_1, rfl, rfl, h3_0, h3_1⟩ := owno_Timpl_Stats h1_4
  obtain ⟨a4, k4, rfl⟩ := own_sl1 h3_0
  obtain ⟨a5, k5, rfl⟩ := own_sl1 h3_1
  obtain ⟨rfl, rfl⟩ : F1_5 = [] ∧ c1_5 = [.int .i64 x.Since_] := h1_5
  obtain ⟨a6, k6, rfl⟩ := own_sl1 h1_6
  obtain ⟨rfl, rfl⟩ : F1_7 = [] ∧ c1_7 = [.int .i64 x.Depth_] := h1_7
  obtain ⟨rfl, rfl⟩ : F1_8 = [] ∧ c1_8 = [.int .i64 x.Up_] := h1_8
  obtain ⟨rfl, rfl⟩ : F1_9 = [] ∧ c1_9 = [.int .i64 x.Born_] := h1_9
  refine ⟨a2, k2, F1_2, a4, k4, F3_0, a5, k5, F3_1, a6, k6, F1_6, rfl, h.re [i] _ rfl ?_ ?_⟩
  · simp [selR_cons, selR_nil, hi, foot, Res.own]
  · intro s hs; simp only [List.mem_cons, List.not_mem_nil, or_false] at hs; rcases hs with rfl | rfl | rfl | rfl
    · exact h1_2
    · exact h3_0
    · exact h3_1
    · exact h1_6

theorem fus_Timpl_Node {w0 : World} {M : List Nat} {L : List Res} {w : World} {x0 : Bool} {x1 : Int} {x2 : Int} {x3 : List Int} {a3 : Option Addr} {n3 k3 : Nat} {G3 : List Nat} {x4 : Int} {x5 : List Int} {a5 : Option Addr} {n5 k5 : Nat} {G5 : List Nat} {x6 : List (List Int)} {a6 : Option Addr} {n6 k6 : Nat} {G6 : List Nat} {x7 : Int} {x8 : List Int} {a8 : Option Addr} {n8 k8 : Nat} {G8 : List Nat} {x9 : Int} {x10 : Int} {x11 : Int} (idx : List Nat) (h : St w0 M L w) (hs : selR L idx = [Res.own (eList (eVal (Value.int .i64) (fun _ => rfl)) 3) G3 x3 [.slice a3 n3 k3], Res.own (eList (eVal (Value.int .i64) (fun _ => rfl)) 3) G5 x5 [.slice a5 n5 k5], Res.own (eList (eList (eVal (Value.int .i64) (fun _ => rfl)) 3) 82) G6 x6 [.slice a6 n6 k6], Res.own (eList (eVal (Value.int .i64) (fun _ => rfl)) 3) G8 x8 [.slice a8 n8 k8]]) (hn : nodB idx = true) :
    ∃ F, St w0 M (nilAt L idx ++ [Res.own (eTimpl_Node) F (Timpl_Node.mk x0 (Timpl_Fork.mk x1 x2) x3 x4 (Timpl_Stats.mk x5 x6) x7 x8 x9 x10 x11) [.bool x0, .int .i64 x1, .int .i64 x2, .slice a3 n3 k3, .int .i64 x4, .slice a5 n5 k5, .slice a6 n6 k6, .int .i64 x7, .slice a8 n8 k8, .int .i64 x9, .int .i64 x10, .int .i64 x11]]) w := by
  have o0 : (eList (eVal (Value.int .i64) (fun _ => rfl)) 3).own w G3 x3 [.slice a3 n3 k3] := h.ok' (mem_sel (L := L) (is := idx) (by rw [hs]; simp : Res.own (eList (eVal (Value.int .i64) (fun _ => rfl)) 3) G3 x3 [.slice a3 n3 k3] ∈ selR L idx))
  have o1 : (eList (eVal (Value.int .i64) (fun _ => rfl)) 3).own w G5 x5 [.slice a5 n5 k5] := h.ok' (mem_sel (L := L) (is := idx) (by rw [hs]; simp : Res.own (eList (eVal (Value.int .i64) (fun _ => rfl)) 3) G5 x5 [.slice a5 n5 k5] ∈ selR L idx))
  have o2 : (eList (eList (eVal (Value.int .i64) (fun _ => rfl)) 3) 82).own w G6 x6 [.slice a6 n6 k6] := h.ok' (mem_sel (L := L) (is := idx) (by rw [hs]; simp : Res.own (eList (eList (eVal (Value.int .i64) (fun _ => rfl)) 3) 82) G6 x6 [.slice a6 n6 k6] ∈ selR L idx))
  have o3 : (eList (eVal (Value.int .i64) (fun _ => rfl)) 3).own w G8 x8 [.slice a8 n8 k8] := h.ok' (mem_sel (L := L) (is := idx) (by rw [hs]; simp : Res.own (eList (eVal (Value.int .i64) (fun _ => rfl)) 3) G8 x8 [.slice a8 n8 k8] ∈ selR L idx))
  have ho := (ownm_Timpl_Node (x := (Timpl_Node.mk x0 (Timpl_Fork.mk x1 x2) x3 x4 (Timpl_Stats.mk x5 x6) x7 x8 x9 x10 x11)) (⟨rfl, rfl⟩ : (eBool).own w [] _ _) (⟨rfl, rfl⟩ : (eTimpl_Fork).own w [] _ _) o0 (⟨rfl, rfl⟩ : (eVal (Value.int .i64) (fun _ => rfl)).own w [] _ _) (ownm_Timpl_Stats (x := (Timpl_Stats.mk x5 x6)) o1 o2) (⟨rfl, rfl⟩ : (eVal (Value.int .i64) (fun _ => rfl)).own w [] _ _) o3 (⟨rfl, rfl⟩ : (eVal (Value.int .i64) (fun _ => rfl)).own w [] _ _) (⟨rfl, rfl⟩ : (eVal (Value.int .i64) (fun _ => rfl)).own w [] _ _) (⟨rfl, rfl⟩ : (eVal (Value.int .i64) (fun _ => rfl)).own w [] _ _))
  refine ⟨_, h.re idx [Res.own (eTimpl_Node) _ (Timpl_Node.mk x0 (Timpl_Fork.mk x1 x2) x3 x4 (Timpl_Stats.mk x5 x6) x7 x8 x9 x10 x11) [.bool x0, .int .i64 x1, .int .i64 x2, .slice a3 n3 k3, .int .i64 x4, .slice a5 n5 k5, .slice a6 n6 k6, .int .i64 x7, .slice a8 n8 k8, .int .i64 x9, .int .i64 x10, .int .i64 x11]] hn ?_ (fun s hs => by rw [List.mem_singleton.1 hs]; exact ho)⟩
  rw [hs]
  simp [foot, Res.own]

def eTimpl_Tree : Enc Timpl_Tree := eIso (ePair (eList (eTimpl_Node) 133) (eVal (Value.int .i64) (fun _ => rfl))) (fun x => (x.Nodes_, x.Seen_))

theorem rdm_Timpl_Tree {w : World} {X : List Nat} {x : Timpl_Tree} {c0 c1 : List Value} (h0 : (eList (eTimpl_Node) 133).rd w X x.Nodes_ c0) (h1 : (eVal (Value.int .i64) (fun _ => rfl)).rd w X x.Seen_ c1) : (eTimpl_Tree).rd w X x (c0 ++ c1) := by
  show (ePair (eList (eTimpl_Node) 133) (eVal (Value.int .i64) (fun _ => rfl))).rd w X (x.Nodes_, x.Seen_) _
  exact (ePair_rd h0 h1)

theorem rdo_Timpl_Tree {w : World} {X : List Nat} {x : Timpl_Tree} {cs : List Value} (h : (eTimpl_Tree).rd w X x cs) : ∃ c0 c1, cs = (c0 ++ c1) ∧ (eList (eTimpl_Node) 133).rd w X x.Nodes_ c0 ∧ (eVal (Value.int .i64) (fun _ => rfl)).rd w X x.Seen_ c1 := by
  have h : (ePair (eList (eTimpl_Node) 133) (eVal (Value.int .i64) (fun _ => rfl))).rd w X (x.Nodes_, x.Seen_) cs := h
  obtain ⟨c0, c1, rfl, h0, h1⟩ := h
  exact ⟨c0, c1, rfl, h0, h1⟩

theorem ownm_Timpl_Tree {w : World} {F0 F1 : List Nat} {x : Timpl_Tree} {c0 c1 : List Value} (h0 : (eList (eTimpl_Node) 133).own w F0 x.Nodes_ c0) (h1 : (eVal (Value.int .i64) (fun _ => rfl)).own w F1 x.Seen_ c1) : (eTimpl_Tree).own w (F0 ++ F1) x (c0 ++ c1) := by
  show (ePair (eList (eTimpl_Node) 133) (eVal (Value.int .i64) (fun _ => rfl))).own w _ (x.Nodes_, x.Seen_) _
  exact (ePair_own h0 h1)

theorem owno_Timpl_Tree {w : World} {F : List Nat} {x : Timpl_Tree} {cs : List Value} (h : (eTimpl_Tree).own w F x cs) : ∃ F0 F1 c0 c1, F = (F0 ++ F1) ∧ cs = (c0 ++ c1) ∧ (eList (eTimpl_Node) 133).own w F0 x.Nodes_ c0 ∧ (eVal (Value.int .i64) (fun _ => rfl)).own w F1 x.Seen_ c1 := by
  have h : (ePair (eList (eTimpl_Node) 133) (eVal (Value.int .i64) (fun _ => rfl))).own w F (x.Nodes_, x.Seen_) cs := h
  obtain ⟨F0, F1, c0, c1, rfl, rfl, h0, h1⟩ := h
  exact ⟨F0, F1, c0, c1, rfl, rfl, h0, h1⟩

def eTimpl_Window : Enc Timpl_Window := eIso (eList (eList (eVal (Value.int .i64) (fun _ => rfl)) 3) 82) (fun x => x.Rows_)

theorem rdm_Timpl_Window {w : World} {X : List Nat} {x : Timpl_Window} {c0 : List Value} (h0 : (eList (eList (eVal (Value.int .i64) (fun _ => rfl)) 3) 82).rd w X x.Rows_ c0) : (eTimpl_Window).rd w X x c0 := by
  show (eList (eList (eVal (Value.int .i64) (fun _ => rfl)) 3) 82).rd w X x.Rows_ _
  exact h0

theorem rdo_Timpl_Window {w : World} {X : List Nat} {x : Timpl_Window} {cs : List Value} (h : (eTimpl_Window).rd w X x cs) : ∃ c0, cs = c0 ∧ (eList (eList (eVal (Value.int .i64) (fun _ => rfl)) 3) 82).rd w X x.Rows_ c0 := by
  have h : (eList (eList (eVal (Value.int .i64) (fun _ => rfl)) 3) 82).rd w X x.Rows_ cs := h
  exact ⟨cs, rfl, h⟩

theorem ownm_Timpl_Window {w : World} {F0 : List Nat} {x : Timpl_Window} {c0 : List Value} (h0 : (eList (eList (eVal (Value.int .i64) (fun _ => rfl)) 3) 82).own w F0 x.Rows_ c0) : (eTimpl_Window).own w F0 x c0 := by
  show (eList (eList (eVal (Value.int .i64) (fun _ => rfl)) 3) 82).own w _ x.Rows_ _
  exact h0

def eTimpl_Det : Enc Timpl_Det := eIso (ePair (eTimpl_Window) (eTimpl_Window)) (fun x => (x.Warn_, x.Drift_))

theorem rdm_Timpl_Det {w : World} {X : List Nat} {x : Timpl_Det} {c0 c1 : List Value} (h0 : (eTimpl_Window).rd w X x.Warn_ c0) (h1 : (eTimpl_Window).rd w X x.Drift_ c1) : (eTimpl_Det).rd w X x (c0 ++ c1) := by
  show (ePair (eTimpl_Window) (eTimpl_Window)).rd w X (x.Warn_, x.Drift_) _
  exact (ePair_rd h0 h1)

theorem rdo_Timpl_Det {w : World} {X : List Nat} {x : Timpl_Det} {cs : List Value} (h : (eTimpl_Det).rd w X x cs) : ∃ c0 c1, cs = (c0 ++ c1) ∧ (eTimpl_Window).rd w X x.Warn_ c0 ∧ (eTimpl_Window).rd w X x.Drift_ c1 := by
  have h : (ePair (eTimpl_Window) (eTimpl_Window)).rd w X (x.Warn_, x.Drift_) cs := h
  obtain ⟨c0, c1, rfl, h0, h1⟩ := h
  exact ⟨c0, c1, rfl, h0, h1⟩

theorem ownm_Timpl_Det {w : World} {F0 F1 : List Nat} {x : Timpl_Det} {c0 c1 : List Value} (h0 : (eTimpl_Window).own w F0 x.Warn_ c0) (h1 : (eTimpl_Window).own w F1 x.Drift_ c1) : (eTimpl_Det).own w (F0 ++ F1) x (c0 ++ c1) := by
  show (ePair (eTimpl_Window) (eTimpl_Window)).own w _ (x.Warn_, x.Drift_) _
  exact (ePair_own h0 h1)

theorem owno_Timpl_Det {w : World} {F : List Nat} {x : Timpl_Det} {cs : List Value} (h : (eTimpl_Det).own w F x cs) : ∃ F0 F1 c0 c1, F = (F0 ++ F1) ∧ cs = (c0 ++ c1) ∧ (eTimpl_Window).own w F0 x.Warn_ c0 ∧ (eTimpl_Window).own w F1 x.Drift_ c1 := by
  have h : (ePair (eTimpl_Window) (eTimpl_Window)).own w F (x.Warn_, x.Drift_) cs := h
  obtain ⟨F0, F1, c0, c1, rfl, rfl, h0, h1⟩ := h
  exact ⟨F0, F1, c0, c1, rfl, rfl, h0, h1⟩

def eTimpl_Member : Enc Timpl_Member := eIso (ePair (eTimpl_Tree) (ePair (eBool) (ePair (eTimpl_Tree) (eTimpl_Det)))) (fun x => (x.Tree_, x.HasYoung_, x.Young_, x.Det_))

theorem rdm_Timpl_Member {w : World} {X : List Nat} {x : Timpl_Member} {c0 c1 c2 c3 : List Value} (h0 : (eTimpl_Tree).rd w X x.Tree_ c0) (h1 : (eBool).rd w X x.HasYoung_ c1) (h2 : (eTimpl_Tree).rd w X x.Young_ c2) (h3 : (eTimpl_Det).rd w X x.Det_ c3) : (eTimpl_Member).rd w X x (c0 ++ (c1 ++ (c2 ++ c3))) := by
  show (ePair (eTimpl_Tree) (ePair (eBool) (ePair (eTimpl_Tree) (eTimpl_Det)))).rd w X (x.Tree_, x.HasYoung_, x.Young_, x.Det_) _
  exact (ePair_rd h0 (ePair_rd h1 (ePair_rd h2 h3)))

theorem rdo_Timpl_Member {w : World} {X : List Nat} {x : Timpl_Member} {cs : List Value} (h : (eTimpl_Member).rd w X x cs) : ∃ c0 c1 c2 c3, cs = (c0 ++ (c1 ++ (c2 ++ c3))) ∧ (eTimpl_Tree).rd w X x.Tree_ c0 ∧ (eBool).rd w X x.HasYoung_ c1 ∧ (eTimpl_Tree).rd w X x.Young_ c2 ∧ (eTimpl_Det).rd w X x.Det_ c3 := by
  have h : (ePair (eTimpl_Tree) (ePair (eBool) (ePair (eTimpl_Tree) (eTimpl_Det)))).rd w X (x.Tree_, x.HasYoung_, x.Young_, x.Det_) cs := h
  obtain ⟨c0, d0, rfl, h0, r0⟩ := h
  obtain ⟨c1, d1, rfl, h1, r1⟩ := r0
  obtain ⟨c2, c3, rfl, h2, h3⟩ := r1
  exact ⟨c0, c1, c2, c3, rfl, h0, h1, h2, h3⟩

theorem ownm_Timpl_Member {w : World} {F0 F1 F2 F3 : List Nat} {x : Timpl_Member} {c0 c1 c2 c3 : List Value} (h0 : (eTimpl_Tree).own w F0 x.Tree_ c0) (h1 : (eBool).own w F1 x.HasYoung_ c1) (h2 : (eTimpl_Tree).own w F2 x.Young_ c2) (h3 : (eTimpl_Det).own w F3 x.Det_ c3) : (eTimpl_Member).own w (F0 ++ (F1 ++ (F2 ++ F3))) x (c0 ++ (c1 ++ (c2 ++ c3))) := by
  show (ePair (eTimpl_Tree) (ePair (eBool) (ePair (eTimpl_Tree) (eTimpl_Det)))).own w _ (x.Tree_, x.HasYoung_, x.Young_, x.Det_) _
  exact (ePair_own h0 (ePair_own h1 (ePair_own h2 h3)))

theorem owno_Timpl_Member {w : World} {F : List Nat} {x : Timpl_Member} {cs : List Value} (h : (eTimpl_Member).own w F x cs) : ∃ F0 F1 F2 F3 c0 c1 c2 c3, F = (F0 ++ (F1 ++ (F2 ++ F3))) ∧ cs = (c0 ++ (c1 ++ (c2 ++ c3))) ∧ (eTimpl_Tree).own w F0 x.Tree_ c0 ∧ (eBool).own w F1 x.HasYoung_ c1 ∧ (eTimpl_Tree).own w F2 x.Young_ c2 ∧ (eTimpl_Det).own w F3 x.Det_ c3 := by
  have h : (ePair (eTimpl_Tree) (ePair (eBool) (ePair (eTimpl_Tree) (eTimpl_Det)))).own w F (x.Tree_, x.HasYoung_, x.Young_, x.Det_) cs := h
  obtain ⟨F0, G0, c0, d0, rfl, rfl, h0, r0⟩ := h
  obtain ⟨F1, G1, c1, d1, rfl, rfl, h1, r1⟩ := r0
  obtain ⟨F2, F3, c2, c3, rfl, rfl, h2, h3⟩ := r1
  exact ⟨F0, F1, F2, F3, c0, c1, c2, c3, rfl, rfl, h0, h1, h2, h3⟩

theorem opn_Timpl_Member {w0 : World} {M : List Nat} {L : List Res} {w : World} {F : List Nat} {x : Timpl_Member} {cs : List Value} {i : Nat} (h : St w0 M L w) (hi : L[i]? = some (Res.own (eTimpl_Member) F x cs)) :
    ∃ (a_1 : Option Addr) (k_1 : Nat) (F_1 : List Nat), ∃ (a_2 : Option Addr) (k_2 : Nat) (F_2 : List Nat), ∃ (a_3 : Option Addr) (k_3 : Nat) (F_3 : List Nat), ∃ (a_4 : Option Addr) (k_4 : Nat) (F_4 : List Nat), cs = [.slice a_1 (x.Tree_.Nodes_).length k_1, .int .i64 x.Tree_.Seen_, .bool x.HasYoung_, .slice a_2 (x.Young_.Nodes_).length k_2, .int .i64 x.Young_.Seen_, .slice a_3 (x.Det_.Warn_.Rows_).length k_3, .slice a_4 (x.Det_.Drift_.Rows_).length k_4] ∧ St w0 M (nilAt L [i] ++ [Res.own (eList (eTimpl_Node) 133) F_1 x.Tree_.Nodes_ [.slice a_1 (x.Tree_.Nodes_).length k_1], Res.own (eList (eTimpl_Node) 133) F_2 x.Young_.Nodes_ [.slice a_2 (x.Young_.Nodes_).length k_2], Res.own (eList (eList (eVal (Value.int .i64) (fun _ => rfl)) 3) 82) F_3 x.Det_.Warn_.Rows_ [.slice a_3 (x.Det_.Warn_.Rows_).length k_3], Res.own (eList (eList (eVal (Value.int .i64) (fun _ => rfl)) 3) 82) F_4 x.Det_.Drift_.Rows_ [.slice a_4 (x.Det_.Drift_.Rows_).length k_4]]) w := by
  obtain ⟨hok, _, _⟩ := h.one hi
  have hok : (eTimpl_Member).own w F x cs := hok
  obtain ⟨F1_0, F1_1, F1_2, F1_3, c1_0, c1_1, c1_2, c1_3, rfl, rfl, h1_0, h1_1, h1_2, h1_3⟩ := owno_Timpl_Member hok
  obtain ⟨F2_0, F2_1, c2_0, c2_1, rfl, rfl, h2_0, h2_1⟩ := owno_Timpl_Tree h1_0
  obtain ⟨a3, k3, rfl⟩ := own_sl1 h2_0
  obtain ⟨rfl, rfl⟩ : F2_1 = [] ∧ c2_1 = [.int .i64 x.Tree_.Seen_] := h2_1
  obtain ⟨rfl, rfl⟩ : F1_1 = [] ∧ c1_1 = [.bool x.HasYoung_] := h1_1
  obtain ⟨F4_0, F4_1, c4_0, c4_1, rfl, rfl, h4_0, h4_1⟩ := owno_Timpl_Tree h1_2
  obtain ⟨a5, k5, rfl⟩ := own_sl1 h4_0
  obtain ⟨rfl, rfl⟩ : F4_1 = [] ∧ c4_1 = [.int .i64 x.Young_.Seen_] := h4_1
  obtain ⟨F6_0, F6_1, c6_0, c6_1, rfl, rfl, h6_0, h6_1⟩ := owno_Timpl_Det h1_3
  have h7_0 : (eList (eList (eVal (Value.int .i64) (fun _ => rfl)) 3) 82).own w F6_0 (x.Det_.Warn_.Rows_) c6_0 := h6_0
  obtain ⟨a8, k8, rfl⟩ := own_sl1 h7_0
  have h9_0 : (eList (eList (eVal (Value.int .i64) (fun _ => rfl)) 3) 82).own w F6_1 (x.Det_.Drift_.Rows_) c6_1 := h6_1
  obtain ⟨a10, k10, rfl⟩ := own_sl1 h9_0
  refine ⟨a3, k3, F2_0, a5, k5, F4_0, a8, k8, F6_0, a10, k10, F6_1, rfl, h.re [i] _ rfl ?_ ?_⟩
  · simp [selR_cons, selR_nil, hi, foot, Res.own]
  · intro s hs; simp only [List.mem_cons, List.not_mem_nil, or_false] at hs; rcases hs with rfl | rfl | rfl | rfl
    · exact h2_0
    · exact h4_0
    · exact h7_0
    · exact h9_0

theorem fus_Timpl_Member {w0 : World} {M : List Nat} {L : List Res} {w : World} {x0 : List Timpl_Node} {a0 : Option Addr} {n0 k0 : Nat} {G0 : List Nat} {x1 : Int} {x2 : Bool} {x3 : List Timpl_Node} {a3 : Option Addr} {n3 k3 : Nat} {G3 : List Nat} {x4 : Int} {x5 : List (List Int)} {a5 : Option Addr} {n5 k5 : Nat} {G5 : List Nat} {x6 : List (List Int)} {a6 : Option Addr} {n6 k6 : Nat} {G6 : List Nat} (idx : List Nat) (h : St w0 M L w) (hs : selR L idx = [Res.own (eList (eTimpl_Node) 133) G0 x0 [.slice a0 n0 k0], Res.own (eList (eTimpl_Node) 133) G3 x3 [.slice a3 n3 k3], Res.own (eList (eList (eVal (Value.int .i64) (fun _ => rfl)) 3) 82) G5 x5 [.slice a5 n5 k5], Res.own (eList (eList (eVal (Value.int .i64) (fun _ => rfl)) 3) 82) G6 x6 [.slice a6 n6 k6]]) (hn : nodB idx = true) :
    ∃ F, St w0 M (nilAt L idx ++ [Res.own (eTimpl_Member) F (Timpl_Member.mk (Timpl_Tree.mk x0 x1) x2 (Timpl_Tree.mk x3 x4) (Timpl_Det.mk (Timpl_Window.mk x5) (Timpl_Window.mk x6))) [.slice a0 n0 k0, .int .i64 x1, .bool x2, .slice a3 n3 k3, .int .i64 x4, .slice a5 n5 k5, .slice a6 n6 k6]]) w := by
  have o0 : (eList (eTimpl_Node) 133).own w G0 x0 [.slice a0 n0 k0] := h.ok' (mem_sel (L := L) (is := idx) (by rw [hs]; simp : Res.own (eList (eTimpl_Node) 133) G0 x0 [.slice a0 n0 k0] ∈ selR L idx))
  have o1 : (eList (eTimpl_Node) 133).own w G3 x3 [.slice a3 n3 k3] := h.ok' (mem_sel (L := L) (is := idx) (by rw [hs]; simp : Res.own (eList (eTimpl_Node) 133) G3 x3 [.slice a3 n3 k3] ∈ selR L idx))
  have o2 : (eList (eList (eVal (Value.int .i64) (fun _ => rfl)) 3) 82).own w G5 x5 [.slice a5 n5 k5] := h.ok' (mem_sel (L := L) (is := idx) (by rw [hs]; simp : Res.own (eList (eList (eVal (Value.int .i64) (fun _ => rfl)) 3) 82) G5 x5 [.slice a5 n5 k5] ∈ selR L idx))
  have o3 : (eList (eList (eVal (Value.int .i64) (fun _ => rfl)) 3) 82).own w G6 x6 [.slice a6 n6 k6] := h.ok' (mem_sel (L := L) (is := idx) (by rw [hs]; simp : Res.own (eList (eList (eVal (Value.int .i64) (fun _ => rfl)) 3) 82) G6 x6 [.slice a6 n6 k6] ∈ selR L idx))
  have ho := (ownm_Timpl_Member (x := (Timpl_Member.mk (Timpl_Tree.mk x0 x1) x2 (Timpl_Tree.mk x3 x4) (Timpl_Det.mk (Timpl_Window.mk x5) (Timpl_Window.mk x6)))) (ownm_Timpl_Tree (x := (Timpl_Tree.mk x0 x1)) o0 (⟨rfl, rfl⟩ : (eVal (Value.int .i64) (fun _ => rfl)).own w [] _ _)) (⟨rfl, rfl⟩ : (eBool).own w [] _ _) (ownm_Timpl_Tree (x := (Timpl_Tree.mk x3 x4)) o1 (⟨rfl, rfl⟩ : (eVal (Value.int .i64) (fun _ => rfl)).own w [] _ _)) (ownm_Timpl_Det (x := (Timpl_Det.mk (Timpl_Window.mk x5) (Timpl_Window.mk x6))) (ownm_Timpl_Window (x := (Timpl_Window.mk x5)) o2) (ownm_Timpl_Window (x := (Timpl_Window.mk x6)) o3)))
  refine ⟨_, h.re idx [Res.own (eTimpl_Member) _ (Timpl_Member.mk (Timpl_Tree.mk x0 x1) x2 (Timpl_Tree.mk x3 x4) (Timpl_Det.mk (Timpl_Window.mk x5) (Timpl_Window.mk x6))) [.slice a0 n0 k0, .int .i64 x1, .bool x2, .slice a3 n3 k3, .int .i64 x4, .slice a5 n5 k5, .slice a6 n6 k6]] hn ?_ (fun s hs => by rw [List.mem_singleton.1 hs]; exact ho)⟩
  rw [hs]
  simp [foot, Res.own]

def eTimpl_Pair : Enc Timpl_Pair := eFlat (fun x => [.int .i64 x.Truth_, .int .i64 x.Said_]) 2 (fun _ => rfl) (by intro x u hu; simp only [List.mem_cons, List.not_mem_nil, or_false] at hu; rcases hu with rfl | rfl <;> rfl)

def eTimpl_Schema : Enc Timpl_Schema := eIso (ePair (eList (eTimpl_Attr) 109) (eList (eStr) 9)) (fun x => (x.Attrs_, x.Classes_))

theorem rdm_Timpl_Schema {w : World} {X : List Nat} {x : Timpl_Schema} {c0 c1 : List Value} (h0 : (eList (eTimpl_Attr) 109).rd w X x.Attrs_ c0) (h1 : (eList (eStr) 9).rd w X x.Classes_ c1) : (eTimpl_Schema).rd w X x (c0 ++ c1) := by
  show (ePair (eList (eTimpl_Attr) 109) (eList (eStr) 9)).rd w X (x.Attrs_, x.Classes_) _
  exact (ePair_rd h0 h1)

theorem rdo_Timpl_Schema {w : World} {X : List Nat} {x : Timpl_Schema} {cs : List Value} (h : (eTimpl_Schema).rd w X x cs) : ∃ c0 c1, cs = (c0 ++ c1) ∧ (eList (eTimpl_Attr) 109).rd w X x.Attrs_ c0 ∧ (eList (eStr) 9).rd w X x.Classes_ c1 := by
  have h : (ePair (eList (eTimpl_Attr) 109) (eList (eStr) 9)).rd w X (x.Attrs_, x.Classes_) cs := h
  obtain ⟨c0, c1, rfl, h0, h1⟩ := h
  exact ⟨c0, c1, rfl, h0, h1⟩

def eTimpl_Rule : Enc Timpl_Rule := eFlat (fun x => [.int .i64 x.Sure_, .int .i64 x.Tie_, .int .i64 x.Grace_, .int .i64 x.Depth_, .int .i64 x.Nodes_, .int .i64 x.Units_, .bool x.Two_]) 7 (fun _ => rfl) (by intro x u hu; simp only [List.mem_cons, List.not_mem_nil, or_false] at hu; rcases hu with rfl | rfl | rfl | rfl | rfl | rfl | rfl <;> rfl)

def eTimpl_Conf : Enc Timpl_Conf := eIso (ePair (eTimpl_Schema) (ePair (eTimpl_Rule) (ePair (eVal (Value.int .i64) (fun _ => rfl)) (ePair (eVal (Value.int .i64) (fun _ => rfl)) (ePair (eVal (Value.int .i64) (fun _ => rfl)) (ePair (eVal (Value.int .i64) (fun _ => rfl)) (eVal (Value.int .i64) (fun _ => rfl)))))))) (fun x => (x.Schema_, x.Rule_, x.Members_, x.Pick_, x.Lambda_, x.Warn_, x.Drift_))

theorem rdm_Timpl_Conf {w : World} {X : List Nat} {x : Timpl_Conf} {c0 c1 c2 c3 c4 c5 c6 : List Value} (h0 : (eTimpl_Schema).rd w X x.Schema_ c0) (h1 : (eTimpl_Rule).rd w X x.Rule_ c1) (h2 : (eVal (Value.int .i64) (fun _ => rfl)).rd w X x.Members_ c2) (h3 : (eVal (Value.int .i64) (fun _ => rfl)).rd w X x.Pick_ c3) (h4 : (eVal (Value.int .i64) (fun _ => rfl)).rd w X x.Lambda_ c4) (h5 : (eVal (Value.int .i64) (fun _ => rfl)).rd w X x.Warn_ c5) (h6 : (eVal (Value.int .i64) (fun _ => rfl)).rd w X x.Drift_ c6) : (eTimpl_Conf).rd w X x (c0 ++ (c1 ++ (c2 ++ (c3 ++ (c4 ++ (c5 ++ c6)))))) := by
  show (ePair (eTimpl_Schema) (ePair (eTimpl_Rule) (ePair (eVal (Value.int .i64) (fun _ => rfl)) (ePair (eVal (Value.int .i64) (fun _ => rfl)) (ePair (eVal (Value.int .i64) (fun _ => rfl)) (ePair (eVal (Value.int .i64) (fun _ => rfl)) (eVal (Value.int .i64) (fun _ => rfl)))))))).rd w X (x.Schema_, x.Rule_, x.Members_, x.Pick_, x.Lambda_, x.Warn_, x.Drift_) _
  exact (ePair_rd h0 (ePair_rd h1 (ePair_rd h2 (ePair_rd h3 (ePair_rd h4 (ePair_rd h5 h6))))))

theorem rdo_Timpl_Conf {w : World} {X : List Nat} {x : Timpl_Conf} {cs : List Value} (h : (eTimpl_Conf).rd w X x cs) : ∃ c0 c1 c2 c3 c4 c5 c6, cs = (c0 ++ (c1 ++ (c2 ++ (c3 ++ (c4 ++ (c5 ++ c6)))))) ∧ (eTimpl_Schema).rd w X x.Schema_ c0 ∧ (eTimpl_Rule).rd w X x.Rule_ c1 ∧ (eVal (Value.int .i64) (fun _ => rfl)).rd w X x.Members_ c2 ∧ (eVal (Value.int .i64) (fun _ => rfl)).rd w X x.Pick_ c3 ∧ (eVal (Value.int .i64) (fun _ => rfl)).rd w X x.Lambda_ c4 ∧ (eVal (Value.int .i64) (fun _ => rfl)).rd w X x.Warn_ c5 ∧ (eVal (Value.int .i64) (fun _ => rfl)).rd w X x.Drift_ c6 := by
  have h : (ePair (eTimpl_Schema) (ePair (eTimpl_Rule) (ePair (eVal (Value.int .i64) (fun _ => rfl)) (ePair (eVal (Value.int .i64) (fun _ => rfl)) (ePair (eVal (Value.int .i64) (fun _ => rfl)) (ePair (eVal (Value.int .i64) (fun _ => rfl)) (eVal (Value.int .i64) (fun _ => rfl)))))))).rd w X (x.Schema_, x.Rule_, x.Members_, x.Pick_, x.Lambda_, x.Warn_, x.Drift_) cs := h
  obtain ⟨c0, d0, rfl, h0, r0⟩ := h
  obtain ⟨c1, d1, rfl, h1, r1⟩ := r0
  obtain ⟨c2, d2, rfl, h2, r2⟩ := r1
  obtain ⟨c3, d3, rfl, h3, r3⟩ := r2
  obtain ⟨c4, d4, rfl, h4, r4⟩ := r3
  obtain ⟨c5, c6, rfl, h5, h6⟩ := r4
  exact ⟨c0, c1, c2, c3, c4, c5, c6, rfl, h0, h1, h2, h3, h4, h5, h6⟩

def eTimpl_Forest : Enc Timpl_Forest := eIso (eList (eTimpl_Member) 80) (fun x => x.Members_)

theorem rdm_Timpl_Forest {w : World} {X : List Nat} {x : Timpl_Forest} {c0 : List Value} (h0 : (eList (eTimpl_Member) 80).rd w X x.Members_ c0) : (eTimpl_Forest).rd w X x c0 := by
  show (eList (eTimpl_Member) 80).rd w X x.Members_ _
  exact h0

theorem rdo_Timpl_Forest {w : World} {X : List Nat} {x : Timpl_Forest} {cs : List Value} (h : (eTimpl_Forest).rd w X x cs) : ∃ c0, cs = c0 ∧ (eList (eTimpl_Member) 80).rd w X x.Members_ c0 := by
  have h : (eList (eTimpl_Member) 80).rd w X x.Members_ cs := h
  exact ⟨cs, rfl, h⟩

def eTimpl_Score : Enc Timpl_Score := eIso (ePair (eList (eList (eVal (Value.int .i64) (fun _ => rfl)) 3) 82) (eList (eTimpl_Pair) 84)) (fun x => (x.Table_, x.Last_))

theorem rdm_Timpl_Score {w : World} {X : List Nat} {x : Timpl_Score} {c0 c1 : List Value} (h0 : (eList (eList (eVal (Value.int .i64) (fun _ => rfl)) 3) 82).rd w X x.Table_ c0) (h1 : (eList (eTimpl_Pair) 84).rd w X x.Last_ c1) : (eTimpl_Score).rd w X x (c0 ++ c1) := by
  show (ePair (eList (eList (eVal (Value.int .i64) (fun _ => rfl)) 3) 82) (eList (eTimpl_Pair) 84)).rd w X (x.Table_, x.Last_) _
  exact (ePair_rd h0 h1)

theorem rdo_Timpl_Score {w : World} {X : List Nat} {x : Timpl_Score} {cs : List Value} (h : (eTimpl_Score).rd w X x cs) : ∃ c0 c1, cs = (c0 ++ c1) ∧ (eList (eList (eVal (Value.int .i64) (fun _ => rfl)) 3) 82).rd w X x.Table_ c0 ∧ (eList (eTimpl_Pair) 84).rd w X x.Last_ c1 := by
  have h : (ePair (eList (eList (eVal (Value.int .i64) (fun _ => rfl)) 3) 82) (eList (eTimpl_Pair) 84)).rd w X (x.Table_, x.Last_) cs := h
  obtain ⟨c0, c1, rfl, h0, h1⟩ := h
  exact ⟨c0, c1, rfl, h0, h1⟩

def eTimpl_State : Enc Timpl_State := eIso (ePair (eTimpl_Conf) (ePair (eTimpl_Forest) (eTimpl_Score))) (fun x => (x.Conf_, x.Forest_, x.Score_))

theorem rdm_Timpl_State {w : World} {X : List Nat} {x : Timpl_State} {c0 c1 c2 : List Value} (h0 : (eTimpl_Conf).rd w X x.Conf_ c0) (h1 : (eTimpl_Forest).rd w X x.Forest_ c1) (h2 : (eTimpl_Score).rd w X x.Score_ c2) : (eTimpl_State).rd w X x (c0 ++ (c1 ++ c2)) := by
  show (ePair (eTimpl_Conf) (ePair (eTimpl_Forest) (eTimpl_Score))).rd w X (x.Conf_, x.Forest_, x.Score_) _
  exact (ePair_rd h0 (ePair_rd h1 h2))

theorem rdo_Timpl_State {w : World} {X : List Nat} {x : Timpl_State} {cs : List Value} (h : (eTimpl_State).rd w X x cs) : ∃ c0 c1 c2, cs = (c0 ++ (c1 ++ c2)) ∧ (eTimpl_Conf).rd w X x.Conf_ c0 ∧ (eTimpl_Forest).rd w X x.Forest_ c1 ∧ (eTimpl_Score).rd w X x.Score_ c2 := by
  have h : (ePair (eTimpl_Conf) (ePair (eTimpl_Forest) (eTimpl_Score))).rd w X (x.Conf_, x.Forest_, x.Score_) cs := h
  obtain ⟨c0, d0, rfl, h0, r0⟩ := h
  obtain ⟨c1, c2, rfl, h1, h2⟩ := r0
  exact ⟨c0, c1, c2, rfl, h0, h1, h2⟩

theorem sl82 : isSl Try.prog 82 3 := isSl_of (by kernel_rfl)

theorem sl23 : isSl Try.prog 23 9 := isSl_of (by kernel_rfl)

theorem ty9 : isTy Try.prog 9 false 1 16 [vS []] := isTy_of (by kernel_rfl)

theorem st9 : isStr Try.prog 9 := isStr_of (by kernel_rfl)

theorem fa124_0 : isFa Try.prog 124 0 0 := isFa_of (by kernel_rfl)

theorem fa124_1 : isFa Try.prog 124 1 1 := isFa_of (by kernel_rfl)

theorem ty82 : isTy Try.prog 82 false 1 24 [.slice none 0 0] := isTy_of (by kernel_rfl)

set_option maxRecDepth 100000 in
theorem fn49 : isFn Try.prog 49 := ⟨Try.f49, Try.func49, rfl, by decide⟩

theorem fa124_2 : isFa Try.prog 124 2 2 := isFa_of (by kernel_rfl)

theorem ty23 : isTy Try.prog 23 false 1 24 [.slice none 0 0] := isTy_of (by kernel_rfl)

set_option maxRecDepth 100000 in
theorem fn47 : isFn Try.prog 47 := ⟨Try.f47, Try.func47, rfl, by decide⟩

theorem sl22 : isSl Try.prog 22 124 := isSl_of (by kernel_rfl)

theorem ty124 : isTy Try.prog 124 true 3 64 [vS [], .slice none 0 0, .slice none 0 0] := isTy_of (by kernel_rfl)

set_option maxRecDepth 100000 in
theorem fn71 : isFn Try.prog 71 := ⟨Try.f71, Try.func71, rfl, by decide⟩

theorem fa25_0 : isFa Try.prog 25 0 0 := isFa_of (by kernel_rfl)

theorem ty22 : isTy Try.prog 22 false 1 24 [.slice none 0 0] := isTy_of (by kernel_rfl)

set_option maxRecDepth 100000 in
theorem fn46 : isFn Try.prog 46 := ⟨Try.f46, Try.func46, rfl, by decide⟩

theorem fa25_1 : isFa Try.prog 25 1 1 := isFa_of (by kernel_rfl)

theorem fa29_0 : isFa Try.prog 29 0 0 := isFa_of (by kernel_rfl)

theorem ty25 : isTy Try.prog 25 true 2 48 [.slice none 0 0, .slice none 0 0] := isTy_of (by kernel_rfl)

set_option maxRecDepth 100000 in
theorem fn24 : isFn Try.prog 24 := ⟨Try.f24, Try.func24, rfl, by decide⟩

theorem sl33 : isSl Try.prog 33 82 := isSl_of (by kernel_rfl)

theorem fa147_0 : isFa Try.prog 147 0 0 := isFa_of (by kernel_rfl)

theorem fa147_1 : isFa Try.prog 147 1 1 := isFa_of (by kernel_rfl)

theorem ty33 : isTy Try.prog 33 false 1 24 [.slice none 0 0] := isTy_of (by kernel_rfl)

set_option maxRecDepth 100000 in
theorem fn26 : isFn Try.prog 26 := ⟨Try.f26, Try.func26, rfl, by decide⟩

theorem fa149_2 : isFa Try.prog 149 2 3 := isFa_of (by kernel_rfl)

theorem fa149_4 : isFa Try.prog 149 4 5 := isFa_of (by kernel_rfl)

theorem ty147 : isTy Try.prog 147 true 2 48 [.slice none 0 0, .slice none 0 0] := isTy_of (by kernel_rfl)

set_option maxRecDepth 100000 in
theorem fn96 : isFn Try.prog 96 := ⟨Try.f96, Try.func96, rfl, by decide⟩

theorem fa149_6 : isFa Try.prog 149 6 8 := isFa_of (by kernel_rfl)

theorem sl98 : isSl Try.prog 98 149 := isSl_of (by kernel_rfl)

theorem ty149 : isTy Try.prog 149 true 12 160 [.bool false, .int .i64 0, .int .i64 0, .slice none 0 0, .int .i64 0, .slice none 0 0, .slice none 0 0, .int .i64 0, .slice none 0 0, .int .i64 0, .int .i64 0, .int .i64 0] := isTy_of (by kernel_rfl)

set_option maxRecDepth 100000 in
theorem fn93 : isFn Try.prog 93 := ⟨Try.f93, Try.func93, rfl, by decide⟩

theorem fa100_0 : isFa Try.prog 100 0 0 := isFa_of (by kernel_rfl)

theorem ty98 : isTy Try.prog 98 false 1 24 [.slice none 0 0] := isTy_of (by kernel_rfl)

set_option maxRecDepth 100000 in
theorem fn85 : isFn Try.prog 85 := ⟨Try.f85, Try.func85, rfl, by decide⟩

theorem fa101_0 : isFa Try.prog 101 0 0 := isFa_of (by kernel_rfl)

theorem fa103_0 : isFa Try.prog 103 0 0 := isFa_of (by kernel_rfl)

theorem ty101 : isTy Try.prog 101 true 1 24 [.slice none 0 0] := isTy_of (by kernel_rfl)

set_option maxRecDepth 100000 in
theorem fn86 : isFn Try.prog 86 := ⟨Try.f86, Try.func86, rfl, by decide⟩

theorem fa103_1 : isFa Try.prog 103 1 1 := isFa_of (by kernel_rfl)

theorem fa105_0 : isFa Try.prog 105 0 0 := isFa_of (by kernel_rfl)

theorem ty100 : isTy Try.prog 100 true 2 32 [.slice none 0 0, .int .i64 0] := isTy_of (by kernel_rfl)

set_option maxRecDepth 100000 in
theorem fn72 : isFn Try.prog 72 := ⟨Try.f72, Try.func72, rfl, by decide⟩

theorem fa105_2 : isFa Try.prog 105 2 3 := isFa_of (by kernel_rfl)

theorem fa105_3 : isFa Try.prog 105 3 5 := isFa_of (by kernel_rfl)

theorem ty103 : isTy Try.prog 103 true 2 48 [.slice none 0 0, .slice none 0 0] := isTy_of (by kernel_rfl)

set_option maxRecDepth 100000 in
theorem fn73 : isFn Try.prog 73 := ⟨Try.f73, Try.func73, rfl, by decide⟩

theorem sl30 : isSl Try.prog 30 105 := isSl_of (by kernel_rfl)

theorem ty105 : isTy Try.prog 105 true 7 120 [.slice none 0 0, .int .i64 0, .bool false, .slice none 0 0, .int .i64 0, .slice none 0 0, .slice none 0 0] := isTy_of (by kernel_rfl)

set_option maxRecDepth 100000 in
theorem fn48 : isFn Try.prog 48 := ⟨Try.f48, Try.func48, rfl, by decide⟩

theorem fa32_0 : isFa Try.prog 32 0 0 := isFa_of (by kernel_rfl)

theorem ty30 : isTy Try.prog 30 false 1 24 [.slice none 0 0] := isTy_of (by kernel_rfl)

set_option maxRecDepth 100000 in
theorem fn25 : isFn Try.prog 25 := ⟨Try.f25, Try.func25, rfl, by decide⟩

theorem sl34 : isSl Try.prog 34 117 := isSl_of (by kernel_rfl)

theorem fa36_0 : isFa Try.prog 36 0 0 := isFa_of (by kernel_rfl)

theorem fa36_1 : isFa Try.prog 36 1 1 := isFa_of (by kernel_rfl)

theorem ty34 : isTy Try.prog 34 false 1 24 [.slice none 0 0] := isTy_of (by kernel_rfl)

set_option maxRecDepth 100000 in
theorem fn27 : isFn Try.prog 27 := ⟨Try.f27, Try.func27, rfl, by decide⟩

theorem fa38_0 : isFa Try.prog 38 0 0 := isFa_of (by kernel_rfl)

theorem ty29 : isTy Try.prog 29 true 14 144 [.slice none 0 0, .slice none 0 0, .int .i64 0, .int .i64 0, .int .i64 0, .int .i64 0, .int .i64 0, .int .i64 0, .bool false, .int .i64 0, .int .i64 0, .int .i64 0, .int .i64 0, .int .i64 0] := isTy_of (by kernel_rfl)

set_option maxRecDepth 100000 in
theorem fn9 : isFn Try.prog 9 := ⟨Try.f9, Try.func9, rfl, by decide⟩

theorem fa38_1 : isFa Try.prog 38 1 14 := isFa_of (by kernel_rfl)

theorem ty32 : isTy Try.prog 32 true 1 24 [.slice none 0 0] := isTy_of (by kernel_rfl)

set_option maxRecDepth 100000 in
theorem fn10 : isFn Try.prog 10 := ⟨Try.f10, Try.func10, rfl, by decide⟩

theorem fa38_2 : isFa Try.prog 38 2 15 := isFa_of (by kernel_rfl)

theorem ty36 : isTy Try.prog 36 true 2 48 [.slice none 0 0, .slice none 0 0] := isTy_of (by kernel_rfl)

set_option maxRecDepth 100000 in
theorem fn11 : isFn Try.prog 11 := ⟨Try.f11, Try.func11, rfl, by decide⟩

theorem ty3 : isTy Try.prog 3 false 1 8 [.int .i64 0] := isTy_of (by kernel_rfl)

theorem ty109 : isTy Try.prog 109 true 3 64 [vS [], .slice none 0 0, .slice none 0 0] := isTy_of (by kernel_rfl)

theorem fa109_0 : isFa Try.prog 109 0 0 := isFa_of (by kernel_rfl)

set_option maxRecDepth 100000 in
theorem fn56 : isFn Try.prog 56 := ⟨Try.f56, Try.func56, rfl, by decide⟩

theorem fa109_1 : isFa Try.prog 109 1 1 := isFa_of (by kernel_rfl)

set_option maxRecDepth 100000 in
theorem fn54 : isFn Try.prog 54 := ⟨Try.f54, Try.func54, rfl, by decide⟩

theorem fa109_2 : isFa Try.prog 109 2 2 := isFa_of (by kernel_rfl)

theorem sl41 : isSl Try.prog 41 109 := isSl_of (by kernel_rfl)

set_option maxRecDepth 100000 in
theorem fn76 : isFn Try.prog 76 := ⟨Try.f76, Try.func76, rfl, by decide⟩

theorem ty43 : isTy Try.prog 43 true 2 48 [.slice none 0 0, .slice none 0 0] := isTy_of (by kernel_rfl)

set_option maxRecDepth 100000 in
theorem fn53 : isFn Try.prog 53 := ⟨Try.f53, Try.func53, rfl, by decide⟩

theorem fa43_0 : isFa Try.prog 43 0 0 := isFa_of (by kernel_rfl)

theorem ty41 : isTy Try.prog 41 false 1 24 [.slice none 0 0] := isTy_of (by kernel_rfl)

theorem fa43_1 : isFa Try.prog 43 1 1 := isFa_of (by kernel_rfl)

theorem ty44 : isTy Try.prog 44 true 7 56 [.int .i64 0, .int .i64 0, .int .i64 0, .int .i64 0, .int .i64 0, .int .i64 0, .bool false] := isTy_of (by kernel_rfl)

theorem fa27_0 : isFa Try.prog 27 0 0 := isFa_of (by kernel_rfl)

theorem fa44_0 : isFa Try.prog 44 0 0 := isFa_of (by kernel_rfl)

theorem fa27_1 : isFa Try.prog 27 1 1 := isFa_of (by kernel_rfl)

theorem fa44_1 : isFa Try.prog 44 1 1 := isFa_of (by kernel_rfl)

theorem fa27_2 : isFa Try.prog 27 2 2 := isFa_of (by kernel_rfl)

theorem fa44_2 : isFa Try.prog 44 2 2 := isFa_of (by kernel_rfl)

theorem fa27_3 : isFa Try.prog 27 3 3 := isFa_of (by kernel_rfl)

theorem fa44_3 : isFa Try.prog 44 3 3 := isFa_of (by kernel_rfl)

theorem fa27_4 : isFa Try.prog 27 4 4 := isFa_of (by kernel_rfl)

theorem fa44_4 : isFa Try.prog 44 4 4 := isFa_of (by kernel_rfl)

theorem fa27_5 : isFa Try.prog 27 5 5 := isFa_of (by kernel_rfl)

theorem fa44_5 : isFa Try.prog 44 5 5 := isFa_of (by kernel_rfl)

theorem fa27_6 : isFa Try.prog 27 6 6 := isFa_of (by kernel_rfl)

theorem ty4 : isTy Try.prog 4 false 1 1 [.bool false] := isTy_of (by kernel_rfl)

theorem fa44_6 : isFa Try.prog 44 6 6 := isFa_of (by kernel_rfl)

theorem ty46 : isTy Try.prog 46 true 14 144 [.slice none 0 0, .slice none 0 0, .int .i64 0, .int .i64 0, .int .i64 0, .int .i64 0, .int .i64 0, .int .i64 0, .bool false, .int .i64 0, .int .i64 0, .int .i64 0, .int .i64 0, .int .i64 0] := isTy_of (by kernel_rfl)

set_option maxRecDepth 100000 in
theorem fn31 : isFn Try.prog 31 := ⟨Try.f31, Try.func31, rfl, by decide⟩

theorem fa46_0 : isFa Try.prog 46 0 0 := isFa_of (by kernel_rfl)

theorem fa29_1 : isFa Try.prog 29 1 2 := isFa_of (by kernel_rfl)

theorem ty27 : isTy Try.prog 27 true 7 56 [.int .i64 0, .int .i64 0, .int .i64 0, .int .i64 0, .int .i64 0, .int .i64 0, .bool false] := isTy_of (by kernel_rfl)

set_option maxRecDepth 100000 in
theorem fn32 : isFn Try.prog 32 := ⟨Try.f32, Try.func32, rfl, by decide⟩

theorem fa46_1 : isFa Try.prog 46 1 2 := isFa_of (by kernel_rfl)

theorem fa29_2 : isFa Try.prog 29 2 9 := isFa_of (by kernel_rfl)

theorem fa46_2 : isFa Try.prog 46 2 9 := isFa_of (by kernel_rfl)

theorem fa29_3 : isFa Try.prog 29 3 10 := isFa_of (by kernel_rfl)

theorem fa46_3 : isFa Try.prog 46 3 10 := isFa_of (by kernel_rfl)

theorem fa29_4 : isFa Try.prog 29 4 11 := isFa_of (by kernel_rfl)

theorem fa46_4 : isFa Try.prog 46 4 11 := isFa_of (by kernel_rfl)

theorem fa29_5 : isFa Try.prog 29 5 12 := isFa_of (by kernel_rfl)

theorem fa46_5 : isFa Try.prog 46 5 12 := isFa_of (by kernel_rfl)

theorem fa29_6 : isFa Try.prog 29 6 13 := isFa_of (by kernel_rfl)

theorem fa46_6 : isFa Try.prog 46 6 13 := isFa_of (by kernel_rfl)

theorem ty129 : isTy Try.prog 129 true 2 16 [.int .i64 0, .int .i64 0] := isTy_of (by kernel_rfl)

theorem fa146_0 : isFa Try.prog 146 0 0 := isFa_of (by kernel_rfl)

theorem fa129_0 : isFa Try.prog 129 0 0 := isFa_of (by kernel_rfl)

theorem fa146_1 : isFa Try.prog 146 1 1 := isFa_of (by kernel_rfl)

theorem fa129_1 : isFa Try.prog 129 1 1 := isFa_of (by kernel_rfl)

theorem ty131 : isTy Try.prog 131 true 2 48 [.slice none 0 0, .slice none 0 0] := isTy_of (by kernel_rfl)

theorem fa131_0 : isFa Try.prog 131 0 0 := isFa_of (by kernel_rfl)

set_option maxRecDepth 100000 in
theorem fn34 : isFn Try.prog 34 := ⟨Try.f34, Try.func34, rfl, by decide⟩

theorem fa131_1 : isFa Try.prog 131 1 1 := isFa_of (by kernel_rfl)

theorem ty133 : isTy Try.prog 133 true 12 160 [.bool false, .int .i64 0, .int .i64 0, .slice none 0 0, .int .i64 0, .slice none 0 0, .slice none 0 0, .int .i64 0, .slice none 0 0, .int .i64 0, .int .i64 0, .int .i64 0] := isTy_of (by kernel_rfl)

theorem fa149_0 : isFa Try.prog 149 0 0 := isFa_of (by kernel_rfl)

theorem fa133_0 : isFa Try.prog 133 0 0 := isFa_of (by kernel_rfl)

theorem fa149_1 : isFa Try.prog 149 1 1 := isFa_of (by kernel_rfl)

theorem ty146 : isTy Try.prog 146 true 2 16 [.int .i64 0, .int .i64 0] := isTy_of (by kernel_rfl)

set_option maxRecDepth 100000 in
theorem fn97 : isFn Try.prog 97 := ⟨Try.f97, Try.func97, rfl, by decide⟩

theorem fa133_1 : isFa Try.prog 133 1 1 := isFa_of (by kernel_rfl)

theorem fa133_2 : isFa Try.prog 133 2 3 := isFa_of (by kernel_rfl)

theorem fa149_3 : isFa Try.prog 149 3 4 := isFa_of (by kernel_rfl)

theorem fa133_3 : isFa Try.prog 133 3 4 := isFa_of (by kernel_rfl)

set_option maxRecDepth 100000 in
theorem fn98 : isFn Try.prog 98 := ⟨Try.f98, Try.func98, rfl, by decide⟩

theorem fa133_4 : isFa Try.prog 133 4 5 := isFa_of (by kernel_rfl)

theorem fa149_5 : isFa Try.prog 149 5 7 := isFa_of (by kernel_rfl)

theorem fa133_5 : isFa Try.prog 133 5 7 := isFa_of (by kernel_rfl)

theorem fa133_6 : isFa Try.prog 133 6 8 := isFa_of (by kernel_rfl)

theorem fa149_7 : isFa Try.prog 149 7 9 := isFa_of (by kernel_rfl)

theorem fa133_7 : isFa Try.prog 133 7 9 := isFa_of (by kernel_rfl)

theorem fa149_8 : isFa Try.prog 149 8 10 := isFa_of (by kernel_rfl)

theorem fa133_8 : isFa Try.prog 133 8 10 := isFa_of (by kernel_rfl)

theorem fa149_9 : isFa Try.prog 149 9 11 := isFa_of (by kernel_rfl)

theorem fa133_9 : isFa Try.prog 133 9 11 := isFa_of (by kernel_rfl)

theorem sl72 : isSl Try.prog 72 133 := isSl_of (by kernel_rfl)

set_option maxRecDepth 100000 in
theorem fn94 : isFn Try.prog 94 := ⟨Try.f94, Try.func94, rfl, by decide⟩

theorem ty74 : isTy Try.prog 74 true 2 32 [.slice none 0 0, .int .i64 0] := isTy_of (by kernel_rfl)

set_option maxRecDepth 100000 in
theorem fn88 : isFn Try.prog 88 := ⟨Try.f88, Try.func88, rfl, by decide⟩

theorem fa74_0 : isFa Try.prog 74 0 0 := isFa_of (by kernel_rfl)

theorem ty72 : isTy Try.prog 72 false 1 24 [.slice none 0 0] := isTy_of (by kernel_rfl)

theorem fa100_1 : isFa Try.prog 100 1 1 := isFa_of (by kernel_rfl)

theorem fa74_1 : isFa Try.prog 74 1 1 := isFa_of (by kernel_rfl)

theorem ty76 : isTy Try.prog 76 true 1 24 [.slice none 0 0] := isTy_of (by kernel_rfl)

theorem fa76_0 : isFa Try.prog 76 0 0 := isFa_of (by kernel_rfl)

theorem ty78 : isTy Try.prog 78 true 2 48 [.slice none 0 0, .slice none 0 0] := isTy_of (by kernel_rfl)

set_option maxRecDepth 100000 in
theorem fn89 : isFn Try.prog 89 := ⟨Try.f89, Try.func89, rfl, by decide⟩

theorem fa78_0 : isFa Try.prog 78 0 0 := isFa_of (by kernel_rfl)

theorem fa78_1 : isFa Try.prog 78 1 1 := isFa_of (by kernel_rfl)

theorem ty80 : isTy Try.prog 80 true 7 120 [.slice none 0 0, .int .i64 0, .bool false, .slice none 0 0, .int .i64 0, .slice none 0 0, .slice none 0 0] := isTy_of (by kernel_rfl)

set_option maxRecDepth 100000 in
theorem fn77 : isFn Try.prog 77 := ⟨Try.f77, Try.func77, rfl, by decide⟩

theorem fa80_0 : isFa Try.prog 80 0 0 := isFa_of (by kernel_rfl)

theorem fa105_1 : isFa Try.prog 105 1 2 := isFa_of (by kernel_rfl)

theorem fa80_1 : isFa Try.prog 80 1 2 := isFa_of (by kernel_rfl)

theorem fa80_2 : isFa Try.prog 80 2 3 := isFa_of (by kernel_rfl)

set_option maxRecDepth 100000 in
theorem fn78 : isFn Try.prog 78 := ⟨Try.f78, Try.func78, rfl, by decide⟩

theorem fa80_3 : isFa Try.prog 80 3 5 := isFa_of (by kernel_rfl)

theorem sl47 : isSl Try.prog 47 80 := isSl_of (by kernel_rfl)

set_option maxRecDepth 100000 in
theorem fn55 : isFn Try.prog 55 := ⟨Try.f55, Try.func55, rfl, by decide⟩

theorem ty49 : isTy Try.prog 49 true 1 24 [.slice none 0 0] := isTy_of (by kernel_rfl)

set_option maxRecDepth 100000 in
theorem fn33 : isFn Try.prog 33 := ⟨Try.f33, Try.func33, rfl, by decide⟩

theorem fa49_0 : isFa Try.prog 49 0 0 := isFa_of (by kernel_rfl)

theorem ty47 : isTy Try.prog 47 false 1 24 [.slice none 0 0] := isTy_of (by kernel_rfl)

theorem ty84 : isTy Try.prog 84 true 2 16 [.int .i64 0, .int .i64 0] := isTy_of (by kernel_rfl)

theorem fa117_0 : isFa Try.prog 117 0 0 := isFa_of (by kernel_rfl)

theorem fa84_0 : isFa Try.prog 84 0 0 := isFa_of (by kernel_rfl)

theorem fa117_1 : isFa Try.prog 117 1 1 := isFa_of (by kernel_rfl)

theorem fa84_1 : isFa Try.prog 84 1 1 := isFa_of (by kernel_rfl)

theorem sl50 : isSl Try.prog 50 84 := isSl_of (by kernel_rfl)

theorem ty117 : isTy Try.prog 117 true 2 16 [.int .i64 0, .int .i64 0] := isTy_of (by kernel_rfl)

set_option maxRecDepth 100000 in
theorem fn57 : isFn Try.prog 57 := ⟨Try.f57, Try.func57, rfl, by decide⟩

theorem ty52 : isTy Try.prog 52 true 2 48 [.slice none 0 0, .slice none 0 0] := isTy_of (by kernel_rfl)

theorem fa52_0 : isFa Try.prog 52 0 0 := isFa_of (by kernel_rfl)

set_option maxRecDepth 100000 in
theorem fn35 : isFn Try.prog 35 := ⟨Try.f35, Try.func35, rfl, by decide⟩

theorem fa52_1 : isFa Try.prog 52 1 1 := isFa_of (by kernel_rfl)

theorem ty50 : isTy Try.prog 50 false 1 24 [.slice none 0 0] := isTy_of (by kernel_rfl)

theorem ty54 : isTy Try.prog 54 true 17 216 [.slice none 0 0, .slice none 0 0, .int .i64 0, .int .i64 0, .int .i64 0, .int .i64 0, .int .i64 0, .int .i64 0, .bool false, .int .i64 0, .int .i64 0, .int .i64 0, .int .i64 0, .int .i64 0, .slice none 0 0, .slice none 0 0, .slice none 0 0] := isTy_of (by kernel_rfl)

set_option maxRecDepth 100000 in
theorem fn15 : isFn Try.prog 15 := ⟨Try.f15, Try.func15, rfl, by decide⟩

theorem fa54_0 : isFa Try.prog 54 0 0 := isFa_of (by kernel_rfl)

set_option maxRecDepth 100000 in
theorem fn16 : isFn Try.prog 16 := ⟨Try.f16, Try.func16, rfl, by decide⟩

theorem fa54_1 : isFa Try.prog 54 1 14 := isFa_of (by kernel_rfl)

set_option maxRecDepth 100000 in
theorem fn17 : isFn Try.prog 17 := ⟨Try.f17, Try.func17, rfl, by decide⟩

theorem fa54_2 : isFa Try.prog 54 2 15 := isFa_of (by kernel_rfl)

theorem mixed : Try.prog.follows .mixedOrders = true := by kernel_rfl

set_option maxRecDepth 100000 in
theorem fn50 : isFn Try.prog 50 := ⟨Try.f50, Try.func50, rfl, by decide⟩

set_option maxRecDepth 100000 in
theorem fn30 : isFn Try.prog 30 := ⟨Try.f30, Try.func30, rfl, by decide⟩

set_option maxRecDepth 100000 in
theorem fn28 : isFn Try.prog 28 := ⟨Try.f28, Try.func28, rfl, by decide⟩

theorem se44 (a0 b0 : Int) (a1 b1 : Int) (a2 b2 : Int) (a3 b3 : Int) (a4 b4 : Int) (a5 b5 : Int) (a6 b6 : Bool) : eqSB Try.prog 44 [.int .i64 a0, .int .i64 a1, .int .i64 a2, .int .i64 a3, .int .i64 a4, .int .i64 a5, .bool a6] [.int .i64 b0, .int .i64 b1, .int .i64 b2, .int .i64 b3, .int .i64 b4, .int .i64 b5, .bool b6] = some (a0 == b0 && (a1 == b1 && (a2 == b2 && (a3 == b3 && (a4 == b4 && (a5 == b5 && (a6 == b6 && true))))))) := by kernel_rfl

theorem bl4 : isBl Try.prog 4 := isBl_of (by kernel_rfl)

theorem se129 (a0 b0 : Int) (a1 b1 : Int) : eqSB Try.prog 129 [.int .i64 a0, .int .i64 a1] [.int .i64 b0, .int .i64 b1] = some (a0 == b0 && (a1 == b1 && true)) := by kernel_rfl

set_option maxRecDepth 100000 in
theorem fn87 : isFn Try.prog 87 := ⟨Try.f87, Try.func87, rfl, by decide⟩

set_option maxRecDepth 100000 in
theorem fn74 : isFn Try.prog 74 := ⟨Try.f74, Try.func74, rfl, by decide⟩

set_option maxRecDepth 100000 in
theorem fn75 : isFn Try.prog 75 := ⟨Try.f75, Try.func75, rfl, by decide⟩

set_option maxRecDepth 100000 in
theorem fn51 : isFn Try.prog 51 := ⟨Try.f51, Try.func51, rfl, by decide⟩

set_option maxRecDepth 100000 in
theorem fn52 : isFn Try.prog 52 := ⟨Try.f52, Try.func52, rfl, by decide⟩

set_option maxRecDepth 100000 in
theorem fn29 : isFn Try.prog 29 := ⟨Try.f29, Try.func29, rfl, by decide⟩

theorem se84 (a0 b0 : Int) (a1 b1 : Int) : eqSB Try.prog 84 [.int .i64 a0, .int .i64 a1] [.int .i64 b0, .int .i64 b1] = some (a0 == b0 && (a1 == b1 && true)) := by kernel_rfl

set_option maxRecDepth 100000 in
theorem fn12 : isFn Try.prog 12 := ⟨Try.f12, Try.func12, rfl, by decide⟩

set_option maxRecDepth 100000 in
theorem fn13 : isFn Try.prog 13 := ⟨Try.f13, Try.func13, rfl, by decide⟩

set_option maxRecDepth 100000 in
theorem fn14 : isFn Try.prog 14 := ⟨Try.f14, Try.func14, rfl, by decide⟩

set_option maxRecDepth 100000 in
theorem fn61 : isFn Try.prog 61 := ⟨Try.f61, Try.func61, rfl, by decide⟩

set_option maxRecDepth 100000 in
theorem fn58 : isFn Try.prog 58 := ⟨Try.f58, Try.func58, rfl, by decide⟩

set_option maxRecDepth 100000 in
theorem fn60 : isFn Try.prog 60 := ⟨Try.f60, Try.func60, rfl, by decide⟩

set_option maxRecDepth 100000 in
theorem fn59 : isFn Try.prog 59 := ⟨Try.f59, Try.func59, rfl, by decide⟩

set_option maxRecDepth 100000 in
theorem fn36 : isFn Try.prog 36 := ⟨Try.f36, Try.func36, rfl, by decide⟩

set_option maxRecDepth 100000 in
theorem fn65 : isFn Try.prog 65 := ⟨Try.f65, Try.func65, rfl, by decide⟩

set_option maxRecDepth 100000 in
theorem fn64 : isFn Try.prog 64 := ⟨Try.f64, Try.func64, rfl, by decide⟩

set_option maxRecDepth 100000 in
theorem fn39 : isFn Try.prog 39 := ⟨Try.f39, Try.func39, rfl, by decide⟩

set_option maxRecDepth 100000 in
theorem fn90 : isFn Try.prog 90 := ⟨Try.f90, Try.func90, rfl, by decide⟩

set_option maxRecDepth 100000 in
theorem fn80 : isFn Try.prog 80 := ⟨Try.f80, Try.func80, rfl, by decide⟩

set_option maxRecDepth 100000 in
theorem fn79 : isFn Try.prog 79 := ⟨Try.f79, Try.func79, rfl, by decide⟩

set_option maxRecDepth 100000 in
theorem fn81 : isFn Try.prog 81 := ⟨Try.f81, Try.func81, rfl, by decide⟩

set_option maxRecDepth 100000 in
theorem fn62 : isFn Try.prog 62 := ⟨Try.f62, Try.func62, rfl, by decide⟩

set_option maxRecDepth 100000 in
theorem fn63 : isFn Try.prog 63 := ⟨Try.f63, Try.func63, rfl, by decide⟩

set_option maxRecDepth 100000 in
theorem fn38 : isFn Try.prog 38 := ⟨Try.f38, Try.func38, rfl, by decide⟩

set_option maxRecDepth 100000 in
theorem fn37 : isFn Try.prog 37 := ⟨Try.f37, Try.func37, rfl, by decide⟩

set_option maxRecDepth 100000 in
theorem fn40 : isFn Try.prog 40 := ⟨Try.f40, Try.func40, rfl, by decide⟩

set_option maxRecDepth 100000 in
theorem fn18 : isFn Try.prog 18 := ⟨Try.f18, Try.func18, rfl, by decide⟩

set_option maxRecDepth 100000 in
theorem fn19 : isFn Try.prog 19 := ⟨Try.f19, Try.func19, rfl, by decide⟩

set_option maxRecDepth 100000 in
theorem fn20 : isFn Try.prog 20 := ⟨Try.f20, Try.func20, rfl, by decide⟩

set_option maxRecDepth 100000 in
theorem fn69 : isFn Try.prog 69 := ⟨Try.f69, Try.func69, rfl, by decide⟩

set_option maxRecDepth 100000 in
theorem fn67 : isFn Try.prog 67 := ⟨Try.f67, Try.func67, rfl, by decide⟩

set_option maxRecDepth 100000 in
theorem fn82 : isFn Try.prog 82 := ⟨Try.f82, Try.func82, rfl, by decide⟩

set_option maxRecDepth 100000 in
theorem fn66 : isFn Try.prog 66 := ⟨Try.f66, Try.func66, rfl, by decide⟩

set_option maxRecDepth 100000 in
theorem fn41 : isFn Try.prog 41 := ⟨Try.f41, Try.func41, rfl, by decide⟩

set_option maxRecDepth 100000 in
theorem fn42 : isFn Try.prog 42 := ⟨Try.f42, Try.func42, rfl, by decide⟩

set_option maxRecDepth 100000 in
theorem fn44 : isFn Try.prog 44 := ⟨Try.f44, Try.func44, rfl, by decide⟩

set_option maxRecDepth 100000 in
theorem fn99 : isFn Try.prog 99 := ⟨Try.f99, Try.func99, rfl, by decide⟩

set_option maxRecDepth 100000 in
theorem fn100 : isFn Try.prog 100 := ⟨Try.f100, Try.func100, rfl, by decide⟩

set_option maxRecDepth 100000 in
theorem fn95 : isFn Try.prog 95 := ⟨Try.f95, Try.func95, rfl, by decide⟩

set_option maxRecDepth 100000 in
theorem fn91 : isFn Try.prog 91 := ⟨Try.f91, Try.func91, rfl, by decide⟩

set_option maxRecDepth 100000 in
theorem fn92 : isFn Try.prog 92 := ⟨Try.f92, Try.func92, rfl, by decide⟩

set_option maxRecDepth 100000 in
theorem fn83 : isFn Try.prog 83 := ⟨Try.f83, Try.func83, rfl, by decide⟩

set_option maxRecDepth 100000 in
theorem fn84 : isFn Try.prog 84 := ⟨Try.f84, Try.func84, rfl, by decide⟩

set_option maxRecDepth 100000 in
theorem fn68 : isFn Try.prog 68 := ⟨Try.f68, Try.func68, rfl, by decide⟩

set_option maxRecDepth 100000 in
theorem fn43 : isFn Try.prog 43 := ⟨Try.f43, Try.func43, rfl, by decide⟩

set_option maxRecDepth 100000 in
theorem fn70 : isFn Try.prog 70 := ⟨Try.f70, Try.func70, rfl, by decide⟩

set_option maxRecDepth 100000 in
theorem fn45 : isFn Try.prog 45 := ⟨Try.f45, Try.func45, rfl, by decide⟩

set_option maxRecDepth 100000 in
theorem fn21 : isFn Try.prog 21 := ⟨Try.f21, Try.func21, rfl, by decide⟩

set_option maxRecDepth 100000 in
theorem fn22 : isFn Try.prog 22 := ⟨Try.f22, Try.func22, rfl, by decide⟩

set_option maxRecDepth 100000 in
theorem fn23 : isFn Try.prog 23 := ⟨Try.f23, Try.func23, rfl, by decide⟩

theorem ty38 : isTy Try.prog 38 true 17 216 [.slice none 0 0, .slice none 0 0, .int .i64 0, .int .i64 0, .int .i64 0, .int .i64 0, .int .i64 0, .int .i64 0, .bool false, .int .i64 0, .int .i64 0, .int .i64 0, .int .i64 0, .int .i64 0, .slice none 0 0, .slice none 0 0, .slice none 0 0] := isTy_of (by kernel_rfl)

set_option maxRecDepth 100000 in
theorem fn4 : isFn Try.prog 4 := ⟨Try.f4, Try.func4, rfl, by decide⟩

set_option maxRecDepth 100000 in
theorem fn6 : isFn Try.prog 6 := ⟨Try.f6, Try.func6, rfl, by decide⟩

set_option maxRecDepth 100000 in
theorem fn5 : isFn Try.prog 5 := ⟨Try.f5, Try.func5, rfl, by decide⟩

set_option maxRecDepth 100000 in
theorem fn7 : isFn Try.prog 7 := ⟨Try.f7, Try.func7, rfl, by decide⟩

set_option maxRecDepth 100000 in
theorem fn8 : isFn Try.prog 8 := ⟨Try.f8, Try.func8, rfl, by decide⟩

set_option maxHeartbeats 4000000 in
set_option maxRecDepth 100000 in
theorem laws_szIntS_ok (w : World) {p0 : List Int} {p1 : Int} {a_0 : Option Addr} {n_0 c_0 : Nat} {r : Int} (H : laws_szIntS p0 p1 = some r)  (g0 : (eList (eVal (Value.int .i64) (fun _ => rfl)) 3).rd w [] p0 [.slice a_0 n_0 c_0]) :
    Calls Try.prog 49 #[.slice a_0 n_0 c_0, .int .i64 p1] w (fun en w' => en = .returned (.int .i64 r) ∧ Ext [] w w') := by
  obtain rfl := rd_n g0
  unfold laws_szIntS at H
  refine f_enter (vs := [.slice a_0 p0.length c_0, .int .i64 p1]) Try.func49 rfl Try.ntmps49 rfl (St.init w []) ?_
  refine c_seq ?_
  refine c_reg ?_
  refine ow_batch [.p] rfl ?_
  refine ow_nil ?_
  refine x_qs ?_
  refine c_seq ?_
  refine c_reg ?_
  refine ow_batch [.p, .p, .lenS 82 3 sl82, .p, .p] rfl ?_
  refine ow_nil ?_
  refine x_qs ?_
  refine c_seq ?_
  refine c_seq ?_
  refine c_reg ?_
  refine ow_batch [.p, .p] rfl ?_
  refine ow_nil ?_
  refine x_qs ?_
  refine c_if rfl (fun hb => ?_) (fun hb => ?_)
  · have H := of_if_t hb H
    refine c_seq ?_
    refine c_reg ?_
    refine ow_batch [.p] rfl ?_
    refine ow_nil ?_
    refine x_qs ?_
    refine c_ret ?_
    refine x_qs_ret ?_
    exact x_retR (rs := [.tmp 4]) (vs := [.int .i64 (-1)]) rfl ⟨rfl, trivial⟩ (fun w' hw' => by
        obtain rfl := of_some H
        exact ⟨rfl, hw'.ext⟩)
  · have H := of_if_f hb H
    refine c_skip ?_
    refine x_qs ?_
    refine c_seq ?_
    refine c_reg ?_
    refine ow_batch [.p, .p] rfl ?_
    refine ow_nil ?_
    refine x_qs ?_
    refine c_ret ?_
    exact x_retR (rs := [.tmp 4]) (vs := [.int .i64 (IntKind.i64.wrap (p1 - (p0.length : Int)))]) rfl ⟨rfl, trivial⟩ (fun w' hw' => by
        obtain rfl := of_some H
        exact ⟨rfl, hw'.ext⟩)

set_option maxHeartbeats 4000000 in
set_option maxRecDepth 100000 in
theorem laws_szStringS_ok (w : World) {p0 : List (List UInt8)} {p1 : Int} {a_0 : Option Addr} {n_0 c_0 : Nat} {r : Int} (H : laws_szStringS p0 p1 = some r)  (g0 : (eList (eStr) 9).rd w [] p0 [.slice a_0 n_0 c_0]) :
    Calls Try.prog 47 #[.slice a_0 n_0 c_0, .int .i64 p1] w (fun en w' => en = .returned (.int .i64 r) ∧ Ext [] w w') := by
  obtain rfl := rd_n g0
  unfold laws_szStringS at H
  refine f_enter (vs := [.slice a_0 p0.length c_0, .int .i64 p1]) Try.func47 rfl Try.ntmps47 rfl (St.init w []) ?_
  refine c_seq ?_
  refine c_reg ?_
  refine ow_batch [.p] rfl ?_
  refine ow_nil ?_
  refine x_qs ?_
  refine c_seq ?_
  refine c_reg ?_
  refine ow_batch [.p, .p, .lenS 23 9 sl23, .p, .p] rfl ?_
  refine ow_nil ?_
  refine x_qs ?_
  refine c_seq ?_
  refine c_seq ?_
  refine c_reg ?_
  refine ow_batch [.p, .p] rfl ?_
  refine ow_nil ?_
  refine x_qs ?_
  refine c_if rfl (fun hb => ?_) (fun hb => ?_)
  · have H := of_if_t hb H
    refine c_seq ?_
    refine c_reg ?_
    refine ow_batch [.p] rfl ?_
    refine ow_nil ?_
    refine x_qs ?_
    refine c_ret ?_
    refine x_qs_ret ?_
    exact x_retR (rs := [.tmp 4]) (vs := [.int .i64 (-1)]) rfl ⟨rfl, trivial⟩ (fun w' hw' => by
        obtain rfl := of_some H
        exact ⟨rfl, hw'.ext⟩)
  · have H := of_if_f hb H
    refine c_skip ?_
    refine x_qs ?_
    refine c_seq ?_
    refine c_seq ?_
    refine c_reg ?_
    refine ow_batch [.p] rfl ?_
    refine ow_nil ?_
    refine x_qs ?_
    refine c_block ?_
    refine CW.at (loopI2 (fun (i5 : Int) (i6 : Int) => St w [] []) (fun (i5 : Int) (i6 : Int) => [(0, .slice a_0 p0.length c_0), (1, .int .i64 i5), (5, .int .i64 i6)]) (fun kk => fun (i5 : Int) (i6 : Int) => laws_szStringS_L1 p0 kk i5 i6 = some r) (fun _ _ H => ?_) (fun k1 ihk1 i5 i6 H => ?_) Fuel (IntKind.i64.wrap (p1 - (p0.length : Int))) (0) (H)) (fun _ h => St.sel [] rfl rfl h) ⟨rfl, rfl, rfl,  trivial⟩
    · unfold laws_szStringS_L1 at H
      exact absurd H (by simp)
    · unfold laws_szStringS_L1 at H
      refine c_seq ?_
      refine c_seq ?_
      refine c_reg ?_
      refine ow_batch [.p, .p, .lenS 23 9 sl23, .p] rfl ?_
      refine ow_nil ?_
      refine x_qs ?_
      refine c_if rfl (fun hb => ?_) (fun hb => ?_)
      · have H := of_if_t hb H
        refine c_skip ?_
        refine x_qs ?_
        refine c_seq ?_
        refine c_block ?_
        refine c_seq ?_
        refine c_reg ?_
        refine ow_batch [.p, .p, .p] rfl ?_
        obtain ⟨e11, h12, H⟩ := of_bind H
        refine ow_ixE (e := eStr) (xs := p0) (j := i6) rfl rfl rfl rfl rfl sl23 ty9 rfl (fun w1 hw1 => rds_bor g0 w1 hw1) h12 (by rw [Nat.mul_one]) ?_
        refine ow_r rfl (dstOk_lt rfl) (ry_load1 rfl rfl ty9 (at_elV (fun w1 hw1 => rds_bor g0 w1 hw1) h12)) ?_
        refine ow_batch [.lenT 9 st9, .p, .p] rfl ?_
        refine ow_nil ?_
        refine x_qs ?_
        refine c_seq ?_
        refine c_reg ?_
        refine ow_batch [.p, .p] rfl ?_
        refine ow_nil ?_
        refine x_qs ?_
        refine c_if rfl (fun hb => ?_) (fun hb => ?_)
        · have H := of_if_t hb H
          refine c_seq ?_
          refine c_reg ?_
          refine ow_batch [.p] rfl ?_
          refine ow_nil ?_
          refine x_qs ?_
          refine c_ret ?_
          refine x_qb_ret ?_
          refine x_qs_ret ?_
          refine x_ql_ret ?_
          refine x_qb_ret ?_
          refine x_qs_ret ?_
          exact x_retR (rs := [.tmp 4]) (vs := [.int .i64 (-1)]) rfl ⟨rfl, trivial⟩ (fun w' hw' => by
              obtain rfl := of_some H
              exact ⟨rfl, hw'.ext⟩)
        · have H := of_if_f hb H
          refine c_skip ?_
          refine x_qb ?_
          refine x_qs ?_
          refine c_reg ?_
          refine ow_batch [.p, .p, .p] rfl ?_
          refine ow_nil ?_
          exact x_ql (RW.at (ihk1 (IntKind.i64.wrap (i5 - (e11.length : Int))) (IntKind.i64.wrap (i6 + 1)) (H)) (fun _ h => St.sel [] rfl rfl h) ⟨rfl, rfl, rfl, trivial⟩)
      · have H := of_if_f hb H
        refine c_exit ?_
        refine x_qs_exit ?_
        refine x_ql_exit ?_
        refine x_qb_here ?_
        refine x_qs ?_
        refine c_seq ?_
        refine c_reg ?_
        refine ow_batch [.p, .p] rfl ?_
        refine ow_nil ?_
        refine x_qs ?_
        refine c_ret ?_
        exact x_retR (rs := [.tmp 4]) (vs := [.int .i64 i5]) rfl ⟨rfl, trivial⟩ (fun w' hw' => by
            obtain rfl := of_some H
            exact ⟨rfl, hw'.ext⟩)

set_option maxHeartbeats 4000000 in
set_option maxRecDepth 100000 in
theorem laws_szAttr_ok (w : World) {p0 : Tlaws_Attr} {p1 : Int} {cs0 : List Value} {r : Int} (H : laws_szAttr p0 p1 = some r)  (g0 : (eTlaws_Attr).rd w [] p0 cs0) :
    Calls Try.prog 71 #[.agg cs0.toArray, .int .i64 p1] w (fun en w' => en = .returned (.int .i64 r) ∧ Ext [] w w') := by
  obtain ⟨c1, c2, c3, rfl, g4, g5, g6⟩ := rdo_Tlaws_Attr g0
  obtain rfl : c1 = [vS p0.Name_] := g4
  obtain ⟨a7, c8, rfl⟩ := rd_sl1 g5
  obtain ⟨a9, c10, rfl⟩ := rd_sl1 g6
  unfold laws_szAttr at H
  refine f_enter (vs := [.agg #[vS p0.Name_, .slice a7 p0.Cuts_.length c8, .slice a9 p0.Values_.length c10], .int .i64 p1]) Try.func71 rfl Try.ntmps71 rfl (St.init w []) ?_
  refine c_seq ?_
  refine c_reg ?_
  refine ow_box (cs := [vS p0.Name_, .slice a7 p0.Cuts_.length c8, .slice a9 p0.Values_.length c10]) rfl rfl rfl rfl rfl rfl (fun _ => kp) (fun b11 => ?_)
  refine ow_batch [.p] rfl ?_
  refine ow_nil ?_
  refine x_qs ?_
  refine c_seq ?_
  refine c_reg ?_
  refine ow_batch [.p, .fa 124 0 0 fa124_0] rfl ?_
  refine ow_r rfl (dstOk_lt rfl) (ry_box1 (off := 0) rfl rfl ty9 (boxIn (i := 0) rfl) rfl) ?_
  refine ow_batch [.lenT 9 st9, .p, .p] rfl ?_
  refine ow_nil ?_
  refine x_qs ?_
  refine c_seq ?_
  refine c_seq ?_
  refine c_reg ?_
  refine ow_batch [.p, .p] rfl ?_
  refine ow_nil ?_
  refine x_qs ?_
  refine c_if rfl (fun hb => ?_) (fun hb => ?_)
  · have H := of_if_t hb H
    refine c_seq ?_
    refine c_reg ?_
    refine ow_batch [.p] rfl ?_
    refine ow_nil ?_
    refine x_qs ?_
    refine c_ret ?_
    refine x_qs_ret ?_
    exact x_retR (rs := [.tmp 4]) (vs := [.int .i64 (-1)]) rfl ⟨rfl, trivial⟩ (fun w' hw' => by
        obtain rfl := of_some H
        exact ⟨rfl, hw'.ext⟩)
  · have H := of_if_f hb H
    refine c_skip ?_
    refine x_qs ?_
    refine c_seq ?_
    refine c_reg ?_
    refine ow_batch [.fa 124 1 1 fa124_1] rfl ?_
    refine ow_r rfl (dstOk_lt rfl) (ry_box1 (off := 1) rfl rfl ty82 (boxIn (i := 0) rfl) rfl) ?_
    refine ow_batch [.p] rfl ?_
    obtain ⟨y12, h13, H⟩ := of_bind H
    refine ow_q rfl rfl (dstOk_lt rfl) (qy_call rfl fn49 rfl (fun w1 hw1 => laws_szIntS_ok w1  h13 (rds_bor g5 w1 hw1))) (fun _ _ => trivial) ?_
    refine ow_batch [.p] rfl ?_
    refine ow_nil ?_
    refine x_qs ?_
    refine c_seq ?_
    refine c_seq ?_
    refine c_reg ?_
    refine ow_batch [.p, .p] rfl ?_
    refine ow_nil ?_
    refine x_qs ?_
    refine c_if rfl (fun hb => ?_) (fun hb => ?_)
    · have H := of_if_t hb H
      refine c_seq ?_
      refine c_reg ?_
      refine ow_batch [.p] rfl ?_
      refine ow_nil ?_
      refine x_qs ?_
      refine c_ret ?_
      refine x_qs_ret ?_
      exact x_retR (rs := [.tmp 4]) (vs := [.int .i64 (-1)]) rfl ⟨rfl, trivial⟩ (fun w' hw' => by
          obtain rfl := of_some H
          exact ⟨rfl, hw'.ext⟩)
    · have H := of_if_f hb H
      refine c_skip ?_
      refine x_qs ?_
      refine c_seq ?_
      refine c_reg ?_
      refine ow_batch [.fa 124 2 2 fa124_2] rfl ?_
      refine ow_r rfl (dstOk_lt rfl) (ry_box1 (off := 2) rfl rfl ty23 (boxIn (i := 0) rfl) rfl) ?_
      refine ow_batch [.p] rfl ?_
      obtain ⟨y14, h15, H⟩ := of_bind H
      refine ow_q rfl rfl (dstOk_lt rfl) (qy_call rfl fn47 rfl (fun w1 hw1 => laws_szStringS_ok w1  h15 (rds_bor g6 w1 hw1))) (fun _ _ => trivial) ?_
      refine ow_batch [.p] rfl ?_
      refine ow_nil ?_
      refine x_qs ?_
      refine c_seq ?_
      refine c_seq ?_
      refine c_reg ?_
      refine ow_batch [.p, .p] rfl ?_
      refine ow_nil ?_
      refine x_qs ?_
      refine c_if rfl (fun hb => ?_) (fun hb => ?_)
      · have H := of_if_t hb H
        refine c_seq ?_
        refine c_reg ?_
        refine ow_batch [.p] rfl ?_
        refine ow_nil ?_
        refine x_qs ?_
        refine c_ret ?_
        refine x_qs_ret ?_
        exact x_retR (rs := [.tmp 4]) (vs := [.int .i64 (-1)]) rfl ⟨rfl, trivial⟩ (fun w' hw' => by
            obtain rfl := of_some H
            exact ⟨rfl, hw'.ext⟩)
      · have H := of_if_f hb H
        refine c_skip ?_
        refine x_qs ?_
        refine c_seq ?_
        refine c_reg ?_
        refine ow_batch [.p, .p] rfl ?_
        refine ow_nil ?_
        refine x_qs ?_
        refine c_ret ?_
        exact x_retR (rs := [.tmp 4]) (vs := [.int .i64 y14]) rfl ⟨rfl, trivial⟩ (fun w' hw' => by
            obtain rfl := of_some H
            exact ⟨rfl, hw'.ext⟩)

set_option maxHeartbeats 4000000 in
set_option maxRecDepth 100000 in
theorem laws_szAttrS_ok (w : World) {p0 : List Tlaws_Attr} {p1 : Int} {a_0 : Option Addr} {n_0 c_0 : Nat} {r : Int} (H : laws_szAttrS p0 p1 = some r)  (g0 : (eList (eTlaws_Attr) 124).rd w [] p0 [.slice a_0 n_0 c_0]) :
    Calls Try.prog 46 #[.slice a_0 n_0 c_0, .int .i64 p1] w (fun en w' => en = .returned (.int .i64 r) ∧ Ext [] w w') := by
  obtain rfl := rd_n g0
  unfold laws_szAttrS at H
  refine f_enter (vs := [.slice a_0 p0.length c_0, .int .i64 p1]) Try.func46 rfl Try.ntmps46 rfl (St.init w []) ?_
  refine c_seq ?_
  refine c_reg ?_
  refine ow_batch [.p] rfl ?_
  refine ow_nil ?_
  refine x_qs ?_
  refine c_seq ?_
  refine c_reg ?_
  refine ow_batch [.p, .p, .lenS 22 124 sl22, .p, .p] rfl ?_
  refine ow_nil ?_
  refine x_qs ?_
  refine c_seq ?_
  refine c_seq ?_
  refine c_reg ?_
  refine ow_batch [.p, .p] rfl ?_
  refine ow_nil ?_
  refine x_qs ?_
  refine c_if rfl (fun hb => ?_) (fun hb => ?_)
  · have H := of_if_t hb H
    refine c_seq ?_
    refine c_reg ?_
    refine ow_batch [.p] rfl ?_
    refine ow_nil ?_
    refine x_qs ?_
    refine c_ret ?_
    refine x_qs_ret ?_
    exact x_retR (rs := [.tmp 4]) (vs := [.int .i64 (-1)]) rfl ⟨rfl, trivial⟩ (fun w' hw' => by
        obtain rfl := of_some H
        exact ⟨rfl, hw'.ext⟩)
  · have H := of_if_f hb H
    refine c_skip ?_
    refine x_qs ?_
    refine c_seq ?_
    refine c_seq ?_
    refine c_reg ?_
    refine ow_batch [.p] rfl ?_
    refine ow_nil ?_
    refine x_qs ?_
    refine c_block ?_
    refine CW.at (loopI2 (fun (i21 : Int) (i22 : Int) => St w [] []) (fun (i21 : Int) (i22 : Int) => [(0, .slice a_0 p0.length c_0), (1, .int .i64 i21), (5, .int .i64 i22)]) (fun kk => fun (i21 : Int) (i22 : Int) => laws_szAttrS_L1 p0 kk i21 i22 = some r) (fun _ _ H => ?_) (fun k1 ihk1 i21 i22 H => ?_) Fuel (IntKind.i64.wrap (p1 - (p0.length : Int))) (0) (H)) (fun _ h => St.sel [] rfl rfl h) ⟨rfl, rfl, rfl,  trivial⟩
    · unfold laws_szAttrS_L1 at H
      exact absurd H (by simp)
    · unfold laws_szAttrS_L1 at H
      refine c_seq ?_
      refine c_seq ?_
      refine c_reg ?_
      refine ow_batch [.p, .p, .lenS 22 124 sl22, .p] rfl ?_
      refine ow_nil ?_
      refine x_qs ?_
      refine c_if rfl (fun hb => ?_) (fun hb => ?_)
      · have H := of_if_t hb H
        refine c_skip ?_
        refine x_qs ?_
        refine c_seq ?_
        refine c_block ?_
        refine c_seq ?_
        refine c_reg ?_
        refine ow_batch [.p, .p] rfl ?_
        obtain ⟨e43, h44, H⟩ := of_bind H
        refine ow_ixB rfl rfl rfl rfl rfl sl22 ty124 rfl g0 h44 (fun q47 c48 hd45 hA46 => ?_)
        obtain ⟨c49, c50, c51, rfl, g52, g53, g54⟩ := rdo_Tlaws_Attr hd45
        obtain rfl : c49 = [vS e43.Name_] := g52
        obtain ⟨a55, c56, rfl⟩ := rd_sl1 g53
        obtain ⟨a57, c58, rfl⟩ := rd_sl1 g54
        refine ow_r rfl (dstOk_lt rfl) (ry_load (cs := [vS e43.Name_, .slice a55 e43.Cuts_.length c56, .slice a57 e43.Values_.length c58]) rfl rfl ty124 (at_bor bor hA46) rfl) ?_
        refine ow_batch [.p] rfl ?_
        obtain ⟨y59, h60, H⟩ := of_bind H
        refine ow_q rfl rfl (dstOk_lt rfl) (qy_call rfl fn71 rfl (fun w1 hw1 => laws_szAttr_ok w1 (cs0 := [vS e43.Name_, .slice a55 e43.Cuts_.length c56, .slice a57 e43.Values_.length c58]) h60 (rdm_Tlaws_Attr (x := e43) (c0 := [vS e43.Name_]) (c1 := [.slice a55 e43.Cuts_.length c56]) (c2 := [.slice a57 e43.Values_.length c58]) rfl (rds_bor g53 w1 hw1) (rds_bor g54 w1 hw1)))) (fun _ _ => trivial) ?_
        refine ow_batch [.p] rfl ?_
        refine ow_nil ?_
        refine x_qs ?_
        refine c_seq ?_
        refine c_reg ?_
        refine ow_batch [.p, .p] rfl ?_
        refine ow_nil ?_
        refine x_qs ?_
        refine c_if rfl (fun hb => ?_) (fun hb => ?_)
        · have H := of_if_t hb H
          refine c_seq ?_
          refine c_reg ?_
          refine ow_batch [.p] rfl ?_
          refine ow_nil ?_
          refine x_qs ?_
          refine c_ret ?_
          refine x_qb_ret ?_
          refine x_qs_ret ?_
          refine x_ql_ret ?_
          refine x_qb_ret ?_
          refine x_qs_ret ?_
          exact x_retR (rs := [.tmp 4]) (vs := [.int .i64 (-1)]) rfl ⟨rfl, trivial⟩ (fun w' hw' => by
              obtain rfl := of_some H
              exact ⟨rfl, hw'.ext⟩)
        · have H := of_if_f hb H
          refine c_skip ?_
          refine x_qb ?_
          refine x_qs ?_
          refine c_reg ?_
          refine ow_batch [.p, .p, .p] rfl ?_
          refine ow_nil ?_
          exact x_ql (RW.at (ihk1 (y59) (IntKind.i64.wrap (i22 + 1)) (H)) (fun _ h => St.sel [] rfl rfl h) ⟨rfl, rfl, rfl, trivial⟩)
      · have H := of_if_f hb H
        refine c_exit ?_
        refine x_qs_exit ?_
        refine x_ql_exit ?_
        refine x_qb_here ?_
        refine x_qs ?_
        refine c_seq ?_
        refine c_reg ?_
        refine ow_batch [.p, .p] rfl ?_
        refine ow_nil ?_
        refine x_qs ?_
        refine c_ret ?_
        exact x_retR (rs := [.tmp 4]) (vs := [.int .i64 i21]) rfl ⟨rfl, trivial⟩ (fun w' hw' => by
            obtain rfl := of_some H
            exact ⟨rfl, hw'.ext⟩)

set_option maxHeartbeats 4000000 in
set_option maxRecDepth 100000 in
theorem laws_szSchema_ok (w : World) {p0 : Tlaws_Schema} {p1 : Int} {cs0 : List Value} {r : Int} (H : laws_szSchema p0 p1 = some r)  (g0 : (eTlaws_Schema).rd w [] p0 cs0) :
    Calls Try.prog 24 #[.agg cs0.toArray, .int .i64 p1] w (fun en w' => en = .returned (.int .i64 r) ∧ Ext [] w w') := by
  obtain ⟨c1, c2, rfl, g3, g4⟩ := rdo_Tlaws_Schema g0
  obtain ⟨a5, c6, rfl⟩ := rd_sl1 g3
  obtain ⟨a7, c8, rfl⟩ := rd_sl1 g4
  unfold laws_szSchema at H
  refine f_enter (vs := [.agg #[.slice a5 p0.Attrs_.length c6, .slice a7 p0.Classes_.length c8], .int .i64 p1]) Try.func24 rfl Try.ntmps24 rfl (St.init w []) ?_
  refine c_seq ?_
  refine c_reg ?_
  refine ow_box (cs := [.slice a5 p0.Attrs_.length c6, .slice a7 p0.Classes_.length c8]) rfl rfl rfl rfl rfl rfl (fun _ => kp) (fun b9 => ?_)
  refine ow_batch [.p] rfl ?_
  refine ow_nil ?_
  refine x_qs ?_
  refine c_seq ?_
  refine c_reg ?_
  refine ow_batch [.fa 25 0 0 fa25_0] rfl ?_
  refine ow_r rfl (dstOk_lt rfl) (ry_box1 (off := 0) rfl rfl ty22 (boxIn (i := 0) rfl) rfl) ?_
  refine ow_batch [.p] rfl ?_
  obtain ⟨y10, h11, H⟩ := of_bind H
  refine ow_q rfl rfl (dstOk_lt rfl) (qy_call rfl fn46 rfl (fun w1 hw1 => laws_szAttrS_ok w1  h11 (rds_bor g3 w1 hw1))) (fun _ _ => trivial) ?_
  refine ow_batch [.p] rfl ?_
  refine ow_nil ?_
  refine x_qs ?_
  refine c_seq ?_
  refine c_seq ?_
  refine c_reg ?_
  refine ow_batch [.p, .p] rfl ?_
  refine ow_nil ?_
  refine x_qs ?_
  refine c_if rfl (fun hb => ?_) (fun hb => ?_)
  · have H := of_if_t hb H
    refine c_seq ?_
    refine c_reg ?_
    refine ow_batch [.p] rfl ?_
    refine ow_nil ?_
    refine x_qs ?_
    refine c_ret ?_
    refine x_qs_ret ?_
    exact x_retR (rs := [.tmp 4]) (vs := [.int .i64 (-1)]) rfl ⟨rfl, trivial⟩ (fun w' hw' => by
        obtain rfl := of_some H
        exact ⟨rfl, hw'.ext⟩)
  · have H := of_if_f hb H
    refine c_skip ?_
    refine x_qs ?_
    refine c_seq ?_
    refine c_reg ?_
    refine ow_batch [.fa 25 1 1 fa25_1] rfl ?_
    refine ow_r rfl (dstOk_lt rfl) (ry_box1 (off := 1) rfl rfl ty23 (boxIn (i := 0) rfl) rfl) ?_
    refine ow_batch [.p] rfl ?_
    obtain ⟨y12, h13, H⟩ := of_bind H
    refine ow_q rfl rfl (dstOk_lt rfl) (qy_call rfl fn47 rfl (fun w1 hw1 => laws_szStringS_ok w1  h13 (rds_bor g4 w1 hw1))) (fun _ _ => trivial) ?_
    refine ow_batch [.p] rfl ?_
    refine ow_nil ?_
    refine x_qs ?_
    refine c_seq ?_
    refine c_seq ?_
    refine c_reg ?_
    refine ow_batch [.p, .p] rfl ?_
    refine ow_nil ?_
    refine x_qs ?_
    refine c_if rfl (fun hb => ?_) (fun hb => ?_)
    · have H := of_if_t hb H
      refine c_seq ?_
      refine c_reg ?_
      refine ow_batch [.p] rfl ?_
      refine ow_nil ?_
      refine x_qs ?_
      refine c_ret ?_
      refine x_qs_ret ?_
      exact x_retR (rs := [.tmp 4]) (vs := [.int .i64 (-1)]) rfl ⟨rfl, trivial⟩ (fun w' hw' => by
          obtain rfl := of_some H
          exact ⟨rfl, hw'.ext⟩)
    · have H := of_if_f hb H
      refine c_skip ?_
      refine x_qs ?_
      refine c_seq ?_
      refine c_reg ?_
      refine ow_batch [.p, .p] rfl ?_
      refine ow_nil ?_
      refine x_qs ?_
      refine c_ret ?_
      exact x_retR (rs := [.tmp 4]) (vs := [.int .i64 y12]) rfl ⟨rfl, trivial⟩ (fun w' hw' => by
          obtain rfl := of_some H
          exact ⟨rfl, hw'.ext⟩)

set_option maxHeartbeats 4000000 in
set_option maxRecDepth 100000 in
theorem laws_szConf_ok (w : World) {p0 : Tlaws_Conf} {p1 : Int} {cs0 : List Value} {r : Int} (H : laws_szConf p0 p1 = some r)  (g0 : (eTlaws_Conf).rd w [] p0 cs0) :
    Calls Try.prog 9 #[.agg cs0.toArray, .int .i64 p1] w (fun en w' => en = .returned (.int .i64 r) ∧ Ext [] w w') := by
  obtain ⟨c1, c2, c3, c4, c5, c6, c7, rfl, g8, g9, g10, g11, g12, g13, g14⟩ := rdo_Tlaws_Conf g0
  obtain ⟨c15, c16, rfl, g17, g18⟩ := rdo_Tlaws_Schema g8
  obtain ⟨a19, c20, rfl⟩ := rd_sl1 g17
  obtain ⟨a21, c22, rfl⟩ := rd_sl1 g18
  obtain rfl : c2 = [.int .i64 p0.Rule_.Sure_, .int .i64 p0.Rule_.Tie_, .int .i64 p0.Rule_.Grace_, .int .i64 p0.Rule_.Depth_, .int .i64 p0.Rule_.Nodes_, .int .i64 p0.Rule_.Units_, .bool p0.Rule_.Two_] := g9
  obtain rfl : c3 = [.int .i64 p0.Members_] := g10
  obtain rfl : c4 = [.int .i64 p0.Pick_] := g11
  obtain rfl : c5 = [.int .i64 p0.Lambda_] := g12
  obtain rfl : c6 = [.int .i64 p0.Warn_] := g13
  obtain rfl : c7 = [.int .i64 p0.Drift_] := g14
  unfold laws_szConf at H
  refine f_enter (vs := [.agg #[.slice a19 p0.Schema_.Attrs_.length c20, .slice a21 p0.Schema_.Classes_.length c22, .int .i64 p0.Rule_.Sure_, .int .i64 p0.Rule_.Tie_, .int .i64 p0.Rule_.Grace_, .int .i64 p0.Rule_.Depth_, .int .i64 p0.Rule_.Nodes_, .int .i64 p0.Rule_.Units_, .bool p0.Rule_.Two_, .int .i64 p0.Members_, .int .i64 p0.Pick_, .int .i64 p0.Lambda_, .int .i64 p0.Warn_, .int .i64 p0.Drift_], .int .i64 p1]) Try.func9 rfl Try.ntmps9 rfl (St.init w []) ?_
  refine c_seq ?_
  refine c_reg ?_
  refine ow_box (cs := [.slice a19 p0.Schema_.Attrs_.length c20, .slice a21 p0.Schema_.Classes_.length c22, .int .i64 p0.Rule_.Sure_, .int .i64 p0.Rule_.Tie_, .int .i64 p0.Rule_.Grace_, .int .i64 p0.Rule_.Depth_, .int .i64 p0.Rule_.Nodes_, .int .i64 p0.Rule_.Units_, .bool p0.Rule_.Two_, .int .i64 p0.Members_, .int .i64 p0.Pick_, .int .i64 p0.Lambda_, .int .i64 p0.Warn_, .int .i64 p0.Drift_]) rfl rfl rfl rfl rfl rfl (fun _ => kp) (fun b23 => ?_)
  refine ow_batch [.p] rfl ?_
  refine ow_nil ?_
  refine x_qs ?_
  refine c_seq ?_
  refine c_reg ?_
  refine ow_batch [.fa 29 0 0 fa29_0] rfl ?_
  refine ow_r rfl (dstOk_lt rfl) (ry_box (off := 0) (ds := [.slice a19 p0.Schema_.Attrs_.length c20, .slice a21 p0.Schema_.Classes_.length c22]) rfl rfl ty25 (boxIn (i := 0) rfl) rfl rfl) ?_
  refine ow_batch [.p] rfl ?_
  obtain ⟨y24, h25, H⟩ := of_bind H
  refine ow_q rfl rfl (dstOk_lt rfl) (qy_call rfl fn24 rfl (fun w1 hw1 => laws_szSchema_ok w1 (cs0 := [.slice a19 p0.Schema_.Attrs_.length c20, .slice a21 p0.Schema_.Classes_.length c22]) h25 (rdm_Tlaws_Schema (x := p0.Schema_) (c0 := [.slice a19 p0.Schema_.Attrs_.length c20]) (c1 := [.slice a21 p0.Schema_.Classes_.length c22]) (rds_bor g17 w1 hw1) (rds_bor g18 w1 hw1)))) (fun _ _ => trivial) ?_
  refine ow_batch [.p] rfl ?_
  refine ow_nil ?_
  refine x_qs ?_
  refine c_seq ?_
  refine c_seq ?_
  refine c_reg ?_
  refine ow_batch [.p, .p] rfl ?_
  refine ow_nil ?_
  refine x_qs ?_
  refine c_if rfl (fun hb => ?_) (fun hb => ?_)
  · have H := of_if_t hb H
    refine c_seq ?_
    refine c_reg ?_
    refine ow_batch [.p] rfl ?_
    refine ow_nil ?_
    refine x_qs ?_
    refine c_ret ?_
    refine x_qs_ret ?_
    exact x_retR (rs := [.tmp 4]) (vs := [.int .i64 (-1)]) rfl ⟨rfl, trivial⟩ (fun w' hw' => by
        obtain rfl := of_some H
        exact ⟨rfl, hw'.ext⟩)
  · have H := of_if_f hb H
    refine c_skip ?_
    refine x_qs ?_
    refine c_seq ?_
    refine c_reg ?_
    refine ow_batch [.p, .p] rfl ?_
    refine ow_nil ?_
    refine x_qs ?_
    refine c_ret ?_
    exact x_retR (rs := [.tmp 4]) (vs := [.int .i64 y24]) rfl ⟨rfl, trivial⟩ (fun w' hw' => by
        obtain rfl := of_some H
        exact ⟨rfl, hw'.ext⟩)

set_option maxHeartbeats 4000000 in
set_option maxRecDepth 100000 in
theorem laws_szIntSS_ok (w : World) {p0 : List (List Int)} {p1 : Int} {a_0 : Option Addr} {n_0 c_0 : Nat} {r : Int} (H : laws_szIntSS p0 p1 = some r)  (g0 : (eList (eList (eVal (Value.int .i64) (fun _ => rfl)) 3) 82).rd w [] p0 [.slice a_0 n_0 c_0]) :
    Calls Try.prog 26 #[.slice a_0 n_0 c_0, .int .i64 p1] w (fun en w' => en = .returned (.int .i64 r) ∧ Ext [] w w') := by
  obtain rfl := rd_n g0
  unfold laws_szIntSS at H
  refine f_enter (vs := [.slice a_0 p0.length c_0, .int .i64 p1]) Try.func26 rfl Try.ntmps26 rfl (St.init w []) ?_
  refine c_seq ?_
  refine c_reg ?_
  refine ow_batch [.p] rfl ?_
  refine ow_nil ?_
  refine x_qs ?_
  refine c_seq ?_
  refine c_reg ?_
  refine ow_batch [.p, .p, .lenS 33 82 sl33, .p, .p] rfl ?_
  refine ow_nil ?_
  refine x_qs ?_
  refine c_seq ?_
  refine c_seq ?_
  refine c_reg ?_
  refine ow_batch [.p, .p] rfl ?_
  refine ow_nil ?_
  refine x_qs ?_
  refine c_if rfl (fun hb => ?_) (fun hb => ?_)
  · have H := of_if_t hb H
    refine c_seq ?_
    refine c_reg ?_
    refine ow_batch [.p] rfl ?_
    refine ow_nil ?_
    refine x_qs ?_
    refine c_ret ?_
    refine x_qs_ret ?_
    exact x_retR (rs := [.tmp 4]) (vs := [.int .i64 (-1)]) rfl ⟨rfl, trivial⟩ (fun w' hw' => by
        obtain rfl := of_some H
        exact ⟨rfl, hw'.ext⟩)
  · have H := of_if_f hb H
    refine c_skip ?_
    refine x_qs ?_
    refine c_seq ?_
    refine c_seq ?_
    refine c_reg ?_
    refine ow_batch [.p] rfl ?_
    refine ow_nil ?_
    refine x_qs ?_
    refine c_block ?_
    refine CW.at (loopI2 (fun (i13 : Int) (i14 : Int) => St w [] []) (fun (i13 : Int) (i14 : Int) => [(0, .slice a_0 p0.length c_0), (1, .int .i64 i13), (5, .int .i64 i14)]) (fun kk => fun (i13 : Int) (i14 : Int) => laws_szIntSS_L1 p0 kk i13 i14 = some r) (fun _ _ H => ?_) (fun k1 ihk1 i13 i14 H => ?_) Fuel (IntKind.i64.wrap (p1 - (p0.length : Int))) (0) (H)) (fun _ h => St.sel [] rfl rfl h) ⟨rfl, rfl, rfl,  trivial⟩
    · unfold laws_szIntSS_L1 at H
      exact absurd H (by simp)
    · unfold laws_szIntSS_L1 at H
      refine c_seq ?_
      refine c_seq ?_
      refine c_reg ?_
      refine ow_batch [.p, .p, .lenS 33 82 sl33, .p] rfl ?_
      refine ow_nil ?_
      refine x_qs ?_
      refine c_if rfl (fun hb => ?_) (fun hb => ?_)
      · have H := of_if_t hb H
        refine c_skip ?_
        refine x_qs ?_
        refine c_seq ?_
        refine c_block ?_
        refine c_seq ?_
        refine c_reg ?_
        refine ow_batch [.p, .p] rfl ?_
        obtain ⟨e27, h28, H⟩ := of_bind H
        refine ow_ixB rfl rfl rfl rfl rfl sl33 ty82 rfl g0 h28 (fun q31 c32 hd29 hA30 => ?_)
        obtain ⟨a33, c34, rfl⟩ := rd_sl1 hd29
        refine ow_r rfl (dstOk_lt rfl) (ry_load1 rfl rfl ty82 (at_bor bor hA30)) ?_
        refine ow_batch [.p] rfl ?_
        obtain ⟨y35, h36, H⟩ := of_bind H
        refine ow_q rfl rfl (dstOk_lt rfl) (qy_call rfl fn49 rfl (fun w1 hw1 => laws_szIntS_ok w1  h36 (rds_bor hd29 w1 hw1))) (fun _ _ => trivial) ?_
        refine ow_batch [.p] rfl ?_
        refine ow_nil ?_
        refine x_qs ?_
        refine c_seq ?_
        refine c_reg ?_
        refine ow_batch [.p, .p] rfl ?_
        refine ow_nil ?_
        refine x_qs ?_
        refine c_if rfl (fun hb => ?_) (fun hb => ?_)
        · have H := of_if_t hb H
          refine c_seq ?_
          refine c_reg ?_
          refine ow_batch [.p] rfl ?_
          refine ow_nil ?_
          refine x_qs ?_
          refine c_ret ?_
          refine x_qb_ret ?_
          refine x_qs_ret ?_
          refine x_ql_ret ?_
          refine x_qb_ret ?_
          refine x_qs_ret ?_
          exact x_retR (rs := [.tmp 4]) (vs := [.int .i64 (-1)]) rfl ⟨rfl, trivial⟩ (fun w' hw' => by
              obtain rfl := of_some H
              exact ⟨rfl, hw'.ext⟩)
        · have H := of_if_f hb H
          refine c_skip ?_
          refine x_qb ?_
          refine x_qs ?_
          refine c_reg ?_
          refine ow_batch [.p, .p, .p] rfl ?_
          refine ow_nil ?_
          exact x_ql (RW.at (ihk1 (y35) (IntKind.i64.wrap (i14 + 1)) (H)) (fun _ h => St.sel [] rfl rfl h) ⟨rfl, rfl, rfl, trivial⟩)
      · have H := of_if_f hb H
        refine c_exit ?_
        refine x_qs_exit ?_
        refine x_ql_exit ?_
        refine x_qb_here ?_
        refine x_qs ?_
        refine c_seq ?_
        refine c_reg ?_
        refine ow_batch [.p, .p] rfl ?_
        refine ow_nil ?_
        refine x_qs ?_
        refine c_ret ?_
        exact x_retR (rs := [.tmp 4]) (vs := [.int .i64 i13]) rfl ⟨rfl, trivial⟩ (fun w' hw' => by
            obtain rfl := of_some H
            exact ⟨rfl, hw'.ext⟩)

set_option maxHeartbeats 4000000 in
set_option maxRecDepth 100000 in
theorem laws_szStats_ok (w : World) {p0 : Tlaws_Stats} {p1 : Int} {cs0 : List Value} {r : Int} (H : laws_szStats p0 p1 = some r)  (g0 : (eTlaws_Stats).rd w [] p0 cs0) :
    Calls Try.prog 96 #[.agg cs0.toArray, .int .i64 p1] w (fun en w' => en = .returned (.int .i64 r) ∧ Ext [] w w') := by
  obtain ⟨c1, c2, rfl, g3, g4⟩ := rdo_Tlaws_Stats g0
  obtain ⟨a5, c6, rfl⟩ := rd_sl1 g3
  obtain ⟨a7, c8, rfl⟩ := rd_sl1 g4
  unfold laws_szStats at H
  refine f_enter (vs := [.agg #[.slice a5 p0.Totals_.length c6, .slice a7 p0.Cells_.length c8], .int .i64 p1]) Try.func96 rfl Try.ntmps96 rfl (St.init w []) ?_
  refine c_seq ?_
  refine c_reg ?_
  refine ow_box (cs := [.slice a5 p0.Totals_.length c6, .slice a7 p0.Cells_.length c8]) rfl rfl rfl rfl rfl rfl (fun _ => kp) (fun b9 => ?_)
  refine ow_batch [.p] rfl ?_
  refine ow_nil ?_
  refine x_qs ?_
  refine c_seq ?_
  refine c_reg ?_
  refine ow_batch [.fa 147 0 0 fa147_0] rfl ?_
  refine ow_r rfl (dstOk_lt rfl) (ry_box1 (off := 0) rfl rfl ty82 (boxIn (i := 0) rfl) rfl) ?_
  refine ow_batch [.p] rfl ?_
  obtain ⟨y10, h11, H⟩ := of_bind H
  refine ow_q rfl rfl (dstOk_lt rfl) (qy_call rfl fn49 rfl (fun w1 hw1 => laws_szIntS_ok w1  h11 (rds_bor g3 w1 hw1))) (fun _ _ => trivial) ?_
  refine ow_batch [.p] rfl ?_
  refine ow_nil ?_
  refine x_qs ?_
  refine c_seq ?_
  refine c_seq ?_
  refine c_reg ?_
  refine ow_batch [.p, .p] rfl ?_
  refine ow_nil ?_
  refine x_qs ?_
  refine c_if rfl (fun hb => ?_) (fun hb => ?_)
  · have H := of_if_t hb H
    refine c_seq ?_
    refine c_reg ?_
    refine ow_batch [.p] rfl ?_
    refine ow_nil ?_
    refine x_qs ?_
    refine c_ret ?_
    refine x_qs_ret ?_
    exact x_retR (rs := [.tmp 4]) (vs := [.int .i64 (-1)]) rfl ⟨rfl, trivial⟩ (fun w' hw' => by
        obtain rfl := of_some H
        exact ⟨rfl, hw'.ext⟩)
  · have H := of_if_f hb H
    refine c_skip ?_
    refine x_qs ?_
    refine c_seq ?_
    refine c_reg ?_
    refine ow_batch [.fa 147 1 1 fa147_1] rfl ?_
    refine ow_r rfl (dstOk_lt rfl) (ry_box1 (off := 1) rfl rfl ty33 (boxIn (i := 0) rfl) rfl) ?_
    refine ow_batch [.p] rfl ?_
    obtain ⟨y12, h13, H⟩ := of_bind H
    refine ow_q rfl rfl (dstOk_lt rfl) (qy_call rfl fn26 rfl (fun w1 hw1 => laws_szIntSS_ok w1  h13 (rds_bor g4 w1 hw1))) (fun _ _ => trivial) ?_
    refine ow_batch [.p] rfl ?_
    refine ow_nil ?_
    refine x_qs ?_
    refine c_seq ?_
    refine c_seq ?_
    refine c_reg ?_
    refine ow_batch [.p, .p] rfl ?_
    refine ow_nil ?_
    refine x_qs ?_
    refine c_if rfl (fun hb => ?_) (fun hb => ?_)
    · have H := of_if_t hb H
      refine c_seq ?_
      refine c_reg ?_
      refine ow_batch [.p] rfl ?_
      refine ow_nil ?_
      refine x_qs ?_
      refine c_ret ?_
      refine x_qs_ret ?_
      exact x_retR (rs := [.tmp 4]) (vs := [.int .i64 (-1)]) rfl ⟨rfl, trivial⟩ (fun w' hw' => by
          obtain rfl := of_some H
          exact ⟨rfl, hw'.ext⟩)
    · have H := of_if_f hb H
      refine c_skip ?_
      refine x_qs ?_
      refine c_seq ?_
      refine c_reg ?_
      refine ow_batch [.p, .p] rfl ?_
      refine ow_nil ?_
      refine x_qs ?_
      refine c_ret ?_
      exact x_retR (rs := [.tmp 4]) (vs := [.int .i64 y12]) rfl ⟨rfl, trivial⟩ (fun w' hw' => by
          obtain rfl := of_some H
          exact ⟨rfl, hw'.ext⟩)

set_option maxHeartbeats 4000000 in
set_option maxRecDepth 100000 in
theorem laws_szNode_ok (w : World) {p0 : Tlaws_Node} {p1 : Int} {cs0 : List Value} {r : Int} (H : laws_szNode p0 p1 = some r)  (g0 : (eTlaws_Node).rd w [] p0 cs0) :
    Calls Try.prog 93 #[.agg cs0.toArray, .int .i64 p1] w (fun en w' => en = .returned (.int .i64 r) ∧ Ext [] w w') := by
  obtain ⟨c1, c2, c3, c4, c5, c6, c7, c8, c9, c10, rfl, g11, g12, g13, g14, g15, g16, g17, g18, g19, g20⟩ := rdo_Tlaws_Node g0
  obtain rfl : c1 = [.bool p0.Leaf_] := g11
  obtain rfl : c2 = [.int .i64 p0.Fork_.Attr_, .int .i64 p0.Fork_.At_] := g12
  obtain ⟨a21, c22, rfl⟩ := rd_sl1 g13
  obtain rfl : c4 = [.int .i64 p0.Miss_] := g14
  obtain ⟨c23, c24, rfl, g25, g26⟩ := rdo_Tlaws_Stats g15
  obtain ⟨a27, c28, rfl⟩ := rd_sl1 g25
  obtain ⟨a29, c30, rfl⟩ := rd_sl1 g26
  obtain rfl : c6 = [.int .i64 p0.Since_] := g16
  obtain ⟨a31, c32, rfl⟩ := rd_sl1 g17
  obtain rfl : c8 = [.int .i64 p0.Depth_] := g18
  obtain rfl : c9 = [.int .i64 p0.Up_] := g19
  obtain rfl : c10 = [.int .i64 p0.Born_] := g20
  unfold laws_szNode at H
  refine f_enter (vs := [.agg #[.bool p0.Leaf_, .int .i64 p0.Fork_.Attr_, .int .i64 p0.Fork_.At_, .slice a21 p0.Kids_.length c22, .int .i64 p0.Miss_, .slice a27 p0.Stats_.Totals_.length c28, .slice a29 p0.Stats_.Cells_.length c30, .int .i64 p0.Since_, .slice a31 p0.Attrs_.length c32, .int .i64 p0.Depth_, .int .i64 p0.Up_, .int .i64 p0.Born_], .int .i64 p1]) Try.func93 rfl Try.ntmps93 rfl (St.init w []) ?_
  refine c_seq ?_
  refine c_reg ?_
  refine ow_box (cs := [.bool p0.Leaf_, .int .i64 p0.Fork_.Attr_, .int .i64 p0.Fork_.At_, .slice a21 p0.Kids_.length c22, .int .i64 p0.Miss_, .slice a27 p0.Stats_.Totals_.length c28, .slice a29 p0.Stats_.Cells_.length c30, .int .i64 p0.Since_, .slice a31 p0.Attrs_.length c32, .int .i64 p0.Depth_, .int .i64 p0.Up_, .int .i64 p0.Born_]) rfl rfl rfl rfl rfl rfl (fun _ => kp) (fun b33 => ?_)
  refine ow_batch [.p] rfl ?_
  refine ow_nil ?_
  refine x_qs ?_
  refine c_seq ?_
  refine c_reg ?_
  refine ow_batch [.fa 149 2 3 fa149_2] rfl ?_
  refine ow_r rfl (dstOk_lt rfl) (ry_box1 (off := 3) rfl rfl ty82 (boxIn (i := 0) rfl) rfl) ?_
  refine ow_batch [.p] rfl ?_
  obtain ⟨y34, h35, H⟩ := of_bind H
  refine ow_q rfl rfl (dstOk_lt rfl) (qy_call rfl fn49 rfl (fun w1 hw1 => laws_szIntS_ok w1  h35 (rds_bor g13 w1 hw1))) (fun _ _ => trivial) ?_
  refine ow_batch [.p] rfl ?_
  refine ow_nil ?_
  refine x_qs ?_
  refine c_seq ?_
  refine c_seq ?_
  refine c_reg ?_
  refine ow_batch [.p, .p] rfl ?_
  refine ow_nil ?_
  refine x_qs ?_
  refine c_if rfl (fun hb => ?_) (fun hb => ?_)
  · have H := of_if_t hb H
    refine c_seq ?_
    refine c_reg ?_
    refine ow_batch [.p] rfl ?_
    refine ow_nil ?_
    refine x_qs ?_
    refine c_ret ?_
    refine x_qs_ret ?_
    exact x_retR (rs := [.tmp 4]) (vs := [.int .i64 (-1)]) rfl ⟨rfl, trivial⟩ (fun w' hw' => by
        obtain rfl := of_some H
        exact ⟨rfl, hw'.ext⟩)
  · have H := of_if_f hb H
    refine c_skip ?_
    refine x_qs ?_
    refine c_seq ?_
    refine c_reg ?_
    refine ow_batch [.fa 149 4 5 fa149_4] rfl ?_
    refine ow_r rfl (dstOk_lt rfl) (ry_box (off := 5) (ds := [.slice a27 p0.Stats_.Totals_.length c28, .slice a29 p0.Stats_.Cells_.length c30]) rfl rfl ty147 (boxIn (i := 0) rfl) rfl rfl) ?_
    refine ow_batch [.p] rfl ?_
    obtain ⟨y36, h37, H⟩ := of_bind H
    refine ow_q rfl rfl (dstOk_lt rfl) (qy_call rfl fn96 rfl (fun w1 hw1 => laws_szStats_ok w1 (cs0 := [.slice a27 p0.Stats_.Totals_.length c28, .slice a29 p0.Stats_.Cells_.length c30]) h37 (rdm_Tlaws_Stats (x := p0.Stats_) (c0 := [.slice a27 p0.Stats_.Totals_.length c28]) (c1 := [.slice a29 p0.Stats_.Cells_.length c30]) (rds_bor g25 w1 hw1) (rds_bor g26 w1 hw1)))) (fun _ _ => trivial) ?_
    refine ow_batch [.p] rfl ?_
    refine ow_nil ?_
    refine x_qs ?_
    refine c_seq ?_
    refine c_seq ?_
    refine c_reg ?_
    refine ow_batch [.p, .p] rfl ?_
    refine ow_nil ?_
    refine x_qs ?_
    refine c_if rfl (fun hb => ?_) (fun hb => ?_)
    · have H := of_if_t hb H
      refine c_seq ?_
      refine c_reg ?_
      refine ow_batch [.p] rfl ?_
      refine ow_nil ?_
      refine x_qs ?_
      refine c_ret ?_
      refine x_qs_ret ?_
      exact x_retR (rs := [.tmp 4]) (vs := [.int .i64 (-1)]) rfl ⟨rfl, trivial⟩ (fun w' hw' => by
          obtain rfl := of_some H
          exact ⟨rfl, hw'.ext⟩)
    · have H := of_if_f hb H
      refine c_skip ?_
      refine x_qs ?_
      refine c_seq ?_
      refine c_reg ?_
      refine ow_batch [.fa 149 6 8 fa149_6] rfl ?_
      refine ow_r rfl (dstOk_lt rfl) (ry_box1 (off := 8) rfl rfl ty82 (boxIn (i := 0) rfl) rfl) ?_
      refine ow_batch [.p] rfl ?_
      obtain ⟨y38, h39, H⟩ := of_bind H
      refine ow_q rfl rfl (dstOk_lt rfl) (qy_call rfl fn49 rfl (fun w1 hw1 => laws_szIntS_ok w1  h39 (rds_bor g17 w1 hw1))) (fun _ _ => trivial) ?_
      refine ow_batch [.p] rfl ?_
      refine ow_nil ?_
      refine x_qs ?_
      refine c_seq ?_
      refine c_seq ?_
      refine c_reg ?_
      refine ow_batch [.p, .p] rfl ?_
      refine ow_nil ?_
      refine x_qs ?_
      refine c_if rfl (fun hb => ?_) (fun hb => ?_)
      · have H := of_if_t hb H
        refine c_seq ?_
        refine c_reg ?_
        refine ow_batch [.p] rfl ?_
        refine ow_nil ?_
        refine x_qs ?_
        refine c_ret ?_
        refine x_qs_ret ?_
        exact x_retR (rs := [.tmp 4]) (vs := [.int .i64 (-1)]) rfl ⟨rfl, trivial⟩ (fun w' hw' => by
            obtain rfl := of_some H
            exact ⟨rfl, hw'.ext⟩)
      · have H := of_if_f hb H
        refine c_skip ?_
        refine x_qs ?_
        refine c_seq ?_
        refine c_reg ?_
        refine ow_batch [.p, .p] rfl ?_
        refine ow_nil ?_
        refine x_qs ?_
        refine c_ret ?_
        exact x_retR (rs := [.tmp 4]) (vs := [.int .i64 y38]) rfl ⟨rfl, trivial⟩ (fun w' hw' => by
            obtain rfl := of_some H
            exact ⟨rfl, hw'.ext⟩)

set_option maxHeartbeats 4000000 in
set_option maxRecDepth 100000 in
theorem laws_szNodeS_ok (w : World) {p0 : List Tlaws_Node} {p1 : Int} {a_0 : Option Addr} {n_0 c_0 : Nat} {r : Int} (H : laws_szNodeS p0 p1 = some r)  (g0 : (eList (eTlaws_Node) 149).rd w [] p0 [.slice a_0 n_0 c_0]) :
    Calls Try.prog 85 #[.slice a_0 n_0 c_0, .int .i64 p1] w (fun en w' => en = .returned (.int .i64 r) ∧ Ext [] w w') := by
  obtain rfl := rd_n g0
  unfold laws_szNodeS at H
  refine f_enter (vs := [.slice a_0 p0.length c_0, .int .i64 p1]) Try.func85 rfl Try.ntmps85 rfl (St.init w []) ?_
  refine c_seq ?_
  refine c_reg ?_
  refine ow_batch [.p] rfl ?_
  refine ow_nil ?_
  refine x_qs ?_
  refine c_seq ?_
  refine c_reg ?_
  refine ow_batch [.p, .p, .lenS 98 149 sl98, .p, .p] rfl ?_
  refine ow_nil ?_
  refine x_qs ?_
  refine c_seq ?_
  refine c_seq ?_
  refine c_reg ?_
  refine ow_batch [.p, .p] rfl ?_
  refine ow_nil ?_
  refine x_qs ?_
  refine c_if rfl (fun hb => ?_) (fun hb => ?_)
  · have H := of_if_t hb H
    refine c_seq ?_
    refine c_reg ?_
    refine ow_batch [.p] rfl ?_
    refine ow_nil ?_
    refine x_qs ?_
    refine c_ret ?_
    refine x_qs_ret ?_
    exact x_retR (rs := [.tmp 4]) (vs := [.int .i64 (-1)]) rfl ⟨rfl, trivial⟩ (fun w' hw' => by
        obtain rfl := of_some H
        exact ⟨rfl, hw'.ext⟩)
  · have H := of_if_f hb H
    refine c_skip ?_
    refine x_qs ?_
    refine c_seq ?_
    refine c_seq ?_
    refine c_reg ?_
    refine ow_batch [.p] rfl ?_
    refine ow_nil ?_
    refine x_qs ?_
    refine c_block ?_
    refine CW.at (loopI2 (fun (i43 : Int) (i44 : Int) => St w [] []) (fun (i43 : Int) (i44 : Int) => [(0, .slice a_0 p0.length c_0), (1, .int .i64 i43), (5, .int .i64 i44)]) (fun kk => fun (i43 : Int) (i44 : Int) => laws_szNodeS_L1 p0 kk i43 i44 = some r) (fun _ _ H => ?_) (fun k1 ihk1 i43 i44 H => ?_) Fuel (IntKind.i64.wrap (p1 - (p0.length : Int))) (0) (H)) (fun _ h => St.sel [] rfl rfl h) ⟨rfl, rfl, rfl,  trivial⟩
    · unfold laws_szNodeS_L1 at H
      exact absurd H (by simp)
    · unfold laws_szNodeS_L1 at H
      refine c_seq ?_
      refine c_seq ?_
      refine c_reg ?_
      refine ow_batch [.p, .p, .lenS 98 149 sl98, .p] rfl ?_
      refine ow_nil ?_
      refine x_qs ?_
      refine c_if rfl (fun hb => ?_) (fun hb => ?_)
      · have H := of_if_t hb H
        refine c_skip ?_
        refine x_qs ?_
        refine c_seq ?_
        refine c_block ?_
        refine c_seq ?_
        refine c_reg ?_
        refine ow_batch [.p, .p] rfl ?_
        obtain ⟨e87, h88, H⟩ := of_bind H
        refine ow_ixB rfl rfl rfl rfl rfl sl98 ty149 rfl g0 h88 (fun q91 c92 hd89 hA90 => ?_)
        obtain ⟨c93, c94, c95, c96, c97, c98, c99, c100, c101, c102, rfl, g103, g104, g105, g106, g107, g108, g109, g110, g111, g112⟩ := rdo_Tlaws_Node hd89
        obtain rfl : c93 = [.bool e87.Leaf_] := g103
        obtain rfl : c94 = [.int .i64 e87.Fork_.Attr_, .int .i64 e87.Fork_.At_] := g104
        obtain ⟨a113, c114, rfl⟩ := rd_sl1 g105
        obtain rfl : c96 = [.int .i64 e87.Miss_] := g106
        obtain ⟨c115, c116, rfl, g117, g118⟩ := rdo_Tlaws_Stats g107
        obtain ⟨a119, c120, rfl⟩ := rd_sl1 g117
        obtain ⟨a121, c122, rfl⟩ := rd_sl1 g118
        obtain rfl : c98 = [.int .i64 e87.Since_] := g108
        obtain ⟨a123, c124, rfl⟩ := rd_sl1 g109
        obtain rfl : c100 = [.int .i64 e87.Depth_] := g110
        obtain rfl : c101 = [.int .i64 e87.Up_] := g111
        obtain rfl : c102 = [.int .i64 e87.Born_] := g112
        refine ow_r rfl (dstOk_lt rfl) (ry_load (cs := [.bool e87.Leaf_, .int .i64 e87.Fork_.Attr_, .int .i64 e87.Fork_.At_, .slice a113 e87.Kids_.length c114, .int .i64 e87.Miss_, .slice a119 e87.Stats_.Totals_.length c120, .slice a121 e87.Stats_.Cells_.length c122, .int .i64 e87.Since_, .slice a123 e87.Attrs_.length c124, .int .i64 e87.Depth_, .int .i64 e87.Up_, .int .i64 e87.Born_]) rfl rfl ty149 (at_bor bor hA90) rfl) ?_
        refine ow_batch [.p] rfl ?_
        obtain ⟨y125, h126, H⟩ := of_bind H
        refine ow_q rfl rfl (dstOk_lt rfl) (qy_call rfl fn93 rfl (fun w1 hw1 => laws_szNode_ok w1 (cs0 := [.bool e87.Leaf_, .int .i64 e87.Fork_.Attr_, .int .i64 e87.Fork_.At_, .slice a113 e87.Kids_.length c114, .int .i64 e87.Miss_, .slice a119 e87.Stats_.Totals_.length c120, .slice a121 e87.Stats_.Cells_.length c122, .int .i64 e87.Since_, .slice a123 e87.Attrs_.length c124, .int .i64 e87.Depth_, .int .i64 e87.Up_, .int .i64 e87.Born_]) h126 (rdm_Tlaws_Node (x := e87) (c0 := [.bool e87.Leaf_]) (c1 := [.int .i64 e87.Fork_.Attr_, .int .i64 e87.Fork_.At_]) (c2 := [.slice a113 e87.Kids_.length c114]) (c3 := [.int .i64 e87.Miss_]) (c4 := [.slice a119 e87.Stats_.Totals_.length c120, .slice a121 e87.Stats_.Cells_.length c122]) (c5 := [.int .i64 e87.Since_]) (c6 := [.slice a123 e87.Attrs_.length c124]) (c7 := [.int .i64 e87.Depth_]) (c8 := [.int .i64 e87.Up_]) (c9 := [.int .i64 e87.Born_]) rfl rfl (rds_bor g105 w1 hw1) rfl (rdm_Tlaws_Stats (x := e87.Stats_) (c0 := [.slice a119 e87.Stats_.Totals_.length c120]) (c1 := [.slice a121 e87.Stats_.Cells_.length c122]) (rds_bor g117 w1 hw1) (rds_bor g118 w1 hw1)) rfl (rds_bor g109 w1 hw1) rfl rfl rfl))) (fun _ _ => trivial) ?_
        refine ow_batch [.p] rfl ?_
        refine ow_nil ?_
        refine x_qs ?_
        refine c_seq ?_
        refine c_reg ?_
        refine ow_batch [.p, .p] rfl ?_
        refine ow_nil ?_
        refine x_qs ?_
        refine c_if rfl (fun hb => ?_) (fun hb => ?_)
        · have H := of_if_t hb H
          refine c_seq ?_
          refine c_reg ?_
          refine ow_batch [.p] rfl ?_
          refine ow_nil ?_
          refine x_qs ?_
          refine c_ret ?_
          refine x_qb_ret ?_
          refine x_qs_ret ?_
          refine x_ql_ret ?_
          refine x_qb_ret ?_
          refine x_qs_ret ?_
          exact x_retR (rs := [.tmp 4]) (vs := [.int .i64 (-1)]) rfl ⟨rfl, trivial⟩ (fun w' hw' => by
              obtain rfl := of_some H
              exact ⟨rfl, hw'.ext⟩)
        · have H := of_if_f hb H
          refine c_skip ?_
          refine x_qb ?_
          refine x_qs ?_
          refine c_reg ?_
          refine ow_batch [.p, .p, .p] rfl ?_
          refine ow_nil ?_
          exact x_ql (RW.at (ihk1 (y125) (IntKind.i64.wrap (i44 + 1)) (H)) (fun _ h => St.sel [] rfl rfl h) ⟨rfl, rfl, rfl, trivial⟩)
      · have H := of_if_f hb H
        refine c_exit ?_
        refine x_qs_exit ?_
        refine x_ql_exit ?_
        refine x_qb_here ?_
        refine x_qs ?_
        refine c_seq ?_
        refine c_reg ?_
        refine ow_batch [.p, .p] rfl ?_
        refine ow_nil ?_
        refine x_qs ?_
        refine c_ret ?_
        exact x_retR (rs := [.tmp 4]) (vs := [.int .i64 i43]) rfl ⟨rfl, trivial⟩ (fun w' hw' => by
            obtain rfl := of_some H
            exact ⟨rfl, hw'.ext⟩)

set_option maxHeartbeats 4000000 in
set_option maxRecDepth 100000 in
theorem laws_szTree_ok (w : World) {p0 : Tlaws_Tree} {p1 : Int} {cs0 : List Value} {r : Int} (H : laws_szTree p0 p1 = some r)  (g0 : (eTlaws_Tree).rd w [] p0 cs0) :
    Calls Try.prog 72 #[.agg cs0.toArray, .int .i64 p1] w (fun en w' => en = .returned (.int .i64 r) ∧ Ext [] w w') := by
  obtain ⟨c1, c2, rfl, g3, g4⟩ := rdo_Tlaws_Tree g0
  obtain ⟨a5, c6, rfl⟩ := rd_sl1 g3
  obtain rfl : c2 = [.int .i64 p0.Seen_] := g4
  unfold laws_szTree at H
  refine f_enter (vs := [.agg #[.slice a5 p0.Nodes_.length c6, .int .i64 p0.Seen_], .int .i64 p1]) Try.func72 rfl Try.ntmps72 rfl (St.init w []) ?_
  refine c_seq ?_
  refine c_reg ?_
  refine ow_box (cs := [.slice a5 p0.Nodes_.length c6, .int .i64 p0.Seen_]) rfl rfl rfl rfl rfl rfl (fun _ => kp) (fun b7 => ?_)
  refine ow_batch [.p] rfl ?_
  refine ow_nil ?_
  refine x_qs ?_
  refine c_seq ?_
  refine c_reg ?_
  refine ow_batch [.fa 100 0 0 fa100_0] rfl ?_
  refine ow_r rfl (dstOk_lt rfl) (ry_box1 (off := 0) rfl rfl ty98 (boxIn (i := 0) rfl) rfl) ?_
  refine ow_batch [.p] rfl ?_
  obtain ⟨y8, h9, H⟩ := of_bind H
  refine ow_q rfl rfl (dstOk_lt rfl) (qy_call rfl fn85 rfl (fun w1 hw1 => laws_szNodeS_ok w1  h9 (rds_bor g3 w1 hw1))) (fun _ _ => trivial) ?_
  refine ow_batch [.p] rfl ?_
  refine ow_nil ?_
  refine x_qs ?_
  refine c_seq ?_
  refine c_seq ?_
  refine c_reg ?_
  refine ow_batch [.p, .p] rfl ?_
  refine ow_nil ?_
  refine x_qs ?_
  refine c_if rfl (fun hb => ?_) (fun hb => ?_)
  · have H := of_if_t hb H
    refine c_seq ?_
    refine c_reg ?_
    refine ow_batch [.p] rfl ?_
    refine ow_nil ?_
    refine x_qs ?_
    refine c_ret ?_
    refine x_qs_ret ?_
    exact x_retR (rs := [.tmp 4]) (vs := [.int .i64 (-1)]) rfl ⟨rfl, trivial⟩ (fun w' hw' => by
        obtain rfl := of_some H
        exact ⟨rfl, hw'.ext⟩)
  · have H := of_if_f hb H
    refine c_skip ?_
    refine x_qs ?_
    refine c_seq ?_
    refine c_reg ?_
    refine ow_batch [.p, .p] rfl ?_
    refine ow_nil ?_
    refine x_qs ?_
    refine c_ret ?_
    exact x_retR (rs := [.tmp 4]) (vs := [.int .i64 y8]) rfl ⟨rfl, trivial⟩ (fun w' hw' => by
        obtain rfl := of_some H
        exact ⟨rfl, hw'.ext⟩)

set_option maxHeartbeats 4000000 in
set_option maxRecDepth 100000 in
theorem laws_szWindow_ok (w : World) {p0 : Tlaws_Window} {p1 : Int} {cs0 : List Value} {r : Int} (H : laws_szWindow p0 p1 = some r)  (g0 : (eTlaws_Window).rd w [] p0 cs0) :
    Calls Try.prog 86 #[.agg cs0.toArray, .int .i64 p1] w (fun en w' => en = .returned (.int .i64 r) ∧ Ext [] w w') := by
  obtain ⟨c1, rfl, g2⟩ := rdo_Tlaws_Window g0
  obtain ⟨a3, c4, rfl⟩ := rd_sl1 g2
  unfold laws_szWindow at H
  refine f_enter (vs := [.agg #[.slice a3 p0.Rows_.length c4], .int .i64 p1]) Try.func86 rfl Try.ntmps86 rfl (St.init w []) ?_
  refine c_seq ?_
  refine c_reg ?_
  refine ow_box (cs := [.slice a3 p0.Rows_.length c4]) rfl rfl rfl rfl rfl rfl (fun _ => kp) (fun b5 => ?_)
  refine ow_batch [.p] rfl ?_
  refine ow_nil ?_
  refine x_qs ?_
  refine c_seq ?_
  refine c_reg ?_
  refine ow_batch [.fa 101 0 0 fa101_0] rfl ?_
  refine ow_r rfl (dstOk_lt rfl) (ry_box1 (off := 0) rfl rfl ty33 (boxIn (i := 0) rfl) rfl) ?_
  refine ow_batch [.p] rfl ?_
  obtain ⟨y6, h7, H⟩ := of_bind H
  refine ow_q rfl rfl (dstOk_lt rfl) (qy_call rfl fn26 rfl (fun w1 hw1 => laws_szIntSS_ok w1  h7 (rds_bor g2 w1 hw1))) (fun _ _ => trivial) ?_
  refine ow_batch [.p] rfl ?_
  refine ow_nil ?_
  refine x_qs ?_
  refine c_seq ?_
  refine c_seq ?_
  refine c_reg ?_
  refine ow_batch [.p, .p] rfl ?_
  refine ow_nil ?_
  refine x_qs ?_
  refine c_if rfl (fun hb => ?_) (fun hb => ?_)
  · have H := of_if_t hb H
    refine c_seq ?_
    refine c_reg ?_
    refine ow_batch [.p] rfl ?_
    refine ow_nil ?_
    refine x_qs ?_
    refine c_ret ?_
    refine x_qs_ret ?_
    exact x_retR (rs := [.tmp 4]) (vs := [.int .i64 (-1)]) rfl ⟨rfl, trivial⟩ (fun w' hw' => by
        obtain rfl := of_some H
        exact ⟨rfl, hw'.ext⟩)
  · have H := of_if_f hb H
    refine c_skip ?_
    refine x_qs ?_
    refine c_seq ?_
    refine c_reg ?_
    refine ow_batch [.p, .p] rfl ?_
    refine ow_nil ?_
    refine x_qs ?_
    refine c_ret ?_
    exact x_retR (rs := [.tmp 4]) (vs := [.int .i64 y6]) rfl ⟨rfl, trivial⟩ (fun w' hw' => by
        obtain rfl := of_some H
        exact ⟨rfl, hw'.ext⟩)

set_option maxHeartbeats 4000000 in
set_option maxRecDepth 100000 in
theorem laws_szDet_ok (w : World) {p0 : Tlaws_Det} {p1 : Int} {cs0 : List Value} {r : Int} (H : laws_szDet p0 p1 = some r)  (g0 : (eTlaws_Det).rd w [] p0 cs0) :
    Calls Try.prog 73 #[.agg cs0.toArray, .int .i64 p1] w (fun en w' => en = .returned (.int .i64 r) ∧ Ext [] w w') := by
  obtain ⟨c1, c2, rfl, g3, g4⟩ := rdo_Tlaws_Det g0
  obtain ⟨c5, rfl, g6⟩ := rdo_Tlaws_Window g3
  obtain ⟨a7, c8, rfl⟩ := rd_sl1 g6
  obtain ⟨c9, rfl, g10⟩ := rdo_Tlaws_Window g4
  obtain ⟨a11, c12, rfl⟩ := rd_sl1 g10
  unfold laws_szDet at H
  refine f_enter (vs := [.agg #[.slice a7 p0.Warn_.Rows_.length c8, .slice a11 p0.Drift_.Rows_.length c12], .int .i64 p1]) Try.func73 rfl Try.ntmps73 rfl (St.init w []) ?_
  refine c_seq ?_
  refine c_reg ?_
  refine ow_box (cs := [.slice a7 p0.Warn_.Rows_.length c8, .slice a11 p0.Drift_.Rows_.length c12]) rfl rfl rfl rfl rfl rfl (fun _ => kp) (fun b13 => ?_)
  refine ow_batch [.p] rfl ?_
  refine ow_nil ?_
  refine x_qs ?_
  refine c_seq ?_
  refine c_reg ?_
  refine ow_batch [.fa 103 0 0 fa103_0] rfl ?_
  refine ow_r rfl (dstOk_lt rfl) (ry_box (off := 0) (ds := [.slice a7 p0.Warn_.Rows_.length c8]) rfl rfl ty101 (boxIn (i := 0) rfl) rfl rfl) ?_
  refine ow_batch [.p] rfl ?_
  obtain ⟨y14, h15, H⟩ := of_bind H
  refine ow_q rfl rfl (dstOk_lt rfl) (qy_call rfl fn86 rfl (fun w1 hw1 => laws_szWindow_ok w1 (cs0 := [.slice a7 p0.Warn_.Rows_.length c8]) h15 (rdm_Tlaws_Window (x := p0.Warn_) (c0 := [.slice a7 p0.Warn_.Rows_.length c8]) (rds_bor g6 w1 hw1)))) (fun _ _ => trivial) ?_
  refine ow_batch [.p] rfl ?_
  refine ow_nil ?_
  refine x_qs ?_
  refine c_seq ?_
  refine c_seq ?_
  refine c_reg ?_
  refine ow_batch [.p, .p] rfl ?_
  refine ow_nil ?_
  refine x_qs ?_
  refine c_if rfl (fun hb => ?_) (fun hb => ?_)
  · have H := of_if_t hb H
    refine c_seq ?_
    refine c_reg ?_
    refine ow_batch [.p] rfl ?_
    refine ow_nil ?_
    refine x_qs ?_
    refine c_ret ?_
    refine x_qs_ret ?_
    exact x_retR (rs := [.tmp 4]) (vs := [.int .i64 (-1)]) rfl ⟨rfl, trivial⟩ (fun w' hw' => by
        obtain rfl := of_some H
        exact ⟨rfl, hw'.ext⟩)
  · have H := of_if_f hb H
    refine c_skip ?_
    refine x_qs ?_
    refine c_seq ?_
    refine c_reg ?_
    refine ow_batch [.fa 103 1 1 fa103_1] rfl ?_
    refine ow_r rfl (dstOk_lt rfl) (ry_box (off := 1) (ds := [.slice a11 p0.Drift_.Rows_.length c12]) rfl rfl ty101 (boxIn (i := 0) rfl) rfl rfl) ?_
    refine ow_batch [.p] rfl ?_
    obtain ⟨y16, h17, H⟩ := of_bind H
    refine ow_q rfl rfl (dstOk_lt rfl) (qy_call rfl fn86 rfl (fun w1 hw1 => laws_szWindow_ok w1 (cs0 := [.slice a11 p0.Drift_.Rows_.length c12]) h17 (rdm_Tlaws_Window (x := p0.Drift_) (c0 := [.slice a11 p0.Drift_.Rows_.length c12]) (rds_bor g10 w1 hw1)))) (fun _ _ => trivial) ?_
    refine ow_batch [.p] rfl ?_
    refine ow_nil ?_
    refine x_qs ?_
    refine c_seq ?_
    refine c_seq ?_
    refine c_reg ?_
    refine ow_batch [.p, .p] rfl ?_
    refine ow_nil ?_
    refine x_qs ?_
    refine c_if rfl (fun hb => ?_) (fun hb => ?_)
    · have H := of_if_t hb H
      refine c_seq ?_
      refine c_reg ?_
      refine ow_batch [.p] rfl ?_
      refine ow_nil ?_
      refine x_qs ?_
      refine c_ret ?_
      refine x_qs_ret ?_
      exact x_retR (rs := [.tmp 4]) (vs := [.int .i64 (-1)]) rfl ⟨rfl, trivial⟩ (fun w' hw' => by
          obtain rfl := of_some H
          exact ⟨rfl, hw'.ext⟩)
    · have H := of_if_f hb H
      refine c_skip ?_
      refine x_qs ?_
      refine c_seq ?_
      refine c_reg ?_
      refine ow_batch [.p, .p] rfl ?_
      refine ow_nil ?_
      refine x_qs ?_
      refine c_ret ?_
      exact x_retR (rs := [.tmp 4]) (vs := [.int .i64 y16]) rfl ⟨rfl, trivial⟩ (fun w' hw' => by
          obtain rfl := of_some H
          exact ⟨rfl, hw'.ext⟩)

set_option maxHeartbeats 4000000 in
set_option maxRecDepth 100000 in
theorem laws_szMember_ok (w : World) {p0 : Tlaws_Member} {p1 : Int} {cs0 : List Value} {r : Int} (H : laws_szMember p0 p1 = some r)  (g0 : (eTlaws_Member).rd w [] p0 cs0) :
    Calls Try.prog 48 #[.agg cs0.toArray, .int .i64 p1] w (fun en w' => en = .returned (.int .i64 r) ∧ Ext [] w w') := by
  obtain ⟨c1, c2, c3, c4, rfl, g5, g6, g7, g8⟩ := rdo_Tlaws_Member g0
  obtain ⟨c9, c10, rfl, g11, g12⟩ := rdo_Tlaws_Tree g5
  obtain ⟨a13, c14, rfl⟩ := rd_sl1 g11
  obtain rfl : c10 = [.int .i64 p0.Tree_.Seen_] := g12
  obtain rfl : c2 = [.bool p0.HasYoung_] := g6
  obtain ⟨c15, c16, rfl, g17, g18⟩ := rdo_Tlaws_Tree g7
  obtain ⟨a19, c20, rfl⟩ := rd_sl1 g17
  obtain rfl : c16 = [.int .i64 p0.Young_.Seen_] := g18
  obtain ⟨c21, c22, rfl, g23, g24⟩ := rdo_Tlaws_Det g8
  obtain ⟨c25, rfl, g26⟩ := rdo_Tlaws_Window g23
  obtain ⟨a27, c28, rfl⟩ := rd_sl1 g26
  obtain ⟨c29, rfl, g30⟩ := rdo_Tlaws_Window g24
  obtain ⟨a31, c32, rfl⟩ := rd_sl1 g30
  unfold laws_szMember at H
  refine f_enter (vs := [.agg #[.slice a13 p0.Tree_.Nodes_.length c14, .int .i64 p0.Tree_.Seen_, .bool p0.HasYoung_, .slice a19 p0.Young_.Nodes_.length c20, .int .i64 p0.Young_.Seen_, .slice a27 p0.Det_.Warn_.Rows_.length c28, .slice a31 p0.Det_.Drift_.Rows_.length c32], .int .i64 p1]) Try.func48 rfl Try.ntmps48 rfl (St.init w []) ?_
  refine c_seq ?_
  refine c_reg ?_
  refine ow_box (cs := [.slice a13 p0.Tree_.Nodes_.length c14, .int .i64 p0.Tree_.Seen_, .bool p0.HasYoung_, .slice a19 p0.Young_.Nodes_.length c20, .int .i64 p0.Young_.Seen_, .slice a27 p0.Det_.Warn_.Rows_.length c28, .slice a31 p0.Det_.Drift_.Rows_.length c32]) rfl rfl rfl rfl rfl rfl (fun _ => kp) (fun b33 => ?_)
  refine ow_batch [.p] rfl ?_
  refine ow_nil ?_
  refine x_qs ?_
  refine c_seq ?_
  refine c_reg ?_
  refine ow_batch [.fa 105 0 0 fa105_0] rfl ?_
  refine ow_r rfl (dstOk_lt rfl) (ry_box (off := 0) (ds := [.slice a13 p0.Tree_.Nodes_.length c14, .int .i64 p0.Tree_.Seen_]) rfl rfl ty100 (boxIn (i := 0) rfl) rfl rfl) ?_
  refine ow_batch [.p] rfl ?_
  obtain ⟨y34, h35, H⟩ := of_bind H
  refine ow_q rfl rfl (dstOk_lt rfl) (qy_call rfl fn72 rfl (fun w1 hw1 => laws_szTree_ok w1 (cs0 := [.slice a13 p0.Tree_.Nodes_.length c14, .int .i64 p0.Tree_.Seen_]) h35 (rdm_Tlaws_Tree (x := p0.Tree_) (c0 := [.slice a13 p0.Tree_.Nodes_.length c14]) (c1 := [.int .i64 p0.Tree_.Seen_]) (rds_bor g11 w1 hw1) rfl))) (fun _ _ => trivial) ?_
  refine ow_batch [.p] rfl ?_
  refine ow_nil ?_
  refine x_qs ?_
  refine c_seq ?_
  refine c_seq ?_
  refine c_reg ?_
  refine ow_batch [.p, .p] rfl ?_
  refine ow_nil ?_
  refine x_qs ?_
  refine c_if rfl (fun hb => ?_) (fun hb => ?_)
  · have H := of_if_t hb H
    refine c_seq ?_
    refine c_reg ?_
    refine ow_batch [.p] rfl ?_
    refine ow_nil ?_
    refine x_qs ?_
    refine c_ret ?_
    refine x_qs_ret ?_
    exact x_retR (rs := [.tmp 4]) (vs := [.int .i64 (-1)]) rfl ⟨rfl, trivial⟩ (fun w' hw' => by
        obtain rfl := of_some H
        exact ⟨rfl, hw'.ext⟩)
  · have H := of_if_f hb H
    refine c_skip ?_
    refine x_qs ?_
    refine c_seq ?_
    refine c_reg ?_
    refine ow_batch [.fa 105 2 3 fa105_2] rfl ?_
    refine ow_r rfl (dstOk_lt rfl) (ry_box (off := 3) (ds := [.slice a19 p0.Young_.Nodes_.length c20, .int .i64 p0.Young_.Seen_]) rfl rfl ty100 (boxIn (i := 0) rfl) rfl rfl) ?_
    refine ow_batch [.p] rfl ?_
    obtain ⟨y36, h37, H⟩ := of_bind H
    refine ow_q rfl rfl (dstOk_lt rfl) (qy_call rfl fn72 rfl (fun w1 hw1 => laws_szTree_ok w1 (cs0 := [.slice a19 p0.Young_.Nodes_.length c20, .int .i64 p0.Young_.Seen_]) h37 (rdm_Tlaws_Tree (x := p0.Young_) (c0 := [.slice a19 p0.Young_.Nodes_.length c20]) (c1 := [.int .i64 p0.Young_.Seen_]) (rds_bor g17 w1 hw1) rfl))) (fun _ _ => trivial) ?_
    refine ow_batch [.p] rfl ?_
    refine ow_nil ?_
    refine x_qs ?_
    refine c_seq ?_
    refine c_seq ?_
    refine c_reg ?_
    refine ow_batch [.p, .p] rfl ?_
    refine ow_nil ?_
    refine x_qs ?_
    refine c_if rfl (fun hb => ?_) (fun hb => ?_)
    · have H := of_if_t hb H
      refine c_seq ?_
      refine c_reg ?_
      refine ow_batch [.p] rfl ?_
      refine ow_nil ?_
      refine x_qs ?_
      refine c_ret ?_
      refine x_qs_ret ?_
      exact x_retR (rs := [.tmp 4]) (vs := [.int .i64 (-1)]) rfl ⟨rfl, trivial⟩ (fun w' hw' => by
          obtain rfl := of_some H
          exact ⟨rfl, hw'.ext⟩)
    · have H := of_if_f hb H
      refine c_skip ?_
      refine x_qs ?_
      refine c_seq ?_
      refine c_reg ?_
      refine ow_batch [.fa 105 3 5 fa105_3] rfl ?_
      refine ow_r rfl (dstOk_lt rfl) (ry_box (off := 5) (ds := [.slice a27 p0.Det_.Warn_.Rows_.length c28, .slice a31 p0.Det_.Drift_.Rows_.length c32]) rfl rfl ty103 (boxIn (i := 0) rfl) rfl rfl) ?_
      refine ow_batch [.p] rfl ?_
      obtain ⟨y38, h39, H⟩ := of_bind H
      refine ow_q rfl rfl (dstOk_lt rfl) (qy_call rfl fn73 rfl (fun w1 hw1 => laws_szDet_ok w1 (cs0 := [.slice a27 p0.Det_.Warn_.Rows_.length c28, .slice a31 p0.Det_.Drift_.Rows_.length c32]) h39 (rdm_Tlaws_Det (x := p0.Det_) (c0 := [.slice a27 p0.Det_.Warn_.Rows_.length c28]) (c1 := [.slice a31 p0.Det_.Drift_.Rows_.length c32]) (rdm_Tlaws_Window (x := p0.Det_.Warn_) (c0 := [.slice a27 p0.Det_.Warn_.Rows_.length c28]) (rds_bor g26 w1 hw1)) (rdm_Tlaws_Window (x := p0.Det_.Drift_) (c0 := [.slice a31 p0.Det_.Drift_.Rows_.length c32]) (rds_bor g30 w1 hw1))))) (fun _ _ => trivial) ?_
      refine ow_batch [.p] rfl ?_
      refine ow_nil ?_
      refine x_qs ?_
      refine c_seq ?_
      refine c_seq ?_
      refine c_reg ?_
      refine ow_batch [.p, .p] rfl ?_
      refine ow_nil ?_
      refine x_qs ?_
      refine c_if rfl (fun hb => ?_) (fun hb => ?_)
      · have H := of_if_t hb H
        refine c_seq ?_
        refine c_reg ?_
        refine ow_batch [.p] rfl ?_
        refine ow_nil ?_
        refine x_qs ?_
        refine c_ret ?_
        refine x_qs_ret ?_
        exact x_retR (rs := [.tmp 4]) (vs := [.int .i64 (-1)]) rfl ⟨rfl, trivial⟩ (fun w' hw' => by
            obtain rfl := of_some H
            exact ⟨rfl, hw'.ext⟩)
      · have H := of_if_f hb H
        refine c_skip ?_
        refine x_qs ?_
        refine c_seq ?_
        refine c_reg ?_
        refine ow_batch [.p, .p] rfl ?_
        refine ow_nil ?_
        refine x_qs ?_
        refine c_ret ?_
        exact x_retR (rs := [.tmp 4]) (vs := [.int .i64 y38]) rfl ⟨rfl, trivial⟩ (fun w' hw' => by
            obtain rfl := of_some H
            exact ⟨rfl, hw'.ext⟩)

set_option maxHeartbeats 4000000 in
set_option maxRecDepth 100000 in
theorem laws_szMemberS_ok (w : World) {p0 : List Tlaws_Member} {p1 : Int} {a_0 : Option Addr} {n_0 c_0 : Nat} {r : Int} (H : laws_szMemberS p0 p1 = some r)  (g0 : (eList (eTlaws_Member) 105).rd w [] p0 [.slice a_0 n_0 c_0]) :
    Calls Try.prog 25 #[.slice a_0 n_0 c_0, .int .i64 p1] w (fun en w' => en = .returned (.int .i64 r) ∧ Ext [] w w') := by
  obtain rfl := rd_n g0
  unfold laws_szMemberS at H
  refine f_enter (vs := [.slice a_0 p0.length c_0, .int .i64 p1]) Try.func25 rfl Try.ntmps25 rfl (St.init w []) ?_
  refine c_seq ?_
  refine c_reg ?_
  refine ow_batch [.p] rfl ?_
  refine ow_nil ?_
  refine x_qs ?_
  refine c_seq ?_
  refine c_reg ?_
  refine ow_batch [.p, .p, .lenS 30 105 sl30, .p, .p] rfl ?_
  refine ow_nil ?_
  refine x_qs ?_
  refine c_seq ?_
  refine c_seq ?_
  refine c_reg ?_
  refine ow_batch [.p, .p] rfl ?_
  refine ow_nil ?_
  refine x_qs ?_
  refine c_if rfl (fun hb => ?_) (fun hb => ?_)
  · have H := of_if_t hb H
    refine c_seq ?_
    refine c_reg ?_
    refine ow_batch [.p] rfl ?_
    refine ow_nil ?_
    refine x_qs ?_
    refine c_ret ?_
    refine x_qs_ret ?_
    exact x_retR (rs := [.tmp 4]) (vs := [.int .i64 (-1)]) rfl ⟨rfl, trivial⟩ (fun w' hw' => by
        obtain rfl := of_some H
        exact ⟨rfl, hw'.ext⟩)
  · have H := of_if_f hb H
    refine c_skip ?_
    refine x_qs ?_
    refine c_seq ?_
    refine c_seq ?_
    refine c_reg ?_
    refine ow_batch [.p] rfl ?_
    refine ow_nil ?_
    refine x_qs ?_
    refine c_block ?_
    refine CW.at (loopI2 (fun (i43 : Int) (i44 : Int) => St w [] []) (fun (i43 : Int) (i44 : Int) => [(0, .slice a_0 p0.length c_0), (1, .int .i64 i43), (5, .int .i64 i44)]) (fun kk => fun (i43 : Int) (i44 : Int) => laws_szMemberS_L1 p0 kk i43 i44 = some r) (fun _ _ H => ?_) (fun k1 ihk1 i43 i44 H => ?_) Fuel (IntKind.i64.wrap (p1 - (p0.length : Int))) (0) (H)) (fun _ h => St.sel [] rfl rfl h) ⟨rfl, rfl, rfl,  trivial⟩
    · unfold laws_szMemberS_L1 at H
      exact absurd H (by simp)
    · unfold laws_szMemberS_L1 at H
      refine c_seq ?_
      refine c_seq ?_
      refine c_reg ?_
      refine ow_batch [.p, .p, .lenS 30 105 sl30, .p] rfl ?_
      refine ow_nil ?_
      refine x_qs ?_
      refine c_if rfl (fun hb => ?_) (fun hb => ?_)
      · have H := of_if_t hb H
        refine c_skip ?_
        refine x_qs ?_
        refine c_seq ?_
        refine c_block ?_
        refine c_seq ?_
        refine c_reg ?_
        refine ow_batch [.p, .p] rfl ?_
        obtain ⟨e87, h88, H⟩ := of_bind H
        refine ow_ixB rfl rfl rfl rfl rfl sl30 ty105 rfl g0 h88 (fun q91 c92 hd89 hA90 => ?_)
        obtain ⟨c93, c94, c95, c96, rfl, g97, g98, g99, g100⟩ := rdo_Tlaws_Member hd89
        obtain ⟨c101, c102, rfl, g103, g104⟩ := rdo_Tlaws_Tree g97
        obtain ⟨a105, c106, rfl⟩ := rd_sl1 g103
        obtain rfl : c102 = [.int .i64 e87.Tree_.Seen_] := g104
        obtain rfl : c94 = [.bool e87.HasYoung_] := g98
        obtain ⟨c107, c108, rfl, g109, g110⟩ := rdo_Tlaws_Tree g99
        obtain ⟨a111, c112, rfl⟩ := rd_sl1 g109
        obtain rfl : c108 = [.int .i64 e87.Young_.Seen_] := g110
        obtain ⟨c113, c114, rfl, g115, g116⟩ := rdo_Tlaws_Det g100
        obtain ⟨c117, rfl, g118⟩ := rdo_Tlaws_Window g115
        obtain ⟨a119, c120, rfl⟩ := rd_sl1 g118
        obtain ⟨c121, rfl, g122⟩ := rdo_Tlaws_Window g116
        obtain ⟨a123, c124, rfl⟩ := rd_sl1 g122
        refine ow_r rfl (dstOk_lt rfl) (ry_load (cs := [.slice a105 e87.Tree_.Nodes_.length c106, .int .i64 e87.Tree_.Seen_, .bool e87.HasYoung_, .slice a111 e87.Young_.Nodes_.length c112, .int .i64 e87.Young_.Seen_, .slice a119 e87.Det_.Warn_.Rows_.length c120, .slice a123 e87.Det_.Drift_.Rows_.length c124]) rfl rfl ty105 (at_bor bor hA90) rfl) ?_
        refine ow_batch [.p] rfl ?_
        obtain ⟨y125, h126, H⟩ := of_bind H
        refine ow_q rfl rfl (dstOk_lt rfl) (qy_call rfl fn48 rfl (fun w1 hw1 => laws_szMember_ok w1 (cs0 := [.slice a105 e87.Tree_.Nodes_.length c106, .int .i64 e87.Tree_.Seen_, .bool e87.HasYoung_, .slice a111 e87.Young_.Nodes_.length c112, .int .i64 e87.Young_.Seen_, .slice a119 e87.Det_.Warn_.Rows_.length c120, .slice a123 e87.Det_.Drift_.Rows_.length c124]) h126 (rdm_Tlaws_Member (x := e87) (c0 := [.slice a105 e87.Tree_.Nodes_.length c106, .int .i64 e87.Tree_.Seen_]) (c1 := [.bool e87.HasYoung_]) (c2 := [.slice a111 e87.Young_.Nodes_.length c112, .int .i64 e87.Young_.Seen_]) (c3 := [.slice a119 e87.Det_.Warn_.Rows_.length c120, .slice a123 e87.Det_.Drift_.Rows_.length c124]) (rdm_Tlaws_Tree (x := e87.Tree_) (c0 := [.slice a105 e87.Tree_.Nodes_.length c106]) (c1 := [.int .i64 e87.Tree_.Seen_]) (rds_bor g103 w1 hw1) rfl) rfl (rdm_Tlaws_Tree (x := e87.Young_) (c0 := [.slice a111 e87.Young_.Nodes_.length c112]) (c1 := [.int .i64 e87.Young_.Seen_]) (rds_bor g109 w1 hw1) rfl) (rdm_Tlaws_Det (x := e87.Det_) (c0 := [.slice a119 e87.Det_.Warn_.Rows_.length c120]) (c1 := [.slice a123 e87.Det_.Drift_.Rows_.length c124]) (rdm_Tlaws_Window (x := e87.Det_.Warn_) (c0 := [.slice a119 e87.Det_.Warn_.Rows_.length c120]) (rds_bor g118 w1 hw1)) (rdm_Tlaws_Window (x := e87.Det_.Drift_) (c0 := [.slice a123 e87.Det_.Drift_.Rows_.length c124]) (rds_bor g122 w1 hw1)))))) (fun _ _ => trivial) ?_
        refine ow_batch [.p] rfl ?_
        refine ow_nil ?_
        refine x_qs ?_
        refine c_seq ?_
        refine c_reg ?_
        refine ow_batch [.p, .p] rfl ?_
        refine ow_nil ?_
        refine x_qs ?_
        refine c_if rfl (fun hb => ?_) (fun hb => ?_)
        · have H := of_if_t hb H
          refine c_seq ?_
          refine c_reg ?_
          refine ow_batch [.p] rfl ?_
          refine ow_nil ?_
          refine x_qs ?_
          refine c_ret ?_
          refine x_qb_ret ?_
          refine x_qs_ret ?_
          refine x_ql_ret ?_
          refine x_qb_ret ?_
          refine x_qs_ret ?_
          exact x_retR (rs := [.tmp 4]) (vs := [.int .i64 (-1)]) rfl ⟨rfl, trivial⟩ (fun w' hw' => by
              obtain rfl := of_some H
              exact ⟨rfl, hw'.ext⟩)
        · have H := of_if_f hb H
          refine c_skip ?_
          refine x_qb ?_
          refine x_qs ?_
          refine c_reg ?_
          refine ow_batch [.p, .p, .p] rfl ?_
          refine ow_nil ?_
          exact x_ql (RW.at (ihk1 (y125) (IntKind.i64.wrap (i44 + 1)) (H)) (fun _ h => St.sel [] rfl rfl h) ⟨rfl, rfl, rfl, trivial⟩)
      · have H := of_if_f hb H
        refine c_exit ?_
        refine x_qs_exit ?_
        refine x_ql_exit ?_
        refine x_qb_here ?_
        refine x_qs ?_
        refine c_seq ?_
        refine c_reg ?_
        refine ow_batch [.p, .p] rfl ?_
        refine ow_nil ?_
        refine x_qs ?_
        refine c_ret ?_
        exact x_retR (rs := [.tmp 4]) (vs := [.int .i64 i43]) rfl ⟨rfl, trivial⟩ (fun w' hw' => by
            obtain rfl := of_some H
            exact ⟨rfl, hw'.ext⟩)

set_option maxHeartbeats 4000000 in
set_option maxRecDepth 100000 in
theorem laws_szForest_ok (w : World) {p0 : Tlaws_Forest} {p1 : Int} {cs0 : List Value} {r : Int} (H : laws_szForest p0 p1 = some r)  (g0 : (eTlaws_Forest).rd w [] p0 cs0) :
    Calls Try.prog 10 #[.agg cs0.toArray, .int .i64 p1] w (fun en w' => en = .returned (.int .i64 r) ∧ Ext [] w w') := by
  obtain ⟨c1, rfl, g2⟩ := rdo_Tlaws_Forest g0
  obtain ⟨a3, c4, rfl⟩ := rd_sl1 g2
  unfold laws_szForest at H
  refine f_enter (vs := [.agg #[.slice a3 p0.Members_.length c4], .int .i64 p1]) Try.func10 rfl Try.ntmps10 rfl (St.init w []) ?_
  refine c_seq ?_
  refine c_reg ?_
  refine ow_box (cs := [.slice a3 p0.Members_.length c4]) rfl rfl rfl rfl rfl rfl (fun _ => kp) (fun b5 => ?_)
  refine ow_batch [.p] rfl ?_
  refine ow_nil ?_
  refine x_qs ?_
  refine c_seq ?_
  refine c_reg ?_
  refine ow_batch [.fa 32 0 0 fa32_0] rfl ?_
  refine ow_r rfl (dstOk_lt rfl) (ry_box1 (off := 0) rfl rfl ty30 (boxIn (i := 0) rfl) rfl) ?_
  refine ow_batch [.p] rfl ?_
  obtain ⟨y6, h7, H⟩ := of_bind H
  refine ow_q rfl rfl (dstOk_lt rfl) (qy_call rfl fn25 rfl (fun w1 hw1 => laws_szMemberS_ok w1  h7 (rds_bor g2 w1 hw1))) (fun _ _ => trivial) ?_
  refine ow_batch [.p] rfl ?_
  refine ow_nil ?_
  refine x_qs ?_
  refine c_seq ?_
  refine c_seq ?_
  refine c_reg ?_
  refine ow_batch [.p, .p] rfl ?_
  refine ow_nil ?_
  refine x_qs ?_
  refine c_if rfl (fun hb => ?_) (fun hb => ?_)
  · have H := of_if_t hb H
    refine c_seq ?_
    refine c_reg ?_
    refine ow_batch [.p] rfl ?_
    refine ow_nil ?_
    refine x_qs ?_
    refine c_ret ?_
    refine x_qs_ret ?_
    exact x_retR (rs := [.tmp 4]) (vs := [.int .i64 (-1)]) rfl ⟨rfl, trivial⟩ (fun w' hw' => by
        obtain rfl := of_some H
        exact ⟨rfl, hw'.ext⟩)
  · have H := of_if_f hb H
    refine c_skip ?_
    refine x_qs ?_
    refine c_seq ?_
    refine c_reg ?_
    refine ow_batch [.p, .p] rfl ?_
    refine ow_nil ?_
    refine x_qs ?_
    refine c_ret ?_
    exact x_retR (rs := [.tmp 4]) (vs := [.int .i64 y6]) rfl ⟨rfl, trivial⟩ (fun w' hw' => by
        obtain rfl := of_some H
        exact ⟨rfl, hw'.ext⟩)

set_option maxHeartbeats 4000000 in
set_option maxRecDepth 100000 in
theorem laws_szPairS_ok (w : World) {p0 : List Tlaws_Pair} {p1 : Int} {a_0 : Option Addr} {n_0 c_0 : Nat} {r : Int} (H : laws_szPairS p0 p1 = some r)  (g0 : (eList (eTlaws_Pair) 117).rd w [] p0 [.slice a_0 n_0 c_0]) :
    Calls Try.prog 27 #[.slice a_0 n_0 c_0, .int .i64 p1] w (fun en w' => en = .returned (.int .i64 r) ∧ Ext [] w w') := by
  obtain rfl := rd_n g0
  unfold laws_szPairS at H
  refine f_enter (vs := [.slice a_0 p0.length c_0, .int .i64 p1]) Try.func27 rfl Try.ntmps27 rfl (St.init w []) ?_
  refine c_seq ?_
  refine c_reg ?_
  refine ow_batch [.p] rfl ?_
  refine ow_nil ?_
  refine x_qs ?_
  refine c_seq ?_
  refine c_reg ?_
  refine ow_batch [.p, .p, .lenS 34 117 sl34, .p, .p] rfl ?_
  refine ow_nil ?_
  refine x_qs ?_
  refine c_seq ?_
  refine c_seq ?_
  refine c_reg ?_
  refine ow_batch [.p, .p] rfl ?_
  refine ow_nil ?_
  refine x_qs ?_
  refine c_if rfl (fun hb => ?_) (fun hb => ?_)
  · have H := of_if_t hb H
    refine c_seq ?_
    refine c_reg ?_
    refine ow_batch [.p] rfl ?_
    refine ow_nil ?_
    refine x_qs ?_
    refine c_ret ?_
    refine x_qs_ret ?_
    exact x_retR (rs := [.tmp 4]) (vs := [.int .i64 (-1)]) rfl ⟨rfl, trivial⟩ (fun w' hw' => by
        obtain rfl := of_some H
        exact ⟨rfl, hw'.ext⟩)
  · have H := of_if_f hb H
    refine c_skip ?_
    refine x_qs ?_
    refine c_seq ?_
    refine c_reg ?_
    refine ow_batch [.p, .p] rfl ?_
    refine ow_nil ?_
    refine x_qs ?_
    refine c_ret ?_
    exact x_retR (rs := [.tmp 4]) (vs := [.int .i64 (IntKind.i64.wrap (p1 - (p0.length : Int)))]) rfl ⟨rfl, trivial⟩ (fun w' hw' => by
        obtain rfl := of_some H
        exact ⟨rfl, hw'.ext⟩)

set_option maxHeartbeats 4000000 in
set_option maxRecDepth 100000 in
theorem laws_szScore_ok (w : World) {p0 : Tlaws_Score} {p1 : Int} {cs0 : List Value} {r : Int} (H : laws_szScore p0 p1 = some r)  (g0 : (eTlaws_Score).rd w [] p0 cs0) :
    Calls Try.prog 11 #[.agg cs0.toArray, .int .i64 p1] w (fun en w' => en = .returned (.int .i64 r) ∧ Ext [] w w') := by
  obtain ⟨c1, c2, rfl, g3, g4⟩ := rdo_Tlaws_Score g0
  obtain ⟨a5, c6, rfl⟩ := rd_sl1 g3
  obtain ⟨a7, c8, rfl⟩ := rd_sl1 g4
  unfold laws_szScore at H
  refine f_enter (vs := [.agg #[.slice a5 p0.Table_.length c6, .slice a7 p0.Last_.length c8], .int .i64 p1]) Try.func11 rfl Try.ntmps11 rfl (St.init w []) ?_
  refine c_seq ?_
  refine c_reg ?_
  refine ow_box (cs := [.slice a5 p0.Table_.length c6, .slice a7 p0.Last_.length c8]) rfl rfl rfl rfl rfl rfl (fun _ => kp) (fun b9 => ?_)
  refine ow_batch [.p] rfl ?_
  refine ow_nil ?_
  refine x_qs ?_
  refine c_seq ?_
  refine c_reg ?_
  refine ow_batch [.fa 36 0 0 fa36_0] rfl ?_
  refine ow_r rfl (dstOk_lt rfl) (ry_box1 (off := 0) rfl rfl ty33 (boxIn (i := 0) rfl) rfl) ?_
  refine ow_batch [.p] rfl ?_
  obtain ⟨y10, h11, H⟩ := of_bind H
  refine ow_q rfl rfl (dstOk_lt rfl) (qy_call rfl fn26 rfl (fun w1 hw1 => laws_szIntSS_ok w1  h11 (rds_bor g3 w1 hw1))) (fun _ _ => trivial) ?_
  refine ow_batch [.p] rfl ?_
  refine ow_nil ?_
  refine x_qs ?_
  refine c_seq ?_
  refine c_seq ?_
  refine c_reg ?_
  refine ow_batch [.p, .p] rfl ?_
  refine ow_nil ?_
  refine x_qs ?_
  refine c_if rfl (fun hb => ?_) (fun hb => ?_)
  · have H := of_if_t hb H
    refine c_seq ?_
    refine c_reg ?_
    refine ow_batch [.p] rfl ?_
    refine ow_nil ?_
    refine x_qs ?_
    refine c_ret ?_
    refine x_qs_ret ?_
    exact x_retR (rs := [.tmp 4]) (vs := [.int .i64 (-1)]) rfl ⟨rfl, trivial⟩ (fun w' hw' => by
        obtain rfl := of_some H
        exact ⟨rfl, hw'.ext⟩)
  · have H := of_if_f hb H
    refine c_skip ?_
    refine x_qs ?_
    refine c_seq ?_
    refine c_reg ?_
    refine ow_batch [.fa 36 1 1 fa36_1] rfl ?_
    refine ow_r rfl (dstOk_lt rfl) (ry_box1 (off := 1) rfl rfl ty34 (boxIn (i := 0) rfl) rfl) ?_
    refine ow_batch [.p] rfl ?_
    obtain ⟨y12, h13, H⟩ := of_bind H
    refine ow_q rfl rfl (dstOk_lt rfl) (qy_call rfl fn27 rfl (fun w1 hw1 => laws_szPairS_ok w1  h13 (rds_bor g4 w1 hw1))) (fun _ _ => trivial) ?_
    refine ow_batch [.p] rfl ?_
    refine ow_nil ?_
    refine x_qs ?_
    refine c_seq ?_
    refine c_seq ?_
    refine c_reg ?_
    refine ow_batch [.p, .p] rfl ?_
    refine ow_nil ?_
    refine x_qs ?_
    refine c_if rfl (fun hb => ?_) (fun hb => ?_)
    · have H := of_if_t hb H
      refine c_seq ?_
      refine c_reg ?_
      refine ow_batch [.p] rfl ?_
      refine ow_nil ?_
      refine x_qs ?_
      refine c_ret ?_
      refine x_qs_ret ?_
      exact x_retR (rs := [.tmp 4]) (vs := [.int .i64 (-1)]) rfl ⟨rfl, trivial⟩ (fun w' hw' => by
          obtain rfl := of_some H
          exact ⟨rfl, hw'.ext⟩)
    · have H := of_if_f hb H
      refine c_skip ?_
      refine x_qs ?_
      refine c_seq ?_
      refine c_reg ?_
      refine ow_batch [.p, .p] rfl ?_
      refine ow_nil ?_
      refine x_qs ?_
      refine c_ret ?_
      exact x_retR (rs := [.tmp 4]) (vs := [.int .i64 y12]) rfl ⟨rfl, trivial⟩ (fun w' hw' => by
          obtain rfl := of_some H
          exact ⟨rfl, hw'.ext⟩)

set_option maxHeartbeats 4000000 in
set_option maxRecDepth 100000 in
theorem laws_szState_ok (w : World) {p0 : Tlaws_State} {p1 : Int} {cs0 : List Value} {r : Int} (H : laws_szState p0 p1 = some r)  (g0 : (eTlaws_State).rd w [] p0 cs0) :
    Calls Try.prog 4 #[.agg cs0.toArray, .int .i64 p1] w (fun en w' => en = .returned (.int .i64 r) ∧ Ext [] w w') := by
  obtain ⟨c1, c2, c3, rfl, g4, g5, g6⟩ := rdo_Tlaws_State g0
  obtain ⟨c7, c8, c9, c10, c11, c12, c13, rfl, g14, g15, g16, g17, g18, g19, g20⟩ := rdo_Tlaws_Conf g4
  obtain ⟨c21, c22, rfl, g23, g24⟩ := rdo_Tlaws_Schema g14
  obtain ⟨a25, c26, rfl⟩ := rd_sl1 g23
  obtain ⟨a27, c28, rfl⟩ := rd_sl1 g24
  obtain rfl : c8 = [.int .i64 p0.Conf_.Rule_.Sure_, .int .i64 p0.Conf_.Rule_.Tie_, .int .i64 p0.Conf_.Rule_.Grace_, .int .i64 p0.Conf_.Rule_.Depth_, .int .i64 p0.Conf_.Rule_.Nodes_, .int .i64 p0.Conf_.Rule_.Units_, .bool p0.Conf_.Rule_.Two_] := g15
  obtain rfl : c9 = [.int .i64 p0.Conf_.Members_] := g16
  obtain rfl : c10 = [.int .i64 p0.Conf_.Pick_] := g17
  obtain rfl : c11 = [.int .i64 p0.Conf_.Lambda_] := g18
  obtain rfl : c12 = [.int .i64 p0.Conf_.Warn_] := g19
  obtain rfl : c13 = [.int .i64 p0.Conf_.Drift_] := g20
  obtain ⟨c29, rfl, g30⟩ := rdo_Tlaws_Forest g5
  obtain ⟨a31, c32, rfl⟩ := rd_sl1 g30
  obtain ⟨c33, c34, rfl, g35, g36⟩ := rdo_Tlaws_Score g6
  obtain ⟨a37, c38, rfl⟩ := rd_sl1 g35
  obtain ⟨a39, c40, rfl⟩ := rd_sl1 g36
  unfold laws_szState at H
  refine f_enter (vs := [.agg #[.slice a25 p0.Conf_.Schema_.Attrs_.length c26, .slice a27 p0.Conf_.Schema_.Classes_.length c28, .int .i64 p0.Conf_.Rule_.Sure_, .int .i64 p0.Conf_.Rule_.Tie_, .int .i64 p0.Conf_.Rule_.Grace_, .int .i64 p0.Conf_.Rule_.Depth_, .int .i64 p0.Conf_.Rule_.Nodes_, .int .i64 p0.Conf_.Rule_.Units_, .bool p0.Conf_.Rule_.Two_, .int .i64 p0.Conf_.Members_, .int .i64 p0.Conf_.Pick_, .int .i64 p0.Conf_.Lambda_, .int .i64 p0.Conf_.Warn_, .int .i64 p0.Conf_.Drift_, .slice a31 p0.Forest_.Members_.length c32, .slice a37 p0.Score_.Table_.length c38, .slice a39 p0.Score_.Last_.length c40], .int .i64 p1]) Try.func4 rfl Try.ntmps4 rfl (St.init w []) ?_
  refine c_seq ?_
  refine c_reg ?_
  refine ow_box (cs := [.slice a25 p0.Conf_.Schema_.Attrs_.length c26, .slice a27 p0.Conf_.Schema_.Classes_.length c28, .int .i64 p0.Conf_.Rule_.Sure_, .int .i64 p0.Conf_.Rule_.Tie_, .int .i64 p0.Conf_.Rule_.Grace_, .int .i64 p0.Conf_.Rule_.Depth_, .int .i64 p0.Conf_.Rule_.Nodes_, .int .i64 p0.Conf_.Rule_.Units_, .bool p0.Conf_.Rule_.Two_, .int .i64 p0.Conf_.Members_, .int .i64 p0.Conf_.Pick_, .int .i64 p0.Conf_.Lambda_, .int .i64 p0.Conf_.Warn_, .int .i64 p0.Conf_.Drift_, .slice a31 p0.Forest_.Members_.length c32, .slice a37 p0.Score_.Table_.length c38, .slice a39 p0.Score_.Last_.length c40]) rfl rfl rfl rfl rfl rfl (fun _ => kp) (fun b41 => ?_)
  refine ow_batch [.p] rfl ?_
  refine ow_nil ?_
  refine x_qs ?_
  refine c_seq ?_
  refine c_reg ?_
  refine ow_batch [.fa 38 0 0 fa38_0] rfl ?_
  refine ow_r rfl (dstOk_lt rfl) (ry_box (off := 0) (ds := [.slice a25 p0.Conf_.Schema_.Attrs_.length c26, .slice a27 p0.Conf_.Schema_.Classes_.length c28, .int .i64 p0.Conf_.Rule_.Sure_, .int .i64 p0.Conf_.Rule_.Tie_, .int .i64 p0.Conf_.Rule_.Grace_, .int .i64 p0.Conf_.Rule_.Depth_, .int .i64 p0.Conf_.Rule_.Nodes_, .int .i64 p0.Conf_.Rule_.Units_, .bool p0.Conf_.Rule_.Two_, .int .i64 p0.Conf_.Members_, .int .i64 p0.Conf_.Pick_, .int .i64 p0.Conf_.Lambda_, .int .i64 p0.Conf_.Warn_, .int .i64 p0.Conf_.Drift_]) rfl rfl ty29 (boxIn (i := 0) rfl) rfl rfl) ?_
  refine ow_batch [.p] rfl ?_
  obtain ⟨y42, h43, H⟩ := of_bind H
  refine ow_q rfl rfl (dstOk_lt rfl) (qy_call rfl fn9 rfl (fun w1 hw1 => laws_szConf_ok w1 (cs0 := [.slice a25 p0.Conf_.Schema_.Attrs_.length c26, .slice a27 p0.Conf_.Schema_.Classes_.length c28, .int .i64 p0.Conf_.Rule_.Sure_, .int .i64 p0.Conf_.Rule_.Tie_, .int .i64 p0.Conf_.Rule_.Grace_, .int .i64 p0.Conf_.Rule_.Depth_, .int .i64 p0.Conf_.Rule_.Nodes_, .int .i64 p0.Conf_.Rule_.Units_, .bool p0.Conf_.Rule_.Two_, .int .i64 p0.Conf_.Members_, .int .i64 p0.Conf_.Pick_, .int .i64 p0.Conf_.Lambda_, .int .i64 p0.Conf_.Warn_, .int .i64 p0.Conf_.Drift_]) h43 (rdm_Tlaws_Conf (x := p0.Conf_) (c0 := [.slice a25 p0.Conf_.Schema_.Attrs_.length c26, .slice a27 p0.Conf_.Schema_.Classes_.length c28]) (c1 := [.int .i64 p0.Conf_.Rule_.Sure_, .int .i64 p0.Conf_.Rule_.Tie_, .int .i64 p0.Conf_.Rule_.Grace_, .int .i64 p0.Conf_.Rule_.Depth_, .int .i64 p0.Conf_.Rule_.Nodes_, .int .i64 p0.Conf_.Rule_.Units_, .bool p0.Conf_.Rule_.Two_]) (c2 := [.int .i64 p0.Conf_.Members_]) (c3 := [.int .i64 p0.Conf_.Pick_]) (c4 := [.int .i64 p0.Conf_.Lambda_]) (c5 := [.int .i64 p0.Conf_.Warn_]) (c6 := [.int .i64 p0.Conf_.Drift_]) (rdm_Tlaws_Schema (x := p0.Conf_.Schema_) (c0 := [.slice a25 p0.Conf_.Schema_.Attrs_.length c26]) (c1 := [.slice a27 p0.Conf_.Schema_.Classes_.length c28]) (rds_bor g23 w1 hw1) (rds_bor g24 w1 hw1)) rfl rfl rfl rfl rfl rfl))) (fun _ _ => trivial) ?_
  refine ow_batch [.p] rfl ?_
  refine ow_nil ?_
  refine x_qs ?_
  refine c_seq ?_
  refine c_seq ?_
  refine c_reg ?_
  refine ow_batch [.p, .p] rfl ?_
  refine ow_nil ?_
  refine x_qs ?_
  refine c_if rfl (fun hb => ?_) (fun hb => ?_)
  · have H := of_if_t hb H
    refine c_seq ?_
    refine c_reg ?_
    refine ow_batch [.p] rfl ?_
    refine ow_nil ?_
    refine x_qs ?_
    refine c_ret ?_
    refine x_qs_ret ?_
    exact x_retR (rs := [.tmp 4]) (vs := [.int .i64 (-1)]) rfl ⟨rfl, trivial⟩ (fun w' hw' => by
        obtain rfl := of_some H
        exact ⟨rfl, hw'.ext⟩)
  · have H := of_if_f hb H
    refine c_skip ?_
    refine x_qs ?_
    refine c_seq ?_
    refine c_reg ?_
    refine ow_batch [.fa 38 1 14 fa38_1] rfl ?_
    refine ow_r rfl (dstOk_lt rfl) (ry_box (off := 14) (ds := [.slice a31 p0.Forest_.Members_.length c32]) rfl rfl ty32 (boxIn (i := 0) rfl) rfl rfl) ?_
    refine ow_batch [.p] rfl ?_
    obtain ⟨y44, h45, H⟩ := of_bind H
    refine ow_q rfl rfl (dstOk_lt rfl) (qy_call rfl fn10 rfl (fun w1 hw1 => laws_szForest_ok w1 (cs0 := [.slice a31 p0.Forest_.Members_.length c32]) h45 (rdm_Tlaws_Forest (x := p0.Forest_) (c0 := [.slice a31 p0.Forest_.Members_.length c32]) (rds_bor g30 w1 hw1)))) (fun _ _ => trivial) ?_
    refine ow_batch [.p] rfl ?_
    refine ow_nil ?_
    refine x_qs ?_
    refine c_seq ?_
    refine c_seq ?_
    refine c_reg ?_
    refine ow_batch [.p, .p] rfl ?_
    refine ow_nil ?_
    refine x_qs ?_
    refine c_if rfl (fun hb => ?_) (fun hb => ?_)
    · have H := of_if_t hb H
      refine c_seq ?_
      refine c_reg ?_
      refine ow_batch [.p] rfl ?_
      refine ow_nil ?_
      refine x_qs ?_
      refine c_ret ?_
      refine x_qs_ret ?_
      exact x_retR (rs := [.tmp 4]) (vs := [.int .i64 (-1)]) rfl ⟨rfl, trivial⟩ (fun w' hw' => by
          obtain rfl := of_some H
          exact ⟨rfl, hw'.ext⟩)
    · have H := of_if_f hb H
      refine c_skip ?_
      refine x_qs ?_
      refine c_seq ?_
      refine c_reg ?_
      refine ow_batch [.fa 38 2 15 fa38_2] rfl ?_
      refine ow_r rfl (dstOk_lt rfl) (ry_box (off := 15) (ds := [.slice a37 p0.Score_.Table_.length c38, .slice a39 p0.Score_.Last_.length c40]) rfl rfl ty36 (boxIn (i := 0) rfl) rfl rfl) ?_
      refine ow_batch [.p] rfl ?_
      obtain ⟨y46, h47, H⟩ := of_bind H
      refine ow_q rfl rfl (dstOk_lt rfl) (qy_call rfl fn11 rfl (fun w1 hw1 => laws_szScore_ok w1 (cs0 := [.slice a37 p0.Score_.Table_.length c38, .slice a39 p0.Score_.Last_.length c40]) h47 (rdm_Tlaws_Score (x := p0.Score_) (c0 := [.slice a37 p0.Score_.Table_.length c38]) (c1 := [.slice a39 p0.Score_.Last_.length c40]) (rds_bor g35 w1 hw1) (rds_bor g36 w1 hw1)))) (fun _ _ => trivial) ?_
      refine ow_batch [.p] rfl ?_
      refine ow_nil ?_
      refine x_qs ?_
      refine c_seq ?_
      refine c_seq ?_
      refine c_reg ?_
      refine ow_batch [.p, .p] rfl ?_
      refine ow_nil ?_
      refine x_qs ?_
      refine c_if rfl (fun hb => ?_) (fun hb => ?_)
      · have H := of_if_t hb H
        refine c_seq ?_
        refine c_reg ?_
        refine ow_batch [.p] rfl ?_
        refine ow_nil ?_
        refine x_qs ?_
        refine c_ret ?_
        refine x_qs_ret ?_
        exact x_retR (rs := [.tmp 4]) (vs := [.int .i64 (-1)]) rfl ⟨rfl, trivial⟩ (fun w' hw' => by
            obtain rfl := of_some H
            exact ⟨rfl, hw'.ext⟩)
      · have H := of_if_f hb H
        refine c_skip ?_
        refine x_qs ?_
        refine c_seq ?_
        refine c_reg ?_
        refine ow_batch [.p, .p] rfl ?_
        refine ow_nil ?_
        refine x_qs ?_
        refine c_ret ?_
        exact x_retR (rs := [.tmp 4]) (vs := [.int .i64 y46]) rfl ⟨rfl, trivial⟩ (fun w' hw' => by
            obtain rfl := of_some H
            exact ⟨rfl, hw'.ext⟩)

set_option maxHeartbeats 4000000 in
set_option maxRecDepth 100000 in
theorem laws_toIntS_ok (w : World) {M0 : List Nat} {p0 : List Int} {a_0 : Option Addr} {n_0 c_0 : Nat} {r : List Int} (H : laws_toIntS p0 = some r) (HS : St w M0 [] w) (g0 : (eList (eVal (Value.int .i64) (fun _ => rfl)) 3).rd w M0 p0 [.slice a_0 n_0 c_0]) :
    Calls Try.prog 56 #[.slice a_0 n_0 c_0] w (fun en w' => ∃ v, en = .returned v ∧ ∃ (a0 : Option Addr), ∃ (n0 : Nat), ∃ (c0 : Nat), ∃ (F0 : List Nat), v = .slice a0 n0 c0 ∧ St w M0 [Res.own (eList (eVal (Value.int .i64) (fun _ => rfl)) 3) F0 r [.slice a0 n0 c0]] w') := by
  obtain rfl := rd_n g0
  unfold laws_toIntS at H
  refine f_enter (vs := [.slice a_0 p0.length c_0]) Try.func56 rfl Try.ntmps56 rfl (HS) ?_
  refine c_seq ?_
  refine c_reg ?_
  refine ow_batch [.p] rfl ?_
  refine ow_nil ?_
  refine x_qs ?_
  refine c_seq ?_
  refine c_reg ?_
  refine ow_batch [.p, .lenS 82 3 sl82] rfl ?_
  obtain ⟨l1, h2, H⟩ := of_bind H
  refine ow_make (e := eVal (Value.int .i64) (fun _ => rfl)) (zero := (0 : Int)) rfl rfl rfl rfl rfl rfl sl82 ty3 rfl rfl rfl rfl (fun _ => ⟨rfl, rfl⟩) h2 (fun _ => kp) (fun b3 => ?_)
  refine ow_batch [.p] rfl ?_
  refine ow_nil ?_
  refine x_qs ?_
  refine c_seq ?_
  refine c_seq ?_
  refine c_reg ?_
  refine ow_batch [.p] rfl ?_
  refine ow_nil ?_
  refine x_qs ?_
  refine c_block ?_
  refine CW.at (loopI2 (fun (l10 : List Int) (i11 : Int) => St w M0 [Res.own (eList (eVal (Value.int .i64) (fun _ => rfl)) 3) [b3] l10 [.slice (some ⟨b3, 0, none⟩) l1.length l1.length]]) (fun (l10 : List Int) (i11 : Int) => [(0, .slice a_0 p0.length c_0), (3, .slice (some ⟨b3, 0, none⟩) l1.length l1.length), (4, .int .i64 i11)]) (fun kk => fun (l10 : List Int) (i11 : Int) => laws_toIntS_L1 p0 kk l10 i11 = some r) (fun _ _ H => ?_) (fun k1 ihk1 l10 i11 H => ?_) Fuel (l1) (0) (H)) (fun _ h => St.sel [0] rfl rfl h) ⟨rfl, rfl, rfl,  trivial⟩
  · unfold laws_toIntS_L1 at H
    exact absurd H (by simp)
  · unfold laws_toIntS_L1 at H
    refine c_seq ?_
    refine c_seq ?_
    refine c_reg ?_
    refine ow_batch [.p, .p, .lenS 82 3 sl82, .p] rfl ?_
    refine ow_nil ?_
    refine x_qs ?_
    refine c_if rfl (fun hb => ?_) (fun hb => ?_)
    · have H := of_if_t hb H
      refine c_skip ?_
      refine x_qs ?_
      refine c_seq ?_
      refine c_block ?_
      refine c_reg ?_
      refine ow_batch [.p, .p, .p, .p] rfl ?_
      obtain ⟨e18, h19, H⟩ := of_bind H
      refine ow_ixE (e := eVal (Value.int .i64) (fun _ => rfl)) (xs := p0) (j := i11) rfl rfl rfl rfl rfl sl82 ty3 rfl (fun w1 hw1 => rds_bor g0 w1 hw1) h19 (by rw [Nat.mul_one]) ?_
      refine ow_r rfl (dstOk_lt rfl) (ry_load1 rfl rfl ty3 (at_elV (fun w1 hw1 => rds_bor g0 w1 hw1) h19)) ?_
      obtain ⟨e20, h21, H⟩ := of_bind H
      refine ow_ixE (e := eVal (Value.int .i64) (fun _ => rfl)) (xs := l10) (j := i11) rfl rfl rfl rfl rfl sl82 ty3 rfl (fun w1 hw1 => rds_own (r := 0) rfl w1 hw1) h21 (by rw [Nat.mul_one]) ?_
      refine ow_storeV (i := 0) (j := i11) rfl rfl rfl rfl rfl rfl ty3 rfl h21 (fun _ => rfl) kp ?_
      refine ow_nil ?_
      refine x_qb ?_
      refine x_qs ?_
      refine c_reg ?_
      refine ow_batch [.p, .p, .p] rfl ?_
      refine ow_nil ?_
      exact x_ql (RW.at (ihk1 ((l10.set i11.toNat e18)) (IntKind.i64.wrap (i11 + 1)) (H)) (fun _ h => St.sel [0] rfl rfl h) ⟨rfl, rfl, rfl, trivial⟩)
    · have H := of_if_f hb H
      refine c_exit ?_
      refine x_qs_exit ?_
      refine x_ql_exit ?_
      refine x_qb_here ?_
      refine x_qs ?_
      refine c_seq ?_
      refine c_reg ?_
      refine ow_batch [.p, .p] rfl ?_
      refine ow_nil ?_
      refine x_qs ?_
      refine c_ret ?_
      exact x_retR (rs := [.tmp 2]) (vs := [.slice (some ⟨b3, 0, none⟩) l1.length l1.length]) rfl ⟨rfl, trivial⟩ (fun w' hw' => by
          obtain rfl := of_some H
          exact ⟨_, rfl, (some ⟨b3, 0, none⟩), l1.length, l1.length, [b3], rfl, hw'.sel [0] rfl rfl⟩)

set_option maxHeartbeats 4000000 in
set_option maxRecDepth 100000 in
theorem laws_toStringS_ok (w : World) {M0 : List Nat} {p0 : List (List UInt8)} {a_0 : Option Addr} {n_0 c_0 : Nat} {r : List (List UInt8)} (H : laws_toStringS p0 = some r) (HS : St w M0 [] w) (g0 : (eList (eStr) 9).rd w M0 p0 [.slice a_0 n_0 c_0]) :
    Calls Try.prog 54 #[.slice a_0 n_0 c_0] w (fun en w' => ∃ v, en = .returned v ∧ ∃ (a0 : Option Addr), ∃ (n0 : Nat), ∃ (c0 : Nat), ∃ (F0 : List Nat), v = .slice a0 n0 c0 ∧ St w M0 [Res.own (eList (eStr) 9) F0 r [.slice a0 n0 c0]] w') := by
  obtain rfl := rd_n g0
  unfold laws_toStringS at H
  refine f_enter (vs := [.slice a_0 p0.length c_0]) Try.func54 rfl Try.ntmps54 rfl (HS) ?_
  refine c_seq ?_
  refine c_reg ?_
  refine ow_batch [.p] rfl ?_
  refine ow_nil ?_
  refine x_qs ?_
  refine c_seq ?_
  refine c_reg ?_
  refine ow_batch [.p, .lenS 23 9 sl23] rfl ?_
  obtain ⟨l1, h2, H⟩ := of_bind H
  refine ow_make (e := eStr) (zero := ([] : List UInt8)) rfl rfl rfl rfl rfl rfl sl23 ty9 rfl rfl rfl rfl (fun _ => ⟨rfl, rfl⟩) h2 (fun _ => kp) (fun b3 => ?_)
  refine ow_batch [.p] rfl ?_
  refine ow_nil ?_
  refine x_qs ?_
  refine c_seq ?_
  refine c_seq ?_
  refine c_reg ?_
  refine ow_batch [.p] rfl ?_
  refine ow_nil ?_
  refine x_qs ?_
  refine c_block ?_
  refine CW.at (loopI2 (fun (l10 : List (List UInt8)) (i11 : Int) => St w M0 [Res.own (eList (eStr) 9) [b3] l10 [.slice (some ⟨b3, 0, none⟩) l1.length l1.length]]) (fun (l10 : List (List UInt8)) (i11 : Int) => [(0, .slice a_0 p0.length c_0), (3, .slice (some ⟨b3, 0, none⟩) l1.length l1.length), (4, .int .i64 i11)]) (fun kk => fun (l10 : List (List UInt8)) (i11 : Int) => laws_toStringS_L1 p0 kk l10 i11 = some r) (fun _ _ H => ?_) (fun k1 ihk1 l10 i11 H => ?_) Fuel (l1) (0) (H)) (fun _ h => St.sel [0] rfl rfl h) ⟨rfl, rfl, rfl,  trivial⟩
  · unfold laws_toStringS_L1 at H
    exact absurd H (by simp)
  · unfold laws_toStringS_L1 at H
    refine c_seq ?_
    refine c_seq ?_
    refine c_reg ?_
    refine ow_batch [.p, .p, .lenS 23 9 sl23, .p] rfl ?_
    refine ow_nil ?_
    refine x_qs ?_
    refine c_if rfl (fun hb => ?_) (fun hb => ?_)
    · have H := of_if_t hb H
      refine c_skip ?_
      refine x_qs ?_
      refine c_seq ?_
      refine c_block ?_
      refine c_reg ?_
      refine ow_batch [.p, .p, .p, .p] rfl ?_
      obtain ⟨e18, h19, H⟩ := of_bind H
      refine ow_ixE (e := eStr) (xs := p0) (j := i11) rfl rfl rfl rfl rfl sl23 ty9 rfl (fun w1 hw1 => rds_bor g0 w1 hw1) h19 (by rw [Nat.mul_one]) ?_
      refine ow_r rfl (dstOk_lt rfl) (ry_load1 rfl rfl ty9 (at_elV (fun w1 hw1 => rds_bor g0 w1 hw1) h19)) ?_
      obtain ⟨e20, h21, H⟩ := of_bind H
      refine ow_ixE (e := eStr) (xs := l10) (j := i11) rfl rfl rfl rfl rfl sl23 ty9 rfl (fun w1 hw1 => rds_own (r := 0) rfl w1 hw1) h21 (by rw [Nat.mul_one]) ?_
      refine ow_storeV (i := 0) (j := i11) rfl rfl rfl rfl rfl rfl ty9 rfl h21 (fun _ => rfl) kp ?_
      refine ow_nil ?_
      refine x_qb ?_
      refine x_qs ?_
      refine c_reg ?_
      refine ow_batch [.p, .p, .p] rfl ?_
      refine ow_nil ?_
      exact x_ql (RW.at (ihk1 ((l10.set i11.toNat e18)) (IntKind.i64.wrap (i11 + 1)) (H)) (fun _ h => St.sel [0] rfl rfl h) ⟨rfl, rfl, rfl, trivial⟩)
    · have H := of_if_f hb H
      refine c_exit ?_
      refine x_qs_exit ?_
      refine x_ql_exit ?_
      refine x_qb_here ?_
      refine x_qs ?_
      refine c_seq ?_
      refine c_reg ?_
      refine ow_batch [.p, .p] rfl ?_
      refine ow_nil ?_
      refine x_qs ?_
      refine c_ret ?_
      exact x_retR (rs := [.tmp 2]) (vs := [.slice (some ⟨b3, 0, none⟩) l1.length l1.length]) rfl ⟨rfl, trivial⟩ (fun w' hw' => by
          obtain rfl := of_some H
          exact ⟨_, rfl, (some ⟨b3, 0, none⟩), l1.length, l1.length, [b3], rfl, hw'.sel [0] rfl rfl⟩)

set_option maxHeartbeats 4000000 in
set_option maxRecDepth 100000 in
theorem laws_toAttr_ok (w : World) {M0 : List Nat} {p0 : Tlaws_Attr} {cs0 : List Value} {r : Timpl_Attr} (H : laws_toAttr p0 = some r) (HS : St w M0 [] w) (g0 : (eTlaws_Attr).rd w M0 p0 cs0) :
    Calls Try.prog 76 #[.agg cs0.toArray] w (fun en w' => ∃ v, en = .returned v ∧ ∃ (a0 : Option Addr), ∃ (n0 : Nat), ∃ (c0 : Nat), ∃ (F0 : List Nat), ∃ (a1 : Option Addr), ∃ (n1 : Nat), ∃ (c1 : Nat), ∃ (F1 : List Nat), v = .agg #[vS r.Name_, .slice a0 n0 c0, .slice a1 n1 c1] ∧ St w M0 [Res.own (eList (eVal (Value.int .i64) (fun _ => rfl)) 3) F0 r.Cuts_ [.slice a0 n0 c0], Res.own (eList (eStr) 9) F1 r.Values_ [.slice a1 n1 c1]] w') := by
  obtain ⟨c1, c2, c3, rfl, g4, g5, g6⟩ := rdo_Tlaws_Attr g0
  obtain rfl : c1 = [vS p0.Name_] := g4
  obtain ⟨a7, c8, rfl⟩ := rd_sl1 g5
  obtain ⟨a9, c10, rfl⟩ := rd_sl1 g6
  unfold laws_toAttr at H
  refine f_enter (vs := [.agg #[vS p0.Name_, .slice a7 p0.Cuts_.length c8, .slice a9 p0.Values_.length c10]]) Try.func76 rfl Try.ntmps76 rfl (HS) ?_
  refine c_seq ?_
  refine c_reg ?_
  refine ow_box (cs := [vS p0.Name_, .slice a7 p0.Cuts_.length c8, .slice a9 p0.Values_.length c10]) rfl rfl rfl rfl rfl rfl (fun _ => kp) (fun b11 => ?_)
  refine ow_alloc rfl rfl rfl rfl ty109 (fun _ => kp) (fun b12 => ?_)
  refine ow_nil ?_
  refine x_qs ?_
  refine c_seq ?_
  refine c_reg ?_
  refine ow_alloc rfl rfl rfl rfl ty109 (fun _ => kp) (fun b13 => ?_)
  refine ow_nil ?_
  refine x_qs ?_
  refine c_seq ?_
  refine c_reg ?_
  refine ow_batch [.fa 124 0 0 fa124_0] rfl ?_
  refine ow_r rfl (dstOk_lt rfl) (ry_box1 (off := 0) rfl rfl ty9 (boxIn (i := 0) rfl) rfl) ?_
  refine ow_batch [.fa 109 0 0 fa109_0] rfl ?_
  refine ow_storeC (off := 0) [vS p0.Name_] [_, _, _] (i := 2) rfl rfl rfl rfl rfl rfl ty9 rfl rfl (by intro u hu; simp only [List.mem_cons, List.not_mem_nil, or_false] at hu; rcases hu with rfl <;> rfl) rfl rfl rfl kp ?_
  refine ow_nil ?_
  refine x_qs ?_
  refine c_seq ?_
  refine c_reg ?_
  refine ow_batch [.fa 124 1 1 fa124_1] rfl ?_
  refine ow_r rfl (dstOk_lt rfl) (ry_box1 (off := 1) rfl rfl ty82 (boxIn (i := 0) rfl) rfl) ?_
  obtain ⟨y14, h15, H⟩ := of_bind H
  refine ow_callS rfl fn56 rfl rfl rfl rfl (fun w1 hw1 => laws_toIntS_ok w1  h15 (hw1.carve [] rfl rfl) (rds_bor g5 w1 hw1)) (fun v16 w1 w2 hw1 hR18 => ?_)
  obtain ⟨a19, n20, c21, F22, rfl, hS17⟩ := hR18
  obtain rfl := own_nS (i := 0) hS17 rfl
  refine ⟨St w M0 [_, _, _, _], hw1.comp [] rfl rfl hS17, fun _ _ => trivial, ?_⟩
  refine ow_batch [.fa 109 1 1 fa109_1] rfl ?_
  refine ow_storeC (off := 1) [.slice a19 y14.length c21] [_, _, _] (i := 2) rfl rfl rfl rfl rfl rfl ty82 rfl rfl (by intro u hu; simp only [List.mem_cons, List.not_mem_nil, or_false] at hu; rcases hu with rfl <;> rfl) rfl rfl rfl kp ?_
  refine ow_nil ?_
  refine x_qs ?_
  refine c_seq ?_
  refine c_reg ?_
  refine ow_batch [.fa 124 2 2 fa124_2] rfl ?_
  refine ow_r rfl (dstOk_lt rfl) (ry_box1 (off := 2) rfl rfl ty23 (boxIn (i := 0) rfl) rfl) ?_
  obtain ⟨y23, h24, H⟩ := of_bind H
  refine ow_callS rfl fn54 rfl rfl rfl rfl (fun w1 hw1 => laws_toStringS_ok w1  h24 (hw1.carve [] rfl rfl) (rds_bor g6 w1 hw1)) (fun v25 w1 w2 hw1 hR27 => ?_)
  obtain ⟨a28, n29, c30, F31, rfl, hS26⟩ := hR27
  obtain rfl := own_nS (i := 0) hS26 rfl
  refine ⟨St w M0 [_, _, _, _, _], hw1.comp [] rfl rfl hS26, fun _ _ => trivial, ?_⟩
  refine ow_batch [.fa 109 2 2 fa109_2] rfl ?_
  refine ow_storeC (off := 2) [.slice a28 y23.length c30] [_, _, _] (i := 2) rfl rfl rfl rfl rfl rfl ty23 rfl rfl (by intro u hu; simp only [List.mem_cons, List.not_mem_nil, or_false] at hu; rcases hu with rfl <;> rfl) rfl rfl rfl kp ?_
  refine ow_nil ?_
  refine x_qs ?_
  refine c_seq ?_
  refine c_reg ?_
  refine ow_r rfl (dstOk_lt rfl) (ry_box (off := 0) (ds := [vS p0.Name_, .slice a19 y14.length c21, .slice a28 y23.length c30]) rfl rfl ty109 (boxIn (i := 2) rfl) rfl rfl) ?_
  refine ow_storeC (off := 0) [vS p0.Name_, .slice a19 y14.length c21, .slice a28 y23.length c30] [_, _, _] (i := 1) rfl rfl rfl rfl rfl rfl ty109 rfl rfl (by intro u hu; simp only [List.mem_cons, List.not_mem_nil, or_false] at hu; rcases hu with rfl | rfl | rfl <;> rfl) rfl rfl rfl kp ?_
  refine ow_nil ?_
  refine x_qs ?_
  refine c_ret ?_
  exact x_retR (rs := [.cell 2 109]) (vs := [.agg #[vS p0.Name_, .slice a19 y14.length c21, .slice a28 y23.length c30]]) rfl ⟨⟨_, [vS p0.Name_, .slice a19 y14.length c21, .slice a28 y23.length c30], _, _, _, rfl, ty109, (at_box (T := 109) 0 (boxIn (i := 1) rfl) rfl), rfl, rfl⟩, trivial⟩ (fun w' hw' => by
      obtain rfl := of_some H
      exact ⟨_, rfl, a19, y14.length, c21, F22, a28, y23.length, c30, F31, rfl, hw'.sel [3, 4] rfl rfl⟩)

set_option maxHeartbeats 4000000 in
set_option maxRecDepth 100000 in
theorem laws_toAttrS_ok (w : World) {M0 : List Nat} {p0 : List Tlaws_Attr} {a_0 : Option Addr} {n_0 c_0 : Nat} {r : List Timpl_Attr} (H : laws_toAttrS p0 = some r) (HS : St w M0 [] w) (g0 : (eList (eTlaws_Attr) 124).rd w M0 p0 [.slice a_0 n_0 c_0]) :
    Calls Try.prog 53 #[.slice a_0 n_0 c_0] w (fun en w' => ∃ v, en = .returned v ∧ ∃ (a0 : Option Addr), ∃ (n0 : Nat), ∃ (c0 : Nat), ∃ (F0 : List Nat), v = .slice a0 n0 c0 ∧ St w M0 [Res.own (eList (eTimpl_Attr) 109) F0 r [.slice a0 n0 c0]] w') := by
  obtain rfl := rd_n g0
  unfold laws_toAttrS at H
  refine f_enter (vs := [.slice a_0 p0.length c_0]) Try.func53 rfl Try.ntmps53 rfl (HS) ?_
  refine c_seq ?_
  refine c_reg ?_
  refine ow_batch [.p] rfl ?_
  refine ow_nil ?_
  refine x_qs ?_
  refine c_seq ?_
  refine c_reg ?_
  refine ow_batch [.p, .lenS 22 124 sl22] rfl ?_
  obtain ⟨l1, h2, H⟩ := of_bind H
  refine ow_make (e := eTimpl_Attr) (zero := ((Timpl_Attr.mk [] [] []) : Timpl_Attr)) rfl rfl rfl rfl rfl rfl sl41 ty109 rfl rfl rfl rfl (fun _ => (ownm_Timpl_Attr (x := (Timpl_Attr.mk [] [] [])) (⟨rfl, rfl⟩ : (eStr).own _ [] ([] : List UInt8) _) ((.inl ⟨rfl, rfl, rfl⟩) : (eList (eVal (Value.int .i64) (fun _ => rfl)) 3).own _ [] ([] : List Int) _) ((.inl ⟨rfl, rfl, rfl⟩) : (eList (eStr) 9).own _ [] ([] : List (List UInt8)) _))) h2 (fun _ => kp) (fun b3 => ?_)
  refine ow_batch [.p] rfl ?_
  refine ow_nil ?_
  refine x_qs ?_
  refine c_seq ?_
  refine c_seq ?_
  refine c_reg ?_
  refine ow_batch [.p] rfl ?_
  refine ow_nil ?_
  refine x_qs ?_
  refine c_block ?_
  refine CW.at (loopI3 (fun (l54 : List Timpl_Attr) (F55 : List Nat) (i56 : Int) => St w M0 [Res.own (eList (eTimpl_Attr) 109) F55 l54 [.slice (some ⟨b3, 0, none⟩) l1.length l1.length]]) (fun (l54 : List Timpl_Attr) (F55 : List Nat) (i56 : Int) => [(0, .slice a_0 p0.length c_0), (3, .slice (some ⟨b3, 0, none⟩) l1.length l1.length), (4, .int .i64 i56)]) (fun kk => fun (l54 : List Timpl_Attr) (F55 : List Nat) (i56 : Int) => laws_toAttrS_L1 p0 kk l54 i56 = some r) (fun _ _ _ H => ?_) (fun k1 ihk1 l54 F55 i56 H => ?_) Fuel (l1) ([b3]) (0) (H)) (fun _ h => St.sel [0] rfl rfl h) ⟨rfl, rfl, rfl,  trivial⟩
  · unfold laws_toAttrS_L1 at H
    exact absurd H (by simp)
  · unfold laws_toAttrS_L1 at H
    refine c_seq ?_
    refine c_seq ?_
    refine c_reg ?_
    refine ow_batch [.p, .p, .lenS 22 124 sl22, .p] rfl ?_
    refine ow_nil ?_
    refine x_qs ?_
    refine c_if rfl (fun hb => ?_) (fun hb => ?_)
    · have H := of_if_t hb H
      refine c_skip ?_
      refine x_qs ?_
      refine c_seq ?_
      refine c_block ?_
      refine c_reg ?_
      refine ow_batch [.p, .p, .p, .p] rfl ?_
      obtain ⟨e107, h108, H⟩ := of_bind H
      refine ow_ixB rfl rfl rfl rfl rfl sl22 ty124 rfl g0 h108 (fun q111 c112 hd109 hA110 => ?_)
      obtain ⟨c113, c114, c115, rfl, g116, g117, g118⟩ := rdo_Tlaws_Attr hd109
      obtain rfl : c113 = [vS e107.Name_] := g116
      obtain ⟨a119, c120, rfl⟩ := rd_sl1 g117
      obtain ⟨a121, c122, rfl⟩ := rd_sl1 g118
      refine ow_r rfl (dstOk_lt rfl) (ry_load (cs := [vS e107.Name_, .slice a119 e107.Cuts_.length c120, .slice a121 e107.Values_.length c122]) rfl rfl ty124 (at_bor bor hA110) rfl) ?_
      obtain ⟨y123, h124, H⟩ := of_bind H
      refine ow_callS rfl fn76 rfl rfl rfl rfl (fun w1 hw1 => laws_toAttr_ok w1 (cs0 := [vS e107.Name_, .slice a119 e107.Cuts_.length c120, .slice a121 e107.Values_.length c122]) h124 (hw1.carve [] rfl rfl) (rdm_Tlaws_Attr (x := e107) (c0 := [vS e107.Name_]) (c1 := [.slice a119 e107.Cuts_.length c120]) (c2 := [.slice a121 e107.Values_.length c122]) rfl (rds_bor g117 w1 hw1) (rds_bor g118 w1 hw1))) (fun v125 w1 w2 hw1 hR127 => ?_)
      obtain ⟨a128, n129, c130, F131, a132, n133, c134, F135, rfl, hS126⟩ := hR127
      obtain rfl := own_nS (i := 0) hS126 rfl
      obtain rfl := own_nS (i := 1) hS126 rfl
      refine ⟨St w M0 [_, _, _], hw1.comp [] rfl rfl hS126, fun _ _ => trivial, ?_⟩
      obtain ⟨e136, h137, H⟩ := of_bind H
      refine ow_ex4 rfl (fun w1 hw1 => foc (r := 0) hw1 rfl h137) (fun b139 G140 F141 c142 => ?_)
      refine ow_fact rfl (fun w1 hw1 => hw1.1) (fun q138 => ?_)
      obtain ⟨ha143, hn144⟩ := q138
      refine ow_st (C' := St w M0 [_, _, _, _, _]) rfl (fun w1 hw1 => hw1.2) ?_
      refine ow_ex3 rfl (fun w1 hw1 => opn_Timpl_Attr (i := 4) hw1 rfl) (fun a146 c147 F148 => ?_)
      refine ow_ex3 rfl (fun _ h => h) (fun a149 c150 F151 => ?_)
      refine ow_fact rfl (fun w1 hw1 => hw1.1) (fun q145 => ?_)
      subst q145
      refine ow_st (C' := St w M0 [_, _, _, _, _, _, _]) rfl (fun w1 hw1 => hw1.2) ?_
      refine ow_ixH rfl rfl rfl rfl rfl sl41 ty109 rfl (holeIn (p := 3) rfl) hn144 ha143 (idx_some h137).1 ?_
      refine ow_storeH (off := 0) [vS y123.Name_, .slice a128 y123.Cuts_.length c130, .slice a132 y123.Values_.length c134] (p := 3) (c' := [_, _, _]) rfl rfl rfl rfl rfl (by first | rfl | simp only [add_lit, add_add, add_zero]) rfl ty109 rfl rfl (by intro u hu; simp only [List.mem_cons, List.not_mem_nil, or_false] at hu; rcases hu with rfl | rfl | rfl <;> rfl) rfl rfl rfl kp ?_
      refine ow_nil ?_
      refine x_qb ?_
      refine x_qs ?_
      refine CW.weak (C' := St w M0 [_, _, _, _, _]) ?_ (fun _ h => St.sel [1, 2, 3, 5, 6] rfl rfl h)
      refine c_reg ?_
      refine ow_batch [.p, .p, .p] rfl ?_
      refine ow_nil ?_
      refine xw_ex (fun w1 hw1 => fus_Timpl_Attr (x0 := y123.Name_) [0, 1] hw1 rfl rfl) (fun F152 => ?_)
      refine xw_st (C' := St w M0 [_, _, _, _, _, _]) (fun _ h => h) ?_
      refine xw_ex (fun w1 hw1 => unf (p := 2) (q := 5) hw1 rfl rfl rfl hn144 ha143) (fun F153 => ?_)
      refine xw_st (C' := St w M0 [_, _, _, _, _, _, _]) (fun _ h => h) ?_
      exact x_ql (RW.at (ihk1 ((l54.set i56.toNat y123)) (F153) (IntKind.i64.wrap (i56 + 1)) (H)) (fun _ h => St.sel [6] rfl rfl h) ⟨rfl, rfl, rfl, trivial⟩)
    · have H := of_if_f hb H
      refine c_exit ?_
      refine x_qs_exit ?_
      refine x_ql_exit ?_
      refine x_qb_here ?_
      refine x_qs ?_
      refine c_seq ?_
      refine c_reg ?_
      refine ow_batch [.p, .p] rfl ?_
      refine ow_nil ?_
      refine x_qs ?_
      refine c_ret ?_
      exact x_retR (rs := [.tmp 2]) (vs := [.slice (some ⟨b3, 0, none⟩) l1.length l1.length]) rfl ⟨rfl, trivial⟩ (fun w' hw' => by
          obtain rfl := of_some H
          exact ⟨_, rfl, (some ⟨b3, 0, none⟩), l1.length, l1.length, F55, rfl, hw'.sel [0] rfl rfl⟩)

set_option maxHeartbeats 4000000 in
set_option maxRecDepth 100000 in
theorem laws_toSchema_ok (w : World) {M0 : List Nat} {p0 : Tlaws_Schema} {cs0 : List Value} {r : Timpl_Schema} (H : laws_toSchema p0 = some r) (HS : St w M0 [] w) (g0 : (eTlaws_Schema).rd w M0 p0 cs0) :
    Calls Try.prog 31 #[.agg cs0.toArray] w (fun en w' => ∃ v, en = .returned v ∧ ∃ (a0 : Option Addr), ∃ (n0 : Nat), ∃ (c0 : Nat), ∃ (F0 : List Nat), ∃ (a1 : Option Addr), ∃ (n1 : Nat), ∃ (c1 : Nat), ∃ (F1 : List Nat), v = .agg #[.slice a0 n0 c0, .slice a1 n1 c1] ∧ St w M0 [Res.own (eList (eTimpl_Attr) 109) F0 r.Attrs_ [.slice a0 n0 c0], Res.own (eList (eStr) 9) F1 r.Classes_ [.slice a1 n1 c1]] w') := by
  obtain ⟨c1, c2, rfl, g3, g4⟩ := rdo_Tlaws_Schema g0
  obtain ⟨a5, c6, rfl⟩ := rd_sl1 g3
  obtain ⟨a7, c8, rfl⟩ := rd_sl1 g4
  unfold laws_toSchema at H
  refine f_enter (vs := [.agg #[.slice a5 p0.Attrs_.length c6, .slice a7 p0.Classes_.length c8]]) Try.func31 rfl Try.ntmps31 rfl (HS) ?_
  refine c_seq ?_
  refine c_reg ?_
  refine ow_box (cs := [.slice a5 p0.Attrs_.length c6, .slice a7 p0.Classes_.length c8]) rfl rfl rfl rfl rfl rfl (fun _ => kp) (fun b9 => ?_)
  refine ow_alloc rfl rfl rfl rfl ty43 (fun _ => kp) (fun b10 => ?_)
  refine ow_nil ?_
  refine x_qs ?_
  refine c_seq ?_
  refine c_reg ?_
  refine ow_alloc rfl rfl rfl rfl ty43 (fun _ => kp) (fun b11 => ?_)
  refine ow_nil ?_
  refine x_qs ?_
  refine c_seq ?_
  refine c_reg ?_
  refine ow_batch [.fa 25 0 0 fa25_0] rfl ?_
  refine ow_r rfl (dstOk_lt rfl) (ry_box1 (off := 0) rfl rfl ty22 (boxIn (i := 0) rfl) rfl) ?_
  obtain ⟨y12, h13, H⟩ := of_bind H
  refine ow_callS rfl fn53 rfl rfl rfl rfl (fun w1 hw1 => laws_toAttrS_ok w1  h13 (hw1.carve [] rfl rfl) (rds_bor g3 w1 hw1)) (fun v14 w1 w2 hw1 hR16 => ?_)
  obtain ⟨a17, n18, c19, F20, rfl, hS15⟩ := hR16
  obtain rfl := own_nS (i := 0) hS15 rfl
  refine ⟨St w M0 [_, _, _, _], hw1.comp [] rfl rfl hS15, fun _ _ => trivial, ?_⟩
  refine ow_batch [.fa 43 0 0 fa43_0] rfl ?_
  refine ow_storeC (off := 0) [.slice a17 y12.length c19] [_, _] (i := 2) rfl rfl rfl rfl rfl rfl ty41 rfl rfl (by intro u hu; simp only [List.mem_cons, List.not_mem_nil, or_false] at hu; rcases hu with rfl <;> rfl) rfl rfl rfl kp ?_
  refine ow_nil ?_
  refine x_qs ?_
  refine c_seq ?_
  refine c_reg ?_
  refine ow_batch [.fa 25 1 1 fa25_1] rfl ?_
  refine ow_r rfl (dstOk_lt rfl) (ry_box1 (off := 1) rfl rfl ty23 (boxIn (i := 0) rfl) rfl) ?_
  obtain ⟨y21, h22, H⟩ := of_bind H
  refine ow_callS rfl fn54 rfl rfl rfl rfl (fun w1 hw1 => laws_toStringS_ok w1  h22 (hw1.carve [] rfl rfl) (rds_bor g4 w1 hw1)) (fun v23 w1 w2 hw1 hR25 => ?_)
  obtain ⟨a26, n27, c28, F29, rfl, hS24⟩ := hR25
  obtain rfl := own_nS (i := 0) hS24 rfl
  refine ⟨St w M0 [_, _, _, _, _], hw1.comp [] rfl rfl hS24, fun _ _ => trivial, ?_⟩
  refine ow_batch [.fa 43 1 1 fa43_1] rfl ?_
  refine ow_storeC (off := 1) [.slice a26 y21.length c28] [_, _] (i := 2) rfl rfl rfl rfl rfl rfl ty23 rfl rfl (by intro u hu; simp only [List.mem_cons, List.not_mem_nil, or_false] at hu; rcases hu with rfl <;> rfl) rfl rfl rfl kp ?_
  refine ow_nil ?_
  refine x_qs ?_
  refine c_seq ?_
  refine c_reg ?_
  refine ow_r rfl (dstOk_lt rfl) (ry_box (off := 0) (ds := [.slice a17 y12.length c19, .slice a26 y21.length c28]) rfl rfl ty43 (boxIn (i := 2) rfl) rfl rfl) ?_
  refine ow_storeC (off := 0) [.slice a17 y12.length c19, .slice a26 y21.length c28] [_, _] (i := 1) rfl rfl rfl rfl rfl rfl ty43 rfl rfl (by intro u hu; simp only [List.mem_cons, List.not_mem_nil, or_false] at hu; rcases hu with rfl | rfl <;> rfl) rfl rfl rfl kp ?_
  refine ow_nil ?_
  refine x_qs ?_
  refine c_ret ?_
  exact x_retR (rs := [.cell 2 43]) (vs := [.agg #[.slice a17 y12.length c19, .slice a26 y21.length c28]]) rfl ⟨⟨_, [.slice a17 y12.length c19, .slice a26 y21.length c28], _, _, _, rfl, ty43, (at_box (T := 43) 0 (boxIn (i := 1) rfl) rfl), rfl, rfl⟩, trivial⟩ (fun w' hw' => by
      obtain rfl := of_some H
      exact ⟨_, rfl, a17, y12.length, c19, F20, a26, y21.length, c28, F29, rfl, hw'.sel [3, 4] rfl rfl⟩)

set_option maxHeartbeats 4000000 in
set_option maxRecDepth 100000 in
theorem laws_toRule_ok (w : World) {p0 : Tlaws_Rule}  {r : Timpl_Rule} (H : laws_toRule p0 = some r)   :
    Calls Try.prog 32 #[.agg #[.int .i64 p0.Sure_, .int .i64 p0.Tie_, .int .i64 p0.Grace_, .int .i64 p0.Depth_, .int .i64 p0.Nodes_, .int .i64 p0.Units_, .bool p0.Two_]] w (fun en w' => en = .returned (.agg #[.int .i64 r.Sure_, .int .i64 r.Tie_, .int .i64 r.Grace_, .int .i64 r.Depth_, .int .i64 r.Nodes_, .int .i64 r.Units_, .bool r.Two_]) ∧ Ext [] w w') := by
  unfold laws_toRule at H
  refine f_enter (vs := [.agg #[.int .i64 p0.Sure_, .int .i64 p0.Tie_, .int .i64 p0.Grace_, .int .i64 p0.Depth_, .int .i64 p0.Nodes_, .int .i64 p0.Units_, .bool p0.Two_]]) Try.func32 rfl Try.ntmps32 rfl (St.init w []) ?_
  refine c_seq ?_
  refine c_reg ?_
  refine ow_box (cs := [.int .i64 p0.Sure_, .int .i64 p0.Tie_, .int .i64 p0.Grace_, .int .i64 p0.Depth_, .int .i64 p0.Nodes_, .int .i64 p0.Units_, .bool p0.Two_]) rfl rfl rfl rfl rfl rfl (fun _ => kp) (fun b1 => ?_)
  refine ow_alloc rfl rfl rfl rfl ty44 (fun _ => kp) (fun b2 => ?_)
  refine ow_nil ?_
  refine x_qs ?_
  refine c_seq ?_
  refine c_reg ?_
  refine ow_alloc rfl rfl rfl rfl ty44 (fun _ => kp) (fun b3 => ?_)
  refine ow_nil ?_
  refine x_qs ?_
  refine c_seq ?_
  refine c_reg ?_
  refine ow_batch [.fa 27 0 0 fa27_0] rfl ?_
  refine ow_r rfl (dstOk_lt rfl) (ry_box1 (off := 0) rfl rfl ty3 (boxIn (i := 0) rfl) rfl) ?_
  refine ow_batch [.fa 44 0 0 fa44_0] rfl ?_
  refine ow_storeC (off := 0) [.int .i64 p0.Sure_] [_, _, _, _, _, _, _] (i := 2) rfl rfl rfl rfl rfl rfl ty3 rfl rfl (by intro u hu; simp only [List.mem_cons, List.not_mem_nil, or_false] at hu; rcases hu with rfl <;> rfl) rfl rfl rfl kp ?_
  refine ow_nil ?_
  refine x_qs ?_
  refine c_seq ?_
  refine c_reg ?_
  refine ow_batch [.fa 27 1 1 fa27_1] rfl ?_
  refine ow_r rfl (dstOk_lt rfl) (ry_box1 (off := 1) rfl rfl ty3 (boxIn (i := 0) rfl) rfl) ?_
  refine ow_batch [.fa 44 1 1 fa44_1] rfl ?_
  refine ow_storeC (off := 1) [.int .i64 p0.Tie_] [_, _, _, _, _, _, _] (i := 2) rfl rfl rfl rfl rfl rfl ty3 rfl rfl (by intro u hu; simp only [List.mem_cons, List.not_mem_nil, or_false] at hu; rcases hu with rfl <;> rfl) rfl rfl rfl kp ?_
  refine ow_nil ?_
  refine x_qs ?_
  refine c_seq ?_
  refine c_reg ?_
  refine ow_batch [.fa 27 2 2 fa27_2] rfl ?_
  refine ow_r rfl (dstOk_lt rfl) (ry_box1 (off := 2) rfl rfl ty3 (boxIn (i := 0) rfl) rfl) ?_
  refine ow_batch [.fa 44 2 2 fa44_2] rfl ?_
  refine ow_storeC (off := 2) [.int .i64 p0.Grace_] [_, _, _, _, _, _, _] (i := 2) rfl rfl rfl rfl rfl rfl ty3 rfl rfl (by intro u hu; simp only [List.mem_cons, List.not_mem_nil, or_false] at hu; rcases hu with rfl <;> rfl) rfl rfl rfl kp ?_
  refine ow_nil ?_
  refine x_qs ?_
  refine c_seq ?_
  refine c_reg ?_
  refine ow_batch [.fa 27 3 3 fa27_3] rfl ?_
  refine ow_r rfl (dstOk_lt rfl) (ry_box1 (off := 3) rfl rfl ty3 (boxIn (i := 0) rfl) rfl) ?_
  refine ow_batch [.fa 44 3 3 fa44_3] rfl ?_
  refine ow_storeC (off := 3) [.int .i64 p0.Depth_] [_, _, _, _, _, _, _] (i := 2) rfl rfl rfl rfl rfl rfl ty3 rfl rfl (by intro u hu; simp only [List.mem_cons, List.not_mem_nil, or_false] at hu; rcases hu with rfl <;> rfl) rfl rfl rfl kp ?_
  refine ow_nil ?_
  refine x_qs ?_
  refine c_seq ?_
  refine c_reg ?_
  refine ow_batch [.fa 27 4 4 fa27_4] rfl ?_
  refine ow_r rfl (dstOk_lt rfl) (ry_box1 (off := 4) rfl rfl ty3 (boxIn (i := 0) rfl) rfl) ?_
  refine ow_batch [.fa 44 4 4 fa44_4] rfl ?_
  refine ow_storeC (off := 4) [.int .i64 p0.Nodes_] [_, _, _, _, _, _, _] (i := 2) rfl rfl rfl rfl rfl rfl ty3 rfl rfl (by intro u hu; simp only [List.mem_cons, List.not_mem_nil, or_false] at hu; rcases hu with rfl <;> rfl) rfl rfl rfl kp ?_
  refine ow_nil ?_
  refine x_qs ?_
  refine c_seq ?_
  refine c_reg ?_
  refine ow_batch [.fa 27 5 5 fa27_5] rfl ?_
  refine ow_r rfl (dstOk_lt rfl) (ry_box1 (off := 5) rfl rfl ty3 (boxIn (i := 0) rfl) rfl) ?_
  refine ow_batch [.fa 44 5 5 fa44_5] rfl ?_
  refine ow_storeC (off := 5) [.int .i64 p0.Units_] [_, _, _, _, _, _, _] (i := 2) rfl rfl rfl rfl rfl rfl ty3 rfl rfl (by intro u hu; simp only [List.mem_cons, List.not_mem_nil, or_false] at hu; rcases hu with rfl <;> rfl) rfl rfl rfl kp ?_
  refine ow_nil ?_
  refine x_qs ?_
  refine c_seq ?_
  refine CW.weak (C' := St w [] [_, _, _]) ?_ (fun _ h => St.sel [0, 1, 2] rfl rfl h)
  refine c_reg ?_
  refine ow_batch [.fa 27 6 6 fa27_6] rfl ?_
  refine ow_r rfl (dstOk_lt rfl) (ry_box1 (off := 6) rfl rfl ty4 (boxIn (i := 0) rfl) rfl) ?_
  refine ow_batch [.fa 44 6 6 fa44_6] rfl ?_
  refine ow_storeC (off := 6) [.bool p0.Two_] [_, _, _, _, _, _, _] (i := 2) rfl rfl rfl rfl rfl rfl ty4 rfl rfl (by intro u hu; simp only [List.mem_cons, List.not_mem_nil, or_false] at hu; rcases hu with rfl <;> rfl) rfl rfl rfl kp ?_
  refine ow_nil ?_
  refine x_qs ?_
  refine c_seq ?_
  refine c_reg ?_
  refine ow_r rfl (dstOk_lt rfl) (ry_box (off := 0) (ds := [.int .i64 p0.Sure_, .int .i64 p0.Tie_, .int .i64 p0.Grace_, .int .i64 p0.Depth_, .int .i64 p0.Nodes_, .int .i64 p0.Units_, .bool p0.Two_]) rfl rfl ty44 (boxIn (i := 2) rfl) rfl rfl) ?_
  refine ow_storeC (off := 0) [.int .i64 p0.Sure_, .int .i64 p0.Tie_, .int .i64 p0.Grace_, .int .i64 p0.Depth_, .int .i64 p0.Nodes_, .int .i64 p0.Units_, .bool p0.Two_] [_, _, _, _, _, _, _] (i := 1) rfl rfl rfl rfl rfl rfl ty44 rfl rfl (by intro u hu; simp only [List.mem_cons, List.not_mem_nil, or_false] at hu; rcases hu with rfl | rfl | rfl | rfl | rfl | rfl | rfl <;> rfl) rfl rfl rfl kp ?_
  refine ow_nil ?_
  refine x_qs ?_
  refine c_ret ?_
  exact x_retR (rs := [.cell 2 44]) (vs := [.agg #[.int .i64 p0.Sure_, .int .i64 p0.Tie_, .int .i64 p0.Grace_, .int .i64 p0.Depth_, .int .i64 p0.Nodes_, .int .i64 p0.Units_, .bool p0.Two_]]) rfl ⟨⟨_, [.int .i64 p0.Sure_, .int .i64 p0.Tie_, .int .i64 p0.Grace_, .int .i64 p0.Depth_, .int .i64 p0.Nodes_, .int .i64 p0.Units_, .bool p0.Two_], _, _, _, rfl, ty44, (at_box (T := 44) 0 (boxIn (i := 1) rfl) rfl), rfl, rfl⟩, trivial⟩ (fun w' hw' => by
      obtain rfl := of_some H
      exact ⟨rfl, hw'.ext⟩)

set_option maxHeartbeats 4000000 in
set_option maxRecDepth 100000 in
theorem laws_toConf_ok (w : World) {M0 : List Nat} {p0 : Tlaws_Conf} {cs0 : List Value} {r : Timpl_Conf} (H : laws_toConf p0 = some r) (HS : St w M0 [] w) (g0 : (eTlaws_Conf).rd w M0 p0 cs0) :
    Calls Try.prog 15 #[.agg cs0.toArray] w (fun en w' => ∃ v, en = .returned v ∧ ∃ (a0 : Option Addr), ∃ (n0 : Nat), ∃ (c0 : Nat), ∃ (F0 : List Nat), ∃ (a1 : Option Addr), ∃ (n1 : Nat), ∃ (c1 : Nat), ∃ (F1 : List Nat), v = .agg #[.slice a0 n0 c0, .slice a1 n1 c1, .int .i64 r.Rule_.Sure_, .int .i64 r.Rule_.Tie_, .int .i64 r.Rule_.Grace_, .int .i64 r.Rule_.Depth_, .int .i64 r.Rule_.Nodes_, .int .i64 r.Rule_.Units_, .bool r.Rule_.Two_, .int .i64 r.Members_, .int .i64 r.Pick_, .int .i64 r.Lambda_, .int .i64 r.Warn_, .int .i64 r.Drift_] ∧ St w M0 [Res.own (eList (eTimpl_Attr) 109) F0 r.Schema_.Attrs_ [.slice a0 n0 c0], Res.own (eList (eStr) 9) F1 r.Schema_.Classes_ [.slice a1 n1 c1]] w') := by
  obtain ⟨c1, c2, c3, c4, c5, c6, c7, rfl, g8, g9, g10, g11, g12, g13, g14⟩ := rdo_Tlaws_Conf g0
  obtain ⟨c15, c16, rfl, g17, g18⟩ := rdo_Tlaws_Schema g8
  obtain ⟨a19, c20, rfl⟩ := rd_sl1 g17
  obtain ⟨a21, c22, rfl⟩ := rd_sl1 g18
  obtain rfl : c2 = [.int .i64 p0.Rule_.Sure_, .int .i64 p0.Rule_.Tie_, .int .i64 p0.Rule_.Grace_, .int .i64 p0.Rule_.Depth_, .int .i64 p0.Rule_.Nodes_, .int .i64 p0.Rule_.Units_, .bool p0.Rule_.Two_] := g9
  obtain rfl : c3 = [.int .i64 p0.Members_] := g10
  obtain rfl : c4 = [.int .i64 p0.Pick_] := g11
  obtain rfl : c5 = [.int .i64 p0.Lambda_] := g12
  obtain rfl : c6 = [.int .i64 p0.Warn_] := g13
  obtain rfl : c7 = [.int .i64 p0.Drift_] := g14
  unfold laws_toConf at H
  refine f_enter (vs := [.agg #[.slice a19 p0.Schema_.Attrs_.length c20, .slice a21 p0.Schema_.Classes_.length c22, .int .i64 p0.Rule_.Sure_, .int .i64 p0.Rule_.Tie_, .int .i64 p0.Rule_.Grace_, .int .i64 p0.Rule_.Depth_, .int .i64 p0.Rule_.Nodes_, .int .i64 p0.Rule_.Units_, .bool p0.Rule_.Two_, .int .i64 p0.Members_, .int .i64 p0.Pick_, .int .i64 p0.Lambda_, .int .i64 p0.Warn_, .int .i64 p0.Drift_]]) Try.func15 rfl Try.ntmps15 rfl (HS) ?_
  refine c_seq ?_
  refine c_reg ?_
  refine ow_box (cs := [.slice a19 p0.Schema_.Attrs_.length c20, .slice a21 p0.Schema_.Classes_.length c22, .int .i64 p0.Rule_.Sure_, .int .i64 p0.Rule_.Tie_, .int .i64 p0.Rule_.Grace_, .int .i64 p0.Rule_.Depth_, .int .i64 p0.Rule_.Nodes_, .int .i64 p0.Rule_.Units_, .bool p0.Rule_.Two_, .int .i64 p0.Members_, .int .i64 p0.Pick_, .int .i64 p0.Lambda_, .int .i64 p0.Warn_, .int .i64 p0.Drift_]) rfl rfl rfl rfl rfl rfl (fun _ => kp) (fun b23 => ?_)
  refine ow_alloc rfl rfl rfl rfl ty46 (fun _ => kp) (fun b24 => ?_)
  refine ow_nil ?_
  refine x_qs ?_
  refine c_seq ?_
  refine c_reg ?_
  refine ow_alloc rfl rfl rfl rfl ty46 (fun _ => kp) (fun b25 => ?_)
  refine ow_nil ?_
  refine x_qs ?_
  refine c_seq ?_
  refine c_reg ?_
  refine ow_batch [.fa 29 0 0 fa29_0] rfl ?_
  refine ow_r rfl (dstOk_lt rfl) (ry_box (off := 0) (ds := [.slice a19 p0.Schema_.Attrs_.length c20, .slice a21 p0.Schema_.Classes_.length c22]) rfl rfl ty25 (boxIn (i := 0) rfl) rfl rfl) ?_
  obtain ⟨y26, h27, H⟩ := of_bind H
  refine ow_callS rfl fn31 rfl rfl rfl rfl (fun w1 hw1 => laws_toSchema_ok w1 (cs0 := [.slice a19 p0.Schema_.Attrs_.length c20, .slice a21 p0.Schema_.Classes_.length c22]) h27 (hw1.carve [] rfl rfl) (rdm_Tlaws_Schema (x := p0.Schema_) (c0 := [.slice a19 p0.Schema_.Attrs_.length c20]) (c1 := [.slice a21 p0.Schema_.Classes_.length c22]) (rds_bor g17 w1 hw1) (rds_bor g18 w1 hw1))) (fun v28 w1 w2 hw1 hR30 => ?_)
  obtain ⟨a31, n32, c33, F34, a35, n36, c37, F38, rfl, hS29⟩ := hR30
  obtain rfl := own_nS (i := 0) hS29 rfl
  obtain rfl := own_nS (i := 1) hS29 rfl
  refine ⟨St w M0 [_, _, _, _, _], hw1.comp [] rfl rfl hS29, fun _ _ => trivial, ?_⟩
  refine ow_batch [.fa 46 0 0 fa46_0] rfl ?_
  refine ow_storeC (off := 0) [.slice a31 y26.Attrs_.length c33, .slice a35 y26.Classes_.length c37] [_, _, _, _, _, _, _, _, _, _, _, _, _, _] (i := 2) rfl rfl rfl rfl rfl rfl ty43 rfl rfl (by intro u hu; simp only [List.mem_cons, List.not_mem_nil, or_false] at hu; rcases hu with rfl | rfl <;> rfl) rfl rfl rfl kp ?_
  refine ow_nil ?_
  refine x_qs ?_
  refine c_seq ?_
  refine c_reg ?_
  refine ow_batch [.fa 29 1 2 fa29_1] rfl ?_
  refine ow_r rfl (dstOk_lt rfl) (ry_box (off := 2) (ds := [.int .i64 p0.Rule_.Sure_, .int .i64 p0.Rule_.Tie_, .int .i64 p0.Rule_.Grace_, .int .i64 p0.Rule_.Depth_, .int .i64 p0.Rule_.Nodes_, .int .i64 p0.Rule_.Units_, .bool p0.Rule_.Two_]) rfl rfl ty27 (boxIn (i := 0) rfl) rfl rfl) ?_
  obtain ⟨y39, h40, H⟩ := of_bind H
  refine ow_q rfl rfl (dstOk_lt rfl) (qy_call rfl fn32 rfl (fun w1 hw1 => laws_toRule_ok w1 (p0 := p0.Rule_) h40)) (fun _ _ => trivial) ?_
  refine ow_batch [.fa 46 1 2 fa46_1] rfl ?_
  refine ow_storeC (off := 2) [.int .i64 y39.Sure_, .int .i64 y39.Tie_, .int .i64 y39.Grace_, .int .i64 y39.Depth_, .int .i64 y39.Nodes_, .int .i64 y39.Units_, .bool y39.Two_] [_, _, _, _, _, _, _, _, _, _, _, _, _, _] (i := 2) rfl rfl rfl rfl rfl rfl ty44 rfl rfl (by intro u hu; simp only [List.mem_cons, List.not_mem_nil, or_false] at hu; rcases hu with rfl | rfl | rfl | rfl | rfl | rfl | rfl <;> rfl) rfl rfl rfl kp ?_
  refine ow_nil ?_
  refine x_qs ?_
  refine c_seq ?_
  refine c_reg ?_
  refine ow_batch [.fa 29 2 9 fa29_2] rfl ?_
  refine ow_r rfl (dstOk_lt rfl) (ry_box1 (off := 9) rfl rfl ty3 (boxIn (i := 0) rfl) rfl) ?_
  refine ow_batch [.fa 46 2 9 fa46_2] rfl ?_
  refine ow_storeC (off := 9) [.int .i64 p0.Members_] [_, _, _, _, _, _, _, _, _, _, _, _, _, _] (i := 2) rfl rfl rfl rfl rfl rfl ty3 rfl rfl (by intro u hu; simp only [List.mem_cons, List.not_mem_nil, or_false] at hu; rcases hu with rfl <;> rfl) rfl rfl rfl kp ?_
  refine ow_nil ?_
  refine x_qs ?_
  refine c_seq ?_
  refine c_reg ?_
  refine ow_batch [.fa 29 3 10 fa29_3] rfl ?_
  refine ow_r rfl (dstOk_lt rfl) (ry_box1 (off := 10) rfl rfl ty3 (boxIn (i := 0) rfl) rfl) ?_
  refine ow_batch [.fa 46 3 10 fa46_3] rfl ?_
  refine ow_storeC (off := 10) [.int .i64 p0.Pick_] [_, _, _, _, _, _, _, _, _, _, _, _, _, _] (i := 2) rfl rfl rfl rfl rfl rfl ty3 rfl rfl (by intro u hu; simp only [List.mem_cons, List.not_mem_nil, or_false] at hu; rcases hu with rfl <;> rfl) rfl rfl rfl kp ?_
  refine ow_nil ?_
  refine x_qs ?_
  refine c_seq ?_
  refine c_reg ?_
  refine ow_batch [.fa 29 4 11 fa29_4] rfl ?_
  refine ow_r rfl (dstOk_lt rfl) (ry_box1 (off := 11) rfl rfl ty3 (boxIn (i := 0) rfl) rfl) ?_
  refine ow_batch [.fa 46 4 11 fa46_4] rfl ?_
  refine ow_storeC (off := 11) [.int .i64 p0.Lambda_] [_, _, _, _, _, _, _, _, _, _, _, _, _, _] (i := 2) rfl rfl rfl rfl rfl rfl ty3 rfl rfl (by intro u hu; simp only [List.mem_cons, List.not_mem_nil, or_false] at hu; rcases hu with rfl <;> rfl) rfl rfl rfl kp ?_
  refine ow_nil ?_
  refine x_qs ?_
  refine c_seq ?_
  refine c_reg ?_
  refine ow_batch [.fa 29 5 12 fa29_5] rfl ?_
  refine ow_r rfl (dstOk_lt rfl) (ry_box1 (off := 12) rfl rfl ty3 (boxIn (i := 0) rfl) rfl) ?_
  refine ow_batch [.fa 46 5 12 fa46_5] rfl ?_
  refine ow_storeC (off := 12) [.int .i64 p0.Warn_] [_, _, _, _, _, _, _, _, _, _, _, _, _, _] (i := 2) rfl rfl rfl rfl rfl rfl ty3 rfl rfl (by intro u hu; simp only [List.mem_cons, List.not_mem_nil, or_false] at hu; rcases hu with rfl <;> rfl) rfl rfl rfl kp ?_
  refine ow_nil ?_
  refine x_qs ?_
  refine c_seq ?_
  refine CW.weak (C' := St w M0 [_, _, _, _, _]) ?_ (fun _ h => St.sel [0, 1, 2, 3, 4] rfl rfl h)
  refine c_reg ?_
  refine ow_batch [.fa 29 6 13 fa29_6] rfl ?_
  refine ow_r rfl (dstOk_lt rfl) (ry_box1 (off := 13) rfl rfl ty3 (boxIn (i := 0) rfl) rfl) ?_
  refine ow_batch [.fa 46 6 13 fa46_6] rfl ?_
  refine ow_storeC (off := 13) [.int .i64 p0.Drift_] [_, _, _, _, _, _, _, _, _, _, _, _, _, _] (i := 2) rfl rfl rfl rfl rfl rfl ty3 rfl rfl (by intro u hu; simp only [List.mem_cons, List.not_mem_nil, or_false] at hu; rcases hu with rfl <;> rfl) rfl rfl rfl kp ?_
  refine ow_nil ?_
  refine x_qs ?_
  refine c_seq ?_
  refine c_reg ?_
  refine ow_r rfl (dstOk_lt rfl) (ry_box (off := 0) (ds := [.slice a31 y26.Attrs_.length c33, .slice a35 y26.Classes_.length c37, .int .i64 y39.Sure_, .int .i64 y39.Tie_, .int .i64 y39.Grace_, .int .i64 y39.Depth_, .int .i64 y39.Nodes_, .int .i64 y39.Units_, .bool y39.Two_, .int .i64 p0.Members_, .int .i64 p0.Pick_, .int .i64 p0.Lambda_, .int .i64 p0.Warn_, .int .i64 p0.Drift_]) rfl rfl ty46 (boxIn (i := 2) rfl) rfl rfl) ?_
  refine ow_storeC (off := 0) [.slice a31 y26.Attrs_.length c33, .slice a35 y26.Classes_.length c37, .int .i64 y39.Sure_, .int .i64 y39.Tie_, .int .i64 y39.Grace_, .int .i64 y39.Depth_, .int .i64 y39.Nodes_, .int .i64 y39.Units_, .bool y39.Two_, .int .i64 p0.Members_, .int .i64 p0.Pick_, .int .i64 p0.Lambda_, .int .i64 p0.Warn_, .int .i64 p0.Drift_] [_, _, _, _, _, _, _, _, _, _, _, _, _, _] (i := 1) rfl rfl rfl rfl rfl rfl ty46 rfl rfl (by intro u hu; simp only [List.mem_cons, List.not_mem_nil, or_false] at hu; rcases hu with rfl | rfl | rfl | rfl | rfl | rfl | rfl | rfl | rfl | rfl | rfl | rfl | rfl | rfl <;> rfl) rfl rfl rfl kp ?_
  refine ow_nil ?_
  refine x_qs ?_
  refine c_ret ?_
  exact x_retR (rs := [.cell 2 46]) (vs := [.agg #[.slice a31 y26.Attrs_.length c33, .slice a35 y26.Classes_.length c37, .int .i64 y39.Sure_, .int .i64 y39.Tie_, .int .i64 y39.Grace_, .int .i64 y39.Depth_, .int .i64 y39.Nodes_, .int .i64 y39.Units_, .bool y39.Two_, .int .i64 p0.Members_, .int .i64 p0.Pick_, .int .i64 p0.Lambda_, .int .i64 p0.Warn_, .int .i64 p0.Drift_]]) rfl ⟨⟨_, [.slice a31 y26.Attrs_.length c33, .slice a35 y26.Classes_.length c37, .int .i64 y39.Sure_, .int .i64 y39.Tie_, .int .i64 y39.Grace_, .int .i64 y39.Depth_, .int .i64 y39.Nodes_, .int .i64 y39.Units_, .bool y39.Two_, .int .i64 p0.Members_, .int .i64 p0.Pick_, .int .i64 p0.Lambda_, .int .i64 p0.Warn_, .int .i64 p0.Drift_], _, _, _, rfl, ty46, (at_box (T := 46) 0 (boxIn (i := 1) rfl) rfl), rfl, rfl⟩, trivial⟩ (fun w' hw' => by
      obtain rfl := of_some H
      exact ⟨_, rfl, a31, y26.Attrs_.length, c33, F34, a35, y26.Classes_.length, c37, F38, rfl, hw'.sel [3, 4] rfl rfl⟩)

set_option maxHeartbeats 4000000 in
set_option maxRecDepth 100000 in
theorem laws_toFork_ok (w : World) {p0 : Tlaws_Fork}  {r : Timpl_Fork} (H : laws_toFork p0 = some r)   :
    Calls Try.prog 97 #[.agg #[.int .i64 p0.Attr_, .int .i64 p0.At_]] w (fun en w' => en = .returned (.agg #[.int .i64 r.Attr_, .int .i64 r.At_]) ∧ Ext [] w w') := by
  unfold laws_toFork at H
  refine f_enter (vs := [.agg #[.int .i64 p0.Attr_, .int .i64 p0.At_]]) Try.func97 rfl Try.ntmps97 rfl (St.init w []) ?_
  refine c_seq ?_
  refine c_reg ?_
  refine ow_box (cs := [.int .i64 p0.Attr_, .int .i64 p0.At_]) rfl rfl rfl rfl rfl rfl (fun _ => kp) (fun b1 => ?_)
  refine ow_alloc rfl rfl rfl rfl ty129 (fun _ => kp) (fun b2 => ?_)
  refine ow_nil ?_
  refine x_qs ?_
  refine c_seq ?_
  refine c_reg ?_
  refine ow_alloc rfl rfl rfl rfl ty129 (fun _ => kp) (fun b3 => ?_)
  refine ow_nil ?_
  refine x_qs ?_
  refine c_seq ?_
  refine c_reg ?_
  refine ow_batch [.fa 146 0 0 fa146_0] rfl ?_
  refine ow_r rfl (dstOk_lt rfl) (ry_box1 (off := 0) rfl rfl ty3 (boxIn (i := 0) rfl) rfl) ?_
  refine ow_batch [.fa 129 0 0 fa129_0] rfl ?_
  refine ow_storeC (off := 0) [.int .i64 p0.Attr_] [_, _] (i := 2) rfl rfl rfl rfl rfl rfl ty3 rfl rfl (by intro u hu; simp only [List.mem_cons, List.not_mem_nil, or_false] at hu; rcases hu with rfl <;> rfl) rfl rfl rfl kp ?_
  refine ow_nil ?_
  refine x_qs ?_
  refine c_seq ?_
  refine c_reg ?_
  refine ow_batch [.fa 146 1 1 fa146_1] rfl ?_
  refine ow_r rfl (dstOk_lt rfl) (ry_box1 (off := 1) rfl rfl ty3 (boxIn (i := 0) rfl) rfl) ?_
  refine ow_batch [.fa 129 1 1 fa129_1] rfl ?_
  refine ow_storeC (off := 1) [.int .i64 p0.At_] [_, _] (i := 2) rfl rfl rfl rfl rfl rfl ty3 rfl rfl (by intro u hu; simp only [List.mem_cons, List.not_mem_nil, or_false] at hu; rcases hu with rfl <;> rfl) rfl rfl rfl kp ?_
  refine ow_nil ?_
  refine x_qs ?_
  refine c_seq ?_
  refine c_reg ?_
  refine ow_r rfl (dstOk_lt rfl) (ry_box (off := 0) (ds := [.int .i64 p0.Attr_, .int .i64 p0.At_]) rfl rfl ty129 (boxIn (i := 2) rfl) rfl rfl) ?_
  refine ow_storeC (off := 0) [.int .i64 p0.Attr_, .int .i64 p0.At_] [_, _] (i := 1) rfl rfl rfl rfl rfl rfl ty129 rfl rfl (by intro u hu; simp only [List.mem_cons, List.not_mem_nil, or_false] at hu; rcases hu with rfl | rfl <;> rfl) rfl rfl rfl kp ?_
  refine ow_nil ?_
  refine x_qs ?_
  refine c_ret ?_
  exact x_retR (rs := [.cell 2 129]) (vs := [.agg #[.int .i64 p0.Attr_, .int .i64 p0.At_]]) rfl ⟨⟨_, [.int .i64 p0.Attr_, .int .i64 p0.At_], _, _, _, rfl, ty129, (at_box (T := 129) 0 (boxIn (i := 1) rfl) rfl), rfl, rfl⟩, trivial⟩ (fun w' hw' => by
      obtain rfl := of_some H
      exact ⟨rfl, hw'.ext⟩)

set_option maxHeartbeats 4000000 in
set_option maxRecDepth 100000 in
theorem laws_toIntSS_ok (w : World) {M0 : List Nat} {p0 : List (List Int)} {a_0 : Option Addr} {n_0 c_0 : Nat} {r : List (List Int)} (H : laws_toIntSS p0 = some r) (HS : St w M0 [] w) (g0 : (eList (eList (eVal (Value.int .i64) (fun _ => rfl)) 3) 82).rd w M0 p0 [.slice a_0 n_0 c_0]) :
    Calls Try.prog 34 #[.slice a_0 n_0 c_0] w (fun en w' => ∃ v, en = .returned v ∧ ∃ (a0 : Option Addr), ∃ (n0 : Nat), ∃ (c0 : Nat), ∃ (F0 : List Nat), v = .slice a0 n0 c0 ∧ St w M0 [Res.own (eList (eList (eVal (Value.int .i64) (fun _ => rfl)) 3) 82) F0 r [.slice a0 n0 c0]] w') := by
  obtain rfl := rd_n g0
  unfold laws_toIntSS at H
  refine f_enter (vs := [.slice a_0 p0.length c_0]) Try.func34 rfl Try.ntmps34 rfl (HS) ?_
  refine c_seq ?_
  refine c_reg ?_
  refine ow_batch [.p] rfl ?_
  refine ow_nil ?_
  refine x_qs ?_
  refine c_seq ?_
  refine c_reg ?_
  refine ow_batch [.p, .lenS 33 82 sl33] rfl ?_
  obtain ⟨l1, h2, H⟩ := of_bind H
  refine ow_make (e := eList (eVal (Value.int .i64) (fun _ => rfl)) 3) (zero := ([] : List Int)) rfl rfl rfl rfl rfl rfl sl33 ty82 rfl rfl rfl rfl (fun _ => (.inl ⟨rfl, rfl, rfl⟩)) h2 (fun _ => kp) (fun b3 => ?_)
  refine ow_batch [.p] rfl ?_
  refine ow_nil ?_
  refine x_qs ?_
  refine c_seq ?_
  refine c_seq ?_
  refine c_reg ?_
  refine ow_batch [.p] rfl ?_
  refine ow_nil ?_
  refine x_qs ?_
  refine c_block ?_
  refine CW.at (loopI3 (fun (l37 : List (List Int)) (F38 : List Nat) (i39 : Int) => St w M0 [Res.own (eList (eList (eVal (Value.int .i64) (fun _ => rfl)) 3) 82) F38 l37 [.slice (some ⟨b3, 0, none⟩) l1.length l1.length]]) (fun (l37 : List (List Int)) (F38 : List Nat) (i39 : Int) => [(0, .slice a_0 p0.length c_0), (3, .slice (some ⟨b3, 0, none⟩) l1.length l1.length), (4, .int .i64 i39)]) (fun kk => fun (l37 : List (List Int)) (F38 : List Nat) (i39 : Int) => laws_toIntSS_L1 p0 kk l37 i39 = some r) (fun _ _ _ H => ?_) (fun k1 ihk1 l37 F38 i39 H => ?_) Fuel (l1) ([b3]) (0) (H)) (fun _ h => St.sel [0] rfl rfl h) ⟨rfl, rfl, rfl,  trivial⟩
  · unfold laws_toIntSS_L1 at H
    exact absurd H (by simp)
  · unfold laws_toIntSS_L1 at H
    refine c_seq ?_
    refine c_seq ?_
    refine c_reg ?_
    refine ow_batch [.p, .p, .lenS 33 82 sl33, .p] rfl ?_
    refine ow_nil ?_
    refine x_qs ?_
    refine c_if rfl (fun hb => ?_) (fun hb => ?_)
    · have H := of_if_t hb H
      refine c_skip ?_
      refine x_qs ?_
      refine c_seq ?_
      refine c_block ?_
      refine c_reg ?_
      refine ow_batch [.p, .p, .p, .p] rfl ?_
      obtain ⟨e73, h74, H⟩ := of_bind H
      refine ow_ixB rfl rfl rfl rfl rfl sl33 ty82 rfl g0 h74 (fun q77 c78 hd75 hA76 => ?_)
      obtain ⟨a79, c80, rfl⟩ := rd_sl1 hd75
      refine ow_r rfl (dstOk_lt rfl) (ry_load1 rfl rfl ty82 (at_bor bor hA76)) ?_
      obtain ⟨y81, h82, H⟩ := of_bind H
      refine ow_callS rfl fn56 rfl rfl rfl rfl (fun w1 hw1 => laws_toIntS_ok w1  h82 (hw1.carve [] rfl rfl) (rds_bor hd75 w1 hw1)) (fun v83 w1 w2 hw1 hR85 => ?_)
      obtain ⟨a86, n87, c88, F89, rfl, hS84⟩ := hR85
      obtain rfl := own_nS (i := 0) hS84 rfl
      refine ⟨St w M0 [_, _], hw1.comp [] rfl rfl hS84, fun _ _ => trivial, ?_⟩
      obtain ⟨e90, h91, H⟩ := of_bind H
      refine ow_ex4 rfl (fun w1 hw1 => foc (r := 0) hw1 rfl h91) (fun b93 G94 F95 c96 => ?_)
      refine ow_fact rfl (fun w1 hw1 => hw1.1) (fun q92 => ?_)
      obtain ⟨ha97, hn98⟩ := q92
      refine ow_st (C' := St w M0 [_, _, _, _]) rfl (fun w1 hw1 => hw1.2) ?_
      refine ow_ex2 rfl (fun w1 hw1 => opn_sl (i := 3) hw1 rfl) (fun a99 c100 => ?_)
      refine ow_fact rfl (fun w1 hw1 => hw1.1) (fun q101 => ?_)
      subst q101
      refine ow_st (C' := St w M0 [_, _, _, _]) rfl (fun w1 hw1 => hw1.2) ?_
      refine ow_ixH rfl rfl rfl rfl rfl sl33 ty82 rfl (holeIn (p := 2) rfl) hn98 ha97 (idx_some h91).1 ?_
      refine ow_storeH (off := 0) [.slice a86 y81.length c88] (p := 2) (c' := [_]) rfl rfl rfl rfl rfl (by first | rfl | simp only [add_lit, add_add, add_zero]) rfl ty82 rfl rfl (by intro u hu; simp only [List.mem_cons, List.not_mem_nil, or_false] at hu; rcases hu with rfl <;> rfl) rfl rfl rfl kp ?_
      refine ow_nil ?_
      refine x_qb ?_
      refine x_qs ?_
      refine c_reg ?_
      refine ow_batch [.p, .p, .p] rfl ?_
      refine ow_nil ?_
      refine xw_ex (fun w1 hw1 => unf (p := 2) (q := 1) hw1 rfl rfl rfl hn98 ha97) (fun F102 => ?_)
      refine xw_st (C' := St w M0 [_, _, _, _, _]) (fun _ h => h) ?_
      exact x_ql (RW.at (ihk1 ((l37.set i39.toNat y81)) (F102) (IntKind.i64.wrap (i39 + 1)) (H)) (fun _ h => St.sel [4] rfl rfl h) ⟨rfl, rfl, rfl, trivial⟩)
    · have H := of_if_f hb H
      refine c_exit ?_
      refine x_qs_exit ?_
      refine x_ql_exit ?_
      refine x_qb_here ?_
      refine x_qs ?_
      refine c_seq ?_
      refine c_reg ?_
      refine ow_batch [.p, .p] rfl ?_
      refine ow_nil ?_
      refine x_qs ?_
      refine c_ret ?_
      exact x_retR (rs := [.tmp 2]) (vs := [.slice (some ⟨b3, 0, none⟩) l1.length l1.length]) rfl ⟨rfl, trivial⟩ (fun w' hw' => by
          obtain rfl := of_some H
          exact ⟨_, rfl, (some ⟨b3, 0, none⟩), l1.length, l1.length, F38, rfl, hw'.sel [0] rfl rfl⟩)

set_option maxHeartbeats 4000000 in
set_option maxRecDepth 100000 in
theorem laws_toStats_ok (w : World) {M0 : List Nat} {p0 : Tlaws_Stats} {cs0 : List Value} {r : Timpl_Stats} (H : laws_toStats p0 = some r) (HS : St w M0 [] w) (g0 : (eTlaws_Stats).rd w M0 p0 cs0) :
    Calls Try.prog 98 #[.agg cs0.toArray] w (fun en w' => ∃ v, en = .returned v ∧ ∃ (a0 : Option Addr), ∃ (n0 : Nat), ∃ (c0 : Nat), ∃ (F0 : List Nat), ∃ (a1 : Option Addr), ∃ (n1 : Nat), ∃ (c1 : Nat), ∃ (F1 : List Nat), v = .agg #[.slice a0 n0 c0, .slice a1 n1 c1] ∧ St w M0 [Res.own (eList (eVal (Value.int .i64) (fun _ => rfl)) 3) F0 r.Totals_ [.slice a0 n0 c0], Res.own (eList (eList (eVal (Value.int .i64) (fun _ => rfl)) 3) 82) F1 r.Cells_ [.slice a1 n1 c1]] w') := by
  obtain ⟨c1, c2, rfl, g3, g4⟩ := rdo_Tlaws_Stats g0
  obtain ⟨a5, c6, rfl⟩ := rd_sl1 g3
  obtain ⟨a7, c8, rfl⟩ := rd_sl1 g4
  unfold laws_toStats at H
  refine f_enter (vs := [.agg #[.slice a5 p0.Totals_.length c6, .slice a7 p0.Cells_.length c8]]) Try.func98 rfl Try.ntmps98 rfl (HS) ?_
  refine c_seq ?_
  refine c_reg ?_
  refine ow_box (cs := [.slice a5 p0.Totals_.length c6, .slice a7 p0.Cells_.length c8]) rfl rfl rfl rfl rfl rfl (fun _ => kp) (fun b9 => ?_)
  refine ow_alloc rfl rfl rfl rfl ty131 (fun _ => kp) (fun b10 => ?_)
  refine ow_nil ?_
  refine x_qs ?_
  refine c_seq ?_
  refine c_reg ?_
  refine ow_alloc rfl rfl rfl rfl ty131 (fun _ => kp) (fun b11 => ?_)
  refine ow_nil ?_
  refine x_qs ?_
  refine c_seq ?_
  refine c_reg ?_
  refine ow_batch [.fa 147 0 0 fa147_0] rfl ?_
  refine ow_r rfl (dstOk_lt rfl) (ry_box1 (off := 0) rfl rfl ty82 (boxIn (i := 0) rfl) rfl) ?_
  obtain ⟨y12, h13, H⟩ := of_bind H
  refine ow_callS rfl fn56 rfl rfl rfl rfl (fun w1 hw1 => laws_toIntS_ok w1  h13 (hw1.carve [] rfl rfl) (rds_bor g3 w1 hw1)) (fun v14 w1 w2 hw1 hR16 => ?_)
  obtain ⟨a17, n18, c19, F20, rfl, hS15⟩ := hR16
  obtain rfl := own_nS (i := 0) hS15 rfl
  refine ⟨St w M0 [_, _, _, _], hw1.comp [] rfl rfl hS15, fun _ _ => trivial, ?_⟩
  refine ow_batch [.fa 131 0 0 fa131_0] rfl ?_
  refine ow_storeC (off := 0) [.slice a17 y12.length c19] [_, _] (i := 2) rfl rfl rfl rfl rfl rfl ty82 rfl rfl (by intro u hu; simp only [List.mem_cons, List.not_mem_nil, or_false] at hu; rcases hu with rfl <;> rfl) rfl rfl rfl kp ?_
  refine ow_nil ?_
  refine x_qs ?_
  refine c_seq ?_
  refine c_reg ?_
  refine ow_batch [.fa 147 1 1 fa147_1] rfl ?_
  refine ow_r rfl (dstOk_lt rfl) (ry_box1 (off := 1) rfl rfl ty33 (boxIn (i := 0) rfl) rfl) ?_
  obtain ⟨y21, h22, H⟩ := of_bind H
  refine ow_callS rfl fn34 rfl rfl rfl rfl (fun w1 hw1 => laws_toIntSS_ok w1  h22 (hw1.carve [] rfl rfl) (rds_bor g4 w1 hw1)) (fun v23 w1 w2 hw1 hR25 => ?_)
  obtain ⟨a26, n27, c28, F29, rfl, hS24⟩ := hR25
  obtain rfl := own_nS (i := 0) hS24 rfl
  refine ⟨St w M0 [_, _, _, _, _], hw1.comp [] rfl rfl hS24, fun _ _ => trivial, ?_⟩
  refine ow_batch [.fa 131 1 1 fa131_1] rfl ?_
  refine ow_storeC (off := 1) [.slice a26 y21.length c28] [_, _] (i := 2) rfl rfl rfl rfl rfl rfl ty33 rfl rfl (by intro u hu; simp only [List.mem_cons, List.not_mem_nil, or_false] at hu; rcases hu with rfl <;> rfl) rfl rfl rfl kp ?_
  refine ow_nil ?_
  refine x_qs ?_
  refine c_seq ?_
  refine c_reg ?_
  refine ow_r rfl (dstOk_lt rfl) (ry_box (off := 0) (ds := [.slice a17 y12.length c19, .slice a26 y21.length c28]) rfl rfl ty131 (boxIn (i := 2) rfl) rfl rfl) ?_
  refine ow_storeC (off := 0) [.slice a17 y12.length c19, .slice a26 y21.length c28] [_, _] (i := 1) rfl rfl rfl rfl rfl rfl ty131 rfl rfl (by intro u hu; simp only [List.mem_cons, List.not_mem_nil, or_false] at hu; rcases hu with rfl | rfl <;> rfl) rfl rfl rfl kp ?_
  refine ow_nil ?_
  refine x_qs ?_
  refine c_ret ?_
  exact x_retR (rs := [.cell 2 131]) (vs := [.agg #[.slice a17 y12.length c19, .slice a26 y21.length c28]]) rfl ⟨⟨_, [.slice a17 y12.length c19, .slice a26 y21.length c28], _, _, _, rfl, ty131, (at_box (T := 131) 0 (boxIn (i := 1) rfl) rfl), rfl, rfl⟩, trivial⟩ (fun w' hw' => by
      obtain rfl := of_some H
      exact ⟨_, rfl, a17, y12.length, c19, F20, a26, y21.length, c28, F29, rfl, hw'.sel [3, 4] rfl rfl⟩)

set_option maxHeartbeats 4000000 in
set_option maxRecDepth 100000 in
theorem laws_toNode_ok (w : World) {M0 : List Nat} {p0 : Tlaws_Node} {cs0 : List Value} {r : Timpl_Node} (H : laws_toNode p0 = some r) (HS : St w M0 [] w) (g0 : (eTlaws_Node).rd w M0 p0 cs0) :
    Calls Try.prog 94 #[.agg cs0.toArray] w (fun en w' => ∃ v, en = .returned v ∧ ∃ (a0 : Option Addr), ∃ (n0 : Nat), ∃ (c0 : Nat), ∃ (F0 : List Nat), ∃ (a1 : Option Addr), ∃ (n1 : Nat), ∃ (c1 : Nat), ∃ (F1 : List Nat), ∃ (a2 : Option Addr), ∃ (n2 : Nat), ∃ (c2 : Nat), ∃ (F2 : List Nat), ∃ (a3 : Option Addr), ∃ (n3 : Nat), ∃ (c3 : Nat), ∃ (F3 : List Nat), v = .agg #[.bool r.Leaf_, .int .i64 r.Fork_.Attr_, .int .i64 r.Fork_.At_, .slice a0 n0 c0, .int .i64 r.Miss_, .slice a1 n1 c1, .slice a2 n2 c2, .int .i64 r.Since_, .slice a3 n3 c3, .int .i64 r.Depth_, .int .i64 r.Up_, .int .i64 r.Born_] ∧ St w M0 [Res.own (eList (eVal (Value.int .i64) (fun _ => rfl)) 3) F0 r.Kids_ [.slice a0 n0 c0], Res.own (eList (eVal (Value.int .i64) (fun _ => rfl)) 3) F1 r.Stats_.Totals_ [.slice a1 n1 c1], Res.own (eList (eList (eVal (Value.int .i64) (fun _ => rfl)) 3) 82) F2 r.Stats_.Cells_ [.slice a2 n2 c2], Res.own (eList (eVal (Value.int .i64) (fun _ => rfl)) 3) F3 r.Attrs_ [.slice a3 n3 c3]] w') := by
  obtain ⟨c1, c2, c3, c4, c5, c6, c7, c8, c9, c10, rfl, g11, g12, g13, g14, g15, g16, g17, g18, g19, g20⟩ := rdo_Tlaws_Node g0
  obtain rfl : c1 = [.bool p0.Leaf_] := g11
  obtain rfl : c2 = [.int .i64 p0.Fork_.Attr_, .int .i64 p0.Fork_.At_] := g12
  obtain ⟨a21, c22, rfl⟩ := rd_sl1 g13
  obtain rfl : c4 = [.int .i64 p0.Miss_] := g14
  obtain ⟨c23, c24, rfl, g25, g26⟩ := rdo_Tlaws_Stats g15
  obtain ⟨a27, c28, rfl⟩ := rd_sl1 g25
  obtain ⟨a29, c30, rfl⟩ := rd_sl1 g26
  obtain rfl : c6 = [.int .i64 p0.Since_] := g16
  obtain ⟨a31, c32, rfl⟩ := rd_sl1 g17
  obtain rfl : c8 = [.int .i64 p0.Depth_] := g18
  obtain rfl : c9 = [.int .i64 p0.Up_] := g19
  obtain rfl : c10 = [.int .i64 p0.Born_] := g20
  unfold laws_toNode at H
  refine f_enter (vs := [.agg #[.bool p0.Leaf_, .int .i64 p0.Fork_.Attr_, .int .i64 p0.Fork_.At_, .slice a21 p0.Kids_.length c22, .int .i64 p0.Miss_, .slice a27 p0.Stats_.Totals_.length c28, .slice a29 p0.Stats_.Cells_.length c30, .int .i64 p0.Since_, .slice a31 p0.Attrs_.length c32, .int .i64 p0.Depth_, .int .i64 p0.Up_, .int .i64 p0.Born_]]) Try.func94 rfl Try.ntmps94 rfl (HS) ?_
  refine c_seq ?_
  refine c_reg ?_
  refine ow_box (cs := [.bool p0.Leaf_, .int .i64 p0.Fork_.Attr_, .int .i64 p0.Fork_.At_, .slice a21 p0.Kids_.length c22, .int .i64 p0.Miss_, .slice a27 p0.Stats_.Totals_.length c28, .slice a29 p0.Stats_.Cells_.length c30, .int .i64 p0.Since_, .slice a31 p0.Attrs_.length c32, .int .i64 p0.Depth_, .int .i64 p0.Up_, .int .i64 p0.Born_]) rfl rfl rfl rfl rfl rfl (fun _ => kp) (fun b33 => ?_)
  refine ow_alloc rfl rfl rfl rfl ty133 (fun _ => kp) (fun b34 => ?_)
  refine ow_nil ?_
  refine x_qs ?_
  refine c_seq ?_
  refine c_reg ?_
  refine ow_alloc rfl rfl rfl rfl ty133 (fun _ => kp) (fun b35 => ?_)
  refine ow_nil ?_
  refine x_qs ?_
  refine c_seq ?_
  refine c_reg ?_
  refine ow_batch [.fa 149 0 0 fa149_0] rfl ?_
  refine ow_r rfl (dstOk_lt rfl) (ry_box1 (off := 0) rfl rfl ty4 (boxIn (i := 0) rfl) rfl) ?_
  refine ow_batch [.fa 133 0 0 fa133_0] rfl ?_
  refine ow_storeC (off := 0) [.bool p0.Leaf_] [_, _, _, _, _, _, _, _, _, _, _, _] (i := 2) rfl rfl rfl rfl rfl rfl ty4 rfl rfl (by intro u hu; simp only [List.mem_cons, List.not_mem_nil, or_false] at hu; rcases hu with rfl <;> rfl) rfl rfl rfl kp ?_
  refine ow_nil ?_
  refine x_qs ?_
  refine c_seq ?_
  refine c_reg ?_
  refine ow_batch [.fa 149 1 1 fa149_1] rfl ?_
  refine ow_r rfl (dstOk_lt rfl) (ry_box (off := 1) (ds := [.int .i64 p0.Fork_.Attr_, .int .i64 p0.Fork_.At_]) rfl rfl ty146 (boxIn (i := 0) rfl) rfl rfl) ?_
  obtain ⟨y36, h37, H⟩ := of_bind H
  refine ow_q rfl rfl (dstOk_lt rfl) (qy_call rfl fn97 rfl (fun w1 hw1 => laws_toFork_ok w1 (p0 := p0.Fork_) h37)) (fun _ _ => trivial) ?_
  refine ow_batch [.fa 133 1 1 fa133_1] rfl ?_
  refine ow_storeC (off := 1) [.int .i64 y36.Attr_, .int .i64 y36.At_] [_, _, _, _, _, _, _, _, _, _, _, _] (i := 2) rfl rfl rfl rfl rfl rfl ty129 rfl rfl (by intro u hu; simp only [List.mem_cons, List.not_mem_nil, or_false] at hu; rcases hu with rfl | rfl <;> rfl) rfl rfl rfl kp ?_
  refine ow_nil ?_
  refine x_qs ?_
  refine c_seq ?_
  refine c_reg ?_
  refine ow_batch [.fa 149 2 3 fa149_2] rfl ?_
  refine ow_r rfl (dstOk_lt rfl) (ry_box1 (off := 3) rfl rfl ty82 (boxIn (i := 0) rfl) rfl) ?_
  obtain ⟨y38, h39, H⟩ := of_bind H
  refine ow_callS rfl fn56 rfl rfl rfl rfl (fun w1 hw1 => laws_toIntS_ok w1  h39 (hw1.carve [] rfl rfl) (rds_bor g13 w1 hw1)) (fun v40 w1 w2 hw1 hR42 => ?_)
  obtain ⟨a43, n44, c45, F46, rfl, hS41⟩ := hR42
  obtain rfl := own_nS (i := 0) hS41 rfl
  refine ⟨St w M0 [_, _, _, _], hw1.comp [] rfl rfl hS41, fun _ _ => trivial, ?_⟩
  refine ow_batch [.fa 133 2 3 fa133_2] rfl ?_
  refine ow_storeC (off := 3) [.slice a43 y38.length c45] [_, _, _, _, _, _, _, _, _, _, _, _] (i := 2) rfl rfl rfl rfl rfl rfl ty82 rfl rfl (by intro u hu; simp only [List.mem_cons, List.not_mem_nil, or_false] at hu; rcases hu with rfl <;> rfl) rfl rfl rfl kp ?_
  refine ow_nil ?_
  refine x_qs ?_
  refine c_seq ?_
  refine c_reg ?_
  refine ow_batch [.fa 149 3 4 fa149_3] rfl ?_
  refine ow_r rfl (dstOk_lt rfl) (ry_box1 (off := 4) rfl rfl ty3 (boxIn (i := 0) rfl) rfl) ?_
  refine ow_batch [.fa 133 3 4 fa133_3] rfl ?_
  refine ow_storeC (off := 4) [.int .i64 p0.Miss_] [_, _, _, _, _, _, _, _, _, _, _, _] (i := 2) rfl rfl rfl rfl rfl rfl ty3 rfl rfl (by intro u hu; simp only [List.mem_cons, List.not_mem_nil, or_false] at hu; rcases hu with rfl <;> rfl) rfl rfl rfl kp ?_
  refine ow_nil ?_
  refine x_qs ?_
  refine c_seq ?_
  refine c_reg ?_
  refine ow_batch [.fa 149 4 5 fa149_4] rfl ?_
  refine ow_r rfl (dstOk_lt rfl) (ry_box (off := 5) (ds := [.slice a27 p0.Stats_.Totals_.length c28, .slice a29 p0.Stats_.Cells_.length c30]) rfl rfl ty147 (boxIn (i := 0) rfl) rfl rfl) ?_
  obtain ⟨y47, h48, H⟩ := of_bind H
  refine ow_callS rfl fn98 rfl rfl rfl rfl (fun w1 hw1 => laws_toStats_ok w1 (cs0 := [.slice a27 p0.Stats_.Totals_.length c28, .slice a29 p0.Stats_.Cells_.length c30]) h48 (hw1.carve [] rfl rfl) (rdm_Tlaws_Stats (x := p0.Stats_) (c0 := [.slice a27 p0.Stats_.Totals_.length c28]) (c1 := [.slice a29 p0.Stats_.Cells_.length c30]) (rds_bor g25 w1 hw1) (rds_bor g26 w1 hw1))) (fun v49 w1 w2 hw1 hR51 => ?_)
  obtain ⟨a52, n53, c54, F55, a56, n57, c58, F59, rfl, hS50⟩ := hR51
  obtain rfl := own_nS (i := 0) hS50 rfl
  obtain rfl := own_nS (i := 1) hS50 rfl
  refine ⟨St w M0 [_, _, _, _, _, _], hw1.comp [] rfl rfl hS50, fun _ _ => trivial, ?_⟩
  refine ow_batch [.fa 133 4 5 fa133_4] rfl ?_
  refine ow_storeC (off := 5) [.slice a52 y47.Totals_.length c54, .slice a56 y47.Cells_.length c58] [_, _, _, _, _, _, _, _, _, _, _, _] (i := 2) rfl rfl rfl rfl rfl rfl ty131 rfl rfl (by intro u hu; simp only [List.mem_cons, List.not_mem_nil, or_false] at hu; rcases hu with rfl | rfl <;> rfl) rfl rfl rfl kp ?_
  refine ow_nil ?_
  refine x_qs ?_
  refine c_seq ?_
  refine c_reg ?_
  refine ow_batch [.fa 149 5 7 fa149_5] rfl ?_
  refine ow_r rfl (dstOk_lt rfl) (ry_box1 (off := 7) rfl rfl ty3 (boxIn (i := 0) rfl) rfl) ?_
  refine ow_batch [.fa 133 5 7 fa133_5] rfl ?_
  refine ow_storeC (off := 7) [.int .i64 p0.Since_] [_, _, _, _, _, _, _, _, _, _, _, _] (i := 2) rfl rfl rfl rfl rfl rfl ty3 rfl rfl (by intro u hu; simp only [List.mem_cons, List.not_mem_nil, or_false] at hu; rcases hu with rfl <;> rfl) rfl rfl rfl kp ?_
  refine ow_nil ?_
  refine x_qs ?_
  refine c_seq ?_
  refine CW.weak (C' := St w M0 [_, _, _, _, _, _]) ?_ (fun _ h => St.sel [0, 1, 2, 3, 4, 5] rfl rfl h)
  refine c_reg ?_
  refine ow_batch [.fa 149 6 8 fa149_6] rfl ?_
  refine ow_r rfl (dstOk_lt rfl) (ry_box1 (off := 8) rfl rfl ty82 (boxIn (i := 0) rfl) rfl) ?_
  obtain ⟨y60, h61, H⟩ := of_bind H
  refine ow_callS rfl fn56 rfl rfl rfl rfl (fun w1 hw1 => laws_toIntS_ok w1  h61 (hw1.carve [] rfl rfl) (rds_bor g17 w1 hw1)) (fun v62 w1 w2 hw1 hR64 => ?_)
  obtain ⟨a65, n66, c67, F68, rfl, hS63⟩ := hR64
  obtain rfl := own_nS (i := 0) hS63 rfl
  refine ⟨St w M0 [_, _, _, _, _, _, _], hw1.comp [] rfl rfl hS63, fun _ _ => trivial, ?_⟩
  refine ow_batch [.fa 133 6 8 fa133_6] rfl ?_
  refine ow_storeC (off := 8) [.slice a65 y60.length c67] [_, _, _, _, _, _, _, _, _, _, _, _] (i := 2) rfl rfl rfl rfl rfl rfl ty82 rfl rfl (by intro u hu; simp only [List.mem_cons, List.not_mem_nil, or_false] at hu; rcases hu with rfl <;> rfl) rfl rfl rfl kp ?_
  refine ow_nil ?_
  refine x_qs ?_
  refine c_seq ?_
  refine c_reg ?_
  refine ow_batch [.fa 149 7 9 fa149_7] rfl ?_
  refine ow_r rfl (dstOk_lt rfl) (ry_box1 (off := 9) rfl rfl ty3 (boxIn (i := 0) rfl) rfl) ?_
  refine ow_batch [.fa 133 7 9 fa133_7] rfl ?_
  refine ow_storeC (off := 9) [.int .i64 p0.Depth_] [_, _, _, _, _, _, _, _, _, _, _, _] (i := 2) rfl rfl rfl rfl rfl rfl ty3 rfl rfl (by intro u hu; simp only [List.mem_cons, List.not_mem_nil, or_false] at hu; rcases hu with rfl <;> rfl) rfl rfl rfl kp ?_
  refine ow_nil ?_
  refine x_qs ?_
  refine c_seq ?_
  refine c_reg ?_
  refine ow_batch [.fa 149 8 10 fa149_8] rfl ?_
  refine ow_r rfl (dstOk_lt rfl) (ry_box1 (off := 10) rfl rfl ty3 (boxIn (i := 0) rfl) rfl) ?_
  refine ow_batch [.fa 133 8 10 fa133_8] rfl ?_
  refine ow_storeC (off := 10) [.int .i64 p0.Up_] [_, _, _, _, _, _, _, _, _, _, _, _] (i := 2) rfl rfl rfl rfl rfl rfl ty3 rfl rfl (by intro u hu; simp only [List.mem_cons, List.not_mem_nil, or_false] at hu; rcases hu with rfl <;> rfl) rfl rfl rfl kp ?_
  refine ow_nil ?_
  refine x_qs ?_
  refine c_seq ?_
  refine c_reg ?_
  refine ow_batch [.fa 149 9 11 fa149_9] rfl ?_
  refine ow_r rfl (dstOk_lt rfl) (ry_box1 (off := 11) rfl rfl ty3 (boxIn (i := 0) rfl) rfl) ?_
  refine ow_batch [.fa 133 9 11 fa133_9] rfl ?_
  refine ow_storeC (off := 11) [.int .i64 p0.Born_] [_, _, _, _, _, _, _, _, _, _, _, _] (i := 2) rfl rfl rfl rfl rfl rfl ty3 rfl rfl (by intro u hu; simp only [List.mem_cons, List.not_mem_nil, or_false] at hu; rcases hu with rfl <;> rfl) rfl rfl rfl kp ?_
  refine ow_nil ?_
  refine x_qs ?_
  refine c_seq ?_
  refine c_reg ?_
  refine ow_r rfl (dstOk_lt rfl) (ry_box (off := 0) (ds := [.bool p0.Leaf_, .int .i64 y36.Attr_, .int .i64 y36.At_, .slice a43 y38.length c45, .int .i64 p0.Miss_, .slice a52 y47.Totals_.length c54, .slice a56 y47.Cells_.length c58, .int .i64 p0.Since_, .slice a65 y60.length c67, .int .i64 p0.Depth_, .int .i64 p0.Up_, .int .i64 p0.Born_]) rfl rfl ty133 (boxIn (i := 2) rfl) rfl rfl) ?_
  refine ow_storeC (off := 0) [.bool p0.Leaf_, .int .i64 y36.Attr_, .int .i64 y36.At_, .slice a43 y38.length c45, .int .i64 p0.Miss_, .slice a52 y47.Totals_.length c54, .slice a56 y47.Cells_.length c58, .int .i64 p0.Since_, .slice a65 y60.length c67, .int .i64 p0.Depth_, .int .i64 p0.Up_, .int .i64 p0.Born_] [_, _, _, _, _, _, _, _, _, _, _, _] (i := 1) rfl rfl rfl rfl rfl rfl ty133 rfl rfl (by intro u hu; simp only [List.mem_cons, List.not_mem_nil, or_false] at hu; rcases hu with rfl | rfl | rfl | rfl | rfl | rfl | rfl | rfl | rfl | rfl | rfl | rfl <;> rfl) rfl rfl rfl kp ?_
  refine ow_nil ?_
  refine x_qs ?_
  refine c_ret ?_
  exact x_retR (rs := [.cell 2 133]) (vs := [.agg #[.bool p0.Leaf_, .int .i64 y36.Attr_, .int .i64 y36.At_, .slice a43 y38.length c45, .int .i64 p0.Miss_, .slice a52 y47.Totals_.length c54, .slice a56 y47.Cells_.length c58, .int .i64 p0.Since_, .slice a65 y60.length c67, .int .i64 p0.Depth_, .int .i64 p0.Up_, .int .i64 p0.Born_]]) rfl ⟨⟨_, [.bool p0.Leaf_, .int .i64 y36.Attr_, .int .i64 y36.At_, .slice a43 y38.length c45, .int .i64 p0.Miss_, .slice a52 y47.Totals_.length c54, .slice a56 y47.Cells_.length c58, .int .i64 p0.Since_, .slice a65 y60.length c67, .int .i64 p0.Depth_, .int .i64 p0.Up_, .int .i64 p0.Born_], _, _, _, rfl, ty133, (at_box (T := 133) 0 (boxIn (i := 1) rfl) rfl), rfl, rfl⟩, trivial⟩ (fun w' hw' => by
      obtain rfl := of_some H
      exact ⟨_, rfl, a43, y38.length, c45, F46, a52, y47.Totals_.length, c54, F55, a56, y47.Cells_.length, c58, F59, a65, y60.length, c67, F68, rfl, hw'.sel [3, 4, 5, 6] rfl rfl⟩)

set_option maxHeartbeats 4000000 in
set_option maxRecDepth 100000 in
theorem laws_toNodeS_ok (w : World) {M0 : List Nat} {p0 : List Tlaws_Node} {a_0 : Option Addr} {n_0 c_0 : Nat} {r : List Timpl_Node} (H : laws_toNodeS p0 = some r) (HS : St w M0 [] w) (g0 : (eList (eTlaws_Node) 149).rd w M0 p0 [.slice a_0 n_0 c_0]) :
    Calls Try.prog 88 #[.slice a_0 n_0 c_0] w (fun en w' => ∃ v, en = .returned v ∧ ∃ (a0 : Option Addr), ∃ (n0 : Nat), ∃ (c0 : Nat), ∃ (F0 : List Nat), v = .slice a0 n0 c0 ∧ St w M0 [Res.own (eList (eTimpl_Node) 133) F0 r [.slice a0 n0 c0]] w') := by
  obtain rfl := rd_n g0
  unfold laws_toNodeS at H
  refine f_enter (vs := [.slice a_0 p0.length c_0]) Try.func88 rfl Try.ntmps88 rfl (HS) ?_
  refine c_seq ?_
  refine c_reg ?_
  refine ow_batch [.p] rfl ?_
  refine ow_nil ?_
  refine x_qs ?_
  refine c_seq ?_
  refine c_reg ?_
  refine ow_batch [.p, .lenS 98 149 sl98] rfl ?_
  obtain ⟨l1, h2, H⟩ := of_bind H
  refine ow_make (e := eTimpl_Node) (zero := ((Timpl_Node.mk false (Timpl_Fork.mk 0 0) [] 0 (Timpl_Stats.mk [] []) 0 [] 0 0 0) : Timpl_Node)) rfl rfl rfl rfl rfl rfl sl72 ty133 rfl rfl rfl rfl (fun _ => (ownm_Timpl_Node (x := (Timpl_Node.mk false (Timpl_Fork.mk 0 0) [] 0 (Timpl_Stats.mk [] []) 0 [] 0 0 0)) (⟨rfl, rfl⟩ : (eBool).own _ [] (false : Bool) _) (⟨rfl, rfl⟩ : (eTimpl_Fork).own _ [] ((Timpl_Fork.mk 0 0) : Timpl_Fork) _) ((.inl ⟨rfl, rfl, rfl⟩) : (eList (eVal (Value.int .i64) (fun _ => rfl)) 3).own _ [] ([] : List Int) _) (⟨rfl, rfl⟩ : (eVal (Value.int .i64) (fun _ => rfl)).own _ [] (0 : Int) _) ((ownm_Timpl_Stats (x := (Timpl_Stats.mk [] [])) ((.inl ⟨rfl, rfl, rfl⟩) : (eList (eVal (Value.int .i64) (fun _ => rfl)) 3).own _ [] ([] : List Int) _) ((.inl ⟨rfl, rfl, rfl⟩) : (eList (eList (eVal (Value.int .i64) (fun _ => rfl)) 3) 82).own _ [] ([] : List (List Int)) _)) : (eTimpl_Stats).own _ [] ((Timpl_Stats.mk [] []) : Timpl_Stats) _) (⟨rfl, rfl⟩ : (eVal (Value.int .i64) (fun _ => rfl)).own _ [] (0 : Int) _) ((.inl ⟨rfl, rfl, rfl⟩) : (eList (eVal (Value.int .i64) (fun _ => rfl)) 3).own _ [] ([] : List Int) _) (⟨rfl, rfl⟩ : (eVal (Value.int .i64) (fun _ => rfl)).own _ [] (0 : Int) _) (⟨rfl, rfl⟩ : (eVal (Value.int .i64) (fun _ => rfl)).own _ [] (0 : Int) _) (⟨rfl, rfl⟩ : (eVal (Value.int .i64) (fun _ => rfl)).own _ [] (0 : Int) _))) h2 (fun _ => kp) (fun b3 => ?_)
  refine ow_batch [.p] rfl ?_
  refine ow_nil ?_
  refine x_qs ?_
  refine c_seq ?_
  refine c_seq ?_
  refine c_reg ?_
  refine ow_batch [.p] rfl ?_
  refine ow_nil ?_
  refine x_qs ?_
  refine c_block ?_
  refine CW.at (loopI3 (fun (l90 : List Timpl_Node) (F91 : List Nat) (i92 : Int) => St w M0 [Res.own (eList (eTimpl_Node) 133) F91 l90 [.slice (some ⟨b3, 0, none⟩) l1.length l1.length]]) (fun (l90 : List Timpl_Node) (F91 : List Nat) (i92 : Int) => [(0, .slice a_0 p0.length c_0), (3, .slice (some ⟨b3, 0, none⟩) l1.length l1.length), (4, .int .i64 i92)]) (fun kk => fun (l90 : List Timpl_Node) (F91 : List Nat) (i92 : Int) => laws_toNodeS_L1 p0 kk l90 i92 = some r) (fun _ _ _ H => ?_) (fun k1 ihk1 l90 F91 i92 H => ?_) Fuel (l1) ([b3]) (0) (H)) (fun _ h => St.sel [0] rfl rfl h) ⟨rfl, rfl, rfl,  trivial⟩
  · unfold laws_toNodeS_L1 at H
    exact absurd H (by simp)
  · unfold laws_toNodeS_L1 at H
    refine c_seq ?_
    refine c_seq ?_
    refine c_reg ?_
    refine ow_batch [.p, .p, .lenS 98 149 sl98, .p] rfl ?_
    refine ow_nil ?_
    refine x_qs ?_
    refine c_if rfl (fun hb => ?_) (fun hb => ?_)
    · have H := of_if_t hb H
      refine c_skip ?_
      refine x_qs ?_
      refine c_seq ?_
      refine c_block ?_
      refine c_reg ?_
      refine ow_batch [.p, .p, .p, .p] rfl ?_
      obtain ⟨e179, h180, H⟩ := of_bind H
      refine ow_ixB rfl rfl rfl rfl rfl sl98 ty149 rfl g0 h180 (fun q183 c184 hd181 hA182 => ?_)
      obtain ⟨c185, c186, c187, c188, c189, c190, c191, c192, c193, c194, rfl, g195, g196, g197, g198, g199, g200, g201, g202, g203, g204⟩ := rdo_Tlaws_Node hd181
      obtain rfl : c185 = [.bool e179.Leaf_] := g195
      obtain rfl : c186 = [.int .i64 e179.Fork_.Attr_, .int .i64 e179.Fork_.At_] := g196
      obtain ⟨a205, c206, rfl⟩ := rd_sl1 g197
      obtain rfl : c188 = [.int .i64 e179.Miss_] := g198
      obtain ⟨c207, c208, rfl, g209, g210⟩ := rdo_Tlaws_Stats g199
      obtain ⟨a211, c212, rfl⟩ := rd_sl1 g209
      obtain ⟨a213, c214, rfl⟩ := rd_sl1 g210
      obtain rfl : c190 = [.int .i64 e179.Since_] := g200
      obtain ⟨a215, c216, rfl⟩ := rd_sl1 g201
      obtain rfl : c192 = [.int .i64 e179.Depth_] := g202
      obtain rfl : c193 = [.int .i64 e179.Up_] := g203
      obtain rfl : c194 = [.int .i64 e179.Born_] := g204
      refine ow_r rfl (dstOk_lt rfl) (ry_load (cs := [.bool e179.Leaf_, .int .i64 e179.Fork_.Attr_, .int .i64 e179.Fork_.At_, .slice a205 e179.Kids_.length c206, .int .i64 e179.Miss_, .slice a211 e179.Stats_.Totals_.length c212, .slice a213 e179.Stats_.Cells_.length c214, .int .i64 e179.Since_, .slice a215 e179.Attrs_.length c216, .int .i64 e179.Depth_, .int .i64 e179.Up_, .int .i64 e179.Born_]) rfl rfl ty149 (at_bor bor hA182) rfl) ?_
      obtain ⟨y217, h218, H⟩ := of_bind H
      refine ow_callS rfl fn94 rfl rfl rfl rfl (fun w1 hw1 => laws_toNode_ok w1 (cs0 := [.bool e179.Leaf_, .int .i64 e179.Fork_.Attr_, .int .i64 e179.Fork_.At_, .slice a205 e179.Kids_.length c206, .int .i64 e179.Miss_, .slice a211 e179.Stats_.Totals_.length c212, .slice a213 e179.Stats_.Cells_.length c214, .int .i64 e179.Since_, .slice a215 e179.Attrs_.length c216, .int .i64 e179.Depth_, .int .i64 e179.Up_, .int .i64 e179.Born_]) h218 (hw1.carve [] rfl rfl) (rdm_Tlaws_Node (x := e179) (c0 := [.bool e179.Leaf_]) (c1 := [.int .i64 e179.Fork_.Attr_, .int .i64 e179.Fork_.At_]) (c2 := [.slice a205 e179.Kids_.length c206]) (c3 := [.int .i64 e179.Miss_]) (c4 := [.slice a211 e179.Stats_.Totals_.length c212, .slice a213 e179.Stats_.Cells_.length c214]) (c5 := [.int .i64 e179.Since_]) (c6 := [.slice a215 e179.Attrs_.length c216]) (c7 := [.int .i64 e179.Depth_]) (c8 := [.int .i64 e179.Up_]) (c9 := [.int .i64 e179.Born_]) rfl rfl (rds_bor g197 w1 hw1) rfl (rdm_Tlaws_Stats (x := e179.Stats_) (c0 := [.slice a211 e179.Stats_.Totals_.length c212]) (c1 := [.slice a213 e179.Stats_.Cells_.length c214]) (rds_bor g209 w1 hw1) (rds_bor g210 w1 hw1)) rfl (rds_bor g201 w1 hw1) rfl rfl rfl)) (fun v219 w1 w2 hw1 hR221 => ?_)
      obtain ⟨a222, n223, c224, F225, a226, n227, c228, F229, a230, n231, c232, F233, a234, n235, c236, F237, rfl, hS220⟩ := hR221
      obtain rfl := own_nS (i := 0) hS220 rfl
      obtain rfl := own_nS (i := 1) hS220 rfl
      obtain rfl := own_nS (i := 2) hS220 rfl
      obtain rfl := own_nS (i := 3) hS220 rfl
      refine ⟨St w M0 [_, _, _, _, _], hw1.comp [] rfl rfl hS220, fun _ _ => trivial, ?_⟩
      obtain ⟨e238, h239, H⟩ := of_bind H
      refine ow_ex4 rfl (fun w1 hw1 => foc (r := 0) hw1 rfl h239) (fun b241 G242 F243 c244 => ?_)
      refine ow_fact rfl (fun w1 hw1 => hw1.1) (fun q240 => ?_)
      obtain ⟨ha245, hn246⟩ := q240
      refine ow_st (C' := St w M0 [_, _, _, _, _, _, _]) rfl (fun w1 hw1 => hw1.2) ?_
      refine ow_ex3 rfl (fun w1 hw1 => opn_Timpl_Node (i := 6) hw1 rfl) (fun a248 c249 F250 => ?_)
      refine ow_ex3 rfl (fun _ h => h) (fun a251 c252 F253 => ?_)
      refine ow_ex3 rfl (fun _ h => h) (fun a254 c255 F256 => ?_)
      refine ow_ex3 rfl (fun _ h => h) (fun a257 c258 F259 => ?_)
      refine ow_fact rfl (fun w1 hw1 => hw1.1) (fun q247 => ?_)
      subst q247
      refine ow_st (C' := St w M0 [_, _, _, _, _, _, _, _, _, _, _]) rfl (fun w1 hw1 => hw1.2) ?_
      refine ow_ixH rfl rfl rfl rfl rfl sl72 ty133 rfl (holeIn (p := 5) rfl) hn246 ha245 (idx_some h239).1 ?_
      refine ow_storeH (off := 0) [.bool y217.Leaf_, .int .i64 y217.Fork_.Attr_, .int .i64 y217.Fork_.At_, .slice a222 y217.Kids_.length c224, .int .i64 y217.Miss_, .slice a226 y217.Stats_.Totals_.length c228, .slice a230 y217.Stats_.Cells_.length c232, .int .i64 y217.Since_, .slice a234 y217.Attrs_.length c236, .int .i64 y217.Depth_, .int .i64 y217.Up_, .int .i64 y217.Born_] (p := 5) (c' := [_, _, _, _, _, _, _, _, _, _, _, _]) rfl rfl rfl rfl rfl (by first | rfl | simp only [add_lit, add_add, add_zero]) rfl ty133 rfl rfl (by intro u hu; simp only [List.mem_cons, List.not_mem_nil, or_false] at hu; rcases hu with rfl | rfl | rfl | rfl | rfl | rfl | rfl | rfl | rfl | rfl | rfl | rfl <;> rfl) rfl rfl rfl kp ?_
      refine ow_nil ?_
      refine x_qb ?_
      refine x_qs ?_
      refine CW.weak (C' := St w M0 [_, _, _, _, _, _, _, _, _]) ?_ (fun _ h => St.sel [1, 2, 3, 4, 5, 7, 8, 9, 10] rfl rfl h)
      refine c_reg ?_
      refine ow_batch [.p, .p, .p] rfl ?_
      refine ow_nil ?_
      refine xw_ex (fun w1 hw1 => fus_Timpl_Node (x0 := y217.Leaf_) (x1 := y217.Fork_.Attr_) (x2 := y217.Fork_.At_) (x4 := y217.Miss_) (x7 := y217.Since_) (x9 := y217.Depth_) (x10 := y217.Up_) (x11 := y217.Born_) [0, 1, 2, 3] hw1 rfl rfl) (fun F260 => ?_)
      refine xw_st (C' := St w M0 [_, _, _, _, _, _, _, _, _, _]) (fun _ h => h) ?_
      refine xw_ex (fun w1 hw1 => unf (p := 4) (q := 9) hw1 rfl rfl rfl hn246 ha245) (fun F261 => ?_)
      refine xw_st (C' := St w M0 [_, _, _, _, _, _, _, _, _, _, _]) (fun _ h => h) ?_
      exact x_ql (RW.at (ihk1 ((l90.set i92.toNat y217)) (F261) (IntKind.i64.wrap (i92 + 1)) (H)) (fun _ h => St.sel [10] rfl rfl h) ⟨rfl, rfl, rfl, trivial⟩)
    · have H := of_if_f hb H
      refine c_exit ?_
      refine x_qs_exit ?_
      refine x_ql_exit ?_
      refine x_qb_here ?_
      refine x_qs ?_
      refine c_seq ?_
      refine c_reg ?_
      refine ow_batch [.p, .p] rfl ?_
      refine ow_nil ?_
      refine x_qs ?_
      refine c_ret ?_
      exact x_retR (rs := [.tmp 2]) (vs := [.slice (some ⟨b3, 0, none⟩) l1.length l1.length]) rfl ⟨rfl, trivial⟩ (fun w' hw' => by
          obtain rfl := of_some H
          exact ⟨_, rfl, (some ⟨b3, 0, none⟩), l1.length, l1.length, F91, rfl, hw'.sel [0] rfl rfl⟩)

end Go.Vk
