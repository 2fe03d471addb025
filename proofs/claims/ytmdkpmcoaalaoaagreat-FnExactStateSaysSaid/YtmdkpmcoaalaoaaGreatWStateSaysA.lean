/- The code does what the functions of data say. Printed by program. -/
import Derived.Test.YtmdkpmcoaalaoaaGreatRF
import Derived.Test.YtmdkpmcoaalaoaaGreatChecked
namespace Go.Vk
open Go.Proofs Go.RowKit
set_option maxHeartbeats 4000000
set_option maxRecDepth 100000
def eTlaws_Attr : Enc Tlaws_Attr := eIso (ePair (eStr) (ePair (eList eI 3) (eList (eStr) 9))) (fun x => (x.Name_, x.Cuts_, x.Values_))
theorem rdm_Tlaws_Attr {w : World} {X : List Nat} {x : Tlaws_Attr} {c0 c1 c2 : List Value} (h0 : (eStr).rd w X x.Name_ c0) (h1 : (eList eI 3).rd w X x.Cuts_ c1) (h2 : (eList (eStr) 9).rd w X x.Values_ c2) : (eTlaws_Attr).rd w X x (c0 ++ (c1 ++ c2)) := by
  show (ePair (eStr) (ePair (eList eI 3) (eList (eStr) 9))).rd w X (x.Name_, x.Cuts_, x.Values_) _
  exact (ePair_rd h0 (ePair_rd h1 h2))
theorem rdo_Tlaws_Attr {w : World} {X : List Nat} {x : Tlaws_Attr} {cs : List Value} (h : (eTlaws_Attr).rd w X x cs) : ∃ c0 c1 c2, cs = (c0 ++ (c1 ++ c2)) ∧ (eStr).rd w X x.Name_ c0 ∧ (eList eI 3).rd w X x.Cuts_ c1 ∧ (eList (eStr) 9).rd w X x.Values_ c2 := by
  have h : (ePair (eStr) (ePair (eList eI 3) (eList (eStr) 9))).rd w X (x.Name_, x.Cuts_, x.Values_) cs := h
  obtain ⟨c0, d0, rfl, h0, r0⟩ := h
  obtain ⟨c1, c2, rfl, h1, h2⟩ := r0
  exact ⟨c0, c1, c2, rfl, h0, h1, h2⟩
def eTlaws_Schema : Enc Tlaws_Schema := eIso (ePair (eList (eTlaws_Attr) 156) (eList (eStr) 9)) (fun x => (x.Attrs_, x.Classes_))
theorem rdm_Tlaws_Schema {w : World} {X : List Nat} {x : Tlaws_Schema} {c0 c1 : List Value} (h0 : (eList (eTlaws_Attr) 156).rd w X x.Attrs_ c0) (h1 : (eList (eStr) 9).rd w X x.Classes_ c1) : (eTlaws_Schema).rd w X x (c0 ++ c1) := by
  show (ePair (eList (eTlaws_Attr) 156) (eList (eStr) 9)).rd w X (x.Attrs_, x.Classes_) _
  exact (ePair_rd h0 h1)
theorem rdo_Tlaws_Schema {w : World} {X : List Nat} {x : Tlaws_Schema} {cs : List Value} (h : (eTlaws_Schema).rd w X x cs) : ∃ c0 c1, cs = (c0 ++ c1) ∧ (eList (eTlaws_Attr) 156).rd w X x.Attrs_ c0 ∧ (eList (eStr) 9).rd w X x.Classes_ c1 := by
  have h : (ePair (eList (eTlaws_Attr) 156) (eList (eStr) 9)).rd w X (x.Attrs_, x.Classes_) cs := h
  obtain ⟨c0, c1, rfl, h0, h1⟩ := h
  exact ⟨c0, c1, rfl, h0, h1⟩
def eTlaws_Rule : Enc Tlaws_Rule := eFlat (fun x => [.int .i64 x.Sure_, .int .i64 x.Tie_, .int .i64 x.Grace_, .int .i64 x.Depth_, .int .i64 x.Nodes_, .int .i64 x.Units_, .bool x.Two_]) 7 (fun _ => rfl) (by intro x u hu; simp only [List.mem_cons, List.not_mem_nil, or_false] at hu; rcases hu with rfl | rfl | rfl | rfl | rfl | rfl | rfl <;> rfl)
def eTlaws_Conf : Enc Tlaws_Conf := eIso (ePair (eTlaws_Schema) (ePair (eTlaws_Rule) (ePair eI (ePair eI (ePair eI (ePair eI eI)))))) (fun x => (x.Schema_, x.Rule_, x.Members_, x.Pick_, x.Lambda_, x.Warn_, x.Drift_))
theorem rdm_Tlaws_Conf {w : World} {X : List Nat} {x : Tlaws_Conf} {c0 c1 c2 c3 c4 c5 c6 : List Value} (h0 : (eTlaws_Schema).rd w X x.Schema_ c0) (h1 : (eTlaws_Rule).rd w X x.Rule_ c1) (h2 : eI.rd w X x.Members_ c2) (h3 : eI.rd w X x.Pick_ c3) (h4 : eI.rd w X x.Lambda_ c4) (h5 : eI.rd w X x.Warn_ c5) (h6 : eI.rd w X x.Drift_ c6) : (eTlaws_Conf).rd w X x (c0 ++ (c1 ++ (c2 ++ (c3 ++ (c4 ++ (c5 ++ c6)))))) := by
  show (ePair (eTlaws_Schema) (ePair (eTlaws_Rule) (ePair eI (ePair eI (ePair eI (ePair eI eI)))))).rd w X (x.Schema_, x.Rule_, x.Members_, x.Pick_, x.Lambda_, x.Warn_, x.Drift_) _
  exact (ePair_rd h0 (ePair_rd h1 (ePair_rd h2 (ePair_rd h3 (ePair_rd h4 (ePair_rd h5 h6))))))
theorem rdo_Tlaws_Conf {w : World} {X : List Nat} {x : Tlaws_Conf} {cs : List Value} (h : (eTlaws_Conf).rd w X x cs) : ∃ c0 c1 c2 c3 c4 c5 c6, cs = (c0 ++ (c1 ++ (c2 ++ (c3 ++ (c4 ++ (c5 ++ c6)))))) ∧ (eTlaws_Schema).rd w X x.Schema_ c0 ∧ (eTlaws_Rule).rd w X x.Rule_ c1 ∧ eI.rd w X x.Members_ c2 ∧ eI.rd w X x.Pick_ c3 ∧ eI.rd w X x.Lambda_ c4 ∧ eI.rd w X x.Warn_ c5 ∧ eI.rd w X x.Drift_ c6 := by
  have h : (ePair (eTlaws_Schema) (ePair (eTlaws_Rule) (ePair eI (ePair eI (ePair eI (ePair eI eI)))))).rd w X (x.Schema_, x.Rule_, x.Members_, x.Pick_, x.Lambda_, x.Warn_, x.Drift_) cs := h
  obtain ⟨c0, d0, rfl, h0, r0⟩ := h
  obtain ⟨c1, d1, rfl, h1, r1⟩ := r0
  obtain ⟨c2, d2, rfl, h2, r2⟩ := r1
  obtain ⟨c3, d3, rfl, h3, r3⟩ := r2
  obtain ⟨c4, d4, rfl, h4, r4⟩ := r3
  obtain ⟨c5, c6, rfl, h5, h6⟩ := r4
  exact ⟨c0, c1, c2, c3, c4, c5, c6, rfl, h0, h1, h2, h3, h4, h5, h6⟩
def eTlaws_Stats : Enc Tlaws_Stats := eIso (ePair (eList eI 3) (eList (eList eI 3) 39)) (fun x => (x.Totals_, x.Cells_))
theorem rdm_Tlaws_Stats {w : World} {X : List Nat} {x : Tlaws_Stats} {c0 c1 : List Value} (h0 : (eList eI 3).rd w X x.Totals_ c0) (h1 : (eList (eList eI 3) 39).rd w X x.Cells_ c1) : (eTlaws_Stats).rd w X x (c0 ++ c1) := by
  show (ePair (eList eI 3) (eList (eList eI 3) 39)).rd w X (x.Totals_, x.Cells_) _
  exact (ePair_rd h0 h1)
theorem rdo_Tlaws_Stats {w : World} {X : List Nat} {x : Tlaws_Stats} {cs : List Value} (h : (eTlaws_Stats).rd w X x cs) : ∃ c0 c1, cs = (c0 ++ c1) ∧ (eList eI 3).rd w X x.Totals_ c0 ∧ (eList (eList eI 3) 39).rd w X x.Cells_ c1 := by
  have h : (ePair (eList eI 3) (eList (eList eI 3) 39)).rd w X (x.Totals_, x.Cells_) cs := h
  obtain ⟨c0, c1, rfl, h0, h1⟩ := h
  exact ⟨c0, c1, rfl, h0, h1⟩
def eTlaws_Fork : Enc Tlaws_Fork := eFlat (fun x => [.int .i64 x.Attr_, .int .i64 x.At_]) 2 (fun _ => rfl) (by intro x u hu; simp only [List.mem_cons, List.not_mem_nil, or_false] at hu; rcases hu with rfl | rfl <;> rfl)
def eTlaws_Node : Enc Tlaws_Node := eIso (ePair (eBool) (ePair (eTlaws_Fork) (ePair (eList eI 3) (ePair eI (ePair (eTlaws_Stats) (ePair eI (ePair (eList eI 3) (ePair eI (ePair eI eI))))))))) (fun x => (x.Leaf_, x.Fork_, x.Kids_, x.Miss_, x.Stats_, x.Since_, x.Attrs_, x.Depth_, x.Up_, x.Born_))
theorem rdm_Tlaws_Node {w : World} {X : List Nat} {x : Tlaws_Node} {c0 c1 c2 c3 c4 c5 c6 c7 c8 c9 : List Value} (h0 : (eBool).rd w X x.Leaf_ c0) (h1 : (eTlaws_Fork).rd w X x.Fork_ c1) (h2 : (eList eI 3).rd w X x.Kids_ c2) (h3 : eI.rd w X x.Miss_ c3) (h4 : (eTlaws_Stats).rd w X x.Stats_ c4) (h5 : eI.rd w X x.Since_ c5) (h6 : (eList eI 3).rd w X x.Attrs_ c6) (h7 : eI.rd w X x.Depth_ c7) (h8 : eI.rd w X x.Up_ c8) (h9 : eI.rd w X x.Born_ c9) : (eTlaws_Node).rd w X x (c0 ++ (c1 ++ (c2 ++ (c3 ++ (c4 ++ (c5 ++ (c6 ++ (c7 ++ (c8 ++ c9))))))))) := by
  show (ePair (eBool) (ePair (eTlaws_Fork) (ePair (eList eI 3) (ePair eI (ePair (eTlaws_Stats) (ePair eI (ePair (eList eI 3) (ePair eI (ePair eI eI))))))))).rd w X (x.Leaf_, x.Fork_, x.Kids_, x.Miss_, x.Stats_, x.Since_, x.Attrs_, x.Depth_, x.Up_, x.Born_) _
  exact (ePair_rd h0 (ePair_rd h1 (ePair_rd h2 (ePair_rd h3 (ePair_rd h4 (ePair_rd h5 (ePair_rd h6 (ePair_rd h7 (ePair_rd h8 h9)))))))))
theorem rdo_Tlaws_Node {w : World} {X : List Nat} {x : Tlaws_Node} {cs : List Value} (h : (eTlaws_Node).rd w X x cs) : ∃ c0 c1 c2 c3 c4 c5 c6 c7 c8 c9, cs = (c0 ++ (c1 ++ (c2 ++ (c3 ++ (c4 ++ (c5 ++ (c6 ++ (c7 ++ (c8 ++ c9))))))))) ∧ (eBool).rd w X x.Leaf_ c0 ∧ (eTlaws_Fork).rd w X x.Fork_ c1 ∧ (eList eI 3).rd w X x.Kids_ c2 ∧ eI.rd w X x.Miss_ c3 ∧ (eTlaws_Stats).rd w X x.Stats_ c4 ∧ eI.rd w X x.Since_ c5 ∧ (eList eI 3).rd w X x.Attrs_ c6 ∧ eI.rd w X x.Depth_ c7 ∧ eI.rd w X x.Up_ c8 ∧ eI.rd w X x.Born_ c9 := by
  have h : (ePair (eBool) (ePair (eTlaws_Fork) (ePair (eList eI 3) (ePair eI (ePair (eTlaws_Stats) (ePair eI (ePair (eList eI 3) (ePair eI (ePair eI eI))))))))).rd w X (x.Leaf_, x.Fork_, x.Kids_, x.Miss_, x.Stats_, x.Since_, x.Attrs_, x.Depth_, x.Up_, x.Born_) cs := h
  obtain ⟨c0, d0, rfl, h0, r0⟩ := h
  obtain ⟨c1, d1, rfl, h1, r1⟩ := r0
  obtain ⟨c2, d2, rfl, h2, r2⟩ := r1
  obtain ⟨c3, d3, rfl, h3, r3⟩ := r2
  obtain ⟨c4, d4, rfl, h4, r4⟩ := r3
  obtain ⟨c5, d5, rfl, h5, r5⟩ := r4
  obtain ⟨c6, d6, rfl, h6, r6⟩ := r5
  obtain ⟨c7, d7, rfl, h7, r7⟩ := r6
  obtain ⟨c8, c9, rfl, h8, h9⟩ := r7
  exact ⟨c0, c1, c2, c3, c4, c5, c6, c7, c8, c9, rfl, h0, h1, h2, h3, h4, h5, h6, h7, h8, h9⟩
def eTlaws_Tree : Enc Tlaws_Tree := eIso (ePair (eList (eTlaws_Node) 205) eI) (fun x => (x.Nodes_, x.Seen_))
theorem rdm_Tlaws_Tree {w : World} {X : List Nat} {x : Tlaws_Tree} {c0 c1 : List Value} (h0 : (eList (eTlaws_Node) 205).rd w X x.Nodes_ c0) (h1 : eI.rd w X x.Seen_ c1) : (eTlaws_Tree).rd w X x (c0 ++ c1) := by
  show (ePair (eList (eTlaws_Node) 205) eI).rd w X (x.Nodes_, x.Seen_) _
  exact (ePair_rd h0 h1)
theorem rdo_Tlaws_Tree {w : World} {X : List Nat} {x : Tlaws_Tree} {cs : List Value} (h : (eTlaws_Tree).rd w X x cs) : ∃ c0 c1, cs = (c0 ++ c1) ∧ (eList (eTlaws_Node) 205).rd w X x.Nodes_ c0 ∧ eI.rd w X x.Seen_ c1 := by
  have h : (ePair (eList (eTlaws_Node) 205) eI).rd w X (x.Nodes_, x.Seen_) cs := h
  obtain ⟨c0, c1, rfl, h0, h1⟩ := h
  exact ⟨c0, c1, rfl, h0, h1⟩
def eTlaws_Window : Enc Tlaws_Window := eIso (eList (eList eI 3) 39) (fun x => x.Rows_)
theorem rdm_Tlaws_Window {w : World} {X : List Nat} {x : Tlaws_Window} {c0 : List Value} (h0 : (eList (eList eI 3) 39).rd w X x.Rows_ c0) : (eTlaws_Window).rd w X x c0 := by
  show (eList (eList eI 3) 39).rd w X x.Rows_ _
  exact h0
theorem rdo_Tlaws_Window {w : World} {X : List Nat} {x : Tlaws_Window} {cs : List Value} (h : (eTlaws_Window).rd w X x cs) : ∃ c0, cs = c0 ∧ (eList (eList eI 3) 39).rd w X x.Rows_ c0 := by
  have h : (eList (eList eI 3) 39).rd w X x.Rows_ cs := h
  exact ⟨cs, rfl, h⟩
def eTlaws_Det : Enc Tlaws_Det := eIso (ePair (eTlaws_Window) (eTlaws_Window)) (fun x => (x.Warn_, x.Drift_))
theorem rdm_Tlaws_Det {w : World} {X : List Nat} {x : Tlaws_Det} {c0 c1 : List Value} (h0 : (eTlaws_Window).rd w X x.Warn_ c0) (h1 : (eTlaws_Window).rd w X x.Drift_ c1) : (eTlaws_Det).rd w X x (c0 ++ c1) := by
  show (ePair (eTlaws_Window) (eTlaws_Window)).rd w X (x.Warn_, x.Drift_) _
  exact (ePair_rd h0 h1)
theorem rdo_Tlaws_Det {w : World} {X : List Nat} {x : Tlaws_Det} {cs : List Value} (h : (eTlaws_Det).rd w X x cs) : ∃ c0 c1, cs = (c0 ++ c1) ∧ (eTlaws_Window).rd w X x.Warn_ c0 ∧ (eTlaws_Window).rd w X x.Drift_ c1 := by
  have h : (ePair (eTlaws_Window) (eTlaws_Window)).rd w X (x.Warn_, x.Drift_) cs := h
  obtain ⟨c0, c1, rfl, h0, h1⟩ := h
  exact ⟨c0, c1, rfl, h0, h1⟩
def eTlaws_Member : Enc Tlaws_Member := eIso (ePair (eTlaws_Tree) (ePair (eBool) (ePair (eTlaws_Tree) (eTlaws_Det)))) (fun x => (x.Tree_, x.HasYoung_, x.Young_, x.Det_))
theorem rdm_Tlaws_Member {w : World} {X : List Nat} {x : Tlaws_Member} {c0 c1 c2 c3 : List Value} (h0 : (eTlaws_Tree).rd w X x.Tree_ c0) (h1 : (eBool).rd w X x.HasYoung_ c1) (h2 : (eTlaws_Tree).rd w X x.Young_ c2) (h3 : (eTlaws_Det).rd w X x.Det_ c3) : (eTlaws_Member).rd w X x (c0 ++ (c1 ++ (c2 ++ c3))) := by
  show (ePair (eTlaws_Tree) (ePair (eBool) (ePair (eTlaws_Tree) (eTlaws_Det)))).rd w X (x.Tree_, x.HasYoung_, x.Young_, x.Det_) _
  exact (ePair_rd h0 (ePair_rd h1 (ePair_rd h2 h3)))
theorem rdo_Tlaws_Member {w : World} {X : List Nat} {x : Tlaws_Member} {cs : List Value} (h : (eTlaws_Member).rd w X x cs) : ∃ c0 c1 c2 c3, cs = (c0 ++ (c1 ++ (c2 ++ c3))) ∧ (eTlaws_Tree).rd w X x.Tree_ c0 ∧ (eBool).rd w X x.HasYoung_ c1 ∧ (eTlaws_Tree).rd w X x.Young_ c2 ∧ (eTlaws_Det).rd w X x.Det_ c3 := by
  have h : (ePair (eTlaws_Tree) (ePair (eBool) (ePair (eTlaws_Tree) (eTlaws_Det)))).rd w X (x.Tree_, x.HasYoung_, x.Young_, x.Det_) cs := h
  obtain ⟨c0, d0, rfl, h0, r0⟩ := h
  obtain ⟨c1, d1, rfl, h1, r1⟩ := r0
  obtain ⟨c2, c3, rfl, h2, h3⟩ := r1
  exact ⟨c0, c1, c2, c3, rfl, h0, h1, h2, h3⟩
def eTlaws_Forest : Enc Tlaws_Forest := eIso (eList (eTlaws_Member) 126) (fun x => x.Members_)
theorem rdm_Tlaws_Forest {w : World} {X : List Nat} {x : Tlaws_Forest} {c0 : List Value} (h0 : (eList (eTlaws_Member) 126).rd w X x.Members_ c0) : (eTlaws_Forest).rd w X x c0 := by
  show (eList (eTlaws_Member) 126).rd w X x.Members_ _
  exact h0
theorem rdo_Tlaws_Forest {w : World} {X : List Nat} {x : Tlaws_Forest} {cs : List Value} (h : (eTlaws_Forest).rd w X x cs) : ∃ c0, cs = c0 ∧ (eList (eTlaws_Member) 126).rd w X x.Members_ c0 := by
  have h : (eList (eTlaws_Member) 126).rd w X x.Members_ cs := h
  exact ⟨cs, rfl, h⟩
def eTlaws_Pair : Enc Tlaws_Pair := eFlat (fun x => [.int .i64 x.Truth_, .int .i64 x.Said_]) 2 (fun _ => rfl) (by intro x u hu; simp only [List.mem_cons, List.not_mem_nil, or_false] at hu; rcases hu with rfl | rfl <;> rfl)
def eTlaws_Score : Enc Tlaws_Score := eIso (ePair (eList (eList eI 3) 39) (eList (eTlaws_Pair) 145)) (fun x => (x.Table_, x.Last_))
theorem rdm_Tlaws_Score {w : World} {X : List Nat} {x : Tlaws_Score} {c0 c1 : List Value} (h0 : (eList (eList eI 3) 39).rd w X x.Table_ c0) (h1 : (eList (eTlaws_Pair) 145).rd w X x.Last_ c1) : (eTlaws_Score).rd w X x (c0 ++ c1) := by
  show (ePair (eList (eList eI 3) 39) (eList (eTlaws_Pair) 145)).rd w X (x.Table_, x.Last_) _
  exact (ePair_rd h0 h1)
theorem rdo_Tlaws_Score {w : World} {X : List Nat} {x : Tlaws_Score} {cs : List Value} (h : (eTlaws_Score).rd w X x cs) : ∃ c0 c1, cs = (c0 ++ c1) ∧ (eList (eList eI 3) 39).rd w X x.Table_ c0 ∧ (eList (eTlaws_Pair) 145).rd w X x.Last_ c1 := by
  have h : (ePair (eList (eList eI 3) 39) (eList (eTlaws_Pair) 145)).rd w X (x.Table_, x.Last_) cs := h
  obtain ⟨c0, c1, rfl, h0, h1⟩ := h
  exact ⟨c0, c1, rfl, h0, h1⟩
def eTlaws_State : Enc Tlaws_State := eIso (ePair (eTlaws_Conf) (ePair (eTlaws_Forest) (eTlaws_Score))) (fun x => (x.Conf_, x.Forest_, x.Score_))
theorem rdm_Tlaws_State {w : World} {X : List Nat} {x : Tlaws_State} {c0 c1 c2 : List Value} (h0 : (eTlaws_Conf).rd w X x.Conf_ c0) (h1 : (eTlaws_Forest).rd w X x.Forest_ c1) (h2 : (eTlaws_Score).rd w X x.Score_ c2) : (eTlaws_State).rd w X x (c0 ++ (c1 ++ c2)) := by
  show (ePair (eTlaws_Conf) (ePair (eTlaws_Forest) (eTlaws_Score))).rd w X (x.Conf_, x.Forest_, x.Score_) _
  exact (ePair_rd h0 (ePair_rd h1 h2))
theorem rdo_Tlaws_State {w : World} {X : List Nat} {x : Tlaws_State} {cs : List Value} (h : (eTlaws_State).rd w X x cs) : ∃ c0 c1 c2, cs = (c0 ++ (c1 ++ c2)) ∧ (eTlaws_Conf).rd w X x.Conf_ c0 ∧ (eTlaws_Forest).rd w X x.Forest_ c1 ∧ (eTlaws_Score).rd w X x.Score_ c2 := by
  have h : (ePair (eTlaws_Conf) (ePair (eTlaws_Forest) (eTlaws_Score))).rd w X (x.Conf_, x.Forest_, x.Score_) cs := h
  obtain ⟨c0, d0, rfl, h0, r0⟩ := h
  obtain ⟨c1, c2, rfl, h1, h2⟩ := r0
  exact ⟨c0, c1, c2, rfl, h0, h1, h2⟩
def eTlaws_Ex : Enc Tlaws_Ex := eIso (ePair (eList eI 3) eI) (fun x => (x.Bins_, x.Class_))
theorem rdm_Tlaws_Ex {w : World} {X : List Nat} {x : Tlaws_Ex} {c0 c1 : List Value} (h0 : (eList eI 3).rd w X x.Bins_ c0) (h1 : eI.rd w X x.Class_ c1) : (eTlaws_Ex).rd w X x (c0 ++ c1) := by
  show (ePair (eList eI 3) eI).rd w X (x.Bins_, x.Class_) _
  exact (ePair_rd h0 h1)
theorem rdo_Tlaws_Ex {w : World} {X : List Nat} {x : Tlaws_Ex} {cs : List Value} (h : (eTlaws_Ex).rd w X x cs) : ∃ c0 c1, cs = (c0 ++ c1) ∧ (eList eI 3).rd w X x.Bins_ c0 ∧ eI.rd w X x.Class_ c1 := by
  have h : (ePair (eList eI 3) eI).rd w X (x.Bins_, x.Class_) cs := h
  obtain ⟨c0, c1, rfl, h0, h1⟩ := h
  exact ⟨c0, c1, rfl, h0, h1⟩
def eTimpl_Attr : Enc Timpl_Attr := eIso (ePair (eStr) (ePair (eList eI 3) (eList (eStr) 9))) (fun x => (x.Name_, x.Cuts_, x.Values_))
theorem rdm_Timpl_Attr {w : World} {X : List Nat} {x : Timpl_Attr} {c0 c1 c2 : List Value} (h0 : (eStr).rd w X x.Name_ c0) (h1 : (eList eI 3).rd w X x.Cuts_ c1) (h2 : (eList (eStr) 9).rd w X x.Values_ c2) : (eTimpl_Attr).rd w X x (c0 ++ (c1 ++ c2)) := by
  show (ePair (eStr) (ePair (eList eI 3) (eList (eStr) 9))).rd w X (x.Name_, x.Cuts_, x.Values_) _
  exact (ePair_rd h0 (ePair_rd h1 h2))
theorem rdo_Timpl_Attr {w : World} {X : List Nat} {x : Timpl_Attr} {cs : List Value} (h : (eTimpl_Attr).rd w X x cs) : ∃ c0 c1 c2, cs = (c0 ++ (c1 ++ c2)) ∧ (eStr).rd w X x.Name_ c0 ∧ (eList eI 3).rd w X x.Cuts_ c1 ∧ (eList (eStr) 9).rd w X x.Values_ c2 := by
  have h : (ePair (eStr) (ePair (eList eI 3) (eList (eStr) 9))).rd w X (x.Name_, x.Cuts_, x.Values_) cs := h
  obtain ⟨c0, d0, rfl, h0, r0⟩ := h
  obtain ⟨c1, c2, rfl, h1, h2⟩ := r0
  exact ⟨c0, c1, c2, rfl, h0, h1, h2⟩
theorem ownm_Timpl_Attr {w : World} {F0 F1 F2 : List Nat} {x : Timpl_Attr} {c0 c1 c2 : List Value} (h0 : (eStr).own w F0 x.Name_ c0) (h1 : (eList eI 3).own w F1 x.Cuts_ c1) (h2 : (eList (eStr) 9).own w F2 x.Values_ c2) : (eTimpl_Attr).own w (F0 ++ (F1 ++ F2)) x (c0 ++ (c1 ++ c2)) := by
  show (ePair (eStr) (ePair (eList eI 3) (eList (eStr) 9))).own w _ (x.Name_, x.Cuts_, x.Values_) _
  exact (ePair_own h0 (ePair_own h1 h2))
theorem owno_Timpl_Attr {w : World} {F : List Nat} {x : Timpl_Attr} {cs : List Value} (h : (eTimpl_Attr).own w F x cs) : ∃ F0 F1 F2 c0 c1 c2, F = (F0 ++ (F1 ++ F2)) ∧ cs = (c0 ++ (c1 ++ c2)) ∧ (eStr).own w F0 x.Name_ c0 ∧ (eList eI 3).own w F1 x.Cuts_ c1 ∧ (eList (eStr) 9).own w F2 x.Values_ c2 := by
  have h : (ePair (eStr) (ePair (eList eI 3) (eList (eStr) 9))).own w F (x.Name_, x.Cuts_, x.Values_) cs := h
  obtain ⟨F0, G0, c0, d0, rfl, rfl, h0, r0⟩ := h
  obtain ⟨F1, F2, c1, c2, rfl, rfl, h1, h2⟩ := r0
  exact ⟨F0, F1, F2, c0, c1, c2, rfl, rfl, h0, h1, h2⟩
theorem opn_Timpl_Attr {w0 : World} {M : List Nat} {L : List Res} {w : World} {F : List Nat} {x : Timpl_Attr} {cs : List Value} {i : Nat} (h : St w0 M L w) (hi : L[i]? = some (Res.own (eTimpl_Attr) F x cs)) :
    ∃ (a_1 : Option Addr) (k_1 : Nat) (F_1 : List Nat), ∃ (a_2 : Option Addr) (k_2 : Nat) (F_2 : List Nat), cs = [vS x.Name_, .slice a_1 (x.Cuts_).length k_1, .slice a_2 (x.Values_).length k_2] ∧ St w0 M (nilAt L [i] ++ [Res.own (eList eI 3) F_1 x.Cuts_ [.slice a_1 (x.Cuts_).length k_1], Res.own (eList (eStr) 9) F_2 x.Values_ [.slice a_2 (x.Values_).length k_2]]) w := by
  obtain ⟨hok, _, _⟩ := h.one hi
  have hok : (eTimpl_Attr).own w F x cs := hok
  obtain ⟨F1_0, F1_1, F1_2, c1_0, c1_1, c1_2, rfl, rfl, h1_0, h1_1, h1_2⟩ := owno_Timpl_Attr hok
  obtain ⟨rfl, rfl⟩ : F1_0 = [] ∧ c1_0 = [vS x.Name_] := h1_0
  obtain ⟨a2, k2, rfl⟩ := own_sl1 h1_1
  obtain ⟨a3, k3, rfl⟩ := own_sl1 h1_2
  refine ⟨a2, k2, F1_1, a3, k3, F1_2, rfl, h.re [i] _ rfl ?_ ?_⟩
  · simp [selR_cons, selR_nil, hi, foot, Res.own]
  · intro s hs; simp only [List.mem_cons, List.not_mem_nil, or_false] at hs; rcases hs with rfl | rfl
    · exact h1_1
    · exact h1_2
theorem fus_Timpl_Attr {w0 : World} {M : List Nat} {L : List Res} {w : World} {x0 : List UInt8} {x1 : List Int} {a1 : Option Addr} {n1 k1 : Nat} {G1 : List Nat} {x2 : List (List UInt8)} {a2 : Option Addr} {n2 k2 : Nat} {G2 : List Nat} (idx : List Nat) (h : St w0 M L w) (hs : selR L idx = [Res.own (eList eI 3) G1 x1 [.slice a1 n1 k1], Res.own (eList (eStr) 9) G2 x2 [.slice a2 n2 k2]]) (hn : nodB idx = true) :
    ∃ F, St w0 M (nilAt L idx ++ [Res.own (eTimpl_Attr) F (Timpl_Attr.mk x0 x1 x2) [vS x0, .slice a1 n1 k1, .slice a2 n2 k2]]) w := by
  have o0 : (eList eI 3).own w G1 x1 [.slice a1 n1 k1] := h.ok' (mem_sel (L := L) (is := idx) (by rw [hs]; simp : Res.own (eList eI 3) G1 x1 [.slice a1 n1 k1] ∈ selR L idx))
  have o1 : (eList (eStr) 9).own w G2 x2 [.slice a2 n2 k2] := h.ok' (mem_sel (L := L) (is := idx) (by rw [hs]; simp : Res.own (eList (eStr) 9) G2 x2 [.slice a2 n2 k2] ∈ selR L idx))
  have ho := (ownm_Timpl_Attr (x := (Timpl_Attr.mk x0 x1 x2)) (⟨rfl, rfl⟩ : (eStr).own w [] _ _) o0 o1)
  refine ⟨_, h.re idx [Res.own (eTimpl_Attr) _ (Timpl_Attr.mk x0 x1 x2) [vS x0, .slice a1 n1 k1, .slice a2 n2 k2]] hn ?_ (fun s hs => by rw [List.mem_singleton.1 hs]; exact ho)⟩
  rw [hs]
  simp [foot, Res.own]
def eTimpl_Fork : Enc Timpl_Fork := eFlat (fun x => [.int .i64 x.Attr_, .int .i64 x.At_]) 2 (fun _ => rfl) (by intro x u hu; simp only [List.mem_cons, List.not_mem_nil, or_false] at hu; rcases hu with rfl | rfl <;> rfl)
def eTimpl_Stats : Enc Timpl_Stats := eIso (ePair (eList eI 3) (eList (eList eI 3) 39)) (fun x => (x.Totals_, x.Cells_))
theorem rdm_Timpl_Stats {w : World} {X : List Nat} {x : Timpl_Stats} {c0 c1 : List Value} (h0 : (eList eI 3).rd w X x.Totals_ c0) (h1 : (eList (eList eI 3) 39).rd w X x.Cells_ c1) : (eTimpl_Stats).rd w X x (c0 ++ c1) := by
  show (ePair (eList eI 3) (eList (eList eI 3) 39)).rd w X (x.Totals_, x.Cells_) _
  exact (ePair_rd h0 h1)
theorem rdo_Timpl_Stats {w : World} {X : List Nat} {x : Timpl_Stats} {cs : List Value} (h : (eTimpl_Stats).rd w X x cs) : ∃ c0 c1, cs = (c0 ++ c1) ∧ (eList eI 3).rd w X x.Totals_ c0 ∧ (eList (eList eI 3) 39).rd w X x.Cells_ c1 := by
  have h : (ePair (eList eI 3) (eList (eList eI 3) 39)).rd w X (x.Totals_, x.Cells_) cs := h
  obtain ⟨c0, c1, rfl, h0, h1⟩ := h
  exact ⟨c0, c1, rfl, h0, h1⟩
theorem ownm_Timpl_Stats {w : World} {F0 F1 : List Nat} {x : Timpl_Stats} {c0 c1 : List Value} (h0 : (eList eI 3).own w F0 x.Totals_ c0) (h1 : (eList (eList eI 3) 39).own w F1 x.Cells_ c1) : (eTimpl_Stats).own w (F0 ++ F1) x (c0 ++ c1) := by
  show (ePair (eList eI 3) (eList (eList eI 3) 39)).own w _ (x.Totals_, x.Cells_) _
  exact (ePair_own h0 h1)
theorem owno_Timpl_Stats {w : World} {F : List Nat} {x : Timpl_Stats} {cs : List Value} (h : (eTimpl_Stats).own w F x cs) : ∃ F0 F1 c0 c1, F = (F0 ++ F1) ∧ cs = (c0 ++ c1) ∧ (eList eI 3).own w F0 x.Totals_ c0 ∧ (eList (eList eI 3) 39).own w F1 x.Cells_ c1 := by
  have h : (ePair (eList eI 3) (eList (eList eI 3) 39)).own w F (x.Totals_, x.Cells_) cs := h
  obtain ⟨F0, F1, c0, c1, rfl, rfl, h0, h1⟩ := h
  exact ⟨F0, F1, c0, c1, rfl, rfl, h0, h1⟩
def eTimpl_Node : Enc Timpl_Node := eIso (ePair (eBool) (ePair (eTimpl_Fork) (ePair (eList eI 3) (ePair eI (ePair (eTimpl_Stats) (ePair eI (ePair (eList eI 3) (ePair eI (ePair eI eI))))))))) (fun x => (x.Leaf_, x.Fork_, x.Kids_, x.Miss_, x.Stats_, x.Since_, x.Attrs_, x.Depth_, x.Up_, x.Born_))
theorem rdm_Timpl_Node {w : World} {X : List Nat} {x : Timpl_Node} {c0 c1 c2 c3 c4 c5 c6 c7 c8 c9 : List Value} (h0 : (eBool).rd w X x.Leaf_ c0) (h1 : (eTimpl_Fork).rd w X x.Fork_ c1) (h2 : (eList eI 3).rd w X x.Kids_ c2) (h3 : eI.rd w X x.Miss_ c3) (h4 : (eTimpl_Stats).rd w X x.Stats_ c4) (h5 : eI.rd w X x.Since_ c5) (h6 : (eList eI 3).rd w X x.Attrs_ c6) (h7 : eI.rd w X x.Depth_ c7) (h8 : eI.rd w X x.Up_ c8) (h9 : eI.rd w X x.Born_ c9) : (eTimpl_Node).rd w X x (c0 ++ (c1 ++ (c2 ++ (c3 ++ (c4 ++ (c5 ++ (c6 ++ (c7 ++ (c8 ++ c9))))))))) := by
  show (ePair (eBool) (ePair (eTimpl_Fork) (ePair (eList eI 3) (ePair eI (ePair (eTimpl_Stats) (ePair eI (ePair (eList eI 3) (ePair eI (ePair eI eI))))))))).rd w X (x.Leaf_, x.Fork_, x.Kids_, x.Miss_, x.Stats_, x.Since_, x.Attrs_, x.Depth_, x.Up_, x.Born_) _
  exact (ePair_rd h0 (ePair_rd h1 (ePair_rd h2 (ePair_rd h3 (ePair_rd h4 (ePair_rd h5 (ePair_rd h6 (ePair_rd h7 (ePair_rd h8 h9)))))))))
theorem rdo_Timpl_Node {w : World} {X : List Nat} {x : Timpl_Node} {cs : List Value} (h : (eTimpl_Node).rd w X x cs) : ∃ c0 c1 c2 c3 c4 c5 c6 c7 c8 c9, cs = (c0 ++ (c1 ++ (c2 ++ (c3 ++ (c4 ++ (c5 ++ (c6 ++ (c7 ++ (c8 ++ c9))))))))) ∧ (eBool).rd w X x.Leaf_ c0 ∧ (eTimpl_Fork).rd w X x.Fork_ c1 ∧ (eList eI 3).rd w X x.Kids_ c2 ∧ eI.rd w X x.Miss_ c3 ∧ (eTimpl_Stats).rd w X x.Stats_ c4 ∧ eI.rd w X x.Since_ c5 ∧ (eList eI 3).rd w X x.Attrs_ c6 ∧ eI.rd w X x.Depth_ c7 ∧ eI.rd w X x.Up_ c8 ∧ eI.rd w X x.Born_ c9 := by
  have h : (ePair (eBool) (ePair (eTimpl_Fork) (ePair (eList eI 3) (ePair eI (ePair (eTimpl_Stats) (ePair eI (ePair (eList eI 3) (ePair eI (ePair eI eI))))))))).rd w X (x.Leaf_, x.Fork_, x.Kids_, x.Miss_, x.Stats_, x.Since_, x.Attrs_, x.Depth_, x.Up_, x.Born_) cs := h
  obtain ⟨c0, d0, rfl, h0, r0⟩ := h
  obtain ⟨c1, d1, rfl, h1, r1⟩ := r0
  obtain ⟨c2, d2, rfl, h2, r2⟩ := r1
  obtain ⟨c3, d3, rfl, h3, r3⟩ := r2
  obtain ⟨c4, d4, rfl, h4, r4⟩ := r3
  obtain ⟨c5, d5, rfl, h5, r5⟩ := r4
  obtain ⟨c6, d6, rfl, h6, r6⟩ := r5
  obtain ⟨c7, d7, rfl, h7, r7⟩ := r6
  obtain ⟨c8, c9, rfl, h8, h9⟩ := r7
  exact ⟨c0, c1, c2, c3, c4, c5, c6, c7, c8, c9, rfl, h0, h1, h2, h3, h4, h5, h6, h7, h8, h9⟩
theorem ownm_Timpl_Node {w : World} {F0 F1 F2 F3 F4 F5 F6 F7 F8 F9 : List Nat} {x : Timpl_Node} {c0 c1 c2 c3 c4 c5 c6 c7 c8 c9 : List Value} (h0 : (eBool).own w F0 x.Leaf_ c0) (h1 : (eTimpl_Fork).own w F1 x.Fork_ c1) (h2 : (eList eI 3).own w F2 x.Kids_ c2) (h3 : eI.own w F3 x.Miss_ c3) (h4 : (eTimpl_Stats).own w F4 x.Stats_ c4) (h5 : eI.own w F5 x.Since_ c5) (h6 : (eList eI 3).own w F6 x.Attrs_ c6) (h7 : eI.own w F7 x.Depth_ c7) (h8 : eI.own w F8 x.Up_ c8) (h9 : eI.own w F9 x.Born_ c9) : (eTimpl_Node).own w (F0 ++ (F1 ++ (F2 ++ (F3 ++ (F4 ++ (F5 ++ (F6 ++ (F7 ++ (F8 ++ F9))))))))) x (c0 ++ (c1 ++ (c2 ++ (c3 ++ (c4 ++ (c5 ++ (c6 ++ (c7 ++ (c8 ++ c9))))))))) := by
  show (ePair (eBool) (ePair (eTimpl_Fork) (ePair (eList eI 3) (ePair eI (ePair (eTimpl_Stats) (ePair eI (ePair (eList eI 3) (ePair eI (ePair eI eI))))))))).own w _ (x.Leaf_, x.Fork_, x.Kids_, x.Miss_, x.Stats_, x.Since_, x.Attrs_, x.Depth_, x.Up_, x.Born_) _
  exact (ePair_own h0 (ePair_own h1 (ePair_own h2 (ePair_own h3 (ePair_own h4 (ePair_own h5 (ePair_own h6 (ePair_own h7 (ePair_own h8 h9)))))))))
theorem owno_Timpl_Node {w : World} {F : List Nat} {x : Timpl_Node} {cs : List Value} (h : (eTimpl_Node).own w F x cs) : ∃ F0 F1 F2 F3 F4 F5 F6 F7 F8 F9 c0 c1 c2 c3 c4 c5 c6 c7 c8 c9, F = (F0 ++ (F1 ++ (F2 ++ (F3 ++ (F4 ++ (F5 ++ (F6 ++ (F7 ++ (F8 ++ F9))))))))) ∧ cs = (c0 ++ (c1 ++ (c2 ++ (c3 ++ (c4 ++ (c5 ++ (c6 ++ (c7 ++ (c8 ++ c9))))))))) ∧ (eBool).own w F0 x.Leaf_ c0 ∧ (eTimpl_Fork).own w F1 x.Fork_ c1 ∧ (eList eI 3).own w F2 x.Kids_ c2 ∧ eI.own w F3 x.Miss_ c3 ∧ (eTimpl_Stats).own w F4 x.Stats_ c4 ∧ eI.own w F5 x.Since_ c5 ∧ (eList eI 3).own w F6 x.Attrs_ c6 ∧ eI.own w F7 x.Depth_ c7 ∧ eI.own w F8 x.Up_ c8 ∧ eI.own w F9 x.Born_ c9 := by
  have h : (ePair (eBool) (ePair (eTimpl_Fork) (ePair (eList eI 3) (ePair eI (ePair (eTimpl_Stats) (ePair eI (ePair (eList eI 3) (ePair eI (ePair eI eI))))))))).own w F (x.Leaf_, x.Fork_, x.Kids_, x.Miss_, x.Stats_, x.Since_, x.Attrs_, x.Depth_, x.Up_, x.Born_) cs := h
  obtain ⟨F0, G0, c0, d0, rfl, rfl, h0, r0⟩ := h
  obtain ⟨F1, G1, c1, d1, rfl, rfl, h1, r1⟩ := r0
  obtain ⟨F2, G2, c2, d2, rfl, rfl, h2, r2⟩ := r1
  obtain ⟨F3, G3, c3, d3, rfl, rfl, h3, r3⟩ := r2
  obtain ⟨F4, G4, c4, d4, rfl, rfl, h4, r4⟩ := r3
  obtain ⟨F5, G5, c5, d5, rfl, rfl, h5, r5⟩ := r4
  obtain ⟨F6, G6, c6, d6, rfl, rfl, h6, r6⟩ := r5
  obtain ⟨F7, G7, c7, d7, rfl, rfl, h7, r7⟩ := r6
  obtain ⟨F8, F9, c8, c9, rfl, rfl, h8, h9⟩ := r7
  exact ⟨F0, F1, F2, F3, F4, F5, F6, F7, F8, F9, c0, c1, c2, c3, c4, c5, c6, c7, c8, c9, rfl, rfl, h0, h1, h2, h3, h4, h5, h6, h7, h8, h9⟩
theorem opn_Timpl_Node {w0 : World} {M : List Nat} {L : List Res} {w : World} {F : List Nat} {x : Timpl_Node} {cs : List Value} {i : Nat} (h : St w0 M L w) (hi : L[i]? = some (Res.own (eTimpl_Node) F x cs)) :
    ∃ (a_1 : Option Addr) (k_1 : Nat) (F_1 : List Nat), ∃ (a_2 : Option Addr) (k_2 : Nat) (F_2 : List Nat), ∃ (a_3 : Option Addr) (k_3 : Nat) (F_3 : List Nat), ∃ (a_4 : Option Addr) (k_4 : Nat) (F_4 : List Nat), cs = [.bool x.Leaf_, .int .i64 x.Fork_.Attr_, .int .i64 x.Fork_.At_, .slice a_1 (x.Kids_).length k_1, .int .i64 x.Miss_, .slice a_2 (x.Stats_.Totals_).length k_2, .slice a_3 (x.Stats_.Cells_).length k_3, .int .i64 x.Since_, .slice a_4 (x.Attrs_).length k_4, .int .i64 x.Depth_, .int .i64 x.Up_, .int .i64 x.Born_] ∧ St w0 M (nilAt L [i] ++ [Res.own (eList eI 3) F_1 x.Kids_ [.slice a_1 (x.Kids_).length k_1], Res.own (eList eI 3) F_2 x.Stats_.Totals_ [.slice a_2 (x.Stats_.Totals_).length k_2], Res.own (eList (eList eI 3) 39) F_3 x.Stats_.Cells_ [.slice a_3 (x.Stats_.Cells_).length k_3], Res.own (eList eI 3) F_4 x.Attrs_ [.slice a_4 (x.Attrs_).length k_4]]) w := by
  obtain ⟨hok, _, _⟩ := h.one hi
  have hok : (eTimpl_Node).own w F x cs := hok
  obtain ⟨F1_0, F1_1, F1_2, F1_3, F1_4, F1_5, F1_6, F1_7, F1_8, F1_9, c1_0, c1_1, c1_2, c1_3, c1_4, c1_5, c1_6, c1_7, c1_8, c1_9, rfl, rfl, h1_0, h1_1, h1_2, h1_3, h1_4, h1_5, h1_6, h1_7, h1_8, h1_9⟩ := owno_Timpl_Node hok
  obtain ⟨rfl, rfl⟩ : F1_0 = [] ∧ c1_0 = [.bool x.Leaf_] := h1_0
  obtain ⟨rfl, rfl⟩ : F1_1 = [] ∧ c1_1 = [.int .i64 x.Fork_.Attr_, .int .i64 x.Fork_.At_] := h1_1
  obtain ⟨a2, k2, rfl⟩ := own_sl1 h1_2
  obtain ⟨rfl, rfl⟩ : F1_3 = [] ∧ c1_3 = [.int .i64 x.Miss_] := h1_3
  obtain ⟨F3_0, F3_1, c3_0, c3_1, rfl, rfl, h3_0, h3_1⟩ := owno_Timpl_Stats h1_4
  obtain ⟨a4, k4, rfl⟩ := own_sl1 h3_0
  obtain ⟨a5, k5, rfl⟩ := own_sl1 h3_1
  obtain ⟨rfl, rfl⟩ : F1_5 = [] ∧ c1_5 = [.int .i64 x.Since_] := h1_5
  obtain ⟨a6, k6, rfl⟩ := own_sl1 h1_6
  obtain ⟨rfl, rfl⟩ : F1_7 = [] ∧ c1_7 = [.int .i64 x.Depth_] := h1_7
  obtain ⟨rfl, rfl⟩ : F1_8 = [] ∧ c1_8 = [.int .i64 x.Up_] := h1_8
  obtain ⟨rfl, rfl⟩ : F1_9 = [] ∧ c1_9 = [.int .i64 x.Born_] := h1_9
  refine ⟨a2, k2, F1_2, a4, k4, F3_0, a5, k5, F3_1, a6, k6, F1_6, rfl, h.re [i] _ rfl ?_ ?_⟩
  · simp [selR_cons, selR_nil, hi, foot, Res.own]
  · intro s hs; simp only [List.mem_cons, List.not_mem_nil, or_false] at hs; rcases hs with rfl | rfl | rfl | rfl
    · exact h1_2
    · exact h3_0
    · exact h3_1
    · exact h1_6
theorem fus_Timpl_Node {w0 : World} {M : List Nat} {L : List Res} {w : World} {x0 : Bool} {x1 : Int} {x2 : Int} {x3 : List Int} {a3 : Option Addr} {n3 k3 : Nat} {G3 : List Nat} {x4 : Int} {x5 : List Int} {a5 : Option Addr} {n5 k5 : Nat} {G5 : List Nat} {x6 : List (List Int)} {a6 : Option Addr} {n6 k6 : Nat} {G6 : List Nat} {x7 : Int} {x8 : List Int} {a8 : Option Addr} {n8 k8 : Nat} {G8 : List Nat} {x9 : Int} {x10 : Int} {x11 : Int} (idx : List Nat) (h : St w0 M L w) (hs : selR L idx = [Res.own (eList eI 3) G3 x3 [.slice a3 n3 k3], Res.own (eList eI 3) G5 x5 [.slice a5 n5 k5], Res.own (eList (eList eI 3) 39) G6 x6 [.slice a6 n6 k6], Res.own (eList eI 3) G8 x8 [.slice a8 n8 k8]]) (hn : nodB idx = true) :
    ∃ F, St w0 M (nilAt L idx ++ [Res.own (eTimpl_Node) F (Timpl_Node.mk x0 (Timpl_Fork.mk x1 x2) x3 x4 (Timpl_Stats.mk x5 x6) x7 x8 x9 x10 x11) [.bool x0, .int .i64 x1, .int .i64 x2, .slice a3 n3 k3, .int .i64 x4, .slice a5 n5 k5, .slice a6 n6 k6, .int .i64 x7, .slice a8 n8 k8, .int .i64 x9, .int .i64 x10, .int .i64 x11]]) w := by
  have o0 : (eList eI 3).own w G3 x3 [.slice a3 n3 k3] := h.ok' (mem_sel (L := L) (is := idx) (by rw [hs]; simp : Res.own (eList eI 3) G3 x3 [.slice a3 n3 k3] ∈ selR L idx))
  have o1 : (eList eI 3).own w G5 x5 [.slice a5 n5 k5] := h.ok' (mem_sel (L := L) (is := idx) (by rw [hs]; simp : Res.own (eList eI 3) G5 x5 [.slice a5 n5 k5] ∈ selR L idx))
  have o2 : (eList (eList eI 3) 39).own w G6 x6 [.slice a6 n6 k6] := h.ok' (mem_sel (L := L) (is := idx) (by rw [hs]; simp : Res.own (eList (eList eI 3) 39) G6 x6 [.slice a6 n6 k6] ∈ selR L idx))
  have o3 : (eList eI 3).own w G8 x8 [.slice a8 n8 k8] := h.ok' (mem_sel (L := L) (is := idx) (by rw [hs]; simp : Res.own (eList eI 3) G8 x8 [.slice a8 n8 k8] ∈ selR L idx))
  have ho := (ownm_Timpl_Node (x := (Timpl_Node.mk x0 (Timpl_Fork.mk x1 x2) x3 x4 (Timpl_Stats.mk x5 x6) x7 x8 x9 x10 x11)) (⟨rfl, rfl⟩ : (eBool).own w [] _ _) (⟨rfl, rfl⟩ : (eTimpl_Fork).own w [] _ _) o0 (⟨rfl, rfl⟩ : eI.own w [] _ _) (ownm_Timpl_Stats (x := (Timpl_Stats.mk x5 x6)) o1 o2) (⟨rfl, rfl⟩ : eI.own w [] _ _) o3 (⟨rfl, rfl⟩ : eI.own w [] _ _) (⟨rfl, rfl⟩ : eI.own w [] _ _) (⟨rfl, rfl⟩ : eI.own w [] _ _))
  refine ⟨_, h.re idx [Res.own (eTimpl_Node) _ (Timpl_Node.mk x0 (Timpl_Fork.mk x1 x2) x3 x4 (Timpl_Stats.mk x5 x6) x7 x8 x9 x10 x11) [.bool x0, .int .i64 x1, .int .i64 x2, .slice a3 n3 k3, .int .i64 x4, .slice a5 n5 k5, .slice a6 n6 k6, .int .i64 x7, .slice a8 n8 k8, .int .i64 x9, .int .i64 x10, .int .i64 x11]] hn ?_ (fun s hs => by rw [List.mem_singleton.1 hs]; exact ho)⟩
  rw [hs]
  simp [foot, Res.own]
def eTimpl_Tree : Enc Timpl_Tree := eIso (ePair (eList (eTimpl_Node) 169) eI) (fun x => (x.Nodes_, x.Seen_))
theorem rdm_Timpl_Tree {w : World} {X : List Nat} {x : Timpl_Tree} {c0 c1 : List Value} (h0 : (eList (eTimpl_Node) 169).rd w X x.Nodes_ c0) (h1 : eI.rd w X x.Seen_ c1) : (eTimpl_Tree).rd w X x (c0 ++ c1) := by
  show (ePair (eList (eTimpl_Node) 169) eI).rd w X (x.Nodes_, x.Seen_) _
  exact (ePair_rd h0 h1)
theorem rdo_Timpl_Tree {w : World} {X : List Nat} {x : Timpl_Tree} {cs : List Value} (h : (eTimpl_Tree).rd w X x cs) : ∃ c0 c1, cs = (c0 ++ c1) ∧ (eList (eTimpl_Node) 169).rd w X x.Nodes_ c0 ∧ eI.rd w X x.Seen_ c1 := by
  have h : (ePair (eList (eTimpl_Node) 169) eI).rd w X (x.Nodes_, x.Seen_) cs := h
  obtain ⟨c0, c1, rfl, h0, h1⟩ := h
  exact ⟨c0, c1, rfl, h0, h1⟩
theorem ownm_Timpl_Tree {w : World} {F0 F1 : List Nat} {x : Timpl_Tree} {c0 c1 : List Value} (h0 : (eList (eTimpl_Node) 169).own w F0 x.Nodes_ c0) (h1 : eI.own w F1 x.Seen_ c1) : (eTimpl_Tree).own w (F0 ++ F1) x (c0 ++ c1) := by
  show (ePair (eList (eTimpl_Node) 169) eI).own w _ (x.Nodes_, x.Seen_) _
  exact (ePair_own h0 h1)
theorem owno_Timpl_Tree {w : World} {F : List Nat} {x : Timpl_Tree} {cs : List Value} (h : (eTimpl_Tree).own w F x cs) : ∃ F0 F1 c0 c1, F = (F0 ++ F1) ∧ cs = (c0 ++ c1) ∧ (eList (eTimpl_Node) 169).own w F0 x.Nodes_ c0 ∧ eI.own w F1 x.Seen_ c1 := by
  have h : (ePair (eList (eTimpl_Node) 169) eI).own w F (x.Nodes_, x.Seen_) cs := h
  obtain ⟨F0, F1, c0, c1, rfl, rfl, h0, h1⟩ := h
  exact ⟨F0, F1, c0, c1, rfl, rfl, h0, h1⟩
def eTimpl_Window : Enc Timpl_Window := eIso (eList (eList eI 3) 39) (fun x => x.Rows_)
theorem rdm_Timpl_Window {w : World} {X : List Nat} {x : Timpl_Window} {c0 : List Value} (h0 : (eList (eList eI 3) 39).rd w X x.Rows_ c0) : (eTimpl_Window).rd w X x c0 := by
  show (eList (eList eI 3) 39).rd w X x.Rows_ _
  exact h0
theorem rdo_Timpl_Window {w : World} {X : List Nat} {x : Timpl_Window} {cs : List Value} (h : (eTimpl_Window).rd w X x cs) : ∃ c0, cs = c0 ∧ (eList (eList eI 3) 39).rd w X x.Rows_ c0 := by
  have h : (eList (eList eI 3) 39).rd w X x.Rows_ cs := h
  exact ⟨cs, rfl, h⟩
theorem ownm_Timpl_Window {w : World} {F0 : List Nat} {x : Timpl_Window} {c0 : List Value} (h0 : (eList (eList eI 3) 39).own w F0 x.Rows_ c0) : (eTimpl_Window).own w F0 x c0 := by
  show (eList (eList eI 3) 39).own w _ x.Rows_ _
  exact h0
def eTimpl_Det : Enc Timpl_Det := eIso (ePair (eTimpl_Window) (eTimpl_Window)) (fun x => (x.Warn_, x.Drift_))
theorem rdm_Timpl_Det {w : World} {X : List Nat} {x : Timpl_Det} {c0 c1 : List Value} (h0 : (eTimpl_Window).rd w X x.Warn_ c0) (h1 : (eTimpl_Window).rd w X x.Drift_ c1) : (eTimpl_Det).rd w X x (c0 ++ c1) := by
  show (ePair (eTimpl_Window) (eTimpl_Window)).rd w X (x.Warn_, x.Drift_) _
  exact (ePair_rd h0 h1)
theorem rdo_Timpl_Det {w : World} {X : List Nat} {x : Timpl_Det} {cs : List Value} (h : (eTimpl_Det).rd w X x cs) : ∃ c0 c1, cs = (c0 ++ c1) ∧ (eTimpl_Window).rd w X x.Warn_ c0 ∧ (eTimpl_Window).rd w X x.Drift_ c1 := by
  have h : (ePair (eTimpl_Window) (eTimpl_Window)).rd w X (x.Warn_, x.Drift_) cs := h
  obtain ⟨c0, c1, rfl, h0, h1⟩ := h
  exact ⟨c0, c1, rfl, h0, h1⟩
theorem ownm_Timpl_Det {w : World} {F0 F1 : List Nat} {x : Timpl_Det} {c0 c1 : List Value} (h0 : (eTimpl_Window).own w F0 x.Warn_ c0) (h1 : (eTimpl_Window).own w F1 x.Drift_ c1) : (eTimpl_Det).own w (F0 ++ F1) x (c0 ++ c1) := by
  show (ePair (eTimpl_Window) (eTimpl_Window)).own w _ (x.Warn_, x.Drift_) _
  exact (ePair_own h0 h1)
theorem owno_Timpl_Det {w : World} {F : List Nat} {x : Timpl_Det} {cs : List Value} (h : (eTimpl_Det).own w F x cs) : ∃ F0 F1 c0 c1, F = (F0 ++ F1) ∧ cs = (c0 ++ c1) ∧ (eTimpl_Window).own w F0 x.Warn_ c0 ∧ (eTimpl_Window).own w F1 x.Drift_ c1 := by
  have h : (ePair (eTimpl_Window) (eTimpl_Window)).own w F (x.Warn_, x.Drift_) cs := h
  obtain ⟨F0, F1, c0, c1, rfl, rfl, h0, h1⟩ := h
  exact ⟨F0, F1, c0, c1, rfl, rfl, h0, h1⟩
def eTimpl_Member : Enc Timpl_Member := eIso (ePair (eTimpl_Tree) (ePair (eBool) (ePair (eTimpl_Tree) (eTimpl_Det)))) (fun x => (x.Tree_, x.HasYoung_, x.Young_, x.Det_))
theorem rdm_Timpl_Member {w : World} {X : List Nat} {x : Timpl_Member} {c0 c1 c2 c3 : List Value} (h0 : (eTimpl_Tree).rd w X x.Tree_ c0) (h1 : (eBool).rd w X x.HasYoung_ c1) (h2 : (eTimpl_Tree).rd w X x.Young_ c2) (h3 : (eTimpl_Det).rd w X x.Det_ c3) : (eTimpl_Member).rd w X x (c0 ++ (c1 ++ (c2 ++ c3))) := by
  show (ePair (eTimpl_Tree) (ePair (eBool) (ePair (eTimpl_Tree) (eTimpl_Det)))).rd w X (x.Tree_, x.HasYoung_, x.Young_, x.Det_) _
  exact (ePair_rd h0 (ePair_rd h1 (ePair_rd h2 h3)))
theorem rdo_Timpl_Member {w : World} {X : List Nat} {x : Timpl_Member} {cs : List Value} (h : (eTimpl_Member).rd w X x cs) : ∃ c0 c1 c2 c3, cs = (c0 ++ (c1 ++ (c2 ++ c3))) ∧ (eTimpl_Tree).rd w X x.Tree_ c0 ∧ (eBool).rd w X x.HasYoung_ c1 ∧ (eTimpl_Tree).rd w X x.Young_ c2 ∧ (eTimpl_Det).rd w X x.Det_ c3 := by
  have h : (ePair (eTimpl_Tree) (ePair (eBool) (ePair (eTimpl_Tree) (eTimpl_Det)))).rd w X (x.Tree_, x.HasYoung_, x.Young_, x.Det_) cs := h
  obtain ⟨c0, d0, rfl, h0, r0⟩ := h
  obtain ⟨c1, d1, rfl, h1, r1⟩ := r0
  obtain ⟨c2, c3, rfl, h2, h3⟩ := r1
  exact ⟨c0, c1, c2, c3, rfl, h0, h1, h2, h3⟩
theorem ownm_Timpl_Member {w : World} {F0 F1 F2 F3 : List Nat} {x : Timpl_Member} {c0 c1 c2 c3 : List Value} (h0 : (eTimpl_Tree).own w F0 x.Tree_ c0) (h1 : (eBool).own w F1 x.HasYoung_ c1) (h2 : (eTimpl_Tree).own w F2 x.Young_ c2) (h3 : (eTimpl_Det).own w F3 x.Det_ c3) : (eTimpl_Member).own w (F0 ++ (F1 ++ (F2 ++ F3))) x (c0 ++ (c1 ++ (c2 ++ c3))) := by
  show (ePair (eTimpl_Tree) (ePair (eBool) (ePair (eTimpl_Tree) (eTimpl_Det)))).own w _ (x.Tree_, x.HasYoung_, x.Young_, x.Det_) _
  exact (ePair_own h0 (ePair_own h1 (ePair_own h2 h3)))
theorem owno_Timpl_Member {w : World} {F : List Nat} {x : Timpl_Member} {cs : List Value} (h : (eTimpl_Member).own w F x cs) : ∃ F0 F1 F2 F3 c0 c1 c2 c3, F = (F0 ++ (F1 ++ (F2 ++ F3))) ∧ cs = (c0 ++ (c1 ++ (c2 ++ c3))) ∧ (eTimpl_Tree).own w F0 x.Tree_ c0 ∧ (eBool).own w F1 x.HasYoung_ c1 ∧ (eTimpl_Tree).own w F2 x.Young_ c2 ∧ (eTimpl_Det).own w F3 x.Det_ c3 := by
  have h : (ePair (eTimpl_Tree) (ePair (eBool) (ePair (eTimpl_Tree) (eTimpl_Det)))).own w F (x.Tree_, x.HasYoung_, x.Young_, x.Det_) cs := h
  obtain ⟨F0, G0, c0, d0, rfl, rfl, h0, r0⟩ := h
  obtain ⟨F1, G1, c1, d1, rfl, rfl, h1, r1⟩ := r0
  obtain ⟨F2, F3, c2, c3, rfl, rfl, h2, h3⟩ := r1
  exact ⟨F0, F1, F2, F3, c0, c1, c2, c3, rfl, rfl, h0, h1, h2, h3⟩
theorem opn_Timpl_Member {w0 : World} {M : List Nat} {L : List Res} {w : World} {F : List Nat} {x : Timpl_Member} {cs : List Value} {i : Nat} (h : St w0 M L w) (hi : L[i]? = some (Res.own (eTimpl_Member) F x cs)) :
    ∃ (a_1 : Option Addr) (k_1 : Nat) (F_1 : List Nat), ∃ (a_2 : Option Addr) (k_2 : Nat) (F_2 : List Nat), ∃ (a_3 : Option Addr) (k_3 : Nat) (F_3 : List Nat), ∃ (a_4 : Option Addr) (k_4 : Nat) (F_4 : List Nat), cs = [.slice a_1 (x.Tree_.Nodes_).length k_1, .int .i64 x.Tree_.Seen_, .bool x.HasYoung_, .slice a_2 (x.Young_.Nodes_).length k_2, .int .i64 x.Young_.Seen_, .slice a_3 (x.Det_.Warn_.Rows_).length k_3, .slice a_4 (x.Det_.Drift_.Rows_).length k_4] ∧ St w0 M (nilAt L [i] ++ [Res.own (eList (eTimpl_Node) 169) F_1 x.Tree_.Nodes_ [.slice a_1 (x.Tree_.Nodes_).length k_1], Res.own (eList (eTimpl_Node) 169) F_2 x.Young_.Nodes_ [.slice a_2 (x.Young_.Nodes_).length k_2], Res.own (eList (eList eI 3) 39) F_3 x.Det_.Warn_.Rows_ [.slice a_3 (x.Det_.Warn_.Rows_).length k_3], Res.own (eList (eList eI 3) 39) F_4 x.Det_.Drift_.Rows_ [.slice a_4 (x.Det_.Drift_.Rows_).length k_4]]) w := by
  obtain ⟨hok, _, _⟩ := h.one hi
  have hok : (eTimpl_Member).own w F x cs := hok
  obtain ⟨F1_0, F1_1, F1_2, F1_3, c1_0, c1_1, c1_2, c1_3, rfl, rfl, h1_0, h1_1, h1_2, h1_3⟩ := owno_Timpl_Member hok
  obtain ⟨F2_0, F2_1, c2_0, c2_1, rfl, rfl, h2_0, h2_1⟩ := owno_Timpl_Tree h1_0
  obtain ⟨a3, k3, rfl⟩ := own_sl1 h2_0
  obtain ⟨rfl, rfl⟩ : F2_1 = [] ∧ c2_1 = [.int .i64 x.Tree_.Seen_] := h2_1
  obtain ⟨rfl, rfl⟩ : F1_1 = [] ∧ c1_1 = [.bool x.HasYoung_] := h1_1
  obtain ⟨F4_0, F4_1, c4_0, c4_1, rfl, rfl, h4_0, h4_1⟩ := owno_Timpl_Tree h1_2
  obtain ⟨a5, k5, rfl⟩ := own_sl1 h4_0
  obtain ⟨rfl, rfl⟩ : F4_1 = [] ∧ c4_1 = [.int .i64 x.Young_.Seen_] := h4_1
  obtain ⟨F6_0, F6_1, c6_0, c6_1, rfl, rfl, h6_0, h6_1⟩ := owno_Timpl_Det h1_3
  have h7_0 : (eList (eList eI 3) 39).own w F6_0 (x.Det_.Warn_.Rows_) c6_0 := h6_0
  obtain ⟨a8, k8, rfl⟩ := own_sl1 h7_0
  have h9_0 : (eList (eList eI 3) 39).own w F6_1 (x.Det_.Drift_.Rows_) c6_1 := h6_1
  obtain ⟨a10, k10, rfl⟩ := own_sl1 h9_0
  refine ⟨a3, k3, F2_0, a5, k5, F4_0, a8, k8, F6_0, a10, k10, F6_1, rfl, h.re [i] _ rfl ?_ ?_⟩
  · simp [selR_cons, selR_nil, hi, foot, Res.own]
  · intro s hs; simp only [List.mem_cons, List.not_mem_nil, or_false] at hs; rcases hs with rfl | rfl | rfl | rfl
    · exact h2_0
    · exact h4_0
    · exact h7_0
    · exact h9_0
theorem fus_Timpl_Member {w0 : World} {M : List Nat} {L : List Res} {w : World} {x0 : List Timpl_Node} {a0 : Option Addr} {n0 k0 : Nat} {G0 : List Nat} {x1 : Int} {x2 : Bool} {x3 : List Timpl_Node} {a3 : Option Addr} {n3 k3 : Nat} {G3 : List Nat} {x4 : Int} {x5 : List (List Int)} {a5 : Option Addr} {n5 k5 : Nat} {G5 : List Nat} {x6 : List (List Int)} {a6 : Option Addr} {n6 k6 : Nat} {G6 : List Nat} (idx : List Nat) (h : St w0 M L w) (hs : selR L idx = [Res.own (eList (eTimpl_Node) 169) G0 x0 [.slice a0 n0 k0], Res.own (eList (eTimpl_Node) 169) G3 x3 [.slice a3 n3 k3], Res.own (eList (eList eI 3) 39) G5 x5 [.slice a5 n5 k5], Res.own (eList (eList eI 3) 39) G6 x6 [.slice a6 n6 k6]]) (hn : nodB idx = true) :
    ∃ F, St w0 M (nilAt L idx ++ [Res.own (eTimpl_Member) F (Timpl_Member.mk (Timpl_Tree.mk x0 x1) x2 (Timpl_Tree.mk x3 x4) (Timpl_Det.mk (Timpl_Window.mk x5) (Timpl_Window.mk x6))) [.slice a0 n0 k0, .int .i64 x1, .bool x2, .slice a3 n3 k3, .int .i64 x4, .slice a5 n5 k5, .slice a6 n6 k6]]) w := by
  have o0 : (eList (eTimpl_Node) 169).own w G0 x0 [.slice a0 n0 k0] := h.ok' (mem_sel (L := L) (is := idx) (by rw [hs]; simp : Res.own (eList (eTimpl_Node) 169) G0 x0 [.slice a0 n0 k0] ∈ selR L idx))
  have o1 : (eList (eTimpl_Node) 169).own w G3 x3 [.slice a3 n3 k3] := h.ok' (mem_sel (L := L) (is := idx) (by rw [hs]; simp : Res.own (eList (eTimpl_Node) 169) G3 x3 [.slice a3 n3 k3] ∈ selR L idx))
  have o2 : (eList (eList eI 3) 39).own w G5 x5 [.slice a5 n5 k5] := h.ok' (mem_sel (L := L) (is := idx) (by rw [hs]; simp : Res.own (eList (eList eI 3) 39) G5 x5 [.slice a5 n5 k5] ∈ selR L idx))
  have o3 : (eList (eList eI 3) 39).own w G6 x6 [.slice a6 n6 k6] := h.ok' (mem_sel (L := L) (is := idx) (by rw [hs]; simp : Res.own (eList (eList eI 3) 39) G6 x6 [.slice a6 n6 k6] ∈ selR L idx))
  have ho := (ownm_Timpl_Member (x := (Timpl_Member.mk (Timpl_Tree.mk x0 x1) x2 (Timpl_Tree.mk x3 x4) (Timpl_Det.mk (Timpl_Window.mk x5) (Timpl_Window.mk x6)))) (ownm_Timpl_Tree (x := (Timpl_Tree.mk x0 x1)) o0 (⟨rfl, rfl⟩ : eI.own w [] _ _)) (⟨rfl, rfl⟩ : (eBool).own w [] _ _) (ownm_Timpl_Tree (x := (Timpl_Tree.mk x3 x4)) o1 (⟨rfl, rfl⟩ : eI.own w [] _ _)) (ownm_Timpl_Det (x := (Timpl_Det.mk (Timpl_Window.mk x5) (Timpl_Window.mk x6))) (ownm_Timpl_Window (x := (Timpl_Window.mk x5)) o2) (ownm_Timpl_Window (x := (Timpl_Window.mk x6)) o3)))
  refine ⟨_, h.re idx [Res.own (eTimpl_Member) _ (Timpl_Member.mk (Timpl_Tree.mk x0 x1) x2 (Timpl_Tree.mk x3 x4) (Timpl_Det.mk (Timpl_Window.mk x5) (Timpl_Window.mk x6))) [.slice a0 n0 k0, .int .i64 x1, .bool x2, .slice a3 n3 k3, .int .i64 x4, .slice a5 n5 k5, .slice a6 n6 k6]] hn ?_ (fun s hs => by rw [List.mem_singleton.1 hs]; exact ho)⟩
  rw [hs]
  simp [foot, Res.own]
def eTimpl_Pair : Enc Timpl_Pair := eFlat (fun x => [.int .i64 x.Truth_, .int .i64 x.Said_]) 2 (fun _ => rfl) (by intro x u hu; simp only [List.mem_cons, List.not_mem_nil, or_false] at hu; rcases hu with rfl | rfl <;> rfl)
def eTimpl_Schema : Enc Timpl_Schema := eIso (ePair (eList (eTimpl_Attr) 133) (eList (eStr) 9)) (fun x => (x.Attrs_, x.Classes_))
theorem rdm_Timpl_Schema {w : World} {X : List Nat} {x : Timpl_Schema} {c0 c1 : List Value} (h0 : (eList (eTimpl_Attr) 133).rd w X x.Attrs_ c0) (h1 : (eList (eStr) 9).rd w X x.Classes_ c1) : (eTimpl_Schema).rd w X x (c0 ++ c1) := by
  show (ePair (eList (eTimpl_Attr) 133) (eList (eStr) 9)).rd w X (x.Attrs_, x.Classes_) _
  exact (ePair_rd h0 h1)
theorem rdo_Timpl_Schema {w : World} {X : List Nat} {x : Timpl_Schema} {cs : List Value} (h : (eTimpl_Schema).rd w X x cs) : ∃ c0 c1, cs = (c0 ++ c1) ∧ (eList (eTimpl_Attr) 133).rd w X x.Attrs_ c0 ∧ (eList (eStr) 9).rd w X x.Classes_ c1 := by
  have h : (ePair (eList (eTimpl_Attr) 133) (eList (eStr) 9)).rd w X (x.Attrs_, x.Classes_) cs := h
  obtain ⟨c0, c1, rfl, h0, h1⟩ := h
  exact ⟨c0, c1, rfl, h0, h1⟩
def eTimpl_Rule : Enc Timpl_Rule := eFlat (fun x => [.int .i64 x.Sure_, .int .i64 x.Tie_, .int .i64 x.Grace_, .int .i64 x.Depth_, .int .i64 x.Nodes_, .int .i64 x.Units_, .bool x.Two_]) 7 (fun _ => rfl) (by intro x u hu; simp only [List.mem_cons, List.not_mem_nil, or_false] at hu; rcases hu with rfl | rfl | rfl | rfl | rfl | rfl | rfl <;> rfl)
def eTimpl_Conf : Enc Timpl_Conf := eIso (ePair (eTimpl_Schema) (ePair (eTimpl_Rule) (ePair eI (ePair eI (ePair eI (ePair eI eI)))))) (fun x => (x.Schema_, x.Rule_, x.Members_, x.Pick_, x.Lambda_, x.Warn_, x.Drift_))
theorem rdm_Timpl_Conf {w : World} {X : List Nat} {x : Timpl_Conf} {c0 c1 c2 c3 c4 c5 c6 : List Value} (h0 : (eTimpl_Schema).rd w X x.Schema_ c0) (h1 : (eTimpl_Rule).rd w X x.Rule_ c1) (h2 : eI.rd w X x.Members_ c2) (h3 : eI.rd w X x.Pick_ c3) (h4 : eI.rd w X x.Lambda_ c4) (h5 : eI.rd w X x.Warn_ c5) (h6 : eI.rd w X x.Drift_ c6) : (eTimpl_Conf).rd w X x (c0 ++ (c1 ++ (c2 ++ (c3 ++ (c4 ++ (c5 ++ c6)))))) := by
  show (ePair (eTimpl_Schema) (ePair (eTimpl_Rule) (ePair eI (ePair eI (ePair eI (ePair eI eI)))))).rd w X (x.Schema_, x.Rule_, x.Members_, x.Pick_, x.Lambda_, x.Warn_, x.Drift_) _
  exact (ePair_rd h0 (ePair_rd h1 (ePair_rd h2 (ePair_rd h3 (ePair_rd h4 (ePair_rd h5 h6))))))
theorem rdo_Timpl_Conf {w : World} {X : List Nat} {x : Timpl_Conf} {cs : List Value} (h : (eTimpl_Conf).rd w X x cs) : ∃ c0 c1 c2 c3 c4 c5 c6, cs = (c0 ++ (c1 ++ (c2 ++ (c3 ++ (c4 ++ (c5 ++ c6)))))) ∧ (eTimpl_Schema).rd w X x.Schema_ c0 ∧ (eTimpl_Rule).rd w X x.Rule_ c1 ∧ eI.rd w X x.Members_ c2 ∧ eI.rd w X x.Pick_ c3 ∧ eI.rd w X x.Lambda_ c4 ∧ eI.rd w X x.Warn_ c5 ∧ eI.rd w X x.Drift_ c6 := by
  have h : (ePair (eTimpl_Schema) (ePair (eTimpl_Rule) (ePair eI (ePair eI (ePair eI (ePair eI eI)))))).rd w X (x.Schema_, x.Rule_, x.Members_, x.Pick_, x.Lambda_, x.Warn_, x.Drift_) cs := h
  obtain ⟨c0, d0, rfl, h0, r0⟩ := h
  obtain ⟨c1, d1, rfl, h1, r1⟩ := r0
  obtain ⟨c2, d2, rfl, h2, r2⟩ := r1
  obtain ⟨c3, d3, rfl, h3, r3⟩ := r2
  obtain ⟨c4, d4, rfl, h4, r4⟩ := r3
  obtain ⟨c5, c6, rfl, h5, h6⟩ := r4
  exact ⟨c0, c1, c2, c3, c4, c5, c6, rfl, h0, h1, h2, h3, h4, h5, h6⟩
def eTimpl_Forest : Enc Timpl_Forest := eIso (eList (eTimpl_Member) 99) (fun x => x.Members_)
theorem rdm_Timpl_Forest {w : World} {X : List Nat} {x : Timpl_Forest} {c0 : List Value} (h0 : (eList (eTimpl_Member) 99).rd w X x.Members_ c0) : (eTimpl_Forest).rd w X x c0 := by
  show (eList (eTimpl_Member) 99).rd w X x.Members_ _
  exact h0
theorem rdo_Timpl_Forest {w : World} {X : List Nat} {x : Timpl_Forest} {cs : List Value} (h : (eTimpl_Forest).rd w X x cs) : ∃ c0, cs = c0 ∧ (eList (eTimpl_Member) 99).rd w X x.Members_ c0 := by
  have h : (eList (eTimpl_Member) 99).rd w X x.Members_ cs := h
  exact ⟨cs, rfl, h⟩
def eTimpl_Ex : Enc Timpl_Ex := eIso (ePair (eList eI 3) eI) (fun x => (x.Bins_, x.Class_))
theorem rdm_Timpl_Ex {w : World} {X : List Nat} {x : Timpl_Ex} {c0 c1 : List Value} (h0 : (eList eI 3).rd w X x.Bins_ c0) (h1 : eI.rd w X x.Class_ c1) : (eTimpl_Ex).rd w X x (c0 ++ c1) := by
  show (ePair (eList eI 3) eI).rd w X (x.Bins_, x.Class_) _
  exact (ePair_rd h0 h1)
theorem rdo_Timpl_Ex {w : World} {X : List Nat} {x : Timpl_Ex} {cs : List Value} (h : (eTimpl_Ex).rd w X x cs) : ∃ c0 c1, cs = (c0 ++ c1) ∧ (eList eI 3).rd w X x.Bins_ c0 ∧ eI.rd w X x.Class_ c1 := by
  have h : (ePair (eList eI 3) eI).rd w X (x.Bins_, x.Class_) cs := h
  obtain ⟨c0, c1, rfl, h0, h1⟩ := h
  exact ⟨c0, c1, rfl, h0, h1⟩
def eTimpl_Bucket : Enc Timpl_Bucket := eFlat (fun x => [.int .i64 x.Size_, .int .i64 x.Ones_]) 2 (fun _ => rfl) (by intro x u hu; simp only [List.mem_cons, List.not_mem_nil, or_false] at hu; rcases hu with rfl | rfl <;> rfl)
def eTimpl_Score : Enc Timpl_Score := eIso (ePair (eList (eList eI 3) 39) (eList (eTimpl_Pair) 143)) (fun x => (x.Table_, x.Last_))
theorem rdm_Timpl_Score {w : World} {X : List Nat} {x : Timpl_Score} {c0 c1 : List Value} (h0 : (eList (eList eI 3) 39).rd w X x.Table_ c0) (h1 : (eList (eTimpl_Pair) 143).rd w X x.Last_ c1) : (eTimpl_Score).rd w X x (c0 ++ c1) := by
  show (ePair (eList (eList eI 3) 39) (eList (eTimpl_Pair) 143)).rd w X (x.Table_, x.Last_) _
  exact (ePair_rd h0 h1)
theorem rdo_Timpl_Score {w : World} {X : List Nat} {x : Timpl_Score} {cs : List Value} (h : (eTimpl_Score).rd w X x cs) : ∃ c0 c1, cs = (c0 ++ c1) ∧ (eList (eList eI 3) 39).rd w X x.Table_ c0 ∧ (eList (eTimpl_Pair) 143).rd w X x.Last_ c1 := by
  have h : (ePair (eList (eList eI 3) 39) (eList (eTimpl_Pair) 143)).rd w X (x.Table_, x.Last_) cs := h
  obtain ⟨c0, c1, rfl, h0, h1⟩ := h
  exact ⟨c0, c1, rfl, h0, h1⟩
def eTimpl_State : Enc Timpl_State := eIso (ePair (eTimpl_Conf) (ePair (eTimpl_Forest) (eTimpl_Score))) (fun x => (x.Conf_, x.Forest_, x.Score_))
theorem rdm_Timpl_State {w : World} {X : List Nat} {x : Timpl_State} {c0 c1 c2 : List Value} (h0 : (eTimpl_Conf).rd w X x.Conf_ c0) (h1 : (eTimpl_Forest).rd w X x.Forest_ c1) (h2 : (eTimpl_Score).rd w X x.Score_ c2) : (eTimpl_State).rd w X x (c0 ++ (c1 ++ c2)) := by
  show (ePair (eTimpl_Conf) (ePair (eTimpl_Forest) (eTimpl_Score))).rd w X (x.Conf_, x.Forest_, x.Score_) _
  exact (ePair_rd h0 (ePair_rd h1 h2))
theorem rdo_Timpl_State {w : World} {X : List Nat} {x : Timpl_State} {cs : List Value} (h : (eTimpl_State).rd w X x cs) : ∃ c0 c1 c2, cs = (c0 ++ (c1 ++ c2)) ∧ (eTimpl_Conf).rd w X x.Conf_ c0 ∧ (eTimpl_Forest).rd w X x.Forest_ c1 ∧ (eTimpl_Score).rd w X x.Score_ c2 := by
  have h : (ePair (eTimpl_Conf) (ePair (eTimpl_Forest) (eTimpl_Score))).rd w X (x.Conf_, x.Forest_, x.Score_) cs := h
  obtain ⟨c0, d0, rfl, h0, r0⟩ := h
  obtain ⟨c1, c2, rfl, h1, h2⟩ := r0
  exact ⟨c0, c1, c2, rfl, h0, h1, h2⟩
theorem sl39 : isSl Tryz.prog 39 3 := isSl_of (by kernel_rfl)
theorem sl23 : isSl Tryz.prog 23 9 := isSl_of (by kernel_rfl)
theorem ty9 : isTy Tryz.prog 9 false 1 16 [vS []] := isTy_of (by kernel_rfl)
theorem st9 : isStr Tryz.prog 9 := isStr_of (by kernel_rfl)
theorem fa156_0 : isFa Tryz.prog 156 0 0 := isFa_of (by kernel_rfl)
theorem fa156_1 : isFa Tryz.prog 156 1 1 := isFa_of (by kernel_rfl)
theorem ty39 : isTy Tryz.prog 39 false 1 24 [.slice none 0 0] := isTy_of (by kernel_rfl)
theorem fn20 : isFn Tryz.prog 20 := ⟨Tryz.f20, Tryz.func20, rfl, by decide⟩
theorem fa156_2 : isFa Tryz.prog 156 2 2 := isFa_of (by kernel_rfl)
theorem ty23 : isTy Tryz.prog 23 false 1 24 [.slice none 0 0] := isTy_of (by kernel_rfl)
theorem fn64 : isFn Tryz.prog 64 := ⟨Tryz.f64, Tryz.func64, rfl, by decide⟩
theorem sl22 : isSl Tryz.prog 22 156 := isSl_of (by kernel_rfl)
theorem ty156 : isTy Tryz.prog 156 true 3 64 [vS [], .slice none 0 0, .slice none 0 0] := isTy_of (by kernel_rfl)
theorem fn100 : isFn Tryz.prog 100 := ⟨Tryz.f100, Tryz.func100, rfl, by decide⟩
theorem fa25_0 : isFa Tryz.prog 25 0 0 := isFa_of (by kernel_rfl)
theorem ty22 : isTy Tryz.prog 22 false 1 24 [.slice none 0 0] := isTy_of (by kernel_rfl)
theorem fn63 : isFn Tryz.prog 63 := ⟨Tryz.f63, Tryz.func63, rfl, by decide⟩
theorem fa25_1 : isFa Tryz.prog 25 1 1 := isFa_of (by kernel_rfl)
theorem fa29_0 : isFa Tryz.prog 29 0 0 := isFa_of (by kernel_rfl)
theorem ty25 : isTy Tryz.prog 25 true 2 48 [.slice none 0 0, .slice none 0 0] := isTy_of (by kernel_rfl)
theorem fn33 : isFn Tryz.prog 33 := ⟨Tryz.f33, Tryz.func33, rfl, by decide⟩
theorem sl33 : isSl Tryz.prog 33 39 := isSl_of (by kernel_rfl)
theorem fa203_0 : isFa Tryz.prog 203 0 0 := isFa_of (by kernel_rfl)
theorem fa203_1 : isFa Tryz.prog 203 1 1 := isFa_of (by kernel_rfl)
theorem ty33 : isTy Tryz.prog 33 false 1 24 [.slice none 0 0] := isTy_of (by kernel_rfl)
theorem fn35 : isFn Tryz.prog 35 := ⟨Tryz.f35, Tryz.func35, rfl, by decide⟩
theorem fa205_2 : isFa Tryz.prog 205 2 3 := isFa_of (by kernel_rfl)
theorem fa205_4 : isFa Tryz.prog 205 4 5 := isFa_of (by kernel_rfl)
theorem ty203 : isTy Tryz.prog 203 true 2 48 [.slice none 0 0, .slice none 0 0] := isTy_of (by kernel_rfl)
theorem fn177 : isFn Tryz.prog 177 := ⟨Tryz.f177, Tryz.func177, rfl, by decide⟩
theorem fa205_6 : isFa Tryz.prog 205 6 8 := isFa_of (by kernel_rfl)
theorem sl119 : isSl Tryz.prog 119 205 := isSl_of (by kernel_rfl)
theorem ty205 : isTy Tryz.prog 205 true 12 160 [.bool false, .int .i64 0, .int .i64 0, .slice none 0 0, .int .i64 0, .slice none 0 0, .slice none 0 0, .int .i64 0, .slice none 0 0, .int .i64 0, .int .i64 0, .int .i64 0] := isTy_of (by kernel_rfl)
theorem fn157 : isFn Tryz.prog 157 := ⟨Tryz.f157, Tryz.func157, rfl, by decide⟩
theorem fa121_0 : isFa Tryz.prog 121 0 0 := isFa_of (by kernel_rfl)
theorem ty119 : isTy Tryz.prog 119 false 1 24 [.slice none 0 0] := isTy_of (by kernel_rfl)
theorem fn133 : isFn Tryz.prog 133 := ⟨Tryz.f133, Tryz.func133, rfl, by decide⟩
theorem fa122_0 : isFa Tryz.prog 122 0 0 := isFa_of (by kernel_rfl)
theorem fa124_0 : isFa Tryz.prog 124 0 0 := isFa_of (by kernel_rfl)
theorem ty122 : isTy Tryz.prog 122 true 1 24 [.slice none 0 0] := isTy_of (by kernel_rfl)
theorem fn134 : isFn Tryz.prog 134 := ⟨Tryz.f134, Tryz.func134, rfl, by decide⟩
theorem fa124_1 : isFa Tryz.prog 124 1 1 := isFa_of (by kernel_rfl)
theorem fa126_0 : isFa Tryz.prog 126 0 0 := isFa_of (by kernel_rfl)
theorem ty121 : isTy Tryz.prog 121 true 2 32 [.slice none 0 0, .int .i64 0] := isTy_of (by kernel_rfl)
theorem fn101 : isFn Tryz.prog 101 := ⟨Tryz.f101, Tryz.func101, rfl, by decide⟩
theorem fa126_2 : isFa Tryz.prog 126 2 3 := isFa_of (by kernel_rfl)
theorem fa126_3 : isFa Tryz.prog 126 3 5 := isFa_of (by kernel_rfl)
theorem ty124 : isTy Tryz.prog 124 true 2 48 [.slice none 0 0, .slice none 0 0] := isTy_of (by kernel_rfl)
theorem fn102 : isFn Tryz.prog 102 := ⟨Tryz.f102, Tryz.func102, rfl, by decide⟩
theorem sl30 : isSl Tryz.prog 30 126 := isSl_of (by kernel_rfl)
theorem ty126 : isTy Tryz.prog 126 true 7 120 [.slice none 0 0, .int .i64 0, .bool false, .slice none 0 0, .int .i64 0, .slice none 0 0, .slice none 0 0] := isTy_of (by kernel_rfl)
theorem fn65 : isFn Tryz.prog 65 := ⟨Tryz.f65, Tryz.func65, rfl, by decide⟩
theorem fa32_0 : isFa Tryz.prog 32 0 0 := isFa_of (by kernel_rfl)
theorem ty30 : isTy Tryz.prog 30 false 1 24 [.slice none 0 0] := isTy_of (by kernel_rfl)
theorem fn34 : isFn Tryz.prog 34 := ⟨Tryz.f34, Tryz.func34, rfl, by decide⟩
theorem sl34 : isSl Tryz.prog 34 145 := isSl_of (by kernel_rfl)
theorem fa36_0 : isFa Tryz.prog 36 0 0 := isFa_of (by kernel_rfl)
theorem fa36_1 : isFa Tryz.prog 36 1 1 := isFa_of (by kernel_rfl)
theorem ty34 : isTy Tryz.prog 34 false 1 24 [.slice none 0 0] := isTy_of (by kernel_rfl)
theorem fn36 : isFn Tryz.prog 36 := ⟨Tryz.f36, Tryz.func36, rfl, by decide⟩
theorem fa38_0 : isFa Tryz.prog 38 0 0 := isFa_of (by kernel_rfl)
theorem ty29 : isTy Tryz.prog 29 true 14 144 [.slice none 0 0, .slice none 0 0, .int .i64 0, .int .i64 0, .int .i64 0, .int .i64 0, .int .i64 0, .int .i64 0, .bool false, .int .i64 0, .int .i64 0, .int .i64 0, .int .i64 0, .int .i64 0] := isTy_of (by kernel_rfl)
theorem fn17 : isFn Tryz.prog 17 := ⟨Tryz.f17, Tryz.func17, rfl, by decide⟩
theorem fa38_1 : isFa Tryz.prog 38 1 14 := isFa_of (by kernel_rfl)
theorem ty32 : isTy Tryz.prog 32 true 1 24 [.slice none 0 0] := isTy_of (by kernel_rfl)
theorem fn18 : isFn Tryz.prog 18 := ⟨Tryz.f18, Tryz.func18, rfl, by decide⟩
theorem fa38_2 : isFa Tryz.prog 38 2 15 := isFa_of (by kernel_rfl)
theorem ty36 : isTy Tryz.prog 36 true 2 48 [.slice none 0 0, .slice none 0 0] := isTy_of (by kernel_rfl)
theorem fn19 : isFn Tryz.prog 19 := ⟨Tryz.f19, Tryz.func19, rfl, by decide⟩
theorem fa41_0 : isFa Tryz.prog 41 0 0 := isFa_of (by kernel_rfl)
theorem ty3 : isTy Tryz.prog 3 false 1 8 [.int .i64 0] := isTy_of (by kernel_rfl)
theorem ty133 : isTy Tryz.prog 133 true 3 64 [vS [], .slice none 0 0, .slice none 0 0] := isTy_of (by kernel_rfl)
theorem fa133_0 : isFa Tryz.prog 133 0 0 := isFa_of (by kernel_rfl)
theorem fn25 : isFn Tryz.prog 25 := ⟨Tryz.f25, Tryz.func25, rfl, by decide⟩
theorem fa133_1 : isFa Tryz.prog 133 1 1 := isFa_of (by kernel_rfl)
theorem fn76 : isFn Tryz.prog 76 := ⟨Tryz.f76, Tryz.func76, rfl, by decide⟩
theorem fa133_2 : isFa Tryz.prog 133 2 2 := isFa_of (by kernel_rfl)
theorem sl46 : isSl Tryz.prog 46 133 := isSl_of (by kernel_rfl)
theorem fn113 : isFn Tryz.prog 113 := ⟨Tryz.f113, Tryz.func113, rfl, by decide⟩
theorem ty48 : isTy Tryz.prog 48 true 2 48 [.slice none 0 0, .slice none 0 0] := isTy_of (by kernel_rfl)
theorem fn75 : isFn Tryz.prog 75 := ⟨Tryz.f75, Tryz.func75, rfl, by decide⟩
theorem fa48_0 : isFa Tryz.prog 48 0 0 := isFa_of (by kernel_rfl)
theorem ty46 : isTy Tryz.prog 46 false 1 24 [.slice none 0 0] := isTy_of (by kernel_rfl)
theorem fa48_1 : isFa Tryz.prog 48 1 1 := isFa_of (by kernel_rfl)
theorem ty49 : isTy Tryz.prog 49 true 7 56 [.int .i64 0, .int .i64 0, .int .i64 0, .int .i64 0, .int .i64 0, .int .i64 0, .bool false] := isTy_of (by kernel_rfl)
theorem fa27_0 : isFa Tryz.prog 27 0 0 := isFa_of (by kernel_rfl)
theorem fa49_0 : isFa Tryz.prog 49 0 0 := isFa_of (by kernel_rfl)
theorem fa27_1 : isFa Tryz.prog 27 1 1 := isFa_of (by kernel_rfl)
theorem fa49_1 : isFa Tryz.prog 49 1 1 := isFa_of (by kernel_rfl)
theorem fa27_2 : isFa Tryz.prog 27 2 2 := isFa_of (by kernel_rfl)
theorem fa49_2 : isFa Tryz.prog 49 2 2 := isFa_of (by kernel_rfl)
theorem fa27_3 : isFa Tryz.prog 27 3 3 := isFa_of (by kernel_rfl)
theorem fa49_3 : isFa Tryz.prog 49 3 3 := isFa_of (by kernel_rfl)
theorem fa27_4 : isFa Tryz.prog 27 4 4 := isFa_of (by kernel_rfl)
theorem fa49_4 : isFa Tryz.prog 49 4 4 := isFa_of (by kernel_rfl)
theorem fa27_5 : isFa Tryz.prog 27 5 5 := isFa_of (by kernel_rfl)
theorem fa49_5 : isFa Tryz.prog 49 5 5 := isFa_of (by kernel_rfl)
theorem fa27_6 : isFa Tryz.prog 27 6 6 := isFa_of (by kernel_rfl)
theorem ty4 : isTy Tryz.prog 4 false 1 1 [.bool false] := isTy_of (by kernel_rfl)
theorem fa49_6 : isFa Tryz.prog 49 6 6 := isFa_of (by kernel_rfl)
theorem ty51 : isTy Tryz.prog 51 true 14 144 [.slice none 0 0, .slice none 0 0, .int .i64 0, .int .i64 0, .int .i64 0, .int .i64 0, .int .i64 0, .int .i64 0, .bool false, .int .i64 0, .int .i64 0, .int .i64 0, .int .i64 0, .int .i64 0] := isTy_of (by kernel_rfl)
theorem fn43 : isFn Tryz.prog 43 := ⟨Tryz.f43, Tryz.func43, rfl, by decide⟩
theorem fa51_0 : isFa Tryz.prog 51 0 0 := isFa_of (by kernel_rfl)
theorem fa29_1 : isFa Tryz.prog 29 1 2 := isFa_of (by kernel_rfl)
theorem ty27 : isTy Tryz.prog 27 true 7 56 [.int .i64 0, .int .i64 0, .int .i64 0, .int .i64 0, .int .i64 0, .int .i64 0, .bool false] := isTy_of (by kernel_rfl)
theorem fn44 : isFn Tryz.prog 44 := ⟨Tryz.f44, Tryz.func44, rfl, by decide⟩
theorem fa51_1 : isFa Tryz.prog 51 1 2 := isFa_of (by kernel_rfl)
theorem fa29_2 : isFa Tryz.prog 29 2 9 := isFa_of (by kernel_rfl)
theorem fa51_2 : isFa Tryz.prog 51 2 9 := isFa_of (by kernel_rfl)
theorem fa29_3 : isFa Tryz.prog 29 3 10 := isFa_of (by kernel_rfl)
theorem fa51_3 : isFa Tryz.prog 51 3 10 := isFa_of (by kernel_rfl)
theorem fa29_4 : isFa Tryz.prog 29 4 11 := isFa_of (by kernel_rfl)
theorem fa51_4 : isFa Tryz.prog 51 4 11 := isFa_of (by kernel_rfl)
theorem fa29_5 : isFa Tryz.prog 29 5 12 := isFa_of (by kernel_rfl)
theorem fa51_5 : isFa Tryz.prog 51 5 12 := isFa_of (by kernel_rfl)
theorem fa29_6 : isFa Tryz.prog 29 6 13 := isFa_of (by kernel_rfl)
theorem fa51_6 : isFa Tryz.prog 51 6 13 := isFa_of (by kernel_rfl)
theorem ty165 : isTy Tryz.prog 165 true 2 16 [.int .i64 0, .int .i64 0] := isTy_of (by kernel_rfl)
theorem fa202_0 : isFa Tryz.prog 202 0 0 := isFa_of (by kernel_rfl)
theorem fa165_0 : isFa Tryz.prog 165 0 0 := isFa_of (by kernel_rfl)
theorem fa202_1 : isFa Tryz.prog 202 1 1 := isFa_of (by kernel_rfl)
theorem fa165_1 : isFa Tryz.prog 165 1 1 := isFa_of (by kernel_rfl)
theorem ty167 : isTy Tryz.prog 167 true 2 48 [.slice none 0 0, .slice none 0 0] := isTy_of (by kernel_rfl)
theorem fa167_0 : isFa Tryz.prog 167 0 0 := isFa_of (by kernel_rfl)
theorem fn46 : isFn Tryz.prog 46 := ⟨Tryz.f46, Tryz.func46, rfl, by decide⟩
theorem fa167_1 : isFa Tryz.prog 167 1 1 := isFa_of (by kernel_rfl)
theorem ty169 : isTy Tryz.prog 169 true 12 160 [.bool false, .int .i64 0, .int .i64 0, .slice none 0 0, .int .i64 0, .slice none 0 0, .slice none 0 0, .int .i64 0, .slice none 0 0, .int .i64 0, .int .i64 0, .int .i64 0] := isTy_of (by kernel_rfl)
theorem fa205_0 : isFa Tryz.prog 205 0 0 := isFa_of (by kernel_rfl)
theorem fa169_0 : isFa Tryz.prog 169 0 0 := isFa_of (by kernel_rfl)
theorem fa205_1 : isFa Tryz.prog 205 1 1 := isFa_of (by kernel_rfl)
theorem ty202 : isTy Tryz.prog 202 true 2 16 [.int .i64 0, .int .i64 0] := isTy_of (by kernel_rfl)
theorem fn182 : isFn Tryz.prog 182 := ⟨Tryz.f182, Tryz.func182, rfl, by decide⟩
theorem fa169_1 : isFa Tryz.prog 169 1 1 := isFa_of (by kernel_rfl)
theorem fa169_2 : isFa Tryz.prog 169 2 3 := isFa_of (by kernel_rfl)
theorem fa205_3 : isFa Tryz.prog 205 3 4 := isFa_of (by kernel_rfl)
theorem fa169_3 : isFa Tryz.prog 169 3 4 := isFa_of (by kernel_rfl)
theorem fn183 : isFn Tryz.prog 183 := ⟨Tryz.f183, Tryz.func183, rfl, by decide⟩
theorem fa169_4 : isFa Tryz.prog 169 4 5 := isFa_of (by kernel_rfl)
theorem fa205_5 : isFa Tryz.prog 205 5 7 := isFa_of (by kernel_rfl)
theorem fa169_5 : isFa Tryz.prog 169 5 7 := isFa_of (by kernel_rfl)
theorem fa169_6 : isFa Tryz.prog 169 6 8 := isFa_of (by kernel_rfl)
theorem fa205_7 : isFa Tryz.prog 205 7 9 := isFa_of (by kernel_rfl)
theorem fa169_7 : isFa Tryz.prog 169 7 9 := isFa_of (by kernel_rfl)
theorem fa205_8 : isFa Tryz.prog 205 8 10 := isFa_of (by kernel_rfl)
theorem fa169_8 : isFa Tryz.prog 169 8 10 := isFa_of (by kernel_rfl)
theorem fa205_9 : isFa Tryz.prog 205 9 11 := isFa_of (by kernel_rfl)
theorem fa169_9 : isFa Tryz.prog 169 9 11 := isFa_of (by kernel_rfl)
theorem sl91 : isSl Tryz.prog 91 169 := isSl_of (by kernel_rfl)
theorem fn163 : isFn Tryz.prog 163 := ⟨Tryz.f163, Tryz.func163, rfl, by decide⟩
theorem ty93 : isTy Tryz.prog 93 true 2 32 [.slice none 0 0, .int .i64 0] := isTy_of (by kernel_rfl)
theorem fn143 : isFn Tryz.prog 143 := ⟨Tryz.f143, Tryz.func143, rfl, by decide⟩
theorem fa93_0 : isFa Tryz.prog 93 0 0 := isFa_of (by kernel_rfl)
theorem ty91 : isTy Tryz.prog 91 false 1 24 [.slice none 0 0] := isTy_of (by kernel_rfl)
theorem fa121_1 : isFa Tryz.prog 121 1 1 := isFa_of (by kernel_rfl)
theorem fa93_1 : isFa Tryz.prog 93 1 1 := isFa_of (by kernel_rfl)
theorem ty95 : isTy Tryz.prog 95 true 1 24 [.slice none 0 0] := isTy_of (by kernel_rfl)
theorem fa95_0 : isFa Tryz.prog 95 0 0 := isFa_of (by kernel_rfl)
theorem ty97 : isTy Tryz.prog 97 true 2 48 [.slice none 0 0, .slice none 0 0] := isTy_of (by kernel_rfl)
theorem fn144 : isFn Tryz.prog 144 := ⟨Tryz.f144, Tryz.func144, rfl, by decide⟩
theorem fa97_0 : isFa Tryz.prog 97 0 0 := isFa_of (by kernel_rfl)
theorem fa97_1 : isFa Tryz.prog 97 1 1 := isFa_of (by kernel_rfl)
theorem ty99 : isTy Tryz.prog 99 true 7 120 [.slice none 0 0, .int .i64 0, .bool false, .slice none 0 0, .int .i64 0, .slice none 0 0, .slice none 0 0] := isTy_of (by kernel_rfl)
theorem fn114 : isFn Tryz.prog 114 := ⟨Tryz.f114, Tryz.func114, rfl, by decide⟩
theorem fa99_0 : isFa Tryz.prog 99 0 0 := isFa_of (by kernel_rfl)
theorem fa126_1 : isFa Tryz.prog 126 1 2 := isFa_of (by kernel_rfl)
theorem fa99_1 : isFa Tryz.prog 99 1 2 := isFa_of (by kernel_rfl)
theorem fa99_2 : isFa Tryz.prog 99 2 3 := isFa_of (by kernel_rfl)
theorem fn115 : isFn Tryz.prog 115 := ⟨Tryz.f115, Tryz.func115, rfl, by decide⟩
theorem fa99_3 : isFa Tryz.prog 99 3 5 := isFa_of (by kernel_rfl)
theorem sl52 : isSl Tryz.prog 52 99 := isSl_of (by kernel_rfl)
theorem fn77 : isFn Tryz.prog 77 := ⟨Tryz.f77, Tryz.func77, rfl, by decide⟩
theorem ty54 : isTy Tryz.prog 54 true 1 24 [.slice none 0 0] := isTy_of (by kernel_rfl)
theorem fn45 : isFn Tryz.prog 45 := ⟨Tryz.f45, Tryz.func45, rfl, by decide⟩
theorem fa54_0 : isFa Tryz.prog 54 0 0 := isFa_of (by kernel_rfl)
theorem ty52 : isTy Tryz.prog 52 false 1 24 [.slice none 0 0] := isTy_of (by kernel_rfl)
theorem ty143 : isTy Tryz.prog 143 true 2 16 [.int .i64 0, .int .i64 0] := isTy_of (by kernel_rfl)
theorem fa145_0 : isFa Tryz.prog 145 0 0 := isFa_of (by kernel_rfl)
theorem fa143_0 : isFa Tryz.prog 143 0 0 := isFa_of (by kernel_rfl)
theorem fa145_1 : isFa Tryz.prog 145 1 1 := isFa_of (by kernel_rfl)
theorem fa143_1 : isFa Tryz.prog 143 1 1 := isFa_of (by kernel_rfl)
theorem sl55 : isSl Tryz.prog 55 143 := isSl_of (by kernel_rfl)
theorem ty145 : isTy Tryz.prog 145 true 2 16 [.int .i64 0, .int .i64 0] := isTy_of (by kernel_rfl)
theorem fn78 : isFn Tryz.prog 78 := ⟨Tryz.f78, Tryz.func78, rfl, by decide⟩
theorem ty57 : isTy Tryz.prog 57 true 2 48 [.slice none 0 0, .slice none 0 0] := isTy_of (by kernel_rfl)
theorem fa57_0 : isFa Tryz.prog 57 0 0 := isFa_of (by kernel_rfl)
theorem fn47 : isFn Tryz.prog 47 := ⟨Tryz.f47, Tryz.func47, rfl, by decide⟩
theorem fa57_1 : isFa Tryz.prog 57 1 1 := isFa_of (by kernel_rfl)
theorem ty55 : isTy Tryz.prog 55 false 1 24 [.slice none 0 0] := isTy_of (by kernel_rfl)
theorem ty59 : isTy Tryz.prog 59 true 17 216 [.slice none 0 0, .slice none 0 0, .int .i64 0, .int .i64 0, .int .i64 0, .int .i64 0, .int .i64 0, .int .i64 0, .bool false, .int .i64 0, .int .i64 0, .int .i64 0, .int .i64 0, .int .i64 0, .slice none 0 0, .slice none 0 0, .slice none 0 0] := isTy_of (by kernel_rfl)
theorem fn22 : isFn Tryz.prog 22 := ⟨Tryz.f22, Tryz.func22, rfl, by decide⟩
theorem fa59_0 : isFa Tryz.prog 59 0 0 := isFa_of (by kernel_rfl)
theorem fn23 : isFn Tryz.prog 23 := ⟨Tryz.f23, Tryz.func23, rfl, by decide⟩
theorem fa59_1 : isFa Tryz.prog 59 1 14 := isFa_of (by kernel_rfl)
theorem fn24 : isFn Tryz.prog 24 := ⟨Tryz.f24, Tryz.func24, rfl, by decide⟩
theorem fa59_2 : isFa Tryz.prog 59 2 15 := isFa_of (by kernel_rfl)
theorem ty61 : isTy Tryz.prog 61 true 2 32 [.slice none 0 0, .int .i64 0] := isTy_of (by kernel_rfl)
theorem fa61_0 : isFa Tryz.prog 61 0 0 := isFa_of (by kernel_rfl)
theorem fa41_1 : isFa Tryz.prog 41 1 1 := isFa_of (by kernel_rfl)
theorem fa61_1 : isFa Tryz.prog 61 1 1 := isFa_of (by kernel_rfl)
theorem fn69 : isFn Tryz.prog 69 := ⟨Tryz.f69, Tryz.func69, rfl, by decide⟩
theorem fn139 : isFn Tryz.prog 139 := ⟨Tryz.f139, Tryz.func139, rfl, by decide⟩
theorem mixed : Tryz.prog.follows .mixedOrders = true := by kernel_rfl
theorem fn107 : isFn Tryz.prog 107 := ⟨Tryz.f107, Tryz.func107, rfl, by decide⟩
theorem fn108 : isFn Tryz.prog 108 := ⟨Tryz.f108, Tryz.func108, rfl, by decide⟩
theorem fn68 : isFn Tryz.prog 68 := ⟨Tryz.f68, Tryz.func68, rfl, by decide⟩
theorem fn103 : isFn Tryz.prog 103 := ⟨Tryz.f103, Tryz.func103, rfl, by decide⟩
theorem fn104 : isFn Tryz.prog 104 := ⟨Tryz.f104, Tryz.func104, rfl, by decide⟩
theorem fn70 : isFn Tryz.prog 70 := ⟨Tryz.f70, Tryz.func70, rfl, by decide⟩
theorem fn141 : isFn Tryz.prog 141 := ⟨Tryz.f141, Tryz.func141, rfl, by decide⟩
theorem fs165 : isFs Tryz.prog 165 [(0, 1), (1, 1)] := isFs_of (by kernel_rfl)
theorem se165 (a0 b0 : Int) (a1 b1 : Int) : eqSB Tryz.prog 165 [.int .i64 a0, .int .i64 a1] [.int .i64 b0, .int .i64 b1] = some (a0 == b0 && (a1 == b1 && true)) := by kernel_rfl
theorem fn178 : isFn Tryz.prog 178 := ⟨Tryz.f178, Tryz.func178, rfl, by decide⟩
theorem fn110 : isFn Tryz.prog 110 := ⟨Tryz.f110, Tryz.func110, rfl, by decide⟩
theorem fn179 : isFn Tryz.prog 179 := ⟨Tryz.f179, Tryz.func179, rfl, by decide⟩
theorem fn180 : isFn Tryz.prog 180 := ⟨Tryz.f180, Tryz.func180, rfl, by decide⟩
theorem fn158 : isFn Tryz.prog 158 := ⟨Tryz.f158, Tryz.func158, rfl, by decide⟩
theorem fn159 : isFn Tryz.prog 159 := ⟨Tryz.f159, Tryz.func159, rfl, by decide⟩
theorem fn160 : isFn Tryz.prog 160 := ⟨Tryz.f160, Tryz.func160, rfl, by decide⟩
theorem fn161 : isFn Tryz.prog 161 := ⟨Tryz.f161, Tryz.func161, rfl, by decide⟩
theorem fn135 : isFn Tryz.prog 135 := ⟨Tryz.f135, Tryz.func135, rfl, by decide⟩
theorem fn136 : isFn Tryz.prog 136 := ⟨Tryz.f136, Tryz.func136, rfl, by decide⟩
theorem fn137 : isFn Tryz.prog 137 := ⟨Tryz.f137, Tryz.func137, rfl, by decide⟩
theorem fn142 : isFn Tryz.prog 142 := ⟨Tryz.f142, Tryz.func142, rfl, by decide⟩
theorem fn138 : isFn Tryz.prog 138 := ⟨Tryz.f138, Tryz.func138, rfl, by decide⟩
theorem fn66 : isFn Tryz.prog 66 := ⟨Tryz.f66, Tryz.func66, rfl, by decide⟩
theorem fn105 : isFn Tryz.prog 105 := ⟨Tryz.f105, Tryz.func105, rfl, by decide⟩
theorem fn106 : isFn Tryz.prog 106 := ⟨Tryz.f106, Tryz.func106, rfl, by decide⟩
theorem fn67 : isFn Tryz.prog 67 := ⟨Tryz.f67, Tryz.func67, rfl, by decide⟩
theorem fn181 : isFn Tryz.prog 181 := ⟨Tryz.f181, Tryz.func181, rfl, by decide⟩
theorem fn162 : isFn Tryz.prog 162 := ⟨Tryz.f162, Tryz.func162, rfl, by decide⟩
theorem fn38 : isFn Tryz.prog 38 := ⟨Tryz.f38, Tryz.func38, rfl, by decide⟩
theorem fn140 : isFn Tryz.prog 140 := ⟨Tryz.f140, Tryz.func140, rfl, by decide⟩
theorem fn109 : isFn Tryz.prog 109 := ⟨Tryz.f109, Tryz.func109, rfl, by decide⟩
theorem fn71 : isFn Tryz.prog 71 := ⟨Tryz.f71, Tryz.func71, rfl, by decide⟩
theorem fn42 : isFn Tryz.prog 42 := ⟨Tryz.f42, Tryz.func42, rfl, by decide⟩
theorem sl172 : isSl Tryz.prog 172 175 := isSl_of (by kernel_rfl)
theorem ty175 : isTy Tryz.prog 175 true 2 16 [.int .i64 0, .int .i64 0] := isTy_of (by kernel_rfl)
theorem fs175 : isFs Tryz.prog 175 [(0, 1), (1, 1)] := isFs_of (by kernel_rfl)
theorem fn112 : isFn Tryz.prog 112 := ⟨Tryz.f112, Tryz.func112, rfl, by decide⟩
theorem fa175_0 : isFa Tryz.prog 175 0 0 := isFa_of (by kernel_rfl)
theorem fa175_1 : isFa Tryz.prog 175 1 1 := isFa_of (by kernel_rfl)
theorem fa138_0 : isFa Tryz.prog 138 0 0 := isFa_of (by kernel_rfl)
theorem fa138_1 : isFa Tryz.prog 138 1 1 := isFa_of (by kernel_rfl)
theorem ty138 : isTy Tryz.prog 138 true 2 16 [.int .i64 0, .int .i64 0] := isTy_of (by kernel_rfl)
theorem fn111 : isFn Tryz.prog 111 := ⟨Tryz.f111, Tryz.func111, rfl, by decide⟩
theorem fn37 : isFn Tryz.prog 37 := ⟨Tryz.f37, Tryz.func37, rfl, by decide⟩
theorem fn73 : isFn Tryz.prog 73 := ⟨Tryz.f73, Tryz.func73, rfl, by decide⟩
theorem fn74 : isFn Tryz.prog 74 := ⟨Tryz.f74, Tryz.func74, rfl, by decide⟩
theorem fs138 : isFs Tryz.prog 138 [(0, 1), (1, 1)] := isFs_of (by kernel_rfl)
theorem fn72 : isFn Tryz.prog 72 := ⟨Tryz.f72, Tryz.func72, rfl, by decide⟩
theorem fn39 : isFn Tryz.prog 39 := ⟨Tryz.f39, Tryz.func39, rfl, by decide⟩
theorem fn41 : isFn Tryz.prog 41 := ⟨Tryz.f41, Tryz.func41, rfl, by decide⟩
theorem fn40 : isFn Tryz.prog 40 := ⟨Tryz.f40, Tryz.func40, rfl, by decide⟩
theorem fn21 : isFn Tryz.prog 21 := ⟨Tryz.f21, Tryz.func21, rfl, by decide⟩
theorem fn84 : isFn Tryz.prog 84 := ⟨Tryz.f84, Tryz.func84, rfl, by decide⟩
theorem fn171 : isFn Tryz.prog 171 := ⟨Tryz.f171, Tryz.func171, rfl, by decide⟩
theorem fn151 : isFn Tryz.prog 151 := ⟨Tryz.f151, Tryz.func151, rfl, by decide⟩
theorem fn152 : isFn Tryz.prog 152 := ⟨Tryz.f152, Tryz.func152, rfl, by decide⟩
theorem fn174 : isFn Tryz.prog 174 := ⟨Tryz.f174, Tryz.func174, rfl, by decide⟩
theorem fn172 : isFn Tryz.prog 172 := ⟨Tryz.f172, Tryz.func172, rfl, by decide⟩
theorem fn173 : isFn Tryz.prog 173 := ⟨Tryz.f173, Tryz.func173, rfl, by decide⟩
theorem fn188 : isFn Tryz.prog 188 := ⟨Tryz.f188, Tryz.func188, rfl, by decide⟩
theorem fn167 : isFn Tryz.prog 167 := ⟨Tryz.f167, Tryz.func167, rfl, by decide⟩
theorem fn122 : isFn Tryz.prog 122 := ⟨Tryz.f122, Tryz.func122, rfl, by decide⟩
theorem fn153 : isFn Tryz.prog 153 := ⟨Tryz.f153, Tryz.func153, rfl, by decide⟩
theorem fn123 : isFn Tryz.prog 123 := ⟨Tryz.f123, Tryz.func123, rfl, by decide⟩
theorem fn83 : isFn Tryz.prog 83 := ⟨Tryz.f83, Tryz.func83, rfl, by decide⟩
theorem fn116 : isFn Tryz.prog 116 := ⟨Tryz.f116, Tryz.func116, rfl, by decide⟩
theorem fn117 : isFn Tryz.prog 117 := ⟨Tryz.f117, Tryz.func117, rfl, by decide⟩
theorem fn196 : isFn Tryz.prog 196 := ⟨Tryz.f196, Tryz.func196, rfl, by decide⟩
theorem fn193 : isFn Tryz.prog 193 := ⟨Tryz.f193, Tryz.func193, rfl, by decide⟩
theorem fn125 : isFn Tryz.prog 125 := ⟨Tryz.f125, Tryz.func125, rfl, by decide⟩
theorem fn85 : isFn Tryz.prog 85 := ⟨Tryz.f85, Tryz.func85, rfl, by decide⟩
theorem fn87 : isFn Tryz.prog 87 := ⟨Tryz.f87, Tryz.func87, rfl, by decide⟩
theorem fn190 : isFn Tryz.prog 190 := ⟨Tryz.f190, Tryz.func190, rfl, by decide⟩
theorem fn184 : isFn Tryz.prog 184 := ⟨Tryz.f184, Tryz.func184, rfl, by decide⟩
theorem fn185 : isFn Tryz.prog 185 := ⟨Tryz.f185, Tryz.func185, rfl, by decide⟩
theorem fn186 : isFn Tryz.prog 186 := ⟨Tryz.f186, Tryz.func186, rfl, by decide⟩
theorem fn187 : isFn Tryz.prog 187 := ⟨Tryz.f187, Tryz.func187, rfl, by decide⟩
theorem fn91 : isFn Tryz.prog 91 := ⟨Tryz.f91, Tryz.func91, rfl, by decide⟩
theorem fn164 : isFn Tryz.prog 164 := ⟨Tryz.f164, Tryz.func164, rfl, by decide⟩
theorem fn165 : isFn Tryz.prog 165 := ⟨Tryz.f165, Tryz.func165, rfl, by decide⟩
theorem fn166 : isFn Tryz.prog 166 := ⟨Tryz.f166, Tryz.func166, rfl, by decide⟩
theorem fn145 : isFn Tryz.prog 145 := ⟨Tryz.f145, Tryz.func145, rfl, by decide⟩
theorem fn146 : isFn Tryz.prog 146 := ⟨Tryz.f146, Tryz.func146, rfl, by decide⟩
theorem fn147 : isFn Tryz.prog 147 := ⟨Tryz.f147, Tryz.func147, rfl, by decide⟩
theorem fn168 : isFn Tryz.prog 168 := ⟨Tryz.f168, Tryz.func168, rfl, by decide⟩
theorem fn148 : isFn Tryz.prog 148 := ⟨Tryz.f148, Tryz.func148, rfl, by decide⟩
theorem fn169 : isFn Tryz.prog 169 := ⟨Tryz.f169, Tryz.func169, rfl, by decide⟩
theorem fn195 : isFn Tryz.prog 195 := ⟨Tryz.f195, Tryz.func195, rfl, by decide⟩
theorem fn194 : isFn Tryz.prog 194 := ⟨Tryz.f194, Tryz.func194, rfl, by decide⟩
theorem fn189 : isFn Tryz.prog 189 := ⟨Tryz.f189, Tryz.func189, rfl, by decide⟩
theorem bl4 : isBl Tryz.prog 4 := isBl_of (by kernel_rfl)
theorem fn170 : isFn Tryz.prog 170 := ⟨Tryz.f170, Tryz.func170, rfl, by decide⟩
theorem fn150 : isFn Tryz.prog 150 := ⟨Tryz.f150, Tryz.func150, rfl, by decide⟩
theorem fn149 : isFn Tryz.prog 149 := ⟨Tryz.f149, Tryz.func149, rfl, by decide⟩
theorem fn79 : isFn Tryz.prog 79 := ⟨Tryz.f79, Tryz.func79, rfl, by decide⟩
theorem fn119 : isFn Tryz.prog 119 := ⟨Tryz.f119, Tryz.func119, rfl, by decide⟩
theorem fn120 : isFn Tryz.prog 120 := ⟨Tryz.f120, Tryz.func120, rfl, by decide⟩
theorem fs93 : isFs Tryz.prog 93 [(0, 1), (1, 1)] := isFs_of (by kernel_rfl)
theorem fn121 : isFn Tryz.prog 121 := ⟨Tryz.f121, Tryz.func121, rfl, by decide⟩
theorem fn82 : isFn Tryz.prog 82 := ⟨Tryz.f82, Tryz.func82, rfl, by decide⟩
theorem fn81 : isFn Tryz.prog 81 := ⟨Tryz.f81, Tryz.func81, rfl, by decide⟩
theorem fn118 : isFn Tryz.prog 118 := ⟨Tryz.f118, Tryz.func118, rfl, by decide⟩
theorem fn80 : isFn Tryz.prog 80 := ⟨Tryz.f80, Tryz.func80, rfl, by decide⟩
theorem fn175 : isFn Tryz.prog 175 := ⟨Tryz.f175, Tryz.func175, rfl, by decide⟩
theorem fn49 : isFn Tryz.prog 49 := ⟨Tryz.f49, Tryz.func49, rfl, by decide⟩
theorem fn154 : isFn Tryz.prog 154 := ⟨Tryz.f154, Tryz.func154, rfl, by decide⟩
theorem fn124 : isFn Tryz.prog 124 := ⟨Tryz.f124, Tryz.func124, rfl, by decide⟩
theorem fn126 : isFn Tryz.prog 126 := ⟨Tryz.f126, Tryz.func126, rfl, by decide⟩
theorem fn92 : isFn Tryz.prog 92 := ⟨Tryz.f92, Tryz.func92, rfl, by decide⟩
theorem fn86 : isFn Tryz.prog 86 := ⟨Tryz.f86, Tryz.func86, rfl, by decide⟩
theorem fn53 : isFn Tryz.prog 53 := ⟨Tryz.f53, Tryz.func53, rfl, by decide⟩
theorem fn127 : isFn Tryz.prog 127 := ⟨Tryz.f127, Tryz.func127, rfl, by decide⟩
theorem fn128 : isFn Tryz.prog 128 := ⟨Tryz.f128, Tryz.func128, rfl, by decide⟩
theorem fn48 : isFn Tryz.prog 48 := ⟨Tryz.f48, Tryz.func48, rfl, by decide⟩
theorem fn88 : isFn Tryz.prog 88 := ⟨Tryz.f88, Tryz.func88, rfl, by decide⟩
theorem fn90 : isFn Tryz.prog 90 := ⟨Tryz.f90, Tryz.func90, rfl, by decide⟩
theorem fn89 : isFn Tryz.prog 89 := ⟨Tryz.f89, Tryz.func89, rfl, by decide⟩
theorem fn50 : isFn Tryz.prog 50 := ⟨Tryz.f50, Tryz.func50, rfl, by decide⟩
theorem fn52 : isFn Tryz.prog 52 := ⟨Tryz.f52, Tryz.func52, rfl, by decide⟩
theorem fn51 : isFn Tryz.prog 51 := ⟨Tryz.f51, Tryz.func51, rfl, by decide⟩
theorem fn26 : isFn Tryz.prog 26 := ⟨Tryz.f26, Tryz.func26, rfl, by decide⟩
theorem fn10 : isFn Tryz.prog 10 := ⟨Tryz.f10, Tryz.func10, rfl, by decide⟩
theorem fn94 : isFn Tryz.prog 94 := ⟨Tryz.f94, Tryz.func94, rfl, by decide⟩
theorem fn129 : isFn Tryz.prog 129 := ⟨Tryz.f129, Tryz.func129, rfl, by decide⟩
theorem fn93 : isFn Tryz.prog 93 := ⟨Tryz.f93, Tryz.func93, rfl, by decide⟩
theorem fn54 : isFn Tryz.prog 54 := ⟨Tryz.f54, Tryz.func54, rfl, by decide⟩
theorem fn55 : isFn Tryz.prog 55 := ⟨Tryz.f55, Tryz.func55, rfl, by decide⟩
theorem fn57 : isFn Tryz.prog 57 := ⟨Tryz.f57, Tryz.func57, rfl, by decide⟩
theorem fn191 : isFn Tryz.prog 191 := ⟨Tryz.f191, Tryz.func191, rfl, by decide⟩
theorem fn192 : isFn Tryz.prog 192 := ⟨Tryz.f192, Tryz.func192, rfl, by decide⟩
theorem fn176 : isFn Tryz.prog 176 := ⟨Tryz.f176, Tryz.func176, rfl, by decide⟩
theorem fn155 : isFn Tryz.prog 155 := ⟨Tryz.f155, Tryz.func155, rfl, by decide⟩
theorem fn156 : isFn Tryz.prog 156 := ⟨Tryz.f156, Tryz.func156, rfl, by decide⟩
theorem fn130 : isFn Tryz.prog 130 := ⟨Tryz.f130, Tryz.func130, rfl, by decide⟩
theorem fn131 : isFn Tryz.prog 131 := ⟨Tryz.f131, Tryz.func131, rfl, by decide⟩
theorem fn95 : isFn Tryz.prog 95 := ⟨Tryz.f95, Tryz.func95, rfl, by decide⟩
theorem fn56 : isFn Tryz.prog 56 := ⟨Tryz.f56, Tryz.func56, rfl, by decide⟩
theorem fn96 : isFn Tryz.prog 96 := ⟨Tryz.f96, Tryz.func96, rfl, by decide⟩
theorem fn58 : isFn Tryz.prog 58 := ⟨Tryz.f58, Tryz.func58, rfl, by decide⟩
theorem fn27 : isFn Tryz.prog 27 := ⟨Tryz.f27, Tryz.func27, rfl, by decide⟩
theorem fn28 : isFn Tryz.prog 28 := ⟨Tryz.f28, Tryz.func28, rfl, by decide⟩
theorem fn29 : isFn Tryz.prog 29 := ⟨Tryz.f29, Tryz.func29, rfl, by decide⟩
theorem us3 : (Tryz.prog.underlying 3).isSome = true := by kernel_rfl
theorem in5 : isInt Tryz.prog 5 .u8 := isInt_of (by kernel_rfl)
theorem sl200 : isSl Tryz.prog 200 5 := isSl_of (by kernel_rfl)
theorem ty5 : isTy Tryz.prog 5 false 1 1 [.int .u8 0] := isTy_of (by kernel_rfl)
theorem fn132 : isFn Tryz.prog 132 := ⟨Tryz.f132, Tryz.func132, rfl, by decide⟩
theorem fn15 : isFn Tryz.prog 15 := ⟨Tryz.f15, Tryz.func15, rfl, by decide⟩
theorem fn98 : isFn Tryz.prog 98 := ⟨Tryz.f98, Tryz.func98, rfl, by decide⟩
theorem fn97 : isFn Tryz.prog 97 := ⟨Tryz.f97, Tryz.func97, rfl, by decide⟩
theorem fn59 : isFn Tryz.prog 59 := ⟨Tryz.f59, Tryz.func59, rfl, by decide⟩
theorem fn61 : isFn Tryz.prog 61 := ⟨Tryz.f61, Tryz.func61, rfl, by decide⟩
theorem fn99 : isFn Tryz.prog 99 := ⟨Tryz.f99, Tryz.func99, rfl, by decide⟩
theorem fn60 : isFn Tryz.prog 60 := ⟨Tryz.f60, Tryz.func60, rfl, by decide⟩
theorem fn62 : isFn Tryz.prog 62 := ⟨Tryz.f62, Tryz.func62, rfl, by decide⟩
theorem fn30 : isFn Tryz.prog 30 := ⟨Tryz.f30, Tryz.func30, rfl, by decide⟩
theorem fn31 : isFn Tryz.prog 31 := ⟨Tryz.f31, Tryz.func31, rfl, by decide⟩
theorem fn32 : isFn Tryz.prog 32 := ⟨Tryz.f32, Tryz.func32, rfl, by decide⟩
theorem ty38 : isTy Tryz.prog 38 true 17 216 [.slice none 0 0, .slice none 0 0, .int .i64 0, .int .i64 0, .int .i64 0, .int .i64 0, .int .i64 0, .int .i64 0, .bool false, .int .i64 0, .int .i64 0, .int .i64 0, .int .i64 0, .int .i64 0, .slice none 0 0, .slice none 0 0, .slice none 0 0] := isTy_of (by kernel_rfl)
theorem fn4 : isFn Tryz.prog 4 := ⟨Tryz.f4, Tryz.func4, rfl, by decide⟩
theorem ty41 : isTy Tryz.prog 41 true 2 32 [.slice none 0 0, .int .i64 0] := isTy_of (by kernel_rfl)
theorem fn5 : isFn Tryz.prog 5 := ⟨Tryz.f5, Tryz.func5, rfl, by decide⟩
theorem fn7 : isFn Tryz.prog 7 := ⟨Tryz.f7, Tryz.func7, rfl, by decide⟩
theorem fn8 : isFn Tryz.prog 8 := ⟨Tryz.f8, Tryz.func8, rfl, by decide⟩
theorem fn6 : isFn Tryz.prog 6 := ⟨Tryz.f6, Tryz.func6, rfl, by decide⟩
theorem fn9 : isFn Tryz.prog 9 := ⟨Tryz.f9, Tryz.func9, rfl, by decide⟩
theorem fn11 : isFn Tryz.prog 11 := ⟨Tryz.f11, Tryz.func11, rfl, by decide⟩
theorem fn12 : isFn Tryz.prog 12 := ⟨Tryz.f12, Tryz.func12, rfl, by decide⟩
theorem fn13 : isFn Tryz.prog 13 := ⟨Tryz.f13, Tryz.func13, rfl, by decide⟩
theorem fn14 : isFn Tryz.prog 14 := ⟨Tryz.f14, Tryz.func14, rfl, by decide⟩
theorem fn16 : isFn Tryz.prog 16 := ⟨Tryz.f16, Tryz.func16, rfl, by decide⟩
theorem laws_szIntS_ok (w : World) {p0 : List Int} {p1 : Int} {a_0 : Option Addr} {n_0 c_0 : Nat} {r : Int} (H : laws_szIntS p0 p1 = some r)  (g0 : (eList eI 3).rd w [] p0 [.slice a_0 n_0 c_0]) :
    Calls Tryz.prog 20 #[.slice a_0 n_0 c_0, .int .i64 p1] w (fun en w' => en = .returned (.int .i64 r) ∧ Ext [] w w') := by
 obtain rfl := rd_n g0
 unfold laws_szIntS at H
 refine f_enter Tryz.func20 rfl Tryz.ntmps20 rfl (St.init w []) <| sR <| oP rfl <| nR <| ow_batch [.p, .p, .lenS 39 3 sl39, .p, .p] rfl <| nQ <| c_seq <| sR <| oPP rfl <| nQ <| cI H rfl (fun H => ?_) (fun H => ?_)
 ·exact sR <| oP rfl <| nT <| x_qs_ret <| xr 4 rfl (by cases H; exact q1)
 ·exact c_skip <| x_qs <| sR <| oPP rfl <| nT <| xr 4 rfl (by cases H; exact q1)
theorem laws_szStringS_ok (w : World) {p0 : List (List UInt8)} {p1 : Int} {a_0 : Option Addr} {n_0 c_0 : Nat} {r : Int} (H : laws_szStringS p0 p1 = some r)  (g0 : (eList (eStr) 9).rd w [] p0 [.slice a_0 n_0 c_0]) :
    Calls Tryz.prog 64 #[.slice a_0 n_0 c_0, .int .i64 p1] w (fun en w' => en = .returned (.int .i64 r) ∧ Ext [] w w') := by
 obtain rfl := rd_n g0
 unfold laws_szStringS at H
 refine f_enter Tryz.func64 rfl Tryz.ntmps64 rfl (St.init w []) <| sR <| oP rfl <| nR <| ow_batch [.p, .p, .lenS 23 9 sl23, .p, .p] rfl <| nQ <| c_seq <| sR <| oPP rfl <| nQ <| cI H rfl (fun H => ?_) (fun H => ?_)
 ·exact sR <| oP rfl <| nT <| x_qs_ret <| xr 4 rfl (by cases H; exact q1)
 ·refine c_skip <| x_qs <| c_seq <| sR <| oP rfl <| nQ <| c_block <| CW.at (loopI2 (fun (i14 : Int) (i15 : Int) => St w [] []) (fun i14 i15 => [(0, .slice a_0 p0.length c_0), (1, .int .i64 i14), (5, .int .i64 i15)]) (fun kk => fun i14 i15 => laws_szStringS_L1 p0 kk i14 i15 = some r) (fun _ _ H => ?_) (fun k1 ihk1 i14 i15 H => ?_) Fuel (IntKind.i64.wrap (p1 - (p0.length : Int))) (0) (H)) (fun _ h => St.sel [] rfl rfl h) ⟨rfl, rfl, rfl,  trivial⟩
  ·unfold laws_szStringS_L1 at H
   exact absurd H (by simp)
  ·unfold laws_szStringS_L1 at H
   refine c_seq <| sR <| ow_batch [.p, .p, .lenS 23 9 sl23, .p] rfl <| nQ <| cI H rfl (fun H => ?_) (fun H => ?_)
   ·refine c_skip <| x_qs <| c_seq <| c_block <| sR <| ow_batch [.p, .p, .p] rfl <| bE H fun e20 h21 H => ow_ixE (e := eStr) (xs := p0) (j := i15) rfl rfl rfl rfl rfl sl23 ty9 rfl (fun w1 hw1 => rds_bor g0 w1 hw1) h21 (by rw [Nat.mul_one]) <| o1 rfl (ry_load1 rfl rfl ty9 (at_elV (fun w1 hw1 => rds_bor g0 w1 hw1) h21)) <| ow_batch [.lenT 9 st9, .p, .p] rfl <| nR <| oPP rfl <| nQ <| cI H rfl (fun H => ?_) (fun H => ?_)
    ·exact sR <| oP rfl <| nT <| x_qb_ret <| x_qs_ret <| x_ql_ret <| x_qb_ret <| x_qs_ret <| xr 4 rfl (by cases H; exact q1)
    ·exact c_skip <| x_qb <| x_qs <| c_reg <| ow_batch [.p, .p, .p] rfl <| ow_nil <| x_ql (RW.at (ihk1 (IntKind.i64.wrap (i14 - (e20.length : Int))) (IntKind.i64.wrap (i15 + 1)) (H)) (fun _ h => St.sel [] rfl rfl h) ⟨rfl, rfl, rfl, trivial⟩)
   ·exact c_exit <| x_qs_exit <| x_ql_exit <| x_qb_here <| x_qs <| sR <| oPP rfl <| nT <| xr 4 rfl (by cases H; exact q1)
theorem laws_szAttr_ok (w : World) {p0 : Tlaws_Attr} {p1 : Int} {cs0 : List Value} {r : Int} (H : laws_szAttr p0 p1 = some r)  (g0 : (eTlaws_Attr).rd w [] p0 cs0) :
    Calls Tryz.prog 100 #[.agg cs0.toArray, .int .i64 p1] w (fun en w' => en = .returned (.int .i64 r) ∧ Ext [] w w') := by
 obtain ⟨c10, c11, c12, rfl, g13, g14, g15⟩ := rdo_Tlaws_Attr g0
 obtain rfl := g13
 obtain ⟨a16, c17, rfl⟩ := rd_sl1 g14
 obtain ⟨a18, c19, rfl⟩ := rd_sl1 g15
 unfold laws_szAttr at H
 refine f_enter Tryz.func100 rfl Tryz.ntmps100 rfl (St.init w []) <| sR <| ob _ rfl fun b20 => oP rfl <| nR <| ow_batch [.p, .fa 156 0 0 fa156_0] rfl <| o1 rfl (r1 0 0 rfl ty9 rfl) <| ow_batch [.lenT 9 st9, .p, .p] rfl <| nQ <| c_seq <| sR <| oPP rfl <| nQ <| cI H rfl (fun H => ?_) (fun H => ?_)
 ·exact sR <| oP rfl <| nT <| x_qs_ret <| xr 4 rfl (by cases H; exact q1)
 ·refine c_skip <| x_qs <| sR <| ow_batch [.fa 156 1 1 fa156_1] rfl <| o1 rfl (r1 1 0 rfl ty39 rfl) <| oP rfl <| bE H fun y21 h22 H => oq rfl (qc rfl fn20 (fun w1 hw1 => laws_szIntS_ok w1  h22 (rds_bor g14 w1 hw1))) tt2 <| oP rfl <| nQ <| c_seq <| sR <| oPP rfl <| nQ <| cI H rfl (fun H => ?_) (fun H => ?_)
  ·exact sR <| oP rfl <| nT <| x_qs_ret <| xr 4 rfl (by cases H; exact q1)
  ·refine c_skip <| x_qs <| sR <| ow_batch [.fa 156 2 2 fa156_2] rfl <| o1 rfl (r1 2 0 rfl ty23 rfl) <| oP rfl <| bE H fun y23 h24 H => oq rfl (qc rfl fn64 (fun w1 hw1 => laws_szStringS_ok w1  h24 (rds_bor g15 w1 hw1))) tt2 <| oP rfl <| nQ <| c_seq <| sR <| oPP rfl <| nQ <| cI H rfl (fun H => ?_) (fun H => ?_)
   ·exact sR <| oP rfl <| nT <| x_qs_ret <| xr 4 rfl (by cases H; exact q1)
   ·exact c_skip <| x_qs <| sR <| oPP rfl <| nT <| xr 4 rfl (by cases H; exact q1)
theorem laws_szAttrS_ok (w : World) {p0 : List Tlaws_Attr} {p1 : Int} {a_0 : Option Addr} {n_0 c_0 : Nat} {r : Int} (H : laws_szAttrS p0 p1 = some r)  (g0 : (eList (eTlaws_Attr) 156).rd w [] p0 [.slice a_0 n_0 c_0]) :
    Calls Tryz.prog 63 #[.slice a_0 n_0 c_0, .int .i64 p1] w (fun en w' => en = .returned (.int .i64 r) ∧ Ext [] w w') := by
 obtain rfl := rd_n g0
 unfold laws_szAttrS at H
 refine f_enter Tryz.func63 rfl Tryz.ntmps63 rfl (St.init w []) <| sR <| oP rfl <| nR <| ow_batch [.p, .p, .lenS 22 156 sl22, .p, .p] rfl <| nQ <| c_seq <| sR <| oPP rfl <| nQ <| cI H rfl (fun H => ?_) (fun H => ?_)
 ·exact sR <| oP rfl <| nT <| x_qs_ret <| xr 4 rfl (by cases H; exact q1)
 ·refine c_skip <| x_qs <| c_seq <| sR <| oP rfl <| nQ <| c_block <| CW.at (loopI2 (fun (i30 : Int) (i31 : Int) => St w [] []) (fun i30 i31 => [(0, .slice a_0 p0.length c_0), (1, .int .i64 i30), (5, .int .i64 i31)]) (fun kk => fun i30 i31 => laws_szAttrS_L1 p0 kk i30 i31 = some r) (fun _ _ H => ?_) (fun k1 ihk1 i30 i31 H => ?_) Fuel (IntKind.i64.wrap (p1 - (p0.length : Int))) (0) (H)) (fun _ h => St.sel [] rfl rfl h) ⟨rfl, rfl, rfl,  trivial⟩
  ·unfold laws_szAttrS_L1 at H
   exact absurd H (by simp)
  ·unfold laws_szAttrS_L1 at H
   refine c_seq <| sR <| ow_batch [.p, .p, .lenS 22 156 sl22, .p] rfl <| nQ <| cI H rfl (fun H => ?_) (fun H => ?_)
   ·refine c_skip <| x_qs <| c_seq <| c_block <| sR <| oPP rfl <| bE H fun e52 h53 H => ow_ixB rfl rfl rfl rfl rfl sl22 ty156 rfl g0 h53 fun q56 c57 hd54 hA55 => ?_
    obtain ⟨c58, c59, c60, rfl, g61, g62, g63⟩ := rdo_Tlaws_Attr hd54
    obtain rfl := g61
    obtain ⟨a64, c65, rfl⟩ := rd_sl1 g62
    obtain ⟨a66, c67, rfl⟩ := rd_sl1 g63
    refine o1 rfl (ry_load (cs := [vS e52.Name_, .slice a64 e52.Cuts_.length c65, .slice a66 e52.Values_.length c67]) rfl rfl ty156 (at_bor bor hA55) rfl) <| oP rfl <| bE H fun y68 h69 H => oq rfl (qc rfl fn100 (fun w1 hw1 => laws_szAttr_ok w1 h69 (rdm_Tlaws_Attr rfl (rds_bor g62 w1 hw1) (rds_bor g63 w1 hw1)))) tt2 <| oP rfl <| nR <| oPP rfl <| nQ <| cI H rfl (fun H => ?_) (fun H => ?_)
    ·exact sR <| oP rfl <| nT <| x_qb_ret <| x_qs_ret <| x_ql_ret <| x_qb_ret <| x_qs_ret <| xr 4 rfl (by cases H; exact q1)
    ·exact c_skip <| x_qb <| x_qs <| c_reg <| ow_batch [.p, .p, .p] rfl <| ow_nil <| x_ql (RW.at (ihk1 (y68) (IntKind.i64.wrap (i31 + 1)) (H)) (fun _ h => St.sel [] rfl rfl h) ⟨rfl, rfl, rfl, trivial⟩)
   ·exact c_exit <| x_qs_exit <| x_ql_exit <| x_qb_here <| x_qs <| sR <| oPP rfl <| nT <| xr 4 rfl (by cases H; exact q1)
theorem laws_szSchema_ok (w : World) {p0 : Tlaws_Schema} {p1 : Int} {cs0 : List Value} {r : Int} (H : laws_szSchema p0 p1 = some r)  (g0 : (eTlaws_Schema).rd w [] p0 cs0) :
    Calls Tryz.prog 33 #[.agg cs0.toArray, .int .i64 p1] w (fun en w' => en = .returned (.int .i64 r) ∧ Ext [] w w') := by
 obtain ⟨c10, c11, rfl, g12, g13⟩ := rdo_Tlaws_Schema g0
 obtain ⟨a14, c15, rfl⟩ := rd_sl1 g12
 obtain ⟨a16, c17, rfl⟩ := rd_sl1 g13
 unfold laws_szSchema at H
 refine f_enter Tryz.func33 rfl Tryz.ntmps33 rfl (St.init w []) <| sR <| ob _ rfl fun b18 => oP rfl <| nR <| ow_batch [.fa 25 0 0 fa25_0] rfl <| o1 rfl (r1 0 0 rfl ty22 rfl) <| oP rfl <| bE H fun y19 h20 H => oq rfl (qc rfl fn63 (fun w1 hw1 => laws_szAttrS_ok w1  h20 (rds_bor g12 w1 hw1))) tt2 <| oP rfl <| nQ <| c_seq <| sR <| oPP rfl <| nQ <| cI H rfl (fun H => ?_) (fun H => ?_)
 ·exact sR <| oP rfl <| nT <| x_qs_ret <| xr 4 rfl (by cases H; exact q1)
 ·refine c_skip <| x_qs <| sR <| ow_batch [.fa 25 1 1 fa25_1] rfl <| o1 rfl (r1 1 0 rfl ty23 rfl) <| oP rfl <| bE H fun y21 h22 H => oq rfl (qc rfl fn64 (fun w1 hw1 => laws_szStringS_ok w1  h22 (rds_bor g13 w1 hw1))) tt2 <| oP rfl <| nQ <| c_seq <| sR <| oPP rfl <| nQ <| cI H rfl (fun H => ?_) (fun H => ?_)
  ·exact sR <| oP rfl <| nT <| x_qs_ret <| xr 4 rfl (by cases H; exact q1)
  ·exact c_skip <| x_qs <| sR <| oPP rfl <| nT <| xr 4 rfl (by cases H; exact q1)
theorem laws_szConf_ok (w : World) {p0 : Tlaws_Conf} {p1 : Int} {cs0 : List Value} {r : Int} (H : laws_szConf p0 p1 = some r)  (g0 : (eTlaws_Conf).rd w [] p0 cs0) :
    Calls Tryz.prog 17 #[.agg cs0.toArray, .int .i64 p1] w (fun en w' => en = .returned (.int .i64 r) ∧ Ext [] w w') := by
 obtain ⟨c10, c11, c12, c13, c14, c15, c16, rfl, g17, g18, g19, g20, g21, g22, g23⟩ := rdo_Tlaws_Conf g0
 obtain ⟨c24, c25, rfl, g26, g27⟩ := rdo_Tlaws_Schema g17
 obtain ⟨a28, c29, rfl⟩ := rd_sl1 g26
 obtain ⟨a30, c31, rfl⟩ := rd_sl1 g27
 obtain rfl := g18
 obtain rfl := g19
 obtain rfl := g20
 obtain rfl := g21
 obtain rfl := g22
 obtain rfl := g23
 unfold laws_szConf at H
 refine f_enter Tryz.func17 rfl Tryz.ntmps17 rfl (St.init w []) <| sR <| ob _ rfl fun b32 => oP rfl <| nR <| ow_batch [.fa 29 0 0 fa29_0] rfl <| o1 rfl (rx 0 0 _ rfl ty25 rfl) <| oP rfl <| bE H fun y33 h34 H => oq rfl (qc rfl fn33 (fun w1 hw1 => laws_szSchema_ok w1 h34 (rdm_Tlaws_Schema (rds_bor g26 w1 hw1) (rds_bor g27 w1 hw1)))) tt2 <| oP rfl <| nQ <| c_seq <| sR <| oPP rfl <| nQ <| cI H rfl (fun H => ?_) (fun H => ?_)
 ·exact sR <| oP rfl <| nT <| x_qs_ret <| xr 4 rfl (by cases H; exact q1)
 ·exact c_skip <| x_qs <| sR <| oPP rfl <| nT <| xr 4 rfl (by cases H; exact q1)
theorem laws_szIntSS_ok (w : World) {p0 : List (List Int)} {p1 : Int} {a_0 : Option Addr} {n_0 c_0 : Nat} {r : Int} (H : laws_szIntSS p0 p1 = some r)  (g0 : (eList (eList eI 3) 39).rd w [] p0 [.slice a_0 n_0 c_0]) :
    Calls Tryz.prog 35 #[.slice a_0 n_0 c_0, .int .i64 p1] w (fun en w' => en = .returned (.int .i64 r) ∧ Ext [] w w') := by
 obtain rfl := rd_n g0
 unfold laws_szIntSS at H
 refine f_enter Tryz.func35 rfl Tryz.ntmps35 rfl (St.init w []) <| sR <| oP rfl <| nR <| ow_batch [.p, .p, .lenS 33 39 sl33, .p, .p] rfl <| nQ <| c_seq <| sR <| oPP rfl <| nQ <| cI H rfl (fun H => ?_) (fun H => ?_)
 ·exact sR <| oP rfl <| nT <| x_qs_ret <| xr 4 rfl (by cases H; exact q1)
 ·refine c_skip <| x_qs <| c_seq <| sR <| oP rfl <| nQ <| c_block <| CW.at (loopI2 (fun (i22 : Int) (i23 : Int) => St w [] []) (fun i22 i23 => [(0, .slice a_0 p0.length c_0), (1, .int .i64 i22), (5, .int .i64 i23)]) (fun kk => fun i22 i23 => laws_szIntSS_L1 p0 kk i22 i23 = some r) (fun _ _ H => ?_) (fun k1 ihk1 i22 i23 H => ?_) Fuel (IntKind.i64.wrap (p1 - (p0.length : Int))) (0) (H)) (fun _ h => St.sel [] rfl rfl h) ⟨rfl, rfl, rfl,  trivial⟩
  ·unfold laws_szIntSS_L1 at H
   exact absurd H (by simp)
  ·unfold laws_szIntSS_L1 at H
   refine c_seq <| sR <| ow_batch [.p, .p, .lenS 33 39 sl33, .p] rfl <| nQ <| cI H rfl (fun H => ?_) (fun H => ?_)
   ·refine c_skip <| x_qs <| c_seq <| c_block <| sR <| oPP rfl <| bE H fun e36 h37 H => ow_ixB rfl rfl rfl rfl rfl sl33 ty39 rfl g0 h37 fun q40 c41 hd38 hA39 => ?_
    obtain ⟨a42, c43, rfl⟩ := rd_sl1 hd38
    refine o1 rfl (ry_load1 rfl rfl ty39 (at_bor bor hA39)) <| oP rfl <| bE H fun y44 h45 H => oq rfl (qc rfl fn20 (fun w1 hw1 => laws_szIntS_ok w1  h45 (rds_bor hd38 w1 hw1))) tt2 <| oP rfl <| nR <| oPP rfl <| nQ <| cI H rfl (fun H => ?_) (fun H => ?_)
    ·exact sR <| oP rfl <| nT <| x_qb_ret <| x_qs_ret <| x_ql_ret <| x_qb_ret <| x_qs_ret <| xr 4 rfl (by cases H; exact q1)
    ·exact c_skip <| x_qb <| x_qs <| c_reg <| ow_batch [.p, .p, .p] rfl <| ow_nil <| x_ql (RW.at (ihk1 (y44) (IntKind.i64.wrap (i23 + 1)) (H)) (fun _ h => St.sel [] rfl rfl h) ⟨rfl, rfl, rfl, trivial⟩)
   ·exact c_exit <| x_qs_exit <| x_ql_exit <| x_qb_here <| x_qs <| sR <| oPP rfl <| nT <| xr 4 rfl (by cases H; exact q1)
theorem laws_szStats_ok (w : World) {p0 : Tlaws_Stats} {p1 : Int} {cs0 : List Value} {r : Int} (H : laws_szStats p0 p1 = some r)  (g0 : (eTlaws_Stats).rd w [] p0 cs0) :
    Calls Tryz.prog 177 #[.agg cs0.toArray, .int .i64 p1] w (fun en w' => en = .returned (.int .i64 r) ∧ Ext [] w w') := by
 obtain ⟨c10, c11, rfl, g12, g13⟩ := rdo_Tlaws_Stats g0
 obtain ⟨a14, c15, rfl⟩ := rd_sl1 g12
 obtain ⟨a16, c17, rfl⟩ := rd_sl1 g13
 unfold laws_szStats at H
 refine f_enter Tryz.func177 rfl Tryz.ntmps177 rfl (St.init w []) <| sR <| ob _ rfl fun b18 => oP rfl <| nR <| ow_batch [.fa 203 0 0 fa203_0] rfl <| o1 rfl (r1 0 0 rfl ty39 rfl) <| oP rfl <| bE H fun y19 h20 H => oq rfl (qc rfl fn20 (fun w1 hw1 => laws_szIntS_ok w1  h20 (rds_bor g12 w1 hw1))) tt2 <| oP rfl <| nQ <| c_seq <| sR <| oPP rfl <| nQ <| cI H rfl (fun H => ?_) (fun H => ?_)
 ·exact sR <| oP rfl <| nT <| x_qs_ret <| xr 4 rfl (by cases H; exact q1)
 ·refine c_skip <| x_qs <| sR <| ow_batch [.fa 203 1 1 fa203_1] rfl <| o1 rfl (r1 1 0 rfl ty33 rfl) <| oP rfl <| bE H fun y21 h22 H => oq rfl (qc rfl fn35 (fun w1 hw1 => laws_szIntSS_ok w1  h22 (rds_bor g13 w1 hw1))) tt2 <| oP rfl <| nQ <| c_seq <| sR <| oPP rfl <| nQ <| cI H rfl (fun H => ?_) (fun H => ?_)
  ·exact sR <| oP rfl <| nT <| x_qs_ret <| xr 4 rfl (by cases H; exact q1)
  ·exact c_skip <| x_qs <| sR <| oPP rfl <| nT <| xr 4 rfl (by cases H; exact q1)
theorem laws_szNode_ok (w : World) {p0 : Tlaws_Node} {p1 : Int} {cs0 : List Value} {r : Int} (H : laws_szNode p0 p1 = some r)  (g0 : (eTlaws_Node).rd w [] p0 cs0) :
    Calls Tryz.prog 157 #[.agg cs0.toArray, .int .i64 p1] w (fun en w' => en = .returned (.int .i64 r) ∧ Ext [] w w') := by
 obtain ⟨c10, c11, c12, c13, c14, c15, c16, c17, c18, c19, rfl, g20, g21, g22, g23, g24, g25, g26, g27, g28, g29⟩ := rdo_Tlaws_Node g0
 obtain rfl := g20
 obtain rfl := g21
 obtain ⟨a30, c31, rfl⟩ := rd_sl1 g22
 obtain rfl := g23
 obtain ⟨c32, c33, rfl, g34, g35⟩ := rdo_Tlaws_Stats g24
 obtain ⟨a36, c37, rfl⟩ := rd_sl1 g34
 obtain ⟨a38, c39, rfl⟩ := rd_sl1 g35
 obtain rfl := g25
 obtain ⟨a40, c41, rfl⟩ := rd_sl1 g26
 obtain rfl := g27
 obtain rfl := g28
 obtain rfl := g29
 unfold laws_szNode at H
 refine f_enter Tryz.func157 rfl Tryz.ntmps157 rfl (St.init w []) <| sR <| ob _ rfl fun b42 => oP rfl <| nR <| ow_batch [.fa 205 2 3 fa205_2] rfl <| o1 rfl (r1 3 0 rfl ty39 rfl) <| oP rfl <| bE H fun y43 h44 H => oq rfl (qc rfl fn20 (fun w1 hw1 => laws_szIntS_ok w1  h44 (rds_bor g22 w1 hw1))) tt2 <| oP rfl <| nQ <| c_seq <| sR <| oPP rfl <| nQ <| cI H rfl (fun H => ?_) (fun H => ?_)
 ·exact sR <| oP rfl <| nT <| x_qs_ret <| xr 4 rfl (by cases H; exact q1)
 ·refine c_skip <| x_qs <| sR <| ow_batch [.fa 205 4 5 fa205_4] rfl <| o1 rfl (rx 5 0 _ rfl ty203 rfl) <| oP rfl <| bE H fun y45 h46 H => oq rfl (qc rfl fn177 (fun w1 hw1 => laws_szStats_ok w1 h46 (rdm_Tlaws_Stats (rds_bor g34 w1 hw1) (rds_bor g35 w1 hw1)))) tt2 <| oP rfl <| nQ <| c_seq <| sR <| oPP rfl <| nQ <| cI H rfl (fun H => ?_) (fun H => ?_)
  ·exact sR <| oP rfl <| nT <| x_qs_ret <| xr 4 rfl (by cases H; exact q1)
  ·refine c_skip <| x_qs <| sR <| ow_batch [.fa 205 6 8 fa205_6] rfl <| o1 rfl (r1 8 0 rfl ty39 rfl) <| oP rfl <| bE H fun y47 h48 H => oq rfl (qc rfl fn20 (fun w1 hw1 => laws_szIntS_ok w1  h48 (rds_bor g26 w1 hw1))) tt2 <| oP rfl <| nQ <| c_seq <| sR <| oPP rfl <| nQ <| cI H rfl (fun H => ?_) (fun H => ?_)
   ·exact sR <| oP rfl <| nT <| x_qs_ret <| xr 4 rfl (by cases H; exact q1)
   ·exact c_skip <| x_qs <| sR <| oPP rfl <| nT <| xr 4 rfl (by cases H; exact q1)
theorem laws_szNodeS_ok (w : World) {p0 : List Tlaws_Node} {p1 : Int} {a_0 : Option Addr} {n_0 c_0 : Nat} {r : Int} (H : laws_szNodeS p0 p1 = some r)  (g0 : (eList (eTlaws_Node) 205).rd w [] p0 [.slice a_0 n_0 c_0]) :
    Calls Tryz.prog 133 #[.slice a_0 n_0 c_0, .int .i64 p1] w (fun en w' => en = .returned (.int .i64 r) ∧ Ext [] w w') := by
 obtain rfl := rd_n g0
 unfold laws_szNodeS at H
 refine f_enter Tryz.func133 rfl Tryz.ntmps133 rfl (St.init w []) <| sR <| oP rfl <| nR <| ow_batch [.p, .p, .lenS 119 205 sl119, .p, .p] rfl <| nQ <| c_seq <| sR <| oPP rfl <| nQ <| cI H rfl (fun H => ?_) (fun H => ?_)
 ·exact sR <| oP rfl <| nT <| x_qs_ret <| xr 4 rfl (by cases H; exact q1)
 ·refine c_skip <| x_qs <| c_seq <| sR <| oP rfl <| nQ <| c_block <| CW.at (loopI2 (fun (i52 : Int) (i53 : Int) => St w [] []) (fun i52 i53 => [(0, .slice a_0 p0.length c_0), (1, .int .i64 i52), (5, .int .i64 i53)]) (fun kk => fun i52 i53 => laws_szNodeS_L1 p0 kk i52 i53 = some r) (fun _ _ H => ?_) (fun k1 ihk1 i52 i53 H => ?_) Fuel (IntKind.i64.wrap (p1 - (p0.length : Int))) (0) (H)) (fun _ h => St.sel [] rfl rfl h) ⟨rfl, rfl, rfl,  trivial⟩
  ·unfold laws_szNodeS_L1 at H
   exact absurd H (by simp)
  ·unfold laws_szNodeS_L1 at H
   refine c_seq <| sR <| ow_batch [.p, .p, .lenS 119 205 sl119, .p] rfl <| nQ <| cI H rfl (fun H => ?_) (fun H => ?_)
   ·refine c_skip <| x_qs <| c_seq <| c_block <| sR <| oPP rfl <| bE H fun e96 h97 H => ow_ixB rfl rfl rfl rfl rfl sl119 ty205 rfl g0 h97 fun q100 c101 hd98 hA99 => ?_
    obtain ⟨c102, c103, c104, c105, c106, c107, c108, c109, c110, c111, rfl, g112, g113, g114, g115, g116, g117, g118, g119, g120, g121⟩ := rdo_Tlaws_Node hd98
    obtain rfl := g112
    obtain rfl := g113
    obtain ⟨a122, c123, rfl⟩ := rd_sl1 g114
    obtain rfl := g115
    obtain ⟨c124, c125, rfl, g126, g127⟩ := rdo_Tlaws_Stats g116
    obtain ⟨a128, c129, rfl⟩ := rd_sl1 g126
    obtain ⟨a130, c131, rfl⟩ := rd_sl1 g127
    obtain rfl := g117
    obtain ⟨a132, c133, rfl⟩ := rd_sl1 g118
    obtain rfl := g119
    obtain rfl := g120
    obtain rfl := g121
    refine o1 rfl (ry_load (cs := [.bool e96.Leaf_, .int .i64 e96.Fork_.Attr_, .int .i64 e96.Fork_.At_, .slice a122 e96.Kids_.length c123, .int .i64 e96.Miss_, .slice a128 e96.Stats_.Totals_.length c129, .slice a130 e96.Stats_.Cells_.length c131, .int .i64 e96.Since_, .slice a132 e96.Attrs_.length c133, .int .i64 e96.Depth_, .int .i64 e96.Up_, .int .i64 e96.Born_]) rfl rfl ty205 (at_bor bor hA99) rfl) <| oP rfl <| bE H fun y134 h135 H => oq rfl (qc rfl fn157 (fun w1 hw1 => laws_szNode_ok w1 h135 (rdm_Tlaws_Node rfl rfl (rds_bor g114 w1 hw1) rfl (rdm_Tlaws_Stats (rds_bor g126 w1 hw1) (rds_bor g127 w1 hw1)) rfl (rds_bor g118 w1 hw1) rfl rfl rfl))) tt2 <| oP rfl <| nR <| oPP rfl <| nQ <| cI H rfl (fun H => ?_) (fun H => ?_)
    ·exact sR <| oP rfl <| nT <| x_qb_ret <| x_qs_ret <| x_ql_ret <| x_qb_ret <| x_qs_ret <| xr 4 rfl (by cases H; exact q1)
    ·exact c_skip <| x_qb <| x_qs <| c_reg <| ow_batch [.p, .p, .p] rfl <| ow_nil <| x_ql (RW.at (ihk1 (y134) (IntKind.i64.wrap (i53 + 1)) (H)) (fun _ h => St.sel [] rfl rfl h) ⟨rfl, rfl, rfl, trivial⟩)
   ·exact c_exit <| x_qs_exit <| x_ql_exit <| x_qb_here <| x_qs <| sR <| oPP rfl <| nT <| xr 4 rfl (by cases H; exact q1)
theorem laws_szTree_ok (w : World) {p0 : Tlaws_Tree} {p1 : Int} {cs0 : List Value} {r : Int} (H : laws_szTree p0 p1 = some r)  (g0 : (eTlaws_Tree).rd w [] p0 cs0) :
    Calls Tryz.prog 101 #[.agg cs0.toArray, .int .i64 p1] w (fun en w' => en = .returned (.int .i64 r) ∧ Ext [] w w') := by
 obtain ⟨c10, c11, rfl, g12, g13⟩ := rdo_Tlaws_Tree g0
 obtain ⟨a14, c15, rfl⟩ := rd_sl1 g12
 obtain rfl := g13
 unfold laws_szTree at H
 refine f_enter Tryz.func101 rfl Tryz.ntmps101 rfl (St.init w []) <| sR <| ob _ rfl fun b16 => oP rfl <| nR <| ow_batch [.fa 121 0 0 fa121_0] rfl <| o1 rfl (r1 0 0 rfl ty119 rfl) <| oP rfl <| bE H fun y17 h18 H => oq rfl (qc rfl fn133 (fun w1 hw1 => laws_szNodeS_ok w1  h18 (rds_bor g12 w1 hw1))) tt2 <| oP rfl <| nQ <| c_seq <| sR <| oPP rfl <| nQ <| cI H rfl (fun H => ?_) (fun H => ?_)
 ·exact sR <| oP rfl <| nT <| x_qs_ret <| xr 4 rfl (by cases H; exact q1)
 ·exact c_skip <| x_qs <| sR <| oPP rfl <| nT <| xr 4 rfl (by cases H; exact q1)
theorem laws_szWindow_ok (w : World) {p0 : Tlaws_Window} {p1 : Int} {cs0 : List Value} {r : Int} (H : laws_szWindow p0 p1 = some r)  (g0 : (eTlaws_Window).rd w [] p0 cs0) :
    Calls Tryz.prog 134 #[.agg cs0.toArray, .int .i64 p1] w (fun en w' => en = .returned (.int .i64 r) ∧ Ext [] w w') := by
 obtain ⟨c10, rfl, g11⟩ := rdo_Tlaws_Window g0
 obtain ⟨a12, c13, rfl⟩ := rd_sl1 g11
 unfold laws_szWindow at H
 refine f_enter Tryz.func134 rfl Tryz.ntmps134 rfl (St.init w []) <| sR <| ob _ rfl fun b14 => oP rfl <| nR <| ow_batch [.fa 122 0 0 fa122_0] rfl <| o1 rfl (r1 0 0 rfl ty33 rfl) <| oP rfl <| bE H fun y15 h16 H => oq rfl (qc rfl fn35 (fun w1 hw1 => laws_szIntSS_ok w1  h16 (rds_bor g11 w1 hw1))) tt2 <| oP rfl <| nQ <| c_seq <| sR <| oPP rfl <| nQ <| cI H rfl (fun H => ?_) (fun H => ?_)
 ·exact sR <| oP rfl <| nT <| x_qs_ret <| xr 4 rfl (by cases H; exact q1)
 ·exact c_skip <| x_qs <| sR <| oPP rfl <| nT <| xr 4 rfl (by cases H; exact q1)
theorem laws_szDet_ok (w : World) {p0 : Tlaws_Det} {p1 : Int} {cs0 : List Value} {r : Int} (H : laws_szDet p0 p1 = some r)  (g0 : (eTlaws_Det).rd w [] p0 cs0) :
    Calls Tryz.prog 102 #[.agg cs0.toArray, .int .i64 p1] w (fun en w' => en = .returned (.int .i64 r) ∧ Ext [] w w') := by
 obtain ⟨c10, c11, rfl, g12, g13⟩ := rdo_Tlaws_Det g0
 obtain ⟨c14, rfl, g15⟩ := rdo_Tlaws_Window g12
 obtain ⟨a16, c17, rfl⟩ := rd_sl1 g15
 obtain ⟨c18, rfl, g19⟩ := rdo_Tlaws_Window g13
 obtain ⟨a20, c21, rfl⟩ := rd_sl1 g19
 unfold laws_szDet at H
 refine f_enter Tryz.func102 rfl Tryz.ntmps102 rfl (St.init w []) <| sR <| ob _ rfl fun b22 => oP rfl <| nR <| ow_batch [.fa 124 0 0 fa124_0] rfl <| o1 rfl (rx 0 0 _ rfl ty122 rfl) <| oP rfl <| bE H fun y23 h24 H => oq rfl (qc rfl fn134 (fun w1 hw1 => laws_szWindow_ok w1 h24 (rdm_Tlaws_Window (rds_bor g15 w1 hw1)))) tt2 <| oP rfl <| nQ <| c_seq <| sR <| oPP rfl <| nQ <| cI H rfl (fun H => ?_) (fun H => ?_)
 ·exact sR <| oP rfl <| nT <| x_qs_ret <| xr 4 rfl (by cases H; exact q1)
 ·refine c_skip <| x_qs <| sR <| ow_batch [.fa 124 1 1 fa124_1] rfl <| o1 rfl (rx 1 0 _ rfl ty122 rfl) <| oP rfl <| bE H fun y25 h26 H => oq rfl (qc rfl fn134 (fun w1 hw1 => laws_szWindow_ok w1 h26 (rdm_Tlaws_Window (rds_bor g19 w1 hw1)))) tt2 <| oP rfl <| nQ <| c_seq <| sR <| oPP rfl <| nQ <| cI H rfl (fun H => ?_) (fun H => ?_)
  ·exact sR <| oP rfl <| nT <| x_qs_ret <| xr 4 rfl (by cases H; exact q1)
  ·exact c_skip <| x_qs <| sR <| oPP rfl <| nT <| xr 4 rfl (by cases H; exact q1)
theorem laws_szMember_ok (w : World) {p0 : Tlaws_Member} {p1 : Int} {cs0 : List Value} {r : Int} (H : laws_szMember p0 p1 = some r)  (g0 : (eTlaws_Member).rd w [] p0 cs0) :
    Calls Tryz.prog 65 #[.agg cs0.toArray, .int .i64 p1] w (fun en w' => en = .returned (.int .i64 r) ∧ Ext [] w w') := by
 obtain ⟨c10, c11, c12, c13, rfl, g14, g15, g16, g17⟩ := rdo_Tlaws_Member g0
 obtain ⟨c18, c19, rfl, g20, g21⟩ := rdo_Tlaws_Tree g14
 obtain ⟨a22, c23, rfl⟩ := rd_sl1 g20
 obtain rfl := g21
 obtain rfl := g15
 obtain ⟨c24, c25, rfl, g26, g27⟩ := rdo_Tlaws_Tree g16
 obtain ⟨a28, c29, rfl⟩ := rd_sl1 g26
 obtain rfl := g27
 obtain ⟨c30, c31, rfl, g32, g33⟩ := rdo_Tlaws_Det g17
 obtain ⟨c34, rfl, g35⟩ := rdo_Tlaws_Window g32
 obtain ⟨a36, c37, rfl⟩ := rd_sl1 g35
 obtain ⟨c38, rfl, g39⟩ := rdo_Tlaws_Window g33
 obtain ⟨a40, c41, rfl⟩ := rd_sl1 g39
 unfold laws_szMember at H
 refine f_enter Tryz.func65 rfl Tryz.ntmps65 rfl (St.init w []) <| sR <| ob _ rfl fun b42 => oP rfl <| nR <| ow_batch [.fa 126 0 0 fa126_0] rfl <| o1 rfl (rx 0 0 _ rfl ty121 rfl) <| oP rfl <| bE H fun y43 h44 H => oq rfl (qc rfl fn101 (fun w1 hw1 => laws_szTree_ok w1 h44 (rdm_Tlaws_Tree (rds_bor g20 w1 hw1) rfl))) tt2 <| oP rfl <| nQ <| c_seq <| sR <| oPP rfl <| nQ <| cI H rfl (fun H => ?_) (fun H => ?_)
 ·exact sR <| oP rfl <| nT <| x_qs_ret <| xr 4 rfl (by cases H; exact q1)
 ·refine c_skip <| x_qs <| sR <| ow_batch [.fa 126 2 3 fa126_2] rfl <| o1 rfl (rx 3 0 _ rfl ty121 rfl) <| oP rfl <| bE H fun y45 h46 H => oq rfl (qc rfl fn101 (fun w1 hw1 => laws_szTree_ok w1 h46 (rdm_Tlaws_Tree (rds_bor g26 w1 hw1) rfl))) tt2 <| oP rfl <| nQ <| c_seq <| sR <| oPP rfl <| nQ <| cI H rfl (fun H => ?_) (fun H => ?_)
  ·exact sR <| oP rfl <| nT <| x_qs_ret <| xr 4 rfl (by cases H; exact q1)
  ·refine c_skip <| x_qs <| sR <| ow_batch [.fa 126 3 5 fa126_3] rfl <| o1 rfl (rx 5 0 _ rfl ty124 rfl) <| oP rfl <| bE H fun y47 h48 H => oq rfl (qc rfl fn102 (fun w1 hw1 => laws_szDet_ok w1 h48 (rdm_Tlaws_Det (rdm_Tlaws_Window (rds_bor g35 w1 hw1)) (rdm_Tlaws_Window (rds_bor g39 w1 hw1))))) tt2 <| oP rfl <| nQ <| c_seq <| sR <| oPP rfl <| nQ <| cI H rfl (fun H => ?_) (fun H => ?_)
   ·exact sR <| oP rfl <| nT <| x_qs_ret <| xr 4 rfl (by cases H; exact q1)
   ·exact c_skip <| x_qs <| sR <| oPP rfl <| nT <| xr 4 rfl (by cases H; exact q1)
theorem laws_szMemberS_ok (w : World) {p0 : List Tlaws_Member} {p1 : Int} {a_0 : Option Addr} {n_0 c_0 : Nat} {r : Int} (H : laws_szMemberS p0 p1 = some r)  (g0 : (eList (eTlaws_Member) 126).rd w [] p0 [.slice a_0 n_0 c_0]) :
    Calls Tryz.prog 34 #[.slice a_0 n_0 c_0, .int .i64 p1] w (fun en w' => en = .returned (.int .i64 r) ∧ Ext [] w w') := by
 obtain rfl := rd_n g0
 unfold laws_szMemberS at H
 refine f_enter Tryz.func34 rfl Tryz.ntmps34 rfl (St.init w []) <| sR <| oP rfl <| nR <| ow_batch [.p, .p, .lenS 30 126 sl30, .p, .p] rfl <| nQ <| c_seq <| sR <| oPP rfl <| nQ <| cI H rfl (fun H => ?_) (fun H => ?_)
 ·exact sR <| oP rfl <| nT <| x_qs_ret <| xr 4 rfl (by cases H; exact q1)
 ·refine c_skip <| x_qs <| c_seq <| sR <| oP rfl <| nQ <| c_block <| CW.at (loopI2 (fun (i52 : Int) (i53 : Int) => St w [] []) (fun i52 i53 => [(0, .slice a_0 p0.length c_0), (1, .int .i64 i52), (5, .int .i64 i53)]) (fun kk => fun i52 i53 => laws_szMemberS_L1 p0 kk i52 i53 = some r) (fun _ _ H => ?_) (fun k1 ihk1 i52 i53 H => ?_) Fuel (IntKind.i64.wrap (p1 - (p0.length : Int))) (0) (H)) (fun _ h => St.sel [] rfl rfl h) ⟨rfl, rfl, rfl,  trivial⟩
  ·unfold laws_szMemberS_L1 at H
   exact absurd H (by simp)
  ·unfold laws_szMemberS_L1 at H
   refine c_seq <| sR <| ow_batch [.p, .p, .lenS 30 126 sl30, .p] rfl <| nQ <| cI H rfl (fun H => ?_) (fun H => ?_)
   ·refine c_skip <| x_qs <| c_seq <| c_block <| sR <| oPP rfl <| bE H fun e96 h97 H => ow_ixB rfl rfl rfl rfl rfl sl30 ty126 rfl g0 h97 fun q100 c101 hd98 hA99 => ?_
    obtain ⟨c102, c103, c104, c105, rfl, g106, g107, g108, g109⟩ := rdo_Tlaws_Member hd98
    obtain ⟨c110, c111, rfl, g112, g113⟩ := rdo_Tlaws_Tree g106
    obtain ⟨a114, c115, rfl⟩ := rd_sl1 g112
    obtain rfl := g113
    obtain rfl := g107
    obtain ⟨c116, c117, rfl, g118, g119⟩ := rdo_Tlaws_Tree g108
    obtain ⟨a120, c121, rfl⟩ := rd_sl1 g118
    obtain rfl := g119
    obtain ⟨c122, c123, rfl, g124, g125⟩ := rdo_Tlaws_Det g109
    obtain ⟨c126, rfl, g127⟩ := rdo_Tlaws_Window g124
    obtain ⟨a128, c129, rfl⟩ := rd_sl1 g127
    obtain ⟨c130, rfl, g131⟩ := rdo_Tlaws_Window g125
    obtain ⟨a132, c133, rfl⟩ := rd_sl1 g131
    refine o1 rfl (ry_load (cs := [.slice a114 e96.Tree_.Nodes_.length c115, .int .i64 e96.Tree_.Seen_, .bool e96.HasYoung_, .slice a120 e96.Young_.Nodes_.length c121, .int .i64 e96.Young_.Seen_, .slice a128 e96.Det_.Warn_.Rows_.length c129, .slice a132 e96.Det_.Drift_.Rows_.length c133]) rfl rfl ty126 (at_bor bor hA99) rfl) <| oP rfl <| bE H fun y134 h135 H => oq rfl (qc rfl fn65 (fun w1 hw1 => laws_szMember_ok w1 h135 (rdm_Tlaws_Member (rdm_Tlaws_Tree (rds_bor g112 w1 hw1) rfl) rfl (rdm_Tlaws_Tree (rds_bor g118 w1 hw1) rfl) (rdm_Tlaws_Det (rdm_Tlaws_Window (rds_bor g127 w1 hw1)) (rdm_Tlaws_Window (rds_bor g131 w1 hw1)))))) tt2 <| oP rfl <| nR <| oPP rfl <| nQ <| cI H rfl (fun H => ?_) (fun H => ?_)
    ·exact sR <| oP rfl <| nT <| x_qb_ret <| x_qs_ret <| x_ql_ret <| x_qb_ret <| x_qs_ret <| xr 4 rfl (by cases H; exact q1)
    ·exact c_skip <| x_qb <| x_qs <| c_reg <| ow_batch [.p, .p, .p] rfl <| ow_nil <| x_ql (RW.at (ihk1 (y134) (IntKind.i64.wrap (i53 + 1)) (H)) (fun _ h => St.sel [] rfl rfl h) ⟨rfl, rfl, rfl, trivial⟩)
   ·exact c_exit <| x_qs_exit <| x_ql_exit <| x_qb_here <| x_qs <| sR <| oPP rfl <| nT <| xr 4 rfl (by cases H; exact q1)
theorem laws_szForest_ok (w : World) {p0 : Tlaws_Forest} {p1 : Int} {cs0 : List Value} {r : Int} (H : laws_szForest p0 p1 = some r)  (g0 : (eTlaws_Forest).rd w [] p0 cs0) :
    Calls Tryz.prog 18 #[.agg cs0.toArray, .int .i64 p1] w (fun en w' => en = .returned (.int .i64 r) ∧ Ext [] w w') := by
 obtain ⟨c10, rfl, g11⟩ := rdo_Tlaws_Forest g0
 obtain ⟨a12, c13, rfl⟩ := rd_sl1 g11
 unfold laws_szForest at H
 refine f_enter Tryz.func18 rfl Tryz.ntmps18 rfl (St.init w []) <| sR <| ob _ rfl fun b14 => oP rfl <| nR <| ow_batch [.fa 32 0 0 fa32_0] rfl <| o1 rfl (r1 0 0 rfl ty30 rfl) <| oP rfl <| bE H fun y15 h16 H => oq rfl (qc rfl fn34 (fun w1 hw1 => laws_szMemberS_ok w1  h16 (rds_bor g11 w1 hw1))) tt2 <| oP rfl <| nQ <| c_seq <| sR <| oPP rfl <| nQ <| cI H rfl (fun H => ?_) (fun H => ?_)
 ·exact sR <| oP rfl <| nT <| x_qs_ret <| xr 4 rfl (by cases H; exact q1)
 ·exact c_skip <| x_qs <| sR <| oPP rfl <| nT <| xr 4 rfl (by cases H; exact q1)
theorem laws_szPairS_ok (w : World) {p0 : List Tlaws_Pair} {p1 : Int} {a_0 : Option Addr} {n_0 c_0 : Nat} {r : Int} (H : laws_szPairS p0 p1 = some r)  (g0 : (eList (eTlaws_Pair) 145).rd w [] p0 [.slice a_0 n_0 c_0]) :
    Calls Tryz.prog 36 #[.slice a_0 n_0 c_0, .int .i64 p1] w (fun en w' => en = .returned (.int .i64 r) ∧ Ext [] w w') := by
 obtain rfl := rd_n g0
 unfold laws_szPairS at H
 refine f_enter Tryz.func36 rfl Tryz.ntmps36 rfl (St.init w []) <| sR <| oP rfl <| nR <| ow_batch [.p, .p, .lenS 34 145 sl34, .p, .p] rfl <| nQ <| c_seq <| sR <| oPP rfl <| nQ <| cI H rfl (fun H => ?_) (fun H => ?_)
 ·exact sR <| oP rfl <| nT <| x_qs_ret <| xr 4 rfl (by cases H; exact q1)
 ·exact c_skip <| x_qs <| sR <| oPP rfl <| nT <| xr 4 rfl (by cases H; exact q1)
theorem laws_szScore_ok (w : World) {p0 : Tlaws_Score} {p1 : Int} {cs0 : List Value} {r : Int} (H : laws_szScore p0 p1 = some r)  (g0 : (eTlaws_Score).rd w [] p0 cs0) :
    Calls Tryz.prog 19 #[.agg cs0.toArray, .int .i64 p1] w (fun en w' => en = .returned (.int .i64 r) ∧ Ext [] w w') := by
 obtain ⟨c10, c11, rfl, g12, g13⟩ := rdo_Tlaws_Score g0
 obtain ⟨a14, c15, rfl⟩ := rd_sl1 g12
 obtain ⟨a16, c17, rfl⟩ := rd_sl1 g13
 unfold laws_szScore at H
 refine f_enter Tryz.func19 rfl Tryz.ntmps19 rfl (St.init w []) <| sR <| ob _ rfl fun b18 => oP rfl <| nR <| ow_batch [.fa 36 0 0 fa36_0] rfl <| o1 rfl (r1 0 0 rfl ty33 rfl) <| oP rfl <| bE H fun y19 h20 H => oq rfl (qc rfl fn35 (fun w1 hw1 => laws_szIntSS_ok w1  h20 (rds_bor g12 w1 hw1))) tt2 <| oP rfl <| nQ <| c_seq <| sR <| oPP rfl <| nQ <| cI H rfl (fun H => ?_) (fun H => ?_)
 ·exact sR <| oP rfl <| nT <| x_qs_ret <| xr 4 rfl (by cases H; exact q1)
 ·refine c_skip <| x_qs <| sR <| ow_batch [.fa 36 1 1 fa36_1] rfl <| o1 rfl (r1 1 0 rfl ty34 rfl) <| oP rfl <| bE H fun y21 h22 H => oq rfl (qc rfl fn36 (fun w1 hw1 => laws_szPairS_ok w1  h22 (rds_bor g13 w1 hw1))) tt2 <| oP rfl <| nQ <| c_seq <| sR <| oPP rfl <| nQ <| cI H rfl (fun H => ?_) (fun H => ?_)
  ·exact sR <| oP rfl <| nT <| x_qs_ret <| xr 4 rfl (by cases H; exact q1)
  ·exact c_skip <| x_qs <| sR <| oPP rfl <| nT <| xr 4 rfl (by cases H; exact q1)
theorem laws_szState_ok (w : World) {p0 : Tlaws_State} {p1 : Int} {cs0 : List Value} {r : Int} (H : laws_szState p0 p1 = some r)  (g0 : (eTlaws_State).rd w [] p0 cs0) :
    Calls Tryz.prog 4 #[.agg cs0.toArray, .int .i64 p1] w (fun en w' => en = .returned (.int .i64 r) ∧ Ext [] w w') := by
 obtain ⟨c10, c11, c12, rfl, g13, g14, g15⟩ := rdo_Tlaws_State g0
 obtain ⟨c16, c17, c18, c19, c20, c21, c22, rfl, g23, g24, g25, g26, g27, g28, g29⟩ := rdo_Tlaws_Conf g13
 obtain ⟨c30, c31, rfl, g32, g33⟩ := rdo_Tlaws_Schema g23
 obtain ⟨a34, c35, rfl⟩ := rd_sl1 g32
 obtain ⟨a36, c37, rfl⟩ := rd_sl1 g33
 obtain rfl := g24
 obtain rfl := g25
 obtain rfl := g26
 obtain rfl := g27
 obtain rfl := g28
 obtain rfl := g29
 obtain ⟨c38, rfl, g39⟩ := rdo_Tlaws_Forest g14
 obtain ⟨a40, c41, rfl⟩ := rd_sl1 g39
 obtain ⟨c42, c43, rfl, g44, g45⟩ := rdo_Tlaws_Score g15
 obtain ⟨a46, c47, rfl⟩ := rd_sl1 g44
 obtain ⟨a48, c49, rfl⟩ := rd_sl1 g45
 unfold laws_szState at H
 refine f_enter Tryz.func4 rfl Tryz.ntmps4 rfl (St.init w []) <| sR <| ob _ rfl fun b50 => oP rfl <| nR <| ow_batch [.fa 38 0 0 fa38_0] rfl <| o1 rfl (rx 0 0 _ rfl ty29 rfl) <| oP rfl <| bE H fun y51 h52 H => oq rfl (qc rfl fn17 (fun w1 hw1 => laws_szConf_ok w1 h52 (rdm_Tlaws_Conf (rdm_Tlaws_Schema (rds_bor g32 w1 hw1) (rds_bor g33 w1 hw1)) rfl rfl rfl rfl rfl rfl))) tt2 <| oP rfl <| nQ <| c_seq <| sR <| oPP rfl <| nQ <| cI H rfl (fun H => ?_) (fun H => ?_)
 ·exact sR <| oP rfl <| nT <| x_qs_ret <| xr 4 rfl (by cases H; exact q1)
 ·refine c_skip <| x_qs <| sR <| ow_batch [.fa 38 1 14 fa38_1] rfl <| o1 rfl (rx 14 0 _ rfl ty32 rfl) <| oP rfl <| bE H fun y53 h54 H => oq rfl (qc rfl fn18 (fun w1 hw1 => laws_szForest_ok w1 h54 (rdm_Tlaws_Forest (rds_bor g39 w1 hw1)))) tt2 <| oP rfl <| nQ <| c_seq <| sR <| oPP rfl <| nQ <| cI H rfl (fun H => ?_) (fun H => ?_)
  ·exact sR <| oP rfl <| nT <| x_qs_ret <| xr 4 rfl (by cases H; exact q1)
  ·refine c_skip <| x_qs <| sR <| ow_batch [.fa 38 2 15 fa38_2] rfl <| o1 rfl (rx 15 0 _ rfl ty36 rfl) <| oP rfl <| bE H fun y55 h56 H => oq rfl (qc rfl fn19 (fun w1 hw1 => laws_szScore_ok w1 h56 (rdm_Tlaws_Score (rds_bor g44 w1 hw1) (rds_bor g45 w1 hw1)))) tt2 <| oP rfl <| nQ <| c_seq <| sR <| oPP rfl <| nQ <| cI H rfl (fun H => ?_) (fun H => ?_)
   ·exact sR <| oP rfl <| nT <| x_qs_ret <| xr 4 rfl (by cases H; exact q1)
   ·exact c_skip <| x_qs <| sR <| oPP rfl <| nT <| xr 4 rfl (by cases H; exact q1)
theorem laws_szEx_ok (w : World) {p0 : Tlaws_Ex} {p1 : Int} {cs0 : List Value} {r : Int} (H : laws_szEx p0 p1 = some r)  (g0 : (eTlaws_Ex).rd w [] p0 cs0) :
    Calls Tryz.prog 5 #[.agg cs0.toArray, .int .i64 p1] w (fun en w' => en = .returned (.int .i64 r) ∧ Ext [] w w') := by
 obtain ⟨c10, c11, rfl, g12, g13⟩ := rdo_Tlaws_Ex g0
 obtain ⟨a14, c15, rfl⟩ := rd_sl1 g12
 obtain rfl := g13
 unfold laws_szEx at H
 refine f_enter Tryz.func5 rfl Tryz.ntmps5 rfl (St.init w []) <| sR <| ob _ rfl fun b16 => oP rfl <| nR <| ow_batch [.fa 41 0 0 fa41_0] rfl <| o1 rfl (r1 0 0 rfl ty39 rfl) <| oP rfl <| bE H fun y17 h18 H => oq rfl (qc rfl fn20 (fun w1 hw1 => laws_szIntS_ok w1  h18 (rds_bor g12 w1 hw1))) tt2 <| oP rfl <| nQ <| c_seq <| sR <| oPP rfl <| nQ <| cI H rfl (fun H => ?_) (fun H => ?_)
 ·exact sR <| oP rfl <| nT <| x_qs_ret <| xr 4 rfl (by cases H; exact q1)
 ·exact c_skip <| x_qs <| sR <| oPP rfl <| nT <| xr 4 rfl (by cases H; exact q1)
theorem laws_toIntS_ok (w : World) {M0 : List Nat} {p0 : List Int} {a_0 : Option Addr} {n_0 c_0 : Nat} {r : List Int} (H : laws_toIntS p0 = some r) (HS : St w M0 [] w) (g0 : (eList eI 3).rd w M0 p0 [.slice a_0 n_0 c_0]) :
    Calls Tryz.prog 25 #[.slice a_0 n_0 c_0] w (fun en w' => ∃ v, en = .returned v ∧ ∃ (a0 : Option Addr), ∃ (n0 : Nat), ∃ (c0 : Nat), ∃ (F0 : List Nat), v = .slice a0 n0 c0 ∧ St w M0 [Res.own (eList eI 3) F0 r [.slice a0 n0 c0]] w') := by
 obtain rfl := rd_n g0
 unfold laws_toIntS at H
 refine f_enter Tryz.func25 rfl Tryz.ntmps25 rfl (HS) <| sR <| oP rfl <| nR <| ow_batch [.p, .lenS 39 3 sl39] rfl <| bE H fun l10 h11 H => ow_make (e := eI) (zero := (0 : Int)) rfl rfl rfl rfl rfl rfl sl39 ty3 rfl rfl rfl rfl (fun _ => ⟨rfl, rfl⟩) h11 (fun _ => kp) fun b12 => oP rfl <| nQ <| c_seq <| sR <| oP rfl <| nQ <| c_block <| CW.at (loopI2 (fun (l19 : List Int) (i20 : Int) => St w M0 [Res.own (eList eI 3) [b12] l19 [.slice (some ⟨b12, 0, none⟩) l10.length l10.length]]) (fun l19 i20 => [(0, .slice a_0 p0.length c_0), (3, .slice (some ⟨b12, 0, none⟩) l10.length l10.length), (4, .int .i64 i20)]) (fun kk => fun l19 i20 => laws_toIntS_L1 p0 kk l19 i20 = some r) (fun _ _ H => ?_) (fun k1 ihk1 l19 i20 H => ?_) Fuel (l10) (0) (H)) (fun _ h => St.sel [0] rfl rfl h) ⟨rfl, rfl, rfl,  trivial⟩
 ·unfold laws_toIntS_L1 at H
  exact absurd H (by simp)
 ·unfold laws_toIntS_L1 at H
  refine c_seq <| sR <| ow_batch [.p, .p, .lenS 39 3 sl39, .p] rfl <| nQ <| cI H rfl (fun H => ?_) (fun H => ?_)
  ·exact c_skip <| x_qs <| c_seq <| c_block <| c_reg <| ow_batch [.p, .p, .p, .p] rfl <| bE H fun e27 h28 H => ow_ixE (e := eI) (xs := p0) (j := i20) rfl rfl rfl rfl rfl sl39 ty3 rfl (fun w1 hw1 => rds_bor g0 w1 hw1) h28 (by rw [Nat.mul_one]) <| o1 rfl (ry_load1 rfl rfl ty3 (at_elV (fun w1 hw1 => rds_bor g0 w1 hw1) h28)) <| bE H fun e29 h30 H => ow_ixE (e := eI) (xs := l19) (j := i20) rfl rfl rfl rfl rfl sl39 ty3 rfl (fun w1 hw1 => rds_own (e := eList eI 3) (r := 0) rfl w1 hw1) h30 (by rw [Nat.mul_one]) <| ow_storeV (i := 0) (j := i20) rfl rfl rfl rfl rfl rfl ty3 rfl h30 (fun _ => rfl) kp <| ow_nil <| x_qb <| x_qs <| c_reg <| ow_batch [.p, .p, .p] rfl <| ow_nil <| x_ql (RW.at (ihk1 ((l19.set i20.toNat e27)) (IntKind.i64.wrap (i20 + 1)) (H)) (fun _ h => St.sel [0] rfl rfl h) ⟨rfl, rfl, rfl, trivial⟩)
  ·exact c_exit <| x_qs_exit <| x_ql_exit <| x_qb_here <| x_qs <| sR <| oPP rfl <| nT <| x_retR (rs := [.tmp 2]) (vs := [.slice (some ⟨b12, 0, none⟩) l10.length l10.length]) rfl ⟨rfl, trivial⟩ (fun w' hw' => by
    obtain rfl := of_some H
    exact ⟨_, rfl, (some ⟨b12, 0, none⟩), l10.length, l10.length, [b12], rfl, hw'.sel [0] rfl rfl⟩)
theorem laws_toStringS_ok (w : World) {M0 : List Nat} {p0 : List (List UInt8)} {a_0 : Option Addr} {n_0 c_0 : Nat} {r : List (List UInt8)} (H : laws_toStringS p0 = some r) (HS : St w M0 [] w) (g0 : (eList (eStr) 9).rd w M0 p0 [.slice a_0 n_0 c_0]) :
    Calls Tryz.prog 76 #[.slice a_0 n_0 c_0] w (fun en w' => ∃ v, en = .returned v ∧ ∃ (a0 : Option Addr), ∃ (n0 : Nat), ∃ (c0 : Nat), ∃ (F0 : List Nat), v = .slice a0 n0 c0 ∧ St w M0 [Res.own (eList (eStr) 9) F0 r [.slice a0 n0 c0]] w') := by
 obtain rfl := rd_n g0
 unfold laws_toStringS at H
 refine f_enter Tryz.func76 rfl Tryz.ntmps76 rfl (HS) <| sR <| oP rfl <| nR <| ow_batch [.p, .lenS 23 9 sl23] rfl <| bE H fun l10 h11 H => ow_make (e := eStr) (zero := ([] : List UInt8)) rfl rfl rfl rfl rfl rfl sl23 ty9 rfl rfl rfl rfl (fun _ => ⟨rfl, rfl⟩) h11 (fun _ => kp) fun b12 => oP rfl <| nQ <| c_seq <| sR <| oP rfl <| nQ <| c_block <| CW.at (loopI2 (fun (l19 : List (List UInt8)) (i20 : Int) => St w M0 [Res.own (eList (eStr) 9) [b12] l19 [.slice (some ⟨b12, 0, none⟩) l10.length l10.length]]) (fun l19 i20 => [(0, .slice a_0 p0.length c_0), (3, .slice (some ⟨b12, 0, none⟩) l10.length l10.length), (4, .int .i64 i20)]) (fun kk => fun l19 i20 => laws_toStringS_L1 p0 kk l19 i20 = some r) (fun _ _ H => ?_) (fun k1 ihk1 l19 i20 H => ?_) Fuel (l10) (0) (H)) (fun _ h => St.sel [0] rfl rfl h) ⟨rfl, rfl, rfl,  trivial⟩
 ·unfold laws_toStringS_L1 at H
  exact absurd H (by simp)
 ·unfold laws_toStringS_L1 at H
  refine c_seq <| sR <| ow_batch [.p, .p, .lenS 23 9 sl23, .p] rfl <| nQ <| cI H rfl (fun H => ?_) (fun H => ?_)
  ·exact c_skip <| x_qs <| c_seq <| c_block <| c_reg <| ow_batch [.p, .p, .p, .p] rfl <| bE H fun e27 h28 H => ow_ixE (e := eStr) (xs := p0) (j := i20) rfl rfl rfl rfl rfl sl23 ty9 rfl (fun w1 hw1 => rds_bor g0 w1 hw1) h28 (by rw [Nat.mul_one]) <| o1 rfl (ry_load1 rfl rfl ty9 (at_elV (fun w1 hw1 => rds_bor g0 w1 hw1) h28)) <| bE H fun e29 h30 H => ow_ixE (e := eStr) (xs := l19) (j := i20) rfl rfl rfl rfl rfl sl23 ty9 rfl (fun w1 hw1 => rds_own (e := eList (eStr) 9) (r := 0) rfl w1 hw1) h30 (by rw [Nat.mul_one]) <| ow_storeV (i := 0) (j := i20) rfl rfl rfl rfl rfl rfl ty9 rfl h30 (fun _ => rfl) kp <| ow_nil <| x_qb <| x_qs <| c_reg <| ow_batch [.p, .p, .p] rfl <| ow_nil <| x_ql (RW.at (ihk1 ((l19.set i20.toNat e27)) (IntKind.i64.wrap (i20 + 1)) (H)) (fun _ h => St.sel [0] rfl rfl h) ⟨rfl, rfl, rfl, trivial⟩)
  ·exact c_exit <| x_qs_exit <| x_ql_exit <| x_qb_here <| x_qs <| sR <| oPP rfl <| nT <| x_retR (rs := [.tmp 2]) (vs := [.slice (some ⟨b12, 0, none⟩) l10.length l10.length]) rfl ⟨rfl, trivial⟩ (fun w' hw' => by
    obtain rfl := of_some H
    exact ⟨_, rfl, (some ⟨b12, 0, none⟩), l10.length, l10.length, [b12], rfl, hw'.sel [0] rfl rfl⟩)
theorem laws_toAttr_ok (w : World) {M0 : List Nat} {p0 : Tlaws_Attr} {cs0 : List Value} {r : Timpl_Attr} (H : laws_toAttr p0 = some r) (HS : St w M0 [] w) (g0 : (eTlaws_Attr).rd w M0 p0 cs0) :
    Calls Tryz.prog 113 #[.agg cs0.toArray] w (fun en w' => ∃ v, en = .returned v ∧ ∃ (a0 : Option Addr), ∃ (n0 : Nat), ∃ (c0 : Nat), ∃ (F0 : List Nat), ∃ (a1 : Option Addr), ∃ (n1 : Nat), ∃ (c1 : Nat), ∃ (F1 : List Nat), v = .agg #[vS r.Name_, .slice a0 n0 c0, .slice a1 n1 c1] ∧ St w M0 [Res.own (eList eI 3) F0 r.Cuts_ [.slice a0 n0 c0], Res.own (eList (eStr) 9) F1 r.Values_ [.slice a1 n1 c1]] w') := by
 obtain ⟨c10, c11, c12, rfl, g13, g14, g15⟩ := rdo_Tlaws_Attr g0
 obtain rfl := g13
 obtain ⟨a16, c17, rfl⟩ := rd_sl1 g14
 obtain ⟨a18, c19, rfl⟩ := rd_sl1 g15
 unfold laws_toAttr at H
 refine f_enter Tryz.func113 rfl Tryz.ntmps113 rfl (HS) <| sR <| ob _ rfl fun b20 => ow_alloc rfl rfl rfl rfl ty133 (fun _ => kp) fun b21 => nR <| ow_alloc rfl rfl rfl rfl ty133 (fun _ => kp) fun b22 => nR <| ow_batch [.fa 156 0 0 fa156_0] rfl <| o1 rfl (r1 0 0 rfl ty9 rfl) <| ow_batch [.fa 133 0 0 fa133_0] rfl <| sC 0 [vS p0.Name_] [_, _, _] 2 rfl ty9 rfl <| nR <| ow_batch [.fa 156 1 1 fa156_1] rfl <| o1 rfl (r1 1 0 rfl ty39 rfl) <| bE H fun y23 h24 H => ow_callS rfl fn25 rfl rfl rfl rfl (fun w1 hw1 => laws_toIntS_ok w1  h24 (hw1.carve [] rfl rfl) (rds_bor g14 w1 hw1)) fun v25 w1 w2 hw1 hR27 => ?_
 obtain ⟨a28, n29, c30, F31, rfl, hS26⟩ := hR27
 obtain rfl := own_nS (i := 0) hS26 rfl
 refine ⟨St w M0 [_, _, _, _], hw1.comp [] rfl rfl hS26, fun _ _ => trivial, ?_⟩
 refine ow_batch [.fa 133 1 1 fa133_1] rfl <| sC 1 [.slice a28 y23.length c30] [_, _, _] 2 rfl ty39 rfl <| nR <| ow_batch [.fa 156 2 2 fa156_2] rfl <| o1 rfl (r1 2 0 rfl ty23 rfl) <| bE H fun y32 h33 H => ow_callS rfl fn76 rfl rfl rfl rfl (fun w1 hw1 => laws_toStringS_ok w1  h33 (hw1.carve [] rfl rfl) (rds_bor g15 w1 hw1)) fun v34 w1 w2 hw1 hR36 => ?_
 obtain ⟨a37, n38, c39, F40, rfl, hS35⟩ := hR36
 obtain rfl := own_nS (i := 0) hS35 rfl
 refine ⟨St w M0 [_, _, _, _, _], hw1.comp [] rfl rfl hS35, fun _ _ => trivial, ?_⟩
 exact ow_batch [.fa 133 2 2 fa133_2] rfl <| sC 2 [.slice a37 y32.length c39] [_, _, _] 2 rfl ty23 rfl <| nR <| o1 rfl (rx 0 2 _ rfl ty133 rfl) <| sC 0 [vS p0.Name_, .slice a28 y23.length c30, .slice a37 y32.length c39] [_, _, _] 1 rfl ty133 rfl <| nT <| x_retR (rs := [.cell 2 133]) (vs := [.agg #[vS p0.Name_, .slice a28 y23.length c30, .slice a37 y32.length c39]]) rfl ⟨⟨_, [vS p0.Name_, .slice a28 y23.length c30, .slice a37 y32.length c39], _, _, _, rfl, ty133, (at_box (T := 133) 0 (boxIn (i := 1) rfl) rfl), rfl, rfl⟩, trivial⟩ (fun w' hw' => by
  obtain rfl := of_some H
  exact ⟨_, rfl, a28, y23.length, c30, F31, a37, y32.length, c39, F40, rfl, hw'.sel [3, 4] rfl rfl⟩)
theorem laws_toAttrS_ok (w : World) {M0 : List Nat} {p0 : List Tlaws_Attr} {a_0 : Option Addr} {n_0 c_0 : Nat} {r : List Timpl_Attr} (H : laws_toAttrS p0 = some r) (HS : St w M0 [] w) (g0 : (eList (eTlaws_Attr) 156).rd w M0 p0 [.slice a_0 n_0 c_0]) :
    Calls Tryz.prog 75 #[.slice a_0 n_0 c_0] w (fun en w' => ∃ v, en = .returned v ∧ ∃ (a0 : Option Addr), ∃ (n0 : Nat), ∃ (c0 : Nat), ∃ (F0 : List Nat), v = .slice a0 n0 c0 ∧ St w M0 [Res.own (eList (eTimpl_Attr) 133) F0 r [.slice a0 n0 c0]] w') := by
 obtain rfl := rd_n g0
 unfold laws_toAttrS at H
 refine f_enter Tryz.func75 rfl Tryz.ntmps75 rfl (HS) <| sR <| oP rfl <| nR <| ow_batch [.p, .lenS 22 156 sl22] rfl <| bE H fun l10 h11 H => ow_make (e := eTimpl_Attr) (zero := ((Timpl_Attr.mk [] [] []) : Timpl_Attr)) rfl rfl rfl rfl rfl rfl sl46 ty133 rfl rfl rfl rfl (fun _ => (ownm_Timpl_Attr (x := (Timpl_Attr.mk [] [] [])) (⟨rfl, rfl⟩ : (eStr).own _ [] ([] : List UInt8) _) ((.inl ⟨rfl, rfl, rfl⟩) : (eList eI 3).own _ [] ([] : List Int) _) ((.inl ⟨rfl, rfl, rfl⟩) : (eList (eStr) 9).own _ [] ([] : List (List UInt8)) _))) h11 (fun _ => kp) fun b12 => oP rfl <| nQ <| c_seq <| sR <| oP rfl <| nQ <| c_block <| CW.at (loopI3 (fun (l63 : List Timpl_Attr) (F64 : List Nat) (i65 : Int) => St w M0 [Res.own (eList (eTimpl_Attr) 133) F64 l63 [.slice (some ⟨b12, 0, none⟩) l10.length l10.length]]) (fun l63 F64 i65 => [(0, .slice a_0 p0.length c_0), (3, .slice (some ⟨b12, 0, none⟩) l10.length l10.length), (4, .int .i64 i65)]) (fun kk => fun l63 F64 i65 => laws_toAttrS_L1 p0 kk l63 i65 = some r) (fun _ _ _ H => ?_) (fun k1 ihk1 l63 F64 i65 H => ?_) Fuel (l10) ([b12]) (0) (H)) (fun _ h => St.sel [0] rfl rfl h) ⟨rfl, rfl, rfl,  trivial⟩
 ·unfold laws_toAttrS_L1 at H
  exact absurd H (by simp)
 ·unfold laws_toAttrS_L1 at H
  refine c_seq <| sR <| ow_batch [.p, .p, .lenS 22 156 sl22, .p] rfl <| nQ <| cI H rfl (fun H => ?_) (fun H => ?_)
  ·refine c_skip <| x_qs <| c_seq <| c_block <| c_reg <| ow_batch [.p, .p, .p, .p] rfl <| bE H fun e116 h117 H => ow_ixB rfl rfl rfl rfl rfl sl22 ty156 rfl g0 h117 fun q120 c121 hd118 hA119 => ?_
   obtain ⟨c122, c123, c124, rfl, g125, g126, g127⟩ := rdo_Tlaws_Attr hd118
   obtain rfl := g125
   obtain ⟨a128, c129, rfl⟩ := rd_sl1 g126
   obtain ⟨a130, c131, rfl⟩ := rd_sl1 g127
   refine o1 rfl (ry_load (cs := [vS e116.Name_, .slice a128 e116.Cuts_.length c129, .slice a130 e116.Values_.length c131]) rfl rfl ty156 (at_bor bor hA119) rfl) <| bE H fun y132 h133 H => ow_callS rfl fn113 rfl rfl rfl rfl (fun w1 hw1 => laws_toAttr_ok w1 h133 (hw1.carve [] rfl rfl) (rdm_Tlaws_Attr rfl (rds_bor g126 w1 hw1) (rds_bor g127 w1 hw1))) fun v134 w1 w2 hw1 hR136 => ?_
   obtain ⟨a137, n138, c139, F140, a141, n142, c143, F144, rfl, hS135⟩ := hR136
   obtain rfl := own_nS (i := 0) hS135 rfl
   obtain rfl := own_nS (i := 1) hS135 rfl
   refine ⟨St w M0 [_, _, _], hw1.comp [] rfl rfl hS135, fun _ _ => trivial, ?_⟩
   refine bE H fun e145 h146 H => ow_ex4 rfl (fun w1 hw1 => foc (r := 0) hw1 rfl h146) fun b148 G149 F150 c151 => ow_fact rfl (fun w1 hw1 => hw1.1) fun q147 => ?_
   obtain ⟨ha152, hn153⟩ := q147
   refine ow_st (C' := St w M0 [_, _, _, _, _]) rfl (fun w1 hw1 => hw1.2) <| ow_ex3 rfl (fun w1 hw1 => opn_Timpl_Attr (i := 4) hw1 rfl) fun a155 c156 F157 => ow_ex3 rfl (fun _ h => h) fun a158 c159 F160 => ow_fact rfl (fun w1 hw1 => hw1.1) fun q154 => ?_
   subst q154
   refine ow_st (C' := St w M0 [_, _, _, _, _, _, _]) rfl (fun w1 hw1 => hw1.2) <| ow_ixH rfl rfl rfl rfl rfl sl46 ty133 rfl (holeIn (p := 3) rfl) hn153 ha152 (idx_some h146).1 <| ow_storeH (off := 0) [vS y132.Name_, .slice a137 y132.Cuts_.length c139, .slice a141 y132.Values_.length c143] (p := 3) (c' := [_, _, _]) rfl rfl rfl rfl rfl (by first | rfl | simp only [add_lit, add_add, add_zero]) rfl ty133 rfl rfl (by intro u hu; simp only [List.mem_cons, List.not_mem_nil, or_false] at hu; rcases hu with rfl | rfl | rfl <;> rfl) rfl rfl rfl kp <| ow_nil <| x_qb <| x_qs <| CW.weak (C' := St w M0 [_, _, _, _, _]) ?_ (fun _ h => St.sel [1, 2, 3, 5, 6] rfl rfl h)
   exact c_reg <| ow_batch [.p, .p, .p] rfl <| ow_nil <| xw_ex (fun w1 hw1 => fus_Timpl_Attr (x0 := y132.Name_) [0, 1] hw1 rfl rfl) fun F161 => xw_st (C' := St w M0 [_, _, _, _, _, _]) (fun _ h => h) <| xw_ex (fun w1 hw1 => unf (p := 2) (q := 5) hw1 rfl rfl rfl hn153 ha152) fun F162 => xw_st (C' := St w M0 [_, _, _, _, _, _, _]) (fun _ h => h) <| x_ql (RW.at (ihk1 ((l63.set i65.toNat y132)) (F162) (IntKind.i64.wrap (i65 + 1)) (H)) (fun _ h => St.sel [6] rfl rfl h) ⟨rfl, rfl, rfl, trivial⟩)
  ·exact c_exit <| x_qs_exit <| x_ql_exit <| x_qb_here <| x_qs <| sR <| oPP rfl <| nT <| x_retR (rs := [.tmp 2]) (vs := [.slice (some ⟨b12, 0, none⟩) l10.length l10.length]) rfl ⟨rfl, trivial⟩ (fun w' hw' => by
    obtain rfl := of_some H
    exact ⟨_, rfl, (some ⟨b12, 0, none⟩), l10.length, l10.length, F64, rfl, hw'.sel [0] rfl rfl⟩)
theorem laws_toSchema_ok (w : World) {M0 : List Nat} {p0 : Tlaws_Schema} {cs0 : List Value} {r : Timpl_Schema} (H : laws_toSchema p0 = some r) (HS : St w M0 [] w) (g0 : (eTlaws_Schema).rd w M0 p0 cs0) :
    Calls Tryz.prog 43 #[.agg cs0.toArray] w (fun en w' => ∃ v, en = .returned v ∧ ∃ (a0 : Option Addr), ∃ (n0 : Nat), ∃ (c0 : Nat), ∃ (F0 : List Nat), ∃ (a1 : Option Addr), ∃ (n1 : Nat), ∃ (c1 : Nat), ∃ (F1 : List Nat), v = .agg #[.slice a0 n0 c0, .slice a1 n1 c1] ∧ St w M0 [Res.own (eList (eTimpl_Attr) 133) F0 r.Attrs_ [.slice a0 n0 c0], Res.own (eList (eStr) 9) F1 r.Classes_ [.slice a1 n1 c1]] w') := by
 obtain ⟨c10, c11, rfl, g12, g13⟩ := rdo_Tlaws_Schema g0
 obtain ⟨a14, c15, rfl⟩ := rd_sl1 g12
 obtain ⟨a16, c17, rfl⟩ := rd_sl1 g13
 unfold laws_toSchema at H
 refine f_enter Tryz.func43 rfl Tryz.ntmps43 rfl (HS) <| sR <| ob _ rfl fun b18 => ow_alloc rfl rfl rfl rfl ty48 (fun _ => kp) fun b19 => nR <| ow_alloc rfl rfl rfl rfl ty48 (fun _ => kp) fun b20 => nR <| ow_batch [.fa 25 0 0 fa25_0] rfl <| o1 rfl (r1 0 0 rfl ty22 rfl) <| bE H fun y21 h22 H => ow_callS rfl fn75 rfl rfl rfl rfl (fun w1 hw1 => laws_toAttrS_ok w1  h22 (hw1.carve [] rfl rfl) (rds_bor g12 w1 hw1)) fun v23 w1 w2 hw1 hR25 => ?_
 obtain ⟨a26, n27, c28, F29, rfl, hS24⟩ := hR25
 obtain rfl := own_nS (i := 0) hS24 rfl
 refine ⟨St w M0 [_, _, _, _], hw1.comp [] rfl rfl hS24, fun _ _ => trivial, ?_⟩
 refine ow_batch [.fa 48 0 0 fa48_0] rfl <| sC 0 [.slice a26 y21.length c28] [_, _] 2 rfl ty46 rfl <| nR <| ow_batch [.fa 25 1 1 fa25_1] rfl <| o1 rfl (r1 1 0 rfl ty23 rfl) <| bE H fun y30 h31 H => ow_callS rfl fn76 rfl rfl rfl rfl (fun w1 hw1 => laws_toStringS_ok w1  h31 (hw1.carve [] rfl rfl) (rds_bor g13 w1 hw1)) fun v32 w1 w2 hw1 hR34 => ?_
 obtain ⟨a35, n36, c37, F38, rfl, hS33⟩ := hR34
 obtain rfl := own_nS (i := 0) hS33 rfl
 refine ⟨St w M0 [_, _, _, _, _], hw1.comp [] rfl rfl hS33, fun _ _ => trivial, ?_⟩
 exact ow_batch [.fa 48 1 1 fa48_1] rfl <| sC 1 [.slice a35 y30.length c37] [_, _] 2 rfl ty23 rfl <| nR <| o1 rfl (rx 0 2 _ rfl ty48 rfl) <| sC 0 [.slice a26 y21.length c28, .slice a35 y30.length c37] [_, _] 1 rfl ty48 rfl <| nT <| x_retR (rs := [.cell 2 48]) (vs := [.agg #[.slice a26 y21.length c28, .slice a35 y30.length c37]]) rfl ⟨⟨_, [.slice a26 y21.length c28, .slice a35 y30.length c37], _, _, _, rfl, ty48, (at_box (T := 48) 0 (boxIn (i := 1) rfl) rfl), rfl, rfl⟩, trivial⟩ (fun w' hw' => by
  obtain rfl := of_some H
  exact ⟨_, rfl, a26, y21.length, c28, F29, a35, y30.length, c37, F38, rfl, hw'.sel [3, 4] rfl rfl⟩)
theorem laws_toRule_ok (w : World) {p0 : Tlaws_Rule}  {r : Timpl_Rule} (H : laws_toRule p0 = some r)   :
    Calls Tryz.prog 44 #[.agg #[.int .i64 p0.Sure_, .int .i64 p0.Tie_, .int .i64 p0.Grace_, .int .i64 p0.Depth_, .int .i64 p0.Nodes_, .int .i64 p0.Units_, .bool p0.Two_]] w (fun en w' => en = .returned (.agg #[.int .i64 r.Sure_, .int .i64 r.Tie_, .int .i64 r.Grace_, .int .i64 r.Depth_, .int .i64 r.Nodes_, .int .i64 r.Units_, .bool r.Two_]) ∧ Ext [] w w') := by
 unfold laws_toRule at H
 refine f_enter Tryz.func44 rfl Tryz.ntmps44 rfl (St.init w []) <| sR <| ob _ rfl fun b10 => ow_alloc rfl rfl rfl rfl ty49 (fun _ => kp) fun b11 => nR <| ow_alloc rfl rfl rfl rfl ty49 (fun _ => kp) fun b12 => nR <| ow_batch [.fa 27 0 0 fa27_0] rfl <| o1 rfl (r1 0 0 rfl ty3 rfl) <| ow_batch [.fa 49 0 0 fa49_0] rfl <| sC 0 [.int .i64 p0.Sure_] [_, _, _, _, _, _, _] 2 rfl ty3 rfl <| nR <| ow_batch [.fa 27 1 1 fa27_1] rfl <| o1 rfl (r1 1 0 rfl ty3 rfl) <| ow_batch [.fa 49 1 1 fa49_1] rfl <| sC 1 [.int .i64 p0.Tie_] [_, _, _, _, _, _, _] 2 rfl ty3 rfl <| nR <| ow_batch [.fa 27 2 2 fa27_2] rfl <| o1 rfl (r1 2 0 rfl ty3 rfl) <| ow_batch [.fa 49 2 2 fa49_2] rfl <| sC 2 [.int .i64 p0.Grace_] [_, _, _, _, _, _, _] 2 rfl ty3 rfl <| nR <| ow_batch [.fa 27 3 3 fa27_3] rfl <| o1 rfl (r1 3 0 rfl ty3 rfl) <| ?_
 refine ow_batch [.fa 49 3 3 fa49_3] rfl <| sC 3 [.int .i64 p0.Depth_] [_, _, _, _, _, _, _] 2 rfl ty3 rfl <| nR <| ow_batch [.fa 27 4 4 fa27_4] rfl <| o1 rfl (r1 4 0 rfl ty3 rfl) <| ow_batch [.fa 49 4 4 fa49_4] rfl <| sC 4 [.int .i64 p0.Nodes_] [_, _, _, _, _, _, _] 2 rfl ty3 rfl <| nR <| ow_batch [.fa 27 5 5 fa27_5] rfl <| o1 rfl (r1 5 0 rfl ty3 rfl) <| ow_batch [.fa 49 5 5 fa49_5] rfl <| sC 5 [.int .i64 p0.Units_] [_, _, _, _, _, _, _] 2 rfl ty3 rfl <| nQ <| c_seq <| CW.weak (C' := St w [] [_, _, _]) ?_ (fun _ h => St.sel [0, 1, 2] rfl rfl h)
 exact c_reg <| ow_batch [.fa 27 6 6 fa27_6] rfl <| o1 rfl (r1 6 0 rfl ty4 rfl) <| ow_batch [.fa 49 6 6 fa49_6] rfl <| sC 6 [.bool p0.Two_] [_, _, _, _, _, _, _] 2 rfl ty4 rfl <| nR <| o1 rfl (rx 0 2 _ rfl ty49 rfl) <| sC 0 [.int .i64 p0.Sure_, .int .i64 p0.Tie_, .int .i64 p0.Grace_, .int .i64 p0.Depth_, .int .i64 p0.Nodes_, .int .i64 p0.Units_, .bool p0.Two_] [_, _, _, _, _, _, _] 1 rfl ty49 rfl <| nT <| x_retR (rs := [.cell 2 49]) (vs := [.agg #[.int .i64 p0.Sure_, .int .i64 p0.Tie_, .int .i64 p0.Grace_, .int .i64 p0.Depth_, .int .i64 p0.Nodes_, .int .i64 p0.Units_, .bool p0.Two_]]) rfl ⟨⟨_, [.int .i64 p0.Sure_, .int .i64 p0.Tie_, .int .i64 p0.Grace_, .int .i64 p0.Depth_, .int .i64 p0.Nodes_, .int .i64 p0.Units_, .bool p0.Two_], _, _, _, rfl, ty49, (at_box (T := 49) 0 (boxIn (i := 1) rfl) rfl), rfl, rfl⟩, trivial⟩ (fun w' hw' => by
  obtain rfl := of_some H
  exact ⟨rfl, hw'.ext⟩)
theorem laws_toConf_ok (w : World) {M0 : List Nat} {p0 : Tlaws_Conf} {cs0 : List Value} {r : Timpl_Conf} (H : laws_toConf p0 = some r) (HS : St w M0 [] w) (g0 : (eTlaws_Conf).rd w M0 p0 cs0) :
    Calls Tryz.prog 22 #[.agg cs0.toArray] w (fun en w' => ∃ v, en = .returned v ∧ ∃ (a0 : Option Addr), ∃ (n0 : Nat), ∃ (c0 : Nat), ∃ (F0 : List Nat), ∃ (a1 : Option Addr), ∃ (n1 : Nat), ∃ (c1 : Nat), ∃ (F1 : List Nat), v = .agg #[.slice a0 n0 c0, .slice a1 n1 c1, .int .i64 r.Rule_.Sure_, .int .i64 r.Rule_.Tie_, .int .i64 r.Rule_.Grace_, .int .i64 r.Rule_.Depth_, .int .i64 r.Rule_.Nodes_, .int .i64 r.Rule_.Units_, .bool r.Rule_.Two_, .int .i64 r.Members_, .int .i64 r.Pick_, .int .i64 r.Lambda_, .int .i64 r.Warn_, .int .i64 r.Drift_] ∧ St w M0 [Res.own (eList (eTimpl_Attr) 133) F0 r.Schema_.Attrs_ [.slice a0 n0 c0], Res.own (eList (eStr) 9) F1 r.Schema_.Classes_ [.slice a1 n1 c1]] w') := by
 obtain ⟨c10, c11, c12, c13, c14, c15, c16, rfl, g17, g18, g19, g20, g21, g22, g23⟩ := rdo_Tlaws_Conf g0
 obtain ⟨c24, c25, rfl, g26, g27⟩ := rdo_Tlaws_Schema g17
 obtain ⟨a28, c29, rfl⟩ := rd_sl1 g26
 obtain ⟨a30, c31, rfl⟩ := rd_sl1 g27
 obtain rfl := g18
 obtain rfl := g19
 obtain rfl := g20
 obtain rfl := g21
 obtain rfl := g22
 obtain rfl := g23
 unfold laws_toConf at H
 refine f_enter Tryz.func22 rfl Tryz.ntmps22 rfl (HS) <| sR <| ob _ rfl fun b32 => ow_alloc rfl rfl rfl rfl ty51 (fun _ => kp) fun b33 => nR <| ow_alloc rfl rfl rfl rfl ty51 (fun _ => kp) fun b34 => nR <| ow_batch [.fa 29 0 0 fa29_0] rfl <| o1 rfl (rx 0 0 _ rfl ty25 rfl) <| bE H fun y35 h36 H => ow_callS rfl fn43 rfl rfl rfl rfl (fun w1 hw1 => laws_toSchema_ok w1 h36 (hw1.carve [] rfl rfl) (rdm_Tlaws_Schema (rds_bor g26 w1 hw1) (rds_bor g27 w1 hw1))) fun v37 w1 w2 hw1 hR39 => ?_
 obtain ⟨a40, n41, c42, F43, a44, n45, c46, F47, rfl, hS38⟩ := hR39
 obtain rfl := own_nS (i := 0) hS38 rfl
 obtain rfl := own_nS (i := 1) hS38 rfl
 refine ⟨St w M0 [_, _, _, _, _], hw1.comp [] rfl rfl hS38, fun _ _ => trivial, ?_⟩
 refine ow_batch [.fa 51 0 0 fa51_0] rfl <| sC 0 [.slice a40 y35.Attrs_.length c42, .slice a44 y35.Classes_.length c46] [_, _, _, _, _, _, _, _, _, _, _, _, _, _] 2 rfl ty48 rfl <| nR <| ow_batch [.fa 29 1 2 fa29_1] rfl <| o1 rfl (rx 2 0 _ rfl ty27 rfl) <| bE H fun y48 h49 H => oq rfl (qc rfl fn44 (fun w1 hw1 => laws_toRule_ok w1 (p0 := p0.Rule_) h49)) tt2 <| ow_batch [.fa 51 1 2 fa51_1] rfl <| sC 2 [.int .i64 y48.Sure_, .int .i64 y48.Tie_, .int .i64 y48.Grace_, .int .i64 y48.Depth_, .int .i64 y48.Nodes_, .int .i64 y48.Units_, .bool y48.Two_] [_, _, _, _, _, _, _, _, _, _, _, _, _, _] 2 rfl ty49 rfl <| nR <| ow_batch [.fa 29 2 9 fa29_2] rfl <| o1 rfl (r1 9 0 rfl ty3 rfl) <| ow_batch [.fa 51 2 9 fa51_2] rfl <| sC 9 [.int .i64 p0.Members_] [_, _, _, _, _, _, _, _, _, _, _, _, _, _] 2 rfl ty3 rfl <| nR <| ow_batch [.fa 29 3 10 fa29_3] rfl <| o1 rfl (r1 10 0 rfl ty3 rfl) <| ow_batch [.fa 51 3 10 fa51_3] rfl <| sC 10 [.int .i64 p0.Pick_] [_, _, _, _, _, _, _, _, _, _, _, _, _, _] 2 rfl ty3 rfl <| nR <| ow_batch [.fa 29 4 11 fa29_4] rfl <| o1 rfl (r1 11 0 rfl ty3 rfl) <| ow_batch [.fa 51 4 11 fa51_4] rfl <| sC 11 [.int .i64 p0.Lambda_] [_, _, _, _, _, _, _, _, _, _, _, _, _, _] 2 rfl ty3 rfl <| nR <| ?_
 refine ow_batch [.fa 29 5 12 fa29_5] rfl <| o1 rfl (r1 12 0 rfl ty3 rfl) <| ow_batch [.fa 51 5 12 fa51_5] rfl <| sC 12 [.int .i64 p0.Warn_] [_, _, _, _, _, _, _, _, _, _, _, _, _, _] 2 rfl ty3 rfl <| nQ <| c_seq <| CW.weak (C' := St w M0 [_, _, _, _, _]) ?_ (fun _ h => St.sel [0, 1, 2, 3, 4] rfl rfl h)
 exact c_reg <| ow_batch [.fa 29 6 13 fa29_6] rfl <| o1 rfl (r1 13 0 rfl ty3 rfl) <| ow_batch [.fa 51 6 13 fa51_6] rfl <| sC 13 [.int .i64 p0.Drift_] [_, _, _, _, _, _, _, _, _, _, _, _, _, _] 2 rfl ty3 rfl <| nR <| o1 rfl (rx 0 2 _ rfl ty51 rfl) <| sC 0 [.slice a40 y35.Attrs_.length c42, .slice a44 y35.Classes_.length c46, .int .i64 y48.Sure_, .int .i64 y48.Tie_, .int .i64 y48.Grace_, .int .i64 y48.Depth_, .int .i64 y48.Nodes_, .int .i64 y48.Units_, .bool y48.Two_, .int .i64 p0.Members_, .int .i64 p0.Pick_, .int .i64 p0.Lambda_, .int .i64 p0.Warn_, .int .i64 p0.Drift_] [_, _, _, _, _, _, _, _, _, _, _, _, _, _] 1 rfl ty51 rfl <| nT <| x_retR (rs := [.cell 2 51]) (vs := [.agg #[.slice a40 y35.Attrs_.length c42, .slice a44 y35.Classes_.length c46, .int .i64 y48.Sure_, .int .i64 y48.Tie_, .int .i64 y48.Grace_, .int .i64 y48.Depth_, .int .i64 y48.Nodes_, .int .i64 y48.Units_, .bool y48.Two_, .int .i64 p0.Members_, .int .i64 p0.Pick_, .int .i64 p0.Lambda_, .int .i64 p0.Warn_, .int .i64 p0.Drift_]]) rfl ⟨⟨_, [.slice a40 y35.Attrs_.length c42, .slice a44 y35.Classes_.length c46, .int .i64 y48.Sure_, .int .i64 y48.Tie_, .int .i64 y48.Grace_, .int .i64 y48.Depth_, .int .i64 y48.Nodes_, .int .i64 y48.Units_, .bool y48.Two_, .int .i64 p0.Members_, .int .i64 p0.Pick_, .int .i64 p0.Lambda_, .int .i64 p0.Warn_, .int .i64 p0.Drift_], _, _, _, rfl, ty51, (at_box (T := 51) 0 (boxIn (i := 1) rfl) rfl), rfl, rfl⟩, trivial⟩ (fun w' hw' => by
  obtain rfl := of_some H
  exact ⟨_, rfl, a40, y35.Attrs_.length, c42, F43, a44, y35.Classes_.length, c46, F47, rfl, hw'.sel [3, 4] rfl rfl⟩)
theorem laws_toFork_ok (w : World) {p0 : Tlaws_Fork}  {r : Timpl_Fork} (H : laws_toFork p0 = some r)   :
    Calls Tryz.prog 182 #[.agg #[.int .i64 p0.Attr_, .int .i64 p0.At_]] w (fun en w' => en = .returned (.agg #[.int .i64 r.Attr_, .int .i64 r.At_]) ∧ Ext [] w w') := by
 unfold laws_toFork at H
 exact f_enter Tryz.func182 rfl Tryz.ntmps182 rfl (St.init w []) <| sR <| ob _ rfl fun b10 => ow_alloc rfl rfl rfl rfl ty165 (fun _ => kp) fun b11 => nR <| ow_alloc rfl rfl rfl rfl ty165 (fun _ => kp) fun b12 => nR <| ow_batch [.fa 202 0 0 fa202_0] rfl <| o1 rfl (r1 0 0 rfl ty3 rfl) <| ow_batch [.fa 165 0 0 fa165_0] rfl <| sC 0 [.int .i64 p0.Attr_] [_, _] 2 rfl ty3 rfl <| nR <| ow_batch [.fa 202 1 1 fa202_1] rfl <| o1 rfl (r1 1 0 rfl ty3 rfl) <| ow_batch [.fa 165 1 1 fa165_1] rfl <| sC 1 [.int .i64 p0.At_] [_, _] 2 rfl ty3 rfl <| nR <| o1 rfl (rx 0 2 _ rfl ty165 rfl) <| sC 0 [.int .i64 p0.Attr_, .int .i64 p0.At_] [_, _] 1 rfl ty165 rfl <| nT <| x_retR (rs := [.cell 2 165]) (vs := [.agg #[.int .i64 p0.Attr_, .int .i64 p0.At_]]) rfl ⟨⟨_, [.int .i64 p0.Attr_, .int .i64 p0.At_], _, _, _, rfl, ty165, (at_box (T := 165) 0 (boxIn (i := 1) rfl) rfl), rfl, rfl⟩, trivial⟩ (fun w' hw' => by
  obtain rfl := of_some H
  exact ⟨rfl, hw'.ext⟩)
theorem laws_toIntSS_ok (w : World) {M0 : List Nat} {p0 : List (List Int)} {a_0 : Option Addr} {n_0 c_0 : Nat} {r : List (List Int)} (H : laws_toIntSS p0 = some r) (HS : St w M0 [] w) (g0 : (eList (eList eI 3) 39).rd w M0 p0 [.slice a_0 n_0 c_0]) :
    Calls Tryz.prog 46 #[.slice a_0 n_0 c_0] w (fun en w' => ∃ v, en = .returned v ∧ ∃ (a0 : Option Addr), ∃ (n0 : Nat), ∃ (c0 : Nat), ∃ (F0 : List Nat), v = .slice a0 n0 c0 ∧ St w M0 [Res.own (eList (eList eI 3) 39) F0 r [.slice a0 n0 c0]] w') := by
 obtain rfl := rd_n g0
 unfold laws_toIntSS at H
 refine f_enter Tryz.func46 rfl Tryz.ntmps46 rfl (HS) <| sR <| oP rfl <| nR <| ow_batch [.p, .lenS 33 39 sl33] rfl <| bE H fun l10 h11 H => ow_make (e := eList eI 3) (zero := ([] : List Int)) rfl rfl rfl rfl rfl rfl sl33 ty39 rfl rfl rfl rfl (fun _ => (.inl ⟨rfl, rfl, rfl⟩)) h11 (fun _ => kp) fun b12 => oP rfl <| nQ <| c_seq <| sR <| oP rfl <| nQ <| c_block <| CW.at (loopI3 (fun (l46 : List (List Int)) (F47 : List Nat) (i48 : Int) => St w M0 [Res.own (eList (eList eI 3) 39) F47 l46 [.slice (some ⟨b12, 0, none⟩) l10.length l10.length]]) (fun l46 F47 i48 => [(0, .slice a_0 p0.length c_0), (3, .slice (some ⟨b12, 0, none⟩) l10.length l10.length), (4, .int .i64 i48)]) (fun kk => fun l46 F47 i48 => laws_toIntSS_L1 p0 kk l46 i48 = some r) (fun _ _ _ H => ?_) (fun k1 ihk1 l46 F47 i48 H => ?_) Fuel (l10) ([b12]) (0) (H)) (fun _ h => St.sel [0] rfl rfl h) ⟨rfl, rfl, rfl,  trivial⟩
 ·unfold laws_toIntSS_L1 at H
  exact absurd H (by simp)
 ·unfold laws_toIntSS_L1 at H
  refine c_seq <| sR <| ow_batch [.p, .p, .lenS 33 39 sl33, .p] rfl <| nQ <| cI H rfl (fun H => ?_) (fun H => ?_)
  ·refine c_skip <| x_qs <| c_seq <| c_block <| c_reg <| ow_batch [.p, .p, .p, .p] rfl <| bE H fun e82 h83 H => ow_ixB rfl rfl rfl rfl rfl sl33 ty39 rfl g0 h83 fun q86 c87 hd84 hA85 => ?_
   obtain ⟨a88, c89, rfl⟩ := rd_sl1 hd84
   refine o1 rfl (ry_load1 rfl rfl ty39 (at_bor bor hA85)) <| bE H fun y90 h91 H => ow_callS rfl fn25 rfl rfl rfl rfl (fun w1 hw1 => laws_toIntS_ok w1  h91 (hw1.carve [] rfl rfl) (rds_bor hd84 w1 hw1)) fun v92 w1 w2 hw1 hR94 => ?_
   obtain ⟨a95, n96, c97, F98, rfl, hS93⟩ := hR94
   obtain rfl := own_nS (i := 0) hS93 rfl
   refine ⟨St w M0 [_, _], hw1.comp [] rfl rfl hS93, fun _ _ => trivial, ?_⟩
   refine bE H fun e99 h100 H => ow_ex4 rfl (fun w1 hw1 => foc (r := 0) hw1 rfl h100) fun b102 G103 F104 c105 => ow_fact rfl (fun w1 hw1 => hw1.1) fun q101 => ?_
   obtain ⟨ha106, hn107⟩ := q101
   refine ow_st (C' := St w M0 [_, _, _, _]) rfl (fun w1 hw1 => hw1.2) <| ow_ex2 rfl (fun w1 hw1 => opn_sl (i := 3) hw1 rfl) fun a108 c109 => ow_fact rfl (fun w1 hw1 => hw1.1) fun q110 => ?_
   subst q110
   exact ow_st (C' := St w M0 [_, _, _, _]) rfl (fun w1 hw1 => hw1.2) <| ow_ixH rfl rfl rfl rfl rfl sl33 ty39 rfl (holeIn (p := 2) rfl) hn107 ha106 (idx_some h100).1 <| ow_storeH (off := 0) [.slice a95 y90.length c97] (p := 2) (c' := [_]) rfl rfl rfl rfl rfl (by first | rfl | simp only [add_lit, add_add, add_zero]) rfl ty39 rfl rfl (by intro u hu; simp only [List.mem_cons, List.not_mem_nil, or_false] at hu; rcases hu with rfl <;> rfl) rfl rfl rfl kp <| ow_nil <| x_qb <| x_qs <| c_reg <| ow_batch [.p, .p, .p] rfl <| ow_nil <| xw_ex (fun w1 hw1 => unf (p := 2) (q := 1) hw1 rfl rfl rfl hn107 ha106) fun F111 => xw_st (C' := St w M0 [_, _, _, _, _]) (fun _ h => h) <| x_ql (RW.at (ihk1 ((l46.set i48.toNat y90)) (F111) (IntKind.i64.wrap (i48 + 1)) (H)) (fun _ h => St.sel [4] rfl rfl h) ⟨rfl, rfl, rfl, trivial⟩)
  ·exact c_exit <| x_qs_exit <| x_ql_exit <| x_qb_here <| x_qs <| sR <| oPP rfl <| nT <| x_retR (rs := [.tmp 2]) (vs := [.slice (some ⟨b12, 0, none⟩) l10.length l10.length]) rfl ⟨rfl, trivial⟩ (fun w' hw' => by
    obtain rfl := of_some H
    exact ⟨_, rfl, (some ⟨b12, 0, none⟩), l10.length, l10.length, F47, rfl, hw'.sel [0] rfl rfl⟩)
theorem laws_toStats_ok (w : World) {M0 : List Nat} {p0 : Tlaws_Stats} {cs0 : List Value} {r : Timpl_Stats} (H : laws_toStats p0 = some r) (HS : St w M0 [] w) (g0 : (eTlaws_Stats).rd w M0 p0 cs0) :
    Calls Tryz.prog 183 #[.agg cs0.toArray] w (fun en w' => ∃ v, en = .returned v ∧ ∃ (a0 : Option Addr), ∃ (n0 : Nat), ∃ (c0 : Nat), ∃ (F0 : List Nat), ∃ (a1 : Option Addr), ∃ (n1 : Nat), ∃ (c1 : Nat), ∃ (F1 : List Nat), v = .agg #[.slice a0 n0 c0, .slice a1 n1 c1] ∧ St w M0 [Res.own (eList eI 3) F0 r.Totals_ [.slice a0 n0 c0], Res.own (eList (eList eI 3) 39) F1 r.Cells_ [.slice a1 n1 c1]] w') := by
 obtain ⟨c10, c11, rfl, g12, g13⟩ := rdo_Tlaws_Stats g0
 obtain ⟨a14, c15, rfl⟩ := rd_sl1 g12
 obtain ⟨a16, c17, rfl⟩ := rd_sl1 g13
 unfold laws_toStats at H
 refine f_enter Tryz.func183 rfl Tryz.ntmps183 rfl (HS) <| sR <| ob _ rfl fun b18 => ow_alloc rfl rfl rfl rfl ty167 (fun _ => kp) fun b19 => nR <| ow_alloc rfl rfl rfl rfl ty167 (fun _ => kp) fun b20 => nR <| ow_batch [.fa 203 0 0 fa203_0] rfl <| o1 rfl (r1 0 0 rfl ty39 rfl) <| bE H fun y21 h22 H => ow_callS rfl fn25 rfl rfl rfl rfl (fun w1 hw1 => laws_toIntS_ok w1  h22 (hw1.carve [] rfl rfl) (rds_bor g12 w1 hw1)) fun v23 w1 w2 hw1 hR25 => ?_
 obtain ⟨a26, n27, c28, F29, rfl, hS24⟩ := hR25
 obtain rfl := own_nS (i := 0) hS24 rfl
 refine ⟨St w M0 [_, _, _, _], hw1.comp [] rfl rfl hS24, fun _ _ => trivial, ?_⟩
 refine ow_batch [.fa 167 0 0 fa167_0] rfl <| sC 0 [.slice a26 y21.length c28] [_, _] 2 rfl ty39 rfl <| nR <| ow_batch [.fa 203 1 1 fa203_1] rfl <| o1 rfl (r1 1 0 rfl ty33 rfl) <| bE H fun y30 h31 H => ow_callS rfl fn46 rfl rfl rfl rfl (fun w1 hw1 => laws_toIntSS_ok w1  h31 (hw1.carve [] rfl rfl) (rds_bor g13 w1 hw1)) fun v32 w1 w2 hw1 hR34 => ?_
 obtain ⟨a35, n36, c37, F38, rfl, hS33⟩ := hR34
 obtain rfl := own_nS (i := 0) hS33 rfl
 refine ⟨St w M0 [_, _, _, _, _], hw1.comp [] rfl rfl hS33, fun _ _ => trivial, ?_⟩
 exact ow_batch [.fa 167 1 1 fa167_1] rfl <| sC 1 [.slice a35 y30.length c37] [_, _] 2 rfl ty33 rfl <| nR <| o1 rfl (rx 0 2 _ rfl ty167 rfl) <| sC 0 [.slice a26 y21.length c28, .slice a35 y30.length c37] [_, _] 1 rfl ty167 rfl <| nT <| x_retR (rs := [.cell 2 167]) (vs := [.agg #[.slice a26 y21.length c28, .slice a35 y30.length c37]]) rfl ⟨⟨_, [.slice a26 y21.length c28, .slice a35 y30.length c37], _, _, _, rfl, ty167, (at_box (T := 167) 0 (boxIn (i := 1) rfl) rfl), rfl, rfl⟩, trivial⟩ (fun w' hw' => by
  obtain rfl := of_some H
  exact ⟨_, rfl, a26, y21.length, c28, F29, a35, y30.length, c37, F38, rfl, hw'.sel [3, 4] rfl rfl⟩)
theorem laws_toNode_ok (w : World) {M0 : List Nat} {p0 : Tlaws_Node} {cs0 : List Value} {r : Timpl_Node} (H : laws_toNode p0 = some r) (HS : St w M0 [] w) (g0 : (eTlaws_Node).rd w M0 p0 cs0) :
    Calls Tryz.prog 163 #[.agg cs0.toArray] w (fun en w' => ∃ v, en = .returned v ∧ ∃ (a0 : Option Addr), ∃ (n0 : Nat), ∃ (c0 : Nat), ∃ (F0 : List Nat), ∃ (a1 : Option Addr), ∃ (n1 : Nat), ∃ (c1 : Nat), ∃ (F1 : List Nat), ∃ (a2 : Option Addr), ∃ (n2 : Nat), ∃ (c2 : Nat), ∃ (F2 : List Nat), ∃ (a3 : Option Addr), ∃ (n3 : Nat), ∃ (c3 : Nat), ∃ (F3 : List Nat), v = .agg #[.bool r.Leaf_, .int .i64 r.Fork_.Attr_, .int .i64 r.Fork_.At_, .slice a0 n0 c0, .int .i64 r.Miss_, .slice a1 n1 c1, .slice a2 n2 c2, .int .i64 r.Since_, .slice a3 n3 c3, .int .i64 r.Depth_, .int .i64 r.Up_, .int .i64 r.Born_] ∧ St w M0 [Res.own (eList eI 3) F0 r.Kids_ [.slice a0 n0 c0], Res.own (eList eI 3) F1 r.Stats_.Totals_ [.slice a1 n1 c1], Res.own (eList (eList eI 3) 39) F2 r.Stats_.Cells_ [.slice a2 n2 c2], Res.own (eList eI 3) F3 r.Attrs_ [.slice a3 n3 c3]] w') := by
 obtain ⟨c10, c11, c12, c13, c14, c15, c16, c17, c18, c19, rfl, g20, g21, g22, g23, g24, g25, g26, g27, g28, g29⟩ := rdo_Tlaws_Node g0
 obtain rfl := g20
 obtain rfl := g21
 obtain ⟨a30, c31, rfl⟩ := rd_sl1 g22
 obtain rfl := g23
 obtain ⟨c32, c33, rfl, g34, g35⟩ := rdo_Tlaws_Stats g24
 obtain ⟨a36, c37, rfl⟩ := rd_sl1 g34
 obtain ⟨a38, c39, rfl⟩ := rd_sl1 g35
 obtain rfl := g25
 obtain ⟨a40, c41, rfl⟩ := rd_sl1 g26
 obtain rfl := g27
 obtain rfl := g28
 obtain rfl := g29
 unfold laws_toNode at H
 refine f_enter Tryz.func163 rfl Tryz.ntmps163 rfl (HS) <| sR <| ob _ rfl fun b42 => ow_alloc rfl rfl rfl rfl ty169 (fun _ => kp) fun b43 => nR <| ow_alloc rfl rfl rfl rfl ty169 (fun _ => kp) fun b44 => nR <| ow_batch [.fa 205 0 0 fa205_0] rfl <| o1 rfl (r1 0 0 rfl ty4 rfl) <| ow_batch [.fa 169 0 0 fa169_0] rfl <| sC 0 [.bool p0.Leaf_] [_, _, _, _, _, _, _, _, _, _, _, _] 2 rfl ty4 rfl <| nR <| ow_batch [.fa 205 1 1 fa205_1] rfl <| o1 rfl (rx 1 0 _ rfl ty202 rfl) <| bE H fun y45 h46 H => oq rfl (qc rfl fn182 (fun w1 hw1 => laws_toFork_ok w1 (p0 := p0.Fork_) h46)) tt2 <| ow_batch [.fa 169 1 1 fa169_1] rfl <| sC 1 [.int .i64 y45.Attr_, .int .i64 y45.At_] [_, _, _, _, _, _, _, _, _, _, _, _] 2 rfl ty165 rfl <| nR <| ow_batch [.fa 205 2 3 fa205_2] rfl <| o1 rfl (r1 3 0 rfl ty39 rfl) <| bE H fun y47 h48 H => ow_callS rfl fn25 rfl rfl rfl rfl (fun w1 hw1 => laws_toIntS_ok w1  h48 (hw1.carve [] rfl rfl) (rds_bor g22 w1 hw1)) fun v49 w1 w2 hw1 hR51 => ?_
 obtain ⟨a52, n53, c54, F55, rfl, hS50⟩ := hR51
 obtain rfl := own_nS (i := 0) hS50 rfl
 refine ⟨St w M0 [_, _, _, _], hw1.comp [] rfl rfl hS50, fun _ _ => trivial, ?_⟩
 refine ow_batch [.fa 169 2 3 fa169_2] rfl <| sC 3 [.slice a52 y47.length c54] [_, _, _, _, _, _, _, _, _, _, _, _] 2 rfl ty39 rfl <| nR <| ow_batch [.fa 205 3 4 fa205_3] rfl <| o1 rfl (r1 4 0 rfl ty3 rfl) <| ow_batch [.fa 169 3 4 fa169_3] rfl <| sC 4 [.int .i64 p0.Miss_] [_, _, _, _, _, _, _, _, _, _, _, _] 2 rfl ty3 rfl <| nR <| ow_batch [.fa 205 4 5 fa205_4] rfl <| o1 rfl (rx 5 0 _ rfl ty203 rfl) <| bE H fun y56 h57 H => ow_callS rfl fn183 rfl rfl rfl rfl (fun w1 hw1 => laws_toStats_ok w1 h57 (hw1.carve [] rfl rfl) (rdm_Tlaws_Stats (rds_bor g34 w1 hw1) (rds_bor g35 w1 hw1))) fun v58 w1 w2 hw1 hR60 => ?_
 obtain ⟨a61, n62, c63, F64, a65, n66, c67, F68, rfl, hS59⟩ := hR60
 obtain rfl := own_nS (i := 0) hS59 rfl
 obtain rfl := own_nS (i := 1) hS59 rfl
 refine ⟨St w M0 [_, _, _, _, _, _], hw1.comp [] rfl rfl hS59, fun _ _ => trivial, ?_⟩
 refine ow_batch [.fa 169 4 5 fa169_4] rfl <| sC 5 [.slice a61 y56.Totals_.length c63, .slice a65 y56.Cells_.length c67] [_, _, _, _, _, _, _, _, _, _, _, _] 2 rfl ty167 rfl <| nR <| ow_batch [.fa 205 5 7 fa205_5] rfl <| o1 rfl (r1 7 0 rfl ty3 rfl) <| ow_batch [.fa 169 5 7 fa169_5] rfl <| sC 7 [.int .i64 p0.Since_] [_, _, _, _, _, _, _, _, _, _, _, _] 2 rfl ty3 rfl <| nQ <| c_seq <| CW.weak (C' := St w M0 [_, _, _, _, _, _]) ?_ (fun _ h => St.sel [0, 1, 2, 3, 4, 5] rfl rfl h)
 refine c_reg <| ow_batch [.fa 205 6 8 fa205_6] rfl <| o1 rfl (r1 8 0 rfl ty39 rfl) <| bE H fun y69 h70 H => ow_callS rfl fn25 rfl rfl rfl rfl (fun w1 hw1 => laws_toIntS_ok w1  h70 (hw1.carve [] rfl rfl) (rds_bor g26 w1 hw1)) fun v71 w1 w2 hw1 hR73 => ?_
 obtain ⟨a74, n75, c76, F77, rfl, hS72⟩ := hR73
 obtain rfl := own_nS (i := 0) hS72 rfl
 refine ⟨St w M0 [_, _, _, _, _, _, _], hw1.comp [] rfl rfl hS72, fun _ _ => trivial, ?_⟩
 exact ow_batch [.fa 169 6 8 fa169_6] rfl <| sC 8 [.slice a74 y69.length c76] [_, _, _, _, _, _, _, _, _, _, _, _] 2 rfl ty39 rfl <| nR <| ow_batch [.fa 205 7 9 fa205_7] rfl <| o1 rfl (r1 9 0 rfl ty3 rfl) <| ow_batch [.fa 169 7 9 fa169_7] rfl <| sC 9 [.int .i64 p0.Depth_] [_, _, _, _, _, _, _, _, _, _, _, _] 2 rfl ty3 rfl <| nR <| ow_batch [.fa 205 8 10 fa205_8] rfl <| o1 rfl (r1 10 0 rfl ty3 rfl) <| ow_batch [.fa 169 8 10 fa169_8] rfl <| sC 10 [.int .i64 p0.Up_] [_, _, _, _, _, _, _, _, _, _, _, _] 2 rfl ty3 rfl <| nR <| ow_batch [.fa 205 9 11 fa205_9] rfl <| o1 rfl (r1 11 0 rfl ty3 rfl) <| ow_batch [.fa 169 9 11 fa169_9] rfl <| sC 11 [.int .i64 p0.Born_] [_, _, _, _, _, _, _, _, _, _, _, _] 2 rfl ty3 rfl <| nR <| o1 rfl (rx 0 2 _ rfl ty169 rfl) <| sC 0 [.bool p0.Leaf_, .int .i64 y45.Attr_, .int .i64 y45.At_, .slice a52 y47.length c54, .int .i64 p0.Miss_, .slice a61 y56.Totals_.length c63, .slice a65 y56.Cells_.length c67, .int .i64 p0.Since_, .slice a74 y69.length c76, .int .i64 p0.Depth_, .int .i64 p0.Up_, .int .i64 p0.Born_] [_, _, _, _, _, _, _, _, _, _, _, _] 1 rfl ty169 rfl <| nT <| x_retR (rs := [.cell 2 169]) (vs := [.agg #[.bool p0.Leaf_, .int .i64 y45.Attr_, .int .i64 y45.At_, .slice a52 y47.length c54, .int .i64 p0.Miss_, .slice a61 y56.Totals_.length c63, .slice a65 y56.Cells_.length c67, .int .i64 p0.Since_, .slice a74 y69.length c76, .int .i64 p0.Depth_, .int .i64 p0.Up_, .int .i64 p0.Born_]]) rfl ⟨⟨_, [.bool p0.Leaf_, .int .i64 y45.Attr_, .int .i64 y45.At_, .slice a52 y47.length c54, .int .i64 p0.Miss_, .slice a61 y56.Totals_.length c63, .slice a65 y56.Cells_.length c67, .int .i64 p0.Since_, .slice a74 y69.length c76, .int .i64 p0.Depth_, .int .i64 p0.Up_, .int .i64 p0.Born_], _, _, _, rfl, ty169, (at_box (T := 169) 0 (boxIn (i := 1) rfl) rfl), rfl, rfl⟩, trivial⟩ (fun w' hw' => by
  obtain rfl := of_some H
  exact ⟨_, rfl, a52, y47.length, c54, F55, a61, y56.Totals_.length, c63, F64, a65, y56.Cells_.length, c67, F68, a74, y69.length, c76, F77, rfl, hw'.sel [3, 4, 5, 6] rfl rfl⟩)
theorem laws_toNodeS_ok (w : World) {M0 : List Nat} {p0 : List Tlaws_Node} {a_0 : Option Addr} {n_0 c_0 : Nat} {r : List Timpl_Node} (H : laws_toNodeS p0 = some r) (HS : St w M0 [] w) (g0 : (eList (eTlaws_Node) 205).rd w M0 p0 [.slice a_0 n_0 c_0]) :
    Calls Tryz.prog 143 #[.slice a_0 n_0 c_0] w (fun en w' => ∃ v, en = .returned v ∧ ∃ (a0 : Option Addr), ∃ (n0 : Nat), ∃ (c0 : Nat), ∃ (F0 : List Nat), v = .slice a0 n0 c0 ∧ St w M0 [Res.own (eList (eTimpl_Node) 169) F0 r [.slice a0 n0 c0]] w') := by
 obtain rfl := rd_n g0
 unfold laws_toNodeS at H
 refine f_enter Tryz.func143 rfl Tryz.ntmps143 rfl (HS) <| sR <| oP rfl <| nR <| ow_batch [.p, .lenS 119 205 sl119] rfl <| bE H fun l10 h11 H => ow_make (e := eTimpl_Node) (zero := ((Timpl_Node.mk false (Timpl_Fork.mk 0 0) [] 0 (Timpl_Stats.mk [] []) 0 [] 0 0 0) : Timpl_Node)) rfl rfl rfl rfl rfl rfl sl91 ty169 rfl rfl rfl rfl (fun _ => (ownm_Timpl_Node (x := (Timpl_Node.mk false (Timpl_Fork.mk 0 0) [] 0 (Timpl_Stats.mk [] []) 0 [] 0 0 0)) (⟨rfl, rfl⟩ : (eBool).own _ [] (false : Bool) _) (⟨rfl, rfl⟩ : (eTimpl_Fork).own _ [] ((Timpl_Fork.mk 0 0) : Timpl_Fork) _) ((.inl ⟨rfl, rfl, rfl⟩) : (eList eI 3).own _ [] ([] : List Int) _) (⟨rfl, rfl⟩ : eI.own _ [] (0 : Int) _) ((ownm_Timpl_Stats (x := (Timpl_Stats.mk [] [])) ((.inl ⟨rfl, rfl, rfl⟩) : (eList eI 3).own _ [] ([] : List Int) _) ((.inl ⟨rfl, rfl, rfl⟩) : (eList (eList eI 3) 39).own _ [] ([] : List (List Int)) _)) : (eTimpl_Stats).own _ [] ((Timpl_Stats.mk [] []) : Timpl_Stats) _) (⟨rfl, rfl⟩ : eI.own _ [] (0 : Int) _) ((.inl ⟨rfl, rfl, rfl⟩) : (eList eI 3).own _ [] ([] : List Int) _) (⟨rfl, rfl⟩ : eI.own _ [] (0 : Int) _) (⟨rfl, rfl⟩ : eI.own _ [] (0 : Int) _) (⟨rfl, rfl⟩ : eI.own _ [] (0 : Int) _))) h11 (fun _ => kp) fun b12 => oP rfl <| nQ <| c_seq <| sR <| oP rfl <| nQ <| c_block <| CW.at (loopI3 (fun (l99 : List Timpl_Node) (F100 : List Nat) (i101 : Int) => St w M0 [Res.own (eList (eTimpl_Node) 169) F100 l99 [.slice (some ⟨b12, 0, none⟩) l10.length l10.length]]) (fun l99 F100 i101 => [(0, .slice a_0 p0.length c_0), (3, .slice (some ⟨b12, 0, none⟩) l10.length l10.length), (4, .int .i64 i101)]) (fun kk => fun l99 F100 i101 => laws_toNodeS_L1 p0 kk l99 i101 = some r) (fun _ _ _ H => ?_) (fun k1 ihk1 l99 F100 i101 H => ?_) Fuel (l10) ([b12]) (0) (H)) (fun _ h => St.sel [0] rfl rfl h) ⟨rfl, rfl, rfl,  trivial⟩
 ·unfold laws_toNodeS_L1 at H
  exact absurd H (by simp)
 ·unfold laws_toNodeS_L1 at H
  refine c_seq <| sR <| ow_batch [.p, .p, .lenS 119 205 sl119, .p] rfl <| nQ <| cI H rfl (fun H => ?_) (fun H => ?_)
  ·refine c_skip <| x_qs <| c_seq <| c_block <| c_reg <| ow_batch [.p, .p, .p, .p] rfl <| bE H fun e188 h189 H => ow_ixB rfl rfl rfl rfl rfl sl119 ty205 rfl g0 h189 fun q192 c193 hd190 hA191 => ?_
   obtain ⟨c194, c195, c196, c197, c198, c199, c200, c201, c202, c203, rfl, g204, g205, g206, g207, g208, g209, g210, g211, g212, g213⟩ := rdo_Tlaws_Node hd190
   obtain rfl := g204
   obtain rfl := g205
   obtain ⟨a214, c215, rfl⟩ := rd_sl1 g206
   obtain rfl := g207
   obtain ⟨c216, c217, rfl, g218, g219⟩ := rdo_Tlaws_Stats g208
   obtain ⟨a220, c221, rfl⟩ := rd_sl1 g218
   obtain ⟨a222, c223, rfl⟩ := rd_sl1 g219
   obtain rfl := g209
   obtain ⟨a224, c225, rfl⟩ := rd_sl1 g210
   obtain rfl := g211
   obtain rfl := g212
   obtain rfl := g213
   refine o1 rfl (ry_load (cs := [.bool e188.Leaf_, .int .i64 e188.Fork_.Attr_, .int .i64 e188.Fork_.At_, .slice a214 e188.Kids_.length c215, .int .i64 e188.Miss_, .slice a220 e188.Stats_.Totals_.length c221, .slice a222 e188.Stats_.Cells_.length c223, .int .i64 e188.Since_, .slice a224 e188.Attrs_.length c225, .int .i64 e188.Depth_, .int .i64 e188.Up_, .int .i64 e188.Born_]) rfl rfl ty205 (at_bor bor hA191) rfl) <| bE H fun y226 h227 H => ow_callS rfl fn163 rfl rfl rfl rfl (fun w1 hw1 => laws_toNode_ok w1 h227 (hw1.carve [] rfl rfl) (rdm_Tlaws_Node rfl rfl (rds_bor g206 w1 hw1) rfl (rdm_Tlaws_Stats (rds_bor g218 w1 hw1) (rds_bor g219 w1 hw1)) rfl (rds_bor g210 w1 hw1) rfl rfl rfl)) fun v228 w1 w2 hw1 hR230 => ?_
   obtain ⟨a231, n232, c233, F234, a235, n236, c237, F238, a239, n240, c241, F242, a243, n244, c245, F246, rfl, hS229⟩ := hR230
   obtain rfl := own_nS (i := 0) hS229 rfl
   obtain rfl := own_nS (i := 1) hS229 rfl
   obtain rfl := own_nS (i := 2) hS229 rfl
   obtain rfl := own_nS (i := 3) hS229 rfl
   refine ⟨St w M0 [_, _, _, _, _], hw1.comp [] rfl rfl hS229, fun _ _ => trivial, ?_⟩
   refine bE H fun e247 h248 H => ow_ex4 rfl (fun w1 hw1 => foc (r := 0) hw1 rfl h248) fun b250 G251 F252 c253 => ow_fact rfl (fun w1 hw1 => hw1.1) fun q249 => ?_
   obtain ⟨ha254, hn255⟩ := q249
   refine ow_st (C' := St w M0 [_, _, _, _, _, _, _]) rfl (fun w1 hw1 => hw1.2) <| ow_ex3 rfl (fun w1 hw1 => opn_Timpl_Node (i := 6) hw1 rfl) fun a257 c258 F259 => ow_ex3 rfl (fun _ h => h) fun a260 c261 F262 => ow_ex3 rfl (fun _ h => h) fun a263 c264 F265 => ow_ex3 rfl (fun _ h => h) fun a266 c267 F268 => ow_fact rfl (fun w1 hw1 => hw1.1) fun q256 => ?_
   subst q256
   refine ow_st (C' := St w M0 [_, _, _, _, _, _, _, _, _, _, _]) rfl (fun w1 hw1 => hw1.2) <| ow_ixH rfl rfl rfl rfl rfl sl91 ty169 rfl (holeIn (p := 5) rfl) hn255 ha254 (idx_some h248).1 <| ow_storeH (off := 0) [.bool y226.Leaf_, .int .i64 y226.Fork_.Attr_, .int .i64 y226.Fork_.At_, .slice a231 y226.Kids_.length c233, .int .i64 y226.Miss_, .slice a235 y226.Stats_.Totals_.length c237, .slice a239 y226.Stats_.Cells_.length c241, .int .i64 y226.Since_, .slice a243 y226.Attrs_.length c245, .int .i64 y226.Depth_, .int .i64 y226.Up_, .int .i64 y226.Born_] (p := 5) (c' := [_, _, _, _, _, _, _, _, _, _, _, _]) rfl rfl rfl rfl rfl (by first | rfl | simp only [add_lit, add_add, add_zero]) rfl ty169 rfl rfl (by intro u hu; simp only [List.mem_cons, List.not_mem_nil, or_false] at hu; rcases hu with rfl | rfl | rfl | rfl | rfl | rfl | rfl | rfl | rfl | rfl | rfl | rfl <;> rfl) rfl rfl rfl kp <| ow_nil <| x_qb <| x_qs <| CW.weak (C' := St w M0 [_, _, _, _, _, _, _, _, _]) ?_ (fun _ h => St.sel [1, 2, 3, 4, 5, 7, 8, 9, 10] rfl rfl h)
   exact c_reg <| ow_batch [.p, .p, .p] rfl <| ow_nil <| xw_ex (fun w1 hw1 => fus_Timpl_Node (x0 := y226.Leaf_) (x1 := y226.Fork_.Attr_) (x2 := y226.Fork_.At_) (x4 := y226.Miss_) (x7 := y226.Since_) (x9 := y226.Depth_) (x10 := y226.Up_) (x11 := y226.Born_) [0, 1, 2, 3] hw1 rfl rfl) fun F269 => xw_st (C' := St w M0 [_, _, _, _, _, _, _, _, _, _]) (fun _ h => h) <| xw_ex (fun w1 hw1 => unf (p := 4) (q := 9) hw1 rfl rfl rfl hn255 ha254) fun F270 => xw_st (C' := St w M0 [_, _, _, _, _, _, _, _, _, _, _]) (fun _ h => h) <| x_ql (RW.at (ihk1 ((l99.set i101.toNat y226)) (F270) (IntKind.i64.wrap (i101 + 1)) (H)) (fun _ h => St.sel [10] rfl rfl h) ⟨rfl, rfl, rfl, trivial⟩)
  ·exact c_exit <| x_qs_exit <| x_ql_exit <| x_qb_here <| x_qs <| sR <| oPP rfl <| nT <| x_retR (rs := [.tmp 2]) (vs := [.slice (some ⟨b12, 0, none⟩) l10.length l10.length]) rfl ⟨rfl, trivial⟩ (fun w' hw' => by
    obtain rfl := of_some H
    exact ⟨_, rfl, (some ⟨b12, 0, none⟩), l10.length, l10.length, F100, rfl, hw'.sel [0] rfl rfl⟩)
theorem laws_toTree_ok (w : World) {M0 : List Nat} {p0 : Tlaws_Tree} {cs0 : List Value} {r : Timpl_Tree} (H : laws_toTree p0 = some r) (HS : St w M0 [] w) (g0 : (eTlaws_Tree).rd w M0 p0 cs0) :
    Calls Tryz.prog 114 #[.agg cs0.toArray] w (fun en w' => ∃ v, en = .returned v ∧ ∃ (a0 : Option Addr), ∃ (n0 : Nat), ∃ (c0 : Nat), ∃ (F0 : List Nat), v = .agg #[.slice a0 n0 c0, .int .i64 r.Seen_] ∧ St w M0 [Res.own (eList (eTimpl_Node) 169) F0 r.Nodes_ [.slice a0 n0 c0]] w') := by
 obtain ⟨c10, c11, rfl, g12, g13⟩ := rdo_Tlaws_Tree g0
 obtain ⟨a14, c15, rfl⟩ := rd_sl1 g12
 obtain rfl := g13
 unfold laws_toTree at H
 refine f_enter Tryz.func114 rfl Tryz.ntmps114 rfl (HS) <| sR <| ob _ rfl fun b16 => ow_alloc rfl rfl rfl rfl ty93 (fun _ => kp) fun b17 => nR <| ow_alloc rfl rfl rfl rfl ty93 (fun _ => kp) fun b18 => nR <| ow_batch [.fa 121 0 0 fa121_0] rfl <| o1 rfl (r1 0 0 rfl ty119 rfl) <| bE H fun y19 h20 H => ow_callS rfl fn143 rfl rfl rfl rfl (fun w1 hw1 => laws_toNodeS_ok w1  h20 (hw1.carve [] rfl rfl) (rds_bor g12 w1 hw1)) fun v21 w1 w2 hw1 hR23 => ?_
 obtain ⟨a24, n25, c26, F27, rfl, hS22⟩ := hR23
 obtain rfl := own_nS (i := 0) hS22 rfl
 refine ⟨St w M0 [_, _, _, _], hw1.comp [] rfl rfl hS22, fun _ _ => trivial, ?_⟩
 exact ow_batch [.fa 93 0 0 fa93_0] rfl <| sC 0 [.slice a24 y19.length c26] [_, _] 2 rfl ty91 rfl <| nR <| ow_batch [.fa 121 1 1 fa121_1] rfl <| o1 rfl (r1 1 0 rfl ty3 rfl) <| ow_batch [.fa 93 1 1 fa93_1] rfl <| sC 1 [.int .i64 p0.Seen_] [_, _] 2 rfl ty3 rfl <| nR <| o1 rfl (rx 0 2 _ rfl ty93 rfl) <| sC 0 [.slice a24 y19.length c26, .int .i64 p0.Seen_] [_, _] 1 rfl ty93 rfl <| nT <| x_retR (rs := [.cell 2 93]) (vs := [.agg #[.slice a24 y19.length c26, .int .i64 p0.Seen_]]) rfl ⟨⟨_, [.slice a24 y19.length c26, .int .i64 p0.Seen_], _, _, _, rfl, ty93, (at_box (T := 93) 0 (boxIn (i := 1) rfl) rfl), rfl, rfl⟩, trivial⟩ (fun w' hw' => by
  obtain rfl := of_some H
  exact ⟨_, rfl, a24, y19.length, c26, F27, rfl, hw'.sel [3] rfl rfl⟩)
theorem laws_toWindow_ok (w : World) {M0 : List Nat} {p0 : Tlaws_Window} {cs0 : List Value} {r : Timpl_Window} (H : laws_toWindow p0 = some r) (HS : St w M0 [] w) (g0 : (eTlaws_Window).rd w M0 p0 cs0) :
    Calls Tryz.prog 144 #[.agg cs0.toArray] w (fun en w' => ∃ v, en = .returned v ∧ ∃ (a0 : Option Addr), ∃ (n0 : Nat), ∃ (c0 : Nat), ∃ (F0 : List Nat), v = .agg #[.slice a0 n0 c0] ∧ St w M0 [Res.own (eList (eList eI 3) 39) F0 r.Rows_ [.slice a0 n0 c0]] w') := by
 obtain ⟨c10, rfl, g11⟩ := rdo_Tlaws_Window g0
 obtain ⟨a12, c13, rfl⟩ := rd_sl1 g11
 unfold laws_toWindow at H
 refine f_enter Tryz.func144 rfl Tryz.ntmps144 rfl (HS) <| sR <| ob _ rfl fun b14 => ow_alloc rfl rfl rfl rfl ty95 (fun _ => kp) fun b15 => nR <| ow_alloc rfl rfl rfl rfl ty95 (fun _ => kp) fun b16 => nR <| ow_batch [.fa 122 0 0 fa122_0] rfl <| o1 rfl (r1 0 0 rfl ty33 rfl) <| bE H fun y17 h18 H => ow_callS rfl fn46 rfl rfl rfl rfl (fun w1 hw1 => laws_toIntSS_ok w1  h18 (hw1.carve [] rfl rfl) (rds_bor g11 w1 hw1)) fun v19 w1 w2 hw1 hR21 => ?_
 obtain ⟨a22, n23, c24, F25, rfl, hS20⟩ := hR21
 obtain rfl := own_nS (i := 0) hS20 rfl
 refine ⟨St w M0 [_, _, _, _], hw1.comp [] rfl rfl hS20, fun _ _ => trivial, ?_⟩
 exact ow_batch [.fa 95 0 0 fa95_0] rfl <| sC 0 [.slice a22 y17.length c24] [_] 2 rfl ty33 rfl <| nR <| o1 rfl (rx 0 2 _ rfl ty95 rfl) <| sC 0 [.slice a22 y17.length c24] [_] 1 rfl ty95 rfl <| nT <| x_retR (rs := [.cell 2 95]) (vs := [.agg #[.slice a22 y17.length c24]]) rfl ⟨⟨_, [.slice a22 y17.length c24], _, _, _, rfl, ty95, (at_box (T := 95) 0 (boxIn (i := 1) rfl) rfl), rfl, rfl⟩, trivial⟩ (fun w' hw' => by
  obtain rfl := of_some H
  exact ⟨_, rfl, a22, y17.length, c24, F25, rfl, hw'.sel [3] rfl rfl⟩)
theorem laws_toDet_ok (w : World) {M0 : List Nat} {p0 : Tlaws_Det} {cs0 : List Value} {r : Timpl_Det} (H : laws_toDet p0 = some r) (HS : St w M0 [] w) (g0 : (eTlaws_Det).rd w M0 p0 cs0) :
    Calls Tryz.prog 115 #[.agg cs0.toArray] w (fun en w' => ∃ v, en = .returned v ∧ ∃ (a0 : Option Addr), ∃ (n0 : Nat), ∃ (c0 : Nat), ∃ (F0 : List Nat), ∃ (a1 : Option Addr), ∃ (n1 : Nat), ∃ (c1 : Nat), ∃ (F1 : List Nat), v = .agg #[.slice a0 n0 c0, .slice a1 n1 c1] ∧ St w M0 [Res.own (eList (eList eI 3) 39) F0 r.Warn_.Rows_ [.slice a0 n0 c0], Res.own (eList (eList eI 3) 39) F1 r.Drift_.Rows_ [.slice a1 n1 c1]] w') := by
 obtain ⟨c10, c11, rfl, g12, g13⟩ := rdo_Tlaws_Det g0
 obtain ⟨c14, rfl, g15⟩ := rdo_Tlaws_Window g12
 obtain ⟨a16, c17, rfl⟩ := rd_sl1 g15
 obtain ⟨c18, rfl, g19⟩ := rdo_Tlaws_Window g13
 obtain ⟨a20, c21, rfl⟩ := rd_sl1 g19
 unfold laws_toDet at H
 refine f_enter Tryz.func115 rfl Tryz.ntmps115 rfl (HS) <| sR <| ob _ rfl fun b22 => ow_alloc rfl rfl rfl rfl ty97 (fun _ => kp) fun b23 => nR <| ow_alloc rfl rfl rfl rfl ty97 (fun _ => kp) fun b24 => nR <| ow_batch [.fa 124 0 0 fa124_0] rfl <| o1 rfl (rx 0 0 _ rfl ty122 rfl) <| bE H fun y25 h26 H => ow_callS rfl fn144 rfl rfl rfl rfl (fun w1 hw1 => laws_toWindow_ok w1 h26 (hw1.carve [] rfl rfl) (rdm_Tlaws_Window (rds_bor g15 w1 hw1))) fun v27 w1 w2 hw1 hR29 => ?_
 obtain ⟨a30, n31, c32, F33, rfl, hS28⟩ := hR29
 obtain rfl := own_nS (i := 0) hS28 rfl
 refine ⟨St w M0 [_, _, _, _], hw1.comp [] rfl rfl hS28, fun _ _ => trivial, ?_⟩
 refine ow_batch [.fa 97 0 0 fa97_0] rfl <| sC 0 [.slice a30 y25.Rows_.length c32] [_, _] 2 rfl ty95 rfl <| nR <| ow_batch [.fa 124 1 1 fa124_1] rfl <| o1 rfl (rx 1 0 _ rfl ty122 rfl) <| bE H fun y34 h35 H => ow_callS rfl fn144 rfl rfl rfl rfl (fun w1 hw1 => laws_toWindow_ok w1 h35 (hw1.carve [] rfl rfl) (rdm_Tlaws_Window (rds_bor g19 w1 hw1))) fun v36 w1 w2 hw1 hR38 => ?_
 obtain ⟨a39, n40, c41, F42, rfl, hS37⟩ := hR38
 obtain rfl := own_nS (i := 0) hS37 rfl
 refine ⟨St w M0 [_, _, _, _, _], hw1.comp [] rfl rfl hS37, fun _ _ => trivial, ?_⟩
 exact ow_batch [.fa 97 1 1 fa97_1] rfl <| sC 1 [.slice a39 y34.Rows_.length c41] [_, _] 2 rfl ty95 rfl <| nR <| o1 rfl (rx 0 2 _ rfl ty97 rfl) <| sC 0 [.slice a30 y25.Rows_.length c32, .slice a39 y34.Rows_.length c41] [_, _] 1 rfl ty97 rfl <| nT <| x_retR (rs := [.cell 2 97]) (vs := [.agg #[.slice a30 y25.Rows_.length c32, .slice a39 y34.Rows_.length c41]]) rfl ⟨⟨_, [.slice a30 y25.Rows_.length c32, .slice a39 y34.Rows_.length c41], _, _, _, rfl, ty97, (at_box (T := 97) 0 (boxIn (i := 1) rfl) rfl), rfl, rfl⟩, trivial⟩ (fun w' hw' => by
  obtain rfl := of_some H
  exact ⟨_, rfl, a30, y25.Rows_.length, c32, F33, a39, y34.Rows_.length, c41, F42, rfl, hw'.sel [3, 4] rfl rfl⟩)
theorem laws_toMember_ok (w : World) {M0 : List Nat} {p0 : Tlaws_Member} {cs0 : List Value} {r : Timpl_Member} (H : laws_toMember p0 = some r) (HS : St w M0 [] w) (g0 : (eTlaws_Member).rd w M0 p0 cs0) :
    Calls Tryz.prog 77 #[.agg cs0.toArray] w (fun en w' => ∃ v, en = .returned v ∧ ∃ (a0 : Option Addr), ∃ (n0 : Nat), ∃ (c0 : Nat), ∃ (F0 : List Nat), ∃ (a1 : Option Addr), ∃ (n1 : Nat), ∃ (c1 : Nat), ∃ (F1 : List Nat), ∃ (a2 : Option Addr), ∃ (n2 : Nat), ∃ (c2 : Nat), ∃ (F2 : List Nat), ∃ (a3 : Option Addr), ∃ (n3 : Nat), ∃ (c3 : Nat), ∃ (F3 : List Nat), v = .agg #[.slice a0 n0 c0, .int .i64 r.Tree_.Seen_, .bool r.HasYoung_, .slice a1 n1 c1, .int .i64 r.Young_.Seen_, .slice a2 n2 c2, .slice a3 n3 c3] ∧ St w M0 [Res.own (eList (eTimpl_Node) 169) F0 r.Tree_.Nodes_ [.slice a0 n0 c0], Res.own (eList (eTimpl_Node) 169) F1 r.Young_.Nodes_ [.slice a1 n1 c1], Res.own (eList (eList eI 3) 39) F2 r.Det_.Warn_.Rows_ [.slice a2 n2 c2], Res.own (eList (eList eI 3) 39) F3 r.Det_.Drift_.Rows_ [.slice a3 n3 c3]] w') := by
 obtain ⟨c10, c11, c12, c13, rfl, g14, g15, g16, g17⟩ := rdo_Tlaws_Member g0
 obtain ⟨c18, c19, rfl, g20, g21⟩ := rdo_Tlaws_Tree g14
 obtain ⟨a22, c23, rfl⟩ := rd_sl1 g20
 obtain rfl := g21
 obtain rfl := g15
 obtain ⟨c24, c25, rfl, g26, g27⟩ := rdo_Tlaws_Tree g16
 obtain ⟨a28, c29, rfl⟩ := rd_sl1 g26
 obtain rfl := g27
 obtain ⟨c30, c31, rfl, g32, g33⟩ := rdo_Tlaws_Det g17
 obtain ⟨c34, rfl, g35⟩ := rdo_Tlaws_Window g32
 obtain ⟨a36, c37, rfl⟩ := rd_sl1 g35
 obtain ⟨c38, rfl, g39⟩ := rdo_Tlaws_Window g33
 obtain ⟨a40, c41, rfl⟩ := rd_sl1 g39
 unfold laws_toMember at H
 refine f_enter Tryz.func77 rfl Tryz.ntmps77 rfl (HS) <| sR <| ob _ rfl fun b42 => ow_alloc rfl rfl rfl rfl ty99 (fun _ => kp) fun b43 => nR <| ow_alloc rfl rfl rfl rfl ty99 (fun _ => kp) fun b44 => nR <| ow_batch [.fa 126 0 0 fa126_0] rfl <| o1 rfl (rx 0 0 _ rfl ty121 rfl) <| bE H fun y45 h46 H => ow_callS rfl fn114 rfl rfl rfl rfl (fun w1 hw1 => laws_toTree_ok w1 h46 (hw1.carve [] rfl rfl) (rdm_Tlaws_Tree (rds_bor g20 w1 hw1) rfl)) fun v47 w1 w2 hw1 hR49 => ?_
 obtain ⟨a50, n51, c52, F53, rfl, hS48⟩ := hR49
 obtain rfl := own_nS (i := 0) hS48 rfl
 refine ⟨St w M0 [_, _, _, _], hw1.comp [] rfl rfl hS48, fun _ _ => trivial, ?_⟩
 refine ow_batch [.fa 99 0 0 fa99_0] rfl <| sC 0 [.slice a50 y45.Nodes_.length c52, .int .i64 y45.Seen_] [_, _, _, _, _, _, _] 2 rfl ty93 rfl <| nR <| ow_batch [.fa 126 1 2 fa126_1] rfl <| o1 rfl (r1 2 0 rfl ty4 rfl) <| ow_batch [.fa 99 1 2 fa99_1] rfl <| sC 2 [.bool p0.HasYoung_] [_, _, _, _, _, _, _] 2 rfl ty4 rfl <| nR <| ow_batch [.fa 126 2 3 fa126_2] rfl <| o1 rfl (rx 3 0 _ rfl ty121 rfl) <| bE H fun y54 h55 H => ow_callS rfl fn114 rfl rfl rfl rfl (fun w1 hw1 => laws_toTree_ok w1 h55 (hw1.carve [] rfl rfl) (rdm_Tlaws_Tree (rds_bor g26 w1 hw1) rfl)) fun v56 w1 w2 hw1 hR58 => ?_
 obtain ⟨a59, n60, c61, F62, rfl, hS57⟩ := hR58
 obtain rfl := own_nS (i := 0) hS57 rfl
 refine ⟨St w M0 [_, _, _, _, _], hw1.comp [] rfl rfl hS57, fun _ _ => trivial, ?_⟩
 refine ow_batch [.fa 99 2 3 fa99_2] rfl <| sC 3 [.slice a59 y54.Nodes_.length c61, .int .i64 y54.Seen_] [_, _, _, _, _, _, _] 2 rfl ty93 rfl <| nR <| ow_batch [.fa 126 3 5 fa126_3] rfl <| o1 rfl (rx 5 0 _ rfl ty124 rfl) <| bE H fun y63 h64 H => ow_callS rfl fn115 rfl rfl rfl rfl (fun w1 hw1 => laws_toDet_ok w1 h64 (hw1.carve [] rfl rfl) (rdm_Tlaws_Det (rdm_Tlaws_Window (rds_bor g35 w1 hw1)) (rdm_Tlaws_Window (rds_bor g39 w1 hw1)))) fun v65 w1 w2 hw1 hR67 => ?_
 obtain ⟨a68, n69, c70, F71, a72, n73, c74, F75, rfl, hS66⟩ := hR67
 obtain rfl := own_nS (i := 0) hS66 rfl
 obtain rfl := own_nS (i := 1) hS66 rfl
 refine ⟨St w M0 [_, _, _, _, _, _, _], hw1.comp [] rfl rfl hS66, fun _ _ => trivial, ?_⟩
 exact ow_batch [.fa 99 3 5 fa99_3] rfl <| sC 5 [.slice a68 y63.Warn_.Rows_.length c70, .slice a72 y63.Drift_.Rows_.length c74] [_, _, _, _, _, _, _] 2 rfl ty97 rfl <| nR <| o1 rfl (rx 0 2 _ rfl ty99 rfl) <| sC 0 [.slice a50 y45.Nodes_.length c52, .int .i64 y45.Seen_, .bool p0.HasYoung_, .slice a59 y54.Nodes_.length c61, .int .i64 y54.Seen_, .slice a68 y63.Warn_.Rows_.length c70, .slice a72 y63.Drift_.Rows_.length c74] [_, _, _, _, _, _, _] 1 rfl ty99 rfl <| nT <| x_retR (rs := [.cell 2 99]) (vs := [.agg #[.slice a50 y45.Nodes_.length c52, .int .i64 y45.Seen_, .bool p0.HasYoung_, .slice a59 y54.Nodes_.length c61, .int .i64 y54.Seen_, .slice a68 y63.Warn_.Rows_.length c70, .slice a72 y63.Drift_.Rows_.length c74]]) rfl ⟨⟨_, [.slice a50 y45.Nodes_.length c52, .int .i64 y45.Seen_, .bool p0.HasYoung_, .slice a59 y54.Nodes_.length c61, .int .i64 y54.Seen_, .slice a68 y63.Warn_.Rows_.length c70, .slice a72 y63.Drift_.Rows_.length c74], _, _, _, rfl, ty99, (at_box (T := 99) 0 (boxIn (i := 1) rfl) rfl), rfl, rfl⟩, trivial⟩ (fun w' hw' => by
  obtain rfl := of_some H
  exact ⟨_, rfl, a50, y45.Nodes_.length, c52, F53, a59, y54.Nodes_.length, c61, F62, a68, y63.Warn_.Rows_.length, c70, F71, a72, y63.Drift_.Rows_.length, c74, F75, rfl, hw'.sel [3, 4, 5, 6] rfl rfl⟩)
theorem laws_toMemberS_ok (w : World) {M0 : List Nat} {p0 : List Tlaws_Member} {a_0 : Option Addr} {n_0 c_0 : Nat} {r : List Timpl_Member} (H : laws_toMemberS p0 = some r) (HS : St w M0 [] w) (g0 : (eList (eTlaws_Member) 126).rd w M0 p0 [.slice a_0 n_0 c_0]) :
    Calls Tryz.prog 45 #[.slice a_0 n_0 c_0] w (fun en w' => ∃ v, en = .returned v ∧ ∃ (a0 : Option Addr), ∃ (n0 : Nat), ∃ (c0 : Nat), ∃ (F0 : List Nat), v = .slice a0 n0 c0 ∧ St w M0 [Res.own (eList (eTimpl_Member) 99) F0 r [.slice a0 n0 c0]] w') := by
 obtain rfl := rd_n g0
 unfold laws_toMemberS at H
 refine f_enter Tryz.func45 rfl Tryz.ntmps45 rfl (HS) <| sR <| oP rfl <| nR <| ow_batch [.p, .lenS 30 126 sl30] rfl <| bE H fun l10 h11 H => ow_make (e := eTimpl_Member) (zero := ((Timpl_Member.mk (Timpl_Tree.mk [] 0) false (Timpl_Tree.mk [] 0) (Timpl_Det.mk (Timpl_Window.mk []) (Timpl_Window.mk []))) : Timpl_Member)) rfl rfl rfl rfl rfl rfl sl52 ty99 rfl rfl rfl rfl (fun _ => (ownm_Timpl_Member (x := (Timpl_Member.mk (Timpl_Tree.mk [] 0) false (Timpl_Tree.mk [] 0) (Timpl_Det.mk (Timpl_Window.mk []) (Timpl_Window.mk [])))) ((ownm_Timpl_Tree (x := (Timpl_Tree.mk [] 0)) ((.inl ⟨rfl, rfl, rfl⟩) : (eList (eTimpl_Node) 169).own _ [] ([] : List Timpl_Node) _) (⟨rfl, rfl⟩ : eI.own _ [] (0 : Int) _)) : (eTimpl_Tree).own _ [] ((Timpl_Tree.mk [] 0) : Timpl_Tree) _) (⟨rfl, rfl⟩ : (eBool).own _ [] (false : Bool) _) ((ownm_Timpl_Tree (x := (Timpl_Tree.mk [] 0)) ((.inl ⟨rfl, rfl, rfl⟩) : (eList (eTimpl_Node) 169).own _ [] ([] : List Timpl_Node) _) (⟨rfl, rfl⟩ : eI.own _ [] (0 : Int) _)) : (eTimpl_Tree).own _ [] ((Timpl_Tree.mk [] 0) : Timpl_Tree) _) ((ownm_Timpl_Det (x := (Timpl_Det.mk (Timpl_Window.mk []) (Timpl_Window.mk []))) ((ownm_Timpl_Window (x := (Timpl_Window.mk [])) ((.inl ⟨rfl, rfl, rfl⟩) : (eList (eList eI 3) 39).own _ [] ([] : List (List Int)) _)) : (eTimpl_Window).own _ [] ((Timpl_Window.mk []) : Timpl_Window) _) ((ownm_Timpl_Window (x := (Timpl_Window.mk [])) ((.inl ⟨rfl, rfl, rfl⟩) : (eList (eList eI 3) 39).own _ [] ([] : List (List Int)) _)) : (eTimpl_Window).own _ [] ((Timpl_Window.mk []) : Timpl_Window) _)) : (eTimpl_Det).own _ [] ((Timpl_Det.mk (Timpl_Window.mk []) (Timpl_Window.mk [])) : Timpl_Det) _))) h11 (fun _ => kp) fun b12 => oP rfl <| nQ <| c_seq <| sR <| oP rfl <| nQ <| c_block <| CW.at (loopI3 (fun (l99 : List Timpl_Member) (F100 : List Nat) (i101 : Int) => St w M0 [Res.own (eList (eTimpl_Member) 99) F100 l99 [.slice (some ⟨b12, 0, none⟩) l10.length l10.length]]) (fun l99 F100 i101 => [(0, .slice a_0 p0.length c_0), (3, .slice (some ⟨b12, 0, none⟩) l10.length l10.length), (4, .int .i64 i101)]) (fun kk => fun l99 F100 i101 => laws_toMemberS_L1 p0 kk l99 i101 = some r) (fun _ _ _ H => ?_) (fun k1 ihk1 l99 F100 i101 H => ?_) Fuel (l10) ([b12]) (0) (H)) (fun _ h => St.sel [0] rfl rfl h) ⟨rfl, rfl, rfl,  trivial⟩
 ·unfold laws_toMemberS_L1 at H
  exact absurd H (by simp)
 ·unfold laws_toMemberS_L1 at H
  refine c_seq <| sR <| ow_batch [.p, .p, .lenS 30 126 sl30, .p] rfl <| nQ <| cI H rfl (fun H => ?_) (fun H => ?_)
  ·refine c_skip <| x_qs <| c_seq <| c_block <| c_reg <| ow_batch [.p, .p, .p, .p] rfl <| bE H fun e188 h189 H => ow_ixB rfl rfl rfl rfl rfl sl30 ty126 rfl g0 h189 fun q192 c193 hd190 hA191 => ?_
   obtain ⟨c194, c195, c196, c197, rfl, g198, g199, g200, g201⟩ := rdo_Tlaws_Member hd190
   obtain ⟨c202, c203, rfl, g204, g205⟩ := rdo_Tlaws_Tree g198
   obtain ⟨a206, c207, rfl⟩ := rd_sl1 g204
   obtain rfl := g205
   obtain rfl := g199
   obtain ⟨c208, c209, rfl, g210, g211⟩ := rdo_Tlaws_Tree g200
   obtain ⟨a212, c213, rfl⟩ := rd_sl1 g210
   obtain rfl := g211
   obtain ⟨c214, c215, rfl, g216, g217⟩ := rdo_Tlaws_Det g201
   obtain ⟨c218, rfl, g219⟩ := rdo_Tlaws_Window g216
   obtain ⟨a220, c221, rfl⟩ := rd_sl1 g219
   obtain ⟨c222, rfl, g223⟩ := rdo_Tlaws_Window g217
   obtain ⟨a224, c225, rfl⟩ := rd_sl1 g223
   refine o1 rfl (ry_load (cs := [.slice a206 e188.Tree_.Nodes_.length c207, .int .i64 e188.Tree_.Seen_, .bool e188.HasYoung_, .slice a212 e188.Young_.Nodes_.length c213, .int .i64 e188.Young_.Seen_, .slice a220 e188.Det_.Warn_.Rows_.length c221, .slice a224 e188.Det_.Drift_.Rows_.length c225]) rfl rfl ty126 (at_bor bor hA191) rfl) <| bE H fun y226 h227 H => ow_callS rfl fn77 rfl rfl rfl rfl (fun w1 hw1 => laws_toMember_ok w1 h227 (hw1.carve [] rfl rfl) (rdm_Tlaws_Member (rdm_Tlaws_Tree (rds_bor g204 w1 hw1) rfl) rfl (rdm_Tlaws_Tree (rds_bor g210 w1 hw1) rfl) (rdm_Tlaws_Det (rdm_Tlaws_Window (rds_bor g219 w1 hw1)) (rdm_Tlaws_Window (rds_bor g223 w1 hw1))))) fun v228 w1 w2 hw1 hR230 => ?_
   obtain ⟨a231, n232, c233, F234, a235, n236, c237, F238, a239, n240, c241, F242, a243, n244, c245, F246, rfl, hS229⟩ := hR230
   obtain rfl := own_nS (i := 0) hS229 rfl
   obtain rfl := own_nS (i := 1) hS229 rfl
   obtain rfl := own_nS (i := 2) hS229 rfl
   obtain rfl := own_nS (i := 3) hS229 rfl
   refine ⟨St w M0 [_, _, _, _, _], hw1.comp [] rfl rfl hS229, fun _ _ => trivial, ?_⟩
   refine bE H fun e247 h248 H => ow_ex4 rfl (fun w1 hw1 => foc (r := 0) hw1 rfl h248) fun b250 G251 F252 c253 => ow_fact rfl (fun w1 hw1 => hw1.1) fun q249 => ?_
   obtain ⟨ha254, hn255⟩ := q249
   refine ow_st (C' := St w M0 [_, _, _, _, _, _, _]) rfl (fun w1 hw1 => hw1.2) <| ow_ex3 rfl (fun w1 hw1 => opn_Timpl_Member (i := 6) hw1 rfl) fun a257 c258 F259 => ow_ex3 rfl (fun _ h => h) fun a260 c261 F262 => ow_ex3 rfl (fun _ h => h) fun a263 c264 F265 => ow_ex3 rfl (fun _ h => h) fun a266 c267 F268 => ow_fact rfl (fun w1 hw1 => hw1.1) fun q256 => ?_
   subst q256
   refine ow_st (C' := St w M0 [_, _, _, _, _, _, _, _, _, _, _]) rfl (fun w1 hw1 => hw1.2) <| ow_ixH rfl rfl rfl rfl rfl sl52 ty99 rfl (holeIn (p := 5) rfl) hn255 ha254 (idx_some h248).1 <| ow_storeH (off := 0) [.slice a231 y226.Tree_.Nodes_.length c233, .int .i64 y226.Tree_.Seen_, .bool y226.HasYoung_, .slice a235 y226.Young_.Nodes_.length c237, .int .i64 y226.Young_.Seen_, .slice a239 y226.Det_.Warn_.Rows_.length c241, .slice a243 y226.Det_.Drift_.Rows_.length c245] (p := 5) (c' := [_, _, _, _, _, _, _]) rfl rfl rfl rfl rfl (by first | rfl | simp only [add_lit, add_add, add_zero]) rfl ty99 rfl rfl (by intro u hu; simp only [List.mem_cons, List.not_mem_nil, or_false] at hu; rcases hu with rfl | rfl | rfl | rfl | rfl | rfl | rfl <;> rfl) rfl rfl rfl kp <| ow_nil <| x_qb <| x_qs <| CW.weak (C' := St w M0 [_, _, _, _, _, _, _, _, _]) ?_ (fun _ h => St.sel [1, 2, 3, 4, 5, 7, 8, 9, 10] rfl rfl h)
   exact c_reg <| ow_batch [.p, .p, .p] rfl <| ow_nil <| xw_ex (fun w1 hw1 => fus_Timpl_Member (x1 := y226.Tree_.Seen_) (x2 := y226.HasYoung_) (x4 := y226.Young_.Seen_) [0, 1, 2, 3] hw1 rfl rfl) fun F269 => xw_st (C' := St w M0 [_, _, _, _, _, _, _, _, _, _]) (fun _ h => h) <| xw_ex (fun w1 hw1 => unf (p := 4) (q := 9) hw1 rfl rfl rfl hn255 ha254) fun F270 => xw_st (C' := St w M0 [_, _, _, _, _, _, _, _, _, _, _]) (fun _ h => h) <| x_ql (RW.at (ihk1 ((l99.set i101.toNat y226)) (F270) (IntKind.i64.wrap (i101 + 1)) (H)) (fun _ h => St.sel [10] rfl rfl h) ⟨rfl, rfl, rfl, trivial⟩)
  ·exact c_exit <| x_qs_exit <| x_ql_exit <| x_qb_here <| x_qs <| sR <| oPP rfl <| nT <| x_retR (rs := [.tmp 2]) (vs := [.slice (some ⟨b12, 0, none⟩) l10.length l10.length]) rfl ⟨rfl, trivial⟩ (fun w' hw' => by
    obtain rfl := of_some H
    exact ⟨_, rfl, (some ⟨b12, 0, none⟩), l10.length, l10.length, F100, rfl, hw'.sel [0] rfl rfl⟩)
theorem laws_toForest_ok (w : World) {M0 : List Nat} {p0 : Tlaws_Forest} {cs0 : List Value} {r : Timpl_Forest} (H : laws_toForest p0 = some r) (HS : St w M0 [] w) (g0 : (eTlaws_Forest).rd w M0 p0 cs0) :
    Calls Tryz.prog 23 #[.agg cs0.toArray] w (fun en w' => ∃ v, en = .returned v ∧ ∃ (a0 : Option Addr), ∃ (n0 : Nat), ∃ (c0 : Nat), ∃ (F0 : List Nat), v = .agg #[.slice a0 n0 c0] ∧ St w M0 [Res.own (eList (eTimpl_Member) 99) F0 r.Members_ [.slice a0 n0 c0]] w') := by
 obtain ⟨c10, rfl, g11⟩ := rdo_Tlaws_Forest g0
 obtain ⟨a12, c13, rfl⟩ := rd_sl1 g11
 unfold laws_toForest at H
 refine f_enter Tryz.func23 rfl Tryz.ntmps23 rfl (HS) <| sR <| ob _ rfl fun b14 => ow_alloc rfl rfl rfl rfl ty54 (fun _ => kp) fun b15 => nR <| ow_alloc rfl rfl rfl rfl ty54 (fun _ => kp) fun b16 => nR <| ow_batch [.fa 32 0 0 fa32_0] rfl <| o1 rfl (r1 0 0 rfl ty30 rfl) <| bE H fun y17 h18 H => ow_callS rfl fn45 rfl rfl rfl rfl (fun w1 hw1 => laws_toMemberS_ok w1  h18 (hw1.carve [] rfl rfl) (rds_bor g11 w1 hw1)) fun v19 w1 w2 hw1 hR21 => ?_
 obtain ⟨a22, n23, c24, F25, rfl, hS20⟩ := hR21
 obtain rfl := own_nS (i := 0) hS20 rfl
 refine ⟨St w M0 [_, _, _, _], hw1.comp [] rfl rfl hS20, fun _ _ => trivial, ?_⟩
 exact ow_batch [.fa 54 0 0 fa54_0] rfl <| sC 0 [.slice a22 y17.length c24] [_] 2 rfl ty52 rfl <| nR <| o1 rfl (rx 0 2 _ rfl ty54 rfl) <| sC 0 [.slice a22 y17.length c24] [_] 1 rfl ty54 rfl <| nT <| x_retR (rs := [.cell 2 54]) (vs := [.agg #[.slice a22 y17.length c24]]) rfl ⟨⟨_, [.slice a22 y17.length c24], _, _, _, rfl, ty54, (at_box (T := 54) 0 (boxIn (i := 1) rfl) rfl), rfl, rfl⟩, trivial⟩ (fun w' hw' => by
  obtain rfl := of_some H
  exact ⟨_, rfl, a22, y17.length, c24, F25, rfl, hw'.sel [3] rfl rfl⟩)
theorem laws_toPair_ok (w : World) {p0 : Tlaws_Pair}  {r : Timpl_Pair} (H : laws_toPair p0 = some r)   :
    Calls Tryz.prog 78 #[.agg #[.int .i64 p0.Truth_, .int .i64 p0.Said_]] w (fun en w' => en = .returned (.agg #[.int .i64 r.Truth_, .int .i64 r.Said_]) ∧ Ext [] w w') := by
 unfold laws_toPair at H
 exact f_enter Tryz.func78 rfl Tryz.ntmps78 rfl (St.init w []) <| sR <| ob _ rfl fun b10 => ow_alloc rfl rfl rfl rfl ty143 (fun _ => kp) fun b11 => nR <| ow_alloc rfl rfl rfl rfl ty143 (fun _ => kp) fun b12 => nR <| ow_batch [.fa 145 0 0 fa145_0] rfl <| o1 rfl (r1 0 0 rfl ty3 rfl) <| ow_batch [.fa 143 0 0 fa143_0] rfl <| sC 0 [.int .i64 p0.Truth_] [_, _] 2 rfl ty3 rfl <| nR <| ow_batch [.fa 145 1 1 fa145_1] rfl <| o1 rfl (r1 1 0 rfl ty3 rfl) <| ow_batch [.fa 143 1 1 fa143_1] rfl <| sC 1 [.int .i64 p0.Said_] [_, _] 2 rfl ty3 rfl <| nR <| o1 rfl (rx 0 2 _ rfl ty143 rfl) <| sC 0 [.int .i64 p0.Truth_, .int .i64 p0.Said_] [_, _] 1 rfl ty143 rfl <| nT <| x_retR (rs := [.cell 2 143]) (vs := [.agg #[.int .i64 p0.Truth_, .int .i64 p0.Said_]]) rfl ⟨⟨_, [.int .i64 p0.Truth_, .int .i64 p0.Said_], _, _, _, rfl, ty143, (at_box (T := 143) 0 (boxIn (i := 1) rfl) rfl), rfl, rfl⟩, trivial⟩ (fun w' hw' => by
  obtain rfl := of_some H
  exact ⟨rfl, hw'.ext⟩)
end Go.Vk
