/- The code does what the functions of data say. Printed by program. -/
import Derived.Test.YthhgdknldbbgoaaGreatRF
import Derived.Test.YthhgdknldbbgoaaGreatChecked
namespace Go.Vk
open Go.Proofs Go.RowKit
set_option maxHeartbeats 4000000
set_option maxRecDepth 100000
def eTlaws_Attr : Enc Tlaws_Attr := eIso (ePair (eStr) (ePair (eList eI 3) (eList (eStr) 9))) (fun x => (x.Name_, x.Cuts_, x.Values_))
theorem rdm_Tlaws_Attr {w : World} {X : List Nat} {x : Tlaws_Attr} {c0 c1 c2 : List Value} (h0 : (eStr).rd w X x.Name_ c0) (h1 : (eList eI 3).rd w X x.Cuts_ c1) (h2 : (eList (eStr) 9).rd w X x.Values_ c2) : (eTlaws_Attr).rd w X x (c0 ++ (c1 ++ c2)) := by
  show (ePair (eStr) (ePair (eList eI 3) (eList (eStr) 9))).rd w X (x.Name_, x.Cuts_, x.Values_) _
  exact (ePair_rd h0 (ePair_rd h1 h2))
theorem rdo_Tlaws_Attr {w : World} {X : List Nat} {x : Tlaws_Attr} {cs : List Value} (h : (eTlaws_Attr).rd w X x cs) : ∃ c0 c1 c2, cs = (c0 ++ (c1 ++ c2)) ∧ (eStr).rd w X x.Name_ c0 ∧ (eList eI 3).rd w X x.Cuts_ c1 ∧ (eList (eStr) 9).rd w X x.Values_ c2 := by
  have h : (ePair (eStr) (ePair (eList eI 3) (eList (eStr) 9))).rd w X (x.Name_, x.Cuts_, x.Values_) cs := h
  obtain ⟨c0, d0, rfl, h0, r0⟩ := h
  obtain ⟨c1, c2, rfl, h1, h2⟩ := r0
  exact ⟨c0, c1, c2, rfl, h0, h1, h2⟩
def eTlaws_Schema : Enc Tlaws_Schema := eIso (ePair (eList (eTlaws_Attr) 95) (eList (eStr) 9)) (fun x => (x.Attrs_, x.Classes_))
theorem rdm_Tlaws_Schema {w : World} {X : List Nat} {x : Tlaws_Schema} {c0 c1 : List Value} (h0 : (eList (eTlaws_Attr) 95).rd w X x.Attrs_ c0) (h1 : (eList (eStr) 9).rd w X x.Classes_ c1) : (eTlaws_Schema).rd w X x (c0 ++ c1) := by
  show (ePair (eList (eTlaws_Attr) 95) (eList (eStr) 9)).rd w X (x.Attrs_, x.Classes_) _
  exact (ePair_rd h0 h1)
theorem rdo_Tlaws_Schema {w : World} {X : List Nat} {x : Tlaws_Schema} {cs : List Value} (h : (eTlaws_Schema).rd w X x cs) : ∃ c0 c1, cs = (c0 ++ c1) ∧ (eList (eTlaws_Attr) 95).rd w X x.Attrs_ c0 ∧ (eList (eStr) 9).rd w X x.Classes_ c1 := by
  have h : (ePair (eList (eTlaws_Attr) 95) (eList (eStr) 9)).rd w X (x.Attrs_, x.Classes_) cs := h
  obtain ⟨c0, c1, rfl, h0, h1⟩ := h
  exact ⟨c0, c1, rfl, h0, h1⟩
def eTlaws_Stats : Enc Tlaws_Stats := eIso (ePair (eList eI 3) (eList (eList eI 3) 56)) (fun x => (x.Totals_, x.Cells_))
theorem rdm_Tlaws_Stats {w : World} {X : List Nat} {x : Tlaws_Stats} {c0 c1 : List Value} (h0 : (eList eI 3).rd w X x.Totals_ c0) (h1 : (eList (eList eI 3) 56).rd w X x.Cells_ c1) : (eTlaws_Stats).rd w X x (c0 ++ c1) := by
  show (ePair (eList eI 3) (eList (eList eI 3) 56)).rd w X (x.Totals_, x.Cells_) _
  exact (ePair_rd h0 h1)
theorem rdo_Tlaws_Stats {w : World} {X : List Nat} {x : Tlaws_Stats} {cs : List Value} (h : (eTlaws_Stats).rd w X x cs) : ∃ c0 c1, cs = (c0 ++ c1) ∧ (eList eI 3).rd w X x.Totals_ c0 ∧ (eList (eList eI 3) 56).rd w X x.Cells_ c1 := by
  have h : (ePair (eList eI 3) (eList (eList eI 3) 56)).rd w X (x.Totals_, x.Cells_) cs := h
  obtain ⟨c0, c1, rfl, h0, h1⟩ := h
  exact ⟨c0, c1, rfl, h0, h1⟩
def eTlaws_Fork : Enc Tlaws_Fork := eFlat (fun x => [.int .i64 x.Attr_, .int .i64 x.At_]) 2 (fun _ => rfl) (by intro x u hu; simp only [List.mem_cons, List.not_mem_nil, or_false] at hu; rcases hu with rfl | rfl <;> rfl)
def eTlaws_Node : Enc Tlaws_Node := eIso (ePair (eBool) (ePair (eTlaws_Fork) (ePair (eList eI 3) (ePair eI (ePair (eTlaws_Stats) (ePair eI (ePair (eList eI 3) (ePair eI (ePair eI eI))))))))) (fun x => (x.Leaf_, x.Fork_, x.Kids_, x.Miss_, x.Stats_, x.Since_, x.Attrs_, x.Depth_, x.Up_, x.Born_))
theorem rdm_Tlaws_Node {w : World} {X : List Nat} {x : Tlaws_Node} {c0 c1 c2 c3 c4 c5 c6 c7 c8 c9 : List Value} (h0 : (eBool).rd w X x.Leaf_ c0) (h1 : (eTlaws_Fork).rd w X x.Fork_ c1) (h2 : (eList eI 3).rd w X x.Kids_ c2) (h3 : eI.rd w X x.Miss_ c3) (h4 : (eTlaws_Stats).rd w X x.Stats_ c4) (h5 : eI.rd w X x.Since_ c5) (h6 : (eList eI 3).rd w X x.Attrs_ c6) (h7 : eI.rd w X x.Depth_ c7) (h8 : eI.rd w X x.Up_ c8) (h9 : eI.rd w X x.Born_ c9) : (eTlaws_Node).rd w X x (c0 ++ (c1 ++ (c2 ++ (c3 ++ (c4 ++ (c5 ++ (c6 ++ (c7 ++ (c8 ++ c9))))))))) := by
  show (ePair (eBool) (ePair (eTlaws_Fork) (ePair (eList eI 3) (ePair eI (ePair (eTlaws_Stats) (ePair eI (ePair (eList eI 3) (ePair eI (ePair eI eI))))))))).rd w X (x.Leaf_, x.Fork_, x.Kids_, x.Miss_, x.Stats_, x.Since_, x.Attrs_, x.Depth_, x.Up_, x.Born_) _
  exact (ePair_rd h0 (ePair_rd h1 (ePair_rd h2 (ePair_rd h3 (ePair_rd h4 (ePair_rd h5 (ePair_rd h6 (ePair_rd h7 (ePair_rd h8 h9)))))))))
theorem rdo_Tlaws_Node {w : World} {X : List Nat} {x : Tlaws_Node} {cs : List Value} (h : (eTlaws_Node).rd w X x cs) : ∃ c0 c1 c2 c3 c4 c5 c6 c7 c8 c9, cs = (c0 ++ (c1 ++ (c2 ++ (c3 ++ (c4 ++ (c5 ++ (c6 ++ (c7 ++ (c8 ++ c9))))))))) ∧ (eBool).rd w X x.Leaf_ c0 ∧ (eTlaws_Fork).rd w X x.Fork_ c1 ∧ (eList eI 3).rd w X x.Kids_ c2 ∧ eI.rd w X x.Miss_ c3 ∧ (eTlaws_Stats).rd w X x.Stats_ c4 ∧ eI.rd w X x.Since_ c5 ∧ (eList eI 3).rd w X x.Attrs_ c6 ∧ eI.rd w X x.Depth_ c7 ∧ eI.rd w X x.Up_ c8 ∧ eI.rd w X x.Born_ c9 := by
  have h : (ePair (eBool) (ePair (eTlaws_Fork) (ePair (eList eI 3) (ePair eI (ePair (eTlaws_Stats) (ePair eI (ePair (eList eI 3) (ePair eI (ePair eI eI))))))))).rd w X (x.Leaf_, x.Fork_, x.Kids_, x.Miss_, x.Stats_, x.Since_, x.Attrs_, x.Depth_, x.Up_, x.Born_) cs := h
  obtain ⟨c0, d0, rfl, h0, r0⟩ := h
  obtain ⟨c1, d1, rfl, h1, r1⟩ := r0
  obtain ⟨c2, d2, rfl, h2, r2⟩ := r1
  obtain ⟨c3, d3, rfl, h3, r3⟩ := r2
  obtain ⟨c4, d4, rfl, h4, r4⟩ := r3
  obtain ⟨c5, d5, rfl, h5, r5⟩ := r4
  obtain ⟨c6, d6, rfl, h6, r6⟩ := r5
  obtain ⟨c7, d7, rfl, h7, r7⟩ := r6
  obtain ⟨c8, c9, rfl, h8, h9⟩ := r7
  exact ⟨c0, c1, c2, c3, c4, c5, c6, c7, c8, c9, rfl, h0, h1, h2, h3, h4, h5, h6, h7, h8, h9⟩
def eTlaws_Tree : Enc Tlaws_Tree := eIso (ePair (eList (eTlaws_Node) 100) eI) (fun x => (x.Nodes_, x.Seen_))
theorem rdm_Tlaws_Tree {w : World} {X : List Nat} {x : Tlaws_Tree} {c0 c1 : List Value} (h0 : (eList (eTlaws_Node) 100).rd w X x.Nodes_ c0) (h1 : eI.rd w X x.Seen_ c1) : (eTlaws_Tree).rd w X x (c0 ++ c1) := by
  show (ePair (eList (eTlaws_Node) 100) eI).rd w X (x.Nodes_, x.Seen_) _
  exact (ePair_rd h0 h1)
theorem rdo_Tlaws_Tree {w : World} {X : List Nat} {x : Tlaws_Tree} {cs : List Value} (h : (eTlaws_Tree).rd w X x cs) : ∃ c0 c1, cs = (c0 ++ c1) ∧ (eList (eTlaws_Node) 100).rd w X x.Nodes_ c0 ∧ eI.rd w X x.Seen_ c1 := by
  have h : (ePair (eList (eTlaws_Node) 100) eI).rd w X (x.Nodes_, x.Seen_) cs := h
  obtain ⟨c0, c1, rfl, h0, h1⟩ := h
  exact ⟨c0, c1, rfl, h0, h1⟩
def eTlaws_Ex : Enc Tlaws_Ex := eIso (ePair (eList eI 3) eI) (fun x => (x.Bins_, x.Class_))
theorem rdm_Tlaws_Ex {w : World} {X : List Nat} {x : Tlaws_Ex} {c0 c1 : List Value} (h0 : (eList eI 3).rd w X x.Bins_ c0) (h1 : eI.rd w X x.Class_ c1) : (eTlaws_Ex).rd w X x (c0 ++ c1) := by
  show (ePair (eList eI 3) eI).rd w X (x.Bins_, x.Class_) _
  exact (ePair_rd h0 h1)
theorem rdo_Tlaws_Ex {w : World} {X : List Nat} {x : Tlaws_Ex} {cs : List Value} (h : (eTlaws_Ex).rd w X x cs) : ∃ c0 c1, cs = (c0 ++ c1) ∧ (eList eI 3).rd w X x.Bins_ c0 ∧ eI.rd w X x.Class_ c1 := by
  have h : (ePair (eList eI 3) eI).rd w X (x.Bins_, x.Class_) cs := h
  obtain ⟨c0, c1, rfl, h0, h1⟩ := h
  exact ⟨c0, c1, rfl, h0, h1⟩
def eTlaws_Entry : Enc Tlaws_Entry := eIso (ePair (eTlaws_Ex) eI) (fun x => (x.Ex_, x.Weight_))
theorem rdm_Tlaws_Entry {w : World} {X : List Nat} {x : Tlaws_Entry} {c0 c1 : List Value} (h0 : (eTlaws_Ex).rd w X x.Ex_ c0) (h1 : eI.rd w X x.Weight_ c1) : (eTlaws_Entry).rd w X x (c0 ++ c1) := by
  show (ePair (eTlaws_Ex) eI).rd w X (x.Ex_, x.Weight_) _
  exact (ePair_rd h0 h1)
theorem rdo_Tlaws_Entry {w : World} {X : List Nat} {x : Tlaws_Entry} {cs : List Value} (h : (eTlaws_Entry).rd w X x cs) : ∃ c0 c1, cs = (c0 ++ c1) ∧ (eTlaws_Ex).rd w X x.Ex_ c0 ∧ eI.rd w X x.Weight_ c1 := by
  have h : (ePair (eTlaws_Ex) eI).rd w X (x.Ex_, x.Weight_) cs := h
  obtain ⟨c0, c1, rfl, h0, h1⟩ := h
  exact ⟨c0, c1, rfl, h0, h1⟩
def eTimpl_Attr : Enc Timpl_Attr := eIso (ePair (eStr) (ePair (eList eI 3) (eList (eStr) 9))) (fun x => (x.Name_, x.Cuts_, x.Values_))
theorem rdm_Timpl_Attr {w : World} {X : List Nat} {x : Timpl_Attr} {c0 c1 c2 : List Value} (h0 : (eStr).rd w X x.Name_ c0) (h1 : (eList eI 3).rd w X x.Cuts_ c1) (h2 : (eList (eStr) 9).rd w X x.Values_ c2) : (eTimpl_Attr).rd w X x (c0 ++ (c1 ++ c2)) := by
  show (ePair (eStr) (ePair (eList eI 3) (eList (eStr) 9))).rd w X (x.Name_, x.Cuts_, x.Values_) _
  exact (ePair_rd h0 (ePair_rd h1 h2))
theorem rdo_Timpl_Attr {w : World} {X : List Nat} {x : Timpl_Attr} {cs : List Value} (h : (eTimpl_Attr).rd w X x cs) : ∃ c0 c1 c2, cs = (c0 ++ (c1 ++ c2)) ∧ (eStr).rd w X x.Name_ c0 ∧ (eList eI 3).rd w X x.Cuts_ c1 ∧ (eList (eStr) 9).rd w X x.Values_ c2 := by
  have h : (ePair (eStr) (ePair (eList eI 3) (eList (eStr) 9))).rd w X (x.Name_, x.Cuts_, x.Values_) cs := h
  obtain ⟨c0, d0, rfl, h0, r0⟩ := h
  obtain ⟨c1, c2, rfl, h1, h2⟩ := r0
  exact ⟨c0, c1, c2, rfl, h0, h1, h2⟩
theorem ownm_Timpl_Attr {w : World} {F0 F1 F2 : List Nat} {x : Timpl_Attr} {c0 c1 c2 : List Value} (h0 : (eStr).own w F0 x.Name_ c0) (h1 : (eList eI 3).own w F1 x.Cuts_ c1) (h2 : (eList (eStr) 9).own w F2 x.Values_ c2) : (eTimpl_Attr).own w (F0 ++ (F1 ++ F2)) x (c0 ++ (c1 ++ c2)) := by
  show (ePair (eStr) (ePair (eList eI 3) (eList (eStr) 9))).own w _ (x.Name_, x.Cuts_, x.Values_) _
  exact (ePair_own h0 (ePair_own h1 h2))
theorem owno_Timpl_Attr {w : World} {F : List Nat} {x : Timpl_Attr} {cs : List Value} (h : (eTimpl_Attr).own w F x cs) : ∃ F0 F1 F2 c0 c1 c2, F = (F0 ++ (F1 ++ F2)) ∧ cs = (c0 ++ (c1 ++ c2)) ∧ (eStr).own w F0 x.Name_ c0 ∧ (eList eI 3).own w F1 x.Cuts_ c1 ∧ (eList (eStr) 9).own w F2 x.Values_ c2 := by
  have h : (ePair (eStr) (ePair (eList eI 3) (eList (eStr) 9))).own w F (x.Name_, x.Cuts_, x.Values_) cs := h
  obtain ⟨F0, G0, c0, d0, rfl, rfl, h0, r0⟩ := h
  obtain ⟨F1, F2, c1, c2, rfl, rfl, h1, h2⟩ := r0
  exact ⟨F0, F1, F2, c0, c1, c2, rfl, rfl, h0, h1, h2⟩
theorem opn_Timpl_Attr {w0 : World} {M : List Nat} {L : List Res} {w : World} {F : List Nat} {x : Timpl_Attr} {cs : List Value} {i : Nat} (h : St w0 M L w) (hi : L[i]? = some (Res.own (eTimpl_Attr) F x cs)) :
    ∃ (a_1 : Option Addr) (k_1 : Nat) (F_1 : List Nat), ∃ (a_2 : Option Addr) (k_2 : Nat) (F_2 : List Nat), cs = [vS x.Name_, .slice a_1 (x.Cuts_).length k_1, .slice a_2 (x.Values_).length k_2] ∧ St w0 M (nilAt L [i] ++ [Res.own (eList eI 3) F_1 x.Cuts_ [.slice a_1 (x.Cuts_).length k_1], Res.own (eList (eStr) 9) F_2 x.Values_ [.slice a_2 (x.Values_).length k_2]]) w := by
  obtain ⟨hok, _, _⟩ := h.one hi
  have hok : (eTimpl_Attr).own w F x cs := hok
  obtain ⟨F1_0, F1_1, F1_2, c1_0, c1_1, c1_2, rfl, rfl, h1_0, h1_1, h1_2⟩ := owno_Timpl_Attr hok
  obtain ⟨rfl, rfl⟩ : F1_0 = [] ∧ c1_0 = [vS x.Name_] := h1_0
  obtain ⟨a2, k2, rfl⟩ := own_sl1 h1_1
  obtain ⟨a3, k3, rfl⟩ := own_sl1 h1_2
  refine ⟨a2, k2, F1_1, a3, k3, F1_2, rfl, h.re [i] _ rfl ?_ ?_⟩
  · simp [selR_cons, selR_nil, hi, foot, Res.own]
  · intro s hs; simp only [List.mem_cons, List.not_mem_nil, or_false] at hs; rcases hs with rfl | rfl
    · exact h1_1
    · exact h1_2
theorem fus_Timpl_Attr {w0 : World} {M : List Nat} {L : List Res} {w : World} {x0 : List UInt8} {x1 : List Int} {a1 : Option Addr} {n1 k1 : Nat} {G1 : List Nat} {x2 : List (List UInt8)} {a2 : Option Addr} {n2 k2 : Nat} {G2 : List Nat} (idx : List Nat) (h : St w0 M L w) (hs : selR L idx = [Res.own (eList eI 3) G1 x1 [.slice a1 n1 k1], Res.own (eList (eStr) 9) G2 x2 [.slice a2 n2 k2]]) (hn : nodB idx = true) :
    ∃ F, St w0 M (nilAt L idx ++ [Res.own (eTimpl_Attr) F (Timpl_Attr.mk x0 x1 x2) [vS x0, .slice a1 n1 k1, .slice a2 n2 k2]]) w := by
  have o0 : (eList eI 3).own w G1 x1 [.slice a1 n1 k1] := h.ok' (mem_sel (L := L) (is := idx) (by rw [hs]; simp : Res.own (eList eI 3) G1 x1 [.slice a1 n1 k1] ∈ selR L idx))
  have o1 : (eList (eStr) 9).own w G2 x2 [.slice a2 n2 k2] := h.ok' (mem_sel (L := L) (is := idx) (by rw [hs]; simp : Res.own (eList (eStr) 9) G2 x2 [.slice a2 n2 k2] ∈ selR L idx))
  have ho := (ownm_Timpl_Attr (x := (Timpl_Attr.mk x0 x1 x2)) (⟨rfl, rfl⟩ : (eStr).own w [] _ _) o0 o1)
  refine ⟨_, h.re idx [Res.own (eTimpl_Attr) _ (Timpl_Attr.mk x0 x1 x2) [vS x0, .slice a1 n1 k1, .slice a2 n2 k2]] hn ?_ (fun s hs => by rw [List.mem_singleton.1 hs]; exact ho)⟩
  rw [hs]
  simp [foot, Res.own]
def eTimpl_Fork : Enc Timpl_Fork := eFlat (fun x => [.int .i64 x.Attr_, .int .i64 x.At_]) 2 (fun _ => rfl) (by intro x u hu; simp only [List.mem_cons, List.not_mem_nil, or_false] at hu; rcases hu with rfl | rfl <;> rfl)
def eTimpl_Stats : Enc Timpl_Stats := eIso (ePair (eList eI 3) (eList (eList eI 3) 56)) (fun x => (x.Totals_, x.Cells_))
theorem rdm_Timpl_Stats {w : World} {X : List Nat} {x : Timpl_Stats} {c0 c1 : List Value} (h0 : (eList eI 3).rd w X x.Totals_ c0) (h1 : (eList (eList eI 3) 56).rd w X x.Cells_ c1) : (eTimpl_Stats).rd w X x (c0 ++ c1) := by
  show (ePair (eList eI 3) (eList (eList eI 3) 56)).rd w X (x.Totals_, x.Cells_) _
  exact (ePair_rd h0 h1)
theorem rdo_Timpl_Stats {w : World} {X : List Nat} {x : Timpl_Stats} {cs : List Value} (h : (eTimpl_Stats).rd w X x cs) : ∃ c0 c1, cs = (c0 ++ c1) ∧ (eList eI 3).rd w X x.Totals_ c0 ∧ (eList (eList eI 3) 56).rd w X x.Cells_ c1 := by
  have h : (ePair (eList eI 3) (eList (eList eI 3) 56)).rd w X (x.Totals_, x.Cells_) cs := h
  obtain ⟨c0, c1, rfl, h0, h1⟩ := h
  exact ⟨c0, c1, rfl, h0, h1⟩
theorem ownm_Timpl_Stats {w : World} {F0 F1 : List Nat} {x : Timpl_Stats} {c0 c1 : List Value} (h0 : (eList eI 3).own w F0 x.Totals_ c0) (h1 : (eList (eList eI 3) 56).own w F1 x.Cells_ c1) : (eTimpl_Stats).own w (F0 ++ F1) x (c0 ++ c1) := by
  show (ePair (eList eI 3) (eList (eList eI 3) 56)).own w _ (x.Totals_, x.Cells_) _
  exact (ePair_own h0 h1)
theorem owno_Timpl_Stats {w : World} {F : List Nat} {x : Timpl_Stats} {cs : List Value} (h : (eTimpl_Stats).own w F x cs) : ∃ F0 F1 c0 c1, F = (F0 ++ F1) ∧ cs = (c0 ++ c1) ∧ (eList eI 3).own w F0 x.Totals_ c0 ∧ (eList (eList eI 3) 56).own w F1 x.Cells_ c1 := by
  have h : (ePair (eList eI 3) (eList (eList eI 3) 56)).own w F (x.Totals_, x.Cells_) cs := h
  obtain ⟨F0, F1, c0, c1, rfl, rfl, h0, h1⟩ := h
  exact ⟨F0, F1, c0, c1, rfl, rfl, h0, h1⟩
def eTimpl_Node : Enc Timpl_Node := eIso (ePair (eBool) (ePair (eTimpl_Fork) (ePair (eList eI 3) (ePair eI (ePair (eTimpl_Stats) (ePair eI (ePair (eList eI 3) (ePair eI (ePair eI eI))))))))) (fun x => (x.Leaf_, x.Fork_, x.Kids_, x.Miss_, x.Stats_, x.Since_, x.Attrs_, x.Depth_, x.Up_, x.Born_))
theorem rdm_Timpl_Node {w : World} {X : List Nat} {x : Timpl_Node} {c0 c1 c2 c3 c4 c5 c6 c7 c8 c9 : List Value} (h0 : (eBool).rd w X x.Leaf_ c0) (h1 : (eTimpl_Fork).rd w X x.Fork_ c1) (h2 : (eList eI 3).rd w X x.Kids_ c2) (h3 : eI.rd w X x.Miss_ c3) (h4 : (eTimpl_Stats).rd w X x.Stats_ c4) (h5 : eI.rd w X x.Since_ c5) (h6 : (eList eI 3).rd w X x.Attrs_ c6) (h7 : eI.rd w X x.Depth_ c7) (h8 : eI.rd w X x.Up_ c8) (h9 : eI.rd w X x.Born_ c9) : (eTimpl_Node).rd w X x (c0 ++ (c1 ++ (c2 ++ (c3 ++ (c4 ++ (c5 ++ (c6 ++ (c7 ++ (c8 ++ c9))))))))) := by
  show (ePair (eBool) (ePair (eTimpl_Fork) (ePair (eList eI 3) (ePair eI (ePair (eTimpl_Stats) (ePair eI (ePair (eList eI 3) (ePair eI (ePair eI eI))))))))).rd w X (x.Leaf_, x.Fork_, x.Kids_, x.Miss_, x.Stats_, x.Since_, x.Attrs_, x.Depth_, x.Up_, x.Born_) _
  exact (ePair_rd h0 (ePair_rd h1 (ePair_rd h2 (ePair_rd h3 (ePair_rd h4 (ePair_rd h5 (ePair_rd h6 (ePair_rd h7 (ePair_rd h8 h9)))))))))
theorem rdo_Timpl_Node {w : World} {X : List Nat} {x : Timpl_Node} {cs : List Value} (h : (eTimpl_Node).rd w X x cs) : ∃ c0 c1 c2 c3 c4 c5 c6 c7 c8 c9, cs = (c0 ++ (c1 ++ (c2 ++ (c3 ++ (c4 ++ (c5 ++ (c6 ++ (c7 ++ (c8 ++ c9))))))))) ∧ (eBool).rd w X x.Leaf_ c0 ∧ (eTimpl_Fork).rd w X x.Fork_ c1 ∧ (eList eI 3).rd w X x.Kids_ c2 ∧ eI.rd w X x.Miss_ c3 ∧ (eTimpl_Stats).rd w X x.Stats_ c4 ∧ eI.rd w X x.Since_ c5 ∧ (eList eI 3).rd w X x.Attrs_ c6 ∧ eI.rd w X x.Depth_ c7 ∧ eI.rd w X x.Up_ c8 ∧ eI.rd w X x.Born_ c9 := by
  have h : (ePair (eBool) (ePair (eTimpl_Fork) (ePair (eList eI 3) (ePair eI (ePair (eTimpl_Stats) (ePair eI (ePair (eList eI 3) (ePair eI (ePair eI eI))))))))).rd w X (x.Leaf_, x.Fork_, x.Kids_, x.Miss_, x.Stats_, x.Since_, x.Attrs_, x.Depth_, x.Up_, x.Born_) cs := h
  obtain ⟨c0, d0, rfl, h0, r0⟩ := h
  obtain ⟨c1, d1, rfl, h1, r1⟩ := r0
  obtain ⟨c2, d2, rfl, h2, r2⟩ := r1
  obtain ⟨c3, d3, rfl, h3, r3⟩ := r2
  obtain ⟨c4, d4, rfl, h4, r4⟩ := r3
  obtain ⟨c5, d5, rfl, h5, r5⟩ := r4
  obtain ⟨c6, d6, rfl, h6, r6⟩ := r5
  obtain ⟨c7, d7, rfl, h7, r7⟩ := r6
  obtain ⟨c8, c9, rfl, h8, h9⟩ := r7
  exact ⟨c0, c1, c2, c3, c4, c5, c6, c7, c8, c9, rfl, h0, h1, h2, h3, h4, h5, h6, h7, h8, h9⟩
theorem ownm_Timpl_Node {w : World} {F0 F1 F2 F3 F4 F5 F6 F7 F8 F9 : List Nat} {x : Timpl_Node} {c0 c1 c2 c3 c4 c5 c6 c7 c8 c9 : List Value} (h0 : (eBool).own w F0 x.Leaf_ c0) (h1 : (eTimpl_Fork).own w F1 x.Fork_ c1) (h2 : (eList eI 3).own w F2 x.Kids_ c2) (h3 : eI.own w F3 x.Miss_ c3) (h4 : (eTimpl_Stats).own w F4 x.Stats_ c4) (h5 : eI.own w F5 x.Since_ c5) (h6 : (eList eI 3).own w F6 x.Attrs_ c6) (h7 : eI.own w F7 x.Depth_ c7) (h8 : eI.own w F8 x.Up_ c8) (h9 : eI.own w F9 x.Born_ c9) : (eTimpl_Node).own w (F0 ++ (F1 ++ (F2 ++ (F3 ++ (F4 ++ (F5 ++ (F6 ++ (F7 ++ (F8 ++ F9))))))))) x (c0 ++ (c1 ++ (c2 ++ (c3 ++ (c4 ++ (c5 ++ (c6 ++ (c7 ++ (c8 ++ c9))))))))) := by
  show (ePair (eBool) (ePair (eTimpl_Fork) (ePair (eList eI 3) (ePair eI (ePair (eTimpl_Stats) (ePair eI (ePair (eList eI 3) (ePair eI (ePair eI eI))))))))).own w _ (x.Leaf_, x.Fork_, x.Kids_, x.Miss_, x.Stats_, x.Since_, x.Attrs_, x.Depth_, x.Up_, x.Born_) _
  exact (ePair_own h0 (ePair_own h1 (ePair_own h2 (ePair_own h3 (ePair_own h4 (ePair_own h5 (ePair_own h6 (ePair_own h7 (ePair_own h8 h9)))))))))
theorem owno_Timpl_Node {w : World} {F : List Nat} {x : Timpl_Node} {cs : List Value} (h : (eTimpl_Node).own w F x cs) : ∃ F0 F1 F2 F3 F4 F5 F6 F7 F8 F9 c0 c1 c2 c3 c4 c5 c6 c7 c8 c9, F = (F0 ++ (F1 ++ (F2 ++ (F3 ++ (F4 ++ (F5 ++ (F6 ++ (F7 ++ (F8 ++ F9))))))))) ∧ cs = (c0 ++ (c1 ++ (c2 ++ (c3 ++ (c4 ++ (c5 ++ (c6 ++ (c7 ++ (c8 ++ c9))))))))) ∧ (eBool).own w F0 x.Leaf_ c0 ∧ (eTimpl_Fork).own w F1 x.Fork_ c1 ∧ (eList eI 3).own w F2 x.Kids_ c2 ∧ eI.own w F3 x.Miss_ c3 ∧ (eTimpl_Stats).own w F4 x.Stats_ c4 ∧ eI.own w F5 x.Since_ c5 ∧ (eList eI 3).own w F6 x.Attrs_ c6 ∧ eI.own w F7 x.Depth_ c7 ∧ eI.own w F8 x.Up_ c8 ∧ eI.own w F9 x.Born_ c9 := by
  have h : (ePair (eBool) (ePair (eTimpl_Fork) (ePair (eList eI 3) (ePair eI (ePair (eTimpl_Stats) (ePair eI (ePair (eList eI 3) (ePair eI (ePair eI eI))))))))).own w F (x.Leaf_, x.Fork_, x.Kids_, x.Miss_, x.Stats_, x.Since_, x.Attrs_, x.Depth_, x.Up_, x.Born_) cs := h
  obtain ⟨F0, G0, c0, d0, rfl, rfl, h0, r0⟩ := h
  obtain ⟨F1, G1, c1, d1, rfl, rfl, h1, r1⟩ := r0
  obtain ⟨F2, G2, c2, d2, rfl, rfl, h2, r2⟩ := r1
  obtain ⟨F3, G3, c3, d3, rfl, rfl, h3, r3⟩ := r2
  obtain ⟨F4, G4, c4, d4, rfl, rfl, h4, r4⟩ := r3
  obtain ⟨F5, G5, c5, d5, rfl, rfl, h5, r5⟩ := r4
  obtain ⟨F6, G6, c6, d6, rfl, rfl, h6, r6⟩ := r5
  obtain ⟨F7, G7, c7, d7, rfl, rfl, h7, r7⟩ := r6
  obtain ⟨F8, F9, c8, c9, rfl, rfl, h8, h9⟩ := r7
  exact ⟨F0, F1, F2, F3, F4, F5, F6, F7, F8, F9, c0, c1, c2, c3, c4, c5, c6, c7, c8, c9, rfl, rfl, h0, h1, h2, h3, h4, h5, h6, h7, h8, h9⟩
theorem opn_Timpl_Node {w0 : World} {M : List Nat} {L : List Res} {w : World} {F : List Nat} {x : Timpl_Node} {cs : List Value} {i : Nat} (h : St w0 M L w) (hi : L[i]? = some (Res.own (eTimpl_Node) F x cs)) :
    ∃ (a_1 : Option Addr) (k_1 : Nat) (F_1 : List Nat), ∃ (a_2 : Option Addr) (k_2 : Nat) (F_2 : List Nat), ∃ (a_3 : Option Addr) (k_3 : Nat) (F_3 : List Nat), ∃ (a_4 : Option Addr) (k_4 : Nat) (F_4 : List Nat), cs = [.bool x.Leaf_, .int .i64 x.Fork_.Attr_, .int .i64 x.Fork_.At_, .slice a_1 (x.Kids_).length k_1, .int .i64 x.Miss_, .slice a_2 (x.Stats_.Totals_).length k_2, .slice a_3 (x.Stats_.Cells_).length k_3, .int .i64 x.Since_, .slice a_4 (x.Attrs_).length k_4, .int .i64 x.Depth_, .int .i64 x.Up_, .int .i64 x.Born_] ∧ St w0 M (nilAt L [i] ++ [Res.own (eList eI 3) F_1 x.Kids_ [.slice a_1 (x.Kids_).length k_1], Res.own (eList eI 3) F_2 x.Stats_.Totals_ [.slice a_2 (x.Stats_.Totals_).length k_2], Res.own (eList (eList eI 3) 56) F_3 x.Stats_.Cells_ [.slice a_3 (x.Stats_.Cells_).length k_3], Res.own (eList eI 3) F_4 x.Attrs_ [.slice a_4 (x.Attrs_).length k_4]]) w := by
  obtain ⟨hok, _, _⟩ := h.one hi
  have hok : (eTimpl_Node).own w F x cs := hok
  obtain ⟨F1_0, F1_1, F1_2, F1_3, F1_4, F1_5, F1_6, F1_7, F1_8, F1_9, c1_0, c1_1, c1_2, c1_3, c1_4, c1_5, c1_6, c1_7, c1_8, c1_9, rfl, rfl, h1_0, h1_1, h1_2, h1_3, h1_4, h1_5, h1_6, h1_7, h1_8, h1_9⟩ := owno_Timpl_Node hok
  obtain ⟨rfl, rfl⟩ : F1_0 = [] ∧ c1_0 = [.bool x.Leaf_] := h1_0
  obtain ⟨rfl, rfl⟩ : F1_1 = [] ∧ c1_1 = [.int .i64 x.Fork_.Attr_, .int .i64 x.Fork_.At_] := h1_1
  obtain ⟨a2, k2, rfl⟩ := own_sl1 h1_2
  obtain ⟨rfl, rfl⟩ : F1_3 = [] ∧ c1_3 = [.int .i64 x.Miss_] := h1_3
  obtain ⟨F3_0, F3_1, c3_0, c3_1, rfl, rfl, h3_0, h3_1⟩ := owno_Timpl_Stats h1_4
  obtain ⟨a4, k4, rfl⟩ := own_sl1 h3_0
  obtain ⟨a5, k5, rfl⟩ := own_sl1 h3_1
  obtain ⟨rfl, rfl⟩ : F1_5 = [] ∧ c1_5 = [.int .i64 x.Since_] := h1_5
  obtain ⟨a6, k6, rfl⟩ := own_sl1 h1_6
  obtain ⟨rfl, rfl⟩ : F1_7 = [] ∧ c1_7 = [.int .i64 x.Depth_] := h1_7
  obtain ⟨rfl, rfl⟩ : F1_8 = [] ∧ c1_8 = [.int .i64 x.Up_] := h1_8
  obtain ⟨rfl, rfl⟩ : F1_9 = [] ∧ c1_9 = [.int .i64 x.Born_] := h1_9
  refine ⟨a2, k2, F1_2, a4, k4, F3_0, a5, k5, F3_1, a6, k6, F1_6, rfl, h.re [i] _ rfl ?_ ?_⟩
  · simp [selR_cons, selR_nil, hi, foot, Res.own]
  · intro s hs; simp only [List.mem_cons, List.not_mem_nil, or_false] at hs; rcases hs with rfl | rfl | rfl | rfl
    · exact h1_2
    · exact h3_0
    · exact h3_1
    · exact h1_6
theorem fus_Timpl_Node {w0 : World} {M : List Nat} {L : List Res} {w : World} {x0 : Bool} {x1 : Int} {x2 : Int} {x3 : List Int} {a3 : Option Addr} {n3 k3 : Nat} {G3 : List Nat} {x4 : Int} {x5 : List Int} {a5 : Option Addr} {n5 k5 : Nat} {G5 : List Nat} {x6 : List (List Int)} {a6 : Option Addr} {n6 k6 : Nat} {G6 : List Nat} {x7 : Int} {x8 : List Int} {a8 : Option Addr} {n8 k8 : Nat} {G8 : List Nat} {x9 : Int} {x10 : Int} {x11 : Int} (idx : List Nat) (h : St w0 M L w) (hs : selR L idx = [Res.own (eList eI 3) G3 x3 [.slice a3 n3 k3], Res.own (eList eI 3) G5 x5 [.slice a5 n5 k5], Res.own (eList (eList eI 3) 56) G6 x6 [.slice a6 n6 k6], Res.own (eList eI 3) G8 x8 [.slice a8 n8 k8]]) (hn : nodB idx = true) :
    ∃ F, St w0 M (nilAt L idx ++ [Res.own (eTimpl_Node) F (Timpl_Node.mk x0 (Timpl_Fork.mk x1 x2) x3 x4 (Timpl_Stats.mk x5 x6) x7 x8 x9 x10 x11) [.bool x0, .int .i64 x1, .int .i64 x2, .slice a3 n3 k3, .int .i64 x4, .slice a5 n5 k5, .slice a6 n6 k6, .int .i64 x7, .slice a8 n8 k8, .int .i64 x9, .int .i64 x10, .int .i64 x11]]) w := by
  have o0 : (eList eI 3).own w G3 x3 [.slice a3 n3 k3] := h.ok' (mem_sel (L := L) (is := idx) (by rw [hs]; simp : Res.own (eList eI 3) G3 x3 [.slice a3 n3 k3] ∈ selR L idx))
  have o1 : (eList eI 3).own w G5 x5 [.slice a5 n5 k5] := h.ok' (mem_sel (L := L) (is := idx) (by rw [hs]; simp : Res.own (eList eI 3) G5 x5 [.slice a5 n5 k5] ∈ selR L idx))
  have o2 : (eList (eList eI 3) 56).own w G6 x6 [.slice a6 n6 k6] := h.ok' (mem_sel (L := L) (is := idx) (by rw [hs]; simp : Res.own (eList (eList eI 3) 56) G6 x6 [.slice a6 n6 k6] ∈ selR L idx))
  have o3 : (eList eI 3).own w G8 x8 [.slice a8 n8 k8] := h.ok' (mem_sel (L := L) (is := idx) (by rw [hs]; simp : Res.own (eList eI 3) G8 x8 [.slice a8 n8 k8] ∈ selR L idx))
  have ho := (ownm_Timpl_Node (x := (Timpl_Node.mk x0 (Timpl_Fork.mk x1 x2) x3 x4 (Timpl_Stats.mk x5 x6) x7 x8 x9 x10 x11)) (⟨rfl, rfl⟩ : (eBool).own w [] _ _) (⟨rfl, rfl⟩ : (eTimpl_Fork).own w [] _ _) o0 (⟨rfl, rfl⟩ : eI.own w [] _ _) (ownm_Timpl_Stats (x := (Timpl_Stats.mk x5 x6)) o1 o2) (⟨rfl, rfl⟩ : eI.own w [] _ _) o3 (⟨rfl, rfl⟩ : eI.own w [] _ _) (⟨rfl, rfl⟩ : eI.own w [] _ _) (⟨rfl, rfl⟩ : eI.own w [] _ _))
  refine ⟨_, h.re idx [Res.own (eTimpl_Node) _ (Timpl_Node.mk x0 (Timpl_Fork.mk x1 x2) x3 x4 (Timpl_Stats.mk x5 x6) x7 x8 x9 x10 x11) [.bool x0, .int .i64 x1, .int .i64 x2, .slice a3 n3 k3, .int .i64 x4, .slice a5 n5 k5, .slice a6 n6 k6, .int .i64 x7, .slice a8 n8 k8, .int .i64 x9, .int .i64 x10, .int .i64 x11]] hn ?_ (fun s hs => by rw [List.mem_singleton.1 hs]; exact ho)⟩
  rw [hs]
  simp [foot, Res.own]
def eTimpl_Ex : Enc Timpl_Ex := eIso (ePair (eList eI 3) eI) (fun x => (x.Bins_, x.Class_))
theorem rdm_Timpl_Ex {w : World} {X : List Nat} {x : Timpl_Ex} {c0 c1 : List Value} (h0 : (eList eI 3).rd w X x.Bins_ c0) (h1 : eI.rd w X x.Class_ c1) : (eTimpl_Ex).rd w X x (c0 ++ c1) := by
  show (ePair (eList eI 3) eI).rd w X (x.Bins_, x.Class_) _
  exact (ePair_rd h0 h1)
theorem rdo_Timpl_Ex {w : World} {X : List Nat} {x : Timpl_Ex} {cs : List Value} (h : (eTimpl_Ex).rd w X x cs) : ∃ c0 c1, cs = (c0 ++ c1) ∧ (eList eI 3).rd w X x.Bins_ c0 ∧ eI.rd w X x.Class_ c1 := by
  have h : (ePair (eList eI 3) eI).rd w X (x.Bins_, x.Class_) cs := h
  obtain ⟨c0, c1, rfl, h0, h1⟩ := h
  exact ⟨c0, c1, rfl, h0, h1⟩
theorem ownm_Timpl_Ex {w : World} {F0 F1 : List Nat} {x : Timpl_Ex} {c0 c1 : List Value} (h0 : (eList eI 3).own w F0 x.Bins_ c0) (h1 : eI.own w F1 x.Class_ c1) : (eTimpl_Ex).own w (F0 ++ F1) x (c0 ++ c1) := by
  show (ePair (eList eI 3) eI).own w _ (x.Bins_, x.Class_) _
  exact (ePair_own h0 h1)
theorem owno_Timpl_Ex {w : World} {F : List Nat} {x : Timpl_Ex} {cs : List Value} (h : (eTimpl_Ex).own w F x cs) : ∃ F0 F1 c0 c1, F = (F0 ++ F1) ∧ cs = (c0 ++ c1) ∧ (eList eI 3).own w F0 x.Bins_ c0 ∧ eI.own w F1 x.Class_ c1 := by
  have h : (ePair (eList eI 3) eI).own w F (x.Bins_, x.Class_) cs := h
  obtain ⟨F0, F1, c0, c1, rfl, rfl, h0, h1⟩ := h
  exact ⟨F0, F1, c0, c1, rfl, rfl, h0, h1⟩
def eTimpl_Entry : Enc Timpl_Entry := eIso (ePair (eTimpl_Ex) eI) (fun x => (x.Ex_, x.Weight_))
theorem rdm_Timpl_Entry {w : World} {X : List Nat} {x : Timpl_Entry} {c0 c1 : List Value} (h0 : (eTimpl_Ex).rd w X x.Ex_ c0) (h1 : eI.rd w X x.Weight_ c1) : (eTimpl_Entry).rd w X x (c0 ++ c1) := by
  show (ePair (eTimpl_Ex) eI).rd w X (x.Ex_, x.Weight_) _
  exact (ePair_rd h0 h1)
theorem rdo_Timpl_Entry {w : World} {X : List Nat} {x : Timpl_Entry} {cs : List Value} (h : (eTimpl_Entry).rd w X x cs) : ∃ c0 c1, cs = (c0 ++ c1) ∧ (eTimpl_Ex).rd w X x.Ex_ c0 ∧ eI.rd w X x.Weight_ c1 := by
  have h : (ePair (eTimpl_Ex) eI).rd w X (x.Ex_, x.Weight_) cs := h
  obtain ⟨c0, c1, rfl, h0, h1⟩ := h
  exact ⟨c0, c1, rfl, h0, h1⟩
theorem ownm_Timpl_Entry {w : World} {F0 F1 : List Nat} {x : Timpl_Entry} {c0 c1 : List Value} (h0 : (eTimpl_Ex).own w F0 x.Ex_ c0) (h1 : eI.own w F1 x.Weight_ c1) : (eTimpl_Entry).own w (F0 ++ F1) x (c0 ++ c1) := by
  show (ePair (eTimpl_Ex) eI).own w _ (x.Ex_, x.Weight_) _
  exact (ePair_own h0 h1)
theorem owno_Timpl_Entry {w : World} {F : List Nat} {x : Timpl_Entry} {cs : List Value} (h : (eTimpl_Entry).own w F x cs) : ∃ F0 F1 c0 c1, F = (F0 ++ F1) ∧ cs = (c0 ++ c1) ∧ (eTimpl_Ex).own w F0 x.Ex_ c0 ∧ eI.own w F1 x.Weight_ c1 := by
  have h : (ePair (eTimpl_Ex) eI).own w F (x.Ex_, x.Weight_) cs := h
  obtain ⟨F0, F1, c0, c1, rfl, rfl, h0, h1⟩ := h
  exact ⟨F0, F1, c0, c1, rfl, rfl, h0, h1⟩
theorem opn_Timpl_Entry {w0 : World} {M : List Nat} {L : List Res} {w : World} {F : List Nat} {x : Timpl_Entry} {cs : List Value} {i : Nat} (h : St w0 M L w) (hi : L[i]? = some (Res.own (eTimpl_Entry) F x cs)) :
    ∃ (a_1 : Option Addr) (k_1 : Nat) (F_1 : List Nat), cs = [.slice a_1 (x.Ex_.Bins_).length k_1, .int .i64 x.Ex_.Class_, .int .i64 x.Weight_] ∧ St w0 M (nilAt L [i] ++ [Res.own (eList eI 3) F_1 x.Ex_.Bins_ [.slice a_1 (x.Ex_.Bins_).length k_1]]) w := by
  obtain ⟨hok, _, _⟩ := h.one hi
  have hok : (eTimpl_Entry).own w F x cs := hok
  obtain ⟨F1_0, F1_1, c1_0, c1_1, rfl, rfl, h1_0, h1_1⟩ := owno_Timpl_Entry hok
  obtain ⟨F2_0, F2_1, c2_0, c2_1, rfl, rfl, h2_0, h2_1⟩ := owno_Timpl_Ex h1_0
  obtain ⟨a3, k3, rfl⟩ := own_sl1 h2_0
  obtain ⟨rfl, rfl⟩ : F2_1 = [] ∧ c2_1 = [.int .i64 x.Ex_.Class_] := h2_1
  obtain ⟨rfl, rfl⟩ : F1_1 = [] ∧ c1_1 = [.int .i64 x.Weight_] := h1_1
  refine ⟨a3, k3, F2_0, rfl, h.re [i] _ rfl ?_ ?_⟩
  · simp [selR_cons, selR_nil, hi, foot, Res.own]
  · intro s hs; simp only [List.mem_cons, List.not_mem_nil, or_false] at hs; rcases hs with rfl
    · exact h2_0
theorem fus_Timpl_Entry {w0 : World} {M : List Nat} {L : List Res} {w : World} {x0 : List Int} {a0 : Option Addr} {n0 k0 : Nat} {G0 : List Nat} {x1 : Int} {x2 : Int} (idx : List Nat) (h : St w0 M L w) (hs : selR L idx = [Res.own (eList eI 3) G0 x0 [.slice a0 n0 k0]]) (hn : nodB idx = true) :
    ∃ F, St w0 M (nilAt L idx ++ [Res.own (eTimpl_Entry) F (Timpl_Entry.mk (Timpl_Ex.mk x0 x1) x2) [.slice a0 n0 k0, .int .i64 x1, .int .i64 x2]]) w := by
  have o0 : (eList eI 3).own w G0 x0 [.slice a0 n0 k0] := h.ok' (mem_sel (L := L) (is := idx) (by rw [hs]; simp : Res.own (eList eI 3) G0 x0 [.slice a0 n0 k0] ∈ selR L idx))
  have ho := (ownm_Timpl_Entry (x := (Timpl_Entry.mk (Timpl_Ex.mk x0 x1) x2)) (ownm_Timpl_Ex (x := (Timpl_Ex.mk x0 x1)) o0 (⟨rfl, rfl⟩ : eI.own w [] _ _)) (⟨rfl, rfl⟩ : eI.own w [] _ _))
  refine ⟨_, h.re idx [Res.own (eTimpl_Entry) _ (Timpl_Entry.mk (Timpl_Ex.mk x0 x1) x2) [.slice a0 n0 k0, .int .i64 x1, .int .i64 x2]] hn ?_ (fun s hs => by rw [List.mem_singleton.1 hs]; exact ho)⟩
  rw [hs]
  simp [foot, Res.own]
def eTimpl_Schema : Enc Timpl_Schema := eIso (ePair (eList (eTimpl_Attr) 113) (eList (eStr) 9)) (fun x => (x.Attrs_, x.Classes_))
theorem rdm_Timpl_Schema {w : World} {X : List Nat} {x : Timpl_Schema} {c0 c1 : List Value} (h0 : (eList (eTimpl_Attr) 113).rd w X x.Attrs_ c0) (h1 : (eList (eStr) 9).rd w X x.Classes_ c1) : (eTimpl_Schema).rd w X x (c0 ++ c1) := by
  show (ePair (eList (eTimpl_Attr) 113) (eList (eStr) 9)).rd w X (x.Attrs_, x.Classes_) _
  exact (ePair_rd h0 h1)
theorem rdo_Timpl_Schema {w : World} {X : List Nat} {x : Timpl_Schema} {cs : List Value} (h : (eTimpl_Schema).rd w X x cs) : ∃ c0 c1, cs = (c0 ++ c1) ∧ (eList (eTimpl_Attr) 113).rd w X x.Attrs_ c0 ∧ (eList (eStr) 9).rd w X x.Classes_ c1 := by
  have h : (ePair (eList (eTimpl_Attr) 113) (eList (eStr) 9)).rd w X (x.Attrs_, x.Classes_) cs := h
  obtain ⟨c0, c1, rfl, h0, h1⟩ := h
  exact ⟨c0, c1, rfl, h0, h1⟩
def eTimpl_Tree : Enc Timpl_Tree := eIso (ePair (eList (eTimpl_Node) 70) eI) (fun x => (x.Nodes_, x.Seen_))
theorem rdm_Timpl_Tree {w : World} {X : List Nat} {x : Timpl_Tree} {c0 c1 : List Value} (h0 : (eList (eTimpl_Node) 70).rd w X x.Nodes_ c0) (h1 : eI.rd w X x.Seen_ c1) : (eTimpl_Tree).rd w X x (c0 ++ c1) := by
  show (ePair (eList (eTimpl_Node) 70) eI).rd w X (x.Nodes_, x.Seen_) _
  exact (ePair_rd h0 h1)
theorem rdo_Timpl_Tree {w : World} {X : List Nat} {x : Timpl_Tree} {cs : List Value} (h : (eTimpl_Tree).rd w X x cs) : ∃ c0 c1, cs = (c0 ++ c1) ∧ (eList (eTimpl_Node) 70).rd w X x.Nodes_ c0 ∧ eI.rd w X x.Seen_ c1 := by
  have h : (ePair (eList (eTimpl_Node) 70) eI).rd w X (x.Nodes_, x.Seen_) cs := h
  obtain ⟨c0, c1, rfl, h0, h1⟩ := h
  exact ⟨c0, c1, rfl, h0, h1⟩
def eTimpl_checkpoint : Enc Timpl_checkpoint := eOpq (fun x => [.int .i64 x.entry_]) 1 2 (fun _ => rfl) (by intro x u hu; rw [List.mem_singleton.1 hu]; rfl)
def eTlaws_Rule : Enc Tlaws_Rule := eFlat (fun x => [.int .i64 x.Sure_, .int .i64 x.Tie_, .int .i64 x.Grace_, .int .i64 x.Depth_, .int .i64 x.Nodes_, .int .i64 x.Units_, .bool x.Two_]) 7 (fun _ => rfl) (by intro x u hu; simp only [List.mem_cons, List.not_mem_nil, or_false] at hu; rcases hu with rfl | rfl | rfl | rfl | rfl | rfl | rfl <;> rfl)
theorem sl56 : isSl Tryz.prog 56 3 := isSl_of (by kernel_rfl)
theorem sl23 : isSl Tryz.prog 23 9 := isSl_of (by kernel_rfl)
theorem ty9 : isTy Tryz.prog 9 false 1 16 [vS []] := isTy_of (by kernel_rfl)
theorem st9 : isStr Tryz.prog 9 := isStr_of (by kernel_rfl)
theorem fa95_0 : isFa Tryz.prog 95 0 0 := isFa_of (by kernel_rfl)
theorem fa95_1 : isFa Tryz.prog 95 1 1 := isFa_of (by kernel_rfl)
theorem ty56 : isTy Tryz.prog 56 false 1 24 [.slice none 0 0] := isTy_of (by kernel_rfl)
theorem fn73 : isFn Tryz.prog 73 := ⟨Tryz.f73, Tryz.func73, rfl, by decide⟩
theorem fa95_2 : isFa Tryz.prog 95 2 2 := isFa_of (by kernel_rfl)
theorem ty23 : isTy Tryz.prog 23 false 1 24 [.slice none 0 0] := isTy_of (by kernel_rfl)
theorem fn17 : isFn Tryz.prog 17 := ⟨Tryz.f17, Tryz.func17, rfl, by decide⟩
theorem sl22 : isSl Tryz.prog 22 95 := isSl_of (by kernel_rfl)
theorem ty95 : isTy Tryz.prog 95 true 3 64 [vS [], .slice none 0 0, .slice none 0 0] := isTy_of (by kernel_rfl)
theorem fn43 : isFn Tryz.prog 43 := ⟨Tryz.f43, Tryz.func43, rfl, by decide⟩
theorem fa25_0 : isFa Tryz.prog 25 0 0 := isFa_of (by kernel_rfl)
theorem ty22 : isTy Tryz.prog 22 false 1 24 [.slice none 0 0] := isTy_of (by kernel_rfl)
theorem fn16 : isFn Tryz.prog 16 := ⟨Tryz.f16, Tryz.func16, rfl, by decide⟩
theorem fa25_1 : isFa Tryz.prog 25 1 1 := isFa_of (by kernel_rfl)
theorem sl66 : isSl Tryz.prog 66 56 := isSl_of (by kernel_rfl)
theorem fa98_0 : isFa Tryz.prog 98 0 0 := isFa_of (by kernel_rfl)
theorem fa98_1 : isFa Tryz.prog 98 1 1 := isFa_of (by kernel_rfl)
theorem ty66 : isTy Tryz.prog 66 false 1 24 [.slice none 0 0] := isTy_of (by kernel_rfl)
theorem fn109 : isFn Tryz.prog 109 := ⟨Tryz.f109, Tryz.func109, rfl, by decide⟩
theorem fa100_2 : isFa Tryz.prog 100 2 3 := isFa_of (by kernel_rfl)
theorem fa100_4 : isFa Tryz.prog 100 4 5 := isFa_of (by kernel_rfl)
theorem ty98 : isTy Tryz.prog 98 true 2 48 [.slice none 0 0, .slice none 0 0] := isTy_of (by kernel_rfl)
theorem fn74 : isFn Tryz.prog 74 := ⟨Tryz.f74, Tryz.func74, rfl, by decide⟩
theorem fa100_6 : isFa Tryz.prog 100 6 8 := isFa_of (by kernel_rfl)
theorem sl28 : isSl Tryz.prog 28 100 := isSl_of (by kernel_rfl)
theorem ty100 : isTy Tryz.prog 100 true 12 160 [.bool false, .int .i64 0, .int .i64 0, .slice none 0 0, .int .i64 0, .slice none 0 0, .slice none 0 0, .int .i64 0, .slice none 0 0, .int .i64 0, .int .i64 0, .int .i64 0] := isTy_of (by kernel_rfl)
theorem fn44 : isFn Tryz.prog 44 := ⟨Tryz.f44, Tryz.func44, rfl, by decide⟩
theorem fa30_0 : isFa Tryz.prog 30 0 0 := isFa_of (by kernel_rfl)
theorem ty28 : isTy Tryz.prog 28 false 1 24 [.slice none 0 0] := isTy_of (by kernel_rfl)
theorem fn18 : isFn Tryz.prog 18 := ⟨Tryz.f18, Tryz.func18, rfl, by decide⟩
theorem fa58_0 : isFa Tryz.prog 58 0 0 := isFa_of (by kernel_rfl)
theorem fa60_0 : isFa Tryz.prog 60 0 0 := isFa_of (by kernel_rfl)
theorem ty58 : isTy Tryz.prog 58 true 2 32 [.slice none 0 0, .int .i64 0] := isTy_of (by kernel_rfl)
theorem fn45 : isFn Tryz.prog 45 := ⟨Tryz.f45, Tryz.func45, rfl, by decide⟩
theorem sl31 : isSl Tryz.prog 31 60 := isSl_of (by kernel_rfl)
theorem ty60 : isTy Tryz.prog 60 true 3 40 [.slice none 0 0, .int .i64 0, .int .i64 0] := isTy_of (by kernel_rfl)
theorem fn19 : isFn Tryz.prog 19 := ⟨Tryz.f19, Tryz.func19, rfl, by decide⟩
theorem ty3 : isTy Tryz.prog 3 false 1 8 [.int .i64 0] := isTy_of (by kernel_rfl)
theorem ty113 : isTy Tryz.prog 113 true 3 64 [vS [], .slice none 0 0, .slice none 0 0] := isTy_of (by kernel_rfl)
theorem fa113_0 : isFa Tryz.prog 113 0 0 := isFa_of (by kernel_rfl)
theorem fn86 : isFn Tryz.prog 86 := ⟨Tryz.f86, Tryz.func86, rfl, by decide⟩
theorem fa113_1 : isFa Tryz.prog 113 1 1 := isFa_of (by kernel_rfl)
theorem fn29 : isFn Tryz.prog 29 := ⟨Tryz.f29, Tryz.func29, rfl, by decide⟩
theorem fa113_2 : isFa Tryz.prog 113 2 2 := isFa_of (by kernel_rfl)
theorem sl36 : isSl Tryz.prog 36 113 := isSl_of (by kernel_rfl)
theorem fn56 : isFn Tryz.prog 56 := ⟨Tryz.f56, Tryz.func56, rfl, by decide⟩
theorem ty38 : isTy Tryz.prog 38 true 2 48 [.slice none 0 0, .slice none 0 0] := isTy_of (by kernel_rfl)
theorem fn28 : isFn Tryz.prog 28 := ⟨Tryz.f28, Tryz.func28, rfl, by decide⟩
theorem fa38_0 : isFa Tryz.prog 38 0 0 := isFa_of (by kernel_rfl)
theorem ty36 : isTy Tryz.prog 36 false 1 24 [.slice none 0 0] := isTy_of (by kernel_rfl)
theorem fa38_1 : isFa Tryz.prog 38 1 1 := isFa_of (by kernel_rfl)
theorem ty40 : isTy Tryz.prog 40 true 7 56 [.int .i64 0, .int .i64 0, .int .i64 0, .int .i64 0, .int .i64 0, .int .i64 0, .bool false] := isTy_of (by kernel_rfl)
theorem fa27_0 : isFa Tryz.prog 27 0 0 := isFa_of (by kernel_rfl)
theorem fa40_0 : isFa Tryz.prog 40 0 0 := isFa_of (by kernel_rfl)
theorem fa27_1 : isFa Tryz.prog 27 1 1 := isFa_of (by kernel_rfl)
theorem fa40_1 : isFa Tryz.prog 40 1 1 := isFa_of (by kernel_rfl)
theorem fa27_2 : isFa Tryz.prog 27 2 2 := isFa_of (by kernel_rfl)
theorem fa40_2 : isFa Tryz.prog 40 2 2 := isFa_of (by kernel_rfl)
theorem fa27_3 : isFa Tryz.prog 27 3 3 := isFa_of (by kernel_rfl)
theorem fa40_3 : isFa Tryz.prog 40 3 3 := isFa_of (by kernel_rfl)
theorem fa27_4 : isFa Tryz.prog 27 4 4 := isFa_of (by kernel_rfl)
theorem fa40_4 : isFa Tryz.prog 40 4 4 := isFa_of (by kernel_rfl)
theorem fa27_5 : isFa Tryz.prog 27 5 5 := isFa_of (by kernel_rfl)
theorem fa40_5 : isFa Tryz.prog 40 5 5 := isFa_of (by kernel_rfl)
theorem fa27_6 : isFa Tryz.prog 27 6 6 := isFa_of (by kernel_rfl)
theorem ty4 : isTy Tryz.prog 4 false 1 1 [.bool false] := isTy_of (by kernel_rfl)
theorem fa40_6 : isFa Tryz.prog 40 6 6 := isFa_of (by kernel_rfl)
theorem ty65 : isTy Tryz.prog 65 true 2 16 [.int .i64 0, .int .i64 0] := isTy_of (by kernel_rfl)
theorem fa97_0 : isFa Tryz.prog 97 0 0 := isFa_of (by kernel_rfl)
theorem fa65_0 : isFa Tryz.prog 65 0 0 := isFa_of (by kernel_rfl)
theorem fa97_1 : isFa Tryz.prog 97 1 1 := isFa_of (by kernel_rfl)
theorem fa65_1 : isFa Tryz.prog 65 1 1 := isFa_of (by kernel_rfl)
theorem ty68 : isTy Tryz.prog 68 true 2 48 [.slice none 0 0, .slice none 0 0] := isTy_of (by kernel_rfl)
theorem fa68_0 : isFa Tryz.prog 68 0 0 := isFa_of (by kernel_rfl)
theorem fn112 : isFn Tryz.prog 112 := ⟨Tryz.f112, Tryz.func112, rfl, by decide⟩
theorem fa68_1 : isFa Tryz.prog 68 1 1 := isFa_of (by kernel_rfl)
theorem ty70 : isTy Tryz.prog 70 true 12 160 [.bool false, .int .i64 0, .int .i64 0, .slice none 0 0, .int .i64 0, .slice none 0 0, .slice none 0 0, .int .i64 0, .slice none 0 0, .int .i64 0, .int .i64 0, .int .i64 0] := isTy_of (by kernel_rfl)
theorem fa100_0 : isFa Tryz.prog 100 0 0 := isFa_of (by kernel_rfl)
theorem fa70_0 : isFa Tryz.prog 70 0 0 := isFa_of (by kernel_rfl)
theorem fa100_1 : isFa Tryz.prog 100 1 1 := isFa_of (by kernel_rfl)
theorem ty97 : isTy Tryz.prog 97 true 2 16 [.int .i64 0, .int .i64 0] := isTy_of (by kernel_rfl)
theorem fn87 : isFn Tryz.prog 87 := ⟨Tryz.f87, Tryz.func87, rfl, by decide⟩
theorem fa70_1 : isFa Tryz.prog 70 1 1 := isFa_of (by kernel_rfl)
theorem fa70_2 : isFa Tryz.prog 70 2 3 := isFa_of (by kernel_rfl)
theorem fa100_3 : isFa Tryz.prog 100 3 4 := isFa_of (by kernel_rfl)
theorem fa70_3 : isFa Tryz.prog 70 3 4 := isFa_of (by kernel_rfl)
theorem fn88 : isFn Tryz.prog 88 := ⟨Tryz.f88, Tryz.func88, rfl, by decide⟩
theorem fa70_4 : isFa Tryz.prog 70 4 5 := isFa_of (by kernel_rfl)
theorem fa100_5 : isFa Tryz.prog 100 5 7 := isFa_of (by kernel_rfl)
theorem fa70_5 : isFa Tryz.prog 70 5 7 := isFa_of (by kernel_rfl)
theorem fa70_6 : isFa Tryz.prog 70 6 8 := isFa_of (by kernel_rfl)
theorem fa100_7 : isFa Tryz.prog 100 7 9 := isFa_of (by kernel_rfl)
theorem fa70_7 : isFa Tryz.prog 70 7 9 := isFa_of (by kernel_rfl)
theorem fa100_8 : isFa Tryz.prog 100 8 10 := isFa_of (by kernel_rfl)
theorem fa70_8 : isFa Tryz.prog 70 8 10 := isFa_of (by kernel_rfl)
theorem fa100_9 : isFa Tryz.prog 100 9 11 := isFa_of (by kernel_rfl)
theorem fa70_9 : isFa Tryz.prog 70 9 11 := isFa_of (by kernel_rfl)
theorem sl42 : isSl Tryz.prog 42 70 := isSl_of (by kernel_rfl)
theorem fn57 : isFn Tryz.prog 57 := ⟨Tryz.f57, Tryz.func57, rfl, by decide⟩
theorem ty44 : isTy Tryz.prog 44 true 2 32 [.slice none 0 0, .int .i64 0] := isTy_of (by kernel_rfl)
theorem fn30 : isFn Tryz.prog 30 := ⟨Tryz.f30, Tryz.func30, rfl, by decide⟩
theorem fa44_0 : isFa Tryz.prog 44 0 0 := isFa_of (by kernel_rfl)
theorem ty42 : isTy Tryz.prog 42 false 1 24 [.slice none 0 0] := isTy_of (by kernel_rfl)
theorem fa30_1 : isFa Tryz.prog 30 1 1 := isFa_of (by kernel_rfl)
theorem fa44_1 : isFa Tryz.prog 44 1 1 := isFa_of (by kernel_rfl)
theorem ty81 : isTy Tryz.prog 81 true 2 32 [.slice none 0 0, .int .i64 0] := isTy_of (by kernel_rfl)
theorem fa81_0 : isFa Tryz.prog 81 0 0 := isFa_of (by kernel_rfl)
theorem fa58_1 : isFa Tryz.prog 58 1 1 := isFa_of (by kernel_rfl)
theorem fa81_1 : isFa Tryz.prog 81 1 1 := isFa_of (by kernel_rfl)
theorem ty83 : isTy Tryz.prog 83 true 3 40 [.slice none 0 0, .int .i64 0, .int .i64 0] := isTy_of (by kernel_rfl)
theorem fn58 : isFn Tryz.prog 58 := ⟨Tryz.f58, Tryz.func58, rfl, by decide⟩
theorem fa83_0 : isFa Tryz.prog 83 0 0 := isFa_of (by kernel_rfl)
theorem fa60_1 : isFa Tryz.prog 60 1 2 := isFa_of (by kernel_rfl)
theorem fa83_1 : isFa Tryz.prog 83 1 2 := isFa_of (by kernel_rfl)
theorem sl46 : isSl Tryz.prog 46 83 := isSl_of (by kernel_rfl)
theorem fn31 : isFn Tryz.prog 31 := ⟨Tryz.f31, Tryz.func31, rfl, by decide⟩
theorem fn47 : isFn Tryz.prog 47 := ⟨Tryz.f47, Tryz.func47, rfl, by decide⟩
theorem fn110 : isFn Tryz.prog 110 := ⟨Tryz.f110, Tryz.func110, rfl, by decide⟩
theorem mixed : Tryz.prog.follows .mixedOrders = true := by kernel_rfl
theorem fn75 : isFn Tryz.prog 75 := ⟨Tryz.f75, Tryz.func75, rfl, by decide⟩
theorem fn76 : isFn Tryz.prog 76 := ⟨Tryz.f76, Tryz.func76, rfl, by decide⟩
theorem fn46 : isFn Tryz.prog 46 := ⟨Tryz.f46, Tryz.func46, rfl, by decide⟩
theorem fn82 : isFn Tryz.prog 82 := ⟨Tryz.f82, Tryz.func82, rfl, by decide⟩
theorem fn77 : isFn Tryz.prog 77 := ⟨Tryz.f77, Tryz.func77, rfl, by decide⟩
theorem fs65 : isFs Tryz.prog 65 [(0, 1), (1, 1)] := isFs_of (by kernel_rfl)
theorem se65 (a0 b0 : Int) (a1 b1 : Int) : eqSB Tryz.prog 65 [.int .i64 a0, .int .i64 a1] [.int .i64 b0, .int .i64 b1] = some (a0 == b0 && (a1 == b1 && true)) := by kernel_rfl
theorem fn78 : isFn Tryz.prog 78 := ⟨Tryz.f78, Tryz.func78, rfl, by decide⟩
theorem fn79 : isFn Tryz.prog 79 := ⟨Tryz.f79, Tryz.func79, rfl, by decide⟩
theorem fn80 : isFn Tryz.prog 80 := ⟨Tryz.f80, Tryz.func80, rfl, by decide⟩
theorem fn81 : isFn Tryz.prog 81 := ⟨Tryz.f81, Tryz.func81, rfl, by decide⟩
theorem fn48 : isFn Tryz.prog 48 := ⟨Tryz.f48, Tryz.func48, rfl, by decide⟩
theorem fn49 : isFn Tryz.prog 49 := ⟨Tryz.f49, Tryz.func49, rfl, by decide⟩
theorem fn50 : isFn Tryz.prog 50 := ⟨Tryz.f50, Tryz.func50, rfl, by decide⟩
theorem fn51 : isFn Tryz.prog 51 := ⟨Tryz.f51, Tryz.func51, rfl, by decide⟩
theorem fs68 : isFs Tryz.prog 68 [(0, 1), (1, 1)] := isFs_of (by kernel_rfl)
theorem fn84 : isFn Tryz.prog 84 := ⟨Tryz.f84, Tryz.func84, rfl, by decide⟩
theorem fn111 : isFn Tryz.prog 111 := ⟨Tryz.f111, Tryz.func111, rfl, by decide⟩
theorem fn85 : isFn Tryz.prog 85 := ⟨Tryz.f85, Tryz.func85, rfl, by decide⟩
theorem fn54 : isFn Tryz.prog 54 := ⟨Tryz.f54, Tryz.func54, rfl, by decide⟩
theorem fn55 : isFn Tryz.prog 55 := ⟨Tryz.f55, Tryz.func55, rfl, by decide⟩
theorem fn83 : isFn Tryz.prog 83 := ⟨Tryz.f83, Tryz.func83, rfl, by decide⟩
theorem fn20 : isFn Tryz.prog 20 := ⟨Tryz.f20, Tryz.func20, rfl, by decide⟩
theorem fn22 : isFn Tryz.prog 22 := ⟨Tryz.f22, Tryz.func22, rfl, by decide⟩
theorem fn52 : isFn Tryz.prog 52 := ⟨Tryz.f52, Tryz.func52, rfl, by decide⟩
theorem fn26 : isFn Tryz.prog 26 := ⟨Tryz.f26, Tryz.func26, rfl, by decide⟩
theorem fn53 : isFn Tryz.prog 53 := ⟨Tryz.f53, Tryz.func53, rfl, by decide⟩
theorem sl73 : isSl Tryz.prog 73 4 := isSl_of (by kernel_rfl)
theorem fn24 : isFn Tryz.prog 24 := ⟨Tryz.f24, Tryz.func24, rfl, by decide⟩
theorem fn21 : isFn Tryz.prog 21 := ⟨Tryz.f21, Tryz.func21, rfl, by decide⟩
theorem fn23 : isFn Tryz.prog 23 := ⟨Tryz.f23, Tryz.func23, rfl, by decide⟩
theorem fn25 : isFn Tryz.prog 25 := ⟨Tryz.f25, Tryz.func25, rfl, by decide⟩
theorem fn27 : isFn Tryz.prog 27 := ⟨Tryz.f27, Tryz.func27, rfl, by decide⟩
theorem fn60 : isFn Tryz.prog 60 := ⟨Tryz.f60, Tryz.func60, rfl, by decide⟩
theorem fn123 : isFn Tryz.prog 123 := ⟨Tryz.f123, Tryz.func123, rfl, by decide⟩
theorem fn113 : isFn Tryz.prog 113 := ⟨Tryz.f113, Tryz.func113, rfl, by decide⟩
theorem fn114 : isFn Tryz.prog 114 := ⟨Tryz.f114, Tryz.func114, rfl, by decide⟩
theorem fn125 : isFn Tryz.prog 125 := ⟨Tryz.f125, Tryz.func125, rfl, by decide⟩
theorem fn95 : isFn Tryz.prog 95 := ⟨Tryz.f95, Tryz.func95, rfl, by decide⟩
theorem fn124 : isFn Tryz.prog 124 := ⟨Tryz.f124, Tryz.func124, rfl, by decide⟩
theorem fn118 : isFn Tryz.prog 118 := ⟨Tryz.f118, Tryz.func118, rfl, by decide⟩
theorem fn96 : isFn Tryz.prog 96 := ⟨Tryz.f96, Tryz.func96, rfl, by decide⟩
theorem fn89 : isFn Tryz.prog 89 := ⟨Tryz.f89, Tryz.func89, rfl, by decide⟩
theorem fn115 : isFn Tryz.prog 115 := ⟨Tryz.f115, Tryz.func115, rfl, by decide⟩
theorem fn90 : isFn Tryz.prog 90 := ⟨Tryz.f90, Tryz.func90, rfl, by decide⟩
theorem fn126 : isFn Tryz.prog 126 := ⟨Tryz.f126, Tryz.func126, rfl, by decide⟩
theorem fn59 : isFn Tryz.prog 59 := ⟨Tryz.f59, Tryz.func59, rfl, by decide⟩
theorem fn116 : isFn Tryz.prog 116 := ⟨Tryz.f116, Tryz.func116, rfl, by decide⟩
theorem fn93 : isFn Tryz.prog 93 := ⟨Tryz.f93, Tryz.func93, rfl, by decide⟩
theorem fn100 : isFn Tryz.prog 100 := ⟨Tryz.f100, Tryz.func100, rfl, by decide⟩
theorem fn101 : isFn Tryz.prog 101 := ⟨Tryz.f101, Tryz.func101, rfl, by decide⟩
theorem fn117 : isFn Tryz.prog 117 := ⟨Tryz.f117, Tryz.func117, rfl, by decide⟩
theorem fn91 : isFn Tryz.prog 91 := ⟨Tryz.f91, Tryz.func91, rfl, by decide⟩
theorem fn92 : isFn Tryz.prog 92 := ⟨Tryz.f92, Tryz.func92, rfl, by decide⟩
theorem fn94 : isFn Tryz.prog 94 := ⟨Tryz.f94, Tryz.func94, rfl, by decide⟩
theorem fn97 : isFn Tryz.prog 97 := ⟨Tryz.f97, Tryz.func97, rfl, by decide⟩
theorem fn98 : isFn Tryz.prog 98 := ⟨Tryz.f98, Tryz.func98, rfl, by decide⟩
theorem fn61 : isFn Tryz.prog 61 := ⟨Tryz.f61, Tryz.func61, rfl, by decide⟩
theorem fn62 : isFn Tryz.prog 62 := ⟨Tryz.f62, Tryz.func62, rfl, by decide⟩
theorem fn65 : isFn Tryz.prog 65 := ⟨Tryz.f65, Tryz.func65, rfl, by decide⟩
theorem fn64 : isFn Tryz.prog 64 := ⟨Tryz.f64, Tryz.func64, rfl, by decide⟩
theorem fn99 : isFn Tryz.prog 99 := ⟨Tryz.f99, Tryz.func99, rfl, by decide⟩
theorem fn63 : isFn Tryz.prog 63 := ⟨Tryz.f63, Tryz.func63, rfl, by decide⟩
theorem fn119 : isFn Tryz.prog 119 := ⟨Tryz.f119, Tryz.func119, rfl, by decide⟩
theorem fn102 : isFn Tryz.prog 102 := ⟨Tryz.f102, Tryz.func102, rfl, by decide⟩
theorem fn120 : isFn Tryz.prog 120 := ⟨Tryz.f120, Tryz.func120, rfl, by decide⟩
theorem fn121 : isFn Tryz.prog 121 := ⟨Tryz.f121, Tryz.func121, rfl, by decide⟩
theorem fn103 : isFn Tryz.prog 103 := ⟨Tryz.f103, Tryz.func103, rfl, by decide⟩
theorem fn66 : isFn Tryz.prog 66 := ⟨Tryz.f66, Tryz.func66, rfl, by decide⟩
theorem sl85 : isSl Tryz.prog 85 120 := isSl_of (by kernel_rfl)
theorem ty120 : isTy Tryz.prog 120 true 3 56 [.int .i64 0, .slice none 0 0, .slice none 0 0] := isTy_of (by kernel_rfl)
theorem fn67 : isFn Tryz.prog 67 := ⟨Tryz.f67, Tryz.func67, rfl, by decide⟩
theorem fn68 : isFn Tryz.prog 68 := ⟨Tryz.f68, Tryz.func68, rfl, by decide⟩
theorem fs120 : isFs Tryz.prog 120 [(0, 1), (1, 2)] := isFs_of (by kernel_rfl)
theorem fn36 : isFn Tryz.prog 36 := ⟨Tryz.f36, Tryz.func36, rfl, by decide⟩
theorem fn105 : isFn Tryz.prog 105 := ⟨Tryz.f105, Tryz.func105, rfl, by decide⟩
theorem fn104 : isFn Tryz.prog 104 := ⟨Tryz.f104, Tryz.func104, rfl, by decide⟩
theorem fn69 : isFn Tryz.prog 69 := ⟨Tryz.f69, Tryz.func69, rfl, by decide⟩
theorem fn32 : isFn Tryz.prog 32 := ⟨Tryz.f32, Tryz.func32, rfl, by decide⟩
theorem fn33 : isFn Tryz.prog 33 := ⟨Tryz.f33, Tryz.func33, rfl, by decide⟩
theorem fn34 : isFn Tryz.prog 34 := ⟨Tryz.f34, Tryz.func34, rfl, by decide⟩
theorem fn35 : isFn Tryz.prog 35 := ⟨Tryz.f35, Tryz.func35, rfl, by decide⟩
theorem fn37 : isFn Tryz.prog 37 := ⟨Tryz.f37, Tryz.func37, rfl, by decide⟩
theorem fn38 : isFn Tryz.prog 38 := ⟨Tryz.f38, Tryz.func38, rfl, by decide⟩
theorem fn106 : isFn Tryz.prog 106 := ⟨Tryz.f106, Tryz.func106, rfl, by decide⟩
theorem fn40 : isFn Tryz.prog 40 := ⟨Tryz.f40, Tryz.func40, rfl, by decide⟩
theorem fn70 : isFn Tryz.prog 70 := ⟨Tryz.f70, Tryz.func70, rfl, by decide⟩
theorem fn39 : isFn Tryz.prog 39 := ⟨Tryz.f39, Tryz.func39, rfl, by decide⟩
theorem fn122 : isFn Tryz.prog 122 := ⟨Tryz.f122, Tryz.func122, rfl, by decide⟩
theorem bl4 : isBl Tryz.prog 4 := isBl_of (by kernel_rfl)
theorem fn107 : isFn Tryz.prog 107 := ⟨Tryz.f107, Tryz.func107, rfl, by decide⟩
theorem fn108 : isFn Tryz.prog 108 := ⟨Tryz.f108, Tryz.func108, rfl, by decide⟩
theorem fn71 : isFn Tryz.prog 71 := ⟨Tryz.f71, Tryz.func71, rfl, by decide⟩
theorem fn41 : isFn Tryz.prog 41 := ⟨Tryz.f41, Tryz.func41, rfl, by decide⟩
theorem fn72 : isFn Tryz.prog 72 := ⟨Tryz.f72, Tryz.func72, rfl, by decide⟩
theorem fn42 : isFn Tryz.prog 42 := ⟨Tryz.f42, Tryz.func42, rfl, by decide⟩
theorem ty25 : isTy Tryz.prog 25 true 2 48 [.slice none 0 0, .slice none 0 0] := isTy_of (by kernel_rfl)
theorem fn4 : isFn Tryz.prog 4 := ⟨Tryz.f4, Tryz.func4, rfl, by decide⟩
theorem ty30 : isTy Tryz.prog 30 true 2 32 [.slice none 0 0, .int .i64 0] := isTy_of (by kernel_rfl)
theorem fn5 : isFn Tryz.prog 5 := ⟨Tryz.f5, Tryz.func5, rfl, by decide⟩
theorem fn6 : isFn Tryz.prog 6 := ⟨Tryz.f6, Tryz.func6, rfl, by decide⟩
theorem ty27 : isTy Tryz.prog 27 true 7 56 [.int .i64 0, .int .i64 0, .int .i64 0, .int .i64 0, .int .i64 0, .int .i64 0, .bool false] := isTy_of (by kernel_rfl)
theorem fn8 : isFn Tryz.prog 8 := ⟨Tryz.f8, Tryz.func8, rfl, by decide⟩
theorem fn9 : isFn Tryz.prog 9 := ⟨Tryz.f9, Tryz.func9, rfl, by decide⟩
theorem fn10 : isFn Tryz.prog 10 := ⟨Tryz.f10, Tryz.func10, rfl, by decide⟩
theorem fn11 : isFn Tryz.prog 11 := ⟨Tryz.f11, Tryz.func11, rfl, by decide⟩
theorem fn7 : isFn Tryz.prog 7 := ⟨Tryz.f7, Tryz.func7, rfl, by decide⟩
theorem fn12 : isFn Tryz.prog 12 := ⟨Tryz.f12, Tryz.func12, rfl, by decide⟩
theorem fn13 : isFn Tryz.prog 13 := ⟨Tryz.f13, Tryz.func13, rfl, by decide⟩
theorem fn14 : isFn Tryz.prog 14 := ⟨Tryz.f14, Tryz.func14, rfl, by decide⟩
theorem fn15 : isFn Tryz.prog 15 := ⟨Tryz.f15, Tryz.func15, rfl, by decide⟩
theorem laws_szIntS_ok (w : World) {p0 : List Int} {p1 : Int} {a_0 : Option Addr} {n_0 c_0 : Nat} {r : Int} (H : laws_szIntS p0 p1 = some r)  (g0 : (eList eI 3).rd w [] p0 [.slice a_0 n_0 c_0]) :
    Calls Tryz.prog 73 #[.slice a_0 n_0 c_0, .int .i64 p1] w (fun en w' => en = .returned (.int .i64 r) ∧ Ext [] w w') := by
 obtain rfl := rd_n g0
 unfold laws_szIntS at H
 refine f_enter Tryz.func73 rfl Tryz.ntmps73 rfl (St.init w []) <| sR <| oP rfl <| nR <| ow_batch [.p, .p, .lenS 56 3 sl56, .p, .p] rfl <| nQ <| c_seq <| sR <| oPP rfl <| nQ <| cI H rfl (fun H => ?_) (fun H => ?_)
 ·exact sR <| oP rfl <| nT <| x_qs_ret <| xr 4 rfl (by cases H; exact q1)
 ·exact c_skip <| x_qs <| sR <| oPP rfl <| nT <| xr 4 rfl (by cases H; exact q1)
theorem laws_szStringS_ok (w : World) {p0 : List (List UInt8)} {p1 : Int} {a_0 : Option Addr} {n_0 c_0 : Nat} {r : Int} (H : laws_szStringS p0 p1 = some r)  (g0 : (eList (eStr) 9).rd w [] p0 [.slice a_0 n_0 c_0]) :
    Calls Tryz.prog 17 #[.slice a_0 n_0 c_0, .int .i64 p1] w (fun en w' => en = .returned (.int .i64 r) ∧ Ext [] w w') := by
 obtain rfl := rd_n g0
 unfold laws_szStringS at H
 refine f_enter Tryz.func17 rfl Tryz.ntmps17 rfl (St.init w []) <| sR <| oP rfl <| nR <| ow_batch [.p, .p, .lenS 23 9 sl23, .p, .p] rfl <| nQ <| c_seq <| sR <| oPP rfl <| nQ <| cI H rfl (fun H => ?_) (fun H => ?_)
 ·exact sR <| oP rfl <| nT <| x_qs_ret <| xr 4 rfl (by cases H; exact q1)
 ·refine c_skip <| x_qs <| c_seq <| sR <| oP rfl <| nQ <| c_block <| CW.at (loopI2 (fun (i14 : Int) (i15 : Int) => St w [] []) (fun i14 i15 => [(0, .slice a_0 p0.length c_0), (1, .int .i64 i14), (5, .int .i64 i15)]) (fun kk => fun i14 i15 => laws_szStringS_L1 p0 kk i14 i15 = some r) (fun _ _ H => ?_) (fun k1 ihk1 i14 i15 H => ?_) Fuel (IntKind.i64.wrap (p1 - (p0.length : Int))) (0) (H)) (fun _ h => St.sel [] rfl rfl h) ⟨rfl, rfl, rfl, trivial⟩
  ·unfold laws_szStringS_L1 at H
   exact absurd H (by simp)
  ·unfold laws_szStringS_L1 at H
   refine c_seq <| sR <| ow_batch [.p, .p, .lenS 23 9 sl23, .p] rfl <| nQ <| cI H rfl (fun H => ?_) (fun H => ?_)
   ·refine c_skip <| x_qs <| c_seq <| c_block <| sR <| ow_batch [.p, .p, .p] rfl <| bE H fun e20 h21 H => ow_ixE (e := eStr) (xs := p0) (j := i15) rfl rfl rfl rfl rfl sl23 ty9 rfl (fun w1 hw1 => rds_bor g0 w1 hw1) h21 (by rw [Nat.mul_one]) <| o1 rfl (ry_load1 rfl rfl ty9 (at_elV (fun w1 hw1 => rds_bor g0 w1 hw1) h21)) <| ow_batch [.lenT 9 st9, .p, .p] rfl <| nR <| oPP rfl <| nQ <| cI H rfl (fun H => ?_) (fun H => ?_)
    ·exact sR <| oP rfl <| nT <| x_qb_ret <| x_qs_ret <| x_ql_ret <| x_qb_ret <| x_qs_ret <| xr 4 rfl (by cases H; exact q1)
    ·exact c_skip <| x_qb <| x_qs <| c_reg <| ow_batch [.p, .p, .p] rfl <| ow_nil <| x_ql (RW.at (ihk1 (IntKind.i64.wrap (i14 - (e20.length : Int))) (IntKind.i64.wrap (i15 + 1)) (H)) (fun _ h => St.sel [] rfl rfl h) ⟨rfl, rfl, rfl, trivial⟩)
   ·exact c_exit <| x_qs_exit <| x_ql_exit <| x_qb_here <| x_qs <| sR <| oPP rfl <| nT <| xr 4 rfl (by cases H; exact q1)
theorem laws_szAttr_ok (w : World) {p0 : Tlaws_Attr} {p1 : Int} {cs0 : List Value} {r : Int} (H : laws_szAttr p0 p1 = some r)  (g0 : (eTlaws_Attr).rd w [] p0 cs0) :
    Calls Tryz.prog 43 #[.agg cs0.toArray, .int .i64 p1] w (fun en w' => en = .returned (.int .i64 r) ∧ Ext [] w w') := by
 obtain ⟨c10, c11, c12, rfl, g13, g14, g15⟩ := rdo_Tlaws_Attr g0
 obtain rfl := g13
 obtain ⟨a16, c17, rfl⟩ := rd_sl1 g14
 obtain ⟨a18, c19, rfl⟩ := rd_sl1 g15
 unfold laws_szAttr at H
 refine f_enter Tryz.func43 rfl Tryz.ntmps43 rfl (St.init w []) <| sR <| ob _ rfl fun b20 => oP rfl <| nR <| ow_batch [.p, .fa 95 0 0 fa95_0] rfl <| o1 rfl (r1 0 0 rfl ty9 rfl) <| ow_batch [.lenT 9 st9, .p, .p] rfl <| nQ <| c_seq <| sR <| oPP rfl <| nQ <| cI H rfl (fun H => ?_) (fun H => ?_)
 ·exact sR <| oP rfl <| nT <| x_qs_ret <| xr 4 rfl (by cases H; exact q1)
 ·refine c_skip <| x_qs <| sR <| ow_batch [.fa 95 1 1 fa95_1] rfl <| o1 rfl (r1 1 0 rfl ty56 rfl) <| oP rfl <| bE H fun y21 h22 H => oq rfl (qc rfl fn73 (fun w1 hw1 => laws_szIntS_ok w1  h22 (rds_bor g14 w1 hw1))) tt2 <| oP rfl <| nQ <| c_seq <| sR <| oPP rfl <| nQ <| cI H rfl (fun H => ?_) (fun H => ?_)
  ·exact sR <| oP rfl <| nT <| x_qs_ret <| xr 4 rfl (by cases H; exact q1)
  ·refine c_skip <| x_qs <| sR <| ow_batch [.fa 95 2 2 fa95_2] rfl <| o1 rfl (r1 2 0 rfl ty23 rfl) <| oP rfl <| bE H fun y23 h24 H => oq rfl (qc rfl fn17 (fun w1 hw1 => laws_szStringS_ok w1  h24 (rds_bor g15 w1 hw1))) tt2 <| oP rfl <| nQ <| c_seq <| sR <| oPP rfl <| nQ <| cI H rfl (fun H => ?_) (fun H => ?_)
   ·exact sR <| oP rfl <| nT <| x_qs_ret <| xr 4 rfl (by cases H; exact q1)
   ·exact c_skip <| x_qs <| sR <| oPP rfl <| nT <| xr 4 rfl (by cases H; exact q1)
theorem laws_szAttrS_ok (w : World) {p0 : List Tlaws_Attr} {p1 : Int} {a_0 : Option Addr} {n_0 c_0 : Nat} {r : Int} (H : laws_szAttrS p0 p1 = some r)  (g0 : (eList (eTlaws_Attr) 95).rd w [] p0 [.slice a_0 n_0 c_0]) :
    Calls Tryz.prog 16 #[.slice a_0 n_0 c_0, .int .i64 p1] w (fun en w' => en = .returned (.int .i64 r) ∧ Ext [] w w') := by
 obtain rfl := rd_n g0
 unfold laws_szAttrS at H
 refine f_enter Tryz.func16 rfl Tryz.ntmps16 rfl (St.init w []) <| sR <| oP rfl <| nR <| ow_batch [.p, .p, .lenS 22 95 sl22, .p, .p] rfl <| nQ <| c_seq <| sR <| oPP rfl <| nQ <| cI H rfl (fun H => ?_) (fun H => ?_)
 ·exact sR <| oP rfl <| nT <| x_qs_ret <| xr 4 rfl (by cases H; exact q1)
 ·refine c_skip <| x_qs <| c_seq <| sR <| oP rfl <| nQ <| c_block <| CW.at (loopI2 (fun (i30 : Int) (i31 : Int) => St w [] []) (fun i30 i31 => [(0, .slice a_0 p0.length c_0), (1, .int .i64 i30), (5, .int .i64 i31)]) (fun kk => fun i30 i31 => laws_szAttrS_L1 p0 kk i30 i31 = some r) (fun _ _ H => ?_) (fun k1 ihk1 i30 i31 H => ?_) Fuel (IntKind.i64.wrap (p1 - (p0.length : Int))) (0) (H)) (fun _ h => St.sel [] rfl rfl h) ⟨rfl, rfl, rfl, trivial⟩
  ·unfold laws_szAttrS_L1 at H
   exact absurd H (by simp)
  ·unfold laws_szAttrS_L1 at H
   refine c_seq <| sR <| ow_batch [.p, .p, .lenS 22 95 sl22, .p] rfl <| nQ <| cI H rfl (fun H => ?_) (fun H => ?_)
   ·refine c_skip <| x_qs <| c_seq <| c_block <| sR <| oPP rfl <| bE H fun e52 h53 H => ow_ixB rfl rfl rfl rfl rfl sl22 ty95 rfl g0 h53 fun q56 c57 hd54 hA55 => ?_
    obtain ⟨c58, c59, c60, rfl, g61, g62, g63⟩ := rdo_Tlaws_Attr hd54
    obtain rfl := g61
    obtain ⟨a64, c65, rfl⟩ := rd_sl1 g62
    obtain ⟨a66, c67, rfl⟩ := rd_sl1 g63
    refine o1 rfl (ry_load (cs := [vS e52.Name_, .slice a64 e52.Cuts_.length c65, .slice a66 e52.Values_.length c67]) rfl rfl ty95 (at_bor bor hA55) rfl) <| oP rfl <| bE H fun y68 h69 H => oq rfl (qc rfl fn43 (fun w1 hw1 => laws_szAttr_ok w1 h69 (rdm_Tlaws_Attr rfl (rds_bor g62 w1 hw1) (rds_bor g63 w1 hw1)))) tt2 <| oP rfl <| nR <| oPP rfl <| nQ <| cI H rfl (fun H => ?_) (fun H => ?_)
    ·exact sR <| oP rfl <| nT <| x_qb_ret <| x_qs_ret <| x_ql_ret <| x_qb_ret <| x_qs_ret <| xr 4 rfl (by cases H; exact q1)
    ·exact c_skip <| x_qb <| x_qs <| c_reg <| ow_batch [.p, .p, .p] rfl <| ow_nil <| x_ql (RW.at (ihk1 (y68) (IntKind.i64.wrap (i31 + 1)) (H)) (fun _ h => St.sel [] rfl rfl h) ⟨rfl, rfl, rfl, trivial⟩)
   ·exact c_exit <| x_qs_exit <| x_ql_exit <| x_qb_here <| x_qs <| sR <| oPP rfl <| nT <| xr 4 rfl (by cases H; exact q1)
theorem laws_szSchema_ok (w : World) {p0 : Tlaws_Schema} {p1 : Int} {cs0 : List Value} {r : Int} (H : laws_szSchema p0 p1 = some r)  (g0 : (eTlaws_Schema).rd w [] p0 cs0) :
    Calls Tryz.prog 4 #[.agg cs0.toArray, .int .i64 p1] w (fun en w' => en = .returned (.int .i64 r) ∧ Ext [] w w') := by
 obtain ⟨c10, c11, rfl, g12, g13⟩ := rdo_Tlaws_Schema g0
 obtain ⟨a14, c15, rfl⟩ := rd_sl1 g12
 obtain ⟨a16, c17, rfl⟩ := rd_sl1 g13
 unfold laws_szSchema at H
 refine f_enter Tryz.func4 rfl Tryz.ntmps4 rfl (St.init w []) <| sR <| ob _ rfl fun b18 => oP rfl <| nR <| ow_batch [.fa 25 0 0 fa25_0] rfl <| o1 rfl (r1 0 0 rfl ty22 rfl) <| oP rfl <| bE H fun y19 h20 H => oq rfl (qc rfl fn16 (fun w1 hw1 => laws_szAttrS_ok w1  h20 (rds_bor g12 w1 hw1))) tt2 <| oP rfl <| nQ <| c_seq <| sR <| oPP rfl <| nQ <| cI H rfl (fun H => ?_) (fun H => ?_)
 ·exact sR <| oP rfl <| nT <| x_qs_ret <| xr 4 rfl (by cases H; exact q1)
 ·refine c_skip <| x_qs <| sR <| ow_batch [.fa 25 1 1 fa25_1] rfl <| o1 rfl (r1 1 0 rfl ty23 rfl) <| oP rfl <| bE H fun y21 h22 H => oq rfl (qc rfl fn17 (fun w1 hw1 => laws_szStringS_ok w1  h22 (rds_bor g13 w1 hw1))) tt2 <| oP rfl <| nQ <| c_seq <| sR <| oPP rfl <| nQ <| cI H rfl (fun H => ?_) (fun H => ?_)
  ·exact sR <| oP rfl <| nT <| x_qs_ret <| xr 4 rfl (by cases H; exact q1)
  ·exact c_skip <| x_qs <| sR <| oPP rfl <| nT <| xr 4 rfl (by cases H; exact q1)
theorem laws_szIntSS_ok (w : World) {p0 : List (List Int)} {p1 : Int} {a_0 : Option Addr} {n_0 c_0 : Nat} {r : Int} (H : laws_szIntSS p0 p1 = some r)  (g0 : (eList (eList eI 3) 56).rd w [] p0 [.slice a_0 n_0 c_0]) :
    Calls Tryz.prog 109 #[.slice a_0 n_0 c_0, .int .i64 p1] w (fun en w' => en = .returned (.int .i64 r) ∧ Ext [] w w') := by
 obtain rfl := rd_n g0
 unfold laws_szIntSS at H
 refine f_enter Tryz.func109 rfl Tryz.ntmps109 rfl (St.init w []) <| sR <| oP rfl <| nR <| ow_batch [.p, .p, .lenS 66 56 sl66, .p, .p] rfl <| nQ <| c_seq <| sR <| oPP rfl <| nQ <| cI H rfl (fun H => ?_) (fun H => ?_)
 ·exact sR <| oP rfl <| nT <| x_qs_ret <| xr 4 rfl (by cases H; exact q1)
 ·refine c_skip <| x_qs <| c_seq <| sR <| oP rfl <| nQ <| c_block <| CW.at (loopI2 (fun (i22 : Int) (i23 : Int) => St w [] []) (fun i22 i23 => [(0, .slice a_0 p0.length c_0), (1, .int .i64 i22), (5, .int .i64 i23)]) (fun kk => fun i22 i23 => laws_szIntSS_L1 p0 kk i22 i23 = some r) (fun _ _ H => ?_) (fun k1 ihk1 i22 i23 H => ?_) Fuel (IntKind.i64.wrap (p1 - (p0.length : Int))) (0) (H)) (fun _ h => St.sel [] rfl rfl h) ⟨rfl, rfl, rfl, trivial⟩
  ·unfold laws_szIntSS_L1 at H
   exact absurd H (by simp)
  ·unfold laws_szIntSS_L1 at H
   refine c_seq <| sR <| ow_batch [.p, .p, .lenS 66 56 sl66, .p] rfl <| nQ <| cI H rfl (fun H => ?_) (fun H => ?_)
   ·refine c_skip <| x_qs <| c_seq <| c_block <| sR <| oPP rfl <| bE H fun e36 h37 H => ow_ixB rfl rfl rfl rfl rfl sl66 ty56 rfl g0 h37 fun q40 c41 hd38 hA39 => ?_
    obtain ⟨a42, c43, rfl⟩ := rd_sl1 hd38
    refine o1 rfl (ry_load1 rfl rfl ty56 (at_bor bor hA39)) <| oP rfl <| bE H fun y44 h45 H => oq rfl (qc rfl fn73 (fun w1 hw1 => laws_szIntS_ok w1  h45 (rds_bor hd38 w1 hw1))) tt2 <| oP rfl <| nR <| oPP rfl <| nQ <| cI H rfl (fun H => ?_) (fun H => ?_)
    ·exact sR <| oP rfl <| nT <| x_qb_ret <| x_qs_ret <| x_ql_ret <| x_qb_ret <| x_qs_ret <| xr 4 rfl (by cases H; exact q1)
    ·exact c_skip <| x_qb <| x_qs <| c_reg <| ow_batch [.p, .p, .p] rfl <| ow_nil <| x_ql (RW.at (ihk1 (y44) (IntKind.i64.wrap (i23 + 1)) (H)) (fun _ h => St.sel [] rfl rfl h) ⟨rfl, rfl, rfl, trivial⟩)
   ·exact c_exit <| x_qs_exit <| x_ql_exit <| x_qb_here <| x_qs <| sR <| oPP rfl <| nT <| xr 4 rfl (by cases H; exact q1)
theorem laws_szStats_ok (w : World) {p0 : Tlaws_Stats} {p1 : Int} {cs0 : List Value} {r : Int} (H : laws_szStats p0 p1 = some r)  (g0 : (eTlaws_Stats).rd w [] p0 cs0) :
    Calls Tryz.prog 74 #[.agg cs0.toArray, .int .i64 p1] w (fun en w' => en = .returned (.int .i64 r) ∧ Ext [] w w') := by
 obtain ⟨c10, c11, rfl, g12, g13⟩ := rdo_Tlaws_Stats g0
 obtain ⟨a14, c15, rfl⟩ := rd_sl1 g12
 obtain ⟨a16, c17, rfl⟩ := rd_sl1 g13
 unfold laws_szStats at H
 refine f_enter Tryz.func74 rfl Tryz.ntmps74 rfl (St.init w []) <| sR <| ob _ rfl fun b18 => oP rfl <| nR <| ow_batch [.fa 98 0 0 fa98_0] rfl <| o1 rfl (r1 0 0 rfl ty56 rfl) <| oP rfl <| bE H fun y19 h20 H => oq rfl (qc rfl fn73 (fun w1 hw1 => laws_szIntS_ok w1  h20 (rds_bor g12 w1 hw1))) tt2 <| oP rfl <| nQ <| c_seq <| sR <| oPP rfl <| nQ <| cI H rfl (fun H => ?_) (fun H => ?_)
 ·exact sR <| oP rfl <| nT <| x_qs_ret <| xr 4 rfl (by cases H; exact q1)
 ·refine c_skip <| x_qs <| sR <| ow_batch [.fa 98 1 1 fa98_1] rfl <| o1 rfl (r1 1 0 rfl ty66 rfl) <| oP rfl <| bE H fun y21 h22 H => oq rfl (qc rfl fn109 (fun w1 hw1 => laws_szIntSS_ok w1  h22 (rds_bor g13 w1 hw1))) tt2 <| oP rfl <| nQ <| c_seq <| sR <| oPP rfl <| nQ <| cI H rfl (fun H => ?_) (fun H => ?_)
  ·exact sR <| oP rfl <| nT <| x_qs_ret <| xr 4 rfl (by cases H; exact q1)
  ·exact c_skip <| x_qs <| sR <| oPP rfl <| nT <| xr 4 rfl (by cases H; exact q1)
theorem laws_szNode_ok (w : World) {p0 : Tlaws_Node} {p1 : Int} {cs0 : List Value} {r : Int} (H : laws_szNode p0 p1 = some r)  (g0 : (eTlaws_Node).rd w [] p0 cs0) :
    Calls Tryz.prog 44 #[.agg cs0.toArray, .int .i64 p1] w (fun en w' => en = .returned (.int .i64 r) ∧ Ext [] w w') := by
 obtain ⟨c10, c11, c12, c13, c14, c15, c16, c17, c18, c19, rfl, g20, g21, g22, g23, g24, g25, g26, g27, g28, g29⟩ := rdo_Tlaws_Node g0
 obtain rfl := g20
 obtain rfl := g21
 obtain ⟨a30, c31, rfl⟩ := rd_sl1 g22
 obtain rfl := g23
 obtain ⟨c32, c33, rfl, g34, g35⟩ := rdo_Tlaws_Stats g24
 obtain ⟨a36, c37, rfl⟩ := rd_sl1 g34
 obtain ⟨a38, c39, rfl⟩ := rd_sl1 g35
 obtain rfl := g25
 obtain ⟨a40, c41, rfl⟩ := rd_sl1 g26
 obtain rfl := g27
 obtain rfl := g28
 obtain rfl := g29
 unfold laws_szNode at H
 refine f_enter Tryz.func44 rfl Tryz.ntmps44 rfl (St.init w []) <| sR <| ob _ rfl fun b42 => oP rfl <| nR <| ow_batch [.fa 100 2 3 fa100_2] rfl <| o1 rfl (r1 3 0 rfl ty56 rfl) <| oP rfl <| bE H fun y43 h44 H => oq rfl (qc rfl fn73 (fun w1 hw1 => laws_szIntS_ok w1  h44 (rds_bor g22 w1 hw1))) tt2 <| oP rfl <| nQ <| c_seq <| sR <| oPP rfl <| nQ <| cI H rfl (fun H => ?_) (fun H => ?_)
 ·exact sR <| oP rfl <| nT <| x_qs_ret <| xr 4 rfl (by cases H; exact q1)
 ·refine c_skip <| x_qs <| sR <| ow_batch [.fa 100 4 5 fa100_4] rfl <| o1 rfl (rx 5 0 _ rfl ty98 rfl) <| oP rfl <| bE H fun y45 h46 H => oq rfl (qc rfl fn74 (fun w1 hw1 => laws_szStats_ok w1 h46 (rdm_Tlaws_Stats (rds_bor g34 w1 hw1) (rds_bor g35 w1 hw1)))) tt2 <| oP rfl <| nQ <| c_seq <| sR <| oPP rfl <| nQ <| cI H rfl (fun H => ?_) (fun H => ?_)
  ·exact sR <| oP rfl <| nT <| x_qs_ret <| xr 4 rfl (by cases H; exact q1)
  ·refine c_skip <| x_qs <| sR <| ow_batch [.fa 100 6 8 fa100_6] rfl <| o1 rfl (r1 8 0 rfl ty56 rfl) <| oP rfl <| bE H fun y47 h48 H => oq rfl (qc rfl fn73 (fun w1 hw1 => laws_szIntS_ok w1  h48 (rds_bor g26 w1 hw1))) tt2 <| oP rfl <| nQ <| c_seq <| sR <| oPP rfl <| nQ <| cI H rfl (fun H => ?_) (fun H => ?_)
   ·exact sR <| oP rfl <| nT <| x_qs_ret <| xr 4 rfl (by cases H; exact q1)
   ·exact c_skip <| x_qs <| sR <| oPP rfl <| nT <| xr 4 rfl (by cases H; exact q1)
theorem laws_szNodeS_ok (w : World) {p0 : List Tlaws_Node} {p1 : Int} {a_0 : Option Addr} {n_0 c_0 : Nat} {r : Int} (H : laws_szNodeS p0 p1 = some r)  (g0 : (eList (eTlaws_Node) 100).rd w [] p0 [.slice a_0 n_0 c_0]) :
    Calls Tryz.prog 18 #[.slice a_0 n_0 c_0, .int .i64 p1] w (fun en w' => en = .returned (.int .i64 r) ∧ Ext [] w w') := by
 obtain rfl := rd_n g0
 unfold laws_szNodeS at H
 refine f_enter Tryz.func18 rfl Tryz.ntmps18 rfl (St.init w []) <| sR <| oP rfl <| nR <| ow_batch [.p, .p, .lenS 28 100 sl28, .p, .p] rfl <| nQ <| c_seq <| sR <| oPP rfl <| nQ <| cI H rfl (fun H => ?_) (fun H => ?_)
 ·exact sR <| oP rfl <| nT <| x_qs_ret <| xr 4 rfl (by cases H; exact q1)
 ·refine c_skip <| x_qs <| c_seq <| sR <| oP rfl <| nQ <| c_block <| CW.at (loopI2 (fun (i52 : Int) (i53 : Int) => St w [] []) (fun i52 i53 => [(0, .slice a_0 p0.length c_0), (1, .int .i64 i52), (5, .int .i64 i53)]) (fun kk => fun i52 i53 => laws_szNodeS_L1 p0 kk i52 i53 = some r) (fun _ _ H => ?_) (fun k1 ihk1 i52 i53 H => ?_) Fuel (IntKind.i64.wrap (p1 - (p0.length : Int))) (0) (H)) (fun _ h => St.sel [] rfl rfl h) ⟨rfl, rfl, rfl, trivial⟩
  ·unfold laws_szNodeS_L1 at H
   exact absurd H (by simp)
  ·unfold laws_szNodeS_L1 at H
   refine c_seq <| sR <| ow_batch [.p, .p, .lenS 28 100 sl28, .p] rfl <| nQ <| cI H rfl (fun H => ?_) (fun H => ?_)
   ·refine c_skip <| x_qs <| c_seq <| c_block <| sR <| oPP rfl <| bE H fun e96 h97 H => ow_ixB rfl rfl rfl rfl rfl sl28 ty100 rfl g0 h97 fun q100 c101 hd98 hA99 => ?_
    obtain ⟨c102, c103, c104, c105, c106, c107, c108, c109, c110, c111, rfl, g112, g113, g114, g115, g116, g117, g118, g119, g120, g121⟩ := rdo_Tlaws_Node hd98
    obtain rfl := g112
    obtain rfl := g113
    obtain ⟨a122, c123, rfl⟩ := rd_sl1 g114
    obtain rfl := g115
    obtain ⟨c124, c125, rfl, g126, g127⟩ := rdo_Tlaws_Stats g116
    obtain ⟨a128, c129, rfl⟩ := rd_sl1 g126
    obtain ⟨a130, c131, rfl⟩ := rd_sl1 g127
    obtain rfl := g117
    obtain ⟨a132, c133, rfl⟩ := rd_sl1 g118
    obtain rfl := g119
    obtain rfl := g120
    obtain rfl := g121
    refine o1 rfl (ry_load (cs := [.bool e96.Leaf_, .int .i64 e96.Fork_.Attr_, .int .i64 e96.Fork_.At_, .slice a122 e96.Kids_.length c123, .int .i64 e96.Miss_, .slice a128 e96.Stats_.Totals_.length c129, .slice a130 e96.Stats_.Cells_.length c131, .int .i64 e96.Since_, .slice a132 e96.Attrs_.length c133, .int .i64 e96.Depth_, .int .i64 e96.Up_, .int .i64 e96.Born_]) rfl rfl ty100 (at_bor bor hA99) rfl) <| oP rfl <| bE H fun y134 h135 H => oq rfl (qc rfl fn44 (fun w1 hw1 => laws_szNode_ok w1 h135 (rdm_Tlaws_Node rfl rfl (rds_bor g114 w1 hw1) rfl (rdm_Tlaws_Stats (rds_bor g126 w1 hw1) (rds_bor g127 w1 hw1)) rfl (rds_bor g118 w1 hw1) rfl rfl rfl))) tt2 <| oP rfl <| nR <| oPP rfl <| nQ <| cI H rfl (fun H => ?_) (fun H => ?_)
    ·exact sR <| oP rfl <| nT <| x_qb_ret <| x_qs_ret <| x_ql_ret <| x_qb_ret <| x_qs_ret <| xr 4 rfl (by cases H; exact q1)
    ·exact c_skip <| x_qb <| x_qs <| c_reg <| ow_batch [.p, .p, .p] rfl <| ow_nil <| x_ql (RW.at (ihk1 (y134) (IntKind.i64.wrap (i53 + 1)) (H)) (fun _ h => St.sel [] rfl rfl h) ⟨rfl, rfl, rfl, trivial⟩)
   ·exact c_exit <| x_qs_exit <| x_ql_exit <| x_qb_here <| x_qs <| sR <| oPP rfl <| nT <| xr 4 rfl (by cases H; exact q1)
theorem laws_szTree_ok (w : World) {p0 : Tlaws_Tree} {p1 : Int} {cs0 : List Value} {r : Int} (H : laws_szTree p0 p1 = some r)  (g0 : (eTlaws_Tree).rd w [] p0 cs0) :
    Calls Tryz.prog 5 #[.agg cs0.toArray, .int .i64 p1] w (fun en w' => en = .returned (.int .i64 r) ∧ Ext [] w w') := by
 obtain ⟨c10, c11, rfl, g12, g13⟩ := rdo_Tlaws_Tree g0
 obtain ⟨a14, c15, rfl⟩ := rd_sl1 g12
 obtain rfl := g13
 unfold laws_szTree at H
 refine f_enter Tryz.func5 rfl Tryz.ntmps5 rfl (St.init w []) <| sR <| ob _ rfl fun b16 => oP rfl <| nR <| ow_batch [.fa 30 0 0 fa30_0] rfl <| o1 rfl (r1 0 0 rfl ty28 rfl) <| oP rfl <| bE H fun y17 h18 H => oq rfl (qc rfl fn18 (fun w1 hw1 => laws_szNodeS_ok w1  h18 (rds_bor g12 w1 hw1))) tt2 <| oP rfl <| nQ <| c_seq <| sR <| oPP rfl <| nQ <| cI H rfl (fun H => ?_) (fun H => ?_)
 ·exact sR <| oP rfl <| nT <| x_qs_ret <| xr 4 rfl (by cases H; exact q1)
 ·exact c_skip <| x_qs <| sR <| oPP rfl <| nT <| xr 4 rfl (by cases H; exact q1)
theorem laws_szEx_ok (w : World) {p0 : Tlaws_Ex} {p1 : Int} {cs0 : List Value} {r : Int} (H : laws_szEx p0 p1 = some r)  (g0 : (eTlaws_Ex).rd w [] p0 cs0) :
    Calls Tryz.prog 45 #[.agg cs0.toArray, .int .i64 p1] w (fun en w' => en = .returned (.int .i64 r) ∧ Ext [] w w') := by
 obtain ⟨c10, c11, rfl, g12, g13⟩ := rdo_Tlaws_Ex g0
 obtain ⟨a14, c15, rfl⟩ := rd_sl1 g12
 obtain rfl := g13
 unfold laws_szEx at H
 refine f_enter Tryz.func45 rfl Tryz.ntmps45 rfl (St.init w []) <| sR <| ob _ rfl fun b16 => oP rfl <| nR <| ow_batch [.fa 58 0 0 fa58_0] rfl <| o1 rfl (r1 0 0 rfl ty56 rfl) <| oP rfl <| bE H fun y17 h18 H => oq rfl (qc rfl fn73 (fun w1 hw1 => laws_szIntS_ok w1  h18 (rds_bor g12 w1 hw1))) tt2 <| oP rfl <| nQ <| c_seq <| sR <| oPP rfl <| nQ <| cI H rfl (fun H => ?_) (fun H => ?_)
 ·exact sR <| oP rfl <| nT <| x_qs_ret <| xr 4 rfl (by cases H; exact q1)
 ·exact c_skip <| x_qs <| sR <| oPP rfl <| nT <| xr 4 rfl (by cases H; exact q1)
theorem laws_szEntry_ok (w : World) {p0 : Tlaws_Entry} {p1 : Int} {cs0 : List Value} {r : Int} (H : laws_szEntry p0 p1 = some r)  (g0 : (eTlaws_Entry).rd w [] p0 cs0) :
    Calls Tryz.prog 19 #[.agg cs0.toArray, .int .i64 p1] w (fun en w' => en = .returned (.int .i64 r) ∧ Ext [] w w') := by
 obtain ⟨c10, c11, rfl, g12, g13⟩ := rdo_Tlaws_Entry g0
 obtain ⟨c14, c15, rfl, g16, g17⟩ := rdo_Tlaws_Ex g12
 obtain ⟨a18, c19, rfl⟩ := rd_sl1 g16
 obtain rfl := g17
 obtain rfl := g13
 unfold laws_szEntry at H
 refine f_enter Tryz.func19 rfl Tryz.ntmps19 rfl (St.init w []) <| sR <| ob _ rfl fun b20 => oP rfl <| nR <| ow_batch [.fa 60 0 0 fa60_0] rfl <| o1 rfl (rx 0 0 _ rfl ty58 rfl) <| oP rfl <| bE H fun y21 h22 H => oq rfl (qc rfl fn45 (fun w1 hw1 => laws_szEx_ok w1 h22 (rdm_Tlaws_Ex (rds_bor g16 w1 hw1) rfl))) tt2 <| oP rfl <| nQ <| c_seq <| sR <| oPP rfl <| nQ <| cI H rfl (fun H => ?_) (fun H => ?_)
 ·exact sR <| oP rfl <| nT <| x_qs_ret <| xr 4 rfl (by cases H; exact q1)
 ·exact c_skip <| x_qs <| sR <| oPP rfl <| nT <| xr 4 rfl (by cases H; exact q1)
theorem laws_szEntryS_ok (w : World) {p0 : List Tlaws_Entry} {p1 : Int} {a_0 : Option Addr} {n_0 c_0 : Nat} {r : Int} (H : laws_szEntryS p0 p1 = some r)  (g0 : (eList (eTlaws_Entry) 60).rd w [] p0 [.slice a_0 n_0 c_0]) :
    Calls Tryz.prog 6 #[.slice a_0 n_0 c_0, .int .i64 p1] w (fun en w' => en = .returned (.int .i64 r) ∧ Ext [] w w') := by
 obtain rfl := rd_n g0
 unfold laws_szEntryS at H
 refine f_enter Tryz.func6 rfl Tryz.ntmps6 rfl (St.init w []) <| sR <| oP rfl <| nR <| ow_batch [.p, .p, .lenS 31 60 sl31, .p, .p] rfl <| nQ <| c_seq <| sR <| oPP rfl <| nQ <| cI H rfl (fun H => ?_) (fun H => ?_)
 ·exact sR <| oP rfl <| nT <| x_qs_ret <| xr 4 rfl (by cases H; exact q1)
 ·refine c_skip <| x_qs <| c_seq <| sR <| oP rfl <| nQ <| c_block <| CW.at (loopI2 (fun (i30 : Int) (i31 : Int) => St w [] []) (fun i30 i31 => [(0, .slice a_0 p0.length c_0), (1, .int .i64 i30), (5, .int .i64 i31)]) (fun kk => fun i30 i31 => laws_szEntryS_L1 p0 kk i30 i31 = some r) (fun _ _ H => ?_) (fun k1 ihk1 i30 i31 H => ?_) Fuel (IntKind.i64.wrap (p1 - (p0.length : Int))) (0) (H)) (fun _ h => St.sel [] rfl rfl h) ⟨rfl, rfl, rfl, trivial⟩
  ·unfold laws_szEntryS_L1 at H
   exact absurd H (by simp)
  ·unfold laws_szEntryS_L1 at H
   refine c_seq <| sR <| ow_batch [.p, .p, .lenS 31 60 sl31, .p] rfl <| nQ <| cI H rfl (fun H => ?_) (fun H => ?_)
   ·refine c_skip <| x_qs <| c_seq <| c_block <| sR <| oPP rfl <| bE H fun e52 h53 H => ow_ixB rfl rfl rfl rfl rfl sl31 ty60 rfl g0 h53 fun q56 c57 hd54 hA55 => ?_
    obtain ⟨c58, c59, rfl, g60, g61⟩ := rdo_Tlaws_Entry hd54
    obtain ⟨c62, c63, rfl, g64, g65⟩ := rdo_Tlaws_Ex g60
    obtain ⟨a66, c67, rfl⟩ := rd_sl1 g64
    obtain rfl := g65
    obtain rfl := g61
    refine o1 rfl (ry_load (cs := [.slice a66 e52.Ex_.Bins_.length c67, .int .i64 e52.Ex_.Class_, .int .i64 e52.Weight_]) rfl rfl ty60 (at_bor bor hA55) rfl) <| oP rfl <| bE H fun y68 h69 H => oq rfl (qc rfl fn19 (fun w1 hw1 => laws_szEntry_ok w1 h69 (rdm_Tlaws_Entry (rdm_Tlaws_Ex (rds_bor g64 w1 hw1) rfl) rfl))) tt2 <| oP rfl <| nR <| oPP rfl <| nQ <| cI H rfl (fun H => ?_) (fun H => ?_)
    ·exact sR <| oP rfl <| nT <| x_qb_ret <| x_qs_ret <| x_ql_ret <| x_qb_ret <| x_qs_ret <| xr 4 rfl (by cases H; exact q1)
    ·exact c_skip <| x_qb <| x_qs <| c_reg <| ow_batch [.p, .p, .p] rfl <| ow_nil <| x_ql (RW.at (ihk1 (y68) (IntKind.i64.wrap (i31 + 1)) (H)) (fun _ h => St.sel [] rfl rfl h) ⟨rfl, rfl, rfl, trivial⟩)
   ·exact c_exit <| x_qs_exit <| x_ql_exit <| x_qb_here <| x_qs <| sR <| oPP rfl <| nT <| xr 4 rfl (by cases H; exact q1)
theorem laws_toIntS_ok (w : World) {M0 : List Nat} {p0 : List Int} {a_0 : Option Addr} {n_0 c_0 : Nat} {r : List Int} (H : laws_toIntS p0 = some r) (HS : St w M0 [] w) (g0 : (eList eI 3).rd w M0 p0 [.slice a_0 n_0 c_0]) :
    Calls Tryz.prog 86 #[.slice a_0 n_0 c_0] w (fun en w' => ∃ v, en = .returned v ∧ ∃ (a0 : Option Addr), ∃ (n0 : Nat), ∃ (c0 : Nat), ∃ (F0 : List Nat), v = .slice a0 n0 c0 ∧ St w M0 [Res.own (eList eI 3) F0 r [.slice a0 n0 c0]] w') := by
 obtain rfl := rd_n g0
 unfold laws_toIntS at H
 refine f_enter Tryz.func86 rfl Tryz.ntmps86 rfl (HS) <| sR <| oP rfl <| nR <| ow_batch [.p, .lenS 56 3 sl56] rfl <| bE H fun l10 h11 H => ow_make (e := eI) (zero := (0 : Int)) rfl rfl rfl rfl rfl rfl sl56 ty3 rfl rfl rfl rfl (fun _ => ⟨rfl, rfl⟩) h11 (fun _ => kp) fun b12 => oP rfl <| nQ <| c_seq <| sR <| oP rfl <| nQ <| c_block <| CW.at (loopI2 (fun (l19 : List Int) (i20 : Int) => St w M0 [Res.own (eList eI 3) [b12] l19 [.slice (some ⟨b12, 0, none⟩) l10.length l10.length]]) (fun l19 i20 => [(0, .slice a_0 p0.length c_0), (3, .slice (some ⟨b12, 0, none⟩) l10.length l10.length), (4, .int .i64 i20)]) (fun kk => fun l19 i20 => laws_toIntS_L1 p0 kk l19 i20 = some r) (fun _ _ H => ?_) (fun k1 ihk1 l19 i20 H => ?_) Fuel (l10) (0) (H)) (fun _ h => St.sel [0] rfl rfl h) ⟨rfl, rfl, rfl, trivial⟩
 ·unfold laws_toIntS_L1 at H
  exact absurd H (by simp)
 ·unfold laws_toIntS_L1 at H
  refine c_seq <| sR <| ow_batch [.p, .p, .lenS 56 3 sl56, .p] rfl <| nQ <| cI H rfl (fun H => ?_) (fun H => ?_)
  ·exact c_skip <| x_qs <| c_seq <| c_block <| c_reg <| ow_batch [.p, .p, .p, .p] rfl <| bE H fun e27 h28 H => ow_ixE (e := eI) (xs := p0) (j := i20) rfl rfl rfl rfl rfl sl56 ty3 rfl (fun w1 hw1 => rds_bor g0 w1 hw1) h28 (by rw [Nat.mul_one]) <| o1 rfl (ry_load1 rfl rfl ty3 (at_elV (fun w1 hw1 => rds_bor g0 w1 hw1) h28)) <| bE H fun e29 h30 H => ow_ixE (e := eI) (xs := l19) (j := i20) rfl rfl rfl rfl rfl sl56 ty3 rfl (fun w1 hw1 => rds_own (e := eList eI 3) (r := 0) rfl w1 hw1) h30 (by rw [Nat.mul_one]) <| ow_storeV (i := 0) (j := i20) rfl rfl rfl rfl rfl rfl ty3 rfl h30 (fun _ => rfl) kp <| ow_nil <| x_qb <| x_qs <| c_reg <| ow_batch [.p, .p, .p] rfl <| ow_nil <| x_ql (RW.at (ihk1 ((l19.set i20.toNat e27)) (IntKind.i64.wrap (i20 + 1)) (H)) (fun _ h => St.sel [0] rfl rfl h) ⟨rfl, rfl, rfl, trivial⟩)
  ·exact c_exit <| x_qs_exit <| x_ql_exit <| x_qb_here <| x_qs <| sR <| oPP rfl <| nT <| x_retR (rs := [.tmp 2]) (vs := [.slice (some ⟨b12, 0, none⟩) l10.length l10.length]) rfl ⟨rfl, trivial⟩ (fun w' hw' => by
    obtain rfl := of_some H
    exact ⟨_, rfl, (some ⟨b12, 0, none⟩), l10.length, l10.length, [b12], rfl, hw'.sel [0] rfl rfl⟩)
theorem laws_toStringS_ok (w : World) {M0 : List Nat} {p0 : List (List UInt8)} {a_0 : Option Addr} {n_0 c_0 : Nat} {r : List (List UInt8)} (H : laws_toStringS p0 = some r) (HS : St w M0 [] w) (g0 : (eList (eStr) 9).rd w M0 p0 [.slice a_0 n_0 c_0]) :
    Calls Tryz.prog 29 #[.slice a_0 n_0 c_0] w (fun en w' => ∃ v, en = .returned v ∧ ∃ (a0 : Option Addr), ∃ (n0 : Nat), ∃ (c0 : Nat), ∃ (F0 : List Nat), v = .slice a0 n0 c0 ∧ St w M0 [Res.own (eList (eStr) 9) F0 r [.slice a0 n0 c0]] w') := by
 obtain rfl := rd_n g0
 unfold laws_toStringS at H
 refine f_enter Tryz.func29 rfl Tryz.ntmps29 rfl (HS) <| sR <| oP rfl <| nR <| ow_batch [.p, .lenS 23 9 sl23] rfl <| bE H fun l10 h11 H => ow_make (e := eStr) (zero := ([] : List UInt8)) rfl rfl rfl rfl rfl rfl sl23 ty9 rfl rfl rfl rfl (fun _ => ⟨rfl, rfl⟩) h11 (fun _ => kp) fun b12 => oP rfl <| nQ <| c_seq <| sR <| oP rfl <| nQ <| c_block <| CW.at (loopI2 (fun (l19 : List (List UInt8)) (i20 : Int) => St w M0 [Res.own (eList (eStr) 9) [b12] l19 [.slice (some ⟨b12, 0, none⟩) l10.length l10.length]]) (fun l19 i20 => [(0, .slice a_0 p0.length c_0), (3, .slice (some ⟨b12, 0, none⟩) l10.length l10.length), (4, .int .i64 i20)]) (fun kk => fun l19 i20 => laws_toStringS_L1 p0 kk l19 i20 = some r) (fun _ _ H => ?_) (fun k1 ihk1 l19 i20 H => ?_) Fuel (l10) (0) (H)) (fun _ h => St.sel [0] rfl rfl h) ⟨rfl, rfl, rfl, trivial⟩
 ·unfold laws_toStringS_L1 at H
  exact absurd H (by simp)
 ·unfold laws_toStringS_L1 at H
  refine c_seq <| sR <| ow_batch [.p, .p, .lenS 23 9 sl23, .p] rfl <| nQ <| cI H rfl (fun H => ?_) (fun H => ?_)
  ·exact c_skip <| x_qs <| c_seq <| c_block <| c_reg <| ow_batch [.p, .p, .p, .p] rfl <| bE H fun e27 h28 H => ow_ixE (e := eStr) (xs := p0) (j := i20) rfl rfl rfl rfl rfl sl23 ty9 rfl (fun w1 hw1 => rds_bor g0 w1 hw1) h28 (by rw [Nat.mul_one]) <| o1 rfl (ry_load1 rfl rfl ty9 (at_elV (fun w1 hw1 => rds_bor g0 w1 hw1) h28)) <| bE H fun e29 h30 H => ow_ixE (e := eStr) (xs := l19) (j := i20) rfl rfl rfl rfl rfl sl23 ty9 rfl (fun w1 hw1 => rds_own (e := eList (eStr) 9) (r := 0) rfl w1 hw1) h30 (by rw [Nat.mul_one]) <| ow_storeV (i := 0) (j := i20) rfl rfl rfl rfl rfl rfl ty9 rfl h30 (fun _ => rfl) kp <| ow_nil <| x_qb <| x_qs <| c_reg <| ow_batch [.p, .p, .p] rfl <| ow_nil <| x_ql (RW.at (ihk1 ((l19.set i20.toNat e27)) (IntKind.i64.wrap (i20 + 1)) (H)) (fun _ h => St.sel [0] rfl rfl h) ⟨rfl, rfl, rfl, trivial⟩)
  ·exact c_exit <| x_qs_exit <| x_ql_exit <| x_qb_here <| x_qs <| sR <| oPP rfl <| nT <| x_retR (rs := [.tmp 2]) (vs := [.slice (some ⟨b12, 0, none⟩) l10.length l10.length]) rfl ⟨rfl, trivial⟩ (fun w' hw' => by
    obtain rfl := of_some H
    exact ⟨_, rfl, (some ⟨b12, 0, none⟩), l10.length, l10.length, [b12], rfl, hw'.sel [0] rfl rfl⟩)
theorem laws_toAttr_ok (w : World) {M0 : List Nat} {p0 : Tlaws_Attr} {cs0 : List Value} {r : Timpl_Attr} (H : laws_toAttr p0 = some r) (HS : St w M0 [] w) (g0 : (eTlaws_Attr).rd w M0 p0 cs0) :
    Calls Tryz.prog 56 #[.agg cs0.toArray] w (fun en w' => ∃ v, en = .returned v ∧ ∃ (a0 : Option Addr), ∃ (n0 : Nat), ∃ (c0 : Nat), ∃ (F0 : List Nat), ∃ (a1 : Option Addr), ∃ (n1 : Nat), ∃ (c1 : Nat), ∃ (F1 : List Nat), v = .agg #[vS r.Name_, .slice a0 n0 c0, .slice a1 n1 c1] ∧ St w M0 [Res.own (eList eI 3) F0 r.Cuts_ [.slice a0 n0 c0], Res.own (eList (eStr) 9) F1 r.Values_ [.slice a1 n1 c1]] w') := by
 obtain ⟨c10, c11, c12, rfl, g13, g14, g15⟩ := rdo_Tlaws_Attr g0
 obtain rfl := g13
 obtain ⟨a16, c17, rfl⟩ := rd_sl1 g14
 obtain ⟨a18, c19, rfl⟩ := rd_sl1 g15
 unfold laws_toAttr at H
 refine f_enter Tryz.func56 rfl Tryz.ntmps56 rfl (HS) <| sR <| ob _ rfl fun b20 => ow_alloc rfl rfl rfl rfl ty113 (fun _ => kp) fun b21 => nR <| ow_alloc rfl rfl rfl rfl ty113 (fun _ => kp) fun b22 => nR <| ow_batch [.fa 95 0 0 fa95_0] rfl <| o1 rfl (r1 0 0 rfl ty9 rfl) <| ow_batch [.fa 113 0 0 fa113_0] rfl <| sC 0 [vS p0.Name_] [_, _, _] 2 rfl ty9 rfl <| nR <| ow_batch [.fa 95 1 1 fa95_1] rfl <| o1 rfl (r1 1 0 rfl ty56 rfl) <| bE H fun y23 h24 H => ow_callS rfl fn86 rfl rfl rfl rfl (fun w1 hw1 => laws_toIntS_ok w1  h24 (hw1.carve [] rfl rfl) (rds_bor g14 w1 hw1)) fun v25 w1 w2 hw1 hR27 => ?_
 obtain ⟨a28, n29, c30, F31, rfl, hS26⟩ := hR27
 obtain rfl := own_nS (i := 0) hS26 rfl
 refine ⟨St w M0 [_, _, _, _], hw1.comp [] rfl rfl hS26, fun _ _ => trivial, ?_⟩
 refine ow_batch [.fa 113 1 1 fa113_1] rfl <| sC 1 [.slice a28 y23.length c30] [_, _, _] 2 rfl ty56 rfl <| nR <| ow_batch [.fa 95 2 2 fa95_2] rfl <| o1 rfl (r1 2 0 rfl ty23 rfl) <| bE H fun y32 h33 H => ow_callS rfl fn29 rfl rfl rfl rfl (fun w1 hw1 => laws_toStringS_ok w1  h33 (hw1.carve [] rfl rfl) (rds_bor g15 w1 hw1)) fun v34 w1 w2 hw1 hR36 => ?_
 obtain ⟨a37, n38, c39, F40, rfl, hS35⟩ := hR36
 obtain rfl := own_nS (i := 0) hS35 rfl
 refine ⟨St w M0 [_, _, _, _, _], hw1.comp [] rfl rfl hS35, fun _ _ => trivial, ?_⟩
 exact ow_batch [.fa 113 2 2 fa113_2] rfl <| sC 2 [.slice a37 y32.length c39] [_, _, _] 2 rfl ty23 rfl <| nR <| o1 rfl (rx 0 2 _ rfl ty113 rfl) <| sC 0 [vS p0.Name_, .slice a28 y23.length c30, .slice a37 y32.length c39] [_, _, _] 1 rfl ty113 rfl <| nT <| x_retR (rs := [.cell 2 113]) (vs := [.agg #[vS p0.Name_, .slice a28 y23.length c30, .slice a37 y32.length c39]]) rfl ⟨⟨_, [vS p0.Name_, .slice a28 y23.length c30, .slice a37 y32.length c39], _, _, _, rfl, ty113, (at_box (T := 113) 0 (boxIn (i := 1) rfl) rfl), rfl, rfl⟩, trivial⟩ (fun w' hw' => by
  obtain rfl := of_some H
  exact ⟨_, rfl, a28, y23.length, c30, F31, a37, y32.length, c39, F40, rfl, hw'.sel [3, 4] rfl rfl⟩)
theorem laws_toAttrS_ok (w : World) {M0 : List Nat} {p0 : List Tlaws_Attr} {a_0 : Option Addr} {n_0 c_0 : Nat} {r : List Timpl_Attr} (H : laws_toAttrS p0 = some r) (HS : St w M0 [] w) (g0 : (eList (eTlaws_Attr) 95).rd w M0 p0 [.slice a_0 n_0 c_0]) :
    Calls Tryz.prog 28 #[.slice a_0 n_0 c_0] w (fun en w' => ∃ v, en = .returned v ∧ ∃ (a0 : Option Addr), ∃ (n0 : Nat), ∃ (c0 : Nat), ∃ (F0 : List Nat), v = .slice a0 n0 c0 ∧ St w M0 [Res.own (eList (eTimpl_Attr) 113) F0 r [.slice a0 n0 c0]] w') := by
 obtain rfl := rd_n g0
 unfold laws_toAttrS at H
 refine f_enter Tryz.func28 rfl Tryz.ntmps28 rfl (HS) <| sR <| oP rfl <| nR <| ow_batch [.p, .lenS 22 95 sl22] rfl <| bE H fun l10 h11 H => ow_make (e := eTimpl_Attr) (zero := ((Timpl_Attr.mk [] [] []) : Timpl_Attr)) rfl rfl rfl rfl rfl rfl sl36 ty113 rfl rfl rfl rfl (fun _ => (ownm_Timpl_Attr (x := (Timpl_Attr.mk [] [] [])) (⟨rfl, rfl⟩ : (eStr).own _ [] ([] : List UInt8) _) ((.inl ⟨rfl, rfl, rfl⟩) : (eList eI 3).own _ [] ([] : List Int) _) ((.inl ⟨rfl, rfl, rfl⟩) : (eList (eStr) 9).own _ [] ([] : List (List UInt8)) _))) h11 (fun _ => kp) fun b12 => oP rfl <| nQ <| c_seq <| sR <| oP rfl <| nQ <| c_block <| CW.at (loopI3 (fun (l63 : List Timpl_Attr) (F64 : List Nat) (i65 : Int) => St w M0 [Res.own (eList (eTimpl_Attr) 113) F64 l63 [.slice (some ⟨b12, 0, none⟩) l10.length l10.length]]) (fun l63 F64 i65 => [(0, .slice a_0 p0.length c_0), (3, .slice (some ⟨b12, 0, none⟩) l10.length l10.length), (4, .int .i64 i65)]) (fun kk => fun l63 F64 i65 => laws_toAttrS_L1 p0 kk l63 i65 = some r) (fun _ _ _ H => ?_) (fun k1 ihk1 l63 F64 i65 H => ?_) Fuel (l10) ([b12]) (0) (H)) (fun _ h => St.sel [0] rfl rfl h) ⟨rfl, rfl, rfl, trivial⟩
 ·unfold laws_toAttrS_L1 at H
  exact absurd H (by simp)
 ·unfold laws_toAttrS_L1 at H
  refine c_seq <| sR <| ow_batch [.p, .p, .lenS 22 95 sl22, .p] rfl <| nQ <| cI H rfl (fun H => ?_) (fun H => ?_)
  ·refine c_skip <| x_qs <| c_seq <| c_block <| c_reg <| ow_batch [.p, .p, .p, .p] rfl <| bE H fun e116 h117 H => ow_ixB rfl rfl rfl rfl rfl sl22 ty95 rfl g0 h117 fun q120 c121 hd118 hA119 => ?_
   obtain ⟨c122, c123, c124, rfl, g125, g126, g127⟩ := rdo_Tlaws_Attr hd118
   obtain rfl := g125
   obtain ⟨a128, c129, rfl⟩ := rd_sl1 g126
   obtain ⟨a130, c131, rfl⟩ := rd_sl1 g127
   refine o1 rfl (ry_load (cs := [vS e116.Name_, .slice a128 e116.Cuts_.length c129, .slice a130 e116.Values_.length c131]) rfl rfl ty95 (at_bor bor hA119) rfl) <| bE H fun y132 h133 H => ow_callS rfl fn56 rfl rfl rfl rfl (fun w1 hw1 => laws_toAttr_ok w1 h133 (hw1.carve [] rfl rfl) (rdm_Tlaws_Attr rfl (rds_bor g126 w1 hw1) (rds_bor g127 w1 hw1))) fun v134 w1 w2 hw1 hR136 => ?_
   obtain ⟨a137, n138, c139, F140, a141, n142, c143, F144, rfl, hS135⟩ := hR136
   obtain rfl := own_nS (i := 0) hS135 rfl
   obtain rfl := own_nS (i := 1) hS135 rfl
   refine ⟨St w M0 [_, _, _], hw1.comp [] rfl rfl hS135, fun _ _ => trivial, ?_⟩
   refine bE H fun e145 h146 H => ow_ex4 rfl (fun w1 hw1 => foc (r := 0) hw1 rfl h146) fun b148 G149 F150 c151 => ow_fact rfl (fun w1 hw1 => hw1.1) fun q147 => ?_
   obtain ⟨ha152, hn153⟩ := q147
   refine ow_st (C' := St w M0 [_, _, _, _, _]) rfl (fun w1 hw1 => hw1.2) <| ow_ex3 rfl (fun w1 hw1 => opn_Timpl_Attr (i := 4) hw1 rfl) fun a155 c156 F157 => ow_ex3 rfl (fun _ h => h) fun a158 c159 F160 => ow_fact rfl (fun w1 hw1 => hw1.1) fun q154 => ?_
   subst q154
   refine ow_st (C' := St w M0 [_, _, _, _, _, _, _]) rfl (fun w1 hw1 => hw1.2) <| ow_ixH rfl rfl rfl rfl rfl sl36 ty113 rfl (holeIn (p := 3) rfl) hn153 ha152 (idx_some h146).1 <| ow_storeH (off := 0) [vS y132.Name_, .slice a137 y132.Cuts_.length c139, .slice a141 y132.Values_.length c143] (p := 3) (c' := [_, _, _]) rfl rfl rfl rfl rfl (by first | rfl | simp only [add_lit, add_add, add_zero]) rfl ty113 rfl rfl (by intro u hu; simp only [List.mem_cons, List.not_mem_nil, or_false] at hu; rcases hu with rfl | rfl | rfl <;> rfl) rfl rfl rfl kp <| ow_nil <| x_qb <| x_qs <| CW.weak (C' := St w M0 [_, _, _, _, _]) ?_ (fun _ h => St.sel [1, 2, 3, 5, 6] rfl rfl h)
   exact c_reg <| ow_batch [.p, .p, .p] rfl <| ow_nil <| xw_ex (fun w1 hw1 => fus_Timpl_Attr (x0 := y132.Name_) [0, 1] hw1 rfl rfl) fun F161 => xw_st (C' := St w M0 [_, _, _, _, _, _]) (fun _ h => h) <| xw_ex (fun w1 hw1 => unf (p := 2) (q := 5) hw1 rfl rfl rfl hn153 ha152) fun F162 => xw_st (C' := St w M0 [_, _, _, _, _, _, _]) (fun _ h => h) <| x_ql (RW.at (ihk1 ((l63.set i65.toNat y132)) (F162) (IntKind.i64.wrap (i65 + 1)) (H)) (fun _ h => St.sel [6] rfl rfl h) ⟨rfl, rfl, rfl, trivial⟩)
  ·exact c_exit <| x_qs_exit <| x_ql_exit <| x_qb_here <| x_qs <| sR <| oPP rfl <| nT <| x_retR (rs := [.tmp 2]) (vs := [.slice (some ⟨b12, 0, none⟩) l10.length l10.length]) rfl ⟨rfl, trivial⟩ (fun w' hw' => by
    obtain rfl := of_some H
    exact ⟨_, rfl, (some ⟨b12, 0, none⟩), l10.length, l10.length, F64, rfl, hw'.sel [0] rfl rfl⟩)
theorem laws_toSchema_ok (w : World) {M0 : List Nat} {p0 : Tlaws_Schema} {cs0 : List Value} {r : Timpl_Schema} (H : laws_toSchema p0 = some r) (HS : St w M0 [] w) (g0 : (eTlaws_Schema).rd w M0 p0 cs0) :
    Calls Tryz.prog 8 #[.agg cs0.toArray] w (fun en w' => ∃ v, en = .returned v ∧ ∃ (a0 : Option Addr), ∃ (n0 : Nat), ∃ (c0 : Nat), ∃ (F0 : List Nat), ∃ (a1 : Option Addr), ∃ (n1 : Nat), ∃ (c1 : Nat), ∃ (F1 : List Nat), v = .agg #[.slice a0 n0 c0, .slice a1 n1 c1] ∧ St w M0 [Res.own (eList (eTimpl_Attr) 113) F0 r.Attrs_ [.slice a0 n0 c0], Res.own (eList (eStr) 9) F1 r.Classes_ [.slice a1 n1 c1]] w') := by
 obtain ⟨c10, c11, rfl, g12, g13⟩ := rdo_Tlaws_Schema g0
 obtain ⟨a14, c15, rfl⟩ := rd_sl1 g12
 obtain ⟨a16, c17, rfl⟩ := rd_sl1 g13
 unfold laws_toSchema at H
 refine f_enter Tryz.func8 rfl Tryz.ntmps8 rfl (HS) <| sR <| ob _ rfl fun b18 => ow_alloc rfl rfl rfl rfl ty38 (fun _ => kp) fun b19 => nR <| ow_alloc rfl rfl rfl rfl ty38 (fun _ => kp) fun b20 => nR <| ow_batch [.fa 25 0 0 fa25_0] rfl <| o1 rfl (r1 0 0 rfl ty22 rfl) <| bE H fun y21 h22 H => ow_callS rfl fn28 rfl rfl rfl rfl (fun w1 hw1 => laws_toAttrS_ok w1  h22 (hw1.carve [] rfl rfl) (rds_bor g12 w1 hw1)) fun v23 w1 w2 hw1 hR25 => ?_
 obtain ⟨a26, n27, c28, F29, rfl, hS24⟩ := hR25
 obtain rfl := own_nS (i := 0) hS24 rfl
 refine ⟨St w M0 [_, _, _, _], hw1.comp [] rfl rfl hS24, fun _ _ => trivial, ?_⟩
 refine ow_batch [.fa 38 0 0 fa38_0] rfl <| sC 0 [.slice a26 y21.length c28] [_, _] 2 rfl ty36 rfl <| nR <| ow_batch [.fa 25 1 1 fa25_1] rfl <| o1 rfl (r1 1 0 rfl ty23 rfl) <| bE H fun y30 h31 H => ow_callS rfl fn29 rfl rfl rfl rfl (fun w1 hw1 => laws_toStringS_ok w1  h31 (hw1.carve [] rfl rfl) (rds_bor g13 w1 hw1)) fun v32 w1 w2 hw1 hR34 => ?_
 obtain ⟨a35, n36, c37, F38, rfl, hS33⟩ := hR34
 obtain rfl := own_nS (i := 0) hS33 rfl
 refine ⟨St w M0 [_, _, _, _, _], hw1.comp [] rfl rfl hS33, fun _ _ => trivial, ?_⟩
 exact ow_batch [.fa 38 1 1 fa38_1] rfl <| sC 1 [.slice a35 y30.length c37] [_, _] 2 rfl ty23 rfl <| nR <| o1 rfl (rx 0 2 _ rfl ty38 rfl) <| sC 0 [.slice a26 y21.length c28, .slice a35 y30.length c37] [_, _] 1 rfl ty38 rfl <| nT <| x_retR (rs := [.cell 2 38]) (vs := [.agg #[.slice a26 y21.length c28, .slice a35 y30.length c37]]) rfl ⟨⟨_, [.slice a26 y21.length c28, .slice a35 y30.length c37], _, _, _, rfl, ty38, (at_box (T := 38) 0 (boxIn (i := 1) rfl) rfl), rfl, rfl⟩, trivial⟩ (fun w' hw' => by
  obtain rfl := of_some H
  exact ⟨_, rfl, a26, y21.length, c28, F29, a35, y30.length, c37, F38, rfl, hw'.sel [3, 4] rfl rfl⟩)
theorem laws_toRule_ok (w : World) {p0 : Tlaws_Rule}  {r : Timpl_Rule} (H : laws_toRule p0 = some r)   :
    Calls Tryz.prog 9 #[.agg #[.int .i64 p0.Sure_, .int .i64 p0.Tie_, .int .i64 p0.Grace_, .int .i64 p0.Depth_, .int .i64 p0.Nodes_, .int .i64 p0.Units_, .bool p0.Two_]] w (fun en w' => en = .returned (.agg #[.int .i64 r.Sure_, .int .i64 r.Tie_, .int .i64 r.Grace_, .int .i64 r.Depth_, .int .i64 r.Nodes_, .int .i64 r.Units_, .bool r.Two_]) ∧ Ext [] w w') := by
 unfold laws_toRule at H
 refine f_enter Tryz.func9 rfl Tryz.ntmps9 rfl (St.init w []) <| sR <| ob _ rfl fun b10 => ow_alloc rfl rfl rfl rfl ty40 (fun _ => kp) fun b11 => nR <| ow_alloc rfl rfl rfl rfl ty40 (fun _ => kp) fun b12 => nR <| ow_batch [.fa 27 0 0 fa27_0] rfl <| o1 rfl (r1 0 0 rfl ty3 rfl) <| ow_batch [.fa 40 0 0 fa40_0] rfl <| sC 0 [.int .i64 p0.Sure_] [_, _, _, _, _, _, _] 2 rfl ty3 rfl <| nR <| ow_batch [.fa 27 1 1 fa27_1] rfl <| o1 rfl (r1 1 0 rfl ty3 rfl) <| ow_batch [.fa 40 1 1 fa40_1] rfl <| sC 1 [.int .i64 p0.Tie_] [_, _, _, _, _, _, _] 2 rfl ty3 rfl <| nR <| ow_batch [.fa 27 2 2 fa27_2] rfl <| o1 rfl (r1 2 0 rfl ty3 rfl) <| ow_batch [.fa 40 2 2 fa40_2] rfl <| sC 2 [.int .i64 p0.Grace_] [_, _, _, _, _, _, _] 2 rfl ty3 rfl <| nR <| ow_batch [.fa 27 3 3 fa27_3] rfl <| o1 rfl (r1 3 0 rfl ty3 rfl) <| ?_
 refine ow_batch [.fa 40 3 3 fa40_3] rfl <| sC 3 [.int .i64 p0.Depth_] [_, _, _, _, _, _, _] 2 rfl ty3 rfl <| nR <| ow_batch [.fa 27 4 4 fa27_4] rfl <| o1 rfl (r1 4 0 rfl ty3 rfl) <| ow_batch [.fa 40 4 4 fa40_4] rfl <| sC 4 [.int .i64 p0.Nodes_] [_, _, _, _, _, _, _] 2 rfl ty3 rfl <| nR <| ow_batch [.fa 27 5 5 fa27_5] rfl <| o1 rfl (r1 5 0 rfl ty3 rfl) <| ow_batch [.fa 40 5 5 fa40_5] rfl <| sC 5 [.int .i64 p0.Units_] [_, _, _, _, _, _, _] 2 rfl ty3 rfl <| nQ <| c_seq <| CW.weak (C' := St w [] [_, _, _]) ?_ (fun _ h => St.sel [0, 1, 2] rfl rfl h)
 exact c_reg <| ow_batch [.fa 27 6 6 fa27_6] rfl <| o1 rfl (r1 6 0 rfl ty4 rfl) <| ow_batch [.fa 40 6 6 fa40_6] rfl <| sC 6 [.bool p0.Two_] [_, _, _, _, _, _, _] 2 rfl ty4 rfl <| nR <| o1 rfl (rx 0 2 _ rfl ty40 rfl) <| sC 0 [.int .i64 p0.Sure_, .int .i64 p0.Tie_, .int .i64 p0.Grace_, .int .i64 p0.Depth_, .int .i64 p0.Nodes_, .int .i64 p0.Units_, .bool p0.Two_] [_, _, _, _, _, _, _] 1 rfl ty40 rfl <| nT <| x_retR (rs := [.cell 2 40]) (vs := [.agg #[.int .i64 p0.Sure_, .int .i64 p0.Tie_, .int .i64 p0.Grace_, .int .i64 p0.Depth_, .int .i64 p0.Nodes_, .int .i64 p0.Units_, .bool p0.Two_]]) rfl ⟨⟨_, [.int .i64 p0.Sure_, .int .i64 p0.Tie_, .int .i64 p0.Grace_, .int .i64 p0.Depth_, .int .i64 p0.Nodes_, .int .i64 p0.Units_, .bool p0.Two_], _, _, _, rfl, ty40, (at_box (T := 40) 0 (boxIn (i := 1) rfl) rfl), rfl, rfl⟩, trivial⟩ (fun w' hw' => by
  obtain rfl := of_some H
  exact ⟨rfl, hw'.ext⟩)
theorem laws_toFork_ok (w : World) {p0 : Tlaws_Fork}  {r : Timpl_Fork} (H : laws_toFork p0 = some r)   :
    Calls Tryz.prog 87 #[.agg #[.int .i64 p0.Attr_, .int .i64 p0.At_]] w (fun en w' => en = .returned (.agg #[.int .i64 r.Attr_, .int .i64 r.At_]) ∧ Ext [] w w') := by
 unfold laws_toFork at H
 exact f_enter Tryz.func87 rfl Tryz.ntmps87 rfl (St.init w []) <| sR <| ob _ rfl fun b10 => ow_alloc rfl rfl rfl rfl ty65 (fun _ => kp) fun b11 => nR <| ow_alloc rfl rfl rfl rfl ty65 (fun _ => kp) fun b12 => nR <| ow_batch [.fa 97 0 0 fa97_0] rfl <| o1 rfl (r1 0 0 rfl ty3 rfl) <| ow_batch [.fa 65 0 0 fa65_0] rfl <| sC 0 [.int .i64 p0.Attr_] [_, _] 2 rfl ty3 rfl <| nR <| ow_batch [.fa 97 1 1 fa97_1] rfl <| o1 rfl (r1 1 0 rfl ty3 rfl) <| ow_batch [.fa 65 1 1 fa65_1] rfl <| sC 1 [.int .i64 p0.At_] [_, _] 2 rfl ty3 rfl <| nR <| o1 rfl (rx 0 2 _ rfl ty65 rfl) <| sC 0 [.int .i64 p0.Attr_, .int .i64 p0.At_] [_, _] 1 rfl ty65 rfl <| nT <| x_retR (rs := [.cell 2 65]) (vs := [.agg #[.int .i64 p0.Attr_, .int .i64 p0.At_]]) rfl ⟨⟨_, [.int .i64 p0.Attr_, .int .i64 p0.At_], _, _, _, rfl, ty65, (at_box (T := 65) 0 (boxIn (i := 1) rfl) rfl), rfl, rfl⟩, trivial⟩ (fun w' hw' => by
  obtain rfl := of_some H
  exact ⟨rfl, hw'.ext⟩)
theorem laws_toIntSS_ok (w : World) {M0 : List Nat} {p0 : List (List Int)} {a_0 : Option Addr} {n_0 c_0 : Nat} {r : List (List Int)} (H : laws_toIntSS p0 = some r) (HS : St w M0 [] w) (g0 : (eList (eList eI 3) 56).rd w M0 p0 [.slice a_0 n_0 c_0]) :
    Calls Tryz.prog 112 #[.slice a_0 n_0 c_0] w (fun en w' => ∃ v, en = .returned v ∧ ∃ (a0 : Option Addr), ∃ (n0 : Nat), ∃ (c0 : Nat), ∃ (F0 : List Nat), v = .slice a0 n0 c0 ∧ St w M0 [Res.own (eList (eList eI 3) 56) F0 r [.slice a0 n0 c0]] w') := by
 obtain rfl := rd_n g0
 unfold laws_toIntSS at H
 refine f_enter Tryz.func112 rfl Tryz.ntmps112 rfl (HS) <| sR <| oP rfl <| nR <| ow_batch [.p, .lenS 66 56 sl66] rfl <| bE H fun l10 h11 H => ow_make (e := eList eI 3) (zero := ([] : List Int)) rfl rfl rfl rfl rfl rfl sl66 ty56 rfl rfl rfl rfl (fun _ => (.inl ⟨rfl, rfl, rfl⟩)) h11 (fun _ => kp) fun b12 => oP rfl <| nQ <| c_seq <| sR <| oP rfl <| nQ <| c_block <| CW.at (loopI3 (fun (l46 : List (List Int)) (F47 : List Nat) (i48 : Int) => St w M0 [Res.own (eList (eList eI 3) 56) F47 l46 [.slice (some ⟨b12, 0, none⟩) l10.length l10.length]]) (fun l46 F47 i48 => [(0, .slice a_0 p0.length c_0), (3, .slice (some ⟨b12, 0, none⟩) l10.length l10.length), (4, .int .i64 i48)]) (fun kk => fun l46 F47 i48 => laws_toIntSS_L1 p0 kk l46 i48 = some r) (fun _ _ _ H => ?_) (fun k1 ihk1 l46 F47 i48 H => ?_) Fuel (l10) ([b12]) (0) (H)) (fun _ h => St.sel [0] rfl rfl h) ⟨rfl, rfl, rfl, trivial⟩
 ·unfold laws_toIntSS_L1 at H
  exact absurd H (by simp)
 ·unfold laws_toIntSS_L1 at H
  refine c_seq <| sR <| ow_batch [.p, .p, .lenS 66 56 sl66, .p] rfl <| nQ <| cI H rfl (fun H => ?_) (fun H => ?_)
  ·refine c_skip <| x_qs <| c_seq <| c_block <| c_reg <| ow_batch [.p, .p, .p, .p] rfl <| bE H fun e82 h83 H => ow_ixB rfl rfl rfl rfl rfl sl66 ty56 rfl g0 h83 fun q86 c87 hd84 hA85 => ?_
   obtain ⟨a88, c89, rfl⟩ := rd_sl1 hd84
   refine o1 rfl (ry_load1 rfl rfl ty56 (at_bor bor hA85)) <| bE H fun y90 h91 H => ow_callS rfl fn86 rfl rfl rfl rfl (fun w1 hw1 => laws_toIntS_ok w1  h91 (hw1.carve [] rfl rfl) (rds_bor hd84 w1 hw1)) fun v92 w1 w2 hw1 hR94 => ?_
   obtain ⟨a95, n96, c97, F98, rfl, hS93⟩ := hR94
   obtain rfl := own_nS (i := 0) hS93 rfl
   refine ⟨St w M0 [_, _], hw1.comp [] rfl rfl hS93, fun _ _ => trivial, ?_⟩
   refine bE H fun e99 h100 H => ow_ex4 rfl (fun w1 hw1 => foc (r := 0) hw1 rfl h100) fun b102 G103 F104 c105 => ow_fact rfl (fun w1 hw1 => hw1.1) fun q101 => ?_
   obtain ⟨ha106, hn107⟩ := q101
   refine ow_st (C' := St w M0 [_, _, _, _]) rfl (fun w1 hw1 => hw1.2) <| ow_ex2 rfl (fun w1 hw1 => opn_sl (i := 3) hw1 rfl) fun a108 c109 => ow_fact rfl (fun w1 hw1 => hw1.1) fun q110 => ?_
   subst q110
   exact ow_st (C' := St w M0 [_, _, _, _]) rfl (fun w1 hw1 => hw1.2) <| ow_ixH rfl rfl rfl rfl rfl sl66 ty56 rfl (holeIn (p := 2) rfl) hn107 ha106 (idx_some h100).1 <| ow_storeH (off := 0) [.slice a95 y90.length c97] (p := 2) (c' := [_]) rfl rfl rfl rfl rfl (by first | rfl | simp only [add_lit, add_add, add_zero]) rfl ty56 rfl rfl (by intro u hu; simp only [List.mem_cons, List.not_mem_nil, or_false] at hu; rcases hu with rfl <;> rfl) rfl rfl rfl kp <| ow_nil <| x_qb <| x_qs <| c_reg <| ow_batch [.p, .p, .p] rfl <| ow_nil <| xw_ex (fun w1 hw1 => unf (p := 2) (q := 1) hw1 rfl rfl rfl hn107 ha106) fun F111 => xw_st (C' := St w M0 [_, _, _, _, _]) (fun _ h => h) <| x_ql (RW.at (ihk1 ((l46.set i48.toNat y90)) (F111) (IntKind.i64.wrap (i48 + 1)) (H)) (fun _ h => St.sel [4] rfl rfl h) ⟨rfl, rfl, rfl, trivial⟩)
  ·exact c_exit <| x_qs_exit <| x_ql_exit <| x_qb_here <| x_qs <| sR <| oPP rfl <| nT <| x_retR (rs := [.tmp 2]) (vs := [.slice (some ⟨b12, 0, none⟩) l10.length l10.length]) rfl ⟨rfl, trivial⟩ (fun w' hw' => by
    obtain rfl := of_some H
    exact ⟨_, rfl, (some ⟨b12, 0, none⟩), l10.length, l10.length, F47, rfl, hw'.sel [0] rfl rfl⟩)
theorem laws_toStats_ok (w : World) {M0 : List Nat} {p0 : Tlaws_Stats} {cs0 : List Value} {r : Timpl_Stats} (H : laws_toStats p0 = some r) (HS : St w M0 [] w) (g0 : (eTlaws_Stats).rd w M0 p0 cs0) :
    Calls Tryz.prog 88 #[.agg cs0.toArray] w (fun en w' => ∃ v, en = .returned v ∧ ∃ (a0 : Option Addr), ∃ (n0 : Nat), ∃ (c0 : Nat), ∃ (F0 : List Nat), ∃ (a1 : Option Addr), ∃ (n1 : Nat), ∃ (c1 : Nat), ∃ (F1 : List Nat), v = .agg #[.slice a0 n0 c0, .slice a1 n1 c1] ∧ St w M0 [Res.own (eList eI 3) F0 r.Totals_ [.slice a0 n0 c0], Res.own (eList (eList eI 3) 56) F1 r.Cells_ [.slice a1 n1 c1]] w') := by
 obtain ⟨c10, c11, rfl, g12, g13⟩ := rdo_Tlaws_Stats g0
 obtain ⟨a14, c15, rfl⟩ := rd_sl1 g12
 obtain ⟨a16, c17, rfl⟩ := rd_sl1 g13
 unfold laws_toStats at H
 refine f_enter Tryz.func88 rfl Tryz.ntmps88 rfl (HS) <| sR <| ob _ rfl fun b18 => ow_alloc rfl rfl rfl rfl ty68 (fun _ => kp) fun b19 => nR <| ow_alloc rfl rfl rfl rfl ty68 (fun _ => kp) fun b20 => nR <| ow_batch [.fa 98 0 0 fa98_0] rfl <| o1 rfl (r1 0 0 rfl ty56 rfl) <| bE H fun y21 h22 H => ow_callS rfl fn86 rfl rfl rfl rfl (fun w1 hw1 => laws_toIntS_ok w1  h22 (hw1.carve [] rfl rfl) (rds_bor g12 w1 hw1)) fun v23 w1 w2 hw1 hR25 => ?_
 obtain ⟨a26, n27, c28, F29, rfl, hS24⟩ := hR25
 obtain rfl := own_nS (i := 0) hS24 rfl
 refine ⟨St w M0 [_, _, _, _], hw1.comp [] rfl rfl hS24, fun _ _ => trivial, ?_⟩
 refine ow_batch [.fa 68 0 0 fa68_0] rfl <| sC 0 [.slice a26 y21.length c28] [_, _] 2 rfl ty56 rfl <| nR <| ow_batch [.fa 98 1 1 fa98_1] rfl <| o1 rfl (r1 1 0 rfl ty66 rfl) <| bE H fun y30 h31 H => ow_callS rfl fn112 rfl rfl rfl rfl (fun w1 hw1 => laws_toIntSS_ok w1  h31 (hw1.carve [] rfl rfl) (rds_bor g13 w1 hw1)) fun v32 w1 w2 hw1 hR34 => ?_
 obtain ⟨a35, n36, c37, F38, rfl, hS33⟩ := hR34
 obtain rfl := own_nS (i := 0) hS33 rfl
 refine ⟨St w M0 [_, _, _, _, _], hw1.comp [] rfl rfl hS33, fun _ _ => trivial, ?_⟩
 exact ow_batch [.fa 68 1 1 fa68_1] rfl <| sC 1 [.slice a35 y30.length c37] [_, _] 2 rfl ty66 rfl <| nR <| o1 rfl (rx 0 2 _ rfl ty68 rfl) <| sC 0 [.slice a26 y21.length c28, .slice a35 y30.length c37] [_, _] 1 rfl ty68 rfl <| nT <| x_retR (rs := [.cell 2 68]) (vs := [.agg #[.slice a26 y21.length c28, .slice a35 y30.length c37]]) rfl ⟨⟨_, [.slice a26 y21.length c28, .slice a35 y30.length c37], _, _, _, rfl, ty68, (at_box (T := 68) 0 (boxIn (i := 1) rfl) rfl), rfl, rfl⟩, trivial⟩ (fun w' hw' => by
  obtain rfl := of_some H
  exact ⟨_, rfl, a26, y21.length, c28, F29, a35, y30.length, c37, F38, rfl, hw'.sel [3, 4] rfl rfl⟩)
theorem laws_toNode_ok (w : World) {M0 : List Nat} {p0 : Tlaws_Node} {cs0 : List Value} {r : Timpl_Node} (H : laws_toNode p0 = some r) (HS : St w M0 [] w) (g0 : (eTlaws_Node).rd w M0 p0 cs0) :
    Calls Tryz.prog 57 #[.agg cs0.toArray] w (fun en w' => ∃ v, en = .returned v ∧ ∃ (a0 : Option Addr), ∃ (n0 : Nat), ∃ (c0 : Nat), ∃ (F0 : List Nat), ∃ (a1 : Option Addr), ∃ (n1 : Nat), ∃ (c1 : Nat), ∃ (F1 : List Nat), ∃ (a2 : Option Addr), ∃ (n2 : Nat), ∃ (c2 : Nat), ∃ (F2 : List Nat), ∃ (a3 : Option Addr), ∃ (n3 : Nat), ∃ (c3 : Nat), ∃ (F3 : List Nat), v = .agg #[.bool r.Leaf_, .int .i64 r.Fork_.Attr_, .int .i64 r.Fork_.At_, .slice a0 n0 c0, .int .i64 r.Miss_, .slice a1 n1 c1, .slice a2 n2 c2, .int .i64 r.Since_, .slice a3 n3 c3, .int .i64 r.Depth_, .int .i64 r.Up_, .int .i64 r.Born_] ∧ St w M0 [Res.own (eList eI 3) F0 r.Kids_ [.slice a0 n0 c0], Res.own (eList eI 3) F1 r.Stats_.Totals_ [.slice a1 n1 c1], Res.own (eList (eList eI 3) 56) F2 r.Stats_.Cells_ [.slice a2 n2 c2], Res.own (eList eI 3) F3 r.Attrs_ [.slice a3 n3 c3]] w') := by
 obtain ⟨c10, c11, c12, c13, c14, c15, c16, c17, c18, c19, rfl, g20, g21, g22, g23, g24, g25, g26, g27, g28, g29⟩ := rdo_Tlaws_Node g0
 obtain rfl := g20
 obtain rfl := g21
 obtain ⟨a30, c31, rfl⟩ := rd_sl1 g22
 obtain rfl := g23
 obtain ⟨c32, c33, rfl, g34, g35⟩ := rdo_Tlaws_Stats g24
 obtain ⟨a36, c37, rfl⟩ := rd_sl1 g34
 obtain ⟨a38, c39, rfl⟩ := rd_sl1 g35
 obtain rfl := g25
 obtain ⟨a40, c41, rfl⟩ := rd_sl1 g26
 obtain rfl := g27
 obtain rfl := g28
 obtain rfl := g29
 unfold laws_toNode at H
 refine f_enter Tryz.func57 rfl Tryz.ntmps57 rfl (HS) <| sR <| ob _ rfl fun b42 => ow_alloc rfl rfl rfl rfl ty70 (fun _ => kp) fun b43 => nR <| ow_alloc rfl rfl rfl rfl ty70 (fun _ => kp) fun b44 => nR <| ow_batch [.fa 100 0 0 fa100_0] rfl <| o1 rfl (r1 0 0 rfl ty4 rfl) <| ow_batch [.fa 70 0 0 fa70_0] rfl <| sC 0 [.bool p0.Leaf_] [_, _, _, _, _, _, _, _, _, _, _, _] 2 rfl ty4 rfl <| nR <| ow_batch [.fa 100 1 1 fa100_1] rfl <| o1 rfl (rx 1 0 _ rfl ty97 rfl) <| bE H fun y45 h46 H => oq rfl (qc rfl fn87 (fun w1 hw1 => laws_toFork_ok w1 (p0 := p0.Fork_) h46)) tt2 <| ow_batch [.fa 70 1 1 fa70_1] rfl <| sC 1 [.int .i64 y45.Attr_, .int .i64 y45.At_] [_, _, _, _, _, _, _, _, _, _, _, _] 2 rfl ty65 rfl <| nR <| ow_batch [.fa 100 2 3 fa100_2] rfl <| o1 rfl (r1 3 0 rfl ty56 rfl) <| bE H fun y47 h48 H => ow_callS rfl fn86 rfl rfl rfl rfl (fun w1 hw1 => laws_toIntS_ok w1  h48 (hw1.carve [] rfl rfl) (rds_bor g22 w1 hw1)) fun v49 w1 w2 hw1 hR51 => ?_
 obtain ⟨a52, n53, c54, F55, rfl, hS50⟩ := hR51
 obtain rfl := own_nS (i := 0) hS50 rfl
 refine ⟨St w M0 [_, _, _, _], hw1.comp [] rfl rfl hS50, fun _ _ => trivial, ?_⟩
 refine ow_batch [.fa 70 2 3 fa70_2] rfl <| sC 3 [.slice a52 y47.length c54] [_, _, _, _, _, _, _, _, _, _, _, _] 2 rfl ty56 rfl <| nR <| ow_batch [.fa 100 3 4 fa100_3] rfl <| o1 rfl (r1 4 0 rfl ty3 rfl) <| ow_batch [.fa 70 3 4 fa70_3] rfl <| sC 4 [.int .i64 p0.Miss_] [_, _, _, _, _, _, _, _, _, _, _, _] 2 rfl ty3 rfl <| nR <| ow_batch [.fa 100 4 5 fa100_4] rfl <| o1 rfl (rx 5 0 _ rfl ty98 rfl) <| bE H fun y56 h57 H => ow_callS rfl fn88 rfl rfl rfl rfl (fun w1 hw1 => laws_toStats_ok w1 h57 (hw1.carve [] rfl rfl) (rdm_Tlaws_Stats (rds_bor g34 w1 hw1) (rds_bor g35 w1 hw1))) fun v58 w1 w2 hw1 hR60 => ?_
 obtain ⟨a61, n62, c63, F64, a65, n66, c67, F68, rfl, hS59⟩ := hR60
 obtain rfl := own_nS (i := 0) hS59 rfl
 obtain rfl := own_nS (i := 1) hS59 rfl
 refine ⟨St w M0 [_, _, _, _, _, _], hw1.comp [] rfl rfl hS59, fun _ _ => trivial, ?_⟩
 refine ow_batch [.fa 70 4 5 fa70_4] rfl <| sC 5 [.slice a61 y56.Totals_.length c63, .slice a65 y56.Cells_.length c67] [_, _, _, _, _, _, _, _, _, _, _, _] 2 rfl ty68 rfl <| nR <| ow_batch [.fa 100 5 7 fa100_5] rfl <| o1 rfl (r1 7 0 rfl ty3 rfl) <| ow_batch [.fa 70 5 7 fa70_5] rfl <| sC 7 [.int .i64 p0.Since_] [_, _, _, _, _, _, _, _, _, _, _, _] 2 rfl ty3 rfl <| nQ <| c_seq <| CW.weak (C' := St w M0 [_, _, _, _, _, _]) ?_ (fun _ h => St.sel [0, 1, 2, 3, 4, 5] rfl rfl h)
 refine c_reg <| ow_batch [.fa 100 6 8 fa100_6] rfl <| o1 rfl (r1 8 0 rfl ty56 rfl) <| bE H fun y69 h70 H => ow_callS rfl fn86 rfl rfl rfl rfl (fun w1 hw1 => laws_toIntS_ok w1  h70 (hw1.carve [] rfl rfl) (rds_bor g26 w1 hw1)) fun v71 w1 w2 hw1 hR73 => ?_
 obtain ⟨a74, n75, c76, F77, rfl, hS72⟩ := hR73
 obtain rfl := own_nS (i := 0) hS72 rfl
 refine ⟨St w M0 [_, _, _, _, _, _, _], hw1.comp [] rfl rfl hS72, fun _ _ => trivial, ?_⟩
 exact ow_batch [.fa 70 6 8 fa70_6] rfl <| sC 8 [.slice a74 y69.length c76] [_, _, _, _, _, _, _, _, _, _, _, _] 2 rfl ty56 rfl <| nR <| ow_batch [.fa 100 7 9 fa100_7] rfl <| o1 rfl (r1 9 0 rfl ty3 rfl) <| ow_batch [.fa 70 7 9 fa70_7] rfl <| sC 9 [.int .i64 p0.Depth_] [_, _, _, _, _, _, _, _, _, _, _, _] 2 rfl ty3 rfl <| nR <| ow_batch [.fa 100 8 10 fa100_8] rfl <| o1 rfl (r1 10 0 rfl ty3 rfl) <| ow_batch [.fa 70 8 10 fa70_8] rfl <| sC 10 [.int .i64 p0.Up_] [_, _, _, _, _, _, _, _, _, _, _, _] 2 rfl ty3 rfl <| nR <| ow_batch [.fa 100 9 11 fa100_9] rfl <| o1 rfl (r1 11 0 rfl ty3 rfl) <| ow_batch [.fa 70 9 11 fa70_9] rfl <| sC 11 [.int .i64 p0.Born_] [_, _, _, _, _, _, _, _, _, _, _, _] 2 rfl ty3 rfl <| nR <| o1 rfl (rx 0 2 _ rfl ty70 rfl) <| sC 0 [.bool p0.Leaf_, .int .i64 y45.Attr_, .int .i64 y45.At_, .slice a52 y47.length c54, .int .i64 p0.Miss_, .slice a61 y56.Totals_.length c63, .slice a65 y56.Cells_.length c67, .int .i64 p0.Since_, .slice a74 y69.length c76, .int .i64 p0.Depth_, .int .i64 p0.Up_, .int .i64 p0.Born_] [_, _, _, _, _, _, _, _, _, _, _, _] 1 rfl ty70 rfl <| nT <| x_retR (rs := [.cell 2 70]) (vs := [.agg #[.bool p0.Leaf_, .int .i64 y45.Attr_, .int .i64 y45.At_, .slice a52 y47.length c54, .int .i64 p0.Miss_, .slice a61 y56.Totals_.length c63, .slice a65 y56.Cells_.length c67, .int .i64 p0.Since_, .slice a74 y69.length c76, .int .i64 p0.Depth_, .int .i64 p0.Up_, .int .i64 p0.Born_]]) rfl ⟨⟨_, [.bool p0.Leaf_, .int .i64 y45.Attr_, .int .i64 y45.At_, .slice a52 y47.length c54, .int .i64 p0.Miss_, .slice a61 y56.Totals_.length c63, .slice a65 y56.Cells_.length c67, .int .i64 p0.Since_, .slice a74 y69.length c76, .int .i64 p0.Depth_, .int .i64 p0.Up_, .int .i64 p0.Born_], _, _, _, rfl, ty70, (at_box (T := 70) 0 (boxIn (i := 1) rfl) rfl), rfl, rfl⟩, trivial⟩ (fun w' hw' => by
  obtain rfl := of_some H
  exact ⟨_, rfl, a52, y47.length, c54, F55, a61, y56.Totals_.length, c63, F64, a65, y56.Cells_.length, c67, F68, a74, y69.length, c76, F77, rfl, hw'.sel [3, 4, 5, 6] rfl rfl⟩)
theorem laws_toNodeS_ok (w : World) {M0 : List Nat} {p0 : List Tlaws_Node} {a_0 : Option Addr} {n_0 c_0 : Nat} {r : List Timpl_Node} (H : laws_toNodeS p0 = some r) (HS : St w M0 [] w) (g0 : (eList (eTlaws_Node) 100).rd w M0 p0 [.slice a_0 n_0 c_0]) :
    Calls Tryz.prog 30 #[.slice a_0 n_0 c_0] w (fun en w' => ∃ v, en = .returned v ∧ ∃ (a0 : Option Addr), ∃ (n0 : Nat), ∃ (c0 : Nat), ∃ (F0 : List Nat), v = .slice a0 n0 c0 ∧ St w M0 [Res.own (eList (eTimpl_Node) 70) F0 r [.slice a0 n0 c0]] w') := by
 obtain rfl := rd_n g0
 unfold laws_toNodeS at H
 refine f_enter Tryz.func30 rfl Tryz.ntmps30 rfl (HS) <| sR <| oP rfl <| nR <| ow_batch [.p, .lenS 28 100 sl28] rfl <| bE H fun l10 h11 H => ow_make (e := eTimpl_Node) (zero := ((Timpl_Node.mk false (Timpl_Fork.mk 0 0) [] 0 (Timpl_Stats.mk [] []) 0 [] 0 0 0) : Timpl_Node)) rfl rfl rfl rfl rfl rfl sl42 ty70 rfl rfl rfl rfl (fun _ => (ownm_Timpl_Node (x := (Timpl_Node.mk false (Timpl_Fork.mk 0 0) [] 0 (Timpl_Stats.mk [] []) 0 [] 0 0 0)) (⟨rfl, rfl⟩ : (eBool).own _ [] (false : Bool) _) (⟨rfl, rfl⟩ : (eTimpl_Fork).own _ [] ((Timpl_Fork.mk 0 0) : Timpl_Fork) _) ((.inl ⟨rfl, rfl, rfl⟩) : (eList eI 3).own _ [] ([] : List Int) _) (⟨rfl, rfl⟩ : eI.own _ [] (0 : Int) _) ((ownm_Timpl_Stats (x := (Timpl_Stats.mk [] [])) ((.inl ⟨rfl, rfl, rfl⟩) : (eList eI 3).own _ [] ([] : List Int) _) ((.inl ⟨rfl, rfl, rfl⟩) : (eList (eList eI 3) 56).own _ [] ([] : List (List Int)) _)) : (eTimpl_Stats).own _ [] ((Timpl_Stats.mk [] []) : Timpl_Stats) _) (⟨rfl, rfl⟩ : eI.own _ [] (0 : Int) _) ((.inl ⟨rfl, rfl, rfl⟩) : (eList eI 3).own _ [] ([] : List Int) _) (⟨rfl, rfl⟩ : eI.own _ [] (0 : Int) _) (⟨rfl, rfl⟩ : eI.own _ [] (0 : Int) _) (⟨rfl, rfl⟩ : eI.own _ [] (0 : Int) _))) h11 (fun _ => kp) fun b12 => oP rfl <| nQ <| c_seq <| sR <| oP rfl <| nQ <| c_block <| CW.at (loopI3 (fun (l99 : List Timpl_Node) (F100 : List Nat) (i101 : Int) => St w M0 [Res.own (eList (eTimpl_Node) 70) F100 l99 [.slice (some ⟨b12, 0, none⟩) l10.length l10.length]]) (fun l99 F100 i101 => [(0, .slice a_0 p0.length c_0), (3, .slice (some ⟨b12, 0, none⟩) l10.length l10.length), (4, .int .i64 i101)]) (fun kk => fun l99 F100 i101 => laws_toNodeS_L1 p0 kk l99 i101 = some r) (fun _ _ _ H => ?_) (fun k1 ihk1 l99 F100 i101 H => ?_) Fuel (l10) ([b12]) (0) (H)) (fun _ h => St.sel [0] rfl rfl h) ⟨rfl, rfl, rfl, trivial⟩
 ·unfold laws_toNodeS_L1 at H
  exact absurd H (by simp)
 ·unfold laws_toNodeS_L1 at H
  refine c_seq <| sR <| ow_batch [.p, .p, .lenS 28 100 sl28, .p] rfl <| nQ <| cI H rfl (fun H => ?_) (fun H => ?_)
  ·refine c_skip <| x_qs <| c_seq <| c_block <| c_reg <| ow_batch [.p, .p, .p, .p] rfl <| bE H fun e188 h189 H => ow_ixB rfl rfl rfl rfl rfl sl28 ty100 rfl g0 h189 fun q192 c193 hd190 hA191 => ?_
   obtain ⟨c194, c195, c196, c197, c198, c199, c200, c201, c202, c203, rfl, g204, g205, g206, g207, g208, g209, g210, g211, g212, g213⟩ := rdo_Tlaws_Node hd190
   obtain rfl := g204
   obtain rfl := g205
   obtain ⟨a214, c215, rfl⟩ := rd_sl1 g206
   obtain rfl := g207
   obtain ⟨c216, c217, rfl, g218, g219⟩ := rdo_Tlaws_Stats g208
   obtain ⟨a220, c221, rfl⟩ := rd_sl1 g218
   obtain ⟨a222, c223, rfl⟩ := rd_sl1 g219
   obtain rfl := g209
   obtain ⟨a224, c225, rfl⟩ := rd_sl1 g210
   obtain rfl := g211
   obtain rfl := g212
   obtain rfl := g213
   refine o1 rfl (ry_load (cs := [.bool e188.Leaf_, .int .i64 e188.Fork_.Attr_, .int .i64 e188.Fork_.At_, .slice a214 e188.Kids_.length c215, .int .i64 e188.Miss_, .slice a220 e188.Stats_.Totals_.length c221, .slice a222 e188.Stats_.Cells_.length c223, .int .i64 e188.Since_, .slice a224 e188.Attrs_.length c225, .int .i64 e188.Depth_, .int .i64 e188.Up_, .int .i64 e188.Born_]) rfl rfl ty100 (at_bor bor hA191) rfl) <| bE H fun y226 h227 H => ow_callS rfl fn57 rfl rfl rfl rfl (fun w1 hw1 => laws_toNode_ok w1 h227 (hw1.carve [] rfl rfl) (rdm_Tlaws_Node rfl rfl (rds_bor g206 w1 hw1) rfl (rdm_Tlaws_Stats (rds_bor g218 w1 hw1) (rds_bor g219 w1 hw1)) rfl (rds_bor g210 w1 hw1) rfl rfl rfl)) fun v228 w1 w2 hw1 hR230 => ?_
   obtain ⟨a231, n232, c233, F234, a235, n236, c237, F238, a239, n240, c241, F242, a243, n244, c245, F246, rfl, hS229⟩ := hR230
   obtain rfl := own_nS (i := 0) hS229 rfl
   obtain rfl := own_nS (i := 1) hS229 rfl
   obtain rfl := own_nS (i := 2) hS229 rfl
   obtain rfl := own_nS (i := 3) hS229 rfl
   refine ⟨St w M0 [_, _, _, _, _], hw1.comp [] rfl rfl hS229, fun _ _ => trivial, ?_⟩
   refine bE H fun e247 h248 H => ow_ex4 rfl (fun w1 hw1 => foc (r := 0) hw1 rfl h248) fun b250 G251 F252 c253 => ow_fact rfl (fun w1 hw1 => hw1.1) fun q249 => ?_
   obtain ⟨ha254, hn255⟩ := q249
   refine ow_st (C' := St w M0 [_, _, _, _, _, _, _]) rfl (fun w1 hw1 => hw1.2) <| ow_ex3 rfl (fun w1 hw1 => opn_Timpl_Node (i := 6) hw1 rfl) fun a257 c258 F259 => ow_ex3 rfl (fun _ h => h) fun a260 c261 F262 => ow_ex3 rfl (fun _ h => h) fun a263 c264 F265 => ow_ex3 rfl (fun _ h => h) fun a266 c267 F268 => ow_fact rfl (fun w1 hw1 => hw1.1) fun q256 => ?_
   subst q256
   refine ow_st (C' := St w M0 [_, _, _, _, _, _, _, _, _, _, _]) rfl (fun w1 hw1 => hw1.2) <| ow_ixH rfl rfl rfl rfl rfl sl42 ty70 rfl (holeIn (p := 5) rfl) hn255 ha254 (idx_some h248).1 <| ow_storeH (off := 0) [.bool y226.Leaf_, .int .i64 y226.Fork_.Attr_, .int .i64 y226.Fork_.At_, .slice a231 y226.Kids_.length c233, .int .i64 y226.Miss_, .slice a235 y226.Stats_.Totals_.length c237, .slice a239 y226.Stats_.Cells_.length c241, .int .i64 y226.Since_, .slice a243 y226.Attrs_.length c245, .int .i64 y226.Depth_, .int .i64 y226.Up_, .int .i64 y226.Born_] (p := 5) (c' := [_, _, _, _, _, _, _, _, _, _, _, _]) rfl rfl rfl rfl rfl (by first | rfl | simp only [add_lit, add_add, add_zero]) rfl ty70 rfl rfl (by intro u hu; simp only [List.mem_cons, List.not_mem_nil, or_false] at hu; rcases hu with rfl | rfl | rfl | rfl | rfl | rfl | rfl | rfl | rfl | rfl | rfl | rfl <;> rfl) rfl rfl rfl kp <| ow_nil <| x_qb <| x_qs <| CW.weak (C' := St w M0 [_, _, _, _, _, _, _, _, _]) ?_ (fun _ h => St.sel [1, 2, 3, 4, 5, 7, 8, 9, 10] rfl rfl h)
   exact c_reg <| ow_batch [.p, .p, .p] rfl <| ow_nil <| xw_ex (fun w1 hw1 => fus_Timpl_Node (x0 := y226.Leaf_) (x1 := y226.Fork_.Attr_) (x2 := y226.Fork_.At_) (x4 := y226.Miss_) (x7 := y226.Since_) (x9 := y226.Depth_) (x10 := y226.Up_) (x11 := y226.Born_) [0, 1, 2, 3] hw1 rfl rfl) fun F269 => xw_st (C' := St w M0 [_, _, _, _, _, _, _, _, _, _]) (fun _ h => h) <| xw_ex (fun w1 hw1 => unf (p := 4) (q := 9) hw1 rfl rfl rfl hn255 ha254) fun F270 => xw_st (C' := St w M0 [_, _, _, _, _, _, _, _, _, _, _]) (fun _ h => h) <| x_ql (RW.at (ihk1 ((l99.set i101.toNat y226)) (F270) (IntKind.i64.wrap (i101 + 1)) (H)) (fun _ h => St.sel [10] rfl rfl h) ⟨rfl, rfl, rfl, trivial⟩)
  ·exact c_exit <| x_qs_exit <| x_ql_exit <| x_qb_here <| x_qs <| sR <| oPP rfl <| nT <| x_retR (rs := [.tmp 2]) (vs := [.slice (some ⟨b12, 0, none⟩) l10.length l10.length]) rfl ⟨rfl, trivial⟩ (fun w' hw' => by
    obtain rfl := of_some H
    exact ⟨_, rfl, (some ⟨b12, 0, none⟩), l10.length, l10.length, F100, rfl, hw'.sel [0] rfl rfl⟩)
theorem laws_toTree_ok (w : World) {M0 : List Nat} {p0 : Tlaws_Tree} {cs0 : List Value} {r : Timpl_Tree} (H : laws_toTree p0 = some r) (HS : St w M0 [] w) (g0 : (eTlaws_Tree).rd w M0 p0 cs0) :
    Calls Tryz.prog 10 #[.agg cs0.toArray] w (fun en w' => ∃ v, en = .returned v ∧ ∃ (a0 : Option Addr), ∃ (n0 : Nat), ∃ (c0 : Nat), ∃ (F0 : List Nat), v = .agg #[.slice a0 n0 c0, .int .i64 r.Seen_] ∧ St w M0 [Res.own (eList (eTimpl_Node) 70) F0 r.Nodes_ [.slice a0 n0 c0]] w') := by
 obtain ⟨c10, c11, rfl, g12, g13⟩ := rdo_Tlaws_Tree g0
 obtain ⟨a14, c15, rfl⟩ := rd_sl1 g12
 obtain rfl := g13
 unfold laws_toTree at H
 refine f_enter Tryz.func10 rfl Tryz.ntmps10 rfl (HS) <| sR <| ob _ rfl fun b16 => ow_alloc rfl rfl rfl rfl ty44 (fun _ => kp) fun b17 => nR <| ow_alloc rfl rfl rfl rfl ty44 (fun _ => kp) fun b18 => nR <| ow_batch [.fa 30 0 0 fa30_0] rfl <| o1 rfl (r1 0 0 rfl ty28 rfl) <| bE H fun y19 h20 H => ow_callS rfl fn30 rfl rfl rfl rfl (fun w1 hw1 => laws_toNodeS_ok w1  h20 (hw1.carve [] rfl rfl) (rds_bor g12 w1 hw1)) fun v21 w1 w2 hw1 hR23 => ?_
 obtain ⟨a24, n25, c26, F27, rfl, hS22⟩ := hR23
 obtain rfl := own_nS (i := 0) hS22 rfl
 refine ⟨St w M0 [_, _, _, _], hw1.comp [] rfl rfl hS22, fun _ _ => trivial, ?_⟩
 exact ow_batch [.fa 44 0 0 fa44_0] rfl <| sC 0 [.slice a24 y19.length c26] [_, _] 2 rfl ty42 rfl <| nR <| ow_batch [.fa 30 1 1 fa30_1] rfl <| o1 rfl (r1 1 0 rfl ty3 rfl) <| ow_batch [.fa 44 1 1 fa44_1] rfl <| sC 1 [.int .i64 p0.Seen_] [_, _] 2 rfl ty3 rfl <| nR <| o1 rfl (rx 0 2 _ rfl ty44 rfl) <| sC 0 [.slice a24 y19.length c26, .int .i64 p0.Seen_] [_, _] 1 rfl ty44 rfl <| nT <| x_retR (rs := [.cell 2 44]) (vs := [.agg #[.slice a24 y19.length c26, .int .i64 p0.Seen_]]) rfl ⟨⟨_, [.slice a24 y19.length c26, .int .i64 p0.Seen_], _, _, _, rfl, ty44, (at_box (T := 44) 0 (boxIn (i := 1) rfl) rfl), rfl, rfl⟩, trivial⟩ (fun w' hw' => by
  obtain rfl := of_some H
  exact ⟨_, rfl, a24, y19.length, c26, F27, rfl, hw'.sel [3] rfl rfl⟩)
theorem laws_toEx_ok (w : World) {M0 : List Nat} {p0 : Tlaws_Ex} {cs0 : List Value} {r : Timpl_Ex} (H : laws_toEx p0 = some r) (HS : St w M0 [] w) (g0 : (eTlaws_Ex).rd w M0 p0 cs0) :
    Calls Tryz.prog 58 #[.agg cs0.toArray] w (fun en w' => ∃ v, en = .returned v ∧ ∃ (a0 : Option Addr), ∃ (n0 : Nat), ∃ (c0 : Nat), ∃ (F0 : List Nat), v = .agg #[.slice a0 n0 c0, .int .i64 r.Class_] ∧ St w M0 [Res.own (eList eI 3) F0 r.Bins_ [.slice a0 n0 c0]] w') := by
 obtain ⟨c10, c11, rfl, g12, g13⟩ := rdo_Tlaws_Ex g0
 obtain ⟨a14, c15, rfl⟩ := rd_sl1 g12
 obtain rfl := g13
 unfold laws_toEx at H
 refine f_enter Tryz.func58 rfl Tryz.ntmps58 rfl (HS) <| sR <| ob _ rfl fun b16 => ow_alloc rfl rfl rfl rfl ty81 (fun _ => kp) fun b17 => nR <| ow_alloc rfl rfl rfl rfl ty81 (fun _ => kp) fun b18 => nR <| ow_batch [.fa 58 0 0 fa58_0] rfl <| o1 rfl (r1 0 0 rfl ty56 rfl) <| bE H fun y19 h20 H => ow_callS rfl fn86 rfl rfl rfl rfl (fun w1 hw1 => laws_toIntS_ok w1  h20 (hw1.carve [] rfl rfl) (rds_bor g12 w1 hw1)) fun v21 w1 w2 hw1 hR23 => ?_
 obtain ⟨a24, n25, c26, F27, rfl, hS22⟩ := hR23
 obtain rfl := own_nS (i := 0) hS22 rfl
 refine ⟨St w M0 [_, _, _, _], hw1.comp [] rfl rfl hS22, fun _ _ => trivial, ?_⟩
 exact ow_batch [.fa 81 0 0 fa81_0] rfl <| sC 0 [.slice a24 y19.length c26] [_, _] 2 rfl ty56 rfl <| nR <| ow_batch [.fa 58 1 1 fa58_1] rfl <| o1 rfl (r1 1 0 rfl ty3 rfl) <| ow_batch [.fa 81 1 1 fa81_1] rfl <| sC 1 [.int .i64 p0.Class_] [_, _] 2 rfl ty3 rfl <| nR <| o1 rfl (rx 0 2 _ rfl ty81 rfl) <| sC 0 [.slice a24 y19.length c26, .int .i64 p0.Class_] [_, _] 1 rfl ty81 rfl <| nT <| x_retR (rs := [.cell 2 81]) (vs := [.agg #[.slice a24 y19.length c26, .int .i64 p0.Class_]]) rfl ⟨⟨_, [.slice a24 y19.length c26, .int .i64 p0.Class_], _, _, _, rfl, ty81, (at_box (T := 81) 0 (boxIn (i := 1) rfl) rfl), rfl, rfl⟩, trivial⟩ (fun w' hw' => by
  obtain rfl := of_some H
  exact ⟨_, rfl, a24, y19.length, c26, F27, rfl, hw'.sel [3] rfl rfl⟩)
theorem laws_toEntry_ok (w : World) {M0 : List Nat} {p0 : Tlaws_Entry} {cs0 : List Value} {r : Timpl_Entry} (H : laws_toEntry p0 = some r) (HS : St w M0 [] w) (g0 : (eTlaws_Entry).rd w M0 p0 cs0) :
    Calls Tryz.prog 31 #[.agg cs0.toArray] w (fun en w' => ∃ v, en = .returned v ∧ ∃ (a0 : Option Addr), ∃ (n0 : Nat), ∃ (c0 : Nat), ∃ (F0 : List Nat), v = .agg #[.slice a0 n0 c0, .int .i64 r.Ex_.Class_, .int .i64 r.Weight_] ∧ St w M0 [Res.own (eList eI 3) F0 r.Ex_.Bins_ [.slice a0 n0 c0]] w') := by
 obtain ⟨c10, c11, rfl, g12, g13⟩ := rdo_Tlaws_Entry g0
 obtain ⟨c14, c15, rfl, g16, g17⟩ := rdo_Tlaws_Ex g12
 obtain ⟨a18, c19, rfl⟩ := rd_sl1 g16
 obtain rfl := g17
 obtain rfl := g13
 unfold laws_toEntry at H
 refine f_enter Tryz.func31 rfl Tryz.ntmps31 rfl (HS) <| sR <| ob _ rfl fun b20 => ow_alloc rfl rfl rfl rfl ty83 (fun _ => kp) fun b21 => nR <| ow_alloc rfl rfl rfl rfl ty83 (fun _ => kp) fun b22 => nR <| ow_batch [.fa 60 0 0 fa60_0] rfl <| o1 rfl (rx 0 0 _ rfl ty58 rfl) <| bE H fun y23 h24 H => ow_callS rfl fn58 rfl rfl rfl rfl (fun w1 hw1 => laws_toEx_ok w1 h24 (hw1.carve [] rfl rfl) (rdm_Tlaws_Ex (rds_bor g16 w1 hw1) rfl)) fun v25 w1 w2 hw1 hR27 => ?_
 obtain ⟨a28, n29, c30, F31, rfl, hS26⟩ := hR27
 obtain rfl := own_nS (i := 0) hS26 rfl
 refine ⟨St w M0 [_, _, _, _], hw1.comp [] rfl rfl hS26, fun _ _ => trivial, ?_⟩
 exact ow_batch [.fa 83 0 0 fa83_0] rfl <| sC 0 [.slice a28 y23.Bins_.length c30, .int .i64 y23.Class_] [_, _, _] 2 rfl ty81 rfl <| nR <| ow_batch [.fa 60 1 2 fa60_1] rfl <| o1 rfl (r1 2 0 rfl ty3 rfl) <| ow_batch [.fa 83 1 2 fa83_1] rfl <| sC 2 [.int .i64 p0.Weight_] [_, _, _] 2 rfl ty3 rfl <| nR <| o1 rfl (rx 0 2 _ rfl ty83 rfl) <| sC 0 [.slice a28 y23.Bins_.length c30, .int .i64 y23.Class_, .int .i64 p0.Weight_] [_, _, _] 1 rfl ty83 rfl <| nT <| x_retR (rs := [.cell 2 83]) (vs := [.agg #[.slice a28 y23.Bins_.length c30, .int .i64 y23.Class_, .int .i64 p0.Weight_]]) rfl ⟨⟨_, [.slice a28 y23.Bins_.length c30, .int .i64 y23.Class_, .int .i64 p0.Weight_], _, _, _, rfl, ty83, (at_box (T := 83) 0 (boxIn (i := 1) rfl) rfl), rfl, rfl⟩, trivial⟩ (fun w' hw' => by
  obtain rfl := of_some H
  exact ⟨_, rfl, a28, y23.Bins_.length, c30, F31, rfl, hw'.sel [3] rfl rfl⟩)
theorem laws_toEntryS_ok (w : World) {M0 : List Nat} {p0 : List Tlaws_Entry} {a_0 : Option Addr} {n_0 c_0 : Nat} {r : List Timpl_Entry} (H : laws_toEntryS p0 = some r) (HS : St w M0 [] w) (g0 : (eList (eTlaws_Entry) 60).rd w M0 p0 [.slice a_0 n_0 c_0]) :
    Calls Tryz.prog 11 #[.slice a_0 n_0 c_0] w (fun en w' => ∃ v, en = .returned v ∧ ∃ (a0 : Option Addr), ∃ (n0 : Nat), ∃ (c0 : Nat), ∃ (F0 : List Nat), v = .slice a0 n0 c0 ∧ St w M0 [Res.own (eList (eTimpl_Entry) 83) F0 r [.slice a0 n0 c0]] w') := by
 obtain rfl := rd_n g0
 unfold laws_toEntryS at H
 refine f_enter Tryz.func11 rfl Tryz.ntmps11 rfl (HS) <| sR <| oP rfl <| nR <| ow_batch [.p, .lenS 31 60 sl31] rfl <| bE H fun l10 h11 H => ow_make (e := eTimpl_Entry) (zero := ((Timpl_Entry.mk (Timpl_Ex.mk [] 0) 0) : Timpl_Entry)) rfl rfl rfl rfl rfl rfl sl46 ty83 rfl rfl rfl rfl (fun _ => (ownm_Timpl_Entry (x := (Timpl_Entry.mk (Timpl_Ex.mk [] 0) 0)) ((ownm_Timpl_Ex (x := (Timpl_Ex.mk [] 0)) ((.inl ⟨rfl, rfl, rfl⟩) : (eList eI 3).own _ [] ([] : List Int) _) (⟨rfl, rfl⟩ : eI.own _ [] (0 : Int) _)) : (eTimpl_Ex).own _ [] ((Timpl_Ex.mk [] 0) : Timpl_Ex) _) (⟨rfl, rfl⟩ : eI.own _ [] (0 : Int) _))) h11 (fun _ => kp) fun b12 => oP rfl <| nQ <| c_seq <| sR <| oP rfl <| nQ <| c_block <| CW.at (loopI3 (fun (l56 : List Timpl_Entry) (F57 : List Nat) (i58 : Int) => St w M0 [Res.own (eList (eTimpl_Entry) 83) F57 l56 [.slice (some ⟨b12, 0, none⟩) l10.length l10.length]]) (fun l56 F57 i58 => [(0, .slice a_0 p0.length c_0), (3, .slice (some ⟨b12, 0, none⟩) l10.length l10.length), (4, .int .i64 i58)]) (fun kk => fun l56 F57 i58 => laws_toEntryS_L1 p0 kk l56 i58 = some r) (fun _ _ _ H => ?_) (fun k1 ihk1 l56 F57 i58 H => ?_) Fuel (l10) ([b12]) (0) (H)) (fun _ h => St.sel [0] rfl rfl h) ⟨rfl, rfl, rfl, trivial⟩
 ·unfold laws_toEntryS_L1 at H
  exact absurd H (by simp)
 ·unfold laws_toEntryS_L1 at H
  refine c_seq <| sR <| ow_batch [.p, .p, .lenS 31 60 sl31, .p] rfl <| nQ <| cI H rfl (fun H => ?_) (fun H => ?_)
  ·refine c_skip <| x_qs <| c_seq <| c_block <| c_reg <| ow_batch [.p, .p, .p, .p] rfl <| bE H fun e102 h103 H => ow_ixB rfl rfl rfl rfl rfl sl31 ty60 rfl g0 h103 fun q106 c107 hd104 hA105 => ?_
   obtain ⟨c108, c109, rfl, g110, g111⟩ := rdo_Tlaws_Entry hd104
   obtain ⟨c112, c113, rfl, g114, g115⟩ := rdo_Tlaws_Ex g110
   obtain ⟨a116, c117, rfl⟩ := rd_sl1 g114
   obtain rfl := g115
   obtain rfl := g111
   refine o1 rfl (ry_load (cs := [.slice a116 e102.Ex_.Bins_.length c117, .int .i64 e102.Ex_.Class_, .int .i64 e102.Weight_]) rfl rfl ty60 (at_bor bor hA105) rfl) <| bE H fun y118 h119 H => ow_callS rfl fn31 rfl rfl rfl rfl (fun w1 hw1 => laws_toEntry_ok w1 h119 (hw1.carve [] rfl rfl) (rdm_Tlaws_Entry (rdm_Tlaws_Ex (rds_bor g114 w1 hw1) rfl) rfl)) fun v120 w1 w2 hw1 hR122 => ?_
   obtain ⟨a123, n124, c125, F126, rfl, hS121⟩ := hR122
   obtain rfl := own_nS (i := 0) hS121 rfl
   refine ⟨St w M0 [_, _], hw1.comp [] rfl rfl hS121, fun _ _ => trivial, ?_⟩
   refine bE H fun e127 h128 H => ow_ex4 rfl (fun w1 hw1 => foc (r := 0) hw1 rfl h128) fun b130 G131 F132 c133 => ow_fact rfl (fun w1 hw1 => hw1.1) fun q129 => ?_
   obtain ⟨ha134, hn135⟩ := q129
   refine ow_st (C' := St w M0 [_, _, _, _]) rfl (fun w1 hw1 => hw1.2) <| ow_ex3 rfl (fun w1 hw1 => opn_Timpl_Entry (i := 3) hw1 rfl) fun a137 c138 F139 => ow_fact rfl (fun w1 hw1 => hw1.1) fun q136 => ?_
   subst q136
   refine ow_st (C' := St w M0 [_, _, _, _, _]) rfl (fun w1 hw1 => hw1.2) <| ow_ixH rfl rfl rfl rfl rfl sl46 ty83 rfl (holeIn (p := 2) rfl) hn135 ha134 (idx_some h128).1 <| ow_storeH (off := 0) [.slice a123 y118.Ex_.Bins_.length c125, .int .i64 y118.Ex_.Class_, .int .i64 y118.Weight_] (p := 2) (c' := [_, _, _]) rfl rfl rfl rfl rfl (by first | rfl | simp only [add_lit, add_add, add_zero]) rfl ty83 rfl rfl (by intro u hu; simp only [List.mem_cons, List.not_mem_nil, or_false] at hu; rcases hu with rfl | rfl | rfl <;> rfl) rfl rfl rfl kp <| ow_nil <| x_qb <| x_qs <| CW.weak (C' := St w M0 [_, _, _]) ?_ (fun _ h => St.sel [1, 2, 4] rfl rfl h)
   exact c_reg <| ow_batch [.p, .p, .p] rfl <| ow_nil <| xw_ex (fun w1 hw1 => fus_Timpl_Entry (x1 := y118.Ex_.Class_) (x2 := y118.Weight_) [0] hw1 rfl rfl) fun F140 => xw_st (C' := St w M0 [_, _, _, _]) (fun _ h => h) <| xw_ex (fun w1 hw1 => unf (p := 1) (q := 3) hw1 rfl rfl rfl hn135 ha134) fun F141 => xw_st (C' := St w M0 [_, _, _, _, _]) (fun _ h => h) <| x_ql (RW.at (ihk1 ((l56.set i58.toNat y118)) (F141) (IntKind.i64.wrap (i58 + 1)) (H)) (fun _ h => St.sel [4] rfl rfl h) ⟨rfl, rfl, rfl, trivial⟩)
  ·exact c_exit <| x_qs_exit <| x_ql_exit <| x_qb_here <| x_qs <| sR <| oPP rfl <| nT <| x_retR (rs := [.tmp 2]) (vs := [.slice (some ⟨b12, 0, none⟩) l10.length l10.length]) rfl ⟨rfl, trivial⟩ (fun w' hw' => by
    obtain rfl := of_some H
    exact ⟨_, rfl, (some ⟨b12, 0, none⟩), l10.length, l10.length, F57, rfl, hw'.sel [0] rfl rfl⟩)
theorem spec_l1In_ok (w : World) {p0 : Int} {p1 : Int} {p2 : Int}  {r : Bool} (H : spec_l1In p0 p1 p2 = some r)   :
    Calls Tryz.prog 47 #[.int .i64 p0, .int .i64 p1, .int .i64 p2] w (fun en w' => en = .returned (.bool r) ∧ Ext [] w w') := by
 unfold spec_l1In at H
 refine f_enter Tryz.func47 rfl Tryz.ntmps47 rfl (St.init w []) <| sR <| oP rfl <| nR <| ow_batch [.p, .p, .p, .p] rfl <| ow_cut [(14, .bool ((decide (p0 ≥ p1)) && (decide (p0 ≤ p2)))), (6, .bool false)] 4 ?_ (fun key => OW.sub (R := [(0, .int .i64 p0), (2, .int .i64 p2), (6, .bool false), (10, .bool (decide (p0 ≥ p1)))]) ?_ (sb rfl))
 ·exact oP rfl <| nT <| xr 6 rfl (by cases H; exact q1)
 ·generalize (decide (p0 ≥ p1)) = t11 at key ⊢
  cases t11
  ·exact ow_batch [.p, .p, .p, .p] rfl <| OW.sub key (sb rfl)
  ·exact ow_batch [.p, .p, .p] rfl <| oP rfl <| OW.sub key (sb rfl)
theorem spec_WordOk_ok (w : World) {p0 : List UInt8}  {r : Bool} (H : spec_WordOk p0 = some r)   :
    Calls Tryz.prog 110 #[vS p0] w (fun en w' => en = .returned (.bool r) ∧ Ext [] w w') := by
 unfold spec_WordOk at H
 refine f_enter Tryz.func110 rfl Tryz.ntmps110 rfl (St.init w []) <| sR <| oP rfl <| nQ <| c_seq <| sR <| ow_batch [.p, .lenT 9 st9] rfl <| bE H fun y10 h11 H => oq rfl (qc rfl fn47 (fun w1 hw1 => spec_l1In_ok w1  h11)) tt2 <| oP rfl <| nQ <| cI H rfl (fun H => ?_) (fun H => ?_)
 ·exact sR <| oP rfl <| nT <| x_qs_ret <| xr 2 rfl (by cases H; exact q1)
 ·refine c_skip <| x_qs <| c_seq <| sR <| oP rfl <| nQ <| c_block <| CW.at (loopI1 (fun (i20 : Int) => St w [] []) (fun i20 => [(0, vS p0), (3, .int .i64 i20)]) (fun kk => fun i20 => spec_WordOk_L1 p0 kk i20 = some r) (fun _ H => ?_) (fun k1 ihk1 i20 H => ?_) Fuel (0) (H)) (fun _ h => St.sel [] rfl rfl h) ⟨rfl, rfl, trivial⟩
  ·unfold spec_WordOk_L1 at H
   exact absurd H (by simp)
  ·unfold spec_WordOk_L1 at H
   refine c_seq <| sR <| ow_batch [.p, .p, .lenT 9 st9, .p] rfl <| nQ <| cI H rfl (fun H => ?_) (fun H => ?_)
   ·refine c_skip <| x_qs <| c_seq <| c_block <| sR <| oPP rfl <| bE H fun b29 h30 H => o1 rfl (ry_sidx (s := p0) rfl rfl rfl st9 h30) <| oPP rfl <| bE H fun u31 hu35 H => ow_cut [(23, .bool u31), (0, vS p0), (3, .int .i64 i20)] 5 ?_ (fun key => OW.sub (R := [(0, vS p0), (3, .int .i64 i20), (18, .bool (decide ((b29.toNat : Int) < 97)))]) ?_ (sb rfl))
    ·refine nQ <| cI H rfl (fun H => ?_) (fun H => ?_)
     ·exact sR <| oP rfl <| nT <| x_qb_ret <| x_qs_ret <| x_ql_ret <| x_qb_ret <| x_qs_ret <| xr 2 rfl (by cases H; exact q1)
     ·exact c_skip <| x_qb <| x_qs <| c_reg <| ow_batch [.p, .p, .p] rfl <| ow_nil <| x_ql (RW.at (ihk1 (IntKind.i64.wrap (i20 + 1)) (H)) (fun _ h => St.sel [] rfl rfl h) ⟨rfl, rfl, trivial⟩)
    ·clear H
     have H := hu35
     clear hu35
     generalize (decide ((b29.toNat : Int) < 97)) = t34 at H key ⊢
     cases t34
     ·have H := of_if_f rfl H
      refine oPP rfl <| bE H fun b32 h33 H => o1 rfl (ry_sidx (s := p0) rfl rfl rfl st9 h33) <| oP rfl <| oP rfl <| ?_
      obtain rfl := of_some H
      exact OW.sub key (sb rfl)
     ·have H := of_if_t rfl H
      refine ow_batch [.p, .p, .p, .p, .p] rfl ?_
      obtain rfl := of_some H
      exact OW.sub key (sb rfl)
   ·exact c_exit <| x_qs_exit <| x_ql_exit <| x_qb_here <| x_qs <| sR <| oP rfl <| nT <| xr 2 rfl (by cases H; exact q1)
theorem spec_l5Words_ok (w : World) {p0 : List (List UInt8)} {a_0 : Option Addr} {n_0 c_0 : Nat} {r : Bool} (H : spec_l5Words p0 = some r)  (g0 : (eList (eStr) 9).rd w [] p0 [.slice a_0 n_0 c_0]) :
    Calls Tryz.prog 75 #[.slice a_0 n_0 c_0] w (fun en w' => en = .returned (.bool r) ∧ Ext [] w w') := by
 obtain rfl := rd_n g0
 unfold spec_l5Words at H
 refine f_enter Tryz.func75 rfl Tryz.ntmps75 rfl (St.init w []) <| sR <| oP rfl <| nQ <| c_seq <| sR <| oP rfl <| nQ <| c_block <| CW.at (loopI1 (fun (i30 : Int) => St w [] []) (fun i30 => [(0, .slice a_0 p0.length c_0), (3, .int .i64 i30)]) (fun kk => fun i30 => spec_l5Words_L1 p0 kk i30 = some r) (fun _ H => ?_) (fun k1 ihk1 i30 H => ?_) Fuel (0) (H)) (fun _ h => St.sel [] rfl rfl h) ⟨rfl, rfl, trivial⟩
 ·unfold spec_l5Words_L1 at H
  exact absurd H (by simp)
 ·unfold spec_l5Words_L1 at H
  refine c_seq <| sR <| ow_batch [.p, .p, .lenS 23 9 sl23, .p] rfl <| nQ <| cI H rfl (fun H => ?_) (fun H => ?_)
  ·refine c_skip <| x_qs <| c_seq <| c_block <| c_seq <| sR <| oPP rfl <| bE H fun e51 h52 H => ow_ixE (e := eStr) (xs := p0) (j := i30) rfl rfl rfl rfl rfl sl23 ty9 rfl (fun w1 hw1 => rds_bor g0 w1 hw1) h52 (by rw [Nat.mul_one]) <| o1 rfl (ry_load1 rfl rfl ty9 (at_elV (fun w1 hw1 => rds_bor g0 w1 hw1) h52)) <| bE H fun y53 h54 H => oq rfl (qc rfl fn110 (fun w1 hw1 => spec_WordOk_ok w1  h54)) tt2 <| oP rfl <| nQ <| cI H rfl (fun H => ?_) (fun H => ?_)
   ·exact sR <| oP rfl <| nT <| x_qs_ret <| x_qb_ret <| x_qs_ret <| x_ql_ret <| x_qb_ret <| x_qs_ret <| xr 2 rfl (by cases H; exact q1)
   ·refine c_skip <| x_qs <| sR <| oP rfl <| nQ <| c_block <| CW.at (loopI1 (fun (i60 : Int) => St w [] []) (fun i60 => [(0, .slice a_0 p0.length c_0), (3, .int .i64 i30), (4, .int .i64 i60)]) (fun kk => fun i60 => spec_l5Words_L2 i30 p0 (spec_l5Words_L1 p0 k1) kk i60 = some r) (fun _ H => ?_) (fun k2 ihk2 i60 H => ?_) Fuel (0) (H)) (fun _ h => St.sel [] rfl rfl h) ⟨rfl, rfl, rfl, trivial⟩
    ·unfold spec_l5Words_L2 at H
     exact absurd H (by simp)
    ·unfold spec_l5Words_L2 at H
     refine c_seq <| sR <| ow_batch [.p, .p, .p] rfl <| nQ <| cI H rfl (fun H => ?_) (fun H => ?_)
     ·refine c_skip <| x_qs <| c_seq <| c_block <| c_seq <| c_regQ mixed (by kernel_rfl) <| oPP rfl <| bE H fun e66 h67 H => ow_ixE (e := eStr) (xs := p0) (j := i30) rfl rfl rfl rfl rfl sl23 ty9 rfl (fun w1 hw1 => rds_bor g0 w1 hw1) h67 (by rw [Nat.mul_one]) <| o1 rfl (ry_load1 rfl rfl ty9 (at_elV (fun w1 hw1 => rds_bor g0 w1 hw1) h67)) <| oPP rfl <| bE H fun e68 h69 H => ow_ixE (e := eStr) (xs := p0) (j := i60) rfl rfl rfl rfl rfl sl23 ty9 rfl (fun w1 hw1 => rds_bor g0 w1 hw1) h69 (by rw [Nat.mul_one]) <| o1 rfl (ry_load1 rfl rfl ty9 (at_elV (fun w1 hw1 => rds_bor g0 w1 hw1) h69)) <| oP rfl <| ow_nilQ <| x_qs <| cI H rfl (fun H => ?_) (fun H => ?_)
      ·exact sR <| oP rfl <| nT <| x_qb_ret <| x_qs_ret <| x_ql_ret <| x_qb_ret <| x_qb_ret <| x_qs_ret <| x_ql_ret <| x_qb_ret <| x_qs_ret <| xr 2 rfl (by cases H; exact q1)
      ·exact c_skip <| x_qb <| x_qs <| c_reg <| ow_batch [.p, .p, .p] rfl <| ow_nil <| x_ql (RW.at (ihk2 (IntKind.i64.wrap (i60 + 1)) (H)) (fun _ h => St.sel [] rfl rfl h) ⟨rfl, rfl, rfl, trivial⟩)
     ·exact c_exit <| x_qs_exit <| x_ql_exit <| x_qb_here <| x_qb <| x_qs <| c_reg <| ow_batch [.p, .p, .p] rfl <| ow_nil <| x_ql (RW.at (ihk1 (IntKind.i64.wrap (i30 + 1)) (H)) (fun _ h => St.sel [] rfl rfl h) ⟨rfl, rfl, trivial⟩)
  ·exact c_exit <| x_qs_exit <| x_ql_exit <| x_qb_here <| x_qs <| sR <| oP rfl <| nT <| xr 2 rfl (by cases H; exact q1)
theorem spec_AttrOk_ok (w : World) {p0 : Timpl_Attr} {cs0 : List Value} {r : Bool} (H : spec_AttrOk p0 = some r)  (g0 : (eTimpl_Attr).rd w [] p0 cs0) :
    Calls Tryz.prog 76 #[.agg cs0.toArray] w (fun en w' => en = .returned (.bool r) ∧ Ext [] w w') := by
 obtain ⟨c10, c11, c12, rfl, g13, g14, g15⟩ := rdo_Timpl_Attr g0
 obtain rfl := g13
 obtain ⟨a16, c17, rfl⟩ := rd_sl1 g14
 obtain ⟨a18, c19, rfl⟩ := rd_sl1 g15
 unfold spec_AttrOk at H
 refine f_enter Tryz.func76 rfl Tryz.ntmps76 rfl (St.init w []) <| sR <| ob _ rfl fun b20 => oP rfl <| nQ <| c_seq <| sR <| ow_batch [.fa 113 0 0 fa113_0] rfl <| o1 rfl (r1 0 0 rfl ty9 rfl) <| bE H fun y21 h22 H => oq rfl (qc rfl fn110 (fun w1 hw1 => spec_WordOk_ok w1  h22)) tt2 <| oP rfl <| nQ <| cI H rfl (fun H => ?_) (fun H => ?_)
 ·exact sR <| oP rfl <| nT <| x_qs_ret <| xr 2 rfl (by cases H; exact q1)
 ·refine c_skip <| x_qs <| c_seq <| sR <| ow_batch [.fa 113 1 1 fa113_1] rfl <| o1 rfl (r1 1 0 rfl ty56 rfl) <| ow_batch [.lenS 56 3 sl56, .p] rfl <| nQ <| cI H rfl (fun H => ?_) (fun H => ?_)
  ·refine sR <| ow_batch [.fa 113 2 2 fa113_2] rfl <| o1 rfl (r1 2 0 rfl ty23 rfl) <| ow_batch [.lenS 23 9 sl23] rfl <| bE H fun y23 h24 H => oq rfl (qc rfl fn47 (fun w1 hw1 => spec_l1In_ok w1  h24)) tt2 <| oP rfl <| bE H fun u25 hu29 H => ow_cut [(20, .bool u25), (2, .bool false)] 4 ?_ (fun key => OW.sub (R := [(1, .pointer (some ⟨b20, 0, none⟩)), (2, .bool false), (16, .bool y23)]) ?_ (sb rfl))
   ·exact oP rfl <| nT <| x_qs_ret <| xr 2 rfl (by cases H; exact q1)
   ·clear H
    have H := hu29
    clear hu29
    generalize y23 = t28 at H key ⊢
    cases t28
    ·have H := of_if_f rfl H
     refine ow_batch [.p, .p, .p, .p] rfl ?_
     obtain rfl := of_some H
     exact OW.sub key (sb rfl)
    ·have H := of_if_t rfl H
     refine ow_batch [.fa 113 2 2 fa113_2] rfl <| o1 rfl (r1 2 0 rfl ty23 rfl) <| bE H fun y26 h27 H => oq rfl (qc rfl fn75 (fun w1 hw1 => spec_l5Words_ok w1  h27 (rds_bor g15 w1 hw1))) tt2 <| oP rfl <| ?_
     obtain rfl := of_some H
     exact OW.sub key (sb rfl)
  ·refine c_skip <| x_qs <| c_seq <| sR <| ow_batch [.fa 113 2 2 fa113_2] rfl <| o1 rfl (r1 2 0 rfl ty23 rfl) <| ow_batch [.lenS 23 9 sl23, .p, .p] rfl <| ow_cut [(30, .bool ((decide ((p0.Values_.length : Int) > 0)) || (decide ((p0.Cuts_.length : Int) > 3)))), (1, .pointer (some ⟨b20, 0, none⟩))] 5 ?_ (fun key => OW.sub (R := [(1, .pointer (some ⟨b20, 0, none⟩)), (25, .bool (decide ((p0.Values_.length : Int) > 0)))]) ?_ (sb rfl))
   ·refine nQ <| cI H rfl (fun H => ?_) (fun H => ?_)
    ·exact sR <| oP rfl <| nT <| x_qs_ret <| xr 2 rfl (by cases H; exact q1)
    ·refine c_skip <| x_qs <| c_seq <| sR <| oP rfl <| nQ <| c_block <| CW.at (loopI1 (fun (i47 : Int) => St w [] [Res.box b20 113 [vS p0.Name_, .slice a16 p0.Cuts_.length c17, .slice a18 p0.Values_.length c19]]) (fun i47 => [(1, .pointer (some ⟨b20, 0, none⟩)), (3, .int .i64 i47)]) (fun kk => fun i47 => spec_AttrOk_L1 p0 kk i47 = some r) (fun _ H => ?_) (fun k1 ihk1 i47 H => ?_) Fuel (0) (H)) (fun _ h => St.sel [0] rfl rfl h) ⟨rfl, rfl, trivial⟩
     ·unfold spec_AttrOk_L1 at H
      exact absurd H (by simp)
     ·unfold spec_AttrOk_L1 at H
      refine c_seq <| sR <| ow_batch [.p, .fa 113 1 1 fa113_1] rfl <| o1 rfl (r1 1 0 rfl ty56 rfl) <| ow_batch [.lenS 56 3 sl56, .p] rfl <| nQ <| cI H rfl (fun H => ?_) (fun H => ?_)
      ·refine c_skip <| x_qs <| c_seq <| c_block <| c_seq <| c_regQ mixed (by kernel_rfl) <| ow_batch [.fa 113 1 1 fa113_1] rfl <| o1 rfl (r1 1 0 rfl ty56 rfl) <| oP rfl <| bE H fun e63 h64 H => ow_ixE (e := eI) (xs := p0.Cuts_) (j := i47) rfl rfl rfl rfl rfl sl56 ty3 rfl (fun w1 hw1 => rds_bor g14 w1 hw1) h64 (by rw [Nat.mul_one]) <| o1 rfl (ry_load1 rfl rfl ty3 (at_elV (fun w1 hw1 => rds_bor g14 w1 hw1) h64)) <| bE H fun y65 h66 H => oq rfl (qc rfl fn47 (fun w1 hw1 => spec_l1In_ok w1  h66)) tt2 <| oPP rfl <| bE H fun u67 hu76 H => ow_cut [(62, .bool u67), (1, .pointer (some ⟨b20, 0, none⟩)), (3, .int .i64 i47)] 17 ?_ (fun key => OW.sub (R := [(1, .pointer (some ⟨b20, 0, none⟩)), (3, .int .i64 i47), (45, .bool (!y65))]) ?_ (sb rfl))
       ·refine ow_nilQ <| x_qs <| cI H rfl (fun H => ?_) (fun H => ?_)
        ·exact sR <| oP rfl <| nT <| x_qb_ret <| x_qs_ret <| x_ql_ret <| x_qb_ret <| x_qs_ret <| xr 2 rfl (by cases H; exact q1)
        ·exact c_skip <| x_qb <| x_qs <| c_reg <| ow_batch [.p, .p, .p] rfl <| ow_nil <| x_ql (RW.at (ihk1 (IntKind.i64.wrap (i47 + 1)) (H)) (fun _ h => St.sel [0] rfl rfl h) ⟨rfl, rfl, trivial⟩)
       ·clear H
        have H := hu76
        clear hu76
        generalize (!y65) = t75 at H key ⊢
        cases t75
        ·have H := of_if_f rfl H
         refine ow_batch [.p, .p, .p] rfl <| bE H fun u68 hu74 H => ow_cut [(61, .bool u68), (1, .pointer (some ⟨b20, 0, none⟩)), (3, .int .i64 i47), (45, .bool false)] 13 ?_ (fun key => OW.sub (R := [(1, .pointer (some ⟨b20, 0, none⟩)), (3, .int .i64 i47), (45, .bool false), (48, .bool (decide (i47 > 0)))]) ?_ (sb rfl))
         ·refine ow_batch [.p] rfl ?_
          obtain rfl := of_some H
          exact OW.sub key (sb rfl)
         ·clear H
          have H := hu74
          clear hu74
          generalize (decide (i47 > 0)) = t73 at H key ⊢
          cases t73
          ·have H := of_if_f rfl H
           refine ow_batch [.p, .p, .p, .p, .p, .p, .p, .p, .p, .p, .p, .p, .p] rfl ?_
           obtain rfl := of_some H
           exact OW.sub key (sb rfl)
          ·have H := of_if_t rfl H
           refine ow_batch [.fa 113 1 1 fa113_1] rfl <| o1 rfl (r1 1 0 rfl ty56 rfl) <| oP rfl <| bE H fun e69 h70 H => ow_ixE (e := eI) (xs := p0.Cuts_) (j := i47) rfl rfl rfl rfl rfl sl56 ty3 rfl (fun w1 hw1 => rds_bor g14 w1 hw1) h70 (by rw [Nat.mul_one]) <| o1 rfl (ry_load1 rfl rfl ty3 (at_elV (fun w1 hw1 => rds_bor g14 w1 hw1) h70)) <| ow_batch [.fa 113 1 1 fa113_1] rfl <| o1 rfl (r1 1 0 rfl ty56 rfl) <| oPP rfl <| bE H fun e71 h72 H => ow_ixE (e := eI) (xs := p0.Cuts_) (j := IntKind.i64.wrap (i47 - 1)) rfl rfl rfl rfl rfl sl56 ty3 rfl (fun w1 hw1 => rds_bor g14 w1 hw1) h72 (by rw [Nat.mul_one]) <| o1 rfl (ry_load1 rfl rfl ty3 (at_elV (fun w1 hw1 => rds_bor g14 w1 hw1) h72)) <| oP rfl <| oP rfl <| ?_
           obtain rfl := of_some H
           exact OW.sub key (sb rfl)
        ·have H := of_if_t rfl H
         refine ow_batch [.p, .p, .p, .p, .p, .p, .p, .p, .p, .p, .p, .p, .p, .p, .p, .p, .p] rfl ?_
         obtain rfl := of_some H
         exact OW.sub key (sb rfl)
      ·exact c_exit <| x_qs_exit <| x_ql_exit <| x_qb_here <| x_qs <| sR <| oP rfl <| nT <| xr 2 rfl (by cases H; exact q1)
   ·generalize (decide ((p0.Values_.length : Int) > 0)) = t31 at key ⊢
    cases t31
    ·exact ow_batch [.fa 113 1 1 fa113_1] rfl <| o1 rfl (r1 1 0 rfl ty56 rfl) <| ow_batch [.lenS 56 3 sl56, .p] rfl <| oP rfl <| OW.sub key (sb rfl)
    ·exact ow_batch [.p, .p, .p, .p, .p] rfl <| OW.sub key (sb rfl)
theorem spec_SchemaOk_ok (w : World) {p0 : Timpl_Schema} {cs0 : List Value} {r : Bool} (H : spec_SchemaOk p0 = some r)  (g0 : (eTimpl_Schema).rd w [] p0 cs0) :
    Calls Tryz.prog 46 #[.agg cs0.toArray] w (fun en w' => en = .returned (.bool r) ∧ Ext [] w w') := by
 obtain ⟨c10, c11, rfl, g12, g13⟩ := rdo_Timpl_Schema g0
 obtain ⟨a14, c15, rfl⟩ := rd_sl1 g12
 obtain ⟨a16, c17, rfl⟩ := rd_sl1 g13
 unfold spec_SchemaOk at H
 refine f_enter Tryz.func46 rfl Tryz.ntmps46 rfl (St.init w []) <| sR <| ob _ rfl fun b18 => oP rfl <| nQ <| c_seq <| sR <| ow_batch [.fa 38 0 0 fa38_0] rfl <| o1 rfl (r1 0 0 rfl ty36 rfl) <| ow_batch [.lenS 36 113 sl36] rfl <| bE H fun y19 h20 H => oq rfl (qc rfl fn47 (fun w1 hw1 => spec_l1In_ok w1  h20)) tt2 <| oPP rfl <| bE H fun u21 hu25 H => ow_cut [(16, .bool u21), (1, .pointer (some ⟨b18, 0, none⟩))] 6 ?_ (fun key => OW.sub (R := [(1, .pointer (some ⟨b18, 0, none⟩)), (10, .bool (!y19))]) ?_ (sb rfl))
 ·refine oP rfl <| bE H fun u26 hu30 H => ow_cut [(22, .bool u26), (1, .pointer (some ⟨b18, 0, none⟩))] 5 ?_ (fun key => OW.sub (R := [(1, .pointer (some ⟨b18, 0, none⟩)), (17, .bool u21)]) ?_ (sb rfl))
  ·refine nQ <| cI H rfl (fun H => ?_) (fun H => ?_)
   ·exact sR <| oP rfl <| nT <| x_qs_ret <| xr 2 rfl (by cases H; exact q1)
   ·refine c_skip <| x_qs <| c_seq <| sR <| oP rfl <| nQ <| c_block <| CW.at (loopI1 (fun (i149 : Int) => St w [] [Res.box b18 38 [.slice a14 p0.Attrs_.length c15, .slice a16 p0.Classes_.length c17]]) (fun i149 => [(1, .pointer (some ⟨b18, 0, none⟩)), (3, .int .i64 i149)]) (fun kk => fun i149 => spec_SchemaOk_L1 p0 kk i149 = some r) (fun _ H => ?_) (fun k1 ihk1 i149 H => ?_) Fuel (0) (H)) (fun _ h => St.sel [0] rfl rfl h) ⟨rfl, rfl, trivial⟩
    ·unfold spec_SchemaOk_L1 at H
     exact absurd H (by simp)
    ·unfold spec_SchemaOk_L1 at H
     refine c_seq <| sR <| ow_batch [.p, .fa 38 0 0 fa38_0] rfl <| o1 rfl (r1 0 0 rfl ty36 rfl) <| ow_batch [.lenS 36 113 sl36, .p] rfl <| nQ <| cI H rfl (fun H => ?_) (fun H => ?_)
     ·refine c_skip <| x_qs <| c_seq <| c_block <| c_seq <| sR <| ow_batch [.fa 38 0 0 fa38_0] rfl <| o1 rfl (r1 0 0 rfl ty36 rfl) <| oP rfl <| bE H fun e268 h269 H => ow_ixB rfl rfl rfl rfl rfl sl36 ty113 rfl g12 h269 fun q272 c273 hd270 hA271 => ?_
      obtain ⟨c274, c275, c276, rfl, g277, g278, g279⟩ := rdo_Timpl_Attr hd270
      obtain rfl := g277
      obtain ⟨a280, c281, rfl⟩ := rd_sl1 g278
      obtain ⟨a282, c283, rfl⟩ := rd_sl1 g279
      refine o1 rfl (ry_load (cs := [vS e268.Name_, .slice a280 e268.Cuts_.length c281, .slice a282 e268.Values_.length c283]) rfl rfl ty113 (at_bor bor hA271) rfl) <| bE H fun y284 h285 H => oq rfl (qc rfl fn76 (fun w1 hw1 => spec_AttrOk_ok w1 h285 (rdm_Timpl_Attr rfl (rds_bor g278 w1 hw1) (rds_bor g279 w1 hw1)))) tt2 <| oP rfl <| nQ <| cI H rfl (fun H => ?_) (fun H => ?_)
      ·exact sR <| oP rfl <| nT <| x_qs_ret <| x_qb_ret <| x_qs_ret <| x_ql_ret <| x_qb_ret <| x_qs_ret <| xr 2 rfl (by cases H; exact q1)
      ·refine c_skip <| x_qs <| sR <| oP rfl <| nQ <| c_block <| CW.at (loopI1 (fun (i319 : Int) => St w [] [Res.box b18 38 [.slice a14 p0.Attrs_.length c15, .slice a16 p0.Classes_.length c17]]) (fun i319 => [(1, .pointer (some ⟨b18, 0, none⟩)), (3, .int .i64 i149), (4, .int .i64 i319)]) (fun kk => fun i319 => spec_SchemaOk_L2 i149 p0 (spec_SchemaOk_L1 p0 k1) kk i319 = some r) (fun _ H => ?_) (fun k2 ihk2 i319 H => ?_) Fuel (0) (H)) (fun _ h => St.sel [0] rfl rfl h) ⟨rfl, rfl, rfl, trivial⟩
       ·unfold spec_SchemaOk_L2 at H
        exact absurd H (by simp)
       ·unfold spec_SchemaOk_L2 at H
        refine c_seq <| sR <| ow_batch [.p, .p, .p] rfl <| nQ <| cI H rfl (fun H => ?_) (fun H => ?_)
        ·refine c_skip <| x_qs <| c_seq <| c_block <| c_seq <| c_regQ mixed (by kernel_rfl) <| ow_batch [.fa 38 0 0 fa38_0] rfl <| o1 rfl (r1 0 0 rfl ty36 rfl) <| oP rfl <| bE H fun e353 h354 H => ow_ixB rfl rfl rfl rfl rfl sl36 ty113 rfl g12 h354 fun q357 c358 hd355 hA356 => ?_
         obtain ⟨c359, c360, c361, rfl, g362, g363, g364⟩ := rdo_Timpl_Attr hd355
         obtain rfl := g362
         obtain ⟨a365, c366, rfl⟩ := rd_sl1 g363
         obtain ⟨a367, c368, rfl⟩ := rd_sl1 g364
         refine ow_batch [.fa 113 0 0 fa113_0] rfl <| o1 rfl (ry_load1 rfl rfl ty9 (at_bor bor (at_K hA356 0 1))) <| ow_batch [.fa 38 0 0 fa38_0] rfl <| o1 rfl (r1 0 0 rfl ty36 rfl) <| oP rfl <| bE H fun e369 h370 H => ow_ixB rfl rfl rfl rfl rfl sl36 ty113 rfl g12 h370 fun q373 c374 hd371 hA372 => ?_
         obtain ⟨c375, c376, c377, rfl, g378, g379, g380⟩ := rdo_Timpl_Attr hd371
         obtain rfl := g378
         obtain ⟨a381, c382, rfl⟩ := rd_sl1 g379
         obtain ⟨a383, c384, rfl⟩ := rd_sl1 g380
         refine ow_batch [.fa 113 0 0 fa113_0] rfl <| o1 rfl (ry_load1 rfl rfl ty9 (at_bor bor (at_K hA372 0 1))) <| oP rfl <| ow_nilQ <| x_qs <| cI H rfl (fun H => ?_) (fun H => ?_)
         ·exact sR <| oP rfl <| nT <| x_qb_ret <| x_qs_ret <| x_ql_ret <| x_qb_ret <| x_qb_ret <| x_qs_ret <| x_ql_ret <| x_qb_ret <| x_qs_ret <| xr 2 rfl (by cases H; exact q1)
         ·exact c_skip <| x_qb <| x_qs <| c_reg <| ow_batch [.p, .p, .p] rfl <| ow_nil <| x_ql (RW.at (ihk2 (IntKind.i64.wrap (i319 + 1)) (H)) (fun _ h => St.sel [0] rfl rfl h) ⟨rfl, rfl, rfl, trivial⟩)
        ·exact c_exit <| x_qs_exit <| x_ql_exit <| x_qb_here <| x_qb <| x_qs <| c_reg <| ow_batch [.p, .p, .p] rfl <| ow_nil <| x_ql (RW.at (ihk1 (IntKind.i64.wrap (i149 + 1)) (H)) (fun _ h => St.sel [0] rfl rfl h) ⟨rfl, rfl, trivial⟩)
     ·exact c_exit <| x_qs_exit <| x_ql_exit <| x_qb_here <| x_qs <| sR <| oP rfl <| nT <| xr 2 rfl (by cases H; exact q1)
  ·clear H
   have H := hu30
   clear hu30
   generalize u21 = t29 at H key ⊢
   cases t29
   ·have H := of_if_f rfl H
    refine ow_batch [.fa 38 1 1 fa38_1] rfl <| o1 rfl (r1 1 0 rfl ty23 rfl) <| bE H fun y27 h28 H => oq rfl (qc rfl fn75 (fun w1 hw1 => spec_l5Words_ok w1  h28 (rds_bor g13 w1 hw1))) tt2 <| oP rfl <| oP rfl <| ?_
    obtain rfl := of_some H
    exact OW.sub key (sb rfl)
   ·have H := of_if_t rfl H
    refine ow_batch [.p, .p, .p, .p, .p] rfl ?_
    obtain rfl := of_some H
    exact OW.sub key (sb rfl)
 ·clear H
  have H := hu25
  clear hu25
  generalize (!y19) = t24 at H key ⊢
  cases t24
  ·have H := of_if_f rfl H
   refine ow_batch [.fa 38 1 1 fa38_1] rfl <| o1 rfl (r1 1 0 rfl ty23 rfl) <| ow_batch [.lenS 23 9 sl23] rfl <| bE H fun y22 h23 H => oq rfl (qc rfl fn47 (fun w1 hw1 => spec_l1In_ok w1  h23)) tt2 <| oP rfl <| oP rfl <| ?_
   obtain rfl := of_some H
   exact OW.sub key (sb rfl)
  ·have H := of_if_t rfl H
   refine ow_batch [.p, .p, .p, .p, .p, .p] rfl ?_
   obtain rfl := of_some H
   exact OW.sub key (sb rfl)
theorem spec_Bins_ok (w : World) {p0 : Timpl_Attr} {cs0 : List Value} {r : Int} (H : spec_Bins p0 = some r)  (g0 : (eTimpl_Attr).rd w [] p0 cs0) :
    Calls Tryz.prog 82 #[.agg cs0.toArray] w (fun en w' => en = .returned (.int .i64 r) ∧ Ext [] w w') := by
 obtain ⟨c10, c11, c12, rfl, g13, g14, g15⟩ := rdo_Timpl_Attr g0
 obtain rfl := g13
 obtain ⟨a16, c17, rfl⟩ := rd_sl1 g14
 obtain ⟨a18, c19, rfl⟩ := rd_sl1 g15
 unfold spec_Bins at H
 refine f_enter Tryz.func82 rfl Tryz.ntmps82 rfl (St.init w []) <| sR <| ob _ rfl fun b20 => oP rfl <| nQ <| c_seq <| sR <| o1 rfl (rx 0 0 _ rfl ty113 rfl) <| bE H fun y21 h22 H => oq rfl (qc rfl fn76 (fun w1 hw1 => spec_AttrOk_ok w1 h22 (rdm_Timpl_Attr rfl (rds_bor g14 w1 hw1) (rds_bor g15 w1 hw1)))) tt2 <| oP rfl <| nQ <| cI H rfl (fun H => ?_) (fun H => ?_)
 ·exact sR <| oP rfl <| nT <| x_qs_ret <| xr 2 rfl (by cases H; exact q1)
 ·refine c_skip <| x_qs <| c_seq <| sR <| ow_batch [.fa 113 1 1 fa113_1] rfl <| o1 rfl (r1 1 0 rfl ty56 rfl) <| ow_batch [.lenS 56 3 sl56, .p] rfl <| nQ <| cI H rfl (fun H => ?_) (fun H => ?_)
  ·exact sR <| ow_batch [.fa 113 1 1 fa113_1] rfl <| o1 rfl (r1 1 0 rfl ty56 rfl) <| ow_batch [.lenS 56 3 sl56, .p, .p] rfl <| nT <| x_qs_ret <| xr 2 rfl (by cases H; exact q1)
  ·exact c_skip <| x_qs <| sR <| ow_batch [.fa 113 2 2 fa113_2] rfl <| o1 rfl (r1 2 0 rfl ty23 rfl) <| ow_batch [.lenS 23 9 sl23, .p] rfl <| nT <| xr 2 rfl (by cases H; exact q1)
theorem spec_StatsOk_ok (w : World) {p0 : Timpl_Schema} {p1 : Timpl_Stats} {cs0 : List Value} {cs1 : List Value} {r : Bool} (H : spec_StatsOk p0 p1 = some r)  (g0 : (eTimpl_Schema).rd w [] p0 cs0) (g1 : (eTimpl_Stats).rd w [] p1 cs1) :
    Calls Tryz.prog 77 #[.agg cs0.toArray, .agg cs1.toArray] w (fun en w' => en = .returned (.bool r) ∧ Ext [] w w') := by
 obtain ⟨c10, c11, rfl, g12, g13⟩ := rdo_Timpl_Schema g0
 obtain ⟨a14, c15, rfl⟩ := rd_sl1 g12
 obtain ⟨a16, c17, rfl⟩ := rd_sl1 g13
 obtain ⟨c18, c19, rfl, g20, g21⟩ := rdo_Timpl_Stats g1
 obtain ⟨a22, c23, rfl⟩ := rd_sl1 g20
 obtain ⟨a24, c25, rfl⟩ := rd_sl1 g21
 unfold spec_StatsOk at H
 refine f_enter Tryz.func77 rfl Tryz.ntmps77 rfl (St.init w []) <| sR <| ob _ rfl fun b26 => ob _ rfl fun b27 => oP rfl <| nQ <| c_seq <| sR <| o1 rfl (rx 0 0 _ rfl ty38 rfl) <| bE H fun y28 h29 H => oq rfl (qc rfl fn46 (fun w1 hw1 => spec_SchemaOk_ok w1 h29 (rdm_Timpl_Schema (rds_bor g12 w1 hw1) (rds_bor g13 w1 hw1)))) tt2 <| oPP rfl <| ow_cut [(24, .bool ((!y28) || ((p1.Totals_.length : Int) != (p0.Classes_.length : Int)))), (2, .pointer (some ⟨b26, 0, none⟩)), (3, .pointer (some ⟨b27, 0, none⟩))] 8 ?_ (fun key => OW.sub (R := [(2, .pointer (some ⟨b26, 0, none⟩)), (3, .pointer (some ⟨b27, 0, none⟩)), (16, .bool (!y28))]) ?_ (sb rfl))
 ·refine nQ <| cI H rfl (fun H => ?_) (fun H => ?_)
  ·exact sR <| oP rfl <| nT <| x_qs_ret <| xr 4 rfl (by cases H; exact q1)
  ·refine c_skip <| x_qs <| sR <| oP rfl <| nQ <| c_seq <| sR <| oP rfl <| nQ <| c_block <| CW.at (loopI2 (fun (i40 : Int) (i41 : Int) => St w [] [Res.box b26 38 [.slice a14 p0.Attrs_.length c15, .slice a16 p0.Classes_.length c17], Res.box b27 68 [.slice a22 p1.Totals_.length c23, .slice a24 p1.Cells_.length c25]]) (fun i40 i41 => [(2, .pointer (some ⟨b26, 0, none⟩)), (3, .pointer (some ⟨b27, 0, none⟩)), (5, .int .i64 i40), (6, .int .i64 i41)]) (fun kk => fun i40 i41 => spec_StatsOk_L1 p1 p0 kk i40 i41 = some r) (fun _ _ H => ?_) (fun k1 ihk1 i40 i41 H => ?_) Fuel (0) (0) (H)) (fun _ h => St.sel [0, 1] rfl rfl h) ⟨rfl, rfl, rfl, rfl, trivial⟩
   ·unfold spec_StatsOk_L1 at H
    exact absurd H (by simp)
   ·unfold spec_StatsOk_L1 at H
    refine c_seq <| sR <| ow_batch [.p, .fa 68 0 0 fa68_0] rfl <| o1 rfl (r1 0 1 rfl ty56 rfl) <| ow_batch [.lenS 56 3 sl56, .p] rfl <| nQ <| cI H rfl (fun H => ?_) (fun H => ?_)
    ·refine c_skip <| x_qs <| c_seq <| c_block <| c_seq <| sR <| ow_batch [.fa 68 0 0 fa68_0] rfl <| o1 rfl (r1 0 1 rfl ty56 rfl) <| oP rfl <| bE H fun e50 h51 H => ow_ixE (e := eI) (xs := p1.Totals_) (j := i41) rfl rfl rfl rfl rfl sl56 ty3 rfl (fun w1 hw1 => rds_bor g20 w1 hw1) h51 (by rw [Nat.mul_one]) <| o1 rfl (ry_load1 rfl rfl ty3 (at_elV (fun w1 hw1 => rds_bor g20 w1 hw1) h51)) <| bE H fun y52 h53 H => oq rfl (qc rfl fn47 (fun w1 hw1 => spec_l1In_ok w1  h53)) tt2 <| oP rfl <| nQ <| cI H rfl (fun H => ?_) (fun H => ?_)
     ·exact sR <| oP rfl <| nT <| x_qs_ret <| x_qb_ret <| x_qs_ret <| x_ql_ret <| x_qb_ret <| x_qs_ret <| xr 4 rfl (by cases H; exact q1)
     ·exact c_skip <| x_qs <| c_reg <| ow_batch [.p, .fa 68 0 0 fa68_0] rfl <| o1 rfl (r1 0 1 rfl ty56 rfl) <| oP rfl <| bE H fun e54 h55 H => ow_ixE (e := eI) (xs := p1.Totals_) (j := i41) rfl rfl rfl rfl rfl sl56 ty3 rfl (fun w1 hw1 => rds_bor g20 w1 hw1) h55 (by rw [Nat.mul_one]) <| o1 rfl (ry_load1 rfl rfl ty3 (at_elV (fun w1 hw1 => rds_bor g20 w1 hw1) h55)) <| oPP rfl <| ow_nil <| x_qb <| x_qs <| c_reg <| ow_batch [.p, .p, .p] rfl <| ow_nil <| x_ql (RW.at (ihk1 (IntKind.i64.wrap (i40 + e54)) (IntKind.i64.wrap (i41 + 1)) (H)) (fun _ h => St.sel [0, 1] rfl rfl h) ⟨rfl, rfl, rfl, rfl, trivial⟩)
    ·refine c_exit <| x_qs_exit <| x_ql_exit <| x_qb_here <| x_qs <| c_seq <| sR <| oPP rfl <| nQ <| cI H rfl (fun H => ?_) (fun H => ?_)
     ·exact sR <| oP rfl <| nT <| x_qs_ret <| xr 4 rfl (by cases H; exact q1)
     ·refine c_skip <| x_qs <| c_seq <| sR <| ow_batch [.fa 68 1 1 fa68_1] rfl <| o1 rfl (r1 1 1 rfl ty66 rfl) <| ow_batch [.lenS 66 56 sl66, .p] rfl <| nQ <| cI H rfl (fun H => ?_) (fun H => ?_)
      ·exact sR <| oP rfl <| nT <| x_qs_ret <| xr 4 rfl (by cases H; exact q1)
      ·refine c_skip <| x_qs <| c_seq <| sR <| ow_batch [.fa 68 1 1 fa68_1] rfl <| o1 rfl (r1 1 1 rfl ty66 rfl) <| ow_batch [.lenS 66 56 sl66, .fa 38 0 0 fa38_0] rfl <| o1 rfl (r1 0 0 rfl ty36 rfl) <| ow_batch [.lenS 36 113 sl36, .p] rfl <| nQ <| cI H rfl (fun H => ?_) (fun H => ?_)
       ·exact sR <| oP rfl <| nT <| x_qs_ret <| xr 4 rfl (by cases H; exact q1)
       ·refine c_skip <| x_qs <| c_seq <| sR <| oP rfl <| nQ <| c_block <| CW.at (loopI1 (fun (i218 : Int) => St w [] [Res.box b26 38 [.slice a14 p0.Attrs_.length c15, .slice a16 p0.Classes_.length c17], Res.box b27 68 [.slice a22 p1.Totals_.length c23, .slice a24 p1.Cells_.length c25]]) (fun i218 => [(2, .pointer (some ⟨b26, 0, none⟩)), (3, .pointer (some ⟨b27, 0, none⟩)), (7, .int .i64 i218)]) (fun kk => fun i218 => spec_StatsOk_L2 p1 p0 kk i218 = some r) (fun _ H => ?_) (fun k2 ihk2 i218 H => ?_) Fuel (0) (H)) (fun _ h => St.sel [0, 1] rfl rfl h) ⟨rfl, rfl, rfl, trivial⟩
        ·unfold spec_StatsOk_L2 at H
         exact absurd H (by simp)
        ·unfold spec_StatsOk_L2 at H
         refine c_seq <| sR <| ow_batch [.p, .fa 68 1 1 fa68_1] rfl <| o1 rfl (r1 1 1 rfl ty66 rfl) <| ow_batch [.lenS 66 56 sl66, .p] rfl <| nQ <| cI H rfl (fun H => ?_) (fun H => ?_)
         ·refine c_skip <| x_qs <| c_seq <| c_block <| sR <| ow_batch [.fa 38 0 0 fa38_0] rfl <| o1 rfl (r1 0 0 rfl ty36 rfl) <| oP rfl <| bE H fun e381 h382 H => ow_ixB rfl rfl rfl rfl rfl sl36 ty113 rfl g12 h382 fun q385 c386 hd383 hA384 => ?_
          obtain ⟨c387, c388, c389, rfl, g390, g391, g392⟩ := rdo_Timpl_Attr hd383
          obtain rfl := g390
          obtain ⟨a393, c394, rfl⟩ := rd_sl1 g391
          obtain ⟨a395, c396, rfl⟩ := rd_sl1 g392
          refine o1 rfl (ry_load (cs := [vS e381.Name_, .slice a393 e381.Cuts_.length c394, .slice a395 e381.Values_.length c396]) rfl rfl ty113 (at_bor bor hA384) rfl) <| bE H fun y397 h398 H => oq rfl (qc rfl fn82 (fun w1 hw1 => spec_Bins_ok w1 h398 (rdm_Timpl_Attr rfl (rds_bor g391 w1 hw1) (rds_bor g392 w1 hw1)))) tt2 <| oP rfl <| nQ <| c_seq <| c_seq <| c_regQ mixed (by kernel_rfl) <| ow_batch [.fa 68 1 1 fa68_1] rfl <| o1 rfl (r1 1 1 rfl ty66 rfl) <| oP rfl <| bE H fun e399 h400 H => ow_ixB rfl rfl rfl rfl rfl sl66 ty56 rfl g21 h400 fun q403 c404 hd401 hA402 => ?_
          obtain ⟨a405, c406, rfl⟩ := rd_sl1 hd401
          refine o1 rfl (ry_load1 rfl rfl ty56 (at_bor bor hA402)) <| ow_batch [.lenS 56 3 sl56, .p, .fa 38 1 1 fa38_1] rfl <| o1 rfl (r1 1 0 rfl ty23 rfl) <| ow_batch [.lenS 23 9 sl23, .p, .p] rfl <| ow_nilQ <| x_qs <| cI H rfl (fun H => ?_) (fun H => ?_)
          ·exact sR <| oP rfl <| nT <| x_qs_ret <| x_qb_ret <| x_qs_ret <| x_ql_ret <| x_qb_ret <| x_qs_ret <| xr 4 rfl (by cases H; exact q1)
          ·refine c_skip <| x_qs <| sR <| oP rfl <| nQ <| c_block <| CW.at (loopI1 (fun (i452 : Int) => St w [] [Res.box b26 38 [.slice a14 p0.Attrs_.length c15, .slice a16 p0.Classes_.length c17], Res.box b27 68 [.slice a22 p1.Totals_.length c23, .slice a24 p1.Cells_.length c25]]) (fun i452 => [(2, .pointer (some ⟨b26, 0, none⟩)), (3, .pointer (some ⟨b27, 0, none⟩)), (7, .int .i64 i218), (8, .int .i64 y397), (9, .int .i64 i452)]) (fun kk => fun i452 => spec_StatsOk_L3 p0 y397 p1 i218 (spec_StatsOk_L2 p1 p0 k2) kk i452 = some r) (fun _ H => ?_) (fun k3 ihk3 i452 H => ?_) Fuel (0) (H)) (fun _ h => St.sel [0, 1] rfl rfl h) ⟨rfl, rfl, rfl, rfl, rfl, trivial⟩
           ·unfold spec_StatsOk_L3 at H
            exact absurd H (by simp)
           ·unfold spec_StatsOk_L3 at H
            refine c_seq <| sR <| ow_batch [.p, .fa 38 1 1 fa38_1] rfl <| o1 rfl (r1 1 0 rfl ty23 rfl) <| ow_batch [.lenS 23 9 sl23, .p] rfl <| nQ <| cI H rfl (fun H => ?_) (fun H => ?_)
            ·refine c_skip <| x_qs <| c_seq <| c_block <| sR <| oP rfl <| nQ <| c_seq <| sR <| oP rfl <| nQ <| c_block <| CW.at (loopI2 (fun (i512 : Int) (i513 : Int) => St w [] [Res.box b26 38 [.slice a14 p0.Attrs_.length c15, .slice a16 p0.Classes_.length c17], Res.box b27 68 [.slice a22 p1.Totals_.length c23, .slice a24 p1.Cells_.length c25]]) (fun i512 i513 => [(2, .pointer (some ⟨b26, 0, none⟩)), (3, .pointer (some ⟨b27, 0, none⟩)), (7, .int .i64 i218), (8, .int .i64 y397), (9, .int .i64 i452), (10, .int .i64 i512), (11, .int .i64 i513)]) (fun kk => fun i512 i513 => spec_StatsOk_L4 y397 p1 i218 p0 i452 (spec_StatsOk_L3 p0 y397 p1 i218 (spec_StatsOk_L2 p1 p0 k2) k3) kk i512 i513 = some r) (fun _ _ H => ?_) (fun k4 ihk4 i512 i513 H => ?_) Fuel (0) (0) (H)) (fun _ h => St.sel [0, 1] rfl rfl h) ⟨rfl, rfl, rfl, rfl, rfl, rfl, rfl, trivial⟩
             ·unfold spec_StatsOk_L4 at H
              exact absurd H (by simp)
             ·unfold spec_StatsOk_L4 at H
              refine c_seq <| sR <| ow_batch [.p, .p, .p] rfl <| nQ <| cI H rfl (fun H => ?_) (fun H => ?_)
              ·refine c_skip <| x_qs <| c_seq <| c_block <| c_seq <| c_regQ mixed (by kernel_rfl) <| ow_batch [.fa 68 1 1 fa68_1] rfl <| o1 rfl (r1 1 1 rfl ty66 rfl) <| oP rfl <| bE H fun e528 h529 H => ow_ixB rfl rfl rfl rfl rfl sl66 ty56 rfl g21 h529 fun q532 c533 hd530 hA531 => ?_
               obtain ⟨a534, c535, rfl⟩ := rd_sl1 hd530
               refine o1 rfl (ry_load1 rfl rfl ty56 (at_bor bor hA531)) <| ow_batch [.p, .fa 38 1 1 fa38_1] rfl <| o1 rfl (r1 1 0 rfl ty23 rfl) <| ow_batch [.lenS 23 9 sl23, .p, .p, .p] rfl <| bE H fun e536 h537 H => ow_ixE (e := eI) (xs := e528) (j := IntKind.i64.wrap ((IntKind.i64.wrap (i513 * (p0.Classes_.length : Int))) + i452)) rfl rfl rfl rfl rfl sl56 ty3 rfl (fun w1 hw1 => rds_bor hd530 w1 hw1) h537 (by rw [Nat.mul_one]) <| o1 rfl (ry_load1 rfl rfl ty3 (at_elV (fun w1 hw1 => rds_bor hd530 w1 hw1) h537)) <| oP rfl <| ow_nilQ <| x_qs <| c_seq <| sR <| oP rfl <| bE H fun y538 h539 H => oq rfl (qc rfl fn47 (fun w1 hw1 => spec_l1In_ok w1  h539)) tt2 <| oP rfl <| nQ <| cI H rfl (fun H => ?_) (fun H => ?_)
               ·exact sR <| oP rfl <| nT <| x_qs_ret <| x_qb_ret <| x_qs_ret <| x_ql_ret <| x_qb_ret <| x_qs_ret <| x_qb_ret <| x_qs_ret <| x_ql_ret <| x_qb_ret <| x_qb_ret <| x_qs_ret <| x_ql_ret <| x_qb_ret <| x_qs_ret <| xr 4 rfl (by cases H; exact q1)
               ·exact c_skip <| x_qs <| c_reg <| ow_batch [.p, .p, .p, .p] rfl <| ow_nil <| x_qb <| x_qs <| c_reg <| ow_batch [.p, .p, .p] rfl <| ow_nil <| x_ql (RW.at (ihk4 (IntKind.i64.wrap (i512 + e536)) (IntKind.i64.wrap (i513 + 1)) (H)) (fun _ h => St.sel [0, 1] rfl rfl h) ⟨rfl, rfl, rfl, rfl, rfl, rfl, rfl, trivial⟩)
              ·refine c_exit <| x_qs_exit <| x_ql_exit <| x_qb_here <| x_qs <| sR <| ow_batch [.p, .fa 68 0 0 fa68_0] rfl <| o1 rfl (r1 0 1 rfl ty56 rfl) <| oP rfl <| bE H fun e540 h541 H => ow_ixE (e := eI) (xs := p1.Totals_) (j := i452) rfl rfl rfl rfl rfl sl56 ty3 rfl (fun w1 hw1 => rds_bor g20 w1 hw1) h541 (by rw [Nat.mul_one]) <| o1 rfl (ry_load1 rfl rfl ty3 (at_elV (fun w1 hw1 => rds_bor g20 w1 hw1) h541)) <| oP rfl <| nQ <| cI H rfl (fun H => ?_) (fun H => ?_)
               ·exact sR <| oP rfl <| nT <| x_qb_ret <| x_qs_ret <| x_ql_ret <| x_qb_ret <| x_qb_ret <| x_qs_ret <| x_ql_ret <| x_qb_ret <| x_qs_ret <| xr 4 rfl (by cases H; exact q1)
               ·exact c_skip <| x_qb <| x_qs <| c_reg <| ow_batch [.p, .p, .p] rfl <| ow_nil <| x_ql (RW.at (ihk3 (IntKind.i64.wrap (i452 + 1)) (H)) (fun _ h => St.sel [0, 1] rfl rfl h) ⟨rfl, rfl, rfl, rfl, rfl, trivial⟩)
            ·exact c_exit <| x_qs_exit <| x_ql_exit <| x_qb_here <| x_qb <| x_qs <| c_reg <| ow_batch [.p, .p, .p] rfl <| ow_nil <| x_ql (RW.at (ihk2 (IntKind.i64.wrap (i218 + 1)) (H)) (fun _ h => St.sel [0, 1] rfl rfl h) ⟨rfl, rfl, rfl, trivial⟩)
         ·exact c_exit <| x_qs_exit <| x_ql_exit <| x_qb_here <| x_qs <| sR <| oP rfl <| nT <| xr 4 rfl (by cases H; exact q1)
 ·generalize (!y28) = t31 at key ⊢
  cases t31
  ·exact ow_batch [.fa 68 0 0 fa68_0] rfl <| o1 rfl (r1 0 1 rfl ty56 rfl) <| ow_batch [.lenS 56 3 sl56, .fa 38 1 1 fa38_1] rfl <| o1 rfl (r1 1 0 rfl ty23 rfl) <| ow_batch [.lenS 23 9 sl23, .p] rfl <| oP rfl <| OW.sub key (sb rfl)
  ·exact ow_batch [.p, .p, .p, .p, .p, .p, .p, .p] rfl <| OW.sub key (sb rfl)
theorem spec_AttrsOk_ok (w : World) {p0 : Timpl_Schema} {p1 : List Int} {cs0 : List Value} {a_1 : Option Addr} {n_1 c_1 : Nat} {r : Bool} (H : spec_AttrsOk p0 p1 = some r)  (g0 : (eTimpl_Schema).rd w [] p0 cs0) (g1 : (eList eI 3).rd w [] p1 [.slice a_1 n_1 c_1]) :
    Calls Tryz.prog 78 #[.agg cs0.toArray, .slice a_1 n_1 c_1] w (fun en w' => en = .returned (.bool r) ∧ Ext [] w w') := by
 obtain ⟨c10, c11, rfl, g12, g13⟩ := rdo_Timpl_Schema g0
 obtain ⟨a14, c15, rfl⟩ := rd_sl1 g12
 obtain ⟨a16, c17, rfl⟩ := rd_sl1 g13
 obtain rfl := rd_n g1
 unfold spec_AttrsOk at H
 refine f_enter Tryz.func78 rfl Tryz.ntmps78 rfl (St.init w []) <| sR <| ob _ rfl fun b18 => oP rfl <| nQ <| c_seq <| sR <| o1 rfl (rx 0 0 _ rfl ty38 rfl) <| bE H fun y19 h20 H => oq rfl (qc rfl fn46 (fun w1 hw1 => spec_SchemaOk_ok w1 h20 (rdm_Timpl_Schema (rds_bor g12 w1 hw1) (rds_bor g13 w1 hw1)))) tt2 <| oPP rfl <| ow_cut [(13, .bool ((!y19) || ((p1.length : Int) == 0))), (1, .slice a_1 p1.length c_1), (2, .pointer (some ⟨b18, 0, none⟩))] 4 ?_ (fun key => OW.sub (R := [(1, .slice a_1 p1.length c_1), (2, .pointer (some ⟨b18, 0, none⟩)), (9, .bool (!y19))]) ?_ (sb rfl))
 ·refine nQ <| cI H rfl (fun H => ?_) (fun H => ?_)
  ·exact sR <| oP rfl <| nT <| x_qs_ret <| xr 4 rfl (by cases H; exact q1)
  ·refine c_skip <| x_qs <| c_seq <| sR <| oP rfl <| nQ <| c_block <| CW.at (loopI1 (fun (i38 : Int) => St w [] [Res.box b18 38 [.slice a14 p0.Attrs_.length c15, .slice a16 p0.Classes_.length c17]]) (fun i38 => [(1, .slice a_1 p1.length c_1), (2, .pointer (some ⟨b18, 0, none⟩)), (5, .int .i64 i38)]) (fun kk => fun i38 => spec_AttrsOk_L1 p1 p0 kk i38 = some r) (fun _ H => ?_) (fun k1 ihk1 i38 H => ?_) Fuel (0) (H)) (fun _ h => St.sel [0] rfl rfl h) ⟨rfl, rfl, rfl, trivial⟩
   ·unfold spec_AttrsOk_L1 at H
    exact absurd H (by simp)
   ·unfold spec_AttrsOk_L1 at H
    refine c_seq <| sR <| ow_batch [.p, .p, .lenS 56 3 sl56, .p] rfl <| nQ <| cI H rfl (fun H => ?_) (fun H => ?_)
    ·refine c_skip <| x_qs <| c_seq <| c_block <| c_seq <| c_regQ mixed (by kernel_rfl) <| oPP rfl <| bE H fun e54 h55 H => ow_ixE (e := eI) (xs := p1) (j := i38) rfl rfl rfl rfl rfl sl56 ty3 rfl (fun w1 hw1 => rds_bor g1 w1 hw1) h55 (by rw [Nat.mul_one]) <| o1 rfl (ry_load1 rfl rfl ty3 (at_elV (fun w1 hw1 => rds_bor g1 w1 hw1) h55)) <| ow_batch [.fa 38 0 0 fa38_0] rfl <| o1 rfl (r1 0 0 rfl ty36 rfl) <| ow_batch [.lenS 36 113 sl36, .p] rfl <| bE H fun y56 h57 H => oq rfl (qc rfl fn47 (fun w1 hw1 => spec_l1In_ok w1  h57)) tt2 <| oPP rfl <| bE H fun u58 hu67 H => ow_cut [(45, .bool u58), (1, .slice a_1 p1.length c_1), (2, .pointer (some ⟨b18, 0, none⟩)), (5, .int .i64 i38)] 15 ?_ (fun key => OW.sub (R := [(1, .slice a_1 p1.length c_1), (2, .pointer (some ⟨b18, 0, none⟩)), (5, .int .i64 i38), (30, .bool (!y56))]) ?_ (sb rfl))
     ·refine ow_nilQ <| x_qs <| cI H rfl (fun H => ?_) (fun H => ?_)
      ·exact sR <| oP rfl <| nT <| x_qb_ret <| x_qs_ret <| x_ql_ret <| x_qb_ret <| x_qs_ret <| xr 4 rfl (by cases H; exact q1)
      ·exact c_skip <| x_qb <| x_qs <| c_reg <| ow_batch [.p, .p, .p] rfl <| ow_nil <| x_ql (RW.at (ihk1 (IntKind.i64.wrap (i38 + 1)) (H)) (fun _ h => St.sel [0] rfl rfl h) ⟨rfl, rfl, rfl, trivial⟩)
     ·clear H
      have H := hu67
      clear hu67
      generalize (!y56) = t66 at H key ⊢
      cases t66
      ·have H := of_if_f rfl H
       refine ow_batch [.p, .p, .p] rfl <| bE H fun u59 hu65 H => ow_cut [(44, .bool u59), (1, .slice a_1 p1.length c_1), (2, .pointer (some ⟨b18, 0, none⟩)), (5, .int .i64 i38), (30, .bool false)] 11 ?_ (fun key => OW.sub (R := [(1, .slice a_1 p1.length c_1), (2, .pointer (some ⟨b18, 0, none⟩)), (5, .int .i64 i38), (30, .bool false), (33, .bool (decide (i38 > 0)))]) ?_ (sb rfl))
       ·refine ow_batch [.p] rfl ?_
        obtain rfl := of_some H
        exact OW.sub key (sb rfl)
       ·clear H
        have H := hu65
        clear hu65
        generalize (decide (i38 > 0)) = t64 at H key ⊢
        cases t64
        ·have H := of_if_f rfl H
         refine ow_batch [.p, .p, .p, .p, .p, .p, .p, .p, .p, .p, .p] rfl ?_
         obtain rfl := of_some H
         exact OW.sub key (sb rfl)
        ·have H := of_if_t rfl H
         refine oPP rfl <| bE H fun e60 h61 H => ow_ixE (e := eI) (xs := p1) (j := i38) rfl rfl rfl rfl rfl sl56 ty3 rfl (fun w1 hw1 => rds_bor g1 w1 hw1) h61 (by rw [Nat.mul_one]) <| o1 rfl (ry_load1 rfl rfl ty3 (at_elV (fun w1 hw1 => rds_bor g1 w1 hw1) h61)) <| ow_batch [.p, .p, .p] rfl <| bE H fun e62 h63 H => ow_ixE (e := eI) (xs := p1) (j := IntKind.i64.wrap (i38 - 1)) rfl rfl rfl rfl rfl sl56 ty3 rfl (fun w1 hw1 => rds_bor g1 w1 hw1) h63 (by rw [Nat.mul_one]) <| o1 rfl (ry_load1 rfl rfl ty3 (at_elV (fun w1 hw1 => rds_bor g1 w1 hw1) h63)) <| oP rfl <| oP rfl <| ?_
         obtain rfl := of_some H
         exact OW.sub key (sb rfl)
      ·have H := of_if_t rfl H
       refine ow_batch [.p, .p, .p, .p, .p, .p, .p, .p, .p, .p, .p, .p, .p, .p, .p] rfl ?_
       obtain rfl := of_some H
       exact OW.sub key (sb rfl)
    ·exact c_exit <| x_qs_exit <| x_ql_exit <| x_qb_here <| x_qs <| sR <| oP rfl <| nT <| xr 4 rfl (by cases H; exact q1)
 ·generalize (!y19) = t22 at key ⊢
  cases t22
  ·exact ow_batch [.p, .lenS 56 3 sl56, .p] rfl <| oP rfl <| OW.sub key (sb rfl)
  ·exact ow_batch [.p, .p, .p, .p] rfl <| OW.sub key (sb rfl)
theorem spec_StatsTotal_ok (w : World) {p0 : Timpl_Schema} {p1 : Timpl_Stats} {cs0 : List Value} {cs1 : List Value} {r : Int} (H : spec_StatsTotal p0 p1 = some r)  (g0 : (eTimpl_Schema).rd w [] p0 cs0) (g1 : (eTimpl_Stats).rd w [] p1 cs1) :
    Calls Tryz.prog 79 #[.agg cs0.toArray, .agg cs1.toArray] w (fun en w' => en = .returned (.int .i64 r) ∧ Ext [] w w') := by
 obtain ⟨c10, c11, rfl, g12, g13⟩ := rdo_Timpl_Schema g0
 obtain ⟨a14, c15, rfl⟩ := rd_sl1 g12
 obtain ⟨a16, c17, rfl⟩ := rd_sl1 g13
 obtain ⟨c18, c19, rfl, g20, g21⟩ := rdo_Timpl_Stats g1
 obtain ⟨a22, c23, rfl⟩ := rd_sl1 g20
 obtain ⟨a24, c25, rfl⟩ := rd_sl1 g21
 unfold spec_StatsTotal at H
 refine f_enter Tryz.func79 rfl Tryz.ntmps79 rfl (St.init w []) <| sR <| ob _ rfl fun b26 => ob _ rfl fun b27 => oP rfl <| nQ <| c_seq <| sR <| o1 rfl (rx 0 0 _ rfl ty38 rfl) <| o1 rfl (rx 0 1 _ rfl ty68 rfl) <| bE H fun y28 h29 H => oq rfl (qc rfl fn77 (fun w1 hw1 => spec_StatsOk_ok w1 h29 (rdm_Timpl_Schema (rds_bor g12 w1 hw1) (rds_bor g13 w1 hw1)) (rdm_Timpl_Stats (rds_bor g20 w1 hw1) (rds_bor g21 w1 hw1)))) tt2 <| oP rfl <| nQ <| cI H rfl (fun H => ?_) (fun H => ?_)
 ·exact sR <| oP rfl <| nT <| x_qs_ret <| xr 4 rfl (by cases H; exact q1)
 ·refine c_skip <| x_qs <| sR <| oP rfl <| nQ <| c_seq <| sR <| oP rfl <| nQ <| c_block <| CW.at (loopI2 (fun (i35 : Int) (i36 : Int) => St w [] [Res.box b27 68 [.slice a22 p1.Totals_.length c23, .slice a24 p1.Cells_.length c25]]) (fun i35 i36 => [(3, .pointer (some ⟨b27, 0, none⟩)), (5, .int .i64 i35), (6, .int .i64 i36)]) (fun kk => fun i35 i36 => spec_StatsTotal_L1 p1 kk i35 i36 = some r) (fun _ _ H => ?_) (fun k1 ihk1 i35 i36 H => ?_) Fuel (0) (0) (H)) (fun _ h => St.sel [1] rfl rfl h) ⟨rfl, rfl, rfl, trivial⟩
  ·unfold spec_StatsTotal_L1 at H
   exact absurd H (by simp)
  ·unfold spec_StatsTotal_L1 at H
   refine c_seq <| sR <| ow_batch [.p, .fa 68 0 0 fa68_0] rfl <| o1 rfl (r1 0 0 rfl ty56 rfl) <| ow_batch [.lenS 56 3 sl56, .p] rfl <| nQ <| cI H rfl (fun H => ?_) (fun H => ?_)
   ·exact c_skip <| x_qs <| c_seq <| c_block <| c_reg <| ow_batch [.p, .fa 68 0 0 fa68_0] rfl <| o1 rfl (r1 0 0 rfl ty56 rfl) <| oP rfl <| bE H fun e41 h42 H => ow_ixE (e := eI) (xs := p1.Totals_) (j := i36) rfl rfl rfl rfl rfl sl56 ty3 rfl (fun w1 hw1 => rds_bor g20 w1 hw1) h42 (by rw [Nat.mul_one]) <| o1 rfl (ry_load1 rfl rfl ty3 (at_elV (fun w1 hw1 => rds_bor g20 w1 hw1) h42)) <| oPP rfl <| ow_nil <| x_qb <| x_qs <| c_reg <| ow_batch [.p, .p, .p] rfl <| ow_nil <| x_ql (RW.at (ihk1 (IntKind.i64.wrap (i35 + e41)) (IntKind.i64.wrap (i36 + 1)) (H)) (fun _ h => St.sel [0] rfl rfl h) ⟨rfl, rfl, rfl, trivial⟩)
   ·exact c_exit <| x_qs_exit <| x_ql_exit <| x_qb_here <| x_qs <| sR <| oPP rfl <| nT <| xr 4 rfl (by cases H; exact q1)
theorem spec_l19Leaf_ok (w : World) {p0 : Timpl_Schema} {p1 : Timpl_Node} {cs0 : List Value} {cs1 : List Value} {r : Bool} (H : spec_l19Leaf p0 p1 = some r)  (g0 : (eTimpl_Schema).rd w [] p0 cs0) (g1 : (eTimpl_Node).rd w [] p1 cs1) :
    Calls Tryz.prog 48 #[.agg cs0.toArray, .agg cs1.toArray] w (fun en w' => en = .returned (.bool r) ∧ Ext [] w w') := by
 obtain ⟨c10, c11, rfl, g12, g13⟩ := rdo_Timpl_Schema g0
 obtain ⟨a14, c15, rfl⟩ := rd_sl1 g12
 obtain ⟨a16, c17, rfl⟩ := rd_sl1 g13
 obtain ⟨c18, c19, c20, c21, c22, c23, c24, c25, c26, c27, rfl, g28, g29, g30, g31, g32, g33, g34, g35, g36, g37⟩ := rdo_Timpl_Node g1
 obtain rfl := g28
 obtain rfl := g29
 obtain ⟨a38, c39, rfl⟩ := rd_sl1 g30
 obtain rfl := g31
 obtain ⟨c40, c41, rfl, g42, g43⟩ := rdo_Timpl_Stats g32
 obtain ⟨a44, c45, rfl⟩ := rd_sl1 g42
 obtain ⟨a46, c47, rfl⟩ := rd_sl1 g43
 obtain rfl := g33
 obtain ⟨a48, c49, rfl⟩ := rd_sl1 g34
 obtain rfl := g35
 obtain rfl := g36
 obtain rfl := g37
 unfold spec_l19Leaf at H
 refine f_enter Tryz.func48 rfl Tryz.ntmps48 rfl (St.init w []) <| sR <| ob _ rfl fun b50 => ob _ rfl fun b51 => oP rfl <| nQ <| c_seq <| sR <| ow_batch [.fa 70 1 1 fa70_1] rfl <| o1 rfl (rx 1 1 _ rfl ty65 rfl) <| o1 rfl (ry_build2 [] [.int .i64 0, .int .i64 0] rfl rfl ty65 fs65 rfl trivial rfl) <| o1 rfl (ry_sneq (xs := [.int .i64 p1.Fork_.Attr_, .int .i64 p1.Fork_.At_]) (ys := [.int .i64 0, .int .i64 0]) rfl rfl rfl (se65 p1.Fork_.Attr_ 0 p1.Fork_.At_ 0)) <| oP rfl <| ow_cut [(14, .bool ((!(p1.Fork_.Attr_ == 0 && (p1.Fork_.At_ == 0 && true))) || (decide ((p1.Kids_.length : Int) > 0)))), (2, .pointer (some ⟨b50, 0, none⟩)), (3, .pointer (some ⟨b51, 0, none⟩))] 5 ?_ (fun key => OW.sub (R := [(2, .pointer (some ⟨b50, 0, none⟩)), (3, .pointer (some ⟨b51, 0, none⟩)), (9, .bool (!(p1.Fork_.Attr_ == 0 && (p1.Fork_.At_ == 0 && true))))]) ?_ (sb rfl))
 ·refine oP rfl <| ow_cut [(19, .bool (((!(p1.Fork_.Attr_ == 0 && (p1.Fork_.At_ == 0 && true))) || (decide ((p1.Kids_.length : Int) > 0))) || (p1.Miss_ != 0))), (2, .pointer (some ⟨b50, 0, none⟩)), (3, .pointer (some ⟨b51, 0, none⟩))] 4 ?_ (fun key => OW.sub (R := [(2, .pointer (some ⟨b50, 0, none⟩)), (3, .pointer (some ⟨b51, 0, none⟩)), (15, .bool ((!(p1.Fork_.Attr_ == 0 && (p1.Fork_.At_ == 0 && true))) || (decide ((p1.Kids_.length : Int) > 0))))]) ?_ (sb rfl))
  ·refine oP rfl <| bE H fun u56 hu60 H => ow_cut [(26, .bool u56), (2, .pointer (some ⟨b50, 0, none⟩)), (3, .pointer (some ⟨b51, 0, none⟩))] 6 ?_ (fun key => OW.sub (R := [(2, .pointer (some ⟨b50, 0, none⟩)), (3, .pointer (some ⟨b51, 0, none⟩)), (20, .bool (((!(p1.Fork_.Attr_ == 0 && (p1.Fork_.At_ == 0 && true))) || (decide ((p1.Kids_.length : Int) > 0))) || (p1.Miss_ != 0)))]) ?_ (sb rfl))
   ·refine oP rfl <| bE H fun u61 hu65 H => ow_cut [(33, .bool u61), (2, .pointer (some ⟨b50, 0, none⟩)), (3, .pointer (some ⟨b51, 0, none⟩))] 6 ?_ (fun key => OW.sub (R := [(2, .pointer (some ⟨b50, 0, none⟩)), (3, .pointer (some ⟨b51, 0, none⟩)), (27, .bool u56)]) ?_ (sb rfl))
    ·refine nQ <| cI H rfl (fun H => ?_) (fun H => ?_)
     ·exact sR <| oP rfl <| nT <| x_qs_ret <| xr 4 rfl (by cases H; exact q1)
     ·refine c_skip <| x_qs <| c_seq <| sR <| ow_batch [.fa 70 4 5 fa70_4, .fa 68 1 1 fa68_1] rfl <| o1 rfl (r1 6 1 rfl ty66 rfl) <| ow_batch [.lenS 66 56 sl66, .p] rfl <| nQ <| cI H rfl (fun H => ?_) (fun H => ?_)
      ·exact sR <| ow_batch [.fa 70 5 7 fa70_5] rfl <| o1 rfl (r1 7 1 rfl ty3 rfl) <| oPP rfl <| nT <| x_qs_ret <| xr 4 rfl (by cases H; exact q1)
      ·exact c_skip <| x_qs <| c_seq <| c_regQ mixed (by kernel_rfl) <| ow_batch [.fa 70 5 7 fa70_5] rfl <| o1 rfl (r1 7 1 rfl ty3 rfl) <| o1 rfl (rx 0 0 _ rfl ty38 rfl) <| ow_batch [.fa 70 4 5 fa70_4] rfl <| o1 rfl (rx 5 1 _ rfl ty68 rfl) <| bE H fun y66 h67 H => oq rfl (qc rfl fn79 (fun w1 hw1 => spec_StatsTotal_ok w1 h67 (rdm_Timpl_Schema (rds_bor g12 w1 hw1) (rds_bor g13 w1 hw1)) (rdm_Timpl_Stats (rds_bor g42 w1 hw1) (rds_bor g43 w1 hw1)))) tt2 <| bE H fun y68 h69 H => oq rfl (qc rfl fn47 (fun w1 hw1 => spec_l1In_ok w1  h69)) tt2 <| oP rfl <| ow_nilQ <| x_qs <| c_ret <| xr 4 rfl (by cases H; exact q1)
    ·clear H
     have H := hu65
     clear hu65
     generalize u56 = t64 at H key ⊢
     cases t64
     ·have H := of_if_f rfl H
      refine o1 rfl (rx 0 0 _ rfl ty38 rfl) <| ow_batch [.fa 70 6 8 fa70_6] rfl <| o1 rfl (r1 8 1 rfl ty56 rfl) <| bE H fun y62 h63 H => oq rfl (qc rfl fn78 (fun w1 hw1 => spec_AttrsOk_ok w1 h63 (rdm_Timpl_Schema (rds_bor g12 w1 hw1) (rds_bor g13 w1 hw1)) (rds_bor g34 w1 hw1))) tt2 <| oP rfl <| oP rfl <| ?_
      obtain rfl := of_some H
      exact OW.sub key (sb rfl)
     ·have H := of_if_t rfl H
      refine ow_batch [.p, .p, .p, .p, .p, .p] rfl ?_
      obtain rfl := of_some H
      exact OW.sub key (sb rfl)
   ·clear H
    have H := hu60
    clear hu60
    generalize (((!(p1.Fork_.Attr_ == 0 && (p1.Fork_.At_ == 0 && true))) || (decide ((p1.Kids_.length : Int) > 0))) || (p1.Miss_ != 0)) = t59 at H key ⊢
    cases t59
    ·have H := of_if_f rfl H
     refine o1 rfl (rx 0 0 _ rfl ty38 rfl) <| ow_batch [.fa 70 4 5 fa70_4] rfl <| o1 rfl (rx 5 1 _ rfl ty68 rfl) <| bE H fun y57 h58 H => oq rfl (qc rfl fn77 (fun w1 hw1 => spec_StatsOk_ok w1 h58 (rdm_Timpl_Schema (rds_bor g12 w1 hw1) (rds_bor g13 w1 hw1)) (rdm_Timpl_Stats (rds_bor g42 w1 hw1) (rds_bor g43 w1 hw1)))) tt2 <| oP rfl <| oP rfl <| ?_
     obtain rfl := of_some H
     exact OW.sub key (sb rfl)
    ·have H := of_if_t rfl H
     refine ow_batch [.p, .p, .p, .p, .p, .p] rfl ?_
     obtain rfl := of_some H
     exact OW.sub key (sb rfl)
  ·generalize ((!(p1.Fork_.Attr_ == 0 && (p1.Fork_.At_ == 0 && true))) || (decide ((p1.Kids_.length : Int) > 0))) = t55 at key ⊢
   cases t55
   ·exact ow_batch [.fa 70 3 4 fa70_3] rfl <| o1 rfl (r1 4 1 rfl ty3 rfl) <| oP rfl <| oP rfl <| OW.sub key (sb rfl)
   ·exact ow_batch [.p, .p, .p, .p] rfl <| OW.sub key (sb rfl)
 ·generalize (!(p1.Fork_.Attr_ == 0 && (p1.Fork_.At_ == 0 && true))) = t53 at key ⊢
  cases t53
  ·exact ow_batch [.fa 70 2 3 fa70_2] rfl <| o1 rfl (r1 3 1 rfl ty56 rfl) <| ow_batch [.lenS 56 3 sl56, .p] rfl <| oP rfl <| OW.sub key (sb rfl)
  ·exact ow_batch [.p, .p, .p, .p, .p] rfl <| OW.sub key (sb rfl)
theorem spec_ForkOk_ok (w : World) {p0 : Timpl_Schema} {p1 : Timpl_Fork} {cs0 : List Value} {r : Bool} (H : spec_ForkOk p0 p1 = some r)  (g0 : (eTimpl_Schema).rd w [] p0 cs0) :
    Calls Tryz.prog 80 #[.agg cs0.toArray, .agg #[.int .i64 p1.Attr_, .int .i64 p1.At_]] w (fun en w' => en = .returned (.bool r) ∧ Ext [] w w') := by
 obtain ⟨c10, c11, rfl, g12, g13⟩ := rdo_Timpl_Schema g0
 obtain ⟨a14, c15, rfl⟩ := rd_sl1 g12
 obtain ⟨a16, c17, rfl⟩ := rd_sl1 g13
 unfold spec_ForkOk at H
 refine f_enter Tryz.func80 rfl Tryz.ntmps80 rfl (St.init w []) <| sR <| ob _ rfl fun b18 => ob _ rfl fun b19 => oP rfl <| nQ <| c_seq <| sR <| o1 rfl (rx 0 0 _ rfl ty38 rfl) <| bE H fun y20 h21 H => oq rfl (qc rfl fn46 (fun w1 hw1 => spec_SchemaOk_ok w1 h21 (rdm_Timpl_Schema (rds_bor g12 w1 hw1) (rds_bor g13 w1 hw1)))) tt2 <| oPP rfl <| bE H fun u22 hu26 H => ow_cut [(17, .bool u22), (2, .pointer (some ⟨b18, 0, none⟩)), (3, .pointer (some ⟨b19, 0, none⟩))] 9 ?_ (fun key => OW.sub (R := [(2, .pointer (some ⟨b18, 0, none⟩)), (3, .pointer (some ⟨b19, 0, none⟩)), (8, .bool (!y20))]) ?_ (sb rfl))
 ·refine nQ <| cI H rfl (fun H => ?_) (fun H => ?_)
  ·exact sR <| oP rfl <| nT <| x_qs_ret <| xr 4 rfl (by cases H; exact q1)
  ·refine c_skip <| x_qs <| c_seq <| sR <| ow_batch [.fa 38 0 0 fa38_0] rfl <| o1 rfl (r1 0 0 rfl ty36 rfl) <| ow_batch [.fa 65 0 0 fa65_0] rfl <| o1 rfl (r1 0 1 rfl ty3 rfl) <| bE H fun e27 h28 H => ow_ixB rfl rfl rfl rfl rfl sl36 ty113 rfl g12 h28 fun q31 c32 hd29 hA30 => ?_
   obtain ⟨c33, c34, c35, rfl, g36, g37, g38⟩ := rdo_Timpl_Attr hd29
   obtain rfl := g36
   obtain ⟨a39, c40, rfl⟩ := rd_sl1 g37
   obtain ⟨a41, c42, rfl⟩ := rd_sl1 g38
   refine ow_batch [.fa 113 1 1 fa113_1] rfl <| o1 rfl (ry_load1 rfl rfl ty56 (at_bor bor (at_K hA30 1 1))) <| ow_batch [.lenS 56 3 sl56, .p] rfl <| nQ <| cI H rfl (fun H => ?_) (fun H => ?_)
   ·refine c_seq <| c_regQ mixed (by kernel_rfl) <| ow_batch [.fa 65 1 1 fa65_1] rfl <| o1 rfl (r1 1 1 rfl ty3 rfl) <| ow_batch [.fa 38 0 0 fa38_0] rfl <| o1 rfl (r1 0 0 rfl ty36 rfl) <| ow_batch [.fa 65 0 0 fa65_0] rfl <| o1 rfl (r1 0 1 rfl ty3 rfl) <| bE H fun e43 h44 H => ow_ixB rfl rfl rfl rfl rfl sl36 ty113 rfl g12 h44 fun q47 c48 hd45 hA46 => ?_
    obtain ⟨c49, c50, c51, rfl, g52, g53, g54⟩ := rdo_Timpl_Attr hd45
    obtain rfl := g52
    obtain ⟨a55, c56, rfl⟩ := rd_sl1 g53
    obtain ⟨a57, c58, rfl⟩ := rd_sl1 g54
    exact o1 rfl (ry_load (cs := [vS e43.Name_, .slice a55 e43.Cuts_.length c56, .slice a57 e43.Values_.length c58]) rfl rfl ty113 (at_bor bor hA46) rfl) <| bE H fun y59 h60 H => oq rfl (qc rfl fn82 (fun w1 hw1 => spec_Bins_ok w1 h60 (rdm_Timpl_Attr rfl (rds_bor g53 w1 hw1) (rds_bor g54 w1 hw1)))) tt2 <| oP rfl <| bE H fun y61 h62 H => oq rfl (qc rfl fn47 (fun w1 hw1 => spec_l1In_ok w1  h62)) tt2 <| oP rfl <| ow_nilQ <| x_qs <| c_ret <| x_qs_ret <| xr 4 rfl (by cases H; exact q1)
   ·refine c_skip <| x_qs <| c_seq <| c_regQ mixed (by kernel_rfl) <| ow_batch [.fa 65 1 1 fa65_1] rfl <| o1 rfl (r1 1 1 rfl ty3 rfl) <| ow_batch [.fa 38 0 0 fa38_0] rfl <| o1 rfl (r1 0 0 rfl ty36 rfl) <| ow_batch [.fa 65 0 0 fa65_0] rfl <| o1 rfl (r1 0 1 rfl ty3 rfl) <| bE H fun e63 h64 H => ow_ixB rfl rfl rfl rfl rfl sl36 ty113 rfl g12 h64 fun q67 c68 hd65 hA66 => ?_
    obtain ⟨c69, c70, c71, rfl, g72, g73, g74⟩ := rdo_Timpl_Attr hd65
    obtain rfl := g72
    obtain ⟨a75, c76, rfl⟩ := rd_sl1 g73
    obtain ⟨a77, c78, rfl⟩ := rd_sl1 g74
    exact o1 rfl (ry_load (cs := [vS e63.Name_, .slice a75 e63.Cuts_.length c76, .slice a77 e63.Values_.length c78]) rfl rfl ty113 (at_bor bor hA66) rfl) <| bE H fun y79 h80 H => oq rfl (qc rfl fn82 (fun w1 hw1 => spec_Bins_ok w1 h80 (rdm_Timpl_Attr rfl (rds_bor g73 w1 hw1) (rds_bor g74 w1 hw1)))) tt2 <| oP rfl <| bE H fun y81 h82 H => oq rfl (qc rfl fn47 (fun w1 hw1 => spec_l1In_ok w1  h82)) tt2 <| oP rfl <| ow_nilQ <| x_qs <| c_ret <| xr 4 rfl (by cases H; exact q1)
 ·clear H
  have H := hu26
  clear hu26
  generalize (!y20) = t25 at H key ⊢
  cases t25
  ·have H := of_if_f rfl H
   refine ow_batch [.fa 65 0 0 fa65_0] rfl <| o1 rfl (r1 0 1 rfl ty3 rfl) <| ow_batch [.fa 38 0 0 fa38_0] rfl <| o1 rfl (r1 0 0 rfl ty36 rfl) <| ow_batch [.lenS 36 113 sl36, .p] rfl <| bE H fun y23 h24 H => oq rfl (qc rfl fn47 (fun w1 hw1 => spec_l1In_ok w1  h24)) tt2 <| oP rfl <| oP rfl <| ?_
   obtain rfl := of_some H
   exact OW.sub key (sb rfl)
  ·have H := of_if_t rfl H
   refine ow_batch [.p, .p, .p, .p, .p, .p, .p, .p, .p] rfl ?_
   obtain rfl := of_some H
   exact OW.sub key (sb rfl)
theorem spec_Branches_ok (w : World) {p0 : Timpl_Schema} {p1 : Timpl_Fork} {cs0 : List Value} {r : Int} (H : spec_Branches p0 p1 = some r)  (g0 : (eTimpl_Schema).rd w [] p0 cs0) :
    Calls Tryz.prog 81 #[.agg cs0.toArray, .agg #[.int .i64 p1.Attr_, .int .i64 p1.At_]] w (fun en w' => en = .returned (.int .i64 r) ∧ Ext [] w w') := by
 obtain ⟨c10, c11, rfl, g12, g13⟩ := rdo_Timpl_Schema g0
 obtain ⟨a14, c15, rfl⟩ := rd_sl1 g12
 obtain ⟨a16, c17, rfl⟩ := rd_sl1 g13
 unfold spec_Branches at H
 refine f_enter Tryz.func81 rfl Tryz.ntmps81 rfl (St.init w []) <| sR <| ob _ rfl fun b18 => ob _ rfl fun b19 => oP rfl <| nQ <| c_seq <| sR <| o1 rfl (rx 0 0 _ rfl ty38 rfl) <| o1 rfl (rx 0 1 _ rfl ty65 rfl) <| bE H fun y20 h21 H => oq rfl (qc rfl fn80 (fun w1 hw1 => spec_ForkOk_ok w1 (p1 := p1) h21 (rdm_Timpl_Schema (rds_bor g12 w1 hw1) (rds_bor g13 w1 hw1)))) tt2 <| oP rfl <| nQ <| cI H rfl (fun H => ?_) (fun H => ?_)
 ·exact sR <| oP rfl <| nT <| x_qs_ret <| xr 4 rfl (by cases H; exact q1)
 ·refine c_skip <| x_qs <| c_seq <| sR <| ow_batch [.fa 65 1 1 fa65_1] rfl <| o1 rfl (r1 1 1 rfl ty3 rfl) <| oP rfl <| nQ <| cI H rfl (fun H => ?_) (fun H => ?_)
  ·refine sR <| ow_batch [.fa 38 0 0 fa38_0] rfl <| o1 rfl (r1 0 0 rfl ty36 rfl) <| ow_batch [.fa 65 0 0 fa65_0] rfl <| o1 rfl (r1 0 1 rfl ty3 rfl) <| bE H fun e22 h23 H => ow_ixB rfl rfl rfl rfl rfl sl36 ty113 rfl g12 h23 fun q26 c27 hd24 hA25 => ?_
   obtain ⟨c28, c29, c30, rfl, g31, g32, g33⟩ := rdo_Timpl_Attr hd24
   obtain rfl := g31
   obtain ⟨a34, c35, rfl⟩ := rd_sl1 g32
   obtain ⟨a36, c37, rfl⟩ := rd_sl1 g33
   exact o1 rfl (ry_load (cs := [vS e22.Name_, .slice a34 e22.Cuts_.length c35, .slice a36 e22.Values_.length c37]) rfl rfl ty113 (at_bor bor hA25) rfl) <| bE H fun y38 h39 H => oq rfl (qc rfl fn82 (fun w1 hw1 => spec_Bins_ok w1 h39 (rdm_Timpl_Attr rfl (rds_bor g32 w1 hw1) (rds_bor g33 w1 hw1)))) tt2 <| oP rfl <| nT <| x_qs_ret <| xr 4 rfl (by cases H; exact q1)
  ·exact c_skip <| x_qs <| sR <| oP rfl <| nT <| xr 4 rfl (by cases H; exact q1)
end Go.Vk
