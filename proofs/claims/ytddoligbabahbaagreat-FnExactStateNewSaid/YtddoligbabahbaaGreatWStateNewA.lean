/- The code does what the functions of data say. Printed by program. -/
import Derived.Test.YtddoligbabahbaaGreatRF
import Derived.Test.YtddoligbabahbaaGreatChecked
namespace Go.Vk
open Go.Proofs Go.RowKit
set_option maxHeartbeats 4000000
set_option maxRecDepth 100000
def eTlaws_Attr : Enc Tlaws_Attr := eIso (ePair (eStr) (ePair (eList (eVal (Value.int .i64) (fun _ => rfl)) 3) (eList (eStr) 9))) (fun x => (x.Name_, x.Cuts_, x.Values_))
theorem rdm_Tlaws_Attr {w : World} {X : List Nat} {x : Tlaws_Attr} {c0 c1 c2 : List Value} (h0 : (eStr).rd w X x.Name_ c0) (h1 : (eList (eVal (Value.int .i64) (fun _ => rfl)) 3).rd w X x.Cuts_ c1) (h2 : (eList (eStr) 9).rd w X x.Values_ c2) : (eTlaws_Attr).rd w X x (c0 ++ (c1 ++ c2)) := by
  show (ePair (eStr) (ePair (eList (eVal (Value.int .i64) (fun _ => rfl)) 3) (eList (eStr) 9))).rd w X (x.Name_, x.Cuts_, x.Values_) _
  exact (ePair_rd h0 (ePair_rd h1 h2))
theorem rdo_Tlaws_Attr {w : World} {X : List Nat} {x : Tlaws_Attr} {cs : List Value} (h : (eTlaws_Attr).rd w X x cs) : ∃ c0 c1 c2, cs = (c0 ++ (c1 ++ c2)) ∧ (eStr).rd w X x.Name_ c0 ∧ (eList (eVal (Value.int .i64) (fun _ => rfl)) 3).rd w X x.Cuts_ c1 ∧ (eList (eStr) 9).rd w X x.Values_ c2 := by
  have h : (ePair (eStr) (ePair (eList (eVal (Value.int .i64) (fun _ => rfl)) 3) (eList (eStr) 9))).rd w X (x.Name_, x.Cuts_, x.Values_) cs := h
  obtain ⟨c0, d0, rfl, h0, r0⟩ := h
  obtain ⟨c1, c2, rfl, h1, h2⟩ := r0
  exact ⟨c0, c1, c2, rfl, h0, h1, h2⟩
def eTlaws_Schema : Enc Tlaws_Schema := eIso (ePair (eList (eTlaws_Attr) 177) (eList (eStr) 9)) (fun x => (x.Attrs_, x.Classes_))
theorem rdm_Tlaws_Schema {w : World} {X : List Nat} {x : Tlaws_Schema} {c0 c1 : List Value} (h0 : (eList (eTlaws_Attr) 177).rd w X x.Attrs_ c0) (h1 : (eList (eStr) 9).rd w X x.Classes_ c1) : (eTlaws_Schema).rd w X x (c0 ++ c1) := by
  show (ePair (eList (eTlaws_Attr) 177) (eList (eStr) 9)).rd w X (x.Attrs_, x.Classes_) _
  exact (ePair_rd h0 h1)
theorem rdo_Tlaws_Schema {w : World} {X : List Nat} {x : Tlaws_Schema} {cs : List Value} (h : (eTlaws_Schema).rd w X x cs) : ∃ c0 c1, cs = (c0 ++ c1) ∧ (eList (eTlaws_Attr) 177).rd w X x.Attrs_ c0 ∧ (eList (eStr) 9).rd w X x.Classes_ c1 := by
  have h : (ePair (eList (eTlaws_Attr) 177) (eList (eStr) 9)).rd w X (x.Attrs_, x.Classes_) cs := h
  obtain ⟨c0, c1, rfl, h0, h1⟩ := h
  exact ⟨c0, c1, rfl, h0, h1⟩
def eTimpl_Attr : Enc Timpl_Attr := eIso (ePair (eStr) (ePair (eList (eVal (Value.int .i64) (fun _ => rfl)) 3) (eList (eStr) 9))) (fun x => (x.Name_, x.Cuts_, x.Values_))
theorem rdm_Timpl_Attr {w : World} {X : List Nat} {x : Timpl_Attr} {c0 c1 c2 : List Value} (h0 : (eStr).rd w X x.Name_ c0) (h1 : (eList (eVal (Value.int .i64) (fun _ => rfl)) 3).rd w X x.Cuts_ c1) (h2 : (eList (eStr) 9).rd w X x.Values_ c2) : (eTimpl_Attr).rd w X x (c0 ++ (c1 ++ c2)) := by
  show (ePair (eStr) (ePair (eList (eVal (Value.int .i64) (fun _ => rfl)) 3) (eList (eStr) 9))).rd w X (x.Name_, x.Cuts_, x.Values_) _
  exact (ePair_rd h0 (ePair_rd h1 h2))
theorem rdo_Timpl_Attr {w : World} {X : List Nat} {x : Timpl_Attr} {cs : List Value} (h : (eTimpl_Attr).rd w X x cs) : ∃ c0 c1 c2, cs = (c0 ++ (c1 ++ c2)) ∧ (eStr).rd w X x.Name_ c0 ∧ (eList (eVal (Value.int .i64) (fun _ => rfl)) 3).rd w X x.Cuts_ c1 ∧ (eList (eStr) 9).rd w X x.Values_ c2 := by
  have h : (ePair (eStr) (ePair (eList (eVal (Value.int .i64) (fun _ => rfl)) 3) (eList (eStr) 9))).rd w X (x.Name_, x.Cuts_, x.Values_) cs := h
  obtain ⟨c0, d0, rfl, h0, r0⟩ := h
  obtain ⟨c1, c2, rfl, h1, h2⟩ := r0
  exact ⟨c0, c1, c2, rfl, h0, h1, h2⟩
theorem ownm_Timpl_Attr {w : World} {F0 F1 F2 : List Nat} {x : Timpl_Attr} {c0 c1 c2 : List Value} (h0 : (eStr).own w F0 x.Name_ c0) (h1 : (eList (eVal (Value.int .i64) (fun _ => rfl)) 3).own w F1 x.Cuts_ c1) (h2 : (eList (eStr) 9).own w F2 x.Values_ c2) : (eTimpl_Attr).own w (F0 ++ (F1 ++ F2)) x (c0 ++ (c1 ++ c2)) := by
  show (ePair (eStr) (ePair (eList (eVal (Value.int .i64) (fun _ => rfl)) 3) (eList (eStr) 9))).own w _ (x.Name_, x.Cuts_, x.Values_) _
  exact (ePair_own h0 (ePair_own h1 h2))
theorem owno_Timpl_Attr {w : World} {F : List Nat} {x : Timpl_Attr} {cs : List Value} (h : (eTimpl_Attr).own w F x cs) : ∃ F0 F1 F2 c0 c1 c2, F = (F0 ++ (F1 ++ F2)) ∧ cs = (c0 ++ (c1 ++ c2)) ∧ (eStr).own w F0 x.Name_ c0 ∧ (eList (eVal (Value.int .i64) (fun _ => rfl)) 3).own w F1 x.Cuts_ c1 ∧ (eList (eStr) 9).own w F2 x.Values_ c2 := by
  have h : (ePair (eStr) (ePair (eList (eVal (Value.int .i64) (fun _ => rfl)) 3) (eList (eStr) 9))).own w F (x.Name_, x.Cuts_, x.Values_) cs := h
  obtain ⟨F0, G0, c0, d0, rfl, rfl, h0, r0⟩ := h
  obtain ⟨F1, F2, c1, c2, rfl, rfl, h1, h2⟩ := r0
  exact ⟨F0, F1, F2, c0, c1, c2, rfl, rfl, h0, h1, h2⟩
theorem opn_Timpl_Attr {w0 : World} {M : List Nat} {L : List Res} {w : World} {F : List Nat} {x : Timpl_Attr} {cs : List Value} {i : Nat} (h : St w0 M L w) (hi : L[i]? = some (Res.own (eTimpl_Attr) F x cs)) :
    ∃ (a_1 : Option Addr) (k_1 : Nat) (F_1 : List Nat), ∃ (a_2 : Option Addr) (k_2 : Nat) (F_2 : List Nat), cs = [vS x.Name_, .slice a_1 (x.Cuts_).length k_1, .slice a_2 (x.Values_).length k_2] ∧ St w0 M (nilAt L [i] ++ [Res.own (eList (eVal (Value.int .i64) (fun _ => rfl)) 3) F_1 x.Cuts_ [.slice a_1 (x.Cuts_).length k_1], Res.own (eList (eStr) 9) F_2 x.Values_ [.slice a_2 (x.Values_).length k_2]]) w := by
  obtain ⟨hok, _, _⟩ := h.one hi
  have hok : (eTimpl_Attr).own w F x cs := hok
  obtain ⟨F1_0, F1_1, F1_2, c1_0, c1_1, c1_2, rfl, rfl, h1_0, h1_1, h1_2⟩ := owno_Timpl_Attr hok
  obtain ⟨rfl, rfl⟩ : F1_0 = [] ∧ c1_0 = [vS x.Name_] := h1_0
  obtain ⟨a2, k2, rfl⟩ := own_sl1 h1_1
  obtain ⟨a3, k3, rfl⟩ := own_sl1 h1_2
  refine ⟨a2, k2, F1_1, a3, k3, F1_2, rfl, h.re [i] _ rfl ?_ ?_⟩
  · simp [selR_cons, selR_nil, hi, foot, Res.own]
  · intro s hs; simp only [List.mem_cons, List.not_mem_nil, or_false] at hs; rcases hs with rfl | rfl
    · exact h1_1
    · exact h1_2
theorem fus_Timpl_Attr {w0 : World} {M : List Nat} {L : List Res} {w : World} {x0 : List UInt8} {x1 : List Int} {a1 : Option Addr} {n1 k1 : Nat} {G1 : List Nat} {x2 : List (List UInt8)} {a2 : Option Addr} {n2 k2 : Nat} {G2 : List Nat} (idx : List Nat) (h : St w0 M L w) (hs : selR L idx = [Res.own (eList (eVal (Value.int .i64) (fun _ => rfl)) 3) G1 x1 [.slice a1 n1 k1], Res.own (eList (eStr) 9) G2 x2 [.slice a2 n2 k2]]) (hn : nodB idx = true) :
    ∃ F, St w0 M (nilAt L idx ++ [Res.own (eTimpl_Attr) F (Timpl_Attr.mk x0 x1 x2) [vS x0, .slice a1 n1 k1, .slice a2 n2 k2]]) w := by
  have o0 : (eList (eVal (Value.int .i64) (fun _ => rfl)) 3).own w G1 x1 [.slice a1 n1 k1] := h.ok' (mem_sel (L := L) (is := idx) (by rw [hs]; simp : Res.own (eList (eVal (Value.int .i64) (fun _ => rfl)) 3) G1 x1 [.slice a1 n1 k1] ∈ selR L idx))
  have o1 : (eList (eStr) 9).own w G2 x2 [.slice a2 n2 k2] := h.ok' (mem_sel (L := L) (is := idx) (by rw [hs]; simp : Res.own (eList (eStr) 9) G2 x2 [.slice a2 n2 k2] ∈ selR L idx))
  have ho := (ownm_Timpl_Attr (x := (Timpl_Attr.mk x0 x1 x2)) (⟨rfl, rfl⟩ : (eStr).own w [] _ _) o0 o1)
  refine ⟨_, h.re idx [Res.own (eTimpl_Attr) _ (Timpl_Attr.mk x0 x1 x2) [vS x0, .slice a1 n1 k1, .slice a2 n2 k2]] hn ?_ (fun s hs => by rw [List.mem_singleton.1 hs]; exact ho)⟩
  rw [hs]
  simp [foot, Res.own]
def eTimpl_Fork : Enc Timpl_Fork := eFlat (fun x => [.int .i64 x.Attr_, .int .i64 x.At_]) 2 (fun _ => rfl) (by intro x u hu; simp only [List.mem_cons, List.not_mem_nil, or_false] at hu; rcases hu with rfl | rfl <;> rfl)
def eTimpl_Stats : Enc Timpl_Stats := eIso (ePair (eList (eVal (Value.int .i64) (fun _ => rfl)) 3) (eList (eList (eVal (Value.int .i64) (fun _ => rfl)) 3) 59)) (fun x => (x.Totals_, x.Cells_))
theorem rdm_Timpl_Stats {w : World} {X : List Nat} {x : Timpl_Stats} {c0 c1 : List Value} (h0 : (eList (eVal (Value.int .i64) (fun _ => rfl)) 3).rd w X x.Totals_ c0) (h1 : (eList (eList (eVal (Value.int .i64) (fun _ => rfl)) 3) 59).rd w X x.Cells_ c1) : (eTimpl_Stats).rd w X x (c0 ++ c1) := by
  show (ePair (eList (eVal (Value.int .i64) (fun _ => rfl)) 3) (eList (eList (eVal (Value.int .i64) (fun _ => rfl)) 3) 59)).rd w X (x.Totals_, x.Cells_) _
  exact (ePair_rd h0 h1)
theorem rdo_Timpl_Stats {w : World} {X : List Nat} {x : Timpl_Stats} {cs : List Value} (h : (eTimpl_Stats).rd w X x cs) : ∃ c0 c1, cs = (c0 ++ c1) ∧ (eList (eVal (Value.int .i64) (fun _ => rfl)) 3).rd w X x.Totals_ c0 ∧ (eList (eList (eVal (Value.int .i64) (fun _ => rfl)) 3) 59).rd w X x.Cells_ c1 := by
  have h : (ePair (eList (eVal (Value.int .i64) (fun _ => rfl)) 3) (eList (eList (eVal (Value.int .i64) (fun _ => rfl)) 3) 59)).rd w X (x.Totals_, x.Cells_) cs := h
  obtain ⟨c0, c1, rfl, h0, h1⟩ := h
  exact ⟨c0, c1, rfl, h0, h1⟩
theorem ownm_Timpl_Stats {w : World} {F0 F1 : List Nat} {x : Timpl_Stats} {c0 c1 : List Value} (h0 : (eList (eVal (Value.int .i64) (fun _ => rfl)) 3).own w F0 x.Totals_ c0) (h1 : (eList (eList (eVal (Value.int .i64) (fun _ => rfl)) 3) 59).own w F1 x.Cells_ c1) : (eTimpl_Stats).own w (F0 ++ F1) x (c0 ++ c1) := by
  show (ePair (eList (eVal (Value.int .i64) (fun _ => rfl)) 3) (eList (eList (eVal (Value.int .i64) (fun _ => rfl)) 3) 59)).own w _ (x.Totals_, x.Cells_) _
  exact (ePair_own h0 h1)
theorem owno_Timpl_Stats {w : World} {F : List Nat} {x : Timpl_Stats} {cs : List Value} (h : (eTimpl_Stats).own w F x cs) : ∃ F0 F1 c0 c1, F = (F0 ++ F1) ∧ cs = (c0 ++ c1) ∧ (eList (eVal (Value.int .i64) (fun _ => rfl)) 3).own w F0 x.Totals_ c0 ∧ (eList (eList (eVal (Value.int .i64) (fun _ => rfl)) 3) 59).own w F1 x.Cells_ c1 := by
  have h : (ePair (eList (eVal (Value.int .i64) (fun _ => rfl)) 3) (eList (eList (eVal (Value.int .i64) (fun _ => rfl)) 3) 59)).own w F (x.Totals_, x.Cells_) cs := h
  obtain ⟨F0, F1, c0, c1, rfl, rfl, h0, h1⟩ := h
  exact ⟨F0, F1, c0, c1, rfl, rfl, h0, h1⟩
def eTimpl_Node : Enc Timpl_Node := eIso (ePair (eBool) (ePair (eTimpl_Fork) (ePair (eList (eVal (Value.int .i64) (fun _ => rfl)) 3) (ePair (eVal (Value.int .i64) (fun _ => rfl)) (ePair (eTimpl_Stats) (ePair (eVal (Value.int .i64) (fun _ => rfl)) (ePair (eList (eVal (Value.int .i64) (fun _ => rfl)) 3) (ePair (eVal (Value.int .i64) (fun _ => rfl)) (ePair (eVal (Value.int .i64) (fun _ => rfl)) (eVal (Value.int .i64) (fun _ => rfl))))))))))) (fun x => (x.Leaf_, x.Fork_, x.Kids_, x.Miss_, x.Stats_, x.Since_, x.Attrs_, x.Depth_, x.Up_, x.Born_))
theorem rdm_Timpl_Node {w : World} {X : List Nat} {x : Timpl_Node} {c0 c1 c2 c3 c4 c5 c6 c7 c8 c9 : List Value} (h0 : (eBool).rd w X x.Leaf_ c0) (h1 : (eTimpl_Fork).rd w X x.Fork_ c1) (h2 : (eList (eVal (Value.int .i64) (fun _ => rfl)) 3).rd w X x.Kids_ c2) (h3 : (eVal (Value.int .i64) (fun _ => rfl)).rd w X x.Miss_ c3) (h4 : (eTimpl_Stats).rd w X x.Stats_ c4) (h5 : (eVal (Value.int .i64) (fun _ => rfl)).rd w X x.Since_ c5) (h6 : (eList (eVal (Value.int .i64) (fun _ => rfl)) 3).rd w X x.Attrs_ c6) (h7 : (eVal (Value.int .i64) (fun _ => rfl)).rd w X x.Depth_ c7) (h8 : (eVal (Value.int .i64) (fun _ => rfl)).rd w X x.Up_ c8) (h9 : (eVal (Value.int .i64) (fun _ => rfl)).rd w X x.Born_ c9) : (eTimpl_Node).rd w X x (c0 ++ (c1 ++ (c2 ++ (c3 ++ (c4 ++ (c5 ++ (c6 ++ (c7 ++ (c8 ++ c9))))))))) := by
  show (ePair (eBool) (ePair (eTimpl_Fork) (ePair (eList (eVal (Value.int .i64) (fun _ => rfl)) 3) (ePair (eVal (Value.int .i64) (fun _ => rfl)) (ePair (eTimpl_Stats) (ePair (eVal (Value.int .i64) (fun _ => rfl)) (ePair (eList (eVal (Value.int .i64) (fun _ => rfl)) 3) (ePair (eVal (Value.int .i64) (fun _ => rfl)) (ePair (eVal (Value.int .i64) (fun _ => rfl)) (eVal (Value.int .i64) (fun _ => rfl))))))))))).rd w X (x.Leaf_, x.Fork_, x.Kids_, x.Miss_, x.Stats_, x.Since_, x.Attrs_, x.Depth_, x.Up_, x.Born_) _
  exact (ePair_rd h0 (ePair_rd h1 (ePair_rd h2 (ePair_rd h3 (ePair_rd h4 (ePair_rd h5 (ePair_rd h6 (ePair_rd h7 (ePair_rd h8 h9)))))))))
theorem rdo_Timpl_Node {w : World} {X : List Nat} {x : Timpl_Node} {cs : List Value} (h : (eTimpl_Node).rd w X x cs) : ∃ c0 c1 c2 c3 c4 c5 c6 c7 c8 c9, cs = (c0 ++ (c1 ++ (c2 ++ (c3 ++ (c4 ++ (c5 ++ (c6 ++ (c7 ++ (c8 ++ c9))))))))) ∧ (eBool).rd w X x.Leaf_ c0 ∧ (eTimpl_Fork).rd w X x.Fork_ c1 ∧ (eList (eVal (Value.int .i64) (fun _ => rfl)) 3).rd w X x.Kids_ c2 ∧ (eVal (Value.int .i64) (fun _ => rfl)).rd w X x.Miss_ c3 ∧ (eTimpl_Stats).rd w X x.Stats_ c4 ∧ (eVal (Value.int .i64) (fun _ => rfl)).rd w X x.Since_ c5 ∧ (eList (eVal (Value.int .i64) (fun _ => rfl)) 3).rd w X x.Attrs_ c6 ∧ (eVal (Value.int .i64) (fun _ => rfl)).rd w X x.Depth_ c7 ∧ (eVal (Value.int .i64) (fun _ => rfl)).rd w X x.Up_ c8 ∧ (eVal (Value.int .i64) (fun _ => rfl)).rd w X x.Born_ c9 := by
  have h : (ePair (eBool) (ePair (eTimpl_Fork) (ePair (eList (eVal (Value.int .i64) (fun _ => rfl)) 3) (ePair (eVal (Value.int .i64) (fun _ => rfl)) (ePair (eTimpl_Stats) (ePair (eVal (Value.int .i64) (fun _ => rfl)) (ePair (eList (eVal (Value.int .i64) (fun _ => rfl)) 3) (ePair (eVal (Value.int .i64) (fun _ => rfl)) (ePair (eVal (Value.int .i64) (fun _ => rfl)) (eVal (Value.int .i64) (fun _ => rfl))))))))))).rd w X (x.Leaf_, x.Fork_, x.Kids_, x.Miss_, x.Stats_, x.Since_, x.Attrs_, x.Depth_, x.Up_, x.Born_) cs := h
  obtain ⟨c0, d0, rfl, h0, r0⟩ := h
  obtain ⟨c1, d1, rfl, h1, r1⟩ := r0
  obtain ⟨c2, d2, rfl, h2, r2⟩ := r1
  obtain ⟨c3, d3, rfl, h3, r3⟩ := r2
  obtain ⟨c4, d4, rfl, h4, r4⟩ := r3
  obtain ⟨c5, d5, rfl, h5, r5⟩ := r4
  obtain ⟨c6, d6, rfl, h6, r6⟩ := r5
  obtain ⟨c7, d7, rfl, h7, r7⟩ := r6
  obtain ⟨c8, c9, rfl, h8, h9⟩ := r7
  exact ⟨c0, c1, c2, c3, c4, c5, c6, c7, c8, c9, rfl, h0, h1, h2, h3, h4, h5, h6, h7, h8, h9⟩
theorem ownm_Timpl_Node {w : World} {F0 F1 F2 F3 F4 F5 F6 F7 F8 F9 : List Nat} {x : Timpl_Node} {c0 c1 c2 c3 c4 c5 c6 c7 c8 c9 : List Value} (h0 : (eBool).own w F0 x.Leaf_ c0) (h1 : (eTimpl_Fork).own w F1 x.Fork_ c1) (h2 : (eList (eVal (Value.int .i64) (fun _ => rfl)) 3).own w F2 x.Kids_ c2) (h3 : (eVal (Value.int .i64) (fun _ => rfl)).own w F3 x.Miss_ c3) (h4 : (eTimpl_Stats).own w F4 x.Stats_ c4) (h5 : (eVal (Value.int .i64) (fun _ => rfl)).own w F5 x.Since_ c5) (h6 : (eList (eVal (Value.int .i64) (fun _ => rfl)) 3).own w F6 x.Attrs_ c6) (h7 : (eVal (Value.int .i64) (fun _ => rfl)).own w F7 x.Depth_ c7) (h8 : (eVal (Value.int .i64) (fun _ => rfl)).own w F8 x.Up_ c8) (h9 : (eVal (Value.int .i64) (fun _ => rfl)).own w F9 x.Born_ c9) : (eTimpl_Node).own w (F0 ++ (F1 ++ (F2 ++ (F3 ++ (F4 ++ (F5 ++ (F6 ++ (F7 ++ (F8 ++ F9))))))))) x (c0 ++ (c1 ++ (c2 ++ (c3 ++ (c4 ++ (c5 ++ (c6 ++ (c7 ++ (c8 ++ c9))))))))) := by
  show (ePair (eBool) (ePair (eTimpl_Fork) (ePair (eList (eVal (Value.int .i64) (fun _ => rfl)) 3) (ePair (eVal (Value.int .i64) (fun _ => rfl)) (ePair (eTimpl_Stats) (ePair (eVal (Value.int .i64) (fun _ => rfl)) (ePair (eList (eVal (Value.int .i64) (fun _ => rfl)) 3) (ePair (eVal (Value.int .i64) (fun _ => rfl)) (ePair (eVal (Value.int .i64) (fun _ => rfl)) (eVal (Value.int .i64) (fun _ => rfl))))))))))).own w _ (x.Leaf_, x.Fork_, x.Kids_, x.Miss_, x.Stats_, x.Since_, x.Attrs_, x.Depth_, x.Up_, x.Born_) _
  exact (ePair_own h0 (ePair_own h1 (ePair_own h2 (ePair_own h3 (ePair_own h4 (ePair_own h5 (ePair_own h6 (ePair_own h7 (ePair_own h8 h9)))))))))
theorem owno_Timpl_Node {w : World} {F : List Nat} {x : Timpl_Node} {cs : List Value} (h : (eTimpl_Node).own w F x cs) : ∃ F0 F1 F2 F3 F4 F5 F6 F7 F8 F9 c0 c1 c2 c3 c4 c5 c6 c7 c8 c9, F = (F0 ++ (F1 ++ (F2 ++ (F3 ++ (F4 ++ (F5 ++ (F6 ++ (F7 ++ (F8 ++ F9))))))))) ∧ cs = (c0 ++ (c1 ++ (c2 ++ (c3 ++ (c4 ++ (c5 ++ (c6 ++ (c7 ++ (c8 ++ c9))))))))) ∧ (eBool).own w F0 x.Leaf_ c0 ∧ (eTimpl_Fork).own w F1 x.Fork_ c1 ∧ (eList (eVal (Value.int .i64) (fun _ => rfl)) 3).own w F2 x.Kids_ c2 ∧ (eVal (Value.int .i64) (fun _ => rfl)).own w F3 x.Miss_ c3 ∧ (eTimpl_Stats).own w F4 x.Stats_ c4 ∧ (eVal (Value.int .i64) (fun _ => rfl)).own w F5 x.Since_ c5 ∧ (eList (eVal (Value.int .i64) (fun _ => rfl)) 3).own w F6 x.Attrs_ c6 ∧ (eVal (Value.int .i64) (fun _ => rfl)).own w F7 x.Depth_ c7 ∧ (eVal (Value.int .i64) (fun _ => rfl)).own w F8 x.Up_ c8 ∧ (eVal (Value.int .i64) (fun _ => rfl)).own w F9 x.Born_ c9 := by
  have h : (ePair (eBool) (ePair (eTimpl_Fork) (ePair (eList (eVal (Value.int .i64) (fun _ => rfl)) 3) (ePair (eVal (Value.int .i64) (fun _ => rfl)) (ePair (eTimpl_Stats) (ePair (eVal (Value.int .i64) (fun _ => rfl)) (ePair (eList (eVal (Value.int .i64) (fun _ => rfl)) 3) (ePair (eVal (Value.int .i64) (fun _ => rfl)) (ePair (eVal (Value.int .i64) (fun _ => rfl)) (eVal (Value.int .i64) (fun _ => rfl))))))))))).own w F (x.Leaf_, x.Fork_, x.Kids_, x.Miss_, x.Stats_, x.Since_, x.Attrs_, x.Depth_, x.Up_, x.Born_) cs := h
  obtain ⟨F0, G0, c0, d0, rfl, rfl, h0, r0⟩ := h
  obtain ⟨F1, G1, c1, d1, rfl, rfl, h1, r1⟩ := r0
  obtain ⟨F2, G2, c2, d2, rfl, rfl, h2, r2⟩ := r1
  obtain ⟨F3, G3, c3, d3, rfl, rfl, h3, r3⟩ := r2
  obtain ⟨F4, G4, c4, d4, rfl, rfl, h4, r4⟩ := r3
  obtain ⟨F5, G5, c5, d5, rfl, rfl, h5, r5⟩ := r4
  obtain ⟨F6, G6, c6, d6, rfl, rfl, h6, r6⟩ := r5
  obtain ⟨F7, G7, c7, d7, rfl, rfl, h7, r7⟩ := r6
  obtain ⟨F8, F9, c8, c9, rfl, rfl, h8, h9⟩ := r7
  exact ⟨F0, F1, F2, F3, F4, F5, F6, F7, F8, F9, c0, c1, c2, c3, c4, c5, c6, c7, c8, c9, rfl, rfl, h0, h1, h2, h3, h4, h5, h6, h7, h8, h9⟩
theorem opn_Timpl_Node {w0 : World} {M : List Nat} {L : List Res} {w : World} {F : List Nat} {x : Timpl_Node} {cs : List Value} {i : Nat} (h : St w0 M L w) (hi : L[i]? = some (Res.own (eTimpl_Node) F x cs)) :
    ∃ (a_1 : Option Addr) (k_1 : Nat) (F_1 : List Nat), ∃ (a_2 : Option Addr) (k_2 : Nat) (F_2 : List Nat), ∃ (a_3 : Option Addr) (k_3 : Nat) (F_3 : List Nat), ∃ (a_4 : Option Addr) (k_4 : Nat) (F_4 : List Nat), cs = [.bool x.Leaf_, .int .i64 x.Fork_.Attr_, .int .i64 x.Fork_.At_, .slice a_1 (x.Kids_).length k_1, .int .i64 x.Miss_, .slice a_2 (x.Stats_.Totals_).length k_2, .slice a_3 (x.Stats_.Cells_).length k_3, .int .i64 x.Since_, .slice a_4 (x.Attrs_).length k_4, .int .i64 x.Depth_, .int .i64 x.Up_, .int .i64 x.Born_] ∧ St w0 M (nilAt L [i] ++ [Res.own (eList (eVal (Value.int .i64) (fun _ => rfl)) 3) F_1 x.Kids_ [.slice a_1 (x.Kids_).length k_1], Res.own (eList (eVal (Value.int .i64) (fun _ => rfl)) 3) F_2 x.Stats_.Totals_ [.slice a_2 (x.Stats_.Totals_).length k_2], Res.own (eList (eList (eVal (Value.int .i64) (fun _ => rfl)) 3) 59) F_3 x.Stats_.Cells_ [.slice a_3 (x.Stats_.Cells_).length k_3], Res.own (eList (eVal (Value.int .i64) (fun _ => rfl)) 3) F_4 x.Attrs_ [.slice a_4 (x.Attrs_).length k_4]]) w := by
  obtain ⟨hok, _, _⟩ := h.one hi
  have hok : (eTimpl_Node).own w F x cs := hok
  obtain ⟨F1_0, F1_1, F1_2, F1_3, F1_4, F1_5, F1_6, F1_7, F1_8, F1_9, c1_0, c1_1, c1_2, c1_3, c1_4, c1_5, c1_6, c1_7, c1_8, c1_9, rfl, rfl, h1_0, h1_1, h1_2, h1_3, h1_4, h1_5, h1_6, h1_7, h1_8, h1_9⟩ := owno_Timpl_Node hok
  obtain ⟨rfl, rfl⟩ : F1_0 = [] ∧ c1_0 = [.bool x.Leaf_] := h1_0
  obtain ⟨rfl, rfl⟩ : F1_1 = [] ∧ c1_1 = [.int .i64 x.Fork_.Attr_, .int .i64 x.Fork_.At_] := h1_1
  obtain ⟨a2, k2, rfl⟩ := own_sl1 h1_2
  obtain ⟨rfl, rfl⟩ : F1_3 = [] ∧ c1_3 = [.int .i64 x.Miss_] := h1_3
  obtain ⟨F3_0, F3_1, c3_0, c3_1, rfl, rfl, h3_0, h3_1⟩ := owno_Timpl_Stats h1_4
  obtain ⟨a4, k4, rfl⟩ := own_sl1 h3_0
  obtain ⟨a5, k5, rfl⟩ := own_sl1 h3_1
  obtain ⟨rfl, rfl⟩ : F1_5 = [] ∧ c1_5 = [.int .i64 x.Since_] := h1_5
  obtain ⟨a6, k6, rfl⟩ := own_sl1 h1_6
  obtain ⟨rfl, rfl⟩ : F1_7 = [] ∧ c1_7 = [.int .i64 x.Depth_] := h1_7
  obtain ⟨rfl, rfl⟩ : F1_8 = [] ∧ c1_8 = [.int .i64 x.Up_] := h1_8
  obtain ⟨rfl, rfl⟩ : F1_9 = [] ∧ c1_9 = [.int .i64 x.Born_] := h1_9
  refine ⟨a2, k2, F1_2, a4, k4, F3_0, a5, k5, F3_1, a6, k6, F1_6, rfl, h.re [i] _ rfl ?_ ?_⟩
  · simp [selR_cons, selR_nil, hi, foot, Res.own]
  · intro s hs; simp only [List.mem_cons, List.not_mem_nil, or_false] at hs; rcases hs with rfl | rfl | rfl | rfl
    · exact h1_2
    · exact h3_0
    · exact h3_1
    · exact h1_6
theorem fus_Timpl_Node {w0 : World} {M : List Nat} {L : List Res} {w : World} {x0 : Bool} {x1 : Int} {x2 : Int} {x3 : List Int} {a3 : Option Addr} {n3 k3 : Nat} {G3 : List Nat} {x4 : Int} {x5 : List Int} {a5 : Option Addr} {n5 k5 : Nat} {G5 : List Nat} {x6 : List (List Int)} {a6 : Option Addr} {n6 k6 : Nat} {G6 : List Nat} {x7 : Int} {x8 : List Int} {a8 : Option Addr} {n8 k8 : Nat} {G8 : List Nat} {x9 : Int} {x10 : Int} {x11 : Int} (idx : List Nat) (h : St w0 M L w) (hs : selR L idx = [Res.own (eList (eVal (Value.int .i64) (fun _ => rfl)) 3) G3 x3 [.slice a3 n3 k3], Res.own (eList (eVal (Value.int .i64) (fun _ => rfl)) 3) G5 x5 [.slice a5 n5 k5], Res.own (eList (eList (eVal (Value.int .i64) (fun _ => rfl)) 3) 59) G6 x6 [.slice a6 n6 k6], Res.own (eList (eVal (Value.int .i64) (fun _ => rfl)) 3) G8 x8 [.slice a8 n8 k8]]) (hn : nodB idx = true) :
    ∃ F, St w0 M (nilAt L idx ++ [Res.own (eTimpl_Node) F (Timpl_Node.mk x0 (Timpl_Fork.mk x1 x2) x3 x4 (Timpl_Stats.mk x5 x6) x7 x8 x9 x10 x11) [.bool x0, .int .i64 x1, .int .i64 x2, .slice a3 n3 k3, .int .i64 x4, .slice a5 n5 k5, .slice a6 n6 k6, .int .i64 x7, .slice a8 n8 k8, .int .i64 x9, .int .i64 x10, .int .i64 x11]]) w := by
  have o0 : (eList (eVal (Value.int .i64) (fun _ => rfl)) 3).own w G3 x3 [.slice a3 n3 k3] := h.ok' (mem_sel (L := L) (is := idx) (by rw [hs]; simp : Res.own (eList (eVal (Value.int .i64) (fun _ => rfl)) 3) G3 x3 [.slice a3 n3 k3] ∈ selR L idx))
  have o1 : (eList (eVal (Value.int .i64) (fun _ => rfl)) 3).own w G5 x5 [.slice a5 n5 k5] := h.ok' (mem_sel (L := L) (is := idx) (by rw [hs]; simp : Res.own (eList (eVal (Value.int .i64) (fun _ => rfl)) 3) G5 x5 [.slice a5 n5 k5] ∈ selR L idx))
  have o2 : (eList (eList (eVal (Value.int .i64) (fun _ => rfl)) 3) 59).own w G6 x6 [.slice a6 n6 k6] := h.ok' (mem_sel (L := L) (is := idx) (by rw [hs]; simp : Res.own (eList (eList (eVal (Value.int .i64) (fun _ => rfl)) 3) 59) G6 x6 [.slice a6 n6 k6] ∈ selR L idx))
  have o3 : (eList (eVal (Value.int .i64) (fun _ => rfl)) 3).own w G8 x8 [.slice a8 n8 k8] := h.ok' (mem_sel (L := L) (is := idx) (by rw [hs]; simp : Res.own (eList (eVal (Value.int .i64) (fun _ => rfl)) 3) G8 x8 [.slice a8 n8 k8] ∈ selR L idx))
  have ho := (ownm_Timpl_Node (x := (Timpl_Node.mk x0 (Timpl_Fork.mk x1 x2) x3 x4 (Timpl_Stats.mk x5 x6) x7 x8 x9 x10 x11)) (⟨rfl, rfl⟩ : (eBool).own w [] _ _) (⟨rfl, rfl⟩ : (eTimpl_Fork).own w [] _ _) o0 (⟨rfl, rfl⟩ : (eVal (Value.int .i64) (fun _ => rfl)).own w [] _ _) (ownm_Timpl_Stats (x := (Timpl_Stats.mk x5 x6)) o1 o2) (⟨rfl, rfl⟩ : (eVal (Value.int .i64) (fun _ => rfl)).own w [] _ _) o3 (⟨rfl, rfl⟩ : (eVal (Value.int .i64) (fun _ => rfl)).own w [] _ _) (⟨rfl, rfl⟩ : (eVal (Value.int .i64) (fun _ => rfl)).own w [] _ _) (⟨rfl, rfl⟩ : (eVal (Value.int .i64) (fun _ => rfl)).own w [] _ _))
  refine ⟨_, h.re idx [Res.own (eTimpl_Node) _ (Timpl_Node.mk x0 (Timpl_Fork.mk x1 x2) x3 x4 (Timpl_Stats.mk x5 x6) x7 x8 x9 x10 x11) [.bool x0, .int .i64 x1, .int .i64 x2, .slice a3 n3 k3, .int .i64 x4, .slice a5 n5 k5, .slice a6 n6 k6, .int .i64 x7, .slice a8 n8 k8, .int .i64 x9, .int .i64 x10, .int .i64 x11]] hn ?_ (fun s hs => by rw [List.mem_singleton.1 hs]; exact ho)⟩
  rw [hs]
  simp [foot, Res.own]
def eTimpl_Schema : Enc Timpl_Schema := eIso (ePair (eList (eTimpl_Attr) 114) (eList (eStr) 9)) (fun x => (x.Attrs_, x.Classes_))
theorem rdm_Timpl_Schema {w : World} {X : List Nat} {x : Timpl_Schema} {c0 c1 : List Value} (h0 : (eList (eTimpl_Attr) 114).rd w X x.Attrs_ c0) (h1 : (eList (eStr) 9).rd w X x.Classes_ c1) : (eTimpl_Schema).rd w X x (c0 ++ c1) := by
  show (ePair (eList (eTimpl_Attr) 114) (eList (eStr) 9)).rd w X (x.Attrs_, x.Classes_) _
  exact (ePair_rd h0 h1)
theorem rdo_Timpl_Schema {w : World} {X : List Nat} {x : Timpl_Schema} {cs : List Value} (h : (eTimpl_Schema).rd w X x cs) : ∃ c0 c1, cs = (c0 ++ c1) ∧ (eList (eTimpl_Attr) 114).rd w X x.Attrs_ c0 ∧ (eList (eStr) 9).rd w X x.Classes_ c1 := by
  have h : (ePair (eList (eTimpl_Attr) 114) (eList (eStr) 9)).rd w X (x.Attrs_, x.Classes_) cs := h
  obtain ⟨c0, c1, rfl, h0, h1⟩ := h
  exact ⟨c0, c1, rfl, h0, h1⟩
def eTimpl_Tree : Enc Timpl_Tree := eIso (ePair (eList (eTimpl_Node) 118) (eVal (Value.int .i64) (fun _ => rfl))) (fun x => (x.Nodes_, x.Seen_))
theorem rdm_Timpl_Tree {w : World} {X : List Nat} {x : Timpl_Tree} {c0 c1 : List Value} (h0 : (eList (eTimpl_Node) 118).rd w X x.Nodes_ c0) (h1 : (eVal (Value.int .i64) (fun _ => rfl)).rd w X x.Seen_ c1) : (eTimpl_Tree).rd w X x (c0 ++ c1) := by
  show (ePair (eList (eTimpl_Node) 118) (eVal (Value.int .i64) (fun _ => rfl))).rd w X (x.Nodes_, x.Seen_) _
  exact (ePair_rd h0 h1)
theorem rdo_Timpl_Tree {w : World} {X : List Nat} {x : Timpl_Tree} {cs : List Value} (h : (eTimpl_Tree).rd w X x cs) : ∃ c0 c1, cs = (c0 ++ c1) ∧ (eList (eTimpl_Node) 118).rd w X x.Nodes_ c0 ∧ (eVal (Value.int .i64) (fun _ => rfl)).rd w X x.Seen_ c1 := by
  have h : (ePair (eList (eTimpl_Node) 118) (eVal (Value.int .i64) (fun _ => rfl))).rd w X (x.Nodes_, x.Seen_) cs := h
  obtain ⟨c0, c1, rfl, h0, h1⟩ := h
  exact ⟨c0, c1, rfl, h0, h1⟩
theorem ownm_Timpl_Tree {w : World} {F0 F1 : List Nat} {x : Timpl_Tree} {c0 c1 : List Value} (h0 : (eList (eTimpl_Node) 118).own w F0 x.Nodes_ c0) (h1 : (eVal (Value.int .i64) (fun _ => rfl)).own w F1 x.Seen_ c1) : (eTimpl_Tree).own w (F0 ++ F1) x (c0 ++ c1) := by
  show (ePair (eList (eTimpl_Node) 118) (eVal (Value.int .i64) (fun _ => rfl))).own w _ (x.Nodes_, x.Seen_) _
  exact (ePair_own h0 h1)
theorem owno_Timpl_Tree {w : World} {F : List Nat} {x : Timpl_Tree} {cs : List Value} (h : (eTimpl_Tree).own w F x cs) : ∃ F0 F1 c0 c1, F = (F0 ++ F1) ∧ cs = (c0 ++ c1) ∧ (eList (eTimpl_Node) 118).own w F0 x.Nodes_ c0 ∧ (eVal (Value.int .i64) (fun _ => rfl)).own w F1 x.Seen_ c1 := by
  have h : (ePair (eList (eTimpl_Node) 118) (eVal (Value.int .i64) (fun _ => rfl))).own w F (x.Nodes_, x.Seen_) cs := h
  obtain ⟨F0, F1, c0, c1, rfl, rfl, h0, h1⟩ := h
  exact ⟨F0, F1, c0, c1, rfl, rfl, h0, h1⟩
def eTlaws_Rule : Enc Tlaws_Rule := eFlat (fun x => [.int .i64 x.Sure_, .int .i64 x.Tie_, .int .i64 x.Grace_, .int .i64 x.Depth_, .int .i64 x.Nodes_, .int .i64 x.Units_, .bool x.Two_]) 7 (fun _ => rfl) (by intro x u hu; simp only [List.mem_cons, List.not_mem_nil, or_false] at hu; rcases hu with rfl | rfl | rfl | rfl | rfl | rfl | rfl <;> rfl)
def eTlaws_Conf : Enc Tlaws_Conf := eIso (ePair (eTlaws_Schema) (ePair (eTlaws_Rule) (ePair (eVal (Value.int .i64) (fun _ => rfl)) (ePair (eVal (Value.int .i64) (fun _ => rfl)) (ePair (eVal (Value.int .i64) (fun _ => rfl)) (ePair (eVal (Value.int .i64) (fun _ => rfl)) (eVal (Value.int .i64) (fun _ => rfl)))))))) (fun x => (x.Schema_, x.Rule_, x.Members_, x.Pick_, x.Lambda_, x.Warn_, x.Drift_))
theorem rdm_Tlaws_Conf {w : World} {X : List Nat} {x : Tlaws_Conf} {c0 c1 c2 c3 c4 c5 c6 : List Value} (h0 : (eTlaws_Schema).rd w X x.Schema_ c0) (h1 : (eTlaws_Rule).rd w X x.Rule_ c1) (h2 : (eVal (Value.int .i64) (fun _ => rfl)).rd w X x.Members_ c2) (h3 : (eVal (Value.int .i64) (fun _ => rfl)).rd w X x.Pick_ c3) (h4 : (eVal (Value.int .i64) (fun _ => rfl)).rd w X x.Lambda_ c4) (h5 : (eVal (Value.int .i64) (fun _ => rfl)).rd w X x.Warn_ c5) (h6 : (eVal (Value.int .i64) (fun _ => rfl)).rd w X x.Drift_ c6) : (eTlaws_Conf).rd w X x (c0 ++ (c1 ++ (c2 ++ (c3 ++ (c4 ++ (c5 ++ c6)))))) := by
  show (ePair (eTlaws_Schema) (ePair (eTlaws_Rule) (ePair (eVal (Value.int .i64) (fun _ => rfl)) (ePair (eVal (Value.int .i64) (fun _ => rfl)) (ePair (eVal (Value.int .i64) (fun _ => rfl)) (ePair (eVal (Value.int .i64) (fun _ => rfl)) (eVal (Value.int .i64) (fun _ => rfl)))))))).rd w X (x.Schema_, x.Rule_, x.Members_, x.Pick_, x.Lambda_, x.Warn_, x.Drift_) _
  exact (ePair_rd h0 (ePair_rd h1 (ePair_rd h2 (ePair_rd h3 (ePair_rd h4 (ePair_rd h5 h6))))))
theorem rdo_Tlaws_Conf {w : World} {X : List Nat} {x : Tlaws_Conf} {cs : List Value} (h : (eTlaws_Conf).rd w X x cs) : ∃ c0 c1 c2 c3 c4 c5 c6, cs = (c0 ++ (c1 ++ (c2 ++ (c3 ++ (c4 ++ (c5 ++ c6)))))) ∧ (eTlaws_Schema).rd w X x.Schema_ c0 ∧ (eTlaws_Rule).rd w X x.Rule_ c1 ∧ (eVal (Value.int .i64) (fun _ => rfl)).rd w X x.Members_ c2 ∧ (eVal (Value.int .i64) (fun _ => rfl)).rd w X x.Pick_ c3 ∧ (eVal (Value.int .i64) (fun _ => rfl)).rd w X x.Lambda_ c4 ∧ (eVal (Value.int .i64) (fun _ => rfl)).rd w X x.Warn_ c5 ∧ (eVal (Value.int .i64) (fun _ => rfl)).rd w X x.Drift_ c6 := by
  have h : (ePair (eTlaws_Schema) (ePair (eTlaws_Rule) (ePair (eVal (Value.int .i64) (fun _ => rfl)) (ePair (eVal (Value.int .i64) (fun _ => rfl)) (ePair (eVal (Value.int .i64) (fun _ => rfl)) (ePair (eVal (Value.int .i64) (fun _ => rfl)) (eVal (Value.int .i64) (fun _ => rfl)))))))).rd w X (x.Schema_, x.Rule_, x.Members_, x.Pick_, x.Lambda_, x.Warn_, x.Drift_) cs := h
  obtain ⟨c0, d0, rfl, h0, r0⟩ := h
  obtain ⟨c1, d1, rfl, h1, r1⟩ := r0
  obtain ⟨c2, d2, rfl, h2, r2⟩ := r1
  obtain ⟨c3, d3, rfl, h3, r3⟩ := r2
  obtain ⟨c4, d4, rfl, h4, r4⟩ := r3
  obtain ⟨c5, c6, rfl, h5, h6⟩ := r4
  exact ⟨c0, c1, c2, c3, c4, c5, c6, rfl, h0, h1, h2, h3, h4, h5, h6⟩
def eTimpl_Window : Enc Timpl_Window := eIso (eList (eList (eVal (Value.int .i64) (fun _ => rfl)) 3) 59) (fun x => x.Rows_)
theorem rdm_Timpl_Window {w : World} {X : List Nat} {x : Timpl_Window} {c0 : List Value} (h0 : (eList (eList (eVal (Value.int .i64) (fun _ => rfl)) 3) 59).rd w X x.Rows_ c0) : (eTimpl_Window).rd w X x c0 := by
  show (eList (eList (eVal (Value.int .i64) (fun _ => rfl)) 3) 59).rd w X x.Rows_ _
  exact h0
theorem rdo_Timpl_Window {w : World} {X : List Nat} {x : Timpl_Window} {cs : List Value} (h : (eTimpl_Window).rd w X x cs) : ∃ c0, cs = c0 ∧ (eList (eList (eVal (Value.int .i64) (fun _ => rfl)) 3) 59).rd w X x.Rows_ c0 := by
  have h : (eList (eList (eVal (Value.int .i64) (fun _ => rfl)) 3) 59).rd w X x.Rows_ cs := h
  exact ⟨cs, rfl, h⟩
theorem ownm_Timpl_Window {w : World} {F0 : List Nat} {x : Timpl_Window} {c0 : List Value} (h0 : (eList (eList (eVal (Value.int .i64) (fun _ => rfl)) 3) 59).own w F0 x.Rows_ c0) : (eTimpl_Window).own w F0 x c0 := by
  show (eList (eList (eVal (Value.int .i64) (fun _ => rfl)) 3) 59).own w _ x.Rows_ _
  exact h0
def eTimpl_Det : Enc Timpl_Det := eIso (ePair (eTimpl_Window) (eTimpl_Window)) (fun x => (x.Warn_, x.Drift_))
theorem rdm_Timpl_Det {w : World} {X : List Nat} {x : Timpl_Det} {c0 c1 : List Value} (h0 : (eTimpl_Window).rd w X x.Warn_ c0) (h1 : (eTimpl_Window).rd w X x.Drift_ c1) : (eTimpl_Det).rd w X x (c0 ++ c1) := by
  show (ePair (eTimpl_Window) (eTimpl_Window)).rd w X (x.Warn_, x.Drift_) _
  exact (ePair_rd h0 h1)
theorem rdo_Timpl_Det {w : World} {X : List Nat} {x : Timpl_Det} {cs : List Value} (h : (eTimpl_Det).rd w X x cs) : ∃ c0 c1, cs = (c0 ++ c1) ∧ (eTimpl_Window).rd w X x.Warn_ c0 ∧ (eTimpl_Window).rd w X x.Drift_ c1 := by
  have h : (ePair (eTimpl_Window) (eTimpl_Window)).rd w X (x.Warn_, x.Drift_) cs := h
  obtain ⟨c0, c1, rfl, h0, h1⟩ := h
  exact ⟨c0, c1, rfl, h0, h1⟩
theorem ownm_Timpl_Det {w : World} {F0 F1 : List Nat} {x : Timpl_Det} {c0 c1 : List Value} (h0 : (eTimpl_Window).own w F0 x.Warn_ c0) (h1 : (eTimpl_Window).own w F1 x.Drift_ c1) : (eTimpl_Det).own w (F0 ++ F1) x (c0 ++ c1) := by
  show (ePair (eTimpl_Window) (eTimpl_Window)).own w _ (x.Warn_, x.Drift_) _
  exact (ePair_own h0 h1)
theorem owno_Timpl_Det {w : World} {F : List Nat} {x : Timpl_Det} {cs : List Value} (h : (eTimpl_Det).own w F x cs) : ∃ F0 F1 c0 c1, F = (F0 ++ F1) ∧ cs = (c0 ++ c1) ∧ (eTimpl_Window).own w F0 x.Warn_ c0 ∧ (eTimpl_Window).own w F1 x.Drift_ c1 := by
  have h : (ePair (eTimpl_Window) (eTimpl_Window)).own w F (x.Warn_, x.Drift_) cs := h
  obtain ⟨F0, F1, c0, c1, rfl, rfl, h0, h1⟩ := h
  exact ⟨F0, F1, c0, c1, rfl, rfl, h0, h1⟩
def eTimpl_Member : Enc Timpl_Member := eIso (ePair (eTimpl_Tree) (ePair (eBool) (ePair (eTimpl_Tree) (eTimpl_Det)))) (fun x => (x.Tree_, x.HasYoung_, x.Young_, x.Det_))
theorem rdm_Timpl_Member {w : World} {X : List Nat} {x : Timpl_Member} {c0 c1 c2 c3 : List Value} (h0 : (eTimpl_Tree).rd w X x.Tree_ c0) (h1 : (eBool).rd w X x.HasYoung_ c1) (h2 : (eTimpl_Tree).rd w X x.Young_ c2) (h3 : (eTimpl_Det).rd w X x.Det_ c3) : (eTimpl_Member).rd w X x (c0 ++ (c1 ++ (c2 ++ c3))) := by
  show (ePair (eTimpl_Tree) (ePair (eBool) (ePair (eTimpl_Tree) (eTimpl_Det)))).rd w X (x.Tree_, x.HasYoung_, x.Young_, x.Det_) _
  exact (ePair_rd h0 (ePair_rd h1 (ePair_rd h2 h3)))
theorem rdo_Timpl_Member {w : World} {X : List Nat} {x : Timpl_Member} {cs : List Value} (h : (eTimpl_Member).rd w X x cs) : ∃ c0 c1 c2 c3, cs = (c0 ++ (c1 ++ (c2 ++ c3))) ∧ (eTimpl_Tree).rd w X x.Tree_ c0 ∧ (eBool).rd w X x.HasYoung_ c1 ∧ (eTimpl_Tree).rd w X x.Young_ c2 ∧ (eTimpl_Det).rd w X x.Det_ c3 := by
  have h : (ePair (eTimpl_Tree) (ePair (eBool) (ePair (eTimpl_Tree) (eTimpl_Det)))).rd w X (x.Tree_, x.HasYoung_, x.Young_, x.Det_) cs := h
  obtain ⟨c0, d0, rfl, h0, r0⟩ := h
  obtain ⟨c1, d1, rfl, h1, r1⟩ := r0
  obtain ⟨c2, c3, rfl, h2, h3⟩ := r1
  exact ⟨c0, c1, c2, c3, rfl, h0, h1, h2, h3⟩
theorem ownm_Timpl_Member {w : World} {F0 F1 F2 F3 : List Nat} {x : Timpl_Member} {c0 c1 c2 c3 : List Value} (h0 : (eTimpl_Tree).own w F0 x.Tree_ c0) (h1 : (eBool).own w F1 x.HasYoung_ c1) (h2 : (eTimpl_Tree).own w F2 x.Young_ c2) (h3 : (eTimpl_Det).own w F3 x.Det_ c3) : (eTimpl_Member).own w (F0 ++ (F1 ++ (F2 ++ F3))) x (c0 ++ (c1 ++ (c2 ++ c3))) := by
  show (ePair (eTimpl_Tree) (ePair (eBool) (ePair (eTimpl_Tree) (eTimpl_Det)))).own w _ (x.Tree_, x.HasYoung_, x.Young_, x.Det_) _
  exact (ePair_own h0 (ePair_own h1 (ePair_own h2 h3)))
theorem owno_Timpl_Member {w : World} {F : List Nat} {x : Timpl_Member} {cs : List Value} (h : (eTimpl_Member).own w F x cs) : ∃ F0 F1 F2 F3 c0 c1 c2 c3, F = (F0 ++ (F1 ++ (F2 ++ F3))) ∧ cs = (c0 ++ (c1 ++ (c2 ++ c3))) ∧ (eTimpl_Tree).own w F0 x.Tree_ c0 ∧ (eBool).own w F1 x.HasYoung_ c1 ∧ (eTimpl_Tree).own w F2 x.Young_ c2 ∧ (eTimpl_Det).own w F3 x.Det_ c3 := by
  have h : (ePair (eTimpl_Tree) (ePair (eBool) (ePair (eTimpl_Tree) (eTimpl_Det)))).own w F (x.Tree_, x.HasYoung_, x.Young_, x.Det_) cs := h
  obtain ⟨F0, G0, c0, d0, rfl, rfl, h0, r0⟩ := h
  obtain ⟨F1, G1, c1, d1, rfl, rfl, h1, r1⟩ := r0
  obtain ⟨F2, F3, c2, c3, rfl, rfl, h2, h3⟩ := r1
  exact ⟨F0, F1, F2, F3, c0, c1, c2, c3, rfl, rfl, h0, h1, h2, h3⟩
theorem opn_Timpl_Member {w0 : World} {M : List Nat} {L : List Res} {w : World} {F : List Nat} {x : Timpl_Member} {cs : List Value} {i : Nat} (h : St w0 M L w) (hi : L[i]? = some (Res.own (eTimpl_Member) F x cs)) :
    ∃ (a_1 : Option Addr) (k_1 : Nat) (F_1 : List Nat), ∃ (a_2 : Option Addr) (k_2 : Nat) (F_2 : List Nat), ∃ (a_3 : Option Addr) (k_3 : Nat) (F_3 : List Nat), ∃ (a_4 : Option Addr) (k_4 : Nat) (F_4 : List Nat), cs = [.slice a_1 (x.Tree_.Nodes_).length k_1, .int .i64 x.Tree_.Seen_, .bool x.HasYoung_, .slice a_2 (x.Young_.Nodes_).length k_2, .int .i64 x.Young_.Seen_, .slice a_3 (x.Det_.Warn_.Rows_).length k_3, .slice a_4 (x.Det_.Drift_.Rows_).length k_4] ∧ St w0 M (nilAt L [i] ++ [Res.own (eList (eTimpl_Node) 118) F_1 x.Tree_.Nodes_ [.slice a_1 (x.Tree_.Nodes_).length k_1], Res.own (eList (eTimpl_Node) 118) F_2 x.Young_.Nodes_ [.slice a_2 (x.Young_.Nodes_).length k_2], Res.own (eList (eList (eVal (Value.int .i64) (fun _ => rfl)) 3) 59) F_3 x.Det_.Warn_.Rows_ [.slice a_3 (x.Det_.Warn_.Rows_).length k_3], Res.own (eList (eList (eVal (Value.int .i64) (fun _ => rfl)) 3) 59) F_4 x.Det_.Drift_.Rows_ [.slice a_4 (x.Det_.Drift_.Rows_).length k_4]]) w := by
  obtain ⟨hok, _, _⟩ := h.one hi
  have hok : (eTimpl_Member).own w F x cs := hok
  obtain ⟨F1_0, F1_1, F1_2, F1_3, c1_0, c1_1, c1_2, c1_3, rfl, rfl, h1_0, h1_1, h1_2, h1_3⟩ := owno_Timpl_Member hok
  obtain ⟨F2_0, F2_1, c2_0, c2_1, rfl, rfl, h2_0, h2_1⟩ := owno_Timpl_Tree h1_0
  obtain ⟨a3, k3, rfl⟩ := own_sl1 h2_0
  obtain ⟨rfl, rfl⟩ : F2_1 = [] ∧ c2_1 = [.int .i64 x.Tree_.Seen_] := h2_1
  obtain ⟨rfl, rfl⟩ : F1_1 = [] ∧ c1_1 = [.bool x.HasYoung_] := h1_1
  obtain ⟨F4_0, F4_1, c4_0, c4_1, rfl, rfl, h4_0, h4_1⟩ := owno_Timpl_Tree h1_2
  obtain ⟨a5, k5, rfl⟩ := own_sl1 h4_0
  obtain ⟨rfl, rfl⟩ : F4_1 = [] ∧ c4_1 = [.int .i64 x.Young_.Seen_] := h4_1
  obtain ⟨F6_0, F6_1, c6_0, c6_1, rfl, rfl, h6_0, h6_1⟩ := owno_Timpl_Det h1_3
  have h7_0 : (eList (eList (eVal (Value.int .i64) (fun _ => rfl)) 3) 59).own w F6_0 (x.Det_.Warn_.Rows_) c6_0 := h6_0
  obtain ⟨a8, k8, rfl⟩ := own_sl1 h7_0
  have h9_0 : (eList (eList (eVal (Value.int .i64) (fun _ => rfl)) 3) 59).own w F6_1 (x.Det_.Drift_.Rows_) c6_1 := h6_1
  obtain ⟨a10, k10, rfl⟩ := own_sl1 h9_0
  refine ⟨a3, k3, F2_0, a5, k5, F4_0, a8, k8, F6_0, a10, k10, F6_1, rfl, h.re [i] _ rfl ?_ ?_⟩
  · simp [selR_cons, selR_nil, hi, foot, Res.own]
  · intro s hs; simp only [List.mem_cons, List.not_mem_nil, or_false] at hs; rcases hs with rfl | rfl | rfl | rfl
    · exact h2_0
    · exact h4_0
    · exact h7_0
    · exact h9_0
theorem fus_Timpl_Member {w0 : World} {M : List Nat} {L : List Res} {w : World} {x0 : List Timpl_Node} {a0 : Option Addr} {n0 k0 : Nat} {G0 : List Nat} {x1 : Int} {x2 : Bool} {x3 : List Timpl_Node} {a3 : Option Addr} {n3 k3 : Nat} {G3 : List Nat} {x4 : Int} {x5 : List (List Int)} {a5 : Option Addr} {n5 k5 : Nat} {G5 : List Nat} {x6 : List (List Int)} {a6 : Option Addr} {n6 k6 : Nat} {G6 : List Nat} (idx : List Nat) (h : St w0 M L w) (hs : selR L idx = [Res.own (eList (eTimpl_Node) 118) G0 x0 [.slice a0 n0 k0], Res.own (eList (eTimpl_Node) 118) G3 x3 [.slice a3 n3 k3], Res.own (eList (eList (eVal (Value.int .i64) (fun _ => rfl)) 3) 59) G5 x5 [.slice a5 n5 k5], Res.own (eList (eList (eVal (Value.int .i64) (fun _ => rfl)) 3) 59) G6 x6 [.slice a6 n6 k6]]) (hn : nodB idx = true) :
    ∃ F, St w0 M (nilAt L idx ++ [Res.own (eTimpl_Member) F (Timpl_Member.mk (Timpl_Tree.mk x0 x1) x2 (Timpl_Tree.mk x3 x4) (Timpl_Det.mk (Timpl_Window.mk x5) (Timpl_Window.mk x6))) [.slice a0 n0 k0, .int .i64 x1, .bool x2, .slice a3 n3 k3, .int .i64 x4, .slice a5 n5 k5, .slice a6 n6 k6]]) w := by
  have o0 : (eList (eTimpl_Node) 118).own w G0 x0 [.slice a0 n0 k0] := h.ok' (mem_sel (L := L) (is := idx) (by rw [hs]; simp : Res.own (eList (eTimpl_Node) 118) G0 x0 [.slice a0 n0 k0] ∈ selR L idx))
  have o1 : (eList (eTimpl_Node) 118).own w G3 x3 [.slice a3 n3 k3] := h.ok' (mem_sel (L := L) (is := idx) (by rw [hs]; simp : Res.own (eList (eTimpl_Node) 118) G3 x3 [.slice a3 n3 k3] ∈ selR L idx))
  have o2 : (eList (eList (eVal (Value.int .i64) (fun _ => rfl)) 3) 59).own w G5 x5 [.slice a5 n5 k5] := h.ok' (mem_sel (L := L) (is := idx) (by rw [hs]; simp : Res.own (eList (eList (eVal (Value.int .i64) (fun _ => rfl)) 3) 59) G5 x5 [.slice a5 n5 k5] ∈ selR L idx))
  have o3 : (eList (eList (eVal (Value.int .i64) (fun _ => rfl)) 3) 59).own w G6 x6 [.slice a6 n6 k6] := h.ok' (mem_sel (L := L) (is := idx) (by rw [hs]; simp : Res.own (eList (eList (eVal (Value.int .i64) (fun _ => rfl)) 3) 59) G6 x6 [.slice a6 n6 k6] ∈ selR L idx))
  have ho := (ownm_Timpl_Member (x := (Timpl_Member.mk (Timpl_Tree.mk x0 x1) x2 (Timpl_Tree.mk x3 x4) (Timpl_Det.mk (Timpl_Window.mk x5) (Timpl_Window.mk x6)))) (ownm_Timpl_Tree (x := (Timpl_Tree.mk x0 x1)) o0 (⟨rfl, rfl⟩ : (eVal (Value.int .i64) (fun _ => rfl)).own w [] _ _)) (⟨rfl, rfl⟩ : (eBool).own w [] _ _) (ownm_Timpl_Tree (x := (Timpl_Tree.mk x3 x4)) o1 (⟨rfl, rfl⟩ : (eVal (Value.int .i64) (fun _ => rfl)).own w [] _ _)) (ownm_Timpl_Det (x := (Timpl_Det.mk (Timpl_Window.mk x5) (Timpl_Window.mk x6))) (ownm_Timpl_Window (x := (Timpl_Window.mk x5)) o2) (ownm_Timpl_Window (x := (Timpl_Window.mk x6)) o3)))
  refine ⟨_, h.re idx [Res.own (eTimpl_Member) _ (Timpl_Member.mk (Timpl_Tree.mk x0 x1) x2 (Timpl_Tree.mk x3 x4) (Timpl_Det.mk (Timpl_Window.mk x5) (Timpl_Window.mk x6))) [.slice a0 n0 k0, .int .i64 x1, .bool x2, .slice a3 n3 k3, .int .i64 x4, .slice a5 n5 k5, .slice a6 n6 k6]] hn ?_ (fun s hs => by rw [List.mem_singleton.1 hs]; exact ho)⟩
  rw [hs]
  simp [foot, Res.own]
def eTimpl_Pair : Enc Timpl_Pair := eFlat (fun x => [.int .i64 x.Truth_, .int .i64 x.Said_]) 2 (fun _ => rfl) (by intro x u hu; simp only [List.mem_cons, List.not_mem_nil, or_false] at hu; rcases hu with rfl | rfl <;> rfl)
def eTimpl_Rule : Enc Timpl_Rule := eFlat (fun x => [.int .i64 x.Sure_, .int .i64 x.Tie_, .int .i64 x.Grace_, .int .i64 x.Depth_, .int .i64 x.Nodes_, .int .i64 x.Units_, .bool x.Two_]) 7 (fun _ => rfl) (by intro x u hu; simp only [List.mem_cons, List.not_mem_nil, or_false] at hu; rcases hu with rfl | rfl | rfl | rfl | rfl | rfl | rfl <;> rfl)
def eTimpl_Conf : Enc Timpl_Conf := eIso (ePair (eTimpl_Schema) (ePair (eTimpl_Rule) (ePair (eVal (Value.int .i64) (fun _ => rfl)) (ePair (eVal (Value.int .i64) (fun _ => rfl)) (ePair (eVal (Value.int .i64) (fun _ => rfl)) (ePair (eVal (Value.int .i64) (fun _ => rfl)) (eVal (Value.int .i64) (fun _ => rfl)))))))) (fun x => (x.Schema_, x.Rule_, x.Members_, x.Pick_, x.Lambda_, x.Warn_, x.Drift_))
theorem rdm_Timpl_Conf {w : World} {X : List Nat} {x : Timpl_Conf} {c0 c1 c2 c3 c4 c5 c6 : List Value} (h0 : (eTimpl_Schema).rd w X x.Schema_ c0) (h1 : (eTimpl_Rule).rd w X x.Rule_ c1) (h2 : (eVal (Value.int .i64) (fun _ => rfl)).rd w X x.Members_ c2) (h3 : (eVal (Value.int .i64) (fun _ => rfl)).rd w X x.Pick_ c3) (h4 : (eVal (Value.int .i64) (fun _ => rfl)).rd w X x.Lambda_ c4) (h5 : (eVal (Value.int .i64) (fun _ => rfl)).rd w X x.Warn_ c5) (h6 : (eVal (Value.int .i64) (fun _ => rfl)).rd w X x.Drift_ c6) : (eTimpl_Conf).rd w X x (c0 ++ (c1 ++ (c2 ++ (c3 ++ (c4 ++ (c5 ++ c6)))))) := by
  show (ePair (eTimpl_Schema) (ePair (eTimpl_Rule) (ePair (eVal (Value.int .i64) (fun _ => rfl)) (ePair (eVal (Value.int .i64) (fun _ => rfl)) (ePair (eVal (Value.int .i64) (fun _ => rfl)) (ePair (eVal (Value.int .i64) (fun _ => rfl)) (eVal (Value.int .i64) (fun _ => rfl)))))))).rd w X (x.Schema_, x.Rule_, x.Members_, x.Pick_, x.Lambda_, x.Warn_, x.Drift_) _
  exact (ePair_rd h0 (ePair_rd h1 (ePair_rd h2 (ePair_rd h3 (ePair_rd h4 (ePair_rd h5 h6))))))
theorem rdo_Timpl_Conf {w : World} {X : List Nat} {x : Timpl_Conf} {cs : List Value} (h : (eTimpl_Conf).rd w X x cs) : ∃ c0 c1 c2 c3 c4 c5 c6, cs = (c0 ++ (c1 ++ (c2 ++ (c3 ++ (c4 ++ (c5 ++ c6)))))) ∧ (eTimpl_Schema).rd w X x.Schema_ c0 ∧ (eTimpl_Rule).rd w X x.Rule_ c1 ∧ (eVal (Value.int .i64) (fun _ => rfl)).rd w X x.Members_ c2 ∧ (eVal (Value.int .i64) (fun _ => rfl)).rd w X x.Pick_ c3 ∧ (eVal (Value.int .i64) (fun _ => rfl)).rd w X x.Lambda_ c4 ∧ (eVal (Value.int .i64) (fun _ => rfl)).rd w X x.Warn_ c5 ∧ (eVal (Value.int .i64) (fun _ => rfl)).rd w X x.Drift_ c6 := by
  have h : (ePair (eTimpl_Schema) (ePair (eTimpl_Rule) (ePair (eVal (Value.int .i64) (fun _ => rfl)) (ePair (eVal (Value.int .i64) (fun _ => rfl)) (ePair (eVal (Value.int .i64) (fun _ => rfl)) (ePair (eVal (Value.int .i64) (fun _ => rfl)) (eVal (Value.int .i64) (fun _ => rfl)))))))).rd w X (x.Schema_, x.Rule_, x.Members_, x.Pick_, x.Lambda_, x.Warn_, x.Drift_) cs := h
  obtain ⟨c0, d0, rfl, h0, r0⟩ := h
  obtain ⟨c1, d1, rfl, h1, r1⟩ := r0
  obtain ⟨c2, d2, rfl, h2, r2⟩ := r1
  obtain ⟨c3, d3, rfl, h3, r3⟩ := r2
  obtain ⟨c4, d4, rfl, h4, r4⟩ := r3
  obtain ⟨c5, c6, rfl, h5, h6⟩ := r4
  exact ⟨c0, c1, c2, c3, c4, c5, c6, rfl, h0, h1, h2, h3, h4, h5, h6⟩
def eTimpl_Forest : Enc Timpl_Forest := eIso (eList (eTimpl_Member) 216) (fun x => x.Members_)
theorem rdm_Timpl_Forest {w : World} {X : List Nat} {x : Timpl_Forest} {c0 : List Value} (h0 : (eList (eTimpl_Member) 216).rd w X x.Members_ c0) : (eTimpl_Forest).rd w X x c0 := by
  show (eList (eTimpl_Member) 216).rd w X x.Members_ _
  exact h0
theorem rdo_Timpl_Forest {w : World} {X : List Nat} {x : Timpl_Forest} {cs : List Value} (h : (eTimpl_Forest).rd w X x cs) : ∃ c0, cs = c0 ∧ (eList (eTimpl_Member) 216).rd w X x.Members_ c0 := by
  have h : (eList (eTimpl_Member) 216).rd w X x.Members_ cs := h
  exact ⟨cs, rfl, h⟩
def eTimpl_Score : Enc Timpl_Score := eIso (ePair (eList (eList (eVal (Value.int .i64) (fun _ => rfl)) 3) 59) (eList (eTimpl_Pair) 231)) (fun x => (x.Table_, x.Last_))
theorem rdm_Timpl_Score {w : World} {X : List Nat} {x : Timpl_Score} {c0 c1 : List Value} (h0 : (eList (eList (eVal (Value.int .i64) (fun _ => rfl)) 3) 59).rd w X x.Table_ c0) (h1 : (eList (eTimpl_Pair) 231).rd w X x.Last_ c1) : (eTimpl_Score).rd w X x (c0 ++ c1) := by
  show (ePair (eList (eList (eVal (Value.int .i64) (fun _ => rfl)) 3) 59) (eList (eTimpl_Pair) 231)).rd w X (x.Table_, x.Last_) _
  exact (ePair_rd h0 h1)
theorem rdo_Timpl_Score {w : World} {X : List Nat} {x : Timpl_Score} {cs : List Value} (h : (eTimpl_Score).rd w X x cs) : ∃ c0 c1, cs = (c0 ++ c1) ∧ (eList (eList (eVal (Value.int .i64) (fun _ => rfl)) 3) 59).rd w X x.Table_ c0 ∧ (eList (eTimpl_Pair) 231).rd w X x.Last_ c1 := by
  have h : (ePair (eList (eList (eVal (Value.int .i64) (fun _ => rfl)) 3) 59) (eList (eTimpl_Pair) 231)).rd w X (x.Table_, x.Last_) cs := h
  obtain ⟨c0, c1, rfl, h0, h1⟩ := h
  exact ⟨c0, c1, rfl, h0, h1⟩
def eTimpl_State : Enc Timpl_State := eIso (ePair (eTimpl_Conf) (ePair (eTimpl_Forest) (eTimpl_Score))) (fun x => (x.Conf_, x.Forest_, x.Score_))
theorem rdm_Timpl_State {w : World} {X : List Nat} {x : Timpl_State} {c0 c1 c2 : List Value} (h0 : (eTimpl_Conf).rd w X x.Conf_ c0) (h1 : (eTimpl_Forest).rd w X x.Forest_ c1) (h2 : (eTimpl_Score).rd w X x.Score_ c2) : (eTimpl_State).rd w X x (c0 ++ (c1 ++ c2)) := by
  show (ePair (eTimpl_Conf) (ePair (eTimpl_Forest) (eTimpl_Score))).rd w X (x.Conf_, x.Forest_, x.Score_) _
  exact (ePair_rd h0 (ePair_rd h1 h2))
theorem rdo_Timpl_State {w : World} {X : List Nat} {x : Timpl_State} {cs : List Value} (h : (eTimpl_State).rd w X x cs) : ∃ c0 c1 c2, cs = (c0 ++ (c1 ++ c2)) ∧ (eTimpl_Conf).rd w X x.Conf_ c0 ∧ (eTimpl_Forest).rd w X x.Forest_ c1 ∧ (eTimpl_Score).rd w X x.Score_ c2 := by
  have h : (ePair (eTimpl_Conf) (ePair (eTimpl_Forest) (eTimpl_Score))).rd w X (x.Conf_, x.Forest_, x.Score_) cs := h
  obtain ⟨c0, d0, rfl, h0, r0⟩ := h
  obtain ⟨c1, c2, rfl, h1, h2⟩ := r0
  exact ⟨c0, c1, c2, rfl, h0, h1, h2⟩
def eTimpl_Tape : Enc Timpl_Tape := eIso (ePair (eList (eVal (Value.int .u8) (fun _ => rfl)) 5) (eVal (Value.int .i64) (fun _ => rfl))) (fun x => (x.Bytes_, x.At_))
theorem rdm_Timpl_Tape {w : World} {X : List Nat} {x : Timpl_Tape} {c0 c1 : List Value} (h0 : (eList (eVal (Value.int .u8) (fun _ => rfl)) 5).rd w X x.Bytes_ c0) (h1 : (eVal (Value.int .i64) (fun _ => rfl)).rd w X x.At_ c1) : (eTimpl_Tape).rd w X x (c0 ++ c1) := by
  show (ePair (eList (eVal (Value.int .u8) (fun _ => rfl)) 5) (eVal (Value.int .i64) (fun _ => rfl))).rd w X (x.Bytes_, x.At_) _
  exact (ePair_rd h0 h1)
theorem rdo_Timpl_Tape {w : World} {X : List Nat} {x : Timpl_Tape} {cs : List Value} (h : (eTimpl_Tape).rd w X x cs) : ∃ c0 c1, cs = (c0 ++ c1) ∧ (eList (eVal (Value.int .u8) (fun _ => rfl)) 5).rd w X x.Bytes_ c0 ∧ (eVal (Value.int .i64) (fun _ => rfl)).rd w X x.At_ c1 := by
  have h : (ePair (eList (eVal (Value.int .u8) (fun _ => rfl)) 5) (eVal (Value.int .i64) (fun _ => rfl))).rd w X (x.Bytes_, x.At_) cs := h
  obtain ⟨c0, c1, rfl, h0, h1⟩ := h
  exact ⟨c0, c1, rfl, h0, h1⟩
theorem sl59 : isSl Tryz.prog 59 3 := isSl_of (by kernel_rfl)
theorem sl23 : isSl Tryz.prog 23 9 := isSl_of (by kernel_rfl)
theorem ty9 : isTy Tryz.prog 9 false 1 16 [vS []] := isTy_of (by kernel_rfl)
theorem st9 : isStr Tryz.prog 9 := isStr_of (by kernel_rfl)
theorem fa177_0 : isFa Tryz.prog 177 0 0 := isFa_of (by kernel_rfl)
theorem fa177_1 : isFa Tryz.prog 177 1 1 := isFa_of (by kernel_rfl)
theorem ty59 : isTy Tryz.prog 59 false 1 24 [.slice none 0 0] := isTy_of (by kernel_rfl)
theorem fn191 : isFn Tryz.prog 191 := ⟨Tryz.f191, Tryz.func191, rfl, by decide⟩
theorem fa177_2 : isFa Tryz.prog 177 2 2 := isFa_of (by kernel_rfl)
theorem ty23 : isTy Tryz.prog 23 false 1 24 [.slice none 0 0] := isTy_of (by kernel_rfl)
theorem fn50 : isFn Tryz.prog 50 := ⟨Tryz.f50, Tryz.func50, rfl, by decide⟩
theorem sl22 : isSl Tryz.prog 22 177 := isSl_of (by kernel_rfl)
theorem ty177 : isTy Tryz.prog 177 true 3 64 [vS [], .slice none 0 0, .slice none 0 0] := isTy_of (by kernel_rfl)
theorem fn120 : isFn Tryz.prog 120 := ⟨Tryz.f120, Tryz.func120, rfl, by decide⟩
theorem fa25_0 : isFa Tryz.prog 25 0 0 := isFa_of (by kernel_rfl)
theorem ty22 : isTy Tryz.prog 22 false 1 24 [.slice none 0 0] := isTy_of (by kernel_rfl)
theorem fn49 : isFn Tryz.prog 49 := ⟨Tryz.f49, Tryz.func49, rfl, by decide⟩
theorem fa25_1 : isFa Tryz.prog 25 1 1 := isFa_of (by kernel_rfl)
theorem sl60 : isSl Tryz.prog 60 59 := isSl_of (by kernel_rfl)
theorem ty60 : isTy Tryz.prog 60 false 1 24 [.slice none 0 0] := isTy_of (by kernel_rfl)
theorem ty3 : isTy Tryz.prog 3 false 1 8 [.int .i64 0] := isTy_of (by kernel_rfl)
theorem ty114 : isTy Tryz.prog 114 true 3 64 [vS [], .slice none 0 0, .slice none 0 0] := isTy_of (by kernel_rfl)
theorem fa114_0 : isFa Tryz.prog 114 0 0 := isFa_of (by kernel_rfl)
theorem fn199 : isFn Tryz.prog 199 := ⟨Tryz.f199, Tryz.func199, rfl, by decide⟩
theorem fa114_1 : isFa Tryz.prog 114 1 1 := isFa_of (by kernel_rfl)
theorem fn57 : isFn Tryz.prog 57 := ⟨Tryz.f57, Tryz.func57, rfl, by decide⟩
theorem fa114_2 : isFa Tryz.prog 114 2 2 := isFa_of (by kernel_rfl)
theorem sl33 : isSl Tryz.prog 33 114 := isSl_of (by kernel_rfl)
theorem fn130 : isFn Tryz.prog 130 := ⟨Tryz.f130, Tryz.func130, rfl, by decide⟩
theorem ty35 : isTy Tryz.prog 35 true 2 48 [.slice none 0 0, .slice none 0 0] := isTy_of (by kernel_rfl)
theorem fn56 : isFn Tryz.prog 56 := ⟨Tryz.f56, Tryz.func56, rfl, by decide⟩
theorem fa35_0 : isFa Tryz.prog 35 0 0 := isFa_of (by kernel_rfl)
theorem ty33 : isTy Tryz.prog 33 false 1 24 [.slice none 0 0] := isTy_of (by kernel_rfl)
theorem fa35_1 : isFa Tryz.prog 35 1 1 := isFa_of (by kernel_rfl)
theorem ty53 : isTy Tryz.prog 53 true 7 56 [.int .i64 0, .int .i64 0, .int .i64 0, .int .i64 0, .int .i64 0, .int .i64 0, .bool false] := isTy_of (by kernel_rfl)
theorem fa49_0 : isFa Tryz.prog 49 0 0 := isFa_of (by kernel_rfl)
theorem fa53_0 : isFa Tryz.prog 53 0 0 := isFa_of (by kernel_rfl)
theorem fa49_1 : isFa Tryz.prog 49 1 1 := isFa_of (by kernel_rfl)
theorem fa53_1 : isFa Tryz.prog 53 1 1 := isFa_of (by kernel_rfl)
theorem fa49_2 : isFa Tryz.prog 49 2 2 := isFa_of (by kernel_rfl)
theorem fa53_2 : isFa Tryz.prog 53 2 2 := isFa_of (by kernel_rfl)
theorem fa49_3 : isFa Tryz.prog 49 3 3 := isFa_of (by kernel_rfl)
theorem fa53_3 : isFa Tryz.prog 53 3 3 := isFa_of (by kernel_rfl)
theorem fa49_4 : isFa Tryz.prog 49 4 4 := isFa_of (by kernel_rfl)
theorem fa53_4 : isFa Tryz.prog 53 4 4 := isFa_of (by kernel_rfl)
theorem fa49_5 : isFa Tryz.prog 49 5 5 := isFa_of (by kernel_rfl)
theorem fa53_5 : isFa Tryz.prog 53 5 5 := isFa_of (by kernel_rfl)
theorem fa49_6 : isFa Tryz.prog 49 6 6 := isFa_of (by kernel_rfl)
theorem ty4 : isTy Tryz.prog 4 false 1 1 [.bool false] := isTy_of (by kernel_rfl)
theorem fa53_6 : isFa Tryz.prog 53 6 6 := isFa_of (by kernel_rfl)
theorem ty116 : isTy Tryz.prog 116 true 2 16 [.int .i64 0, .int .i64 0] := isTy_of (by kernel_rfl)
theorem fa116_0 : isFa Tryz.prog 116 0 0 := isFa_of (by kernel_rfl)
theorem fa116_1 : isFa Tryz.prog 116 1 1 := isFa_of (by kernel_rfl)
theorem ty62 : isTy Tryz.prog 62 true 2 48 [.slice none 0 0, .slice none 0 0] := isTy_of (by kernel_rfl)
theorem fa62_0 : isFa Tryz.prog 62 0 0 := isFa_of (by kernel_rfl)
theorem fa62_1 : isFa Tryz.prog 62 1 1 := isFa_of (by kernel_rfl)
theorem ty118 : isTy Tryz.prog 118 true 12 160 [.bool false, .int .i64 0, .int .i64 0, .slice none 0 0, .int .i64 0, .slice none 0 0, .slice none 0 0, .int .i64 0, .slice none 0 0, .int .i64 0, .int .i64 0, .int .i64 0] := isTy_of (by kernel_rfl)
theorem fa118_0 : isFa Tryz.prog 118 0 0 := isFa_of (by kernel_rfl)
theorem fa118_1 : isFa Tryz.prog 118 1 1 := isFa_of (by kernel_rfl)
theorem fa118_2 : isFa Tryz.prog 118 2 3 := isFa_of (by kernel_rfl)
theorem fa118_3 : isFa Tryz.prog 118 3 4 := isFa_of (by kernel_rfl)
theorem fa118_4 : isFa Tryz.prog 118 4 5 := isFa_of (by kernel_rfl)
theorem fa118_5 : isFa Tryz.prog 118 5 7 := isFa_of (by kernel_rfl)
theorem fa118_6 : isFa Tryz.prog 118 6 8 := isFa_of (by kernel_rfl)
theorem fa118_7 : isFa Tryz.prog 118 7 9 := isFa_of (by kernel_rfl)
theorem fa118_8 : isFa Tryz.prog 118 8 10 := isFa_of (by kernel_rfl)
theorem fa118_9 : isFa Tryz.prog 118 9 11 := isFa_of (by kernel_rfl)
theorem sl37 : isSl Tryz.prog 37 118 := isSl_of (by kernel_rfl)
theorem ty39 : isTy Tryz.prog 39 true 2 32 [.slice none 0 0, .int .i64 0] := isTy_of (by kernel_rfl)
theorem fa39_0 : isFa Tryz.prog 39 0 0 := isFa_of (by kernel_rfl)
theorem ty37 : isTy Tryz.prog 37 false 1 24 [.slice none 0 0] := isTy_of (by kernel_rfl)
theorem fa39_1 : isFa Tryz.prog 39 1 1 := isFa_of (by kernel_rfl)
theorem fn88 : isFn Tryz.prog 88 := ⟨Tryz.f88, Tryz.func88, rfl, by decide⟩
theorem fn197 : isFn Tryz.prog 197 := ⟨Tryz.f197, Tryz.func197, rfl, by decide⟩
theorem mixed : Tryz.prog.follows .mixedOrders = true := by kernel_rfl
theorem fn193 : isFn Tryz.prog 193 := ⟨Tryz.f193, Tryz.func193, rfl, by decide⟩
theorem fn126 : isFn Tryz.prog 126 := ⟨Tryz.f126, Tryz.func126, rfl, by decide⟩
theorem fn122 : isFn Tryz.prog 122 := ⟨Tryz.f122, Tryz.func122, rfl, by decide⟩
theorem fn128 : isFn Tryz.prog 128 := ⟨Tryz.f128, Tryz.func128, rfl, by decide⟩
theorem fn194 : isFn Tryz.prog 194 := ⟨Tryz.f194, Tryz.func194, rfl, by decide⟩
theorem fs62 : isFs Tryz.prog 62 [(0, 1), (1, 1)] := isFs_of (by kernel_rfl)
theorem fn89 : isFn Tryz.prog 89 := ⟨Tryz.f89, Tryz.func89, rfl, by decide⟩
theorem fn74 : isFn Tryz.prog 74 := ⟨Tryz.f74, Tryz.func74, rfl, by decide⟩
theorem fn91 : isFn Tryz.prog 91 := ⟨Tryz.f91, Tryz.func91, rfl, by decide⟩
theorem fn259 : isFn Tryz.prog 259 := ⟨Tryz.f259, Tryz.func259, rfl, by decide⟩
theorem fn209 : isFn Tryz.prog 209 := ⟨Tryz.f209, Tryz.func209, rfl, by decide⟩
theorem fn239 : isFn Tryz.prog 239 := ⟨Tryz.f239, Tryz.func239, rfl, by decide⟩
theorem fn242 : isFn Tryz.prog 242 := ⟨Tryz.f242, Tryz.func242, rfl, by decide⟩
theorem fn207 : isFn Tryz.prog 207 := ⟨Tryz.f207, Tryz.func207, rfl, by decide⟩
theorem fn241 : isFn Tryz.prog 241 := ⟨Tryz.f241, Tryz.func241, rfl, by decide⟩
theorem fn238 : isFn Tryz.prog 238 := ⟨Tryz.f238, Tryz.func238, rfl, by decide⟩
theorem fn188 : isFn Tryz.prog 188 := ⟨Tryz.f188, Tryz.func188, rfl, by decide⟩
theorem fn202 : isFn Tryz.prog 202 := ⟨Tryz.f202, Tryz.func202, rfl, by decide⟩
theorem fn210 : isFn Tryz.prog 210 := ⟨Tryz.f210, Tryz.func210, rfl, by decide⟩
theorem fn137 : isFn Tryz.prog 137 := ⟨Tryz.f137, Tryz.func137, rfl, by decide⟩
theorem fn132 : isFn Tryz.prog 132 := ⟨Tryz.f132, Tryz.func132, rfl, by decide⟩
theorem fn138 : isFn Tryz.prog 138 := ⟨Tryz.f138, Tryz.func138, rfl, by decide⟩
theorem fn168 : isFn Tryz.prog 168 := ⟨Tryz.f168, Tryz.func168, rfl, by decide⟩
theorem fn204 : isFn Tryz.prog 204 := ⟨Tryz.f204, Tryz.func204, rfl, by decide⟩
theorem fn223 : isFn Tryz.prog 223 := ⟨Tryz.f223, Tryz.func223, rfl, by decide⟩
theorem fn151 : isFn Tryz.prog 151 := ⟨Tryz.f151, Tryz.func151, rfl, by decide⟩
theorem fn81 : isFn Tryz.prog 81 := ⟨Tryz.f81, Tryz.func81, rfl, by decide⟩
theorem fn92 : isFn Tryz.prog 92 := ⟨Tryz.f92, Tryz.func92, rfl, by decide⟩
theorem fn66 : isFn Tryz.prog 66 := ⟨Tryz.f66, Tryz.func66, rfl, by decide⟩
theorem fn140 : isFn Tryz.prog 140 := ⟨Tryz.f140, Tryz.func140, rfl, by decide⟩
theorem fn65 : isFn Tryz.prog 65 := ⟨Tryz.f65, Tryz.func65, rfl, by decide⟩
theorem fn93 : isFn Tryz.prog 93 := ⟨Tryz.f93, Tryz.func93, rfl, by decide⟩
theorem bl4 : isBl Tryz.prog 4 := isBl_of (by kernel_rfl)
theorem fn212 : isFn Tryz.prog 212 := ⟨Tryz.f212, Tryz.func212, rfl, by decide⟩
theorem fn29 : isFn Tryz.prog 29 := ⟨Tryz.f29, Tryz.func29, rfl, by decide⟩
theorem fn141 : isFn Tryz.prog 141 := ⟨Tryz.f141, Tryz.func141, rfl, by decide⟩
theorem fn67 : isFn Tryz.prog 67 := ⟨Tryz.f67, Tryz.func67, rfl, by decide⟩
theorem ty25 : isTy Tryz.prog 25 true 2 48 [.slice none 0 0, .slice none 0 0] := isTy_of (by kernel_rfl)
theorem fn8 : isFn Tryz.prog 8 := ⟨Tryz.f8, Tryz.func8, rfl, by decide⟩
theorem ty49 : isTy Tryz.prog 49 true 7 56 [.int .i64 0, .int .i64 0, .int .i64 0, .int .i64 0, .int .i64 0, .int .i64 0, .bool false] := isTy_of (by kernel_rfl)
theorem fn11 : isFn Tryz.prog 11 := ⟨Tryz.f11, Tryz.func11, rfl, by decide⟩
theorem fn23 : isFn Tryz.prog 23 := ⟨Tryz.f23, Tryz.func23, rfl, by decide⟩
theorem fn15 : isFn Tryz.prog 15 := ⟨Tryz.f15, Tryz.func15, rfl, by decide⟩
theorem fn16 : isFn Tryz.prog 16 := ⟨Tryz.f16, Tryz.func16, rfl, by decide⟩
theorem us3 : (Tryz.prog.underlying 3).isSome = true := by kernel_rfl
theorem in5 : isInt Tryz.prog 5 .u8 := isInt_of (by kernel_rfl)
theorem sl70 : isSl Tryz.prog 70 5 := isSl_of (by kernel_rfl)
theorem ty5 : isTy Tryz.prog 5 false 1 1 [.int .u8 0] := isTy_of (by kernel_rfl)
theorem fn142 : isFn Tryz.prog 142 := ⟨Tryz.f142, Tryz.func142, rfl, by decide⟩
theorem fn71 : isFn Tryz.prog 71 := ⟨Tryz.f71, Tryz.func71, rfl, by decide⟩
theorem fn69 : isFn Tryz.prog 69 := ⟨Tryz.f69, Tryz.func69, rfl, by decide⟩
theorem fn68 : isFn Tryz.prog 68 := ⟨Tryz.f68, Tryz.func68, rfl, by decide⟩
theorem fn94 : isFn Tryz.prog 94 := ⟨Tryz.f94, Tryz.func94, rfl, by decide⟩
theorem fn70 : isFn Tryz.prog 70 := ⟨Tryz.f70, Tryz.func70, rfl, by decide⟩
theorem fn72 : isFn Tryz.prog 72 := ⟨Tryz.f72, Tryz.func72, rfl, by decide⟩
theorem fn17 : isFn Tryz.prog 17 := ⟨Tryz.f17, Tryz.func17, rfl, by decide⟩
theorem fa69_0 : isFa Tryz.prog 69 0 0 := isFa_of (by kernel_rfl)
theorem ty69 : isTy Tryz.prog 69 true 14 144 [.slice none 0 0, .slice none 0 0, .int .i64 0, .int .i64 0, .int .i64 0, .int .i64 0, .int .i64 0, .int .i64 0, .bool false, .int .i64 0, .int .i64 0, .int .i64 0, .int .i64 0, .int .i64 0] := isTy_of (by kernel_rfl)
theorem fn33 : isFn Tryz.prog 33 := ⟨Tryz.f33, Tryz.func33, rfl, by decide⟩
theorem ty73 : isTy Tryz.prog 73 true 14 144 [.slice none 0 0, .slice none 0 0, .int .i64 0, .int .i64 0, .int .i64 0, .int .i64 0, .int .i64 0, .int .i64 0, .bool false, .int .i64 0, .int .i64 0, .int .i64 0, .int .i64 0, .int .i64 0] := isTy_of (by kernel_rfl)
theorem fa73_0 : isFa Tryz.prog 73 0 0 := isFa_of (by kernel_rfl)
theorem fa69_1 : isFa Tryz.prog 69 1 2 := isFa_of (by kernel_rfl)
theorem fa73_1 : isFa Tryz.prog 73 1 2 := isFa_of (by kernel_rfl)
theorem fa69_2 : isFa Tryz.prog 69 2 9 := isFa_of (by kernel_rfl)
theorem fa73_2 : isFa Tryz.prog 73 2 9 := isFa_of (by kernel_rfl)
theorem fa69_3 : isFa Tryz.prog 69 3 10 := isFa_of (by kernel_rfl)
theorem fa73_3 : isFa Tryz.prog 73 3 10 := isFa_of (by kernel_rfl)
theorem fa69_4 : isFa Tryz.prog 69 4 11 := isFa_of (by kernel_rfl)
theorem fa73_4 : isFa Tryz.prog 73 4 11 := isFa_of (by kernel_rfl)
theorem fa69_5 : isFa Tryz.prog 69 5 12 := isFa_of (by kernel_rfl)
theorem fa73_5 : isFa Tryz.prog 73 5 12 := isFa_of (by kernel_rfl)
theorem fa69_6 : isFa Tryz.prog 69 6 13 := isFa_of (by kernel_rfl)
theorem fa73_6 : isFa Tryz.prog 73 6 13 := isFa_of (by kernel_rfl)
theorem ty212 : isTy Tryz.prog 212 true 1 24 [.slice none 0 0] := isTy_of (by kernel_rfl)
theorem fa212_0 : isFa Tryz.prog 212 0 0 := isFa_of (by kernel_rfl)
theorem ty214 : isTy Tryz.prog 214 true 2 48 [.slice none 0 0, .slice none 0 0] := isTy_of (by kernel_rfl)
theorem fa214_0 : isFa Tryz.prog 214 0 0 := isFa_of (by kernel_rfl)
theorem fa214_1 : isFa Tryz.prog 214 1 1 := isFa_of (by kernel_rfl)
theorem ty216 : isTy Tryz.prog 216 true 7 120 [.slice none 0 0, .int .i64 0, .bool false, .slice none 0 0, .int .i64 0, .slice none 0 0, .slice none 0 0] := isTy_of (by kernel_rfl)
theorem fa216_0 : isFa Tryz.prog 216 0 0 := isFa_of (by kernel_rfl)
theorem fa216_1 : isFa Tryz.prog 216 1 2 := isFa_of (by kernel_rfl)
theorem fa216_2 : isFa Tryz.prog 216 2 3 := isFa_of (by kernel_rfl)
theorem fa216_3 : isFa Tryz.prog 216 3 5 := isFa_of (by kernel_rfl)
theorem sl74 : isSl Tryz.prog 74 216 := isSl_of (by kernel_rfl)
theorem ty76 : isTy Tryz.prog 76 true 1 24 [.slice none 0 0] := isTy_of (by kernel_rfl)
theorem fa76_0 : isFa Tryz.prog 76 0 0 := isFa_of (by kernel_rfl)
theorem ty74 : isTy Tryz.prog 74 false 1 24 [.slice none 0 0] := isTy_of (by kernel_rfl)
theorem ty231 : isTy Tryz.prog 231 true 2 16 [.int .i64 0, .int .i64 0] := isTy_of (by kernel_rfl)
theorem fa231_0 : isFa Tryz.prog 231 0 0 := isFa_of (by kernel_rfl)
theorem fa231_1 : isFa Tryz.prog 231 1 1 := isFa_of (by kernel_rfl)
theorem sl77 : isSl Tryz.prog 77 231 := isSl_of (by kernel_rfl)
theorem ty79 : isTy Tryz.prog 79 true 2 48 [.slice none 0 0, .slice none 0 0] := isTy_of (by kernel_rfl)
theorem fa79_0 : isFa Tryz.prog 79 0 0 := isFa_of (by kernel_rfl)
theorem fa79_1 : isFa Tryz.prog 79 1 1 := isFa_of (by kernel_rfl)
theorem ty77 : isTy Tryz.prog 77 false 1 24 [.slice none 0 0] := isTy_of (by kernel_rfl)
theorem ty81 : isTy Tryz.prog 81 true 17 216 [.slice none 0 0, .slice none 0 0, .int .i64 0, .int .i64 0, .int .i64 0, .int .i64 0, .int .i64 0, .int .i64 0, .bool false, .int .i64 0, .int .i64 0, .int .i64 0, .int .i64 0, .int .i64 0, .slice none 0 0, .slice none 0 0, .slice none 0 0] := isTy_of (by kernel_rfl)
theorem fn35 : isFn Tryz.prog 35 := ⟨Tryz.f35, Tryz.func35, rfl, by decide⟩
theorem fa81_0 : isFa Tryz.prog 81 0 0 := isFa_of (by kernel_rfl)
theorem fa81_1 : isFa Tryz.prog 81 1 14 := isFa_of (by kernel_rfl)
theorem fa81_2 : isFa Tryz.prog 81 2 15 := isFa_of (by kernel_rfl)
theorem fn218 : isFn Tryz.prog 218 := ⟨Tryz.f218, Tryz.func218, rfl, by decide⟩
theorem fn160 : isFn Tryz.prog 160 := ⟨Tryz.f160, Tryz.func160, rfl, by decide⟩
theorem fn220 : isFn Tryz.prog 220 := ⟨Tryz.f220, Tryz.func220, rfl, by decide⟩
theorem fn164 : isFn Tryz.prog 164 := ⟨Tryz.f164, Tryz.func164, rfl, by decide⟩
theorem fs39 : isFs Tryz.prog 39 [(0, 1), (1, 1)] := isFs_of (by kernel_rfl)
theorem in3 : isInt Tryz.prog 3 .i64 := isInt_of (by kernel_rfl)
theorem fn106 : isFn Tryz.prog 106 := ⟨Tryz.f106, Tryz.func106, rfl, by decide⟩
theorem fn267 : isFn Tryz.prog 267 := ⟨Tryz.f267, Tryz.func267, rfl, by decide⟩
theorem fn248 : isFn Tryz.prog 248 := ⟨Tryz.f248, Tryz.func248, rfl, by decide⟩
theorem fn224 : isFn Tryz.prog 224 := ⟨Tryz.f224, Tryz.func224, rfl, by decide⟩
theorem fn169 : isFn Tryz.prog 169 := ⟨Tryz.f169, Tryz.func169, rfl, by decide⟩
theorem fn225 : isFn Tryz.prog 225 := ⟨Tryz.f225, Tryz.func225, rfl, by decide⟩
theorem fn170 : isFn Tryz.prog 170 := ⟨Tryz.f170, Tryz.func170, rfl, by decide⟩
theorem fn39 : isFn Tryz.prog 39 := ⟨Tryz.f39, Tryz.func39, rfl, by decide⟩
theorem fn104 : isFn Tryz.prog 104 := ⟨Tryz.f104, Tryz.func104, rfl, by decide⟩
theorem fn105 : isFn Tryz.prog 105 := ⟨Tryz.f105, Tryz.func105, rfl, by decide⟩
theorem fn38 : isFn Tryz.prog 38 := ⟨Tryz.f38, Tryz.func38, rfl, by decide⟩
theorem ty158 : isTy Tryz.prog 158 true 2 32 [.slice none 0 0, .int .i64 0] := isTy_of (by kernel_rfl)
theorem fs158 : isFs Tryz.prog 158 [(0, 1), (1, 1)] := isFs_of (by kernel_rfl)
theorem fa158_0 : isFa Tryz.prog 158 0 0 := isFa_of (by kernel_rfl)
theorem ty70 : isTy Tryz.prog 70 false 1 24 [.slice none 0 0] := isTy_of (by kernel_rfl)
theorem fa158_1 : isFa Tryz.prog 158 1 1 := isFa_of (by kernel_rfl)
theorem fn277 : isFn Tryz.prog 277 := ⟨Tryz.f277, Tryz.func277, rfl, by decide⟩
theorem fn159 : isFn Tryz.prog 159 := ⟨Tryz.f159, Tryz.func159, rfl, by decide⟩
theorem fn275 : isFn Tryz.prog 275 := ⟨Tryz.f275, Tryz.func275, rfl, by decide⟩
theorem us5 : (Tryz.prog.underlying 5).isSome = true := by kernel_rfl
theorem fn273 : isFn Tryz.prog 273 := ⟨Tryz.f273, Tryz.func273, rfl, by decide⟩
theorem fn262 : isFn Tryz.prog 262 := ⟨Tryz.f262, Tryz.func262, rfl, by decide⟩
theorem fn261 : isFn Tryz.prog 261 := ⟨Tryz.f261, Tryz.func261, rfl, by decide⟩
theorem fn263 : isFn Tryz.prog 263 := ⟨Tryz.f263, Tryz.func263, rfl, by decide⟩
theorem fs118 : isFs Tryz.prog 118 [(0, 1), (1, 2), (3, 1), (4, 1), (5, 2), (7, 1), (8, 1), (9, 1), (10, 1), (11, 1)] := isFs_of (by kernel_rfl)
theorem fn244 : isFn Tryz.prog 244 := ⟨Tryz.f244, Tryz.func244, rfl, by decide⟩
theorem fn245 : isFn Tryz.prog 245 := ⟨Tryz.f245, Tryz.func245, rfl, by decide⟩
theorem fs216 : isFs Tryz.prog 216 [(0, 2), (2, 1), (3, 2), (5, 2)] := isFs_of (by kernel_rfl)
theorem fn219 : isFn Tryz.prog 219 := ⟨Tryz.f219, Tryz.func219, rfl, by decide⟩
theorem fs76 : isFs Tryz.prog 76 [(0, 1)] := isFs_of (by kernel_rfl)
theorem fn161 : isFn Tryz.prog 161 := ⟨Tryz.f161, Tryz.func161, rfl, by decide⟩
theorem fs35 : isFs Tryz.prog 35 [(0, 1), (1, 1)] := isFs_of (by kernel_rfl)
theorem fs114 : isFs Tryz.prog 114 [(0, 1), (1, 1), (2, 1)] := isFs_of (by kernel_rfl)
theorem fn162 : isFn Tryz.prog 162 := ⟨Tryz.f162, Tryz.func162, rfl, by decide⟩
theorem fs79 : isFs Tryz.prog 79 [(0, 1), (1, 1)] := isFs_of (by kernel_rfl)
theorem fn96 : isFn Tryz.prog 96 := ⟨Tryz.f96, Tryz.func96, rfl, by decide⟩
theorem fn97 : isFn Tryz.prog 97 := ⟨Tryz.f97, Tryz.func97, rfl, by decide⟩
theorem fs81 : isFs Tryz.prog 81 [(0, 14), (14, 1), (15, 2)] := isFs_of (by kernel_rfl)
theorem fn98 : isFn Tryz.prog 98 := ⟨Tryz.f98, Tryz.func98, rfl, by decide⟩
theorem fn99 : isFn Tryz.prog 99 := ⟨Tryz.f99, Tryz.func99, rfl, by decide⟩
theorem fn163 : isFn Tryz.prog 163 := ⟨Tryz.f163, Tryz.func163, rfl, by decide⟩
theorem fn278 : isFn Tryz.prog 278 := ⟨Tryz.f278, Tryz.func278, rfl, by decide⟩
theorem fn165 : isFn Tryz.prog 165 := ⟨Tryz.f165, Tryz.func165, rfl, by decide⟩
theorem fn276 : isFn Tryz.prog 276 := ⟨Tryz.f276, Tryz.func276, rfl, by decide⟩
theorem fn274 : isFn Tryz.prog 274 := ⟨Tryz.f274, Tryz.func274, rfl, by decide⟩
theorem fn265 : isFn Tryz.prog 265 := ⟨Tryz.f265, Tryz.func265, rfl, by decide⟩
theorem fn264 : isFn Tryz.prog 264 := ⟨Tryz.f264, Tryz.func264, rfl, by decide⟩
theorem fn266 : isFn Tryz.prog 266 := ⟨Tryz.f266, Tryz.func266, rfl, by decide⟩
theorem fn246 : isFn Tryz.prog 246 := ⟨Tryz.f246, Tryz.func246, rfl, by decide⟩
theorem fn247 : isFn Tryz.prog 247 := ⟨Tryz.f247, Tryz.func247, rfl, by decide⟩
theorem fn221 : isFn Tryz.prog 221 := ⟨Tryz.f221, Tryz.func221, rfl, by decide⟩
theorem fn166 : isFn Tryz.prog 166 := ⟨Tryz.f166, Tryz.func166, rfl, by decide⟩
theorem fn222 : isFn Tryz.prog 222 := ⟨Tryz.f222, Tryz.func222, rfl, by decide⟩
theorem fn167 : isFn Tryz.prog 167 := ⟨Tryz.f167, Tryz.func167, rfl, by decide⟩
theorem fn100 : isFn Tryz.prog 100 := ⟨Tryz.f100, Tryz.func100, rfl, by decide⟩
theorem fn101 : isFn Tryz.prog 101 := ⟨Tryz.f101, Tryz.func101, rfl, by decide⟩
theorem fn102 : isFn Tryz.prog 102 := ⟨Tryz.f102, Tryz.func102, rfl, by decide⟩
theorem fn103 : isFn Tryz.prog 103 := ⟨Tryz.f103, Tryz.func103, rfl, by decide⟩
theorem fn171 : isFn Tryz.prog 171 := ⟨Tryz.f171, Tryz.func171, rfl, by decide⟩
theorem fn172 : isFn Tryz.prog 172 := ⟨Tryz.f172, Tryz.func172, rfl, by decide⟩
theorem fn41 : isFn Tryz.prog 41 := ⟨Tryz.f41, Tryz.func41, rfl, by decide⟩
theorem fn107 : isFn Tryz.prog 107 := ⟨Tryz.f107, Tryz.func107, rfl, by decide⟩
theorem fn108 : isFn Tryz.prog 108 := ⟨Tryz.f108, Tryz.func108, rfl, by decide⟩
theorem fn227 : isFn Tryz.prog 227 := ⟨Tryz.f227, Tryz.func227, rfl, by decide⟩
theorem fn226 : isFn Tryz.prog 226 := ⟨Tryz.f226, Tryz.func226, rfl, by decide⟩
theorem fn173 : isFn Tryz.prog 173 := ⟨Tryz.f173, Tryz.func173, rfl, by decide⟩
theorem fn95 : isFn Tryz.prog 95 := ⟨Tryz.f95, Tryz.func95, rfl, by decide⟩
theorem fn228 : isFn Tryz.prog 228 := ⟨Tryz.f228, Tryz.func228, rfl, by decide⟩
theorem fn174 : isFn Tryz.prog 174 := ⟨Tryz.f174, Tryz.func174, rfl, by decide⟩
theorem fn175 : isFn Tryz.prog 175 := ⟨Tryz.f175, Tryz.func175, rfl, by decide⟩
theorem fn109 : isFn Tryz.prog 109 := ⟨Tryz.f109, Tryz.func109, rfl, by decide⟩
theorem fn110 : isFn Tryz.prog 110 := ⟨Tryz.f110, Tryz.func110, rfl, by decide⟩
theorem fn111 : isFn Tryz.prog 111 := ⟨Tryz.f111, Tryz.func111, rfl, by decide⟩
theorem fn36 : isFn Tryz.prog 36 := ⟨Tryz.f36, Tryz.func36, rfl, by decide⟩
theorem fn34 : isFn Tryz.prog 34 := ⟨Tryz.f34, Tryz.func34, rfl, by decide⟩
theorem fn37 : isFn Tryz.prog 37 := ⟨Tryz.f37, Tryz.func37, rfl, by decide⟩
theorem fn40 : isFn Tryz.prog 40 := ⟨Tryz.f40, Tryz.func40, rfl, by decide⟩
theorem fn42 : isFn Tryz.prog 42 := ⟨Tryz.f42, Tryz.func42, rfl, by decide⟩
theorem fn43 : isFn Tryz.prog 43 := ⟨Tryz.f43, Tryz.func43, rfl, by decide⟩
theorem fn44 : isFn Tryz.prog 44 := ⟨Tryz.f44, Tryz.func44, rfl, by decide⟩
theorem laws_szIntS_ok (w : World) {p0 : List Int} {p1 : Int} {a_0 : Option Addr} {n_0 c_0 : Nat} {r : Int} (H : laws_szIntS p0 p1 = some r)  (g0 : (eList (eVal (Value.int .i64) (fun _ => rfl)) 3).rd w [] p0 [.slice a_0 n_0 c_0]) :
    Calls Tryz.prog 191 #[.slice a_0 n_0 c_0, .int .i64 p1] w (fun en w' => en = .returned (.int .i64 r) ∧ Ext [] w w') := by
 obtain rfl := rd_n g0
 unfold laws_szIntS at H
 refine f_enter (vs := [.slice a_0 p0.length c_0, .int .i64 p1]) Tryz.func191 rfl Tryz.ntmps191 rfl (St.init w []) <| c_seq <| c_reg <| ow_batch [.p] rfl <| ow_nil <| x_qs <| c_seq <| c_reg <| ow_batch [.p, .p, .lenS 59 3 sl59, .p, .p] rfl <| ow_nil <| x_qs <| c_seq <| c_seq <| c_reg <| ow_batch [.p, .p] rfl <| ow_nil <| x_qs <| cI H rfl (fun H => ?_) (fun H => ?_)
 ·exact c_seq <| c_reg <| ow_batch [.p] rfl <| ow_nil <| x_qs <| c_ret <| x_qs_ret <| xr 4 rfl (by cases H; exact q1)
 ·exact c_skip <| x_qs <| c_seq <| c_reg <| ow_batch [.p, .p] rfl <| ow_nil <| x_qs <| c_ret <| xr 4 rfl (by cases H; exact q1)
theorem laws_szStringS_ok (w : World) {p0 : List (List UInt8)} {p1 : Int} {a_0 : Option Addr} {n_0 c_0 : Nat} {r : Int} (H : laws_szStringS p0 p1 = some r)  (g0 : (eList (eStr) 9).rd w [] p0 [.slice a_0 n_0 c_0]) :
    Calls Tryz.prog 50 #[.slice a_0 n_0 c_0, .int .i64 p1] w (fun en w' => en = .returned (.int .i64 r) ∧ Ext [] w w') := by
 obtain rfl := rd_n g0
 unfold laws_szStringS at H
 refine f_enter (vs := [.slice a_0 p0.length c_0, .int .i64 p1]) Tryz.func50 rfl Tryz.ntmps50 rfl (St.init w []) <| c_seq <| c_reg <| ow_batch [.p] rfl <| ow_nil <| x_qs <| c_seq <| c_reg <| ow_batch [.p, .p, .lenS 23 9 sl23, .p, .p] rfl <| ow_nil <| x_qs <| c_seq <| c_seq <| c_reg <| ow_batch [.p, .p] rfl <| ow_nil <| x_qs <| cI H rfl (fun H => ?_) (fun H => ?_)
 ·exact c_seq <| c_reg <| ow_batch [.p] rfl <| ow_nil <| x_qs <| c_ret <| x_qs_ret <| xr 4 rfl (by cases H; exact q1)
 ·refine c_skip <| x_qs <| c_seq <| c_seq <| c_reg <| ow_batch [.p] rfl <| ow_nil <| x_qs <| c_block <| CW.at (loopI2 (fun (i14 : Int) (i15 : Int) => St w [] []) (fun (i14 : Int) (i15 : Int) => [(0, .slice a_0 p0.length c_0), (1, .int .i64 i14), (5, .int .i64 i15)]) (fun kk => fun (i14 : Int) (i15 : Int) => laws_szStringS_L1 p0 kk i14 i15 = some r) (fun _ _ H => ?_) (fun k1 ihk1 i14 i15 H => ?_) Fuel (IntKind.i64.wrap (p1 - (p0.length : Int))) (0) (H)) (fun _ h => St.sel [] rfl rfl h) ⟨rfl, rfl, rfl,  trivial⟩
  ·unfold laws_szStringS_L1 at H
   exact absurd H (by simp)
  ·unfold laws_szStringS_L1 at H
   refine c_seq <| c_seq <| c_reg <| ow_batch [.p, .p, .lenS 23 9 sl23, .p] rfl <| ow_nil <| x_qs <| cI H rfl (fun H => ?_) (fun H => ?_)
   ·refine c_skip <| x_qs <| c_seq <| c_block <| c_seq <| c_reg <| ow_batch [.p, .p, .p] rfl <| bE H fun e20 h21 H => ow_ixE (e := eStr) (xs := p0) (j := i15) rfl rfl rfl rfl rfl sl23 ty9 rfl (fun w1 hw1 => rds_bor g0 w1 hw1) h21 (by rw [Nat.mul_one]) <| o1 rfl (ry_load1 rfl rfl ty9 (at_elV (fun w1 hw1 => rds_bor g0 w1 hw1) h21)) <| ow_batch [.lenT 9 st9, .p, .p] rfl <| ow_nil <| x_qs <| c_seq <| c_reg <| ow_batch [.p, .p] rfl <| ow_nil <| x_qs <| cI H rfl (fun H => ?_) (fun H => ?_)
    ·exact c_seq <| c_reg <| ow_batch [.p] rfl <| ow_nil <| x_qs <| c_ret <| x_qb_ret <| x_qs_ret <| x_ql_ret <| x_qb_ret <| x_qs_ret <| xr 4 rfl (by cases H; exact q1)
    ·exact c_skip <| x_qb <| x_qs <| c_reg <| ow_batch [.p, .p, .p] rfl <| ow_nil <| x_ql (RW.at (ihk1 (IntKind.i64.wrap (i14 - (e20.length : Int))) (IntKind.i64.wrap (i15 + 1)) (H)) (fun _ h => St.sel [] rfl rfl h) ⟨rfl, rfl, rfl, trivial⟩)
   ·exact c_exit <| x_qs_exit <| x_ql_exit <| x_qb_here <| x_qs <| c_seq <| c_reg <| ow_batch [.p, .p] rfl <| ow_nil <| x_qs <| c_ret <| xr 4 rfl (by cases H; exact q1)
theorem laws_szAttr_ok (w : World) {p0 : Tlaws_Attr} {p1 : Int} {cs0 : List Value} {r : Int} (H : laws_szAttr p0 p1 = some r)  (g0 : (eTlaws_Attr).rd w [] p0 cs0) :
    Calls Tryz.prog 120 #[.agg cs0.toArray, .int .i64 p1] w (fun en w' => en = .returned (.int .i64 r) ∧ Ext [] w w') := by
 obtain ⟨c10, c11, c12, rfl, g13, g14, g15⟩ := rdo_Tlaws_Attr g0
 obtain rfl : c10 = [vS p0.Name_] := g13
 obtain ⟨a16, c17, rfl⟩ := rd_sl1 g14
 obtain ⟨a18, c19, rfl⟩ := rd_sl1 g15
 unfold laws_szAttr at H
 refine f_enter (vs := [.agg #[vS p0.Name_, .slice a16 p0.Cuts_.length c17, .slice a18 p0.Values_.length c19], .int .i64 p1]) Tryz.func120 rfl Tryz.ntmps120 rfl (St.init w []) <| c_seq <| c_reg <| ob [vS p0.Name_, .slice a16 p0.Cuts_.length c17, .slice a18 p0.Values_.length c19] rfl fun b20 => ow_batch [.p] rfl <| ow_nil <| x_qs <| c_seq <| c_reg <| ow_batch [.p, .fa 177 0 0 fa177_0] rfl <| o1 rfl (r1 0 0 rfl ty9 rfl) <| ow_batch [.lenT 9 st9, .p, .p] rfl <| ow_nil <| x_qs <| c_seq <| c_seq <| c_reg <| ow_batch [.p, .p] rfl <| ow_nil <| x_qs <| cI H rfl (fun H => ?_) (fun H => ?_)
 ·exact c_seq <| c_reg <| ow_batch [.p] rfl <| ow_nil <| x_qs <| c_ret <| x_qs_ret <| xr 4 rfl (by cases H; exact q1)
 ·refine c_skip <| x_qs <| c_seq <| c_reg <| ow_batch [.fa 177 1 1 fa177_1] rfl <| o1 rfl (r1 1 0 rfl ty59 rfl) <| ow_batch [.p] rfl <| bE H fun y21 h22 H => oq rfl (qc rfl fn191 (fun w1 hw1 => laws_szIntS_ok w1  h22 (rds_bor g14 w1 hw1))) tt2 <| ow_batch [.p] rfl <| ow_nil <| x_qs <| c_seq <| c_seq <| c_reg <| ow_batch [.p, .p] rfl <| ow_nil <| x_qs <| cI H rfl (fun H => ?_) (fun H => ?_)
  ·exact c_seq <| c_reg <| ow_batch [.p] rfl <| ow_nil <| x_qs <| c_ret <| x_qs_ret <| xr 4 rfl (by cases H; exact q1)
  ·refine c_skip <| x_qs <| c_seq <| c_reg <| ow_batch [.fa 177 2 2 fa177_2] rfl <| o1 rfl (r1 2 0 rfl ty23 rfl) <| ow_batch [.p] rfl <| bE H fun y23 h24 H => oq rfl (qc rfl fn50 (fun w1 hw1 => laws_szStringS_ok w1  h24 (rds_bor g15 w1 hw1))) tt2 <| ow_batch [.p] rfl <| ow_nil <| x_qs <| c_seq <| c_seq <| c_reg <| ow_batch [.p, .p] rfl <| ow_nil <| x_qs <| cI H rfl (fun H => ?_) (fun H => ?_)
   ·exact c_seq <| c_reg <| ow_batch [.p] rfl <| ow_nil <| x_qs <| c_ret <| x_qs_ret <| xr 4 rfl (by cases H; exact q1)
   ·exact c_skip <| x_qs <| c_seq <| c_reg <| ow_batch [.p, .p] rfl <| ow_nil <| x_qs <| c_ret <| xr 4 rfl (by cases H; exact q1)
theorem laws_szAttrS_ok (w : World) {p0 : List Tlaws_Attr} {p1 : Int} {a_0 : Option Addr} {n_0 c_0 : Nat} {r : Int} (H : laws_szAttrS p0 p1 = some r)  (g0 : (eList (eTlaws_Attr) 177).rd w [] p0 [.slice a_0 n_0 c_0]) :
    Calls Tryz.prog 49 #[.slice a_0 n_0 c_0, .int .i64 p1] w (fun en w' => en = .returned (.int .i64 r) ∧ Ext [] w w') := by
 obtain rfl := rd_n g0
 unfold laws_szAttrS at H
 refine f_enter (vs := [.slice a_0 p0.length c_0, .int .i64 p1]) Tryz.func49 rfl Tryz.ntmps49 rfl (St.init w []) <| c_seq <| c_reg <| ow_batch [.p] rfl <| ow_nil <| x_qs <| c_seq <| c_reg <| ow_batch [.p, .p, .lenS 22 177 sl22, .p, .p] rfl <| ow_nil <| x_qs <| c_seq <| c_seq <| c_reg <| ow_batch [.p, .p] rfl <| ow_nil <| x_qs <| cI H rfl (fun H => ?_) (fun H => ?_)
 ·exact c_seq <| c_reg <| ow_batch [.p] rfl <| ow_nil <| x_qs <| c_ret <| x_qs_ret <| xr 4 rfl (by cases H; exact q1)
 ·refine c_skip <| x_qs <| c_seq <| c_seq <| c_reg <| ow_batch [.p] rfl <| ow_nil <| x_qs <| c_block <| CW.at (loopI2 (fun (i30 : Int) (i31 : Int) => St w [] []) (fun (i30 : Int) (i31 : Int) => [(0, .slice a_0 p0.length c_0), (1, .int .i64 i30), (5, .int .i64 i31)]) (fun kk => fun (i30 : Int) (i31 : Int) => laws_szAttrS_L1 p0 kk i30 i31 = some r) (fun _ _ H => ?_) (fun k1 ihk1 i30 i31 H => ?_) Fuel (IntKind.i64.wrap (p1 - (p0.length : Int))) (0) (H)) (fun _ h => St.sel [] rfl rfl h) ⟨rfl, rfl, rfl,  trivial⟩
  ·unfold laws_szAttrS_L1 at H
   exact absurd H (by simp)
  ·unfold laws_szAttrS_L1 at H
   refine c_seq <| c_seq <| c_reg <| ow_batch [.p, .p, .lenS 22 177 sl22, .p] rfl <| ow_nil <| x_qs <| cI H rfl (fun H => ?_) (fun H => ?_)
   ·refine c_skip <| x_qs <| c_seq <| c_block <| c_seq <| c_reg <| ow_batch [.p, .p] rfl <| bE H fun e52 h53 H => ow_ixB rfl rfl rfl rfl rfl sl22 ty177 rfl g0 h53 fun q56 c57 hd54 hA55 => ?_
    obtain ⟨c58, c59, c60, rfl, g61, g62, g63⟩ := rdo_Tlaws_Attr hd54
    obtain rfl : c58 = [vS e52.Name_] := g61
    obtain ⟨a64, c65, rfl⟩ := rd_sl1 g62
    obtain ⟨a66, c67, rfl⟩ := rd_sl1 g63
    refine o1 rfl (ry_load (cs := [vS e52.Name_, .slice a64 e52.Cuts_.length c65, .slice a66 e52.Values_.length c67]) rfl rfl ty177 (at_bor bor hA55) rfl) <| ow_batch [.p] rfl <| bE H fun y68 h69 H => oq rfl (qc rfl fn120 (fun w1 hw1 => laws_szAttr_ok w1 (cs0 := [vS e52.Name_, .slice a64 e52.Cuts_.length c65, .slice a66 e52.Values_.length c67]) h69 (rdm_Tlaws_Attr (x := e52) (c0 := [vS e52.Name_]) (c1 := [.slice a64 e52.Cuts_.length c65]) (c2 := [.slice a66 e52.Values_.length c67]) rfl (rds_bor g62 w1 hw1) (rds_bor g63 w1 hw1)))) tt2 <| ow_batch [.p] rfl <| ow_nil <| x_qs <| c_seq <| c_reg <| ow_batch [.p, .p] rfl <| ow_nil <| x_qs <| cI H rfl (fun H => ?_) (fun H => ?_)
    ·exact c_seq <| c_reg <| ow_batch [.p] rfl <| ow_nil <| x_qs <| c_ret <| x_qb_ret <| x_qs_ret <| x_ql_ret <| x_qb_ret <| x_qs_ret <| xr 4 rfl (by cases H; exact q1)
    ·exact c_skip <| x_qb <| x_qs <| c_reg <| ow_batch [.p, .p, .p] rfl <| ow_nil <| x_ql (RW.at (ihk1 (y68) (IntKind.i64.wrap (i31 + 1)) (H)) (fun _ h => St.sel [] rfl rfl h) ⟨rfl, rfl, rfl, trivial⟩)
   ·exact c_exit <| x_qs_exit <| x_ql_exit <| x_qb_here <| x_qs <| c_seq <| c_reg <| ow_batch [.p, .p] rfl <| ow_nil <| x_qs <| c_ret <| xr 4 rfl (by cases H; exact q1)
theorem laws_szSchema_ok (w : World) {p0 : Tlaws_Schema} {p1 : Int} {cs0 : List Value} {r : Int} (H : laws_szSchema p0 p1 = some r)  (g0 : (eTlaws_Schema).rd w [] p0 cs0) :
    Calls Tryz.prog 8 #[.agg cs0.toArray, .int .i64 p1] w (fun en w' => en = .returned (.int .i64 r) ∧ Ext [] w w') := by
 obtain ⟨c10, c11, rfl, g12, g13⟩ := rdo_Tlaws_Schema g0
 obtain ⟨a14, c15, rfl⟩ := rd_sl1 g12
 obtain ⟨a16, c17, rfl⟩ := rd_sl1 g13
 unfold laws_szSchema at H
 refine f_enter (vs := [.agg #[.slice a14 p0.Attrs_.length c15, .slice a16 p0.Classes_.length c17], .int .i64 p1]) Tryz.func8 rfl Tryz.ntmps8 rfl (St.init w []) <| c_seq <| c_reg <| ob [.slice a14 p0.Attrs_.length c15, .slice a16 p0.Classes_.length c17] rfl fun b18 => ow_batch [.p] rfl <| ow_nil <| x_qs <| c_seq <| c_reg <| ow_batch [.fa 25 0 0 fa25_0] rfl <| o1 rfl (r1 0 0 rfl ty22 rfl) <| ow_batch [.p] rfl <| bE H fun y19 h20 H => oq rfl (qc rfl fn49 (fun w1 hw1 => laws_szAttrS_ok w1  h20 (rds_bor g12 w1 hw1))) tt2 <| ow_batch [.p] rfl <| ow_nil <| x_qs <| c_seq <| c_seq <| c_reg <| ow_batch [.p, .p] rfl <| ow_nil <| x_qs <| cI H rfl (fun H => ?_) (fun H => ?_)
 ·exact c_seq <| c_reg <| ow_batch [.p] rfl <| ow_nil <| x_qs <| c_ret <| x_qs_ret <| xr 4 rfl (by cases H; exact q1)
 ·refine c_skip <| x_qs <| c_seq <| c_reg <| ow_batch [.fa 25 1 1 fa25_1] rfl <| o1 rfl (r1 1 0 rfl ty23 rfl) <| ow_batch [.p] rfl <| bE H fun y21 h22 H => oq rfl (qc rfl fn50 (fun w1 hw1 => laws_szStringS_ok w1  h22 (rds_bor g13 w1 hw1))) tt2 <| ow_batch [.p] rfl <| ow_nil <| x_qs <| c_seq <| c_seq <| c_reg <| ow_batch [.p, .p] rfl <| ow_nil <| x_qs <| cI H rfl (fun H => ?_) (fun H => ?_)
  ·exact c_seq <| c_reg <| ow_batch [.p] rfl <| ow_nil <| x_qs <| c_ret <| x_qs_ret <| xr 4 rfl (by cases H; exact q1)
  ·exact c_skip <| x_qs <| c_seq <| c_reg <| ow_batch [.p, .p] rfl <| ow_nil <| x_qs <| c_ret <| xr 4 rfl (by cases H; exact q1)
theorem laws_toIntS_ok (w : World) {M0 : List Nat} {p0 : List Int} {a_0 : Option Addr} {n_0 c_0 : Nat} {r : List Int} (H : laws_toIntS p0 = some r) (HS : St w M0 [] w) (g0 : (eList (eVal (Value.int .i64) (fun _ => rfl)) 3).rd w M0 p0 [.slice a_0 n_0 c_0]) :
    Calls Tryz.prog 199 #[.slice a_0 n_0 c_0] w (fun en w' => ∃ v, en = .returned v ∧ ∃ (a0 : Option Addr), ∃ (n0 : Nat), ∃ (c0 : Nat), ∃ (F0 : List Nat), v = .slice a0 n0 c0 ∧ St w M0 [Res.own (eList (eVal (Value.int .i64) (fun _ => rfl)) 3) F0 r [.slice a0 n0 c0]] w') := by
 obtain rfl := rd_n g0
 unfold laws_toIntS at H
 refine f_enter (vs := [.slice a_0 p0.length c_0]) Tryz.func199 rfl Tryz.ntmps199 rfl (HS) <| c_seq <| c_reg <| ow_batch [.p] rfl <| ow_nil <| x_qs <| c_seq <| c_reg <| ow_batch [.p, .lenS 59 3 sl59] rfl <| bE H fun l10 h11 H => ow_make (e := eVal (Value.int .i64) (fun _ => rfl)) (zero := (0 : Int)) rfl rfl rfl rfl rfl rfl sl59 ty3 rfl rfl rfl rfl (fun _ => ⟨rfl, rfl⟩) h11 (fun _ => kp) fun b12 => ow_batch [.p] rfl <| ow_nil <| x_qs <| c_seq <| c_seq <| c_reg <| ow_batch [.p] rfl <| ow_nil <| x_qs <| c_block <| CW.at (loopI2 (fun (l19 : List Int) (i20 : Int) => St w M0 [Res.own (eList (eVal (Value.int .i64) (fun _ => rfl)) 3) [b12] l19 [.slice (some ⟨b12, 0, none⟩) l10.length l10.length]]) (fun (l19 : List Int) (i20 : Int) => [(0, .slice a_0 p0.length c_0), (3, .slice (some ⟨b12, 0, none⟩) l10.length l10.length), (4, .int .i64 i20)]) (fun kk => fun (l19 : List Int) (i20 : Int) => laws_toIntS_L1 p0 kk l19 i20 = some r) (fun _ _ H => ?_) (fun k1 ihk1 l19 i20 H => ?_) Fuel (l10) (0) (H)) (fun _ h => St.sel [0] rfl rfl h) ⟨rfl, rfl, rfl,  trivial⟩
 ·unfold laws_toIntS_L1 at H
  exact absurd H (by simp)
 ·unfold laws_toIntS_L1 at H
  refine c_seq <| c_seq <| c_reg <| ow_batch [.p, .p, .lenS 59 3 sl59, .p] rfl <| ow_nil <| x_qs <| cI H rfl (fun H => ?_) (fun H => ?_)
  ·exact c_skip <| x_qs <| c_seq <| c_block <| c_reg <| ow_batch [.p, .p, .p, .p] rfl <| bE H fun e27 h28 H => ow_ixE (e := eVal (Value.int .i64) (fun _ => rfl)) (xs := p0) (j := i20) rfl rfl rfl rfl rfl sl59 ty3 rfl (fun w1 hw1 => rds_bor g0 w1 hw1) h28 (by rw [Nat.mul_one]) <| o1 rfl (ry_load1 rfl rfl ty3 (at_elV (fun w1 hw1 => rds_bor g0 w1 hw1) h28)) <| bE H fun e29 h30 H => ow_ixE (e := eVal (Value.int .i64) (fun _ => rfl)) (xs := l19) (j := i20) rfl rfl rfl rfl rfl sl59 ty3 rfl (fun w1 hw1 => rds_own (e := eList (eVal (Value.int .i64) (fun _ => rfl)) 3) (r := 0) rfl w1 hw1) h30 (by rw [Nat.mul_one]) <| ow_storeV (i := 0) (j := i20) rfl rfl rfl rfl rfl rfl ty3 rfl h30 (fun _ => rfl) kp <| ow_nil <| x_qb <| x_qs <| c_reg <| ow_batch [.p, .p, .p] rfl <| ow_nil <| x_ql (RW.at (ihk1 ((l19.set i20.toNat e27)) (IntKind.i64.wrap (i20 + 1)) (H)) (fun _ h => St.sel [0] rfl rfl h) ⟨rfl, rfl, rfl, trivial⟩)
  ·exact c_exit <| x_qs_exit <| x_ql_exit <| x_qb_here <| x_qs <| c_seq <| c_reg <| ow_batch [.p, .p] rfl <| ow_nil <| x_qs <| c_ret <| x_retR (rs := [.tmp 2]) (vs := [.slice (some ⟨b12, 0, none⟩) l10.length l10.length]) rfl ⟨rfl, trivial⟩ (fun w' hw' => by
    obtain rfl := of_some H
    exact ⟨_, rfl, (some ⟨b12, 0, none⟩), l10.length, l10.length, [b12], rfl, hw'.sel [0] rfl rfl⟩)
theorem laws_toStringS_ok (w : World) {M0 : List Nat} {p0 : List (List UInt8)} {a_0 : Option Addr} {n_0 c_0 : Nat} {r : List (List UInt8)} (H : laws_toStringS p0 = some r) (HS : St w M0 [] w) (g0 : (eList (eStr) 9).rd w M0 p0 [.slice a_0 n_0 c_0]) :
    Calls Tryz.prog 57 #[.slice a_0 n_0 c_0] w (fun en w' => ∃ v, en = .returned v ∧ ∃ (a0 : Option Addr), ∃ (n0 : Nat), ∃ (c0 : Nat), ∃ (F0 : List Nat), v = .slice a0 n0 c0 ∧ St w M0 [Res.own (eList (eStr) 9) F0 r [.slice a0 n0 c0]] w') := by
 obtain rfl := rd_n g0
 unfold laws_toStringS at H
 refine f_enter (vs := [.slice a_0 p0.length c_0]) Tryz.func57 rfl Tryz.ntmps57 rfl (HS) <| c_seq <| c_reg <| ow_batch [.p] rfl <| ow_nil <| x_qs <| c_seq <| c_reg <| ow_batch [.p, .lenS 23 9 sl23] rfl <| bE H fun l10 h11 H => ow_make (e := eStr) (zero := ([] : List UInt8)) rfl rfl rfl rfl rfl rfl sl23 ty9 rfl rfl rfl rfl (fun _ => ⟨rfl, rfl⟩) h11 (fun _ => kp) fun b12 => ow_batch [.p] rfl <| ow_nil <| x_qs <| c_seq <| c_seq <| c_reg <| ow_batch [.p] rfl <| ow_nil <| x_qs <| c_block <| CW.at (loopI2 (fun (l19 : List (List UInt8)) (i20 : Int) => St w M0 [Res.own (eList (eStr) 9) [b12] l19 [.slice (some ⟨b12, 0, none⟩) l10.length l10.length]]) (fun (l19 : List (List UInt8)) (i20 : Int) => [(0, .slice a_0 p0.length c_0), (3, .slice (some ⟨b12, 0, none⟩) l10.length l10.length), (4, .int .i64 i20)]) (fun kk => fun (l19 : List (List UInt8)) (i20 : Int) => laws_toStringS_L1 p0 kk l19 i20 = some r) (fun _ _ H => ?_) (fun k1 ihk1 l19 i20 H => ?_) Fuel (l10) (0) (H)) (fun _ h => St.sel [0] rfl rfl h) ⟨rfl, rfl, rfl,  trivial⟩
 ·unfold laws_toStringS_L1 at H
  exact absurd H (by simp)
 ·unfold laws_toStringS_L1 at H
  refine c_seq <| c_seq <| c_reg <| ow_batch [.p, .p, .lenS 23 9 sl23, .p] rfl <| ow_nil <| x_qs <| cI H rfl (fun H => ?_) (fun H => ?_)
  ·exact c_skip <| x_qs <| c_seq <| c_block <| c_reg <| ow_batch [.p, .p, .p, .p] rfl <| bE H fun e27 h28 H => ow_ixE (e := eStr) (xs := p0) (j := i20) rfl rfl rfl rfl rfl sl23 ty9 rfl (fun w1 hw1 => rds_bor g0 w1 hw1) h28 (by rw [Nat.mul_one]) <| o1 rfl (ry_load1 rfl rfl ty9 (at_elV (fun w1 hw1 => rds_bor g0 w1 hw1) h28)) <| bE H fun e29 h30 H => ow_ixE (e := eStr) (xs := l19) (j := i20) rfl rfl rfl rfl rfl sl23 ty9 rfl (fun w1 hw1 => rds_own (e := eList (eStr) 9) (r := 0) rfl w1 hw1) h30 (by rw [Nat.mul_one]) <| ow_storeV (i := 0) (j := i20) rfl rfl rfl rfl rfl rfl ty9 rfl h30 (fun _ => rfl) kp <| ow_nil <| x_qb <| x_qs <| c_reg <| ow_batch [.p, .p, .p] rfl <| ow_nil <| x_ql (RW.at (ihk1 ((l19.set i20.toNat e27)) (IntKind.i64.wrap (i20 + 1)) (H)) (fun _ h => St.sel [0] rfl rfl h) ⟨rfl, rfl, rfl, trivial⟩)
  ·exact c_exit <| x_qs_exit <| x_ql_exit <| x_qb_here <| x_qs <| c_seq <| c_reg <| ow_batch [.p, .p] rfl <| ow_nil <| x_qs <| c_ret <| x_retR (rs := [.tmp 2]) (vs := [.slice (some ⟨b12, 0, none⟩) l10.length l10.length]) rfl ⟨rfl, trivial⟩ (fun w' hw' => by
    obtain rfl := of_some H
    exact ⟨_, rfl, (some ⟨b12, 0, none⟩), l10.length, l10.length, [b12], rfl, hw'.sel [0] rfl rfl⟩)
theorem laws_toAttr_ok (w : World) {M0 : List Nat} {p0 : Tlaws_Attr} {cs0 : List Value} {r : Timpl_Attr} (H : laws_toAttr p0 = some r) (HS : St w M0 [] w) (g0 : (eTlaws_Attr).rd w M0 p0 cs0) :
    Calls Tryz.prog 130 #[.agg cs0.toArray] w (fun en w' => ∃ v, en = .returned v ∧ ∃ (a0 : Option Addr), ∃ (n0 : Nat), ∃ (c0 : Nat), ∃ (F0 : List Nat), ∃ (a1 : Option Addr), ∃ (n1 : Nat), ∃ (c1 : Nat), ∃ (F1 : List Nat), v = .agg #[vS r.Name_, .slice a0 n0 c0, .slice a1 n1 c1] ∧ St w M0 [Res.own (eList (eVal (Value.int .i64) (fun _ => rfl)) 3) F0 r.Cuts_ [.slice a0 n0 c0], Res.own (eList (eStr) 9) F1 r.Values_ [.slice a1 n1 c1]] w') := by
 obtain ⟨c10, c11, c12, rfl, g13, g14, g15⟩ := rdo_Tlaws_Attr g0
 obtain rfl : c10 = [vS p0.Name_] := g13
 obtain ⟨a16, c17, rfl⟩ := rd_sl1 g14
 obtain ⟨a18, c19, rfl⟩ := rd_sl1 g15
 unfold laws_toAttr at H
 refine f_enter (vs := [.agg #[vS p0.Name_, .slice a16 p0.Cuts_.length c17, .slice a18 p0.Values_.length c19]]) Tryz.func130 rfl Tryz.ntmps130 rfl (HS) <| c_seq <| c_reg <| ob [vS p0.Name_, .slice a16 p0.Cuts_.length c17, .slice a18 p0.Values_.length c19] rfl fun b20 => ow_alloc rfl rfl rfl rfl ty114 (fun _ => kp) fun b21 => ow_nil <| x_qs <| c_seq <| c_reg <| ow_alloc rfl rfl rfl rfl ty114 (fun _ => kp) fun b22 => ow_nil <| x_qs <| c_seq <| c_reg <| ow_batch [.fa 177 0 0 fa177_0] rfl <| o1 rfl (r1 0 0 rfl ty9 rfl) <| ow_batch [.fa 114 0 0 fa114_0] rfl <| sC 0 [vS p0.Name_] [_, _, _] 2 rfl ty9 rfl <| ow_nil <| x_qs <| c_seq <| c_reg <| ow_batch [.fa 177 1 1 fa177_1] rfl <| o1 rfl (r1 1 0 rfl ty59 rfl) <| bE H fun y23 h24 H => ow_callS rfl fn199 rfl rfl rfl rfl (fun w1 hw1 => laws_toIntS_ok w1  h24 (hw1.carve [] rfl rfl) (rds_bor g14 w1 hw1)) fun v25 w1 w2 hw1 hR27 => ?_
 obtain ⟨a28, n29, c30, F31, rfl, hS26⟩ := hR27
 obtain rfl := own_nS (i := 0) hS26 rfl
 refine ⟨St w M0 [_, _, _, _], hw1.comp [] rfl rfl hS26, fun _ _ => trivial, ?_⟩
 refine ow_batch [.fa 114 1 1 fa114_1] rfl <| sC 1 [.slice a28 y23.length c30] [_, _, _] 2 rfl ty59 rfl <| ow_nil <| x_qs <| c_seq <| c_reg <| ow_batch [.fa 177 2 2 fa177_2] rfl <| o1 rfl (r1 2 0 rfl ty23 rfl) <| bE H fun y32 h33 H => ow_callS rfl fn57 rfl rfl rfl rfl (fun w1 hw1 => laws_toStringS_ok w1  h33 (hw1.carve [] rfl rfl) (rds_bor g15 w1 hw1)) fun v34 w1 w2 hw1 hR36 => ?_
 obtain ⟨a37, n38, c39, F40, rfl, hS35⟩ := hR36
 obtain rfl := own_nS (i := 0) hS35 rfl
 refine ⟨St w M0 [_, _, _, _, _], hw1.comp [] rfl rfl hS35, fun _ _ => trivial, ?_⟩
 exact ow_batch [.fa 114 2 2 fa114_2] rfl <| sC 2 [.slice a37 y32.length c39] [_, _, _] 2 rfl ty23 rfl <| ow_nil <| x_qs <| c_seq <| c_reg <| o1 rfl (rx 0 2 [vS p0.Name_, .slice a28 y23.length c30, .slice a37 y32.length c39] rfl ty114 rfl) <| sC 0 [vS p0.Name_, .slice a28 y23.length c30, .slice a37 y32.length c39] [_, _, _] 1 rfl ty114 rfl <| ow_nil <| x_qs <| c_ret <| x_retR (rs := [.cell 2 114]) (vs := [.agg #[vS p0.Name_, .slice a28 y23.length c30, .slice a37 y32.length c39]]) rfl ⟨⟨_, [vS p0.Name_, .slice a28 y23.length c30, .slice a37 y32.length c39], _, _, _, rfl, ty114, (at_box (T := 114) 0 (boxIn (i := 1) rfl) rfl), rfl, rfl⟩, trivial⟩ (fun w' hw' => by
  obtain rfl := of_some H
  exact ⟨_, rfl, a28, y23.length, c30, F31, a37, y32.length, c39, F40, rfl, hw'.sel [3, 4] rfl rfl⟩)
theorem laws_toAttrS_ok (w : World) {M0 : List Nat} {p0 : List Tlaws_Attr} {a_0 : Option Addr} {n_0 c_0 : Nat} {r : List Timpl_Attr} (H : laws_toAttrS p0 = some r) (HS : St w M0 [] w) (g0 : (eList (eTlaws_Attr) 177).rd w M0 p0 [.slice a_0 n_0 c_0]) :
    Calls Tryz.prog 56 #[.slice a_0 n_0 c_0] w (fun en w' => ∃ v, en = .returned v ∧ ∃ (a0 : Option Addr), ∃ (n0 : Nat), ∃ (c0 : Nat), ∃ (F0 : List Nat), v = .slice a0 n0 c0 ∧ St w M0 [Res.own (eList (eTimpl_Attr) 114) F0 r [.slice a0 n0 c0]] w') := by
 obtain rfl := rd_n g0
 unfold laws_toAttrS at H
 refine f_enter (vs := [.slice a_0 p0.length c_0]) Tryz.func56 rfl Tryz.ntmps56 rfl (HS) <| c_seq <| c_reg <| ow_batch [.p] rfl <| ow_nil <| x_qs <| c_seq <| c_reg <| ow_batch [.p, .lenS 22 177 sl22] rfl <| bE H fun l10 h11 H => ow_make (e := eTimpl_Attr) (zero := ((Timpl_Attr.mk [] [] []) : Timpl_Attr)) rfl rfl rfl rfl rfl rfl sl33 ty114 rfl rfl rfl rfl (fun _ => (ownm_Timpl_Attr (x := (Timpl_Attr.mk [] [] [])) (⟨rfl, rfl⟩ : (eStr).own _ [] ([] : List UInt8) _) ((.inl ⟨rfl, rfl, rfl⟩) : (eList (eVal (Value.int .i64) (fun _ => rfl)) 3).own _ [] ([] : List Int) _) ((.inl ⟨rfl, rfl, rfl⟩) : (eList (eStr) 9).own _ [] ([] : List (List UInt8)) _))) h11 (fun _ => kp) fun b12 => ow_batch [.p] rfl <| ow_nil <| x_qs <| c_seq <| c_seq <| c_reg <| ow_batch [.p] rfl <| ow_nil <| x_qs <| c_block <| CW.at (loopI3 (fun (l63 : List Timpl_Attr) (F64 : List Nat) (i65 : Int) => St w M0 [Res.own (eList (eTimpl_Attr) 114) F64 l63 [.slice (some ⟨b12, 0, none⟩) l10.length l10.length]]) (fun (l63 : List Timpl_Attr) (F64 : List Nat) (i65 : Int) => [(0, .slice a_0 p0.length c_0), (3, .slice (some ⟨b12, 0, none⟩) l10.length l10.length), (4, .int .i64 i65)]) (fun kk => fun (l63 : List Timpl_Attr) (F64 : List Nat) (i65 : Int) => laws_toAttrS_L1 p0 kk l63 i65 = some r) (fun _ _ _ H => ?_) (fun k1 ihk1 l63 F64 i65 H => ?_) Fuel (l10) ([b12]) (0) (H)) (fun _ h => St.sel [0] rfl rfl h) ⟨rfl, rfl, rfl,  trivial⟩
 ·unfold laws_toAttrS_L1 at H
  exact absurd H (by simp)
 ·unfold laws_toAttrS_L1 at H
  refine c_seq <| c_seq <| c_reg <| ow_batch [.p, .p, .lenS 22 177 sl22, .p] rfl <| ow_nil <| x_qs <| cI H rfl (fun H => ?_) (fun H => ?_)
  ·refine c_skip <| x_qs <| c_seq <| c_block <| c_reg <| ow_batch [.p, .p, .p, .p] rfl <| bE H fun e116 h117 H => ow_ixB rfl rfl rfl rfl rfl sl22 ty177 rfl g0 h117 fun q120 c121 hd118 hA119 => ?_
   obtain ⟨c122, c123, c124, rfl, g125, g126, g127⟩ := rdo_Tlaws_Attr hd118
   obtain rfl : c122 = [vS e116.Name_] := g125
   obtain ⟨a128, c129, rfl⟩ := rd_sl1 g126
   obtain ⟨a130, c131, rfl⟩ := rd_sl1 g127
   refine o1 rfl (ry_load (cs := [vS e116.Name_, .slice a128 e116.Cuts_.length c129, .slice a130 e116.Values_.length c131]) rfl rfl ty177 (at_bor bor hA119) rfl) <| bE H fun y132 h133 H => ow_callS rfl fn130 rfl rfl rfl rfl (fun w1 hw1 => laws_toAttr_ok w1 (cs0 := [vS e116.Name_, .slice a128 e116.Cuts_.length c129, .slice a130 e116.Values_.length c131]) h133 (hw1.carve [] rfl rfl) (rdm_Tlaws_Attr (x := e116) (c0 := [vS e116.Name_]) (c1 := [.slice a128 e116.Cuts_.length c129]) (c2 := [.slice a130 e116.Values_.length c131]) rfl (rds_bor g126 w1 hw1) (rds_bor g127 w1 hw1))) fun v134 w1 w2 hw1 hR136 => ?_
   obtain ⟨a137, n138, c139, F140, a141, n142, c143, F144, rfl, hS135⟩ := hR136
   obtain rfl := own_nS (i := 0) hS135 rfl
   obtain rfl := own_nS (i := 1) hS135 rfl
   refine ⟨St w M0 [_, _, _], hw1.comp [] rfl rfl hS135, fun _ _ => trivial, ?_⟩
   refine bE H fun e145 h146 H => ow_ex4 rfl (fun w1 hw1 => foc (r := 0) hw1 rfl h146) fun b148 G149 F150 c151 => ow_fact rfl (fun w1 hw1 => hw1.1) fun q147 => ?_
   obtain ⟨ha152, hn153⟩ := q147
   refine ow_st (C' := St w M0 [_, _, _, _, _]) rfl (fun w1 hw1 => hw1.2) <| ow_ex3 rfl (fun w1 hw1 => opn_Timpl_Attr (i := 4) hw1 rfl) fun a155 c156 F157 => ow_ex3 rfl (fun _ h => h) fun a158 c159 F160 => ow_fact rfl (fun w1 hw1 => hw1.1) fun q154 => ?_
   subst q154
   refine ow_st (C' := St w M0 [_, _, _, _, _, _, _]) rfl (fun w1 hw1 => hw1.2) <| ow_ixH rfl rfl rfl rfl rfl sl33 ty114 rfl (holeIn (p := 3) rfl) hn153 ha152 (idx_some h146).1 <| ow_storeH (off := 0) [vS y132.Name_, .slice a137 y132.Cuts_.length c139, .slice a141 y132.Values_.length c143] (p := 3) (c' := [_, _, _]) rfl rfl rfl rfl rfl (by first | rfl | simp only [add_lit, add_add, add_zero]) rfl ty114 rfl rfl (by intro u hu; simp only [List.mem_cons, List.not_mem_nil, or_false] at hu; rcases hu with rfl | rfl | rfl <;> rfl) rfl rfl rfl kp <| ow_nil <| x_qb <| x_qs <| CW.weak (C' := St w M0 [_, _, _, _, _]) ?_ (fun _ h => St.sel [1, 2, 3, 5, 6] rfl rfl h)
   exact c_reg <| ow_batch [.p, .p, .p] rfl <| ow_nil <| xw_ex (fun w1 hw1 => fus_Timpl_Attr (x0 := y132.Name_) [0, 1] hw1 rfl rfl) fun F161 => xw_st (C' := St w M0 [_, _, _, _, _, _]) (fun _ h => h) <| xw_ex (fun w1 hw1 => unf (p := 2) (q := 5) hw1 rfl rfl rfl hn153 ha152) fun F162 => xw_st (C' := St w M0 [_, _, _, _, _, _, _]) (fun _ h => h) <| x_ql (RW.at (ihk1 ((l63.set i65.toNat y132)) (F162) (IntKind.i64.wrap (i65 + 1)) (H)) (fun _ h => St.sel [6] rfl rfl h) ⟨rfl, rfl, rfl, trivial⟩)
  ·exact c_exit <| x_qs_exit <| x_ql_exit <| x_qb_here <| x_qs <| c_seq <| c_reg <| ow_batch [.p, .p] rfl <| ow_nil <| x_qs <| c_ret <| x_retR (rs := [.tmp 2]) (vs := [.slice (some ⟨b12, 0, none⟩) l10.length l10.length]) rfl ⟨rfl, trivial⟩ (fun w' hw' => by
    obtain rfl := of_some H
    exact ⟨_, rfl, (some ⟨b12, 0, none⟩), l10.length, l10.length, F64, rfl, hw'.sel [0] rfl rfl⟩)
theorem laws_toSchema_ok (w : World) {M0 : List Nat} {p0 : Tlaws_Schema} {cs0 : List Value} {r : Timpl_Schema} (H : laws_toSchema p0 = some r) (HS : St w M0 [] w) (g0 : (eTlaws_Schema).rd w M0 p0 cs0) :
    Calls Tryz.prog 11 #[.agg cs0.toArray] w (fun en w' => ∃ v, en = .returned v ∧ ∃ (a0 : Option Addr), ∃ (n0 : Nat), ∃ (c0 : Nat), ∃ (F0 : List Nat), ∃ (a1 : Option Addr), ∃ (n1 : Nat), ∃ (c1 : Nat), ∃ (F1 : List Nat), v = .agg #[.slice a0 n0 c0, .slice a1 n1 c1] ∧ St w M0 [Res.own (eList (eTimpl_Attr) 114) F0 r.Attrs_ [.slice a0 n0 c0], Res.own (eList (eStr) 9) F1 r.Classes_ [.slice a1 n1 c1]] w') := by
 obtain ⟨c10, c11, rfl, g12, g13⟩ := rdo_Tlaws_Schema g0
 obtain ⟨a14, c15, rfl⟩ := rd_sl1 g12
 obtain ⟨a16, c17, rfl⟩ := rd_sl1 g13
 unfold laws_toSchema at H
 refine f_enter (vs := [.agg #[.slice a14 p0.Attrs_.length c15, .slice a16 p0.Classes_.length c17]]) Tryz.func11 rfl Tryz.ntmps11 rfl (HS) <| c_seq <| c_reg <| ob [.slice a14 p0.Attrs_.length c15, .slice a16 p0.Classes_.length c17] rfl fun b18 => ow_alloc rfl rfl rfl rfl ty35 (fun _ => kp) fun b19 => ow_nil <| x_qs <| c_seq <| c_reg <| ow_alloc rfl rfl rfl rfl ty35 (fun _ => kp) fun b20 => ow_nil <| x_qs <| c_seq <| c_reg <| ow_batch [.fa 25 0 0 fa25_0] rfl <| o1 rfl (r1 0 0 rfl ty22 rfl) <| bE H fun y21 h22 H => ow_callS rfl fn56 rfl rfl rfl rfl (fun w1 hw1 => laws_toAttrS_ok w1  h22 (hw1.carve [] rfl rfl) (rds_bor g12 w1 hw1)) fun v23 w1 w2 hw1 hR25 => ?_
 obtain ⟨a26, n27, c28, F29, rfl, hS24⟩ := hR25
 obtain rfl := own_nS (i := 0) hS24 rfl
 refine ⟨St w M0 [_, _, _, _], hw1.comp [] rfl rfl hS24, fun _ _ => trivial, ?_⟩
 refine ow_batch [.fa 35 0 0 fa35_0] rfl <| sC 0 [.slice a26 y21.length c28] [_, _] 2 rfl ty33 rfl <| ow_nil <| x_qs <| c_seq <| c_reg <| ow_batch [.fa 25 1 1 fa25_1] rfl <| o1 rfl (r1 1 0 rfl ty23 rfl) <| bE H fun y30 h31 H => ow_callS rfl fn57 rfl rfl rfl rfl (fun w1 hw1 => laws_toStringS_ok w1  h31 (hw1.carve [] rfl rfl) (rds_bor g13 w1 hw1)) fun v32 w1 w2 hw1 hR34 => ?_
 obtain ⟨a35, n36, c37, F38, rfl, hS33⟩ := hR34
 obtain rfl := own_nS (i := 0) hS33 rfl
 refine ⟨St w M0 [_, _, _, _, _], hw1.comp [] rfl rfl hS33, fun _ _ => trivial, ?_⟩
 exact ow_batch [.fa 35 1 1 fa35_1] rfl <| sC 1 [.slice a35 y30.length c37] [_, _] 2 rfl ty23 rfl <| ow_nil <| x_qs <| c_seq <| c_reg <| o1 rfl (rx 0 2 [.slice a26 y21.length c28, .slice a35 y30.length c37] rfl ty35 rfl) <| sC 0 [.slice a26 y21.length c28, .slice a35 y30.length c37] [_, _] 1 rfl ty35 rfl <| ow_nil <| x_qs <| c_ret <| x_retR (rs := [.cell 2 35]) (vs := [.agg #[.slice a26 y21.length c28, .slice a35 y30.length c37]]) rfl ⟨⟨_, [.slice a26 y21.length c28, .slice a35 y30.length c37], _, _, _, rfl, ty35, (at_box (T := 35) 0 (boxIn (i := 1) rfl) rfl), rfl, rfl⟩, trivial⟩ (fun w' hw' => by
  obtain rfl := of_some H
  exact ⟨_, rfl, a26, y21.length, c28, F29, a35, y30.length, c37, F38, rfl, hw'.sel [3, 4] rfl rfl⟩)
theorem laws_toRule_ok (w : World) {p0 : Tlaws_Rule}  {r : Timpl_Rule} (H : laws_toRule p0 = some r)   :
    Calls Tryz.prog 23 #[.agg #[.int .i64 p0.Sure_, .int .i64 p0.Tie_, .int .i64 p0.Grace_, .int .i64 p0.Depth_, .int .i64 p0.Nodes_, .int .i64 p0.Units_, .bool p0.Two_]] w (fun en w' => en = .returned (.agg #[.int .i64 r.Sure_, .int .i64 r.Tie_, .int .i64 r.Grace_, .int .i64 r.Depth_, .int .i64 r.Nodes_, .int .i64 r.Units_, .bool r.Two_]) ∧ Ext [] w w') := by
 unfold laws_toRule at H
 refine f_enter (vs := [.agg #[.int .i64 p0.Sure_, .int .i64 p0.Tie_, .int .i64 p0.Grace_, .int .i64 p0.Depth_, .int .i64 p0.Nodes_, .int .i64 p0.Units_, .bool p0.Two_]]) Tryz.func23 rfl Tryz.ntmps23 rfl (St.init w []) <| c_seq <| c_reg <| ob [.int .i64 p0.Sure_, .int .i64 p0.Tie_, .int .i64 p0.Grace_, .int .i64 p0.Depth_, .int .i64 p0.Nodes_, .int .i64 p0.Units_, .bool p0.Two_] rfl fun b10 => ow_alloc rfl rfl rfl rfl ty53 (fun _ => kp) fun b11 => ow_nil <| x_qs <| c_seq <| c_reg <| ow_alloc rfl rfl rfl rfl ty53 (fun _ => kp) fun b12 => ow_nil <| x_qs <| c_seq <| c_reg <| ow_batch [.fa 49 0 0 fa49_0] rfl <| o1 rfl (r1 0 0 rfl ty3 rfl) <| ow_batch [.fa 53 0 0 fa53_0] rfl <| sC 0 [.int .i64 p0.Sure_] [_, _, _, _, _, _, _] 2 rfl ty3 rfl <| ow_nil <| x_qs <| c_seq <| c_reg <| ow_batch [.fa 49 1 1 fa49_1] rfl <| o1 rfl (r1 1 0 rfl ty3 rfl) <| ow_batch [.fa 53 1 1 fa53_1] rfl <| sC 1 [.int .i64 p0.Tie_] [_, _, _, _, _, _, _] 2 rfl ty3 rfl <| ow_nil <| x_qs <| c_seq <| c_reg <| ow_batch [.fa 49 2 2 fa49_2] rfl <| o1 rfl (r1 2 0 rfl ty3 rfl) <| ow_batch [.fa 53 2 2 fa53_2] rfl <| sC 2 [.int .i64 p0.Grace_] [_, _, _, _, _, _, _] 2 rfl ty3 rfl <| ow_nil <| x_qs <| c_seq <| c_reg <| ow_batch [.fa 49 3 3 fa49_3] rfl <| o1 rfl (r1 3 0 rfl ty3 rfl) <| ?_
 refine ow_batch [.fa 53 3 3 fa53_3] rfl <| sC 3 [.int .i64 p0.Depth_] [_, _, _, _, _, _, _] 2 rfl ty3 rfl <| ow_nil <| x_qs <| c_seq <| c_reg <| ow_batch [.fa 49 4 4 fa49_4] rfl <| o1 rfl (r1 4 0 rfl ty3 rfl) <| ow_batch [.fa 53 4 4 fa53_4] rfl <| sC 4 [.int .i64 p0.Nodes_] [_, _, _, _, _, _, _] 2 rfl ty3 rfl <| ow_nil <| x_qs <| c_seq <| c_reg <| ow_batch [.fa 49 5 5 fa49_5] rfl <| o1 rfl (r1 5 0 rfl ty3 rfl) <| ow_batch [.fa 53 5 5 fa53_5] rfl <| sC 5 [.int .i64 p0.Units_] [_, _, _, _, _, _, _] 2 rfl ty3 rfl <| ow_nil <| x_qs <| c_seq <| CW.weak (C' := St w [] [_, _, _]) ?_ (fun _ h => St.sel [0, 1, 2] rfl rfl h)
 exact c_reg <| ow_batch [.fa 49 6 6 fa49_6] rfl <| o1 rfl (r1 6 0 rfl ty4 rfl) <| ow_batch [.fa 53 6 6 fa53_6] rfl <| sC 6 [.bool p0.Two_] [_, _, _, _, _, _, _] 2 rfl ty4 rfl <| ow_nil <| x_qs <| c_seq <| c_reg <| o1 rfl (rx 0 2 [.int .i64 p0.Sure_, .int .i64 p0.Tie_, .int .i64 p0.Grace_, .int .i64 p0.Depth_, .int .i64 p0.Nodes_, .int .i64 p0.Units_, .bool p0.Two_] rfl ty53 rfl) <| sC 0 [.int .i64 p0.Sure_, .int .i64 p0.Tie_, .int .i64 p0.Grace_, .int .i64 p0.Depth_, .int .i64 p0.Nodes_, .int .i64 p0.Units_, .bool p0.Two_] [_, _, _, _, _, _, _] 1 rfl ty53 rfl <| ow_nil <| x_qs <| c_ret <| x_retR (rs := [.cell 2 53]) (vs := [.agg #[.int .i64 p0.Sure_, .int .i64 p0.Tie_, .int .i64 p0.Grace_, .int .i64 p0.Depth_, .int .i64 p0.Nodes_, .int .i64 p0.Units_, .bool p0.Two_]]) rfl ⟨⟨_, [.int .i64 p0.Sure_, .int .i64 p0.Tie_, .int .i64 p0.Grace_, .int .i64 p0.Depth_, .int .i64 p0.Nodes_, .int .i64 p0.Units_, .bool p0.Two_], _, _, _, rfl, ty53, (at_box (T := 53) 0 (boxIn (i := 1) rfl) rfl), rfl, rfl⟩, trivial⟩ (fun w' hw' => by
  obtain rfl := of_some H
  exact ⟨rfl, hw'.ext⟩)
theorem spec_l1In_ok (w : World) {p0 : Int} {p1 : Int} {p2 : Int}  {r : Bool} (H : spec_l1In p0 p1 p2 = some r)   :
    Calls Tryz.prog 88 #[.int .i64 p0, .int .i64 p1, .int .i64 p2] w (fun en w' => en = .returned (.bool r) ∧ Ext [] w w') := by
 unfold spec_l1In at H
 refine f_enter (vs := [.int .i64 p0, .int .i64 p1, .int .i64 p2]) Tryz.func88 rfl Tryz.ntmps88 rfl (St.init w []) <| c_seq <| c_reg <| ow_batch [.p] rfl <| ow_nil <| x_qs <| c_seq <| c_reg <| ow_batch [.p, .p, .p, .p] rfl <| ow_cut [(14, .bool ((decide (p0 ≥ p1)) && (decide (p0 ≤ p2)))), (6, .bool false)] 4 ?_ (fun key => OW.sub (R := [(0, .int .i64 p0), (2, .int .i64 p2), (6, .bool false), (10, .bool (decide (p0 ≥ p1)))]) ?_ (sb rfl))
 ·exact ow_batch [.p] rfl <| ow_nil <| x_qs <| c_ret <| xr 6 rfl (by cases H; exact q1)
 ·generalize (decide (p0 ≥ p1)) = t11 at key ⊢
  cases t11
  ·exact ow_batch [.p, .p, .p, .p] rfl <| OW.sub key (sb rfl)
  ·exact ow_batch [.p, .p, .p] rfl <| ow_batch [.p] rfl <| OW.sub key (sb rfl)
theorem spec_WordOk_ok (w : World) {p0 : List UInt8}  {r : Bool} (H : spec_WordOk p0 = some r)   :
    Calls Tryz.prog 197 #[vS p0] w (fun en w' => en = .returned (.bool r) ∧ Ext [] w w') := by
 unfold spec_WordOk at H
 refine f_enter (vs := [vS p0]) Tryz.func197 rfl Tryz.ntmps197 rfl (St.init w []) <| c_seq <| c_reg <| ow_batch [.p] rfl <| ow_nil <| x_qs <| c_seq <| c_seq <| c_reg <| ow_batch [.p, .lenT 9 st9] rfl <| bE H fun y10 h11 H => oq rfl (qc rfl fn88 (fun w1 hw1 => spec_l1In_ok w1  h11)) tt2 <| ow_batch [.p] rfl <| ow_nil <| x_qs <| cI H rfl (fun H => ?_) (fun H => ?_)
 ·exact c_seq <| c_reg <| ow_batch [.p] rfl <| ow_nil <| x_qs <| c_ret <| x_qs_ret <| xr 2 rfl (by cases H; exact q1)
 ·refine c_skip <| x_qs <| c_seq <| c_seq <| c_reg <| ow_batch [.p] rfl <| ow_nil <| x_qs <| c_block <| CW.at (loopI1 (fun (i20 : Int) => St w [] []) (fun (i20 : Int) => [(0, vS p0), (3, .int .i64 i20)]) (fun kk => fun (i20 : Int) => spec_WordOk_L1 p0 kk i20 = some r) (fun _ H => ?_) (fun k1 ihk1 i20 H => ?_) Fuel (0) (H)) (fun _ h => St.sel [] rfl rfl h) ⟨rfl, rfl,  trivial⟩
  ·unfold spec_WordOk_L1 at H
   exact absurd H (by simp)
  ·unfold spec_WordOk_L1 at H
   refine c_seq <| c_seq <| c_reg <| ow_batch [.p, .p, .lenT 9 st9, .p] rfl <| ow_nil <| x_qs <| cI H rfl (fun H => ?_) (fun H => ?_)
   ·refine c_skip <| x_qs <| c_seq <| c_block <| c_seq <| c_reg <| ow_batch [.p, .p] rfl <| bE H fun b29 h30 H => o1 rfl (ry_sidx (s := p0) rfl rfl rfl st9 h30) <| ow_batch [.p, .p] rfl <| bE H fun u31 hu35 H => ow_cut [(23, .bool u31), (0, vS p0), (3, .int .i64 i20)] 5 ?_ (fun key => OW.sub (R := [(0, vS p0), (3, .int .i64 i20), (18, .bool (decide ((b29.toNat : Int) < 97)))]) ?_ (sb rfl))
    ·refine ow_nil <| x_qs <| cI H rfl (fun H => ?_) (fun H => ?_)
     ·exact c_seq <| c_reg <| ow_batch [.p] rfl <| ow_nil <| x_qs <| c_ret <| x_qb_ret <| x_qs_ret <| x_ql_ret <| x_qb_ret <| x_qs_ret <| xr 2 rfl (by cases H; exact q1)
     ·exact c_skip <| x_qb <| x_qs <| c_reg <| ow_batch [.p, .p, .p] rfl <| ow_nil <| x_ql (RW.at (ihk1 (IntKind.i64.wrap (i20 + 1)) (H)) (fun _ h => St.sel [] rfl rfl h) ⟨rfl, rfl, trivial⟩)
    ·clear H
     have H := hu35
     clear hu35
     generalize (decide ((b29.toNat : Int) < 97)) = t34 at H key ⊢
     cases t34
     ·have H := of_if_f rfl H
      refine ow_batch [.p, .p] rfl <| bE H fun b32 h33 H => o1 rfl (ry_sidx (s := p0) rfl rfl rfl st9 h33) <| ow_batch [.p] rfl <| ow_batch [.p] rfl <| ?_
      obtain rfl := of_some H
      exact OW.sub key (sb rfl)
     ·have H := of_if_t rfl H
      refine ow_batch [.p, .p, .p, .p, .p] rfl ?_
      obtain rfl := of_some H
      exact OW.sub key (sb rfl)
   ·exact c_exit <| x_qs_exit <| x_ql_exit <| x_qb_here <| x_qs <| c_seq <| c_reg <| ow_batch [.p] rfl <| ow_nil <| x_qs <| c_ret <| xr 2 rfl (by cases H; exact q1)
theorem spec_l5Words_ok (w : World) {p0 : List (List UInt8)} {a_0 : Option Addr} {n_0 c_0 : Nat} {r : Bool} (H : spec_l5Words p0 = some r)  (g0 : (eList (eStr) 9).rd w [] p0 [.slice a_0 n_0 c_0]) :
    Calls Tryz.prog 193 #[.slice a_0 n_0 c_0] w (fun en w' => en = .returned (.bool r) ∧ Ext [] w w') := by
 obtain rfl := rd_n g0
 unfold spec_l5Words at H
 refine f_enter (vs := [.slice a_0 p0.length c_0]) Tryz.func193 rfl Tryz.ntmps193 rfl (St.init w []) <| c_seq <| c_reg <| ow_batch [.p] rfl <| ow_nil <| x_qs <| c_seq <| c_seq <| c_reg <| ow_batch [.p] rfl <| ow_nil <| x_qs <| c_block <| CW.at (loopI1 (fun (i30 : Int) => St w [] []) (fun (i30 : Int) => [(0, .slice a_0 p0.length c_0), (3, .int .i64 i30)]) (fun kk => fun (i30 : Int) => spec_l5Words_L1 p0 kk i30 = some r) (fun _ H => ?_) (fun k1 ihk1 i30 H => ?_) Fuel (0) (H)) (fun _ h => St.sel [] rfl rfl h) ⟨rfl, rfl,  trivial⟩
 ·unfold spec_l5Words_L1 at H
  exact absurd H (by simp)
 ·unfold spec_l5Words_L1 at H
  refine c_seq <| c_seq <| c_reg <| ow_batch [.p, .p, .lenS 23 9 sl23, .p] rfl <| ow_nil <| x_qs <| cI H rfl (fun H => ?_) (fun H => ?_)
  ·refine c_skip <| x_qs <| c_seq <| c_block <| c_seq <| c_seq <| c_reg <| ow_batch [.p, .p] rfl <| bE H fun e51 h52 H => ow_ixE (e := eStr) (xs := p0) (j := i30) rfl rfl rfl rfl rfl sl23 ty9 rfl (fun w1 hw1 => rds_bor g0 w1 hw1) h52 (by rw [Nat.mul_one]) <| o1 rfl (ry_load1 rfl rfl ty9 (at_elV (fun w1 hw1 => rds_bor g0 w1 hw1) h52)) <| bE H fun y53 h54 H => oq rfl (qc rfl fn197 (fun w1 hw1 => spec_WordOk_ok w1  h54)) tt2 <| ow_batch [.p] rfl <| ow_nil <| x_qs <| cI H rfl (fun H => ?_) (fun H => ?_)
   ·exact c_seq <| c_reg <| ow_batch [.p] rfl <| ow_nil <| x_qs <| c_ret <| x_qs_ret <| x_qb_ret <| x_qs_ret <| x_ql_ret <| x_qb_ret <| x_qs_ret <| xr 2 rfl (by cases H; exact q1)
   ·refine c_skip <| x_qs <| c_seq <| c_reg <| ow_batch [.p] rfl <| ow_nil <| x_qs <| c_block <| CW.at (loopI1 (fun (i60 : Int) => St w [] []) (fun (i60 : Int) => [(0, .slice a_0 p0.length c_0), (3, .int .i64 i30), (4, .int .i64 i60)]) (fun kk => fun (i60 : Int) => spec_l5Words_L2 i30 p0 (spec_l5Words_L1 p0 k1) kk i60 = some r) (fun _ H => ?_) (fun k2 ihk2 i60 H => ?_) Fuel (0) (H)) (fun _ h => St.sel [] rfl rfl h) ⟨rfl, rfl, rfl,  trivial⟩
    ·unfold spec_l5Words_L2 at H
     exact absurd H (by simp)
    ·unfold spec_l5Words_L2 at H
     refine c_seq <| c_seq <| c_reg <| ow_batch [.p, .p, .p] rfl <| ow_nil <| x_qs <| cI H rfl (fun H => ?_) (fun H => ?_)
     ·refine c_skip <| x_qs <| c_seq <| c_block <| c_seq <| c_regQ mixed (by kernel_rfl) <| ow_batch [.p, .p] rfl <| bE H fun e66 h67 H => ow_ixE (e := eStr) (xs := p0) (j := i30) rfl rfl rfl rfl rfl sl23 ty9 rfl (fun w1 hw1 => rds_bor g0 w1 hw1) h67 (by rw [Nat.mul_one]) <| o1 rfl (ry_load1 rfl rfl ty9 (at_elV (fun w1 hw1 => rds_bor g0 w1 hw1) h67)) <| ow_batch [.p, .p] rfl <| bE H fun e68 h69 H => ow_ixE (e := eStr) (xs := p0) (j := i60) rfl rfl rfl rfl rfl sl23 ty9 rfl (fun w1 hw1 => rds_bor g0 w1 hw1) h69 (by rw [Nat.mul_one]) <| o1 rfl (ry_load1 rfl rfl ty9 (at_elV (fun w1 hw1 => rds_bor g0 w1 hw1) h69)) <| ow_batch [.p] rfl <| ow_nilQ <| x_qs <| cI H rfl (fun H => ?_) (fun H => ?_)
      ·exact c_seq <| c_reg <| ow_batch [.p] rfl <| ow_nil <| x_qs <| c_ret <| x_qb_ret <| x_qs_ret <| x_ql_ret <| x_qb_ret <| x_qb_ret <| x_qs_ret <| x_ql_ret <| x_qb_ret <| x_qs_ret <| xr 2 rfl (by cases H; exact q1)
      ·exact c_skip <| x_qb <| x_qs <| c_reg <| ow_batch [.p, .p, .p] rfl <| ow_nil <| x_ql (RW.at (ihk2 (IntKind.i64.wrap (i60 + 1)) (H)) (fun _ h => St.sel [] rfl rfl h) ⟨rfl, rfl, rfl, trivial⟩)
     ·exact c_exit <| x_qs_exit <| x_ql_exit <| x_qb_here <| x_qb <| x_qs <| c_reg <| ow_batch [.p, .p, .p] rfl <| ow_nil <| x_ql (RW.at (ihk1 (IntKind.i64.wrap (i30 + 1)) (H)) (fun _ h => St.sel [] rfl rfl h) ⟨rfl, rfl, trivial⟩)
  ·exact c_exit <| x_qs_exit <| x_ql_exit <| x_qb_here <| x_qs <| c_seq <| c_reg <| ow_batch [.p] rfl <| ow_nil <| x_qs <| c_ret <| xr 2 rfl (by cases H; exact q1)
theorem spec_AttrOk_ok (w : World) {p0 : Timpl_Attr} {cs0 : List Value} {r : Bool} (H : spec_AttrOk p0 = some r)  (g0 : (eTimpl_Attr).rd w [] p0 cs0) :
    Calls Tryz.prog 126 #[.agg cs0.toArray] w (fun en w' => en = .returned (.bool r) ∧ Ext [] w w') := by
 obtain ⟨c10, c11, c12, rfl, g13, g14, g15⟩ := rdo_Timpl_Attr g0
 obtain rfl : c10 = [vS p0.Name_] := g13
 obtain ⟨a16, c17, rfl⟩ := rd_sl1 g14
 obtain ⟨a18, c19, rfl⟩ := rd_sl1 g15
 unfold spec_AttrOk at H
 refine f_enter (vs := [.agg #[vS p0.Name_, .slice a16 p0.Cuts_.length c17, .slice a18 p0.Values_.length c19]]) Tryz.func126 rfl Tryz.ntmps126 rfl (St.init w []) <| c_seq <| c_reg <| ob [vS p0.Name_, .slice a16 p0.Cuts_.length c17, .slice a18 p0.Values_.length c19] rfl fun b20 => ow_batch [.p] rfl <| ow_nil <| x_qs <| c_seq <| c_seq <| c_reg <| ow_batch [.fa 114 0 0 fa114_0] rfl <| o1 rfl (r1 0 0 rfl ty9 rfl) <| bE H fun y21 h22 H => oq rfl (qc rfl fn197 (fun w1 hw1 => spec_WordOk_ok w1  h22)) tt2 <| ow_batch [.p] rfl <| ow_nil <| x_qs <| cI H rfl (fun H => ?_) (fun H => ?_)
 ·exact c_seq <| c_reg <| ow_batch [.p] rfl <| ow_nil <| x_qs <| c_ret <| x_qs_ret <| xr 2 rfl (by cases H; exact q1)
 ·refine c_skip <| x_qs <| c_seq <| c_seq <| c_reg <| ow_batch [.fa 114 1 1 fa114_1] rfl <| o1 rfl (r1 1 0 rfl ty59 rfl) <| ow_batch [.lenS 59 3 sl59, .p] rfl <| ow_nil <| x_qs <| cI H rfl (fun H => ?_) (fun H => ?_)
  ·refine c_seq <| c_reg <| ow_batch [.fa 114 2 2 fa114_2] rfl <| o1 rfl (r1 2 0 rfl ty23 rfl) <| ow_batch [.lenS 23 9 sl23] rfl <| bE H fun y23 h24 H => oq rfl (qc rfl fn88 (fun w1 hw1 => spec_l1In_ok w1  h24)) tt2 <| ow_batch [.p] rfl <| bE H fun u25 hu29 H => ow_cut [(20, .bool u25), (2, .bool false)] 4 ?_ (fun key => OW.sub (R := [(1, .pointer (some ⟨b20, 0, none⟩)), (2, .bool false), (16, .bool y23)]) ?_ (sb rfl))
   ·exact ow_batch [.p] rfl <| ow_nil <| x_qs <| c_ret <| x_qs_ret <| xr 2 rfl (by cases H; exact q1)
   ·clear H
    have H := hu29
    clear hu29
    generalize y23 = t28 at H key ⊢
    cases t28
    ·have H := of_if_f rfl H
     refine ow_batch [.p, .p, .p, .p] rfl ?_
     obtain rfl := of_some H
     exact OW.sub key (sb rfl)
    ·have H := of_if_t rfl H
     refine ow_batch [.fa 114 2 2 fa114_2] rfl <| o1 rfl (r1 2 0 rfl ty23 rfl) <| bE H fun y26 h27 H => oq rfl (qc rfl fn193 (fun w1 hw1 => spec_l5Words_ok w1  h27 (rds_bor g15 w1 hw1))) tt2 <| ow_batch [.p] rfl <| ?_
     obtain rfl := of_some H
     exact OW.sub key (sb rfl)
  ·refine c_skip <| x_qs <| c_seq <| c_seq <| c_reg <| ow_batch [.fa 114 2 2 fa114_2] rfl <| o1 rfl (r1 2 0 rfl ty23 rfl) <| ow_batch [.lenS 23 9 sl23, .p, .p] rfl <| ow_cut [(30, .bool ((decide ((p0.Values_.length : Int) > 0)) || (decide ((p0.Cuts_.length : Int) > 3)))), (1, .pointer (some ⟨b20, 0, none⟩))] 5 ?_ (fun key => OW.sub (R := [(1, .pointer (some ⟨b20, 0, none⟩)), (25, .bool (decide ((p0.Values_.length : Int) > 0)))]) ?_ (sb rfl))
   ·refine ow_nil <| x_qs <| cI H rfl (fun H => ?_) (fun H => ?_)
    ·exact c_seq <| c_reg <| ow_batch [.p] rfl <| ow_nil <| x_qs <| c_ret <| x_qs_ret <| xr 2 rfl (by cases H; exact q1)
    ·refine c_skip <| x_qs <| c_seq <| c_seq <| c_reg <| ow_batch [.p] rfl <| ow_nil <| x_qs <| c_block <| CW.at (loopI1 (fun (i47 : Int) => St w [] [Res.box b20 114 [vS p0.Name_, .slice a16 p0.Cuts_.length c17, .slice a18 p0.Values_.length c19]]) (fun (i47 : Int) => [(1, .pointer (some ⟨b20, 0, none⟩)), (3, .int .i64 i47)]) (fun kk => fun (i47 : Int) => spec_AttrOk_L1 p0 kk i47 = some r) (fun _ H => ?_) (fun k1 ihk1 i47 H => ?_) Fuel (0) (H)) (fun _ h => St.sel [0] rfl rfl h) ⟨rfl, rfl,  trivial⟩
     ·unfold spec_AttrOk_L1 at H
      exact absurd H (by simp)
     ·unfold spec_AttrOk_L1 at H
      refine c_seq <| c_seq <| c_reg <| ow_batch [.p, .fa 114 1 1 fa114_1] rfl <| o1 rfl (r1 1 0 rfl ty59 rfl) <| ow_batch [.lenS 59 3 sl59, .p] rfl <| ow_nil <| x_qs <| cI H rfl (fun H => ?_) (fun H => ?_)
      ·refine c_skip <| x_qs <| c_seq <| c_block <| c_seq <| c_regQ mixed (by kernel_rfl) <| ow_batch [.fa 114 1 1 fa114_1] rfl <| o1 rfl (r1 1 0 rfl ty59 rfl) <| ow_batch [.p] rfl <| bE H fun e63 h64 H => ow_ixE (e := eVal (Value.int .i64) (fun _ => rfl)) (xs := p0.Cuts_) (j := i47) rfl rfl rfl rfl rfl sl59 ty3 rfl (fun w1 hw1 => rds_bor g14 w1 hw1) h64 (by rw [Nat.mul_one]) <| o1 rfl (ry_load1 rfl rfl ty3 (at_elV (fun w1 hw1 => rds_bor g14 w1 hw1) h64)) <| bE H fun y65 h66 H => oq rfl (qc rfl fn88 (fun w1 hw1 => spec_l1In_ok w1  h66)) tt2 <| ow_batch [.p, .p] rfl <| bE H fun u67 hu76 H => ow_cut [(62, .bool u67), (1, .pointer (some ⟨b20, 0, none⟩)), (3, .int .i64 i47)] 17 ?_ (fun key => OW.sub (R := [(1, .pointer (some ⟨b20, 0, none⟩)), (3, .int .i64 i47), (45, .bool (!y65))]) ?_ (sb rfl))
       ·refine ow_nilQ <| x_qs <| cI H rfl (fun H => ?_) (fun H => ?_)
        ·exact c_seq <| c_reg <| ow_batch [.p] rfl <| ow_nil <| x_qs <| c_ret <| x_qb_ret <| x_qs_ret <| x_ql_ret <| x_qb_ret <| x_qs_ret <| xr 2 rfl (by cases H; exact q1)
        ·exact c_skip <| x_qb <| x_qs <| c_reg <| ow_batch [.p, .p, .p] rfl <| ow_nil <| x_ql (RW.at (ihk1 (IntKind.i64.wrap (i47 + 1)) (H)) (fun _ h => St.sel [0] rfl rfl h) ⟨rfl, rfl, trivial⟩)
       ·clear H
        have H := hu76
        clear hu76
        generalize (!y65) = t75 at H key ⊢
        cases t75
        ·have H := of_if_f rfl H
         refine ow_batch [.p, .p, .p] rfl <| bE H fun u68 hu74 H => ow_cut [(61, .bool u68), (1, .pointer (some ⟨b20, 0, none⟩)), (3, .int .i64 i47), (45, .bool false)] 13 ?_ (fun key => OW.sub (R := [(1, .pointer (some ⟨b20, 0, none⟩)), (3, .int .i64 i47), (45, .bool false), (48, .bool (decide (i47 > 0)))]) ?_ (sb rfl))
         ·refine ow_batch [.p] rfl ?_
          obtain rfl := of_some H
          exact OW.sub key (sb rfl)
         ·clear H
          have H := hu74
          clear hu74
          generalize (decide (i47 > 0)) = t73 at H key ⊢
          cases t73
          ·have H := of_if_f rfl H
           refine ow_batch [.p, .p, .p, .p, .p, .p, .p, .p, .p, .p, .p, .p, .p] rfl ?_
           obtain rfl := of_some H
           exact OW.sub key (sb rfl)
          ·have H := of_if_t rfl H
           refine ow_batch [.fa 114 1 1 fa114_1] rfl <| o1 rfl (r1 1 0 rfl ty59 rfl) <| ow_batch [.p] rfl <| bE H fun e69 h70 H => ow_ixE (e := eVal (Value.int .i64) (fun _ => rfl)) (xs := p0.Cuts_) (j := i47) rfl rfl rfl rfl rfl sl59 ty3 rfl (fun w1 hw1 => rds_bor g14 w1 hw1) h70 (by rw [Nat.mul_one]) <| o1 rfl (ry_load1 rfl rfl ty3 (at_elV (fun w1 hw1 => rds_bor g14 w1 hw1) h70)) <| ow_batch [.fa 114 1 1 fa114_1] rfl <| o1 rfl (r1 1 0 rfl ty59 rfl) <| ow_batch [.p, .p] rfl <| bE H fun e71 h72 H => ow_ixE (e := eVal (Value.int .i64) (fun _ => rfl)) (xs := p0.Cuts_) (j := IntKind.i64.wrap (i47 - 1)) rfl rfl rfl rfl rfl sl59 ty3 rfl (fun w1 hw1 => rds_bor g14 w1 hw1) h72 (by rw [Nat.mul_one]) <| o1 rfl (ry_load1 rfl rfl ty3 (at_elV (fun w1 hw1 => rds_bor g14 w1 hw1) h72)) <| ow_batch [.p] rfl <| ow_batch [.p] rfl <| ?_
           obtain rfl := of_some H
           exact OW.sub key (sb rfl)
        ·have H := of_if_t rfl H
         refine ow_batch [.p, .p, .p, .p, .p, .p, .p, .p, .p, .p, .p, .p, .p, .p, .p, .p, .p] rfl ?_
         obtain rfl := of_some H
         exact OW.sub key (sb rfl)
      ·exact c_exit <| x_qs_exit <| x_ql_exit <| x_qb_here <| x_qs <| c_seq <| c_reg <| ow_batch [.p] rfl <| ow_nil <| x_qs <| c_ret <| xr 2 rfl (by cases H; exact q1)
   ·generalize (decide ((p0.Values_.length : Int) > 0)) = t31 at key ⊢
    cases t31
    ·exact ow_batch [.fa 114 1 1 fa114_1] rfl <| o1 rfl (r1 1 0 rfl ty59 rfl) <| ow_batch [.lenS 59 3 sl59, .p] rfl <| ow_batch [.p] rfl <| OW.sub key (sb rfl)
    ·exact ow_batch [.p, .p, .p, .p, .p] rfl <| OW.sub key (sb rfl)
theorem spec_SchemaOk_ok (w : World) {p0 : Timpl_Schema} {cs0 : List Value} {r : Bool} (H : spec_SchemaOk p0 = some r)  (g0 : (eTimpl_Schema).rd w [] p0 cs0) :
    Calls Tryz.prog 122 #[.agg cs0.toArray] w (fun en w' => en = .returned (.bool r) ∧ Ext [] w w') := by
 obtain ⟨c10, c11, rfl, g12, g13⟩ := rdo_Timpl_Schema g0
 obtain ⟨a14, c15, rfl⟩ := rd_sl1 g12
 obtain ⟨a16, c17, rfl⟩ := rd_sl1 g13
 unfold spec_SchemaOk at H
 refine f_enter (vs := [.agg #[.slice a14 p0.Attrs_.length c15, .slice a16 p0.Classes_.length c17]]) Tryz.func122 rfl Tryz.ntmps122 rfl (St.init w []) <| c_seq <| c_reg <| ob [.slice a14 p0.Attrs_.length c15, .slice a16 p0.Classes_.length c17] rfl fun b18 => ow_batch [.p] rfl <| ow_nil <| x_qs <| c_seq <| c_seq <| c_reg <| ow_batch [.fa 35 0 0 fa35_0] rfl <| o1 rfl (r1 0 0 rfl ty33 rfl) <| ow_batch [.lenS 33 114 sl33] rfl <| bE H fun y19 h20 H => oq rfl (qc rfl fn88 (fun w1 hw1 => spec_l1In_ok w1  h20)) tt2 <| ow_batch [.p, .p] rfl <| bE H fun u21 hu25 H => ow_cut [(16, .bool u21), (1, .pointer (some ⟨b18, 0, none⟩))] 6 ?_ (fun key => OW.sub (R := [(1, .pointer (some ⟨b18, 0, none⟩)), (10, .bool (!y19))]) ?_ (sb rfl))
 ·refine ow_batch [.p] rfl <| bE H fun u26 hu30 H => ow_cut [(22, .bool u26), (1, .pointer (some ⟨b18, 0, none⟩))] 5 ?_ (fun key => OW.sub (R := [(1, .pointer (some ⟨b18, 0, none⟩)), (17, .bool u21)]) ?_ (sb rfl))
  ·refine ow_nil <| x_qs <| cI H rfl (fun H => ?_) (fun H => ?_)
   ·exact c_seq <| c_reg <| ow_batch [.p] rfl <| ow_nil <| x_qs <| c_ret <| x_qs_ret <| xr 2 rfl (by cases H; exact q1)
   ·refine c_skip <| x_qs <| c_seq <| c_seq <| c_reg <| ow_batch [.p] rfl <| ow_nil <| x_qs <| c_block <| CW.at (loopI1 (fun (i149 : Int) => St w [] [Res.box b18 35 [.slice a14 p0.Attrs_.length c15, .slice a16 p0.Classes_.length c17]]) (fun (i149 : Int) => [(1, .pointer (some ⟨b18, 0, none⟩)), (3, .int .i64 i149)]) (fun kk => fun (i149 : Int) => spec_SchemaOk_L1 p0 kk i149 = some r) (fun _ H => ?_) (fun k1 ihk1 i149 H => ?_) Fuel (0) (H)) (fun _ h => St.sel [0] rfl rfl h) ⟨rfl, rfl,  trivial⟩
    ·unfold spec_SchemaOk_L1 at H
     exact absurd H (by simp)
    ·unfold spec_SchemaOk_L1 at H
     refine c_seq <| c_seq <| c_reg <| ow_batch [.p, .fa 35 0 0 fa35_0] rfl <| o1 rfl (r1 0 0 rfl ty33 rfl) <| ow_batch [.lenS 33 114 sl33, .p] rfl <| ow_nil <| x_qs <| cI H rfl (fun H => ?_) (fun H => ?_)
     ·refine c_skip <| x_qs <| c_seq <| c_block <| c_seq <| c_seq <| c_reg <| ow_batch [.fa 35 0 0 fa35_0] rfl <| o1 rfl (r1 0 0 rfl ty33 rfl) <| ow_batch [.p] rfl <| bE H fun e268 h269 H => ow_ixB rfl rfl rfl rfl rfl sl33 ty114 rfl g12 h269 fun q272 c273 hd270 hA271 => ?_
      obtain ⟨c274, c275, c276, rfl, g277, g278, g279⟩ := rdo_Timpl_Attr hd270
      obtain rfl : c274 = [vS e268.Name_] := g277
      obtain ⟨a280, c281, rfl⟩ := rd_sl1 g278
      obtain ⟨a282, c283, rfl⟩ := rd_sl1 g279
      refine o1 rfl (ry_load (cs := [vS e268.Name_, .slice a280 e268.Cuts_.length c281, .slice a282 e268.Values_.length c283]) rfl rfl ty114 (at_bor bor hA271) rfl) <| bE H fun y284 h285 H => oq rfl (qc rfl fn126 (fun w1 hw1 => spec_AttrOk_ok w1 (cs0 := [vS e268.Name_, .slice a280 e268.Cuts_.length c281, .slice a282 e268.Values_.length c283]) h285 (rdm_Timpl_Attr (x := e268) (c0 := [vS e268.Name_]) (c1 := [.slice a280 e268.Cuts_.length c281]) (c2 := [.slice a282 e268.Values_.length c283]) rfl (rds_bor g278 w1 hw1) (rds_bor g279 w1 hw1)))) tt2 <| ow_batch [.p] rfl <| ow_nil <| x_qs <| cI H rfl (fun H => ?_) (fun H => ?_)
      ·exact c_seq <| c_reg <| ow_batch [.p] rfl <| ow_nil <| x_qs <| c_ret <| x_qs_ret <| x_qb_ret <| x_qs_ret <| x_ql_ret <| x_qb_ret <| x_qs_ret <| xr 2 rfl (by cases H; exact q1)
      ·refine c_skip <| x_qs <| c_seq <| c_reg <| ow_batch [.p] rfl <| ow_nil <| x_qs <| c_block <| CW.at (loopI1 (fun (i319 : Int) => St w [] [Res.box b18 35 [.slice a14 p0.Attrs_.length c15, .slice a16 p0.Classes_.length c17]]) (fun (i319 : Int) => [(1, .pointer (some ⟨b18, 0, none⟩)), (3, .int .i64 i149), (4, .int .i64 i319)]) (fun kk => fun (i319 : Int) => spec_SchemaOk_L2 i149 p0 (spec_SchemaOk_L1 p0 k1) kk i319 = some r) (fun _ H => ?_) (fun k2 ihk2 i319 H => ?_) Fuel (0) (H)) (fun _ h => St.sel [0] rfl rfl h) ⟨rfl, rfl, rfl,  trivial⟩
       ·unfold spec_SchemaOk_L2 at H
        exact absurd H (by simp)
       ·unfold spec_SchemaOk_L2 at H
        refine c_seq <| c_seq <| c_reg <| ow_batch [.p, .p, .p] rfl <| ow_nil <| x_qs <| cI H rfl (fun H => ?_) (fun H => ?_)
        ·refine c_skip <| x_qs <| c_seq <| c_block <| c_seq <| c_regQ mixed (by kernel_rfl) <| ow_batch [.fa 35 0 0 fa35_0] rfl <| o1 rfl (r1 0 0 rfl ty33 rfl) <| ow_batch [.p] rfl <| bE H fun e353 h354 H => ow_ixB rfl rfl rfl rfl rfl sl33 ty114 rfl g12 h354 fun q357 c358 hd355 hA356 => ?_
         obtain ⟨c359, c360, c361, rfl, g362, g363, g364⟩ := rdo_Timpl_Attr hd355
         obtain rfl : c359 = [vS e353.Name_] := g362
         obtain ⟨a365, c366, rfl⟩ := rd_sl1 g363
         obtain ⟨a367, c368, rfl⟩ := rd_sl1 g364
         refine ow_batch [.fa 114 0 0 fa114_0] rfl <| o1 rfl (ry_load1 rfl rfl ty9 (at_bor bor (at_K hA356 0 1))) <| ow_batch [.fa 35 0 0 fa35_0] rfl <| o1 rfl (r1 0 0 rfl ty33 rfl) <| ow_batch [.p] rfl <| bE H fun e369 h370 H => ow_ixB rfl rfl rfl rfl rfl sl33 ty114 rfl g12 h370 fun q373 c374 hd371 hA372 => ?_
         obtain ⟨c375, c376, c377, rfl, g378, g379, g380⟩ := rdo_Timpl_Attr hd371
         obtain rfl : c375 = [vS e369.Name_] := g378
         obtain ⟨a381, c382, rfl⟩ := rd_sl1 g379
         obtain ⟨a383, c384, rfl⟩ := rd_sl1 g380
         refine ow_batch [.fa 114 0 0 fa114_0] rfl <| o1 rfl (ry_load1 rfl rfl ty9 (at_bor bor (at_K hA372 0 1))) <| ow_batch [.p] rfl <| ow_nilQ <| x_qs <| cI H rfl (fun H => ?_) (fun H => ?_)
         ·exact c_seq <| c_reg <| ow_batch [.p] rfl <| ow_nil <| x_qs <| c_ret <| x_qb_ret <| x_qs_ret <| x_ql_ret <| x_qb_ret <| x_qb_ret <| x_qs_ret <| x_ql_ret <| x_qb_ret <| x_qs_ret <| xr 2 rfl (by cases H; exact q1)
         ·exact c_skip <| x_qb <| x_qs <| c_reg <| ow_batch [.p, .p, .p] rfl <| ow_nil <| x_ql (RW.at (ihk2 (IntKind.i64.wrap (i319 + 1)) (H)) (fun _ h => St.sel [0] rfl rfl h) ⟨rfl, rfl, rfl, trivial⟩)
        ·exact c_exit <| x_qs_exit <| x_ql_exit <| x_qb_here <| x_qb <| x_qs <| c_reg <| ow_batch [.p, .p, .p] rfl <| ow_nil <| x_ql (RW.at (ihk1 (IntKind.i64.wrap (i149 + 1)) (H)) (fun _ h => St.sel [0] rfl rfl h) ⟨rfl, rfl, trivial⟩)
     ·exact c_exit <| x_qs_exit <| x_ql_exit <| x_qb_here <| x_qs <| c_seq <| c_reg <| ow_batch [.p] rfl <| ow_nil <| x_qs <| c_ret <| xr 2 rfl (by cases H; exact q1)
  ·clear H
   have H := hu30
   clear hu30
   generalize u21 = t29 at H key ⊢
   cases t29
   ·have H := of_if_f rfl H
    refine ow_batch [.fa 35 1 1 fa35_1] rfl <| o1 rfl (r1 1 0 rfl ty23 rfl) <| bE H fun y27 h28 H => oq rfl (qc rfl fn193 (fun w1 hw1 => spec_l5Words_ok w1  h28 (rds_bor g13 w1 hw1))) tt2 <| ow_batch [.p] rfl <| ow_batch [.p] rfl <| ?_
    obtain rfl := of_some H
    exact OW.sub key (sb rfl)
   ·have H := of_if_t rfl H
    refine ow_batch [.p, .p, .p, .p, .p] rfl ?_
    obtain rfl := of_some H
    exact OW.sub key (sb rfl)
 ·clear H
  have H := hu25
  clear hu25
  generalize (!y19) = t24 at H key ⊢
  cases t24
  ·have H := of_if_f rfl H
   refine ow_batch [.fa 35 1 1 fa35_1] rfl <| o1 rfl (r1 1 0 rfl ty23 rfl) <| ow_batch [.lenS 23 9 sl23] rfl <| bE H fun y22 h23 H => oq rfl (qc rfl fn88 (fun w1 hw1 => spec_l1In_ok w1  h23)) tt2 <| ow_batch [.p] rfl <| ow_batch [.p] rfl <| ?_
   obtain rfl := of_some H
   exact OW.sub key (sb rfl)
  ·have H := of_if_t rfl H
   refine ow_batch [.p, .p, .p, .p, .p, .p] rfl ?_
   obtain rfl := of_some H
   exact OW.sub key (sb rfl)
theorem spec_Bins_ok (w : World) {p0 : Timpl_Attr} {cs0 : List Value} {r : Int} (H : spec_Bins p0 = some r)  (g0 : (eTimpl_Attr).rd w [] p0 cs0) :
    Calls Tryz.prog 128 #[.agg cs0.toArray] w (fun en w' => en = .returned (.int .i64 r) ∧ Ext [] w w') := by
 obtain ⟨c10, c11, c12, rfl, g13, g14, g15⟩ := rdo_Timpl_Attr g0
 obtain rfl : c10 = [vS p0.Name_] := g13
 obtain ⟨a16, c17, rfl⟩ := rd_sl1 g14
 obtain ⟨a18, c19, rfl⟩ := rd_sl1 g15
 unfold spec_Bins at H
 refine f_enter (vs := [.agg #[vS p0.Name_, .slice a16 p0.Cuts_.length c17, .slice a18 p0.Values_.length c19]]) Tryz.func128 rfl Tryz.ntmps128 rfl (St.init w []) <| c_seq <| c_reg <| ob [vS p0.Name_, .slice a16 p0.Cuts_.length c17, .slice a18 p0.Values_.length c19] rfl fun b20 => ow_batch [.p] rfl <| ow_nil <| x_qs <| c_seq <| c_seq <| c_reg <| o1 rfl (rx 0 0 [vS p0.Name_, .slice a16 p0.Cuts_.length c17, .slice a18 p0.Values_.length c19] rfl ty114 rfl) <| bE H fun y21 h22 H => oq rfl (qc rfl fn126 (fun w1 hw1 => spec_AttrOk_ok w1 (cs0 := [vS p0.Name_, .slice a16 p0.Cuts_.length c17, .slice a18 p0.Values_.length c19]) h22 (rdm_Timpl_Attr (x := p0) (c0 := [vS p0.Name_]) (c1 := [.slice a16 p0.Cuts_.length c17]) (c2 := [.slice a18 p0.Values_.length c19]) rfl (rds_bor g14 w1 hw1) (rds_bor g15 w1 hw1)))) tt2 <| ow_batch [.p] rfl <| ow_nil <| x_qs <| cI H rfl (fun H => ?_) (fun H => ?_)
 ·exact c_seq <| c_reg <| ow_batch [.p] rfl <| ow_nil <| x_qs <| c_ret <| x_qs_ret <| xr 2 rfl (by cases H; exact q1)
 ·refine c_skip <| x_qs <| c_seq <| c_seq <| c_reg <| ow_batch [.fa 114 1 1 fa114_1] rfl <| o1 rfl (r1 1 0 rfl ty59 rfl) <| ow_batch [.lenS 59 3 sl59, .p] rfl <| ow_nil <| x_qs <| cI H rfl (fun H => ?_) (fun H => ?_)
  ·exact c_seq <| c_reg <| ow_batch [.fa 114 1 1 fa114_1] rfl <| o1 rfl (r1 1 0 rfl ty59 rfl) <| ow_batch [.lenS 59 3 sl59, .p, .p] rfl <| ow_nil <| x_qs <| c_ret <| x_qs_ret <| xr 2 rfl (by cases H; exact q1)
  ·exact c_skip <| x_qs <| c_seq <| c_reg <| ow_batch [.fa 114 2 2 fa114_2] rfl <| o1 rfl (r1 2 0 rfl ty23 rfl) <| ow_batch [.lenS 23 9 sl23, .p] rfl <| ow_nil <| x_qs <| c_ret <| xr 2 rfl (by cases H; exact q1)
theorem spec_AttrsOk_ok (w : World) {p0 : Timpl_Schema} {p1 : List Int} {cs0 : List Value} {a_1 : Option Addr} {n_1 c_1 : Nat} {r : Bool} (H : spec_AttrsOk p0 p1 = some r)  (g0 : (eTimpl_Schema).rd w [] p0 cs0) (g1 : (eList (eVal (Value.int .i64) (fun _ => rfl)) 3).rd w [] p1 [.slice a_1 n_1 c_1]) :
    Calls Tryz.prog 194 #[.agg cs0.toArray, .slice a_1 n_1 c_1] w (fun en w' => en = .returned (.bool r) ∧ Ext [] w w') := by
 obtain ⟨c10, c11, rfl, g12, g13⟩ := rdo_Timpl_Schema g0
 obtain ⟨a14, c15, rfl⟩ := rd_sl1 g12
 obtain ⟨a16, c17, rfl⟩ := rd_sl1 g13
 obtain rfl := rd_n g1
 unfold spec_AttrsOk at H
 refine f_enter (vs := [.agg #[.slice a14 p0.Attrs_.length c15, .slice a16 p0.Classes_.length c17], .slice a_1 p1.length c_1]) Tryz.func194 rfl Tryz.ntmps194 rfl (St.init w []) <| c_seq <| c_reg <| ob [.slice a14 p0.Attrs_.length c15, .slice a16 p0.Classes_.length c17] rfl fun b18 => ow_batch [.p] rfl <| ow_nil <| x_qs <| c_seq <| c_seq <| c_reg <| o1 rfl (rx 0 0 [.slice a14 p0.Attrs_.length c15, .slice a16 p0.Classes_.length c17] rfl ty35 rfl) <| bE H fun y19 h20 H => oq rfl (qc rfl fn122 (fun w1 hw1 => spec_SchemaOk_ok w1 (cs0 := [.slice a14 p0.Attrs_.length c15, .slice a16 p0.Classes_.length c17]) h20 (rdm_Timpl_Schema (x := p0) (c0 := [.slice a14 p0.Attrs_.length c15]) (c1 := [.slice a16 p0.Classes_.length c17]) (rds_bor g12 w1 hw1) (rds_bor g13 w1 hw1)))) tt2 <| ow_batch [.p, .p] rfl <| ow_cut [(13, .bool ((!y19) || ((p1.length : Int) == 0))), (1, .slice a_1 p1.length c_1), (2, .pointer (some ⟨b18, 0, none⟩))] 4 ?_ (fun key => OW.sub (R := [(1, .slice a_1 p1.length c_1), (2, .pointer (some ⟨b18, 0, none⟩)), (9, .bool (!y19))]) ?_ (sb rfl))
 ·refine ow_nil <| x_qs <| cI H rfl (fun H => ?_) (fun H => ?_)
  ·exact c_seq <| c_reg <| ow_batch [.p] rfl <| ow_nil <| x_qs <| c_ret <| x_qs_ret <| xr 4 rfl (by cases H; exact q1)
  ·refine c_skip <| x_qs <| c_seq <| c_seq <| c_reg <| ow_batch [.p] rfl <| ow_nil <| x_qs <| c_block <| CW.at (loopI1 (fun (i38 : Int) => St w [] [Res.box b18 35 [.slice a14 p0.Attrs_.length c15, .slice a16 p0.Classes_.length c17]]) (fun (i38 : Int) => [(1, .slice a_1 p1.length c_1), (2, .pointer (some ⟨b18, 0, none⟩)), (5, .int .i64 i38)]) (fun kk => fun (i38 : Int) => spec_AttrsOk_L1 p1 p0 kk i38 = some r) (fun _ H => ?_) (fun k1 ihk1 i38 H => ?_) Fuel (0) (H)) (fun _ h => St.sel [0] rfl rfl h) ⟨rfl, rfl, rfl,  trivial⟩
   ·unfold spec_AttrsOk_L1 at H
    exact absurd H (by simp)
   ·unfold spec_AttrsOk_L1 at H
    refine c_seq <| c_seq <| c_reg <| ow_batch [.p, .p, .lenS 59 3 sl59, .p] rfl <| ow_nil <| x_qs <| cI H rfl (fun H => ?_) (fun H => ?_)
    ·refine c_skip <| x_qs <| c_seq <| c_block <| c_seq <| c_regQ mixed (by kernel_rfl) <| ow_batch [.p, .p] rfl <| bE H fun e54 h55 H => ow_ixE (e := eVal (Value.int .i64) (fun _ => rfl)) (xs := p1) (j := i38) rfl rfl rfl rfl rfl sl59 ty3 rfl (fun w1 hw1 => rds_bor g1 w1 hw1) h55 (by rw [Nat.mul_one]) <| o1 rfl (ry_load1 rfl rfl ty3 (at_elV (fun w1 hw1 => rds_bor g1 w1 hw1) h55)) <| ow_batch [.fa 35 0 0 fa35_0] rfl <| o1 rfl (r1 0 0 rfl ty33 rfl) <| ow_batch [.lenS 33 114 sl33, .p] rfl <| bE H fun y56 h57 H => oq rfl (qc rfl fn88 (fun w1 hw1 => spec_l1In_ok w1  h57)) tt2 <| ow_batch [.p, .p] rfl <| bE H fun u58 hu67 H => ow_cut [(45, .bool u58), (1, .slice a_1 p1.length c_1), (2, .pointer (some ⟨b18, 0, none⟩)), (5, .int .i64 i38)] 15 ?_ (fun key => OW.sub (R := [(1, .slice a_1 p1.length c_1), (2, .pointer (some ⟨b18, 0, none⟩)), (5, .int .i64 i38), (30, .bool (!y56))]) ?_ (sb rfl))
     ·refine ow_nilQ <| x_qs <| cI H rfl (fun H => ?_) (fun H => ?_)
      ·exact c_seq <| c_reg <| ow_batch [.p] rfl <| ow_nil <| x_qs <| c_ret <| x_qb_ret <| x_qs_ret <| x_ql_ret <| x_qb_ret <| x_qs_ret <| xr 4 rfl (by cases H; exact q1)
      ·exact c_skip <| x_qb <| x_qs <| c_reg <| ow_batch [.p, .p, .p] rfl <| ow_nil <| x_ql (RW.at (ihk1 (IntKind.i64.wrap (i38 + 1)) (H)) (fun _ h => St.sel [0] rfl rfl h) ⟨rfl, rfl, rfl, trivial⟩)
     ·clear H
      have H := hu67
      clear hu67
      generalize (!y56) = t66 at H key ⊢
      cases t66
      ·have H := of_if_f rfl H
       refine ow_batch [.p, .p, .p] rfl <| bE H fun u59 hu65 H => ow_cut [(44, .bool u59), (1, .slice a_1 p1.length c_1), (2, .pointer (some ⟨b18, 0, none⟩)), (5, .int .i64 i38), (30, .bool false)] 11 ?_ (fun key => OW.sub (R := [(1, .slice a_1 p1.length c_1), (2, .pointer (some ⟨b18, 0, none⟩)), (5, .int .i64 i38), (30, .bool false), (33, .bool (decide (i38 > 0)))]) ?_ (sb rfl))
       ·refine ow_batch [.p] rfl ?_
        obtain rfl := of_some H
        exact OW.sub key (sb rfl)
       ·clear H
        have H := hu65
        clear hu65
        generalize (decide (i38 > 0)) = t64 at H key ⊢
        cases t64
        ·have H := of_if_f rfl H
         refine ow_batch [.p, .p, .p, .p, .p, .p, .p, .p, .p, .p, .p] rfl ?_
         obtain rfl := of_some H
         exact OW.sub key (sb rfl)
        ·have H := of_if_t rfl H
         refine ow_batch [.p, .p] rfl <| bE H fun e60 h61 H => ow_ixE (e := eVal (Value.int .i64) (fun _ => rfl)) (xs := p1) (j := i38) rfl rfl rfl rfl rfl sl59 ty3 rfl (fun w1 hw1 => rds_bor g1 w1 hw1) h61 (by rw [Nat.mul_one]) <| o1 rfl (ry_load1 rfl rfl ty3 (at_elV (fun w1 hw1 => rds_bor g1 w1 hw1) h61)) <| ow_batch [.p, .p, .p] rfl <| bE H fun e62 h63 H => ow_ixE (e := eVal (Value.int .i64) (fun _ => rfl)) (xs := p1) (j := IntKind.i64.wrap (i38 - 1)) rfl rfl rfl rfl rfl sl59 ty3 rfl (fun w1 hw1 => rds_bor g1 w1 hw1) h63 (by rw [Nat.mul_one]) <| o1 rfl (ry_load1 rfl rfl ty3 (at_elV (fun w1 hw1 => rds_bor g1 w1 hw1) h63)) <| ow_batch [.p] rfl <| ow_batch [.p] rfl <| ?_
         obtain rfl := of_some H
         exact OW.sub key (sb rfl)
      ·have H := of_if_t rfl H
       refine ow_batch [.p, .p, .p, .p, .p, .p, .p, .p, .p, .p, .p, .p, .p, .p, .p] rfl ?_
       obtain rfl := of_some H
       exact OW.sub key (sb rfl)
    ·exact c_exit <| x_qs_exit <| x_ql_exit <| x_qb_here <| x_qs <| c_seq <| c_reg <| ow_batch [.p] rfl <| ow_nil <| x_qs <| c_ret <| xr 4 rfl (by cases H; exact q1)
 ·generalize (!y19) = t22 at key ⊢
  cases t22
  ·exact ow_batch [.p, .lenS 59 3 sl59, .p] rfl <| ow_batch [.p] rfl <| OW.sub key (sb rfl)
  ·exact ow_batch [.p, .p, .p, .p] rfl <| OW.sub key (sb rfl)
theorem spec_RuleOk_ok (w : World) {p0 : Timpl_Rule}  {r : Bool} (H : spec_RuleOk p0 = some r)   :
    Calls Tryz.prog 74 #[.agg #[.int .i64 p0.Sure_, .int .i64 p0.Tie_, .int .i64 p0.Grace_, .int .i64 p0.Depth_, .int .i64 p0.Nodes_, .int .i64 p0.Units_, .bool p0.Two_]] w (fun en w' => en = .returned (.bool r) ∧ Ext [] w w') := by
 unfold spec_RuleOk at H
 refine f_enter (vs := [.agg #[.int .i64 p0.Sure_, .int .i64 p0.Tie_, .int .i64 p0.Grace_, .int .i64 p0.Depth_, .int .i64 p0.Nodes_, .int .i64 p0.Units_, .bool p0.Two_]]) Tryz.func74 rfl Tryz.ntmps74 rfl (St.init w []) <| c_seq <| c_reg <| ob [.int .i64 p0.Sure_, .int .i64 p0.Tie_, .int .i64 p0.Grace_, .int .i64 p0.Depth_, .int .i64 p0.Nodes_, .int .i64 p0.Units_, .bool p0.Two_] rfl fun b10 => ow_batch [.p] rfl <| ow_nil <| x_qs <| c_seq <| c_reg <| ow_batch [.fa 53 0 0 fa53_0] rfl <| o1 rfl (r1 0 0 rfl ty3 rfl) <| bE H fun y11 h12 H => oq rfl (qc rfl fn88 (fun w1 hw1 => spec_l1In_ok w1  h12)) tt2 <| ow_batch [.p] rfl <| bE H fun u13 hu17 H => ow_cut [(10, .bool u13), (1, .pointer (some ⟨b10, 0, none⟩)), (2, .bool false)] 4 ?_ (fun key => OW.sub (R := [(1, .pointer (some ⟨b10, 0, none⟩)), (2, .bool false), (6, .bool y11)]) ?_ (sb rfl))
 ·refine ow_batch [.p] rfl <| bE H fun u18 hu22 H => ow_cut [(15, .bool u18), (1, .pointer (some ⟨b10, 0, none⟩)), (2, .bool false)] 4 ?_ (fun key => OW.sub (R := [(1, .pointer (some ⟨b10, 0, none⟩)), (2, .bool false), (11, .bool u13)]) ?_ (sb rfl))
  ·refine ow_batch [.p] rfl <| bE H fun u23 hu27 H => ow_cut [(20, .bool u23), (1, .pointer (some ⟨b10, 0, none⟩)), (2, .bool false)] 4 ?_ (fun key => OW.sub (R := [(1, .pointer (some ⟨b10, 0, none⟩)), (2, .bool false), (16, .bool u18)]) ?_ (sb rfl))
   ·refine ow_batch [.p] rfl <| bE H fun u28 hu32 H => ow_cut [(25, .bool u28), (1, .pointer (some ⟨b10, 0, none⟩)), (2, .bool false)] 4 ?_ (fun key => OW.sub (R := [(1, .pointer (some ⟨b10, 0, none⟩)), (2, .bool false), (21, .bool u23)]) ?_ (sb rfl))
    ·refine ow_batch [.p] rfl <| bE H fun u33 hu37 H => ow_cut [(30, .bool u33), (2, .bool false)] 4 ?_ (fun key => OW.sub (R := [(1, .pointer (some ⟨b10, 0, none⟩)), (2, .bool false), (26, .bool u28)]) ?_ (sb rfl))
     ·exact ow_batch [.p] rfl <| ow_nil <| x_qs <| c_ret <| xr 2 rfl (by cases H; exact q1)
     ·clear H
      have H := hu37
      clear hu37
      generalize u28 = t36 at H key ⊢
      cases t36
      ·have H := of_if_f rfl H
       refine ow_batch [.p, .p, .p, .p] rfl ?_
       obtain rfl := of_some H
       exact OW.sub key (sb rfl)
      ·have H := of_if_t rfl H
       refine ow_batch [.fa 53 5 5 fa53_5] rfl <| o1 rfl (r1 5 0 rfl ty3 rfl) <| bE H fun y34 h35 H => oq rfl (qc rfl fn88 (fun w1 hw1 => spec_l1In_ok w1  h35)) tt2 <| ow_batch [.p] rfl <| ?_
       obtain rfl := of_some H
       exact OW.sub key (sb rfl)
    ·clear H
     have H := hu32
     clear hu32
     generalize u23 = t31 at H key ⊢
     cases t31
     ·have H := of_if_f rfl H
      refine ow_batch [.p, .p, .p, .p] rfl ?_
      obtain rfl := of_some H
      exact OW.sub key (sb rfl)
     ·have H := of_if_t rfl H
      refine ow_batch [.fa 53 4 4 fa53_4] rfl <| o1 rfl (r1 4 0 rfl ty3 rfl) <| bE H fun y29 h30 H => oq rfl (qc rfl fn88 (fun w1 hw1 => spec_l1In_ok w1  h30)) tt2 <| ow_batch [.p] rfl <| ?_
      obtain rfl := of_some H
      exact OW.sub key (sb rfl)
   ·clear H
    have H := hu27
    clear hu27
    generalize u18 = t26 at H key ⊢
    cases t26
    ·have H := of_if_f rfl H
     refine ow_batch [.p, .p, .p, .p] rfl ?_
     obtain rfl := of_some H
     exact OW.sub key (sb rfl)
    ·have H := of_if_t rfl H
     refine ow_batch [.fa 53 3 3 fa53_3] rfl <| o1 rfl (r1 3 0 rfl ty3 rfl) <| bE H fun y24 h25 H => oq rfl (qc rfl fn88 (fun w1 hw1 => spec_l1In_ok w1  h25)) tt2 <| ow_batch [.p] rfl <| ?_
     obtain rfl := of_some H
     exact OW.sub key (sb rfl)
  ·clear H
   have H := hu22
   clear hu22
   generalize u13 = t21 at H key ⊢
   cases t21
   ·have H := of_if_f rfl H
    refine ow_batch [.p, .p, .p, .p] rfl ?_
    obtain rfl := of_some H
    exact OW.sub key (sb rfl)
   ·have H := of_if_t rfl H
    refine ow_batch [.fa 53 2 2 fa53_2] rfl <| o1 rfl (r1 2 0 rfl ty3 rfl) <| bE H fun y19 h20 H => oq rfl (qc rfl fn88 (fun w1 hw1 => spec_l1In_ok w1  h20)) tt2 <| ow_batch [.p] rfl <| ?_
    obtain rfl := of_some H
    exact OW.sub key (sb rfl)
 ·clear H
  have H := hu17
  clear hu17
  generalize y11 = t16 at H key ⊢
  cases t16
  ·have H := of_if_f rfl H
   refine ow_batch [.p, .p, .p, .p] rfl ?_
   obtain rfl := of_some H
   exact OW.sub key (sb rfl)
  ·have H := of_if_t rfl H
   refine ow_batch [.fa 53 1 1 fa53_1] rfl <| o1 rfl (r1 1 0 rfl ty3 rfl) <| bE H fun y14 h15 H => oq rfl (qc rfl fn88 (fun w1 hw1 => spec_l1In_ok w1  h15)) tt2 <| ow_batch [.p] rfl <| ?_
   obtain rfl := of_some H
   exact OW.sub key (sb rfl)
theorem spec_StatsNew_ok (w : World) {M0 : List Nat} {p0 : Timpl_Schema} {cs0 : List Value} {r : Timpl_Stats} (H : spec_StatsNew p0 = some r) (HS : St w M0 [] w) (g0 : (eTimpl_Schema).rd w M0 p0 cs0) :
    Calls Tryz.prog 89 #[.agg cs0.toArray] w (fun en w' => ∃ v, en = .returned v ∧ ∃ (a0 : Option Addr), ∃ (n0 : Nat), ∃ (c0 : Nat), ∃ (F0 : List Nat), ∃ (a1 : Option Addr), ∃ (n1 : Nat), ∃ (c1 : Nat), ∃ (F1 : List Nat), v = .agg #[.slice a0 n0 c0, .slice a1 n1 c1] ∧ St w M0 [Res.own (eList (eVal (Value.int .i64) (fun _ => rfl)) 3) F0 r.Totals_ [.slice a0 n0 c0], Res.own (eList (eList (eVal (Value.int .i64) (fun _ => rfl)) 3) 59) F1 r.Cells_ [.slice a1 n1 c1]] w') := by
 obtain ⟨c10, c11, rfl, g12, g13⟩ := rdo_Timpl_Schema g0
 obtain ⟨a14, c15, rfl⟩ := rd_sl1 g12
 obtain ⟨a16, c17, rfl⟩ := rd_sl1 g13
 unfold spec_StatsNew at H
 refine f_enter (vs := [.agg #[.slice a14 p0.Attrs_.length c15, .slice a16 p0.Classes_.length c17]]) Tryz.func89 rfl Tryz.ntmps89 rfl (HS) <| c_seq <| c_reg <| ob [.slice a14 p0.Attrs_.length c15, .slice a16 p0.Classes_.length c17] rfl fun b18 => ow_alloc rfl rfl rfl rfl ty62 (fun _ => kp) fun b19 => ow_nil <| x_qs <| c_seq <| c_seq <| c_reg <| o1 rfl (rx 0 0 [.slice a14 p0.Attrs_.length c15, .slice a16 p0.Classes_.length c17] rfl ty35 rfl) <| bE H fun y20 h21 H => oq rfl (qc rfl fn122 (fun w1 hw1 => spec_SchemaOk_ok w1 (cs0 := [.slice a14 p0.Attrs_.length c15, .slice a16 p0.Classes_.length c17]) h21 (rdm_Timpl_Schema (x := p0) (c0 := [.slice a14 p0.Attrs_.length c15]) (c1 := [.slice a16 p0.Classes_.length c17]) (rds_bor g12 w1 hw1) (rds_bor g13 w1 hw1)))) tt2 <| ow_batch [.p] rfl <| ow_nil <| x_qs <| cI H rfl (fun H => ?_) (fun H => ?_)
 ·exact c_seq <| c_reg <| o1 rfl (ry_build2 [] [.slice none 0 0, .slice none 0 0] rfl rfl ty62 fs62 rfl trivial rfl) <| sC 0 [.slice none 0 0, .slice none 0 0] [_, _] 1 rfl ty62 rfl <| ow_nil <| x_qs <| c_ret <| x_qs_ret <| xw_st (fun _ h => St.pushNil (e := eVal (Value.int .i64) (fun _ => rfl)) (T := 3) h) <| xw_st (fun _ h => St.pushNil (e := eList (eVal (Value.int .i64) (fun _ => rfl)) 3) (T := 59) h) <| x_retR (rs := [.cell 2 62]) (vs := [.agg #[.slice none 0 0, .slice none 0 0]]) rfl ⟨⟨_, [.slice none 0 0, .slice none 0 0], _, _, _, rfl, ty62, (at_box (T := 62) 0 (boxIn (i := 1) rfl) rfl), rfl, rfl⟩, trivial⟩ (fun w' hw' => by
   obtain rfl := of_some H
   exact ⟨_, rfl, none, 0, 0, [], none, 0, 0, [], rfl, hw'.sel [2, 3] rfl rfl⟩)
 ·refine c_skip <| x_qs <| c_seq <| c_reg <| ow_batch [.fa 35 1 1 fa35_1] rfl <| o1 rfl (r1 1 0 rfl ty23 rfl) <| ow_batch [.lenS 23 9 sl23] rfl <| bE H fun l22 h23 H => ow_make (e := eVal (Value.int .i64) (fun _ => rfl)) (zero := (0 : Int)) rfl rfl rfl rfl rfl rfl sl59 ty3 rfl rfl rfl rfl (fun _ => ⟨rfl, rfl⟩) h23 (fun _ => kp) fun b24 => o1 rfl (ry_build2 [(0, [.slice (some ⟨b24, 0, none⟩) l22.length l22.length])] [.slice (some ⟨b24, 0, none⟩) l22.length l22.length, .slice none 0 0] rfl rfl ty62 fs62 rfl ⟨rfl, rfl, Nat.le_of_ble_eq_true rfl,  trivial⟩ rfl) <| ow_alloc rfl rfl rfl rfl ty62 (fun _ => kp) fun b25 => sC 0 [.slice (some ⟨b24, 0, none⟩) l22.length l22.length, .slice none 0 0] [_, _] 3 rfl ty62 rfl <| ow_nil <| x_qs <| c_seq <| c_seq <| c_reg <| ow_batch [.p] rfl <| ow_nil <| x_qs <| c_block <| CW.weak ?_ (fun _ h => St.pushNil (e := eList (eVal (Value.int .i64) (fun _ => rfl)) 3) (T := 59) h)
  refine CW.at (loopI5 (fun (l80 : List (List Int)) (a81 : Option Addr) (c82 : Nat) (F83 : List Nat) (i84 : Int) => St w M0 [Res.box b18 35 [.slice a14 p0.Attrs_.length c15, .slice a16 p0.Classes_.length c17], Res.box b19 62 [.slice none 0 0, .slice none 0 0], Res.box b25 62 [.slice (some ⟨b24, 0, none⟩) l22.length l22.length, .slice a81 l80.length c82], Res.own (eList (eVal (Value.int .i64) (fun _ => rfl)) 3) [b24] l22 [.slice (some ⟨b24, 0, none⟩) l22.length l22.length], Res.own (eList (eList (eVal (Value.int .i64) (fun _ => rfl)) 3) 59) F83 l80 [.slice a81 l80.length c82]]) (fun (l80 : List (List Int)) (a81 : Option Addr) (c82 : Nat) (F83 : List Nat) (i84 : Int) => [(1, .pointer (some ⟨b18, 0, none⟩)), (2, .pointer (some ⟨b19, 0, none⟩)), (3, .pointer (some ⟨b25, 0, none⟩)), (4, .int .i64 i84)]) (fun kk => fun (l80 : List (List Int)) (a81 : Option Addr) (c82 : Nat) (F83 : List Nat) (i84 : Int) => spec_StatsNew_L1 p0 l22 kk l80 i84 = some r) (fun _ _ _ _ _ H => ?_) (fun k1 ihk1 l80 a81 c82 F83 i84 H => ?_) Fuel (([] : List (List Int))) (none) (0) ([]) (0) (H)) (fun _ h => St.sel [0, 1, 3, 2, 4] rfl rfl h) ⟨rfl, rfl, rfl, rfl,  trivial⟩
  ·unfold spec_StatsNew_L1 at H
   exact absurd H (by simp)
  ·unfold spec_StatsNew_L1 at H
   refine c_seq <| c_seq <| c_reg <| ow_batch [.p, .fa 35 0 0 fa35_0] rfl <| o1 rfl (r1 0 0 rfl ty33 rfl) <| ow_batch [.lenS 33 114 sl33, .p] rfl <| ow_nil <| x_qs <| cI H rfl (fun H => ?_) (fun H => ?_)
   ·refine c_skip <| x_qs <| c_seq <| c_block <| c_regHT 14 [(0, true), (1, true), (2, true), (3, true), (4, true), (5, true), (6, true), (8, true), (9, true), (10, true), (7, false), (11, true), (12, false), (13, false)] (St w M0 [Res.box b18 35 [.slice a14 p0.Attrs_.length c15, .slice a16 p0.Classes_.length c17], Res.box b19 62 [.slice none 0 0, .slice none 0 0], Res.box b25 62 [.slice (some ⟨b24, 0, none⟩) l22.length l22.length, .slice a81 l80.length c82], Res.own (eList (eVal (Value.int .i64) (fun _ => rfl)) 3) [b24] l22 [.slice (some ⟨b24, 0, none⟩) l22.length l22.length], Res.own (eList (eList (eVal (Value.int .i64) (fun _ => rfl)) 3) 59) F83 l80 [.slice a81 l80.length c82]]) mixed (by kernel_rfl) (panicOk_qb (panicOk_qs (panicOk_ql (panicOk_qb (panicOk_qs panicOk_body))))) (fun _ h => St.mask [true, true, true, true, true] rfl h) <| ow_batch [.fa 62 1 1 fa62_1] rfl <| ow_rH rfl (dstOk_lt rfl) (r1 1 2 rfl ty60 rfl) <| ow_batch [.fa 35 0 0 fa35_0] rfl <| ow_rH rfl (dstOk_lt rfl) (r1 0 0 rfl ty33 rfl) <| ow_batch [.p] rfl <| bE H fun e161 h162 H => ow_ixB rfl rfl rfl rfl rfl sl33 ty114 rfl g12 h162 fun q165 c166 hd163 hA164 => ?_
    obtain ⟨c167, c168, c169, rfl, g170, g171, g172⟩ := rdo_Timpl_Attr hd163
    obtain rfl : c167 = [vS e161.Name_] := g170
    obtain ⟨a173, c174, rfl⟩ := rd_sl1 g171
    obtain ⟨a175, c176, rfl⟩ := rd_sl1 g172
    refine ow_rH rfl (dstOk_lt rfl) (ry_load (cs := [vS e161.Name_, .slice a173 e161.Cuts_.length c174, .slice a175 e161.Values_.length c176]) rfl rfl ty114 (at_bor (fun _ h => h.ext) hA164) rfl) <| ow_batch [.fa 35 1 1 fa35_1] rfl <| ow_rH rfl (dstOk_lt rfl) (r1 1 0 rfl ty23 rfl) <| ow_batch [.lenS 23 9 sl23] rfl <| bE H fun y177 h178 H => oq rfl (qc rfl fn128 (fun w1 hw1 => spec_Bins_ok w1 (cs0 := [vS e161.Name_, .slice a173 e161.Cuts_.length c174, .slice a175 e161.Values_.length c176]) h178 (rdm_Timpl_Attr (x := e161) (c0 := [vS e161.Name_]) (c1 := [.slice a173 e161.Cuts_.length c174]) (c2 := [.slice a175 e161.Values_.length c176]) rfl (rds_bor g171 w1 hw1) (rds_bor g172 w1 hw1)))) (fun _ h => St.mask [true, true, true, true, true] rfl h) <| ow_batch [.p] rfl <| bE H fun l179 h180 H => ow_make (e := eVal (Value.int .i64) (fun _ => rfl)) (zero := (0 : Int)) rfl rfl rfl rfl rfl rfl sl59 ty3 rfl rfl rfl rfl (fun _ => ⟨rfl, rfl⟩) h180 (fun _ => (fun _ h => St.mask [true, true, true, true, true] rfl h)) fun b181 => ow_bslice [(0, [.slice (some ⟨b181, 0, none⟩) l179.length l179.length])] rfl rfl rfl rfl rfl sl60 ty59 rfl rfl ⟨rfl, rfl, Nat.le_of_ble_eq_true rfl,  trivial⟩ [.slice (some ⟨b181, 0, none⟩) l179.length l179.length] rfl (fun _ => (fun _ h => St.mask [true, true, true, true, true] rfl h)) fun b182 => ow_st rfl (fun _ h => lit1 (p := 6) (q := 5) h rfl rfl rfl) <| ow_nilH <| x_qt <| bE H fun l183 h184 H => ow_appM (r := 4) (j := 7) rfl rfl rfl rfl rfl rfl sl60 ty59 rfl rfl rfl rfl rfl rfl rfl h184 (fun _ _ _ => kp) fun a185 c186 F187 => ow_batch [.fa 62 1 1 fa62_1] rfl <| sC 1 [.slice a185 l183.length c186] [_, _] 2 rfl ty60 rfl <| ow_nil <| x_qb <| x_qs <| CW.weak (C' := St w M0 [_, _, _, _, _]) ?_ (fun _ h => St.sel [0, 1, 2, 3, 8] rfl rfl h)
    exact c_reg <| ow_batch [.p, .p, .p] rfl <| ow_nil <| x_ql (RW.at (ihk1 (l183) (a185) (c186) (F187) (IntKind.i64.wrap (i84 + 1)) (H)) (fun _ h => St.sel [0, 1, 2, 3, 4] rfl rfl h) ⟨rfl, rfl, rfl, rfl, trivial⟩)
   ·exact c_exit <| x_qs_exit <| x_ql_exit <| x_qb_here <| x_qs <| c_seq <| c_reg <| o1 rfl (rx 0 2 [.slice (some ⟨b24, 0, none⟩) l22.length l22.length, .slice a81 l80.length c82] rfl ty62 rfl) <| sC 0 [.slice (some ⟨b24, 0, none⟩) l22.length l22.length, .slice a81 l80.length c82] [_, _] 1 rfl ty62 rfl <| ow_nil <| x_qs <| c_ret <| x_retR (rs := [.cell 2 62]) (vs := [.agg #[.slice (some ⟨b24, 0, none⟩) l22.length l22.length, .slice a81 l80.length c82]]) rfl ⟨⟨_, [.slice (some ⟨b24, 0, none⟩) l22.length l22.length, .slice a81 l80.length c82], _, _, _, rfl, ty62, (at_box (T := 62) 0 (boxIn (i := 1) rfl) rfl), rfl, rfl⟩, trivial⟩ (fun w' hw' => by
     obtain rfl := of_some H
     exact ⟨_, rfl, (some ⟨b24, 0, none⟩), l22.length, l22.length, [b24], a81, l80.length, c82, F83, rfl, hw'.sel [3, 4] rfl rfl⟩)
theorem impl_within_ok (w : World) {p0 : Int} {p1 : Int} {p2 : Int}  {r : Bool} (H : impl_within p0 p1 p2 = some r)   :
    Calls Tryz.prog 91 #[.int .i64 p0, .int .i64 p1, .int .i64 p2] w (fun en w' => en = .returned (.bool r) ∧ Ext [] w w') := by
 unfold impl_within at H
 refine f_enter (vs := [.int .i64 p0, .int .i64 p1, .int .i64 p2]) Tryz.func91 rfl Tryz.ntmps91 rfl (St.init w []) <| c_seq <| c_reg <| ow_batch [.p] rfl <| ow_nil <| x_qs <| c_seq <| c_reg <| ow_batch [.p, .p, .p, .p] rfl <| ow_cut [(14, .bool ((decide (p0 ≥ p1)) && (decide (p0 ≤ p2)))), (6, .bool false)] 4 ?_ (fun key => OW.sub (R := [(0, .int .i64 p0), (2, .int .i64 p2), (6, .bool false), (10, .bool (decide (p0 ≥ p1)))]) ?_ (sb rfl))
 ·exact ow_batch [.p] rfl <| ow_nil <| x_qs <| c_ret <| xr 6 rfl (by cases H; exact q1)
 ·generalize (decide (p0 ≥ p1)) = t11 at key ⊢
  cases t11
  ·exact ow_batch [.p, .p, .p, .p] rfl <| OW.sub key (sb rfl)
  ·exact ow_batch [.p, .p, .p] rfl <| ow_batch [.p] rfl <| OW.sub key (sb rfl)
theorem impl_WordOk_ok (w : World) {p0 : List UInt8}  {r : Bool} (H : impl_WordOk p0 = some r)   :
    Calls Tryz.prog 209 #[vS p0] w (fun en w' => en = .returned (.bool r) ∧ Ext [] w w') := by
 unfold impl_WordOk at H
 refine f_enter (vs := [vS p0]) Tryz.func209 rfl Tryz.ntmps209 rfl (St.init w []) <| c_seq <| c_reg <| ow_batch [.p] rfl <| ow_nil <| x_qs <| c_seq <| c_seq <| c_reg <| ow_batch [.p, .lenT 9 st9] rfl <| bE H fun y10 h11 H => oq rfl (qc rfl fn91 (fun w1 hw1 => impl_within_ok w1  h11)) tt2 <| ow_batch [.p] rfl <| ow_nil <| x_qs <| cI H rfl (fun H => ?_) (fun H => ?_)
 ·exact c_seq <| c_reg <| ow_batch [.p] rfl <| ow_nil <| x_qs <| c_ret <| x_qs_ret <| xr 2 rfl (by cases H; exact q1)
 ·refine c_skip <| x_qs <| c_seq <| c_seq <| c_reg <| ow_batch [.p, .lenT 9 st9, .p] rfl <| ow_nil <| x_qs <| c_block <| CW.at (loopI1 (fun (i20 : Int) => St w [] []) (fun (i20 : Int) => [(0, vS p0), (9, .int .i64 (p0.length : Int)), (10, .int .i64 i20)]) (fun kk => fun (i20 : Int) => impl_WordOk_L1 p0 kk i20 = some r) (fun _ H => ?_) (fun k1 ihk1 i20 H => ?_) Fuel (0) (H)) (fun _ h => St.sel [] rfl rfl h) ⟨rfl, rfl, rfl,  trivial⟩
  ·unfold impl_WordOk_L1 at H
   exact absurd H (by simp)
  ·unfold impl_WordOk_L1 at H
   refine c_seq <| c_reg <| ow_batch [.p] rfl <| ow_nil <| x_qs <| c_seq <| cI H rfl (fun H => ?_) (fun H => ?_)
   ·refine c_skip <| x_qs <| c_seq <| c_block <| c_seq <| c_reg <| ow_batch [.p, .p] rfl <| ow_nil <| x_qs <| c_seq <| c_reg <| ow_batch [.p, .p] rfl <| bE H fun b29 h30 H => o1 rfl (ry_sidx (s := p0) rfl rfl rfl st9 h30) <| ow_batch [.p, .p] rfl <| bE H fun u31 hu35 H => ow_cut [(22, .bool u31), (0, vS p0), (9, .int .i64 (p0.length : Int)), (10, .int .i64 i20)] 5 ?_ (fun key => OW.sub (R := [(0, vS p0), (3, .int .i64 i20), (9, .int .i64 (p0.length : Int)), (10, .int .i64 i20), (17, .bool (decide ((b29.toNat : Int) < 97)))]) ?_ (sb rfl))
    ·refine ow_nil <| x_qs <| cI H rfl (fun H => ?_) (fun H => ?_)
     ·exact c_seq <| c_reg <| ow_batch [.p] rfl <| ow_nil <| x_qs <| c_ret <| x_qb_ret <| x_qs_ret <| x_ql_ret <| x_qb_ret <| x_qs_ret <| xr 2 rfl (by cases H; exact q1)
     ·exact c_skip <| x_qb <| x_qs <| c_reg <| ow_batch [.p, .p] rfl <| ow_nil <| x_ql (RW.at (ihk1 (IntKind.i64.wrap (i20 + 1)) (H)) (fun _ h => St.sel [] rfl rfl h) ⟨rfl, rfl, rfl, trivial⟩)
    ·clear H
     have H := hu35
     clear hu35
     generalize (decide ((b29.toNat : Int) < 97)) = t34 at H key ⊢
     cases t34
     ·have H := of_if_f rfl H
      refine ow_batch [.p, .p] rfl <| bE H fun b32 h33 H => o1 rfl (ry_sidx (s := p0) rfl rfl rfl st9 h33) <| ow_batch [.p] rfl <| ow_batch [.p] rfl <| ?_
      obtain rfl := of_some H
      exact OW.sub key (sb rfl)
     ·have H := of_if_t rfl H
      refine ow_batch [.p, .p, .p, .p, .p] rfl ?_
      obtain rfl := of_some H
      exact OW.sub key (sb rfl)
   ·exact c_exit <| x_qs_exit <| x_ql_exit <| x_qb_here <| x_qs <| c_seq <| c_reg <| ow_batch [.p] rfl <| ow_nil <| x_qs <| c_ret <| xr 2 rfl (by cases H; exact q1)
theorem lib_slices_Index___string_string__ok (w : World) {p0 : List (List UInt8)} {p1 : List UInt8} {a_0 : Option Addr} {n_0 c_0 : Nat} {r : Int} (H : lib_slices_Index___string_string_ p0 p1 = some r)  (g0 : (eList (eStr) 9).rd w [] p0 [.slice a_0 n_0 c_0]) :
    Calls Tryz.prog 259 #[.slice a_0 n_0 c_0, vS p1] w (fun en w' => en = .returned (.int .i64 r) ∧ Ext [] w w') := by
 obtain rfl := rd_n g0
 unfold lib_slices_Index___string_string_ at H
 refine f_enter (vs := [.slice a_0 p0.length c_0, vS p1]) Tryz.func259 rfl Tryz.ntmps259 rfl (St.init w []) <| c_seq <| c_reg <| ow_batch [.p] rfl <| ow_nil <| x_qs <| c_seq <| c_seq <| c_reg <| ow_batch [.p, .lenS 23 9 sl23, .p] rfl <| ow_nil <| x_qs <| c_block <| CW.at (loopI1 (fun (i13 : Int) => St w [] []) (fun (i13 : Int) => [(0, .slice a_0 p0.length c_0), (1, vS p1), (7, .int .i64 (p0.length : Int)), (8, .int .i64 i13)]) (fun kk => fun (i13 : Int) => lib_slices_Index___string_string__L1 p0 p1 kk i13 = some r) (fun _ H => ?_) (fun k1 ihk1 i13 H => ?_) Fuel (0) (H)) (fun _ h => St.sel [] rfl rfl h) ⟨rfl, rfl, rfl, rfl,  trivial⟩
 ·unfold lib_slices_Index___string_string__L1 at H
  exact absurd H (by simp)
 ·unfold lib_slices_Index___string_string__L1 at H
  refine c_seq <| c_reg <| ow_batch [.p] rfl <| ow_nil <| x_qs <| c_seq <| cI H rfl (fun H => ?_) (fun H => ?_)
  ·refine c_skip <| x_qs <| c_seq <| c_block <| c_seq <| c_reg <| ow_batch [.p, .p] rfl <| ow_nil <| x_qs <| c_seq <| c_reg <| ow_batch [.p, .p, .p] rfl <| bE H fun e18 h19 H => ow_ixE (e := eStr) (xs := p0) (j := i13) rfl rfl rfl rfl rfl sl23 ty9 rfl (fun w1 hw1 => rds_bor g0 w1 hw1) h19 (by rw [Nat.mul_one]) <| o1 rfl (ry_load1 rfl rfl ty9 (at_elV (fun w1 hw1 => rds_bor g0 w1 hw1) h19)) <| ow_batch [.p] rfl <| ow_nil <| x_qs <| cI H rfl (fun H => ?_) (fun H => ?_)
   ·exact c_seq <| c_reg <| ow_batch [.p, .p] rfl <| ow_nil <| x_qs <| c_ret <| x_qb_ret <| x_qs_ret <| x_ql_ret <| x_qb_ret <| x_qs_ret <| xr 4 rfl (by cases H; exact q1)
   ·exact c_skip <| x_qb <| x_qs <| c_reg <| ow_batch [.p, .p] rfl <| ow_nil <| x_ql (RW.at (ihk1 (IntKind.i64.wrap (i13 + 1)) (H)) (fun _ h => St.sel [] rfl rfl h) ⟨rfl, rfl, rfl, rfl, trivial⟩)
  ·exact c_exit <| x_qs_exit <| x_ql_exit <| x_qb_here <| x_qs <| c_seq <| c_reg <| ow_batch [.p] rfl <| ow_nil <| x_qs <| c_ret <| xr 4 rfl (by cases H; exact q1)
theorem lib_slices_Contains___string_string__ok (w : World) {p0 : List (List UInt8)} {p1 : List UInt8} {a_0 : Option Addr} {n_0 c_0 : Nat} {r : Bool} (H : lib_slices_Contains___string_string_ p0 p1 = some r)  (g0 : (eList (eStr) 9).rd w [] p0 [.slice a_0 n_0 c_0]) :
    Calls Tryz.prog 239 #[.slice a_0 n_0 c_0, vS p1] w (fun en w' => en = .returned (.bool r) ∧ Ext [] w w') := by
 obtain rfl := rd_n g0
 unfold lib_slices_Contains___string_string_ at H
 exact f_enter (vs := [.slice a_0 p0.length c_0, vS p1]) Tryz.func239 rfl Tryz.ntmps239 rfl (St.init w []) <| c_seq <| c_reg <| ow_batch [.p] rfl <| ow_nil <| x_qs <| c_seq <| c_reg <| ow_batch [.p, .p] rfl <| bE H fun y10 h11 H => oq rfl (qc rfl fn259 (fun w1 hw1 => lib_slices_Index___string_string__ok w1  h11 (rds_bor g0 w1 hw1))) tt2 <| ow_batch [.p, .p] rfl <| ow_nil <| x_qs <| c_ret <| xr 4 rfl (by cases H; exact q1)
theorem impl_distinctWords_ok (w : World) {p0 : List (List UInt8)} {a_0 : Option Addr} {n_0 c_0 : Nat} {r : Bool} (H : impl_distinctWords p0 = some r)  (g0 : (eList (eStr) 9).rd w [] p0 [.slice a_0 n_0 c_0]) :
    Calls Tryz.prog 202 #[.slice a_0 n_0 c_0] w (fun en w' => en = .returned (.bool r) ∧ Ext [] w w') := by
 obtain rfl := rd_n g0
 unfold impl_distinctWords at H
 refine f_enter (vs := [.slice a_0 p0.length c_0]) Tryz.func202 rfl Tryz.ntmps202 rfl (St.init w []) <| c_seq <| c_reg <| ow_batch [.p] rfl <| ow_nil <| x_qs <| c_seq <| c_seq <| c_reg <| ow_batch [.p, .lenS 23 9 sl23, .p] rfl <| ow_nil <| x_qs <| c_block <| CW.at (loopI1 (fun (i26 : Int) => St w [] []) (fun (i26 : Int) => [(0, .slice a_0 p0.length c_0), (5, .slice a_0 p0.length c_0), (6, .int .i64 (p0.length : Int)), (7, .int .i64 i26)]) (fun kk => fun (i26 : Int) => impl_distinctWords_L1 p0 kk i26 = some r) (fun _ H => ?_) (fun k1 ihk1 i26 H => ?_) Fuel (0) (H)) (fun _ h => St.sel [] rfl rfl h) ⟨rfl, rfl, rfl, rfl,  trivial⟩
 ·unfold impl_distinctWords_L1 at H
  exact absurd H (by simp)
 ·unfold impl_distinctWords_L1 at H
  refine c_seq <| c_reg <| ow_batch [.p] rfl <| ow_nil <| x_qs <| c_seq <| cI H rfl (fun H => ?_) (fun H => ?_)
  ·refine c_skip <| x_qs <| c_seq <| c_block <| c_seq <| c_reg <| ow_batch [.p] rfl <| bE H fun e43 h44 H => ow_ixE (e := eStr) (xs := p0) (j := i26) rfl rfl rfl rfl rfl sl23 ty9 rfl (fun w1 hw1 => rds_bor g0 w1 hw1) h44 (by rw [Nat.mul_one]) <| o1 rfl (ry_load1 rfl rfl ty9 (at_elV (fun w1 hw1 => rds_bor g0 w1 hw1) h44)) <| ow_batch [.p, .p] rfl <| ow_nil <| x_qs <| c_seq <| c_reg <| ow_batch [.p] rfl <| bE H fun y45 h46 H => oq rfl (qc rfl fn209 (fun w1 hw1 => impl_WordOk_ok w1  h46)) tt2 <| ow_batch [.p, .p] rfl <| bE H fun u47 hu57 H => ow_cut [(21, .bool u47), (0, .slice a_0 p0.length c_0), (5, .slice a_0 p0.length c_0), (6, .int .i64 (p0.length : Int)), (7, .int .i64 i26)] 6 ?_ (fun key => OW.sub (R := [(0, .slice a_0 p0.length c_0), (3, .int .i64 i26), (4, vS e43), (5, .slice a_0 p0.length c_0), (6, .int .i64 (p0.length : Int)), (7, .int .i64 i26), (15, .bool (!y45))]) ?_ (sb rfl))
   ·refine ow_nil <| x_qs <| cI H rfl (fun H => ?_) (fun H => ?_)
    ·exact c_seq <| c_reg <| ow_batch [.p] rfl <| ow_nil <| x_qs <| c_ret <| x_qb_ret <| x_qs_ret <| x_ql_ret <| x_qb_ret <| x_qs_ret <| xr 2 rfl (by cases H; exact q1)
    ·exact c_skip <| x_qb <| x_qs <| c_reg <| ow_batch [.p, .p] rfl <| ow_nil <| x_ql (RW.at (ihk1 (IntKind.i64.wrap (i26 + 1)) (H)) (fun _ h => St.sel [] rfl rfl h) ⟨rfl, rfl, rfl, rfl, trivial⟩)
   ·clear H
    have H := hu57
    clear hu57
    generalize (!y45) = t56 at H key ⊢
    cases t56
    ·have H := of_if_f rfl H
     refine ow_batch [.p, .p] rfl <| bE H fun l48 h49 H => ow_lsub rfl rfl rfl rfl sl23 ty9 rfl rfl rfl h49 g0 fun v51 h50 => ?_
     obtain ⟨a52, c53, rfl⟩ := rd_sl h50
     refine ow_batch [.p] rfl <| bE H fun y54 h55 H => oq rfl (qc rfl fn239 (fun w1 hw1 => lib_slices_Contains___string_string__ok w1  h55 (rds_bor h50 w1 hw1))) tt2 <| ow_batch [.p] rfl <| ?_
     obtain rfl := of_some H
     exact OW.sub key (sb rfl)
    ·have H := of_if_t rfl H
     refine ow_batch [.p, .p, .p, .p, .p, .p] rfl ?_
     obtain rfl := of_some H
     exact OW.sub key (sb rfl)
  ·exact c_exit <| x_qs_exit <| x_ql_exit <| x_qb_here <| x_qs <| c_seq <| c_reg <| ow_batch [.p] rfl <| ow_nil <| x_qs <| c_ret <| xr 2 rfl (by cases H; exact q1)
theorem impl_ascending_ok (w : World) {p0 : List Int} {a_0 : Option Addr} {n_0 c_0 : Nat} {r : Bool} (H : impl_ascending p0 = some r)  (g0 : (eList (eVal (Value.int .i64) (fun _ => rfl)) 3).rd w [] p0 [.slice a_0 n_0 c_0]) :
    Calls Tryz.prog 207 #[.slice a_0 n_0 c_0] w (fun en w' => en = .returned (.bool r) ∧ Ext [] w w') := by
 obtain rfl := rd_n g0
 unfold impl_ascending at H
 refine f_enter (vs := [.slice a_0 p0.length c_0]) Tryz.func207 rfl Tryz.ntmps207 rfl (St.init w []) <| c_seq <| c_reg <| ow_batch [.p] rfl <| ow_nil <| x_qs <| c_seq <| c_seq <| c_reg <| ow_batch [.p] rfl <| ow_nil <| x_qs <| c_block <| CW.at (loopI1 (fun (i15 : Int) => St w [] []) (fun (i15 : Int) => [(0, .slice a_0 p0.length c_0), (3, .int .i64 i15)]) (fun kk => fun (i15 : Int) => impl_ascending_L1 p0 kk i15 = some r) (fun _ H => ?_) (fun k1 ihk1 i15 H => ?_) Fuel (1) (H)) (fun _ h => St.sel [] rfl rfl h) ⟨rfl, rfl,  trivial⟩
 ·unfold impl_ascending_L1 at H
  exact absurd H (by simp)
 ·unfold impl_ascending_L1 at H
  refine c_seq <| c_seq <| c_reg <| ow_batch [.p, .p, .lenS 59 3 sl59, .p] rfl <| ow_nil <| x_qs <| cI H rfl (fun H => ?_) (fun H => ?_)
  ·refine c_skip <| x_qs <| c_seq <| c_block <| c_seq <| c_regQ mixed (by kernel_rfl) <| ow_batch [.p, .p] rfl <| bE H fun e21 h22 H => ow_ixE (e := eVal (Value.int .i64) (fun _ => rfl)) (xs := p0) (j := i15) rfl rfl rfl rfl rfl sl59 ty3 rfl (fun w1 hw1 => rds_bor g0 w1 hw1) h22 (by rw [Nat.mul_one]) <| o1 rfl (ry_load1 rfl rfl ty3 (at_elV (fun w1 hw1 => rds_bor g0 w1 hw1) h22)) <| ow_batch [.p, .p, .p] rfl <| bE H fun e23 h24 H => ow_ixE (e := eVal (Value.int .i64) (fun _ => rfl)) (xs := p0) (j := IntKind.i64.wrap (i15 - 1)) rfl rfl rfl rfl rfl sl59 ty3 rfl (fun w1 hw1 => rds_bor g0 w1 hw1) h24 (by rw [Nat.mul_one]) <| o1 rfl (ry_load1 rfl rfl ty3 (at_elV (fun w1 hw1 => rds_bor g0 w1 hw1) h24)) <| ow_batch [.p] rfl <| ow_nilQ <| x_qs <| cI H rfl (fun H => ?_) (fun H => ?_)
   ·exact c_seq <| c_reg <| ow_batch [.p] rfl <| ow_nil <| x_qs <| c_ret <| x_qb_ret <| x_qs_ret <| x_ql_ret <| x_qb_ret <| x_qs_ret <| xr 2 rfl (by cases H; exact q1)
   ·exact c_skip <| x_qb <| x_qs <| c_reg <| ow_batch [.p, .p, .p] rfl <| ow_nil <| x_ql (RW.at (ihk1 (IntKind.i64.wrap (i15 + 1)) (H)) (fun _ h => St.sel [] rfl rfl h) ⟨rfl, rfl, trivial⟩)
  ·exact c_exit <| x_qs_exit <| x_ql_exit <| x_qb_here <| x_qs <| c_seq <| c_reg <| ow_batch [.p] rfl <| ow_nil <| x_qs <| c_ret <| xr 2 rfl (by cases H; exact q1)
theorem impl_isCut_ok (w : World) {p0 : Int}  {r : Bool} (H : impl_isCut p0 = some r)   :
    Calls Tryz.prog 242 #[.int .i64 p0] w (fun en w' => en = .returned (.bool r) ∧ Ext [] w w') := by
 unfold impl_isCut at H
 exact f_enter (vs := [.int .i64 p0]) Tryz.func242 rfl Tryz.ntmps242 rfl (St.init w []) <| c_seq <| c_reg <| ow_batch [.p] rfl <| ow_nil <| x_qs <| c_seq <| c_reg <| ow_batch [.p] rfl <| bE H fun y10 h11 H => oq rfl (qc rfl fn91 (fun w1 hw1 => impl_within_ok w1  h11)) tt2 <| ow_batch [.p] rfl <| ow_nil <| x_qs <| c_ret <| xr 2 rfl (by cases H; exact q1)
theorem impl_CutsOk_1_ok (w : World) {p0 : Int}  {r : Bool} (H : impl_CutsOk_1 p0 = some r)   :
    Calls Tryz.prog 241 #[.int .i64 p0] w (fun en w' => en = .returned (.bool r) ∧ Ext [] w w') := by
 unfold impl_CutsOk_1 at H
 exact f_enter (vs := [.int .i64 p0]) Tryz.func241 rfl Tryz.ntmps241 rfl (St.init w []) <| c_seq <| c_reg <| ow_batch [.p] rfl <| ow_nil <| x_qs <| c_seq <| c_reg <| ow_batch [.p] rfl <| bE H fun y10 h11 H => oq rfl (qc rfl fn242 (fun w1 hw1 => impl_isCut_ok w1  h11)) tt2 <| ow_batch [.p, .p] rfl <| ow_nil <| x_qs <| c_ret <| xr 2 rfl (by cases H; exact q1)
theorem lib_slices_IndexFunc___int_int___impl_CutsOk_1_ok (w : World) {p0 : List Int} {a_0 : Option Addr} {n_0 c_0 : Nat} {r : Int} (H : lib_slices_IndexFunc___int_int___impl_CutsOk_1 p0 = some r)  (g0 : (eList (eVal (Value.int .i64) (fun _ => rfl)) 3).rd w [] p0 [.slice a_0 n_0 c_0]) :
    Calls Tryz.prog 238 #[.slice a_0 n_0 c_0, .func (.func 241) #[] #[]] w (fun en w' => en = .returned (.int .i64 r) ∧ Ext [] w w') := by
 obtain rfl := rd_n g0
 unfold lib_slices_IndexFunc___int_int___impl_CutsOk_1 at H
 refine f_enter (vs := [.slice a_0 p0.length c_0, .func (.func 241) #[] #[]]) Tryz.func238 rfl Tryz.ntmps238 rfl (St.init w []) <| c_seq <| c_reg <| ow_batch [.p] rfl <| ow_nil <| x_qs <| c_seq <| c_seq <| c_reg <| ow_batch [.p, .lenS 59 3 sl59, .p] rfl <| ow_nil <| x_qs <| c_block <| CW.at (loopI1 (fun (i15 : Int) => St w [] []) (fun (i15 : Int) => [(0, .slice a_0 p0.length c_0), (1, .func (.func 241) #[] #[]), (7, .int .i64 (p0.length : Int)), (8, .int .i64 i15)]) (fun kk => fun (i15 : Int) => lib_slices_IndexFunc___int_int___impl_CutsOk_1_L1 p0 kk i15 = some r) (fun _ H => ?_) (fun k1 ihk1 i15 H => ?_) Fuel (0) (H)) (fun _ h => St.sel [] rfl rfl h) ⟨rfl, rfl, rfl, rfl,  trivial⟩
 ·unfold lib_slices_IndexFunc___int_int___impl_CutsOk_1_L1 at H
  exact absurd H (by simp)
 ·unfold lib_slices_IndexFunc___int_int___impl_CutsOk_1_L1 at H
  refine c_seq <| c_reg <| ow_batch [.p] rfl <| ow_nil <| x_qs <| c_seq <| cI H rfl (fun H => ?_) (fun H => ?_)
  ·refine c_skip <| x_qs <| c_seq <| c_block <| c_seq <| c_reg <| ow_batch [.p, .p] rfl <| ow_nil <| x_qs <| c_seq <| c_reg <| ow_batch [.p, .p, .p] rfl <| bE H fun e21 h22 H => ow_ixE (e := eVal (Value.int .i64) (fun _ => rfl)) (xs := p0) (j := i15) rfl rfl rfl rfl rfl sl59 ty3 rfl (fun w1 hw1 => rds_bor g0 w1 hw1) h22 (by rw [Nat.mul_one]) <| o1 rfl (ry_load1 rfl rfl ty3 (at_elV (fun w1 hw1 => rds_bor g0 w1 hw1) h22)) <| bE H fun y23 h24 H => ow_q rfl rfl (dstOk_lt rfl) (qy_callV (cap := []) rfl fn241 rfl rfl (fun w1 hw1 => impl_CutsOk_1_ok w1  h24)) (fun _ _ => trivial) <| ow_nil <| x_qs <| cI H rfl (fun H => ?_) (fun H => ?_)
   ·exact c_seq <| c_reg <| ow_batch [.p, .p] rfl <| ow_nil <| x_qs <| c_ret <| x_qb_ret <| x_qs_ret <| x_ql_ret <| x_qb_ret <| x_qs_ret <| xr 4 rfl (by cases H; exact q1)
   ·exact c_skip <| x_qb <| x_qs <| c_reg <| ow_batch [.p, .p] rfl <| ow_nil <| x_ql (RW.at (ihk1 (IntKind.i64.wrap (i15 + 1)) (H)) (fun _ h => St.sel [] rfl rfl h) ⟨rfl, rfl, rfl, rfl, trivial⟩)
  ·exact c_exit <| x_qs_exit <| x_ql_exit <| x_qb_here <| x_qs <| c_seq <| c_reg <| ow_batch [.p] rfl <| ow_nil <| x_qs <| c_ret <| xr 4 rfl (by cases H; exact q1)
theorem lib_slices_ContainsFunc___int_int___impl_CutsOk_1_ok (w : World) {p0 : List Int} {a_0 : Option Addr} {n_0 c_0 : Nat} {r : Bool} (H : lib_slices_ContainsFunc___int_int___impl_CutsOk_1 p0 = some r)  (g0 : (eList (eVal (Value.int .i64) (fun _ => rfl)) 3).rd w [] p0 [.slice a_0 n_0 c_0]) :
    Calls Tryz.prog 188 #[.slice a_0 n_0 c_0, .func (.func 241) #[] #[]] w (fun en w' => en = .returned (.bool r) ∧ Ext [] w w') := by
 obtain rfl := rd_n g0
 unfold lib_slices_ContainsFunc___int_int___impl_CutsOk_1 at H
 exact f_enter (vs := [.slice a_0 p0.length c_0, .func (.func 241) #[] #[]]) Tryz.func188 rfl Tryz.ntmps188 rfl (St.init w []) <| c_seq <| c_reg <| ow_batch [.p] rfl <| ow_nil <| x_qs <| c_seq <| c_reg <| ow_batch [.p, .p] rfl <| bE H fun y10 h11 H => oq rfl (qc rfl fn238 (fun w1 hw1 => lib_slices_IndexFunc___int_int___impl_CutsOk_1_ok w1  h11 (rds_bor g0 w1 hw1))) tt2 <| ow_batch [.p, .p] rfl <| ow_nil <| x_qs <| c_ret <| xr 4 rfl (by cases H; exact q1)
theorem impl_CutsOk_ok (w : World) {p0 : List Int} {a_0 : Option Addr} {n_0 c_0 : Nat} {r : Bool} (H : impl_CutsOk p0 = some r)  (g0 : (eList (eVal (Value.int .i64) (fun _ => rfl)) 3).rd w [] p0 [.slice a_0 n_0 c_0]) :
    Calls Tryz.prog 210 #[.slice a_0 n_0 c_0] w (fun en w' => en = .returned (.bool r) ∧ Ext [] w w') := by
 obtain rfl := rd_n g0
 unfold impl_CutsOk at H
 refine f_enter (vs := [.slice a_0 p0.length c_0]) Tryz.func210 rfl Tryz.ntmps210 rfl (St.init w []) <| c_seq <| c_reg <| ow_batch [.p] rfl <| ow_nil <| x_qs <| c_seq <| c_reg <| ow_batch [.p, .lenS 59 3 sl59] rfl <| bE H fun y10 h11 H => oq rfl (qc rfl fn91 (fun w1 hw1 => impl_within_ok w1  h11)) tt2 <| ow_batch [.p] rfl <| bE H fun u12 hu16 H => ow_cut [(9, .bool u12), (0, .slice a_0 p0.length c_0), (2, .bool false)] 3 ?_ (fun key => OW.sub (R := [(0, .slice a_0 p0.length c_0), (2, .bool false), (6, .bool y10)]) ?_ (sb rfl))
 ·refine ow_batch [.p] rfl <| bE H fun u17 hu21 H => ow_cut [(14, .bool u17), (2, .bool false)] 4 ?_ (fun key => OW.sub (R := [(0, .slice a_0 p0.length c_0), (2, .bool false), (10, .bool u12)]) ?_ (sb rfl))
  ·exact ow_batch [.p] rfl <| ow_nil <| x_qs <| c_ret <| xr 2 rfl (by cases H; exact q1)
  ·clear H
   have H := hu21
   clear hu21
   generalize u12 = t20 at H key ⊢
   cases t20
   ·have H := of_if_f rfl H
    refine ow_batch [.p, .p, .p, .p] rfl ?_
    obtain rfl := of_some H
    exact OW.sub key (sb rfl)
   ·have H := of_if_t rfl H
    refine ow_batch [.p] rfl <| bE H fun y18 h19 H => oq rfl (qc rfl fn188 (fun w1 hw1 => lib_slices_ContainsFunc___int_int___impl_CutsOk_1_ok w1  h19 (rds_bor g0 w1 hw1))) tt2 <| ow_batch [.p] rfl <| ow_batch [.p] rfl <| ?_
    obtain rfl := of_some H
    exact OW.sub key (sb rfl)
 ·clear H
  have H := hu16
  clear hu16
  generalize y10 = t15 at H key ⊢
  cases t15
  ·have H := of_if_f rfl H
   refine ow_batch [.p, .p, .p] rfl ?_
   obtain rfl := of_some H
   exact OW.sub key (sb rfl)
  ·have H := of_if_t rfl H
   refine ow_batch [.p] rfl <| bE H fun y13 h14 H => oq rfl (qc rfl fn207 (fun w1 hw1 => impl_ascending_ok w1  h14 (rds_bor g0 w1 hw1))) tt2 <| ow_batch [.p] rfl <| ?_
   obtain rfl := of_some H
   exact OW.sub key (sb rfl)
theorem impl_AttrOk_ok (w : World) {p0 : Timpl_Attr} {cs0 : List Value} {r : Bool} (H : impl_AttrOk p0 = some r)  (g0 : (eTimpl_Attr).rd w [] p0 cs0) :
    Calls Tryz.prog 137 #[.agg cs0.toArray] w (fun en w' => en = .returned (.bool r) ∧ Ext [] w w') := by
 obtain ⟨c10, c11, c12, rfl, g13, g14, g15⟩ := rdo_Timpl_Attr g0
 obtain rfl : c10 = [vS p0.Name_] := g13
 obtain ⟨a16, c17, rfl⟩ := rd_sl1 g14
 obtain ⟨a18, c19, rfl⟩ := rd_sl1 g15
 unfold impl_AttrOk at H
 refine f_enter (vs := [.agg #[vS p0.Name_, .slice a16 p0.Cuts_.length c17, .slice a18 p0.Values_.length c19]]) Tryz.func137 rfl Tryz.ntmps137 rfl (St.init w []) <| c_seq <| c_reg <| ob [vS p0.Name_, .slice a16 p0.Cuts_.length c17, .slice a18 p0.Values_.length c19] rfl fun b20 => ow_batch [.p] rfl <| ow_nil <| x_qs <| c_seq <| c_seq <| c_reg <| ow_batch [.fa 114 0 0 fa114_0] rfl <| o1 rfl (r1 0 0 rfl ty9 rfl) <| bE H fun y21 h22 H => oq rfl (qc rfl fn209 (fun w1 hw1 => impl_WordOk_ok w1  h22)) tt2 <| ow_batch [.p] rfl <| ow_nil <| x_qs <| cI H rfl (fun H => ?_) (fun H => ?_)
 ·exact c_seq <| c_reg <| ow_batch [.p] rfl <| ow_nil <| x_qs <| c_ret <| x_qs_ret <| xr 2 rfl (by cases H; exact q1)
 ·refine c_skip <| x_qs <| c_seq <| c_seq <| c_reg <| ow_batch [.fa 114 1 1 fa114_1] rfl <| o1 rfl (r1 1 0 rfl ty59 rfl) <| ow_batch [.lenS 59 3 sl59, .p] rfl <| ow_nil <| x_qs <| cI H rfl (fun H => ?_) (fun H => ?_)
  ·refine c_seq <| c_reg <| ow_batch [.fa 114 2 2 fa114_2] rfl <| o1 rfl (r1 2 0 rfl ty23 rfl) <| ow_batch [.lenS 23 9 sl23] rfl <| bE H fun y23 h24 H => oq rfl (qc rfl fn91 (fun w1 hw1 => impl_within_ok w1  h24)) tt2 <| ow_batch [.p] rfl <| bE H fun u25 hu29 H => ow_cut [(19, .bool u25), (2, .bool false)] 4 ?_ (fun key => OW.sub (R := [(1, .pointer (some ⟨b20, 0, none⟩)), (2, .bool false), (15, .bool y23)]) ?_ (sb rfl))
   ·exact ow_batch [.p] rfl <| ow_nil <| x_qs <| c_ret <| x_qs_ret <| xr 2 rfl (by cases H; exact q1)
   ·clear H
    have H := hu29
    clear hu29
    generalize y23 = t28 at H key ⊢
    cases t28
    ·have H := of_if_f rfl H
     refine ow_batch [.p, .p, .p, .p] rfl ?_
     obtain rfl := of_some H
     exact OW.sub key (sb rfl)
    ·have H := of_if_t rfl H
     refine ow_batch [.fa 114 2 2 fa114_2] rfl <| o1 rfl (r1 2 0 rfl ty23 rfl) <| bE H fun y26 h27 H => oq rfl (qc rfl fn202 (fun w1 hw1 => impl_distinctWords_ok w1  h27 (rds_bor g15 w1 hw1))) tt2 <| ow_batch [.p] rfl <| ?_
     obtain rfl := of_some H
     exact OW.sub key (sb rfl)
  ·refine c_skip <| x_qs <| c_seq <| c_reg <| ow_batch [.fa 114 2 2 fa114_2] rfl <| o1 rfl (r1 2 0 rfl ty23 rfl) <| ow_batch [.lenS 23 9 sl23, .p, .p] rfl <| bE H fun u30 hu34 H => ow_cut [(28, .bool u30), (2, .bool false)] 4 ?_ (fun key => OW.sub (R := [(1, .pointer (some ⟨b20, 0, none⟩)), (2, .bool false), (24, .bool ((p0.Values_.length : Int) == 0))]) ?_ (sb rfl))
   ·exact ow_batch [.p] rfl <| ow_nil <| x_qs <| c_ret <| xr 2 rfl (by cases H; exact q1)
   ·clear H
    have H := hu34
    clear hu34
    generalize ((p0.Values_.length : Int) == 0) = t33 at H key ⊢
    cases t33
    ·have H := of_if_f rfl H
     refine ow_batch [.p, .p, .p, .p] rfl ?_
     obtain rfl := of_some H
     exact OW.sub key (sb rfl)
    ·have H := of_if_t rfl H
     refine ow_batch [.fa 114 1 1 fa114_1] rfl <| o1 rfl (r1 1 0 rfl ty59 rfl) <| bE H fun y31 h32 H => oq rfl (qc rfl fn210 (fun w1 hw1 => impl_CutsOk_ok w1  h32 (rds_bor g14 w1 hw1))) tt2 <| ow_batch [.p] rfl <| ?_
     obtain rfl := of_some H
     exact OW.sub key (sb rfl)
theorem impl_SchemaOk_ok (w : World) {p0 : Timpl_Schema} {cs0 : List Value} {r : Bool} (H : impl_SchemaOk p0 = some r)  (g0 : (eTimpl_Schema).rd w [] p0 cs0) :
    Calls Tryz.prog 132 #[.agg cs0.toArray] w (fun en w' => en = .returned (.bool r) ∧ Ext [] w w') := by
 obtain ⟨c10, c11, rfl, g12, g13⟩ := rdo_Timpl_Schema g0
 obtain ⟨a14, c15, rfl⟩ := rd_sl1 g12
 obtain ⟨a16, c17, rfl⟩ := rd_sl1 g13
 unfold impl_SchemaOk at H
 refine f_enter (vs := [.agg #[.slice a14 p0.Attrs_.length c15, .slice a16 p0.Classes_.length c17]]) Tryz.func132 rfl Tryz.ntmps132 rfl (St.init w []) <| c_seq <| c_reg <| ob [.slice a14 p0.Attrs_.length c15, .slice a16 p0.Classes_.length c17] rfl fun b18 => ow_batch [.p] rfl <| ow_nil <| x_qs <| c_seq <| c_seq <| c_reg <| ow_batch [.fa 35 0 0 fa35_0] rfl <| o1 rfl (r1 0 0 rfl ty33 rfl) <| ow_batch [.lenS 33 114 sl33] rfl <| bE H fun y19 h20 H => oq rfl (qc rfl fn91 (fun w1 hw1 => impl_within_ok w1  h20)) tt2 <| ow_batch [.p, .p] rfl <| bE H fun u21 hu25 H => ow_cut [(17, .bool u21), (1, .pointer (some ⟨b18, 0, none⟩))] 6 ?_ (fun key => OW.sub (R := [(1, .pointer (some ⟨b18, 0, none⟩)), (11, .bool (!y19))]) ?_ (sb rfl))
 ·refine ow_batch [.p] rfl <| bE H fun u26 hu30 H => ow_cut [(23, .bool u26), (1, .pointer (some ⟨b18, 0, none⟩))] 5 ?_ (fun key => OW.sub (R := [(1, .pointer (some ⟨b18, 0, none⟩)), (18, .bool u21)]) ?_ (sb rfl))
  ·refine ow_nil <| x_qs <| cI H rfl (fun H => ?_) (fun H => ?_)
   ·exact c_seq <| c_reg <| ow_batch [.p] rfl <| ow_nil <| x_qs <| c_ret <| x_qs_ret <| xr 2 rfl (by cases H; exact q1)
   ·refine c_skip <| x_qs <| c_seq <| c_reg <| ow_blit0 (e := eStr) rfl rfl rfl rfl sl23 ty9 (fun _ => kp) fun b31 => ow_batch [.p] rfl <| ow_nil <| x_qs <| c_seq <| c_seq <| c_reg <| ow_batch [.fa 35 0 0 fa35_0] rfl <| o1 rfl (r1 0 0 rfl ty33 rfl) <| ow_batch [.lenS 33 114 sl33, .p] rfl <| ow_nil <| x_qs <| c_block <| CW.at (loopI5 (fun (i65 : Int) (l66 : List (List UInt8)) (a67 : Option Addr) (c68 : Nat) (F69 : List Nat) => St w [] [Res.own (eList (eStr) 9) F69 l66 [.slice a67 l66.length c68]]) (fun (i65 : Int) (l66 : List (List UInt8)) (a67 : Option Addr) (c68 : Nat) (F69 : List Nat) => [(3, .slice a67 l66.length c68), (26, .slice a14 p0.Attrs_.length c15), (27, .int .i64 (p0.Attrs_.length : Int)), (28, .int .i64 i65)]) (fun kk => fun (i65 : Int) (l66 : List (List UInt8)) (a67 : Option Addr) (c68 : Nat) (F69 : List Nat) => a67.isNone = false ∧ impl_SchemaOk_L1 p0 kk i65 l66 = some r) (fun _ _ _ _ _ H => ?_) (fun k1 ihk1 i65 l66 a67 c68 F69 ⟨hz70, H⟩ => ?_) Fuel (0) (([] : List (List UInt8))) ((some ⟨b31, 0, none⟩)) (0) ([b31]) (⟨rfl, H⟩)) (fun _ h => St.sel [1] rfl rfl h) ⟨rfl, rfl, rfl, rfl,  trivial⟩
    ·unfold impl_SchemaOk_L1 at H
     exact absurd H (by simp)
    ·unfold impl_SchemaOk_L1 at H
     refine c_seq <| c_reg <| ow_batch [.p] rfl <| ow_nil <| x_qs <| c_seq <| cI H rfl (fun H => ?_) (fun H => ?_)
     ·refine c_skip <| x_qs <| c_seq <| c_block <| c_seq <| c_reg <| bE H fun e103 h104 H => ow_ixB rfl rfl rfl rfl rfl sl33 ty114 rfl g12 h104 fun q107 c108 hd105 hA106 => ?_
      obtain ⟨c109, c110, c111, rfl, g112, g113, g114⟩ := rdo_Timpl_Attr hd105
      obtain rfl : c109 = [vS e103.Name_] := g112
      obtain ⟨a115, c116, rfl⟩ := rd_sl1 g113
      obtain ⟨a117, c118, rfl⟩ := rd_sl1 g114
      refine o1 rfl (ry_load (cs := [vS e103.Name_, .slice a115 e103.Cuts_.length c116, .slice a117 e103.Values_.length c118]) rfl rfl ty114 (at_bor bor hA106) rfl) <| ow_alloc rfl rfl rfl rfl ty114 (fun _ => kp) fun b119 => sC 0 [vS e103.Name_, .slice a115 e103.Cuts_.length c116, .slice a117 e103.Values_.length c118] [_, _, _] 1 rfl ty114 rfl <| ow_nil <| x_qs <| c_seq <| c_seq <| c_reg <| o1 rfl (rx 0 1 [vS e103.Name_, .slice a115 e103.Cuts_.length c116, .slice a117 e103.Values_.length c118] rfl ty114 rfl) <| bE H fun y120 h121 H => oq rfl (qc rfl fn137 (fun w1 hw1 => impl_AttrOk_ok w1 (cs0 := [vS e103.Name_, .slice a115 e103.Cuts_.length c116, .slice a117 e103.Values_.length c118]) h121 (rdm_Timpl_Attr (x := e103) (c0 := [vS e103.Name_]) (c1 := [.slice a115 e103.Cuts_.length c116]) (c2 := [.slice a117 e103.Values_.length c118]) rfl (rds_bor g113 w1 hw1) (rds_bor g114 w1 hw1)))) tt2 <| ow_batch [.p] rfl <| ow_nil <| x_qs <| cI H rfl (fun H => ?_) (fun H => ?_)
      ·exact c_seq <| c_reg <| ow_batch [.p] rfl <| ow_nil <| x_qs <| c_ret <| x_qs_ret <| x_qb_ret <| x_qs_ret <| x_ql_ret <| x_qb_ret <| x_qs_ret <| xr 2 rfl (by cases H; exact q1)
      ·exact c_skip <| x_qs <| c_reg <| ow_batch [.p, .fa 114 0 0 fa114_0] rfl <| o1 rfl (r1 0 1 rfl ty9 rfl) <| ow_blit (val := vS) (h1 := fun _ => rfl) [e103.Name_] [(0, [vS e103.Name_])] rfl rfl rfl rfl rfl sl23 ty9 rfl rfl rfl ⟨rfl, rfl, Nat.le_of_ble_eq_true rfl,  trivial⟩ rfl rfl (fun _ => kp) fun b122 => bE H fun l123 h124 H => ow_appR (r := 0) (ys := ([e103.Name_] : List (List UInt8))) rfl rfl rfl rfl rfl rfl sl23 ty9 rfl rfl rfl (fun w1 hw1 => rds_own (e := eList (eStr) 9) (r := 2) rfl w1 hw1) h124 (fun _ _ _ => kp) fun a125 c126 F127 => ow_fact rfl (fun w1 hw1 => own_nn (i := 0) hw1 rfl (app_ne h124)) fun hz128 => ow_batch [.p] rfl <| ow_nil <| x_qb <| x_qs <| c_reg <| ow_batch [.p, .p] rfl <| ow_nil <| x_ql (RW.at (ihk1 (IntKind.i64.wrap (i65 + 1)) (l123) (a125) (c126) (F127) (⟨hz128, H⟩)) (fun _ h => St.sel [0] rfl rfl h) ⟨rfl, rfl, rfl, rfl, trivial⟩)
     ·exact c_exit <| x_qs_exit <| x_ql_exit <| x_qb_here <| x_qs <| c_seq <| c_reg <| ow_batch [.p] rfl <| bE H fun y129 h130 H => oq rfl (qc rfl fn202 (fun w1 hw1 => impl_distinctWords_ok w1  h130 (rds_own (e := eList (eStr) 9) (r := 0) rfl w1 hw1))) tt2 <| ow_batch [.p] rfl <| ow_nil <| x_qs <| c_ret <| xr 2 rfl (by cases H; exact q1)
  ·clear H
   have H := hu30
   clear hu30
   generalize u21 = t29 at H key ⊢
   cases t29
   ·have H := of_if_f rfl H
    refine ow_batch [.fa 35 1 1 fa35_1] rfl <| o1 rfl (r1 1 0 rfl ty23 rfl) <| bE H fun y27 h28 H => oq rfl (qc rfl fn202 (fun w1 hw1 => impl_distinctWords_ok w1  h28 (rds_bor g13 w1 hw1))) tt2 <| ow_batch [.p] rfl <| ow_batch [.p] rfl <| ?_
    obtain rfl := of_some H
    exact OW.sub key (sb rfl)
   ·have H := of_if_t rfl H
    refine ow_batch [.p, .p, .p, .p, .p] rfl ?_
    obtain rfl := of_some H
    exact OW.sub key (sb rfl)
 ·clear H
  have H := hu25
  clear hu25
  generalize (!y19) = t24 at H key ⊢
  cases t24
  ·have H := of_if_f rfl H
   refine ow_batch [.fa 35 1 1 fa35_1] rfl <| o1 rfl (r1 1 0 rfl ty23 rfl) <| ow_batch [.lenS 23 9 sl23] rfl <| bE H fun y22 h23 H => oq rfl (qc rfl fn91 (fun w1 hw1 => impl_within_ok w1  h23)) tt2 <| ow_batch [.p] rfl <| ow_batch [.p] rfl <| ?_
   obtain rfl := of_some H
   exact OW.sub key (sb rfl)
  ·have H := of_if_t rfl H
   refine ow_batch [.p, .p, .p, .p, .p, .p] rfl ?_
   obtain rfl := of_some H
   exact OW.sub key (sb rfl)
theorem impl_bins_ok (w : World) {p0 : Timpl_Attr} {cs0 : List Value} {r : Int} (H : impl_bins p0 = some r)  (g0 : (eTimpl_Attr).rd w [] p0 cs0) :
    Calls Tryz.prog 138 #[.agg cs0.toArray] w (fun en w' => en = .returned (.int .i64 r) ∧ Ext [] w w') := by
 obtain ⟨c10, c11, c12, rfl, g13, g14, g15⟩ := rdo_Timpl_Attr g0
 obtain rfl : c10 = [vS p0.Name_] := g13
 obtain ⟨a16, c17, rfl⟩ := rd_sl1 g14
 obtain ⟨a18, c19, rfl⟩ := rd_sl1 g15
 unfold impl_bins at H
 refine f_enter (vs := [.agg #[vS p0.Name_, .slice a16 p0.Cuts_.length c17, .slice a18 p0.Values_.length c19]]) Tryz.func138 rfl Tryz.ntmps138 rfl (St.init w []) <| c_seq <| c_reg <| ob [vS p0.Name_, .slice a16 p0.Cuts_.length c17, .slice a18 p0.Values_.length c19] rfl fun b20 => ow_batch [.p] rfl <| ow_nil <| x_qs <| c_seq <| c_seq <| c_reg <| ow_batch [.fa 114 1 1 fa114_1] rfl <| o1 rfl (r1 1 0 rfl ty59 rfl) <| ow_batch [.lenS 59 3 sl59, .p] rfl <| ow_nil <| x_qs <| cI H rfl (fun H => ?_) (fun H => ?_)
 ·exact c_seq <| c_reg <| ow_batch [.fa 114 1 1 fa114_1] rfl <| o1 rfl (r1 1 0 rfl ty59 rfl) <| ow_batch [.lenS 59 3 sl59, .p, .p] rfl <| ow_nil <| x_qs <| c_ret <| x_qs_ret <| xr 2 rfl (by cases H; exact q1)
 ·exact c_skip <| x_qs <| c_seq <| c_reg <| ow_batch [.fa 114 2 2 fa114_2] rfl <| o1 rfl (r1 2 0 rfl ty23 rfl) <| ow_batch [.lenS 23 9 sl23, .p] rfl <| ow_nil <| x_qs <| c_ret <| xr 2 rfl (by cases H; exact q1)
theorem impl_zeros_ok (w : World) {M0 : List Nat} {p0 : Int}  {r : List Int} (H : impl_zeros p0 = some r) (HS : St w M0 [] w)  :
    Calls Tryz.prog 168 #[.int .i64 p0] w (fun en w' => ∃ v, en = .returned v ∧ ∃ (a0 : Option Addr), ∃ (n0 : Nat), ∃ (c0 : Nat), ∃ (F0 : List Nat), v = .slice a0 n0 c0 ∧ St w M0 [Res.own (eList (eVal (Value.int .i64) (fun _ => rfl)) 3) F0 r [.slice a0 n0 c0]] w') := by
 unfold impl_zeros at H
 exact f_enter (vs := [.int .i64 p0]) Tryz.func168 rfl Tryz.ntmps168 rfl (HS) <| c_seq <| c_reg <| ow_batch [.p] rfl <| ow_nil <| x_qs <| c_seq <| c_reg <| ow_batch [.p] rfl <| bE H fun l10 h11 H => ow_make (e := eVal (Value.int .i64) (fun _ => rfl)) (zero := (0 : Int)) rfl rfl rfl rfl rfl rfl sl59 ty3 rfl rfl rfl rfl (fun _ => ⟨rfl, rfl⟩) h11 (fun _ => kp) fun b12 => ow_batch [.p] rfl <| ow_nil <| x_qs <| c_ret <| x_retR (rs := [.tmp 2]) (vs := [.slice (some ⟨b12, 0, none⟩) l10.length l10.length]) rfl ⟨rfl, trivial⟩ (fun w' hw' => by
  obtain rfl := of_some H
  exact ⟨_, rfl, (some ⟨b12, 0, none⟩), l10.length, l10.length, [b12], rfl, hw'.sel [0] rfl rfl⟩)
theorem impl_AttrsOk_ok (w : World) {p0 : Timpl_Schema} {p1 : List Int} {cs0 : List Value} {a_1 : Option Addr} {n_1 c_1 : Nat} {r : Bool} (H : impl_AttrsOk p0 p1 = some r)  (g0 : (eTimpl_Schema).rd w [] p0 cs0) (g1 : (eList (eVal (Value.int .i64) (fun _ => rfl)) 3).rd w [] p1 [.slice a_1 n_1 c_1]) :
    Calls Tryz.prog 204 #[.agg cs0.toArray, .slice a_1 n_1 c_1] w (fun en w' => en = .returned (.bool r) ∧ Ext [] w w') := by
 obtain ⟨c10, c11, rfl, g12, g13⟩ := rdo_Timpl_Schema g0
 obtain ⟨a14, c15, rfl⟩ := rd_sl1 g12
 obtain ⟨a16, c17, rfl⟩ := rd_sl1 g13
 obtain rfl := rd_n g1
 unfold impl_AttrsOk at H
 refine f_enter (vs := [.agg #[.slice a14 p0.Attrs_.length c15, .slice a16 p0.Classes_.length c17], .slice a_1 p1.length c_1]) Tryz.func204 rfl Tryz.ntmps204 rfl (St.init w []) <| c_seq <| c_reg <| ob [.slice a14 p0.Attrs_.length c15, .slice a16 p0.Classes_.length c17] rfl fun b18 => ow_batch [.p] rfl <| ow_nil <| x_qs <| c_seq <| c_regQ mixed (by kernel_rfl) <| o1 rfl (rx 0 0 [.slice a14 p0.Attrs_.length c15, .slice a16 p0.Classes_.length c17] rfl ty35 rfl) <| bE H fun y19 h20 H => oq rfl (qc rfl fn132 (fun w1 hw1 => impl_SchemaOk_ok w1 (cs0 := [.slice a14 p0.Attrs_.length c15, .slice a16 p0.Classes_.length c17]) h20 (rdm_Timpl_Schema (x := p0) (c0 := [.slice a14 p0.Attrs_.length c15]) (c1 := [.slice a16 p0.Classes_.length c17]) (rds_bor g12 w1 hw1) (rds_bor g13 w1 hw1)))) tt2 <| ow_batch [.p] rfl <| ow_cut [(11, .bool (y19 && (decide ((p1.length : Int) > 0)))), (1, .slice a_1 p1.length c_1), (2, .pointer (some ⟨b18, 0, none⟩)), (4, .bool false)] 4 ?_ (fun key => OW.sub (R := [(1, .slice a_1 p1.length c_1), (2, .pointer (some ⟨b18, 0, none⟩)), (4, .bool false), (7, .bool y19)]) ?_ (sb rfl))
 ·refine ow_batch [.p] rfl <| bE H fun u23 hu27 H => ow_cut [(15, .bool u23), (1, .slice a_1 p1.length c_1), (2, .pointer (some ⟨b18, 0, none⟩)), (4, .bool false)] 3 ?_ (fun key => OW.sub (R := [(1, .slice a_1 p1.length c_1), (2, .pointer (some ⟨b18, 0, none⟩)), (4, .bool false), (12, .bool (y19 && (decide ((p1.length : Int) > 0))))]) ?_ (sb rfl))
  ·refine ow_batch [.p] rfl <| bE H fun u28 hu32 H => ow_cut [(21, .bool u28), (1, .slice a_1 p1.length c_1), (2, .pointer (some ⟨b18, 0, none⟩)), (4, .bool false)] 5 ?_ (fun key => OW.sub (R := [(1, .slice a_1 p1.length c_1), (2, .pointer (some ⟨b18, 0, none⟩)), (4, .bool false), (16, .bool u23)]) ?_ (sb rfl))
   ·refine ow_batch [.p] rfl <| bE H fun u33 hu37 H => ow_cut [(33, .bool u33), (4, .bool false)] 11 ?_ (fun key => OW.sub (R := [(1, .slice a_1 p1.length c_1), (2, .pointer (some ⟨b18, 0, none⟩)), (4, .bool false), (22, .bool u28)]) ?_ (sb rfl))
    ·exact ow_batch [.p] rfl <| ow_nilQ <| x_qs <| c_ret <| xr 4 rfl (by cases H; exact q1)
    ·clear H
     have H := hu37
     clear hu37
     generalize u28 = t36 at H key ⊢
     cases t36
     ·have H := of_if_f rfl H
      refine ow_batch [.p, .p, .p, .p, .p, .p, .p, .p, .p, .p, .p] rfl ?_
      obtain rfl := of_some H
      exact OW.sub key (sb rfl)
     ·have H := of_if_t rfl H
      refine ow_batch [.p, .p, .lenS 59 3 sl59, .p] rfl <| bE H fun e34 h35 H => ow_ixE (e := eVal (Value.int .i64) (fun _ => rfl)) (xs := p1) (j := IntKind.i64.wrap ((p1.length : Int) - 1)) rfl rfl rfl rfl rfl sl59 ty3 rfl (fun w1 hw1 => rds_bor g1 w1 hw1) h35 (by rw [Nat.mul_one]) <| o1 rfl (ry_load1 rfl rfl ty3 (at_elV (fun w1 hw1 => rds_bor g1 w1 hw1) h35)) <| ow_batch [.fa 35 0 0 fa35_0] rfl <| o1 rfl (r1 0 0 rfl ty33 rfl) <| ow_batch [.lenS 33 114 sl33, .p] rfl <| ow_batch [.p] rfl <| ?_
      obtain rfl := of_some H
      exact OW.sub key (sb rfl)
   ·clear H
    have H := hu32
    clear hu32
    generalize u23 = t31 at H key ⊢
    cases t31
    ·have H := of_if_f rfl H
     refine ow_batch [.p, .p, .p, .p, .p] rfl ?_
     obtain rfl := of_some H
     exact OW.sub key (sb rfl)
    ·have H := of_if_t rfl H
     refine ow_batch [.p] rfl <| bE H fun e29 h30 H => ow_ixE (e := eVal (Value.int .i64) (fun _ => rfl)) (xs := p1) (j := 0) rfl rfl rfl rfl rfl sl59 ty3 rfl (fun w1 hw1 => rds_bor g1 w1 hw1) h30 (by rw [Nat.mul_one]) <| o1 rfl (ry_load1 rfl rfl ty3 (at_elV (fun w1 hw1 => rds_bor g1 w1 hw1) h30)) <| ow_batch [.p] rfl <| ow_batch [.p] rfl <| ?_
     obtain rfl := of_some H
     exact OW.sub key (sb rfl)
  ·clear H
   have H := hu27
   clear hu27
   generalize (y19 && (decide ((p1.length : Int) > 0))) = t26 at H key ⊢
   cases t26
   ·have H := of_if_f rfl H
    refine ow_batch [.p, .p, .p] rfl ?_
    obtain rfl := of_some H
    exact OW.sub key (sb rfl)
   ·have H := of_if_t rfl H
    refine ow_batch [.p] rfl <| bE H fun y24 h25 H => oq rfl (qc rfl fn207 (fun w1 hw1 => impl_ascending_ok w1  h25 (rds_bor g1 w1 hw1))) tt2 <| ow_batch [.p] rfl <| ?_
    obtain rfl := of_some H
    exact OW.sub key (sb rfl)
 ·generalize y19 = t22 at key ⊢
  cases t22
  ·exact ow_batch [.p, .p, .p, .p] rfl <| OW.sub key (sb rfl)
  ·exact ow_batch [.p, .lenS 59 3 sl59, .p] rfl <| ow_batch [.p] rfl <| OW.sub key (sb rfl)
theorem impl_RuleOk_ok (w : World) {p0 : Timpl_Rule}  {r : Bool} (H : impl_RuleOk p0 = some r)   :
    Calls Tryz.prog 81 #[.agg #[.int .i64 p0.Sure_, .int .i64 p0.Tie_, .int .i64 p0.Grace_, .int .i64 p0.Depth_, .int .i64 p0.Nodes_, .int .i64 p0.Units_, .bool p0.Two_]] w (fun en w' => en = .returned (.bool r) ∧ Ext [] w w') := by
 unfold impl_RuleOk at H
 refine f_enter (vs := [.agg #[.int .i64 p0.Sure_, .int .i64 p0.Tie_, .int .i64 p0.Grace_, .int .i64 p0.Depth_, .int .i64 p0.Nodes_, .int .i64 p0.Units_, .bool p0.Two_]]) Tryz.func81 rfl Tryz.ntmps81 rfl (St.init w []) <| c_seq <| c_reg <| ob [.int .i64 p0.Sure_, .int .i64 p0.Tie_, .int .i64 p0.Grace_, .int .i64 p0.Depth_, .int .i64 p0.Nodes_, .int .i64 p0.Units_, .bool p0.Two_] rfl fun b10 => ow_batch [.p] rfl <| ow_nil <| x_qs <| c_seq <| c_reg <| ow_batch [.fa 53 0 0 fa53_0] rfl <| o1 rfl (r1 0 0 rfl ty3 rfl) <| bE H fun y11 h12 H => oq rfl (qc rfl fn91 (fun w1 hw1 => impl_within_ok w1  h12)) tt2 <| ow_batch [.p] rfl <| bE H fun u13 hu17 H => ow_cut [(10, .bool u13), (1, .pointer (some ⟨b10, 0, none⟩)), (2, .bool false)] 4 ?_ (fun key => OW.sub (R := [(1, .pointer (some ⟨b10, 0, none⟩)), (2, .bool false), (6, .bool y11)]) ?_ (sb rfl))
 ·refine ow_batch [.p] rfl <| bE H fun u18 hu22 H => ow_cut [(15, .bool u18), (1, .pointer (some ⟨b10, 0, none⟩)), (2, .bool false)] 4 ?_ (fun key => OW.sub (R := [(1, .pointer (some ⟨b10, 0, none⟩)), (2, .bool false), (11, .bool u13)]) ?_ (sb rfl))
  ·refine ow_batch [.p] rfl <| bE H fun u23 hu27 H => ow_cut [(20, .bool u23), (1, .pointer (some ⟨b10, 0, none⟩)), (2, .bool false)] 4 ?_ (fun key => OW.sub (R := [(1, .pointer (some ⟨b10, 0, none⟩)), (2, .bool false), (16, .bool u18)]) ?_ (sb rfl))
   ·refine ow_batch [.p] rfl <| bE H fun u28 hu32 H => ow_cut [(25, .bool u28), (1, .pointer (some ⟨b10, 0, none⟩)), (2, .bool false)] 4 ?_ (fun key => OW.sub (R := [(1, .pointer (some ⟨b10, 0, none⟩)), (2, .bool false), (21, .bool u23)]) ?_ (sb rfl))
    ·refine ow_batch [.p] rfl <| bE H fun u33 hu37 H => ow_cut [(30, .bool u33), (2, .bool false)] 4 ?_ (fun key => OW.sub (R := [(1, .pointer (some ⟨b10, 0, none⟩)), (2, .bool false), (26, .bool u28)]) ?_ (sb rfl))
     ·exact ow_batch [.p] rfl <| ow_nil <| x_qs <| c_ret <| xr 2 rfl (by cases H; exact q1)
     ·clear H
      have H := hu37
      clear hu37
      generalize u28 = t36 at H key ⊢
      cases t36
      ·have H := of_if_f rfl H
       refine ow_batch [.p, .p, .p, .p] rfl ?_
       obtain rfl := of_some H
       exact OW.sub key (sb rfl)
      ·have H := of_if_t rfl H
       refine ow_batch [.fa 53 5 5 fa53_5] rfl <| o1 rfl (r1 5 0 rfl ty3 rfl) <| bE H fun y34 h35 H => oq rfl (qc rfl fn91 (fun w1 hw1 => impl_within_ok w1  h35)) tt2 <| ow_batch [.p] rfl <| ?_
       obtain rfl := of_some H
       exact OW.sub key (sb rfl)
    ·clear H
     have H := hu32
     clear hu32
     generalize u23 = t31 at H key ⊢
     cases t31
     ·have H := of_if_f rfl H
      refine ow_batch [.p, .p, .p, .p] rfl ?_
      obtain rfl := of_some H
      exact OW.sub key (sb rfl)
     ·have H := of_if_t rfl H
      refine ow_batch [.fa 53 4 4 fa53_4] rfl <| o1 rfl (r1 4 0 rfl ty3 rfl) <| bE H fun y29 h30 H => oq rfl (qc rfl fn91 (fun w1 hw1 => impl_within_ok w1  h30)) tt2 <| ow_batch [.p] rfl <| ?_
      obtain rfl := of_some H
      exact OW.sub key (sb rfl)
   ·clear H
    have H := hu27
    clear hu27
    generalize u18 = t26 at H key ⊢
    cases t26
    ·have H := of_if_f rfl H
     refine ow_batch [.p, .p, .p, .p] rfl ?_
     obtain rfl := of_some H
     exact OW.sub key (sb rfl)
    ·have H := of_if_t rfl H
     refine ow_batch [.fa 53 3 3 fa53_3] rfl <| o1 rfl (r1 3 0 rfl ty3 rfl) <| bE H fun y24 h25 H => oq rfl (qc rfl fn91 (fun w1 hw1 => impl_within_ok w1  h25)) tt2 <| ow_batch [.p] rfl <| ?_
     obtain rfl := of_some H
     exact OW.sub key (sb rfl)
  ·clear H
   have H := hu22
   clear hu22
   generalize u13 = t21 at H key ⊢
   cases t21
   ·have H := of_if_f rfl H
    refine ow_batch [.p, .p, .p, .p] rfl ?_
    obtain rfl := of_some H
    exact OW.sub key (sb rfl)
   ·have H := of_if_t rfl H
    refine ow_batch [.fa 53 2 2 fa53_2] rfl <| o1 rfl (r1 2 0 rfl ty3 rfl) <| bE H fun y19 h20 H => oq rfl (qc rfl fn91 (fun w1 hw1 => impl_within_ok w1  h20)) tt2 <| ow_batch [.p] rfl <| ?_
    obtain rfl := of_some H
    exact OW.sub key (sb rfl)
 ·clear H
  have H := hu17
  clear hu17
  generalize y11 = t16 at H key ⊢
  cases t16
  ·have H := of_if_f rfl H
   refine ow_batch [.p, .p, .p, .p] rfl ?_
   obtain rfl := of_some H
   exact OW.sub key (sb rfl)
  ·have H := of_if_t rfl H
   refine ow_batch [.fa 53 1 1 fa53_1] rfl <| o1 rfl (r1 1 0 rfl ty3 rfl) <| bE H fun y14 h15 H => oq rfl (qc rfl fn91 (fun w1 hw1 => impl_within_ok w1  h15)) tt2 <| ow_batch [.p] rfl <| ?_
   obtain rfl := of_some H
   exact OW.sub key (sb rfl)
theorem impl_StatsNew_ok (w : World) {M0 : List Nat} {p0 : Timpl_Schema} {cs0 : List Value} {r : Timpl_Stats} (H : impl_StatsNew p0 = some r) (HS : St w M0 [] w) (g0 : (eTimpl_Schema).rd w M0 p0 cs0) :
    Calls Tryz.prog 151 #[.agg cs0.toArray] w (fun en w' => ∃ v, en = .returned v ∧ ∃ (a0 : Option Addr), ∃ (n0 : Nat), ∃ (c0 : Nat), ∃ (F0 : List Nat), ∃ (a1 : Option Addr), ∃ (n1 : Nat), ∃ (c1 : Nat), ∃ (F1 : List Nat), v = .agg #[.slice a0 n0 c0, .slice a1 n1 c1] ∧ St w M0 [Res.own (eList (eVal (Value.int .i64) (fun _ => rfl)) 3) F0 r.Totals_ [.slice a0 n0 c0], Res.own (eList (eList (eVal (Value.int .i64) (fun _ => rfl)) 3) 59) F1 r.Cells_ [.slice a1 n1 c1]] w') := by
 obtain ⟨c10, c11, rfl, g12, g13⟩ := rdo_Timpl_Schema g0
 obtain ⟨a14, c15, rfl⟩ := rd_sl1 g12
 obtain ⟨a16, c17, rfl⟩ := rd_sl1 g13
 unfold impl_StatsNew at H
 refine f_enter (vs := [.agg #[.slice a14 p0.Attrs_.length c15, .slice a16 p0.Classes_.length c17]]) Tryz.func151 rfl Tryz.ntmps151 rfl (HS) <| c_seq <| c_reg <| ob [.slice a14 p0.Attrs_.length c15, .slice a16 p0.Classes_.length c17] rfl fun b18 => ow_alloc rfl rfl rfl rfl ty62 (fun _ => kp) fun b19 => ow_nil <| x_qs <| c_seq <| c_seq <| c_reg <| o1 rfl (rx 0 0 [.slice a14 p0.Attrs_.length c15, .slice a16 p0.Classes_.length c17] rfl ty35 rfl) <| bE H fun y20 h21 H => oq rfl (qc rfl fn132 (fun w1 hw1 => impl_SchemaOk_ok w1 (cs0 := [.slice a14 p0.Attrs_.length c15, .slice a16 p0.Classes_.length c17]) h21 (rdm_Timpl_Schema (x := p0) (c0 := [.slice a14 p0.Attrs_.length c15]) (c1 := [.slice a16 p0.Classes_.length c17]) (rds_bor g12 w1 hw1) (rds_bor g13 w1 hw1)))) tt2 <| ow_batch [.p] rfl <| ow_nil <| x_qs <| cI H rfl (fun H => ?_) (fun H => ?_)
 ·exact c_seq <| c_reg <| o1 rfl (ry_build2 [] [.slice none 0 0, .slice none 0 0] rfl rfl ty62 fs62 rfl trivial rfl) <| sC 0 [.slice none 0 0, .slice none 0 0] [_, _] 1 rfl ty62 rfl <| ow_nil <| x_qs <| c_ret <| x_qs_ret <| xw_st (fun _ h => St.pushNil (e := eVal (Value.int .i64) (fun _ => rfl)) (T := 3) h) <| xw_st (fun _ h => St.pushNil (e := eList (eVal (Value.int .i64) (fun _ => rfl)) 3) (T := 59) h) <| x_retR (rs := [.cell 2 62]) (vs := [.agg #[.slice none 0 0, .slice none 0 0]]) rfl ⟨⟨_, [.slice none 0 0, .slice none 0 0], _, _, _, rfl, ty62, (at_box (T := 62) 0 (boxIn (i := 1) rfl) rfl), rfl, rfl⟩, trivial⟩ (fun w' hw' => by
   obtain rfl := of_some H
   exact ⟨_, rfl, none, 0, 0, [], none, 0, 0, [], rfl, hw'.sel [2, 3] rfl rfl⟩)
 ·refine c_skip <| x_qs <| c_seq <| c_reg <| ow_batch [.fa 35 1 1 fa35_1] rfl <| o1 rfl (r1 1 0 rfl ty23 rfl) <| ow_batch [.lenS 23 9 sl23] rfl <| bE H fun y22 h23 H => ow_callS rfl fn168 rfl rfl rfl rfl (fun w1 hw1 => impl_zeros_ok w1  h23 (hw1.carve [] rfl rfl)) fun v24 w1 w2 hw1 hR26 => ?_
  obtain ⟨a27, n28, c29, F30, rfl, hS25⟩ := hR26
  obtain rfl := own_nS (i := 0) hS25 rfl
  refine ⟨St w M0 [_, _, _], hw1.comp [] rfl rfl hS25, fun _ _ => trivial, ?_⟩
  refine o1 rfl (ry_build2 [(0, [.slice a27 y22.length c29])] [.slice a27 y22.length c29, .slice none 0 0] rfl rfl ty62 fs62 rfl ⟨rfl, rfl, Nat.le_of_ble_eq_true rfl,  trivial⟩ rfl) <| ow_alloc rfl rfl rfl rfl ty62 (fun _ => kp) fun b31 => sC 0 [.slice a27 y22.length c29, .slice none 0 0] [_, _] 3 rfl ty62 rfl <| ow_nil <| x_qs <| c_seq <| c_seq <| c_reg <| ow_batch [.fa 35 0 0 fa35_0] rfl <| o1 rfl (r1 0 0 rfl ty33 rfl) <| ow_batch [.lenS 33 114 sl33, .p] rfl <| ow_nil <| x_qs <| c_block <| CW.weak ?_ (fun _ h => St.pushNil (e := eList (eVal (Value.int .i64) (fun _ => rfl)) 3) (T := 59) h)
  refine CW.at (loopI5 (fun (i85 : Int) (l86 : List (List Int)) (a87 : Option Addr) (c88 : Nat) (F89 : List Nat) => St w M0 [Res.box b18 35 [.slice a14 p0.Attrs_.length c15, .slice a16 p0.Classes_.length c17], Res.box b19 62 [.slice none 0 0, .slice none 0 0], Res.box b31 62 [.slice a27 y22.length c29, .slice a87 l86.length c88], Res.own (eList (eVal (Value.int .i64) (fun _ => rfl)) 3) F30 y22 [.slice a27 y22.length c29], Res.own (eList (eList (eVal (Value.int .i64) (fun _ => rfl)) 3) 59) F89 l86 [.slice a87 l86.length c88]]) (fun (i85 : Int) (l86 : List (List Int)) (a87 : Option Addr) (c88 : Nat) (F89 : List Nat) => [(1, .pointer (some ⟨b18, 0, none⟩)), (2, .pointer (some ⟨b19, 0, none⟩)), (3, .pointer (some ⟨b31, 0, none⟩)), (16, .slice a14 p0.Attrs_.length c15), (17, .int .i64 (p0.Attrs_.length : Int)), (18, .int .i64 i85)]) (fun kk => fun (i85 : Int) (l86 : List (List Int)) (a87 : Option Addr) (c88 : Nat) (F89 : List Nat) => impl_StatsNew_L1 p0 y22 kk i85 l86 = some r) (fun _ _ _ _ _ H => ?_) (fun k1 ihk1 i85 l86 a87 c88 F89 H => ?_) Fuel (0) (([] : List (List Int))) (none) (0) ([]) (H)) (fun _ h => St.sel [0, 1, 3, 2, 4] rfl rfl h) ⟨rfl, rfl, rfl, rfl, rfl, rfl,  trivial⟩
  ·unfold impl_StatsNew_L1 at H
   exact absurd H (by simp)
  ·unfold impl_StatsNew_L1 at H
   refine c_seq <| c_reg <| ow_batch [.p] rfl <| ow_nil <| x_qs <| c_seq <| cI H rfl (fun H => ?_) (fun H => ?_)
   ·refine c_skip <| x_qs <| c_seq <| c_block <| c_seq <| c_reg <| bE H fun e141 h142 H => ow_ixB rfl rfl rfl rfl rfl sl33 ty114 rfl g12 h142 fun q145 c146 hd143 hA144 => ?_
    obtain ⟨c147, c148, c149, rfl, g150, g151, g152⟩ := rdo_Timpl_Attr hd143
    obtain rfl : c147 = [vS e141.Name_] := g150
    obtain ⟨a153, c154, rfl⟩ := rd_sl1 g151
    obtain ⟨a155, c156, rfl⟩ := rd_sl1 g152
    refine o1 rfl (ry_load (cs := [vS e141.Name_, .slice a153 e141.Cuts_.length c154, .slice a155 e141.Values_.length c156]) rfl rfl ty114 (at_bor bor hA144) rfl) <| ow_alloc rfl rfl rfl rfl ty114 (fun _ => kp) fun b157 => sC 0 [vS e141.Name_, .slice a153 e141.Cuts_.length c154, .slice a155 e141.Values_.length c156] [_, _, _] 5 rfl ty114 rfl <| ow_nil <| x_qs <| c_regHT 10 [(0, true), (1, true), (2, true), (4, true), (5, true), (6, true), (3, false), (7, true), (8, false), (9, false)] (St w M0 [Res.box b18 35 [.slice a14 p0.Attrs_.length c15, .slice a16 p0.Classes_.length c17], Res.box b19 62 [.slice none 0 0, .slice none 0 0], Res.box b31 62 [.slice a27 y22.length c29, .slice a87 l86.length c88], Res.own (eList (eVal (Value.int .i64) (fun _ => rfl)) 3) F30 y22 [.slice a27 y22.length c29], Res.own (eList (eList (eVal (Value.int .i64) (fun _ => rfl)) 3) 59) F89 l86 [.slice a87 l86.length c88], Res.box b157 114 [vS e141.Name_, .slice a153 e141.Cuts_.length c154, .slice a155 e141.Values_.length c156]]) mixed (by kernel_rfl) (panicOk_qb (panicOk_qs (panicOk_ql (panicOk_qb (panicOk_qs panicOk_body))))) (fun _ h => St.mask [true, true, true, true, true, true] rfl h) <| ow_batch [.fa 62 1 1 fa62_1] rfl <| ow_rH rfl (dstOk_lt rfl) (r1 1 2 rfl ty60 rfl) <| ow_rH rfl (dstOk_lt rfl) (rx 0 5 [vS e141.Name_, .slice a153 e141.Cuts_.length c154, .slice a155 e141.Values_.length c156] rfl ty114 rfl) <| ow_batch [.fa 35 1 1 fa35_1] rfl <| ow_rH rfl (dstOk_lt rfl) (r1 1 0 rfl ty23 rfl) <| ow_batch [.lenS 23 9 sl23] rfl <| bE H fun y170 h171 H => oq rfl (qc rfl fn138 (fun w1 hw1 => impl_bins_ok w1 (cs0 := [vS e141.Name_, .slice a153 e141.Cuts_.length c154, .slice a155 e141.Values_.length c156]) h171 (rdm_Timpl_Attr (x := e141) (c0 := [vS e141.Name_]) (c1 := [.slice a153 e141.Cuts_.length c154]) (c2 := [.slice a155 e141.Values_.length c156]) rfl (rds_bor g151 w1 hw1) (rds_bor g152 w1 hw1)))) (fun _ h => St.mask [true, true, true, true, true, true] rfl h) <| ow_batch [.p] rfl <| bE H fun y172 h173 H => ow_callS rfl fn168 rfl rfl rfl rfl (fun w1 hw1 => impl_zeros_ok w1  h173 (hw1.carve [] rfl rfl)) fun v174 w1 w2 hw1 hR176 => ?_
    obtain ⟨a177, n178, c179, F180, rfl, hS175⟩ := hR176
    obtain rfl := own_nS (i := 0) hS175 rfl
    refine ⟨St w M0 [_, _, _, _, _, _, _], hw1.comp [] rfl rfl hS175, (fun _ h => St.mask [true, true, true, true, true, true] rfl h), ?_⟩
    refine ow_bslice [(0, [.slice a177 y172.length c179])] rfl rfl rfl rfl rfl sl60 ty59 rfl rfl ⟨rfl, rfl, Nat.le_of_ble_eq_true rfl,  trivial⟩ [.slice a177 y172.length c179] rfl (fun _ => (fun _ h => St.mask [true, true, true, true, true, true] rfl h)) fun b181 => ow_st rfl (fun _ h => lit1 (p := 7) (q := 6) h rfl rfl rfl) <| ow_nilH <| x_qt <| bE H fun l182 h183 H => ow_appM (r := 4) (j := 8) rfl rfl rfl rfl rfl rfl sl60 ty59 rfl rfl rfl rfl rfl rfl rfl h183 (fun _ _ _ => kp) fun a184 c185 F186 => ow_batch [.fa 62 1 1 fa62_1] rfl <| sC 1 [.slice a184 l182.length c185] [_, _] 2 rfl ty60 rfl <| ow_nil <| x_qb <| x_qs <| CW.weak (C' := St w M0 [_, _, _, _, _, _]) ?_ (fun _ h => St.sel [0, 1, 2, 3, 5, 9] rfl rfl h)
    exact c_reg <| ow_batch [.p, .p] rfl <| ow_nil <| x_ql (RW.at (ihk1 (IntKind.i64.wrap (i85 + 1)) (l182) (a184) (c185) (F186) (H)) (fun _ h => St.sel [0, 1, 2, 3, 5] rfl rfl h) ⟨rfl, rfl, rfl, rfl, rfl, rfl, trivial⟩)
   ·exact c_exit <| x_qs_exit <| x_ql_exit <| x_qb_here <| x_qs <| c_seq <| c_reg <| o1 rfl (rx 0 2 [.slice a27 y22.length c29, .slice a87 l86.length c88] rfl ty62 rfl) <| sC 0 [.slice a27 y22.length c29, .slice a87 l86.length c88] [_, _] 1 rfl ty62 rfl <| ow_nil <| x_qs <| c_ret <| x_retR (rs := [.cell 2 62]) (vs := [.agg #[.slice a27 y22.length c29, .slice a87 l86.length c88]]) rfl ⟨⟨_, [.slice a27 y22.length c29, .slice a87 l86.length c88], _, _, _, rfl, ty62, (at_box (T := 62) 0 (boxIn (i := 1) rfl) rfl), rfl, rfl⟩, trivial⟩ (fun w' hw' => by
     obtain rfl := of_some H
     exact ⟨_, rfl, a27, y22.length, c29, F30, a87, l86.length, c88, F89, rfl, hw'.sel [3, 4] rfl rfl⟩)
theorem lib_slices_Clone___int_int__ok (w : World) {M0 : List Nat} {p0 : List Int} {a_0 : Option Addr} {n_0 c_0 : Nat} {r : List Int} (H : lib_slices_Clone___int_int_ p0 = some r) (HS : St w M0 [] w) (g0 : (eList (eVal (Value.int .i64) (fun _ => rfl)) 3).rd w M0 p0 [.slice a_0 n_0 c_0]) :
    Calls Tryz.prog 223 #[.slice a_0 n_0 c_0] w (fun en w' => ∃ v, en = .returned v ∧ ∃ (a0 : Option Addr), ∃ (n0 : Nat), ∃ (c0 : Nat), ∃ (F0 : List Nat), v = .slice a0 n0 c0 ∧ St w M0 [Res.own (eList (eVal (Value.int .i64) (fun _ => rfl)) 3) F0 r [.slice a0 n0 c0]] w') := by
 obtain rfl := rd_n g0
 unfold lib_slices_Clone___int_int_ at H
 refine f_enter (vs := [.slice a_0 p0.length c_0]) Tryz.func223 rfl Tryz.ntmps223 rfl (HS) <| c_seq <| c_reg <| ow_batch [.p] rfl <| ow_nil <| x_qs <| c_seq <| c_seq <| c_reg <| ow_batch [.p] rfl <| o1 rfl (ry_nilB rfl rfl sl59 rfl) <| ow_nil <| x_qs <| c_if rfl (fun hb => ?_) (fun _ => ?_)
 ·obtain rfl : p0 = [] := rd_isNone g0 hb
  have H : some ([] : List Int) = some r := by simpa [app] using H
  exact c_seq <| c_reg <| ow_batch [.p] rfl <| ow_nil <| x_qs <| c_ret <| x_qs_ret <| xw_st (fun _ h => St.pushNil (e := eVal (Value.int .i64) (fun _ => rfl)) (T := 3) h) <| x_retR (rs := [.tmp 2]) (vs := [.slice none 0 0]) rfl ⟨rfl, trivial⟩ (fun w' hw' => by
   obtain rfl := of_some H
   exact ⟨_, rfl, none, 0, 0, [], rfl, hw'.sel [0] rfl rfl⟩)
 ·exact c_skip <| x_qs <| c_seq <| c_reg <| ow_blit0 (e := eVal (Value.int .i64) (fun _ => rfl)) rfl rfl rfl rfl sl59 ty3 (fun _ => kp) fun b10 => ow_batch [.p] rfl <| bE H fun l11 h12 H => ow_appR (r := 0) (ys := p0) rfl rfl rfl rfl rfl rfl sl59 ty3 rfl rfl rfl (fun w1 hw1 => rds_bor g0 w1 hw1) h12 (fun _ _ _ => kp) fun a13 c14 F15 => ow_batch [.p] rfl <| ow_nil <| x_qs <| c_ret <| x_retR (rs := [.tmp 2]) (vs := [.slice a13 l11.length c14]) rfl ⟨rfl, trivial⟩ (fun w' hw' => by
   obtain rfl := of_some H
   exact ⟨_, rfl, a13, l11.length, c14, F15, rfl, hw'.sel [0] rfl rfl⟩)
theorem laws_eqIntS_ok (w : World) {p0 : List Int} {p1 : List Int} {a_0 : Option Addr} {n_0 c_0 : Nat} {a_1 : Option Addr} {n_1 c_1 : Nat} {r : Bool} (H : laws_eqIntS p0 p1 = some r)  (g0 : (eList (eVal (Value.int .i64) (fun _ => rfl)) 3).rd w [] p0 [.slice a_0 n_0 c_0]) (g1 : (eList (eVal (Value.int .i64) (fun _ => rfl)) 3).rd w [] p1 [.slice a_1 n_1 c_1]) :
    Calls Tryz.prog 92 #[.slice a_0 n_0 c_0, .slice a_1 n_1 c_1] w (fun en w' => en = .returned (.bool r) ∧ Ext [] w w') := by
 obtain rfl := rd_n g0
 obtain rfl := rd_n g1
 unfold laws_eqIntS at H
 refine f_enter (vs := [.slice a_0 p0.length c_0, .slice a_1 p1.length c_1]) Tryz.func92 rfl Tryz.ntmps92 rfl (St.init w []) <| c_seq <| c_reg <| ow_batch [.p] rfl <| ow_nil <| x_qs <| c_seq <| c_seq <| c_reg <| ow_batch [.p, .lenS 59 3 sl59, .p, .lenS 59 3 sl59, .p] rfl <| ow_nil <| x_qs <| cI H rfl (fun H => ?_) (fun H => ?_)
 ·exact c_seq <| c_reg <| ow_batch [.p] rfl <| ow_nil <| x_qs <| c_ret <| x_qs_ret <| xr 4 rfl (by cases H; exact q1)
 ·refine c_skip <| x_qs <| c_seq <| c_seq <| c_reg <| ow_batch [.p] rfl <| ow_nil <| x_qs <| c_block <| CW.at (loopI1 (fun (i15 : Int) => St w [] []) (fun (i15 : Int) => [(0, .slice a_0 p0.length c_0), (1, .slice a_1 p1.length c_1), (5, .int .i64 i15)]) (fun kk => fun (i15 : Int) => laws_eqIntS_L1 p0 p1 kk i15 = some r) (fun _ H => ?_) (fun k1 ihk1 i15 H => ?_) Fuel (0) (H)) (fun _ h => St.sel [] rfl rfl h) ⟨rfl, rfl, rfl,  trivial⟩
  ·unfold laws_eqIntS_L1 at H
   exact absurd H (by simp)
  ·unfold laws_eqIntS_L1 at H
   refine c_seq <| c_seq <| c_reg <| ow_batch [.p, .p, .lenS 59 3 sl59, .p] rfl <| ow_nil <| x_qs <| cI H rfl (fun H => ?_) (fun H => ?_)
   ·refine c_skip <| x_qs <| c_seq <| c_block <| c_seq <| c_regQ mixed (by kernel_rfl) <| ow_batch [.p, .p] rfl <| bE H fun e21 h22 H => ow_ixE (e := eVal (Value.int .i64) (fun _ => rfl)) (xs := p0) (j := i15) rfl rfl rfl rfl rfl sl59 ty3 rfl (fun w1 hw1 => rds_bor g0 w1 hw1) h22 (by rw [Nat.mul_one]) <| o1 rfl (ry_load1 rfl rfl ty3 (at_elV (fun w1 hw1 => rds_bor g0 w1 hw1) h22)) <| ow_batch [.p, .p] rfl <| bE H fun e23 h24 H => ow_ixE (e := eVal (Value.int .i64) (fun _ => rfl)) (xs := p1) (j := i15) rfl rfl rfl rfl rfl sl59 ty3 rfl (fun w1 hw1 => rds_bor g1 w1 hw1) h24 (by rw [Nat.mul_one]) <| o1 rfl (ry_load1 rfl rfl ty3 (at_elV (fun w1 hw1 => rds_bor g1 w1 hw1) h24)) <| ow_batch [.p] rfl <| ow_nilQ <| x_qs <| cI H rfl (fun H => ?_) (fun H => ?_)
    ·exact c_seq <| c_reg <| ow_batch [.p] rfl <| ow_nil <| x_qs <| c_ret <| x_qb_ret <| x_qs_ret <| x_ql_ret <| x_qb_ret <| x_qs_ret <| xr 4 rfl (by cases H; exact q1)
    ·exact c_skip <| x_qb <| x_qs <| c_reg <| ow_batch [.p, .p, .p] rfl <| ow_nil <| x_ql (RW.at (ihk1 (IntKind.i64.wrap (i15 + 1)) (H)) (fun _ h => St.sel [] rfl rfl h) ⟨rfl, rfl, rfl, trivial⟩)
   ·exact c_exit <| x_qs_exit <| x_ql_exit <| x_qb_here <| x_qs <| c_seq <| c_reg <| ow_batch [.p] rfl <| ow_nil <| x_qs <| c_ret <| xr 4 rfl (by cases H; exact q1)
theorem laws_eqStringS_ok (w : World) {p0 : List (List UInt8)} {p1 : List (List UInt8)} {a_0 : Option Addr} {n_0 c_0 : Nat} {a_1 : Option Addr} {n_1 c_1 : Nat} {r : Bool} (H : laws_eqStringS p0 p1 = some r)  (g0 : (eList (eStr) 9).rd w [] p0 [.slice a_0 n_0 c_0]) (g1 : (eList (eStr) 9).rd w [] p1 [.slice a_1 n_1 c_1]) :
    Calls Tryz.prog 66 #[.slice a_0 n_0 c_0, .slice a_1 n_1 c_1] w (fun en w' => en = .returned (.bool r) ∧ Ext [] w w') := by
 obtain rfl := rd_n g0
 obtain rfl := rd_n g1
 unfold laws_eqStringS at H
 refine f_enter (vs := [.slice a_0 p0.length c_0, .slice a_1 p1.length c_1]) Tryz.func66 rfl Tryz.ntmps66 rfl (St.init w []) <| c_seq <| c_reg <| ow_batch [.p] rfl <| ow_nil <| x_qs <| c_seq <| c_seq <| c_reg <| ow_batch [.p, .lenS 23 9 sl23, .p, .lenS 23 9 sl23, .p] rfl <| ow_nil <| x_qs <| cI H rfl (fun H => ?_) (fun H => ?_)
 ·exact c_seq <| c_reg <| ow_batch [.p] rfl <| ow_nil <| x_qs <| c_ret <| x_qs_ret <| xr 4 rfl (by cases H; exact q1)
 ·refine c_skip <| x_qs <| c_seq <| c_seq <| c_reg <| ow_batch [.p] rfl <| ow_nil <| x_qs <| c_block <| CW.at (loopI1 (fun (i15 : Int) => St w [] []) (fun (i15 : Int) => [(0, .slice a_0 p0.length c_0), (1, .slice a_1 p1.length c_1), (5, .int .i64 i15)]) (fun kk => fun (i15 : Int) => laws_eqStringS_L1 p0 p1 kk i15 = some r) (fun _ H => ?_) (fun k1 ihk1 i15 H => ?_) Fuel (0) (H)) (fun _ h => St.sel [] rfl rfl h) ⟨rfl, rfl, rfl,  trivial⟩
  ·unfold laws_eqStringS_L1 at H
   exact absurd H (by simp)
  ·unfold laws_eqStringS_L1 at H
   refine c_seq <| c_seq <| c_reg <| ow_batch [.p, .p, .lenS 23 9 sl23, .p] rfl <| ow_nil <| x_qs <| cI H rfl (fun H => ?_) (fun H => ?_)
   ·refine c_skip <| x_qs <| c_seq <| c_block <| c_seq <| c_regQ mixed (by kernel_rfl) <| ow_batch [.p, .p] rfl <| bE H fun e21 h22 H => ow_ixE (e := eStr) (xs := p0) (j := i15) rfl rfl rfl rfl rfl sl23 ty9 rfl (fun w1 hw1 => rds_bor g0 w1 hw1) h22 (by rw [Nat.mul_one]) <| o1 rfl (ry_load1 rfl rfl ty9 (at_elV (fun w1 hw1 => rds_bor g0 w1 hw1) h22)) <| ow_batch [.p, .p] rfl <| bE H fun e23 h24 H => ow_ixE (e := eStr) (xs := p1) (j := i15) rfl rfl rfl rfl rfl sl23 ty9 rfl (fun w1 hw1 => rds_bor g1 w1 hw1) h24 (by rw [Nat.mul_one]) <| o1 rfl (ry_load1 rfl rfl ty9 (at_elV (fun w1 hw1 => rds_bor g1 w1 hw1) h24)) <| ow_batch [.p] rfl <| ow_nilQ <| x_qs <| cI H rfl (fun H => ?_) (fun H => ?_)
    ·exact c_seq <| c_reg <| ow_batch [.p] rfl <| ow_nil <| x_qs <| c_ret <| x_qb_ret <| x_qs_ret <| x_ql_ret <| x_qb_ret <| x_qs_ret <| xr 4 rfl (by cases H; exact q1)
    ·exact c_skip <| x_qb <| x_qs <| c_reg <| ow_batch [.p, .p, .p] rfl <| ow_nil <| x_ql (RW.at (ihk1 (IntKind.i64.wrap (i15 + 1)) (H)) (fun _ h => St.sel [] rfl rfl h) ⟨rfl, rfl, rfl, trivial⟩)
   ·exact c_exit <| x_qs_exit <| x_ql_exit <| x_qb_here <| x_qs <| c_seq <| c_reg <| ow_batch [.p] rfl <| ow_nil <| x_qs <| c_ret <| xr 4 rfl (by cases H; exact q1)
theorem laws_eqAttr_ok (w : World) {p0 : Timpl_Attr} {p1 : Timpl_Attr} {cs0 : List Value} {cs1 : List Value} {r : Bool} (H : laws_eqAttr p0 p1 = some r)  (g0 : (eTimpl_Attr).rd w [] p0 cs0) (g1 : (eTimpl_Attr).rd w [] p1 cs1) :
    Calls Tryz.prog 140 #[.agg cs0.toArray, .agg cs1.toArray] w (fun en w' => en = .returned (.bool r) ∧ Ext [] w w') := by
 obtain ⟨c10, c11, c12, rfl, g13, g14, g15⟩ := rdo_Timpl_Attr g0
 obtain rfl : c10 = [vS p0.Name_] := g13
 obtain ⟨a16, c17, rfl⟩ := rd_sl1 g14
 obtain ⟨a18, c19, rfl⟩ := rd_sl1 g15
 obtain ⟨c20, c21, c22, rfl, g23, g24, g25⟩ := rdo_Timpl_Attr g1
 obtain rfl : c20 = [vS p1.Name_] := g23
 obtain ⟨a26, c27, rfl⟩ := rd_sl1 g24
 obtain ⟨a28, c29, rfl⟩ := rd_sl1 g25
 unfold laws_eqAttr at H
 refine f_enter (vs := [.agg #[vS p0.Name_, .slice a16 p0.Cuts_.length c17, .slice a18 p0.Values_.length c19], .agg #[vS p1.Name_, .slice a26 p1.Cuts_.length c27, .slice a28 p1.Values_.length c29]]) Tryz.func140 rfl Tryz.ntmps140 rfl (St.init w []) <| c_seq <| c_reg <| ob [vS p0.Name_, .slice a16 p0.Cuts_.length c17, .slice a18 p0.Values_.length c19] rfl fun b30 => ob [vS p1.Name_, .slice a26 p1.Cuts_.length c27, .slice a28 p1.Values_.length c29] rfl fun b31 => ow_batch [.p] rfl <| ow_nil <| x_qs <| c_seq <| c_seq <| c_reg <| ow_batch [.fa 114 0 0 fa114_0] rfl <| o1 rfl (r1 0 0 rfl ty9 rfl) <| ow_batch [.fa 114 0 0 fa114_0] rfl <| o1 rfl (r1 0 1 rfl ty9 rfl) <| ow_batch [.p] rfl <| ow_nil <| x_qs <| cI H rfl (fun H => ?_) (fun H => ?_)
 ·exact c_seq <| c_reg <| ow_batch [.p] rfl <| ow_nil <| x_qs <| c_ret <| x_qs_ret <| xr 4 rfl (by cases H; exact q1)
 ·refine c_skip <| x_qs <| c_seq <| c_seq <| c_reg <| ow_batch [.fa 114 1 1 fa114_1] rfl <| o1 rfl (r1 1 0 rfl ty59 rfl) <| ow_batch [.fa 114 1 1 fa114_1] rfl <| o1 rfl (r1 1 1 rfl ty59 rfl) <| bE H fun y32 h33 H => oq rfl (qc rfl fn92 (fun w1 hw1 => laws_eqIntS_ok w1  h33 (rds_bor g14 w1 hw1) (rds_bor g24 w1 hw1))) tt2 <| ow_batch [.p] rfl <| ow_nil <| x_qs <| cI H rfl (fun H => ?_) (fun H => ?_)
  ·exact c_seq <| c_reg <| ow_batch [.p] rfl <| ow_nil <| x_qs <| c_ret <| x_qs_ret <| xr 4 rfl (by cases H; exact q1)
  ·refine c_skip <| x_qs <| c_seq <| c_seq <| c_reg <| ow_batch [.fa 114 2 2 fa114_2] rfl <| o1 rfl (r1 2 0 rfl ty23 rfl) <| ow_batch [.fa 114 2 2 fa114_2] rfl <| o1 rfl (r1 2 1 rfl ty23 rfl) <| bE H fun y34 h35 H => oq rfl (qc rfl fn66 (fun w1 hw1 => laws_eqStringS_ok w1  h35 (rds_bor g15 w1 hw1) (rds_bor g25 w1 hw1))) tt2 <| ow_batch [.p] rfl <| ow_nil <| x_qs <| cI H rfl (fun H => ?_) (fun H => ?_)
   ·exact c_seq <| c_reg <| ow_batch [.p] rfl <| ow_nil <| x_qs <| c_ret <| x_qs_ret <| xr 4 rfl (by cases H; exact q1)
   ·exact c_skip <| x_qs <| c_seq <| c_reg <| ow_batch [.p] rfl <| ow_nil <| x_qs <| c_ret <| xr 4 rfl (by cases H; exact q1)
theorem laws_eqAttrS_ok (w : World) {p0 : List Timpl_Attr} {p1 : List Timpl_Attr} {a_0 : Option Addr} {n_0 c_0 : Nat} {a_1 : Option Addr} {n_1 c_1 : Nat} {r : Bool} (H : laws_eqAttrS p0 p1 = some r)  (g0 : (eList (eTimpl_Attr) 114).rd w [] p0 [.slice a_0 n_0 c_0]) (g1 : (eList (eTimpl_Attr) 114).rd w [] p1 [.slice a_1 n_1 c_1]) :
    Calls Tryz.prog 65 #[.slice a_0 n_0 c_0, .slice a_1 n_1 c_1] w (fun en w' => en = .returned (.bool r) ∧ Ext [] w w') := by
 obtain rfl := rd_n g0
 obtain rfl := rd_n g1
 unfold laws_eqAttrS at H
 refine f_enter (vs := [.slice a_0 p0.length c_0, .slice a_1 p1.length c_1]) Tryz.func65 rfl Tryz.ntmps65 rfl (St.init w []) <| c_seq <| c_reg <| ow_batch [.p] rfl <| ow_nil <| x_qs <| c_seq <| c_seq <| c_reg <| ow_batch [.p, .lenS 33 114 sl33, .p, .lenS 33 114 sl33, .p] rfl <| ow_nil <| x_qs <| cI H rfl (fun H => ?_) (fun H => ?_)
 ·exact c_seq <| c_reg <| ow_batch [.p] rfl <| ow_nil <| x_qs <| c_ret <| x_qs_ret <| xr 4 rfl (by cases H; exact q1)
 ·refine c_skip <| x_qs <| c_seq <| c_seq <| c_reg <| ow_batch [.p] rfl <| ow_nil <| x_qs <| c_block <| CW.at (loopI1 (fun (i45 : Int) => St w [] []) (fun (i45 : Int) => [(0, .slice a_0 p0.length c_0), (1, .slice a_1 p1.length c_1), (5, .int .i64 i45)]) (fun kk => fun (i45 : Int) => laws_eqAttrS_L1 p0 p1 kk i45 = some r) (fun _ H => ?_) (fun k1 ihk1 i45 H => ?_) Fuel (0) (H)) (fun _ h => St.sel [] rfl rfl h) ⟨rfl, rfl, rfl,  trivial⟩
  ·unfold laws_eqAttrS_L1 at H
   exact absurd H (by simp)
  ·unfold laws_eqAttrS_L1 at H
   refine c_seq <| c_seq <| c_reg <| ow_batch [.p, .p, .lenS 33 114 sl33, .p] rfl <| ow_nil <| x_qs <| cI H rfl (fun H => ?_) (fun H => ?_)
   ·refine c_skip <| x_qs <| c_seq <| c_block <| c_seq <| c_regQ mixed (by kernel_rfl) <| ow_batch [.p, .p] rfl <| bE H fun e81 h82 H => ow_ixB rfl rfl rfl rfl rfl sl33 ty114 rfl g0 h82 fun q85 c86 hd83 hA84 => ?_
    obtain ⟨c87, c88, c89, rfl, g90, g91, g92⟩ := rdo_Timpl_Attr hd83
    obtain rfl : c87 = [vS e81.Name_] := g90
    obtain ⟨a93, c94, rfl⟩ := rd_sl1 g91
    obtain ⟨a95, c96, rfl⟩ := rd_sl1 g92
    refine o1 rfl (ry_load (cs := [vS e81.Name_, .slice a93 e81.Cuts_.length c94, .slice a95 e81.Values_.length c96]) rfl rfl ty114 (at_bor bor hA84) rfl) <| ow_batch [.p, .p] rfl <| bE H fun e97 h98 H => ow_ixB rfl rfl rfl rfl rfl sl33 ty114 rfl g1 h98 fun q101 c102 hd99 hA100 => ?_
    obtain ⟨c103, c104, c105, rfl, g106, g107, g108⟩ := rdo_Timpl_Attr hd99
    obtain rfl : c103 = [vS e97.Name_] := g106
    obtain ⟨a109, c110, rfl⟩ := rd_sl1 g107
    obtain ⟨a111, c112, rfl⟩ := rd_sl1 g108
    refine o1 rfl (ry_load (cs := [vS e97.Name_, .slice a109 e97.Cuts_.length c110, .slice a111 e97.Values_.length c112]) rfl rfl ty114 (at_bor bor hA100) rfl) <| bE H fun y113 h114 H => oq rfl (qc rfl fn140 (fun w1 hw1 => laws_eqAttr_ok w1 (cs0 := [vS e81.Name_, .slice a93 e81.Cuts_.length c94, .slice a95 e81.Values_.length c96]) (cs1 := [vS e97.Name_, .slice a109 e97.Cuts_.length c110, .slice a111 e97.Values_.length c112]) h114 (rdm_Timpl_Attr (x := e81) (c0 := [vS e81.Name_]) (c1 := [.slice a93 e81.Cuts_.length c94]) (c2 := [.slice a95 e81.Values_.length c96]) rfl (rds_bor g91 w1 hw1) (rds_bor g92 w1 hw1)) (rdm_Timpl_Attr (x := e97) (c0 := [vS e97.Name_]) (c1 := [.slice a109 e97.Cuts_.length c110]) (c2 := [.slice a111 e97.Values_.length c112]) rfl (rds_bor g107 w1 hw1) (rds_bor g108 w1 hw1)))) tt2 <| ow_batch [.p] rfl <| ow_nilQ <| x_qs <| cI H rfl (fun H => ?_) (fun H => ?_)
    ·exact c_seq <| c_reg <| ow_batch [.p] rfl <| ow_nil <| x_qs <| c_ret <| x_qb_ret <| x_qs_ret <| x_ql_ret <| x_qb_ret <| x_qs_ret <| xr 4 rfl (by cases H; exact q1)
    ·exact c_skip <| x_qb <| x_qs <| c_reg <| ow_batch [.p, .p, .p] rfl <| ow_nil <| x_ql (RW.at (ihk1 (IntKind.i64.wrap (i45 + 1)) (H)) (fun _ h => St.sel [] rfl rfl h) ⟨rfl, rfl, rfl, trivial⟩)
   ·exact c_exit <| x_qs_exit <| x_ql_exit <| x_qb_here <| x_qs <| c_seq <| c_reg <| ow_batch [.p] rfl <| ow_nil <| x_qs <| c_ret <| xr 4 rfl (by cases H; exact q1)
theorem laws_eqSchema_ok (w : World) {p0 : Timpl_Schema} {p1 : Timpl_Schema} {cs0 : List Value} {cs1 : List Value} {r : Bool} (H : laws_eqSchema p0 p1 = some r)  (g0 : (eTimpl_Schema).rd w [] p0 cs0) (g1 : (eTimpl_Schema).rd w [] p1 cs1) :
    Calls Tryz.prog 15 #[.agg cs0.toArray, .agg cs1.toArray] w (fun en w' => en = .returned (.bool r) ∧ Ext [] w w') := by
 obtain ⟨c10, c11, rfl, g12, g13⟩ := rdo_Timpl_Schema g0
 obtain ⟨a14, c15, rfl⟩ := rd_sl1 g12
 obtain ⟨a16, c17, rfl⟩ := rd_sl1 g13
 obtain ⟨c18, c19, rfl, g20, g21⟩ := rdo_Timpl_Schema g1
 obtain ⟨a22, c23, rfl⟩ := rd_sl1 g20
 obtain ⟨a24, c25, rfl⟩ := rd_sl1 g21
 unfold laws_eqSchema at H
 refine f_enter (vs := [.agg #[.slice a14 p0.Attrs_.length c15, .slice a16 p0.Classes_.length c17], .agg #[.slice a22 p1.Attrs_.length c23, .slice a24 p1.Classes_.length c25]]) Tryz.func15 rfl Tryz.ntmps15 rfl (St.init w []) <| c_seq <| c_reg <| ob [.slice a14 p0.Attrs_.length c15, .slice a16 p0.Classes_.length c17] rfl fun b26 => ob [.slice a22 p1.Attrs_.length c23, .slice a24 p1.Classes_.length c25] rfl fun b27 => ow_batch [.p] rfl <| ow_nil <| x_qs <| c_seq <| c_seq <| c_reg <| ow_batch [.fa 35 0 0 fa35_0] rfl <| o1 rfl (r1 0 0 rfl ty33 rfl) <| ow_batch [.fa 35 0 0 fa35_0] rfl <| o1 rfl (r1 0 1 rfl ty33 rfl) <| bE H fun y28 h29 H => oq rfl (qc rfl fn65 (fun w1 hw1 => laws_eqAttrS_ok w1  h29 (rds_bor g12 w1 hw1) (rds_bor g20 w1 hw1))) tt2 <| ow_batch [.p] rfl <| ow_nil <| x_qs <| cI H rfl (fun H => ?_) (fun H => ?_)
 ·exact c_seq <| c_reg <| ow_batch [.p] rfl <| ow_nil <| x_qs <| c_ret <| x_qs_ret <| xr 4 rfl (by cases H; exact q1)
 ·refine c_skip <| x_qs <| c_seq <| c_seq <| c_reg <| ow_batch [.fa 35 1 1 fa35_1] rfl <| o1 rfl (r1 1 0 rfl ty23 rfl) <| ow_batch [.fa 35 1 1 fa35_1] rfl <| o1 rfl (r1 1 1 rfl ty23 rfl) <| bE H fun y30 h31 H => oq rfl (qc rfl fn66 (fun w1 hw1 => laws_eqStringS_ok w1  h31 (rds_bor g13 w1 hw1) (rds_bor g21 w1 hw1))) tt2 <| ow_batch [.p] rfl <| ow_nil <| x_qs <| cI H rfl (fun H => ?_) (fun H => ?_)
  ·exact c_seq <| c_reg <| ow_batch [.p] rfl <| ow_nil <| x_qs <| c_ret <| x_qs_ret <| xr 4 rfl (by cases H; exact q1)
  ·exact c_skip <| x_qs <| c_seq <| c_reg <| ow_batch [.p] rfl <| ow_nil <| x_qs <| c_ret <| xr 4 rfl (by cases H; exact q1)
theorem laws_eqFork_ok (w : World) {p0 : Timpl_Fork} {p1 : Timpl_Fork}  {r : Bool} (H : laws_eqFork p0 p1 = some r)   :
    Calls Tryz.prog 212 #[.agg #[.int .i64 p0.Attr_, .int .i64 p0.At_], .agg #[.int .i64 p1.Attr_, .int .i64 p1.At_]] w (fun en w' => en = .returned (.bool r) ∧ Ext [] w w') := by
 unfold laws_eqFork at H
 refine f_enter (vs := [.agg #[.int .i64 p0.Attr_, .int .i64 p0.At_], .agg #[.int .i64 p1.Attr_, .int .i64 p1.At_]]) Tryz.func212 rfl Tryz.ntmps212 rfl (St.init w []) <| c_seq <| c_reg <| ob [.int .i64 p0.Attr_, .int .i64 p0.At_] rfl fun b10 => ob [.int .i64 p1.Attr_, .int .i64 p1.At_] rfl fun b11 => ow_batch [.p] rfl <| ow_nil <| x_qs <| c_seq <| c_seq <| c_reg <| ow_batch [.fa 116 0 0 fa116_0] rfl <| o1 rfl (r1 0 0 rfl ty3 rfl) <| ow_batch [.fa 116 0 0 fa116_0] rfl <| o1 rfl (r1 0 1 rfl ty3 rfl) <| ow_batch [.p] rfl <| ow_nil <| x_qs <| cI H rfl (fun H => ?_) (fun H => ?_)
 ·exact c_seq <| c_reg <| ow_batch [.p] rfl <| ow_nil <| x_qs <| c_ret <| x_qs_ret <| xr 4 rfl (by cases H; exact q1)
 ·refine c_skip <| x_qs <| c_seq <| c_seq <| c_reg <| ow_batch [.fa 116 1 1 fa116_1] rfl <| o1 rfl (r1 1 0 rfl ty3 rfl) <| ow_batch [.fa 116 1 1 fa116_1] rfl <| o1 rfl (r1 1 1 rfl ty3 rfl) <| ow_batch [.p] rfl <| ow_nil <| x_qs <| cI H rfl (fun H => ?_) (fun H => ?_)
  ·exact c_seq <| c_reg <| ow_batch [.p] rfl <| ow_nil <| x_qs <| c_ret <| x_qs_ret <| xr 4 rfl (by cases H; exact q1)
  ·exact c_skip <| x_qs <| c_seq <| c_reg <| ow_batch [.p] rfl <| ow_nil <| x_qs <| c_ret <| xr 4 rfl (by cases H; exact q1)
theorem laws_eqIntSS_ok (w : World) {p0 : List (List Int)} {p1 : List (List Int)} {a_0 : Option Addr} {n_0 c_0 : Nat} {a_1 : Option Addr} {n_1 c_1 : Nat} {r : Bool} (H : laws_eqIntSS p0 p1 = some r)  (g0 : (eList (eList (eVal (Value.int .i64) (fun _ => rfl)) 3) 59).rd w [] p0 [.slice a_0 n_0 c_0]) (g1 : (eList (eList (eVal (Value.int .i64) (fun _ => rfl)) 3) 59).rd w [] p1 [.slice a_1 n_1 c_1]) :
    Calls Tryz.prog 93 #[.slice a_0 n_0 c_0, .slice a_1 n_1 c_1] w (fun en w' => en = .returned (.bool r) ∧ Ext [] w w') := by
 obtain rfl := rd_n g0
 obtain rfl := rd_n g1
 unfold laws_eqIntSS at H
 refine f_enter (vs := [.slice a_0 p0.length c_0, .slice a_1 p1.length c_1]) Tryz.func93 rfl Tryz.ntmps93 rfl (St.init w []) <| c_seq <| c_reg <| ow_batch [.p] rfl <| ow_nil <| x_qs <| c_seq <| c_seq <| c_reg <| ow_batch [.p, .lenS 60 59 sl60, .p, .lenS 60 59 sl60, .p] rfl <| ow_nil <| x_qs <| cI H rfl (fun H => ?_) (fun H => ?_)
 ·exact c_seq <| c_reg <| ow_batch [.p] rfl <| ow_nil <| x_qs <| c_ret <| x_qs_ret <| xr 4 rfl (by cases H; exact q1)
 ·refine c_skip <| x_qs <| c_seq <| c_seq <| c_reg <| ow_batch [.p] rfl <| ow_nil <| x_qs <| c_block <| CW.at (loopI1 (fun (i29 : Int) => St w [] []) (fun (i29 : Int) => [(0, .slice a_0 p0.length c_0), (1, .slice a_1 p1.length c_1), (5, .int .i64 i29)]) (fun kk => fun (i29 : Int) => laws_eqIntSS_L1 p0 p1 kk i29 = some r) (fun _ H => ?_) (fun k1 ihk1 i29 H => ?_) Fuel (0) (H)) (fun _ h => St.sel [] rfl rfl h) ⟨rfl, rfl, rfl,  trivial⟩
  ·unfold laws_eqIntSS_L1 at H
   exact absurd H (by simp)
  ·unfold laws_eqIntSS_L1 at H
   refine c_seq <| c_seq <| c_reg <| ow_batch [.p, .p, .lenS 60 59 sl60, .p] rfl <| ow_nil <| x_qs <| cI H rfl (fun H => ?_) (fun H => ?_)
   ·refine c_skip <| x_qs <| c_seq <| c_block <| c_seq <| c_regQ mixed (by kernel_rfl) <| ow_batch [.p, .p] rfl <| bE H fun e49 h50 H => ow_ixB rfl rfl rfl rfl rfl sl60 ty59 rfl g0 h50 fun q53 c54 hd51 hA52 => ?_
    obtain ⟨a55, c56, rfl⟩ := rd_sl1 hd51
    refine o1 rfl (ry_load1 rfl rfl ty59 (at_bor bor hA52)) <| ow_batch [.p, .p] rfl <| bE H fun e57 h58 H => ow_ixB rfl rfl rfl rfl rfl sl60 ty59 rfl g1 h58 fun q61 c62 hd59 hA60 => ?_
    obtain ⟨a63, c64, rfl⟩ := rd_sl1 hd59
    refine o1 rfl (ry_load1 rfl rfl ty59 (at_bor bor hA60)) <| bE H fun y65 h66 H => oq rfl (qc rfl fn92 (fun w1 hw1 => laws_eqIntS_ok w1  h66 (rds_bor hd51 w1 hw1) (rds_bor hd59 w1 hw1))) tt2 <| ow_batch [.p] rfl <| ow_nilQ <| x_qs <| cI H rfl (fun H => ?_) (fun H => ?_)
    ·exact c_seq <| c_reg <| ow_batch [.p] rfl <| ow_nil <| x_qs <| c_ret <| x_qb_ret <| x_qs_ret <| x_ql_ret <| x_qb_ret <| x_qs_ret <| xr 4 rfl (by cases H; exact q1)
    ·exact c_skip <| x_qb <| x_qs <| c_reg <| ow_batch [.p, .p, .p] rfl <| ow_nil <| x_ql (RW.at (ihk1 (IntKind.i64.wrap (i29 + 1)) (H)) (fun _ h => St.sel [] rfl rfl h) ⟨rfl, rfl, rfl, trivial⟩)
   ·exact c_exit <| x_qs_exit <| x_ql_exit <| x_qb_here <| x_qs <| c_seq <| c_reg <| ow_batch [.p] rfl <| ow_nil <| x_qs <| c_ret <| xr 4 rfl (by cases H; exact q1)
theorem laws_eqStats_ok (w : World) {p0 : Timpl_Stats} {p1 : Timpl_Stats} {cs0 : List Value} {cs1 : List Value} {r : Bool} (H : laws_eqStats p0 p1 = some r)  (g0 : (eTimpl_Stats).rd w [] p0 cs0) (g1 : (eTimpl_Stats).rd w [] p1 cs1) :
    Calls Tryz.prog 29 #[.agg cs0.toArray, .agg cs1.toArray] w (fun en w' => en = .returned (.bool r) ∧ Ext [] w w') := by
 obtain ⟨c10, c11, rfl, g12, g13⟩ := rdo_Timpl_Stats g0
 obtain ⟨a14, c15, rfl⟩ := rd_sl1 g12
 obtain ⟨a16, c17, rfl⟩ := rd_sl1 g13
 obtain ⟨c18, c19, rfl, g20, g21⟩ := rdo_Timpl_Stats g1
 obtain ⟨a22, c23, rfl⟩ := rd_sl1 g20
 obtain ⟨a24, c25, rfl⟩ := rd_sl1 g21
 unfold laws_eqStats at H
 refine f_enter (vs := [.agg #[.slice a14 p0.Totals_.length c15, .slice a16 p0.Cells_.length c17], .agg #[.slice a22 p1.Totals_.length c23, .slice a24 p1.Cells_.length c25]]) Tryz.func29 rfl Tryz.ntmps29 rfl (St.init w []) <| c_seq <| c_reg <| ob [.slice a14 p0.Totals_.length c15, .slice a16 p0.Cells_.length c17] rfl fun b26 => ob [.slice a22 p1.Totals_.length c23, .slice a24 p1.Cells_.length c25] rfl fun b27 => ow_batch [.p] rfl <| ow_nil <| x_qs <| c_seq <| c_seq <| c_reg <| ow_batch [.fa 62 0 0 fa62_0] rfl <| o1 rfl (r1 0 0 rfl ty59 rfl) <| ow_batch [.fa 62 0 0 fa62_0] rfl <| o1 rfl (r1 0 1 rfl ty59 rfl) <| bE H fun y28 h29 H => oq rfl (qc rfl fn92 (fun w1 hw1 => laws_eqIntS_ok w1  h29 (rds_bor g12 w1 hw1) (rds_bor g20 w1 hw1))) tt2 <| ow_batch [.p] rfl <| ow_nil <| x_qs <| cI H rfl (fun H => ?_) (fun H => ?_)
 ·exact c_seq <| c_reg <| ow_batch [.p] rfl <| ow_nil <| x_qs <| c_ret <| x_qs_ret <| xr 4 rfl (by cases H; exact q1)
 ·refine c_skip <| x_qs <| c_seq <| c_seq <| c_reg <| ow_batch [.fa 62 1 1 fa62_1] rfl <| o1 rfl (r1 1 0 rfl ty60 rfl) <| ow_batch [.fa 62 1 1 fa62_1] rfl <| o1 rfl (r1 1 1 rfl ty60 rfl) <| bE H fun y30 h31 H => oq rfl (qc rfl fn93 (fun w1 hw1 => laws_eqIntSS_ok w1  h31 (rds_bor g13 w1 hw1) (rds_bor g21 w1 hw1))) tt2 <| ow_batch [.p] rfl <| ow_nil <| x_qs <| cI H rfl (fun H => ?_) (fun H => ?_)
  ·exact c_seq <| c_reg <| ow_batch [.p] rfl <| ow_nil <| x_qs <| c_ret <| x_qs_ret <| xr 4 rfl (by cases H; exact q1)
  ·exact c_skip <| x_qs <| c_seq <| c_reg <| ow_batch [.p] rfl <| ow_nil <| x_qs <| c_ret <| xr 4 rfl (by cases H; exact q1)
theorem laws_eqNode_ok (w : World) {p0 : Timpl_Node} {p1 : Timpl_Node} {cs0 : List Value} {cs1 : List Value} {r : Bool} (H : laws_eqNode p0 p1 = some r)  (g0 : (eTimpl_Node).rd w [] p0 cs0) (g1 : (eTimpl_Node).rd w [] p1 cs1) :
    Calls Tryz.prog 141 #[.agg cs0.toArray, .agg cs1.toArray] w (fun en w' => en = .returned (.bool r) ∧ Ext [] w w') := by
 obtain ⟨c10, c11, c12, c13, c14, c15, c16, c17, c18, c19, rfl, g20, g21, g22, g23, g24, g25, g26, g27, g28, g29⟩ := rdo_Timpl_Node g0
 obtain rfl : c10 = [.bool p0.Leaf_] := g20
 obtain rfl : c11 = [.int .i64 p0.Fork_.Attr_, .int .i64 p0.Fork_.At_] := g21
 obtain ⟨a30, c31, rfl⟩ := rd_sl1 g22
 obtain rfl : c13 = [.int .i64 p0.Miss_] := g23
 obtain ⟨c32, c33, rfl, g34, g35⟩ := rdo_Timpl_Stats g24
 obtain ⟨a36, c37, rfl⟩ := rd_sl1 g34
 obtain ⟨a38, c39, rfl⟩ := rd_sl1 g35
 obtain rfl : c15 = [.int .i64 p0.Since_] := g25
 obtain ⟨a40, c41, rfl⟩ := rd_sl1 g26
 obtain rfl : c17 = [.int .i64 p0.Depth_] := g27
 obtain rfl : c18 = [.int .i64 p0.Up_] := g28
 obtain rfl : c19 = [.int .i64 p0.Born_] := g29
 obtain ⟨c42, c43, c44, c45, c46, c47, c48, c49, c50, c51, rfl, g52, g53, g54, g55, g56, g57, g58, g59, g60, g61⟩ := rdo_Timpl_Node g1
 obtain rfl : c42 = [.bool p1.Leaf_] := g52
 obtain rfl : c43 = [.int .i64 p1.Fork_.Attr_, .int .i64 p1.Fork_.At_] := g53
 obtain ⟨a62, c63, rfl⟩ := rd_sl1 g54
 obtain rfl : c45 = [.int .i64 p1.Miss_] := g55
 obtain ⟨c64, c65, rfl, g66, g67⟩ := rdo_Timpl_Stats g56
 obtain ⟨a68, c69, rfl⟩ := rd_sl1 g66
 obtain ⟨a70, c71, rfl⟩ := rd_sl1 g67
 obtain rfl : c47 = [.int .i64 p1.Since_] := g57
 obtain ⟨a72, c73, rfl⟩ := rd_sl1 g58
 obtain rfl : c49 = [.int .i64 p1.Depth_] := g59
 obtain rfl : c50 = [.int .i64 p1.Up_] := g60
 obtain rfl : c51 = [.int .i64 p1.Born_] := g61
 unfold laws_eqNode at H
 refine f_enter (vs := [.agg #[.bool p0.Leaf_, .int .i64 p0.Fork_.Attr_, .int .i64 p0.Fork_.At_, .slice a30 p0.Kids_.length c31, .int .i64 p0.Miss_, .slice a36 p0.Stats_.Totals_.length c37, .slice a38 p0.Stats_.Cells_.length c39, .int .i64 p0.Since_, .slice a40 p0.Attrs_.length c41, .int .i64 p0.Depth_, .int .i64 p0.Up_, .int .i64 p0.Born_], .agg #[.bool p1.Leaf_, .int .i64 p1.Fork_.Attr_, .int .i64 p1.Fork_.At_, .slice a62 p1.Kids_.length c63, .int .i64 p1.Miss_, .slice a68 p1.Stats_.Totals_.length c69, .slice a70 p1.Stats_.Cells_.length c71, .int .i64 p1.Since_, .slice a72 p1.Attrs_.length c73, .int .i64 p1.Depth_, .int .i64 p1.Up_, .int .i64 p1.Born_]]) Tryz.func141 rfl Tryz.ntmps141 rfl (St.init w []) <| c_seq <| c_reg <| ob [.bool p0.Leaf_, .int .i64 p0.Fork_.Attr_, .int .i64 p0.Fork_.At_, .slice a30 p0.Kids_.length c31, .int .i64 p0.Miss_, .slice a36 p0.Stats_.Totals_.length c37, .slice a38 p0.Stats_.Cells_.length c39, .int .i64 p0.Since_, .slice a40 p0.Attrs_.length c41, .int .i64 p0.Depth_, .int .i64 p0.Up_, .int .i64 p0.Born_] rfl fun b74 => ob [.bool p1.Leaf_, .int .i64 p1.Fork_.Attr_, .int .i64 p1.Fork_.At_, .slice a62 p1.Kids_.length c63, .int .i64 p1.Miss_, .slice a68 p1.Stats_.Totals_.length c69, .slice a70 p1.Stats_.Cells_.length c71, .int .i64 p1.Since_, .slice a72 p1.Attrs_.length c73, .int .i64 p1.Depth_, .int .i64 p1.Up_, .int .i64 p1.Born_] rfl fun b75 => ow_batch [.p] rfl <| ow_nil <| x_qs <| c_seq <| c_seq <| c_reg <| ow_batch [.fa 118 0 0 fa118_0] rfl <| o1 rfl (r1 0 0 rfl ty4 rfl) <| ow_batch [.fa 118 0 0 fa118_0] rfl <| o1 rfl (r1 0 1 rfl ty4 rfl) <| o1 rfl (ry_bneq rfl rfl rfl bl4) <| ow_nil <| x_qs <| cI H rfl (fun H => ?_) (fun H => ?_)
 ·exact c_seq <| c_reg <| ow_batch [.p] rfl <| ow_nil <| x_qs <| c_ret <| x_qs_ret <| xr 4 rfl (by cases H; exact q1)
 ·refine c_skip <| x_qs <| c_seq <| c_seq <| c_reg <| ow_batch [.fa 118 1 1 fa118_1] rfl <| o1 rfl (rx 1 0 [.int .i64 p0.Fork_.Attr_, .int .i64 p0.Fork_.At_] rfl ty116 rfl) <| ow_batch [.fa 118 1 1 fa118_1] rfl <| o1 rfl (rx 1 1 [.int .i64 p1.Fork_.Attr_, .int .i64 p1.Fork_.At_] rfl ty116 rfl) <| bE H fun y76 h77 H => oq rfl (qc rfl fn212 (fun w1 hw1 => laws_eqFork_ok w1 (p0 := p0.Fork_) (p1 := p1.Fork_) h77)) tt2 <| ow_batch [.p] rfl <| ow_nil <| x_qs <| cI H rfl (fun H => ?_) (fun H => ?_)
  ·exact c_seq <| c_reg <| ow_batch [.p] rfl <| ow_nil <| x_qs <| c_ret <| x_qs_ret <| xr 4 rfl (by cases H; exact q1)
  ·refine c_skip <| x_qs <| c_seq <| c_seq <| c_reg <| ow_batch [.fa 118 2 3 fa118_2] rfl <| o1 rfl (r1 3 0 rfl ty59 rfl) <| ow_batch [.fa 118 2 3 fa118_2] rfl <| o1 rfl (r1 3 1 rfl ty59 rfl) <| bE H fun y78 h79 H => oq rfl (qc rfl fn92 (fun w1 hw1 => laws_eqIntS_ok w1  h79 (rds_bor g22 w1 hw1) (rds_bor g54 w1 hw1))) tt2 <| ow_batch [.p] rfl <| ow_nil <| x_qs <| cI H rfl (fun H => ?_) (fun H => ?_)
   ·exact c_seq <| c_reg <| ow_batch [.p] rfl <| ow_nil <| x_qs <| c_ret <| x_qs_ret <| xr 4 rfl (by cases H; exact q1)
   ·refine c_skip <| x_qs <| c_seq <| c_seq <| c_reg <| ow_batch [.fa 118 3 4 fa118_3] rfl <| o1 rfl (r1 4 0 rfl ty3 rfl) <| ow_batch [.fa 118 3 4 fa118_3] rfl <| o1 rfl (r1 4 1 rfl ty3 rfl) <| ow_batch [.p] rfl <| ow_nil <| x_qs <| cI H rfl (fun H => ?_) (fun H => ?_)
    ·exact c_seq <| c_reg <| ow_batch [.p] rfl <| ow_nil <| x_qs <| c_ret <| x_qs_ret <| xr 4 rfl (by cases H; exact q1)
    ·refine c_skip <| x_qs <| c_seq <| c_seq <| c_reg <| ow_batch [.fa 118 4 5 fa118_4] rfl <| o1 rfl (rx 5 0 [.slice a36 p0.Stats_.Totals_.length c37, .slice a38 p0.Stats_.Cells_.length c39] rfl ty62 rfl) <| ow_batch [.fa 118 4 5 fa118_4] rfl <| o1 rfl (rx 5 1 [.slice a68 p1.Stats_.Totals_.length c69, .slice a70 p1.Stats_.Cells_.length c71] rfl ty62 rfl) <| bE H fun y80 h81 H => oq rfl (qc rfl fn29 (fun w1 hw1 => laws_eqStats_ok w1 (cs0 := [.slice a36 p0.Stats_.Totals_.length c37, .slice a38 p0.Stats_.Cells_.length c39]) (cs1 := [.slice a68 p1.Stats_.Totals_.length c69, .slice a70 p1.Stats_.Cells_.length c71]) h81 (rdm_Timpl_Stats (x := p0.Stats_) (c0 := [.slice a36 p0.Stats_.Totals_.length c37]) (c1 := [.slice a38 p0.Stats_.Cells_.length c39]) (rds_bor g34 w1 hw1) (rds_bor g35 w1 hw1)) (rdm_Timpl_Stats (x := p1.Stats_) (c0 := [.slice a68 p1.Stats_.Totals_.length c69]) (c1 := [.slice a70 p1.Stats_.Cells_.length c71]) (rds_bor g66 w1 hw1) (rds_bor g67 w1 hw1)))) tt2 <| ow_batch [.p] rfl <| ow_nil <| x_qs <| cI H rfl (fun H => ?_) (fun H => ?_)
     ·exact c_seq <| c_reg <| ow_batch [.p] rfl <| ow_nil <| x_qs <| c_ret <| x_qs_ret <| xr 4 rfl (by cases H; exact q1)
     ·refine c_skip <| x_qs <| c_seq <| c_seq <| c_reg <| ow_batch [.fa 118 5 7 fa118_5] rfl <| o1 rfl (r1 7 0 rfl ty3 rfl) <| ow_batch [.fa 118 5 7 fa118_5] rfl <| o1 rfl (r1 7 1 rfl ty3 rfl) <| ow_batch [.p] rfl <| ow_nil <| x_qs <| cI H rfl (fun H => ?_) (fun H => ?_)
      ·exact c_seq <| c_reg <| ow_batch [.p] rfl <| ow_nil <| x_qs <| c_ret <| x_qs_ret <| xr 4 rfl (by cases H; exact q1)
      ·refine c_skip <| x_qs <| c_seq <| c_seq <| c_reg <| ow_batch [.fa 118 6 8 fa118_6] rfl <| o1 rfl (r1 8 0 rfl ty59 rfl) <| ow_batch [.fa 118 6 8 fa118_6] rfl <| o1 rfl (r1 8 1 rfl ty59 rfl) <| bE H fun y82 h83 H => oq rfl (qc rfl fn92 (fun w1 hw1 => laws_eqIntS_ok w1  h83 (rds_bor g26 w1 hw1) (rds_bor g58 w1 hw1))) tt2 <| ow_batch [.p] rfl <| ow_nil <| x_qs <| cI H rfl (fun H => ?_) (fun H => ?_)
       ·exact c_seq <| c_reg <| ow_batch [.p] rfl <| ow_nil <| x_qs <| c_ret <| x_qs_ret <| xr 4 rfl (by cases H; exact q1)
       ·refine c_skip <| x_qs <| c_seq <| c_seq <| c_reg <| ow_batch [.fa 118 7 9 fa118_7] rfl <| o1 rfl (r1 9 0 rfl ty3 rfl) <| ow_batch [.fa 118 7 9 fa118_7] rfl <| o1 rfl (r1 9 1 rfl ty3 rfl) <| ow_batch [.p] rfl <| ow_nil <| x_qs <| cI H rfl (fun H => ?_) (fun H => ?_)
        ·exact c_seq <| c_reg <| ow_batch [.p] rfl <| ow_nil <| x_qs <| c_ret <| x_qs_ret <| xr 4 rfl (by cases H; exact q1)
        ·refine c_skip <| x_qs <| c_seq <| c_seq <| c_reg <| ow_batch [.fa 118 8 10 fa118_8] rfl <| o1 rfl (r1 10 0 rfl ty3 rfl) <| ow_batch [.fa 118 8 10 fa118_8] rfl <| o1 rfl (r1 10 1 rfl ty3 rfl) <| ow_batch [.p] rfl <| ow_nil <| x_qs <| cI H rfl (fun H => ?_) (fun H => ?_)
         ·exact c_seq <| c_reg <| ow_batch [.p] rfl <| ow_nil <| x_qs <| c_ret <| x_qs_ret <| xr 4 rfl (by cases H; exact q1)
         ·refine c_skip <| x_qs <| c_seq <| c_seq <| c_reg <| ow_batch [.fa 118 9 11 fa118_9] rfl <| o1 rfl (r1 11 0 rfl ty3 rfl) <| ow_batch [.fa 118 9 11 fa118_9] rfl <| o1 rfl (r1 11 1 rfl ty3 rfl) <| ow_batch [.p] rfl <| ow_nil <| x_qs <| cI H rfl (fun H => ?_) (fun H => ?_)
          ·exact c_seq <| c_reg <| ow_batch [.p] rfl <| ow_nil <| x_qs <| c_ret <| x_qs_ret <| xr 4 rfl (by cases H; exact q1)
          ·exact c_skip <| x_qs <| c_seq <| c_reg <| ow_batch [.p] rfl <| ow_nil <| x_qs <| c_ret <| xr 4 rfl (by cases H; exact q1)
end Go.Vk
