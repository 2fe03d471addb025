/- The code does what the functions of data say. Printed by program. -/

import Derived.Test.YtjflgcighcjfkaaDoorRF

import Derived.Test.YtjflgcighcjfkaaDoorChecked

import Derived.Test.YtjflgcighcjfkaaDoorShelf

namespace Go.Vk

open Go.Proofs Go.RowKit



def eTlaws_Attr : Enc Tlaws_Attr := eIso (ePair (eStr) (ePair (eList (eVal (Value.int .i64) (fun _ => rfl)) 3) (eList (eStr) 9))) (fun x => (x.Name_, x.Cuts_, x.Values_))

theorem rdm_Tlaws_Attr {w : World} {X : List Nat} {x : Tlaws_Attr} {c0 c1 c2 : List Value} (h0 : (eStr).rd w X x.Name_ c0) (h1 : (eList (eVal (Value.int .i64) (fun _ => rfl)) 3).rd w X x.Cuts_ c1) (h2 : (eList (eStr) 9).rd w X x.Values_ c2) : (eTlaws_Attr).rd w X x (c0 ++ (c1 ++ c2)) := by
  show (ePair (eStr) (ePair (eList (eVal (Value.int .i64) (fun _ => rfl)) 3) (eList (eStr) 9))).rd w X (x.Name_, x.Cuts_, x.Values_) _
  exact (ePair_rd h0 (ePair_rd h1 h2))

theorem rdo_Tlaws_Attr {w : World} {X : List Nat} {x : Tlaws_Attr} {cs : List Value} (h : (eTlaws_Attr).rd w X x cs) : ∃ c0 c1 c2, cs = (c0 ++ (c1 ++ c2)) ∧ (eStr).rd w X x.Name_ c0 ∧ (eList (eVal (Value.int .i64) (fun _ => rfl)) 3).rd w X x.Cuts_ c1 ∧ (eList (eStr) 9).rd w X x.Values_ c2 := by
  have h : (ePair (eStr) (ePair (eList (eVal (Value.int .i64) (fun _ => rfl)) 3) (eList (eStr) 9))).rd w X (x.Name_, x.Cuts_, x.Values_) cs := h
  obtain ⟨c0, d0, rfl, h0, r0⟩ := h
  obtain ⟨c1, c2, rfl, h1, h2⟩ := r0
  exact ⟨c0, c1, c2, rfl, h0, h1, h2⟩

def eTlaws_Schema : Enc Tlaws_Schema := eIso (ePair (eList (eTlaws_Attr) 145) (eList (eStr) 9)) (fun x => (x.Attrs_, x.Classes_))

theorem rdm_Tlaws_Schema {w : World} {X : List Nat} {x : Tlaws_Schema} {c0 c1 : List Value} (h0 : (eList (eTlaws_Attr) 145).rd w X x.Attrs_ c0) (h1 : (eList (eStr) 9).rd w X x.Classes_ c1) : (eTlaws_Schema).rd w X x (c0 ++ c1) := by
  show (ePair (eList (eTlaws_Attr) 145) (eList (eStr) 9)).rd w X (x.Attrs_, x.Classes_) _
  exact (ePair_rd h0 h1)

theorem rdo_Tlaws_Schema {w : World} {X : List Nat} {x : Tlaws_Schema} {cs : List Value} (h : (eTlaws_Schema).rd w X x cs) : ∃ c0 c1, cs = (c0 ++ c1) ∧ (eList (eTlaws_Attr) 145).rd w X x.Attrs_ c0 ∧ (eList (eStr) 9).rd w X x.Classes_ c1 := by
  have h : (ePair (eList (eTlaws_Attr) 145) (eList (eStr) 9)).rd w X (x.Attrs_, x.Classes_) cs := h
  obtain ⟨c0, c1, rfl, h0, h1⟩ := h
  exact ⟨c0, c1, rfl, h0, h1⟩

def eTlaws_Stats : Enc Tlaws_Stats := eIso (ePair (eList (eVal (Value.int .i64) (fun _ => rfl)) 3) (eList (eList (eVal (Value.int .i64) (fun _ => rfl)) 3) 22)) (fun x => (x.Totals_, x.Cells_))

theorem rdm_Tlaws_Stats {w : World} {X : List Nat} {x : Tlaws_Stats} {c0 c1 : List Value} (h0 : (eList (eVal (Value.int .i64) (fun _ => rfl)) 3).rd w X x.Totals_ c0) (h1 : (eList (eList (eVal (Value.int .i64) (fun _ => rfl)) 3) 22).rd w X x.Cells_ c1) : (eTlaws_Stats).rd w X x (c0 ++ c1) := by
  show (ePair (eList (eVal (Value.int .i64) (fun _ => rfl)) 3) (eList (eList (eVal (Value.int .i64) (fun _ => rfl)) 3) 22)).rd w X (x.Totals_, x.Cells_) _
  exact (ePair_rd h0 h1)

theorem rdo_Tlaws_Stats {w : World} {X : List Nat} {x : Tlaws_Stats} {cs : List Value} (h : (eTlaws_Stats).rd w X x cs) : ∃ c0 c1, cs = (c0 ++ c1) ∧ (eList (eVal (Value.int .i64) (fun _ => rfl)) 3).rd w X x.Totals_ c0 ∧ (eList (eList (eVal (Value.int .i64) (fun _ => rfl)) 3) 22).rd w X x.Cells_ c1 := by
  have h : (ePair (eList (eVal (Value.int .i64) (fun _ => rfl)) 3) (eList (eList (eVal (Value.int .i64) (fun _ => rfl)) 3) 22)).rd w X (x.Totals_, x.Cells_) cs := h
  obtain ⟨c0, c1, rfl, h0, h1⟩ := h
  exact ⟨c0, c1, rfl, h0, h1⟩

def eTlaws_Fork : Enc Tlaws_Fork := eFlat (fun x => [.int .i64 x.Attr_, .int .i64 x.At_]) 2 (fun _ => rfl) (by intro x u hu; simp only [List.mem_cons, List.not_mem_nil, or_false] at hu; rcases hu with rfl | rfl <;> rfl)

def eTlaws_Node : Enc Tlaws_Node := eIso (ePair (eBool) (ePair (eTlaws_Fork) (ePair (eList (eVal (Value.int .i64) (fun _ => rfl)) 3) (ePair (eVal (Value.int .i64) (fun _ => rfl)) (ePair (eTlaws_Stats) (ePair (eVal (Value.int .i64) (fun _ => rfl)) (ePair (eList (eVal (Value.int .i64) (fun _ => rfl)) 3) (ePair (eVal (Value.int .i64) (fun _ => rfl)) (ePair (eVal (Value.int .i64) (fun _ => rfl)) (eVal (Value.int .i64) (fun _ => rfl))))))))))) (fun x => (x.Leaf_, x.Fork_, x.Kids_, x.Miss_, x.Stats_, x.Since_, x.Attrs_, x.Depth_, x.Up_, x.Born_))

theorem rdm_Tlaws_Node {w : World} {X : List Nat} {x : Tlaws_Node} {c0 c1 c2 c3 c4 c5 c6 c7 c8 c9 : List Value} (h0 : (eBool).rd w X x.Leaf_ c0) (h1 : (eTlaws_Fork).rd w X x.Fork_ c1) (h2 : (eList (eVal (Value.int .i64) (fun _ => rfl)) 3).rd w X x.Kids_ c2) (h3 : (eVal (Value.int .i64) (fun _ => rfl)).rd w X x.Miss_ c3) (h4 : (eTlaws_Stats).rd w X x.Stats_ c4) (h5 : (eVal (Value.int .i64) (fun _ => rfl)).rd w X x.Since_ c5) (h6 : (eList (eVal (Value.int .i64) (fun _ => rfl)) 3).rd w X x.Attrs_ c6) (h7 : (eVal (Value.int .i64) (fun _ => rfl)).rd w X x.Depth_ c7) (h8 : (eVal (Value.int .i64) (fun _ => rfl)).rd w X x.Up_ c8) (h9 : (eVal (Value.int .i64) (fun _ => rfl)).rd w X x.Born_ c9) : (eTlaws_Node).rd w X x (c0 ++ (c1 ++ (c2 ++ (c3 ++ (c4 ++ (c5 ++ (c6 ++ (c7 ++ (c8 ++ c9))))))))) := by
  show (ePair (eBool) (ePair (eTlaws_Fork) (ePair (eList (eVal (Value.int .i64) (fun _ => rfl)) 3) (ePair (eVal (Value.int .i64) (fun _ => rfl)) (ePair (eTlaws_Stats) (ePair (eVal (Value.int .i64) (fun _ => rfl)) (ePair (eList (eVal (Value.int .i64) (fun _ => rfl)) 3) (ePair (eVal (Value.int .i64) (fun _ => rfl)) (ePair (eVal (Value.int .i64) (fun _ => rfl)) (eVal (Value.int .i64) (fun _ => rfl))))))))))).rd w X (x.Leaf_, x.Fork_, x.Kids_, x.Miss_, x.Stats_, x.Since_, x.Attrs_, x.Depth_, x.Up_, x.Born_) _
  exact (ePair_rd h0 (ePair_rd h1 (ePair_rd h2 (ePair_rd h3 (ePair_rd h4 (ePair_rd h5 (ePair_rd h6 (ePair_rd h7 (ePair_rd h8 h9)))))))))

theorem rdo_Tlaws_Node {w : World} {X : List Nat} {x : Tlaws_Node} {cs : List Value} (h : (eTlaws_Node).rd w X x cs) : ∃ c0 c1 c2 c3 c4 c5 c6 c7 c8 c9, cs = (c0 ++ (c1 ++ (c2 ++ (c3 ++ (c4 ++ (c5 ++ (c6 ++ (c7 ++ (c8 ++ c9))))))))) ∧ (eBool).rd w X x.Leaf_ c0 ∧ (eTlaws_Fork).rd w X x.Fork_ c1 ∧ (eList (eVal (Value.int .i64) (fun _ => rfl)) 3).rd w X x.Kids_ c2 ∧ (eVal (Value.int .i64) (fun _ => rfl)).rd w X x.Miss_ c3 ∧ (eTlaws_Stats).rd w X x.Stats_ c4 ∧ (eVal (Value.int .i64) (fun _ => rfl)).rd w X x.Since_ c5 ∧ (eList (eVal (Value.int .i64) (fun _ => rfl)) 3).rd w X x.Attrs_ c6 ∧ (eVal (Value.int .i64) (fun _ => rfl)).rd w X x.Depth_ c7 ∧ (eVal (Value.int .i64) (fun _ => rfl)).rd w X x.Up_ c8 ∧ (eVal (Value.int .i64) (fun _ => rfl)).rd w X x.Born_ c9 := by
  have h : (ePair (eBool) (ePair (eTlaws_Fork) (ePair (eList (eVal (Value.int .i64) (fun _ => rfl)) 3) (ePair (eVal (Value.int .i64) (fun _ => rfl)) (ePair (eTlaws_Stats) (ePair (eVal (Value.int .i64) (fun _ => rfl)) (ePair (eList (eVal (Value.int .i64) (fun _ => rfl)) 3) (ePair (eVal (Value.int .i64) (fun _ => rfl)) (ePair (eVal (Value.int .i64) (fun _ => rfl)) (eVal (Value.int .i64) (fun _ => rfl))))))))))).rd w X (x.Leaf_, x.Fork_, x.Kids_, x.Miss_, x.Stats_, x.Since_, x.Attrs_, x.Depth_, x.Up_, x.Born_) cs := h
  obtain ⟨c0, d0, rfl, h0, r0⟩ := h
  obtain ⟨c1, d1, rfl, h1, r1⟩ := r0
  obtain ⟨c2, d2, rfl, h2, r2⟩ := r1
  obtain ⟨c3, d3, rfl, h3, r3⟩ := r2
  obtain ⟨c4, d4, rfl, h4, r4⟩ := r3
  obtain ⟨c5, d5, rfl, h5, r5⟩ := r4
  obtain ⟨c6, d6, rfl, h6, r6⟩ := r5
  obtain ⟨c7, d7, rfl, h7, r7⟩ := r6
  obtain ⟨c8, c9, rfl, h8, h9⟩ := r7
  exact ⟨c0, c1, c2, c3, c4, c5, c6, c7, c8, c9, rfl, h0, h1, h2, h3, h4, h5, h6, h7, h8, h9⟩

def eTimpl_Attr : Enc Timpl_Attr := eIso (ePair (eStr) (ePair (eList (eVal (Value.int .i64) (fun _ => rfl)) 3) (eList (eStr) 9))) (fun x => (x.Name_, x.Cuts_, x.Values_))

theorem rdm_Timpl_Attr {w : World} {X : List Nat} {x : Timpl_Attr} {c0 c1 c2 : List Value} (h0 : (eStr).rd w X x.Name_ c0) (h1 : (eList (eVal (Value.int .i64) (fun _ => rfl)) 3).rd w X x.Cuts_ c1) (h2 : (eList (eStr) 9).rd w X x.Values_ c2) : (eTimpl_Attr).rd w X x (c0 ++ (c1 ++ c2)) := by
  show (ePair (eStr) (ePair (eList (eVal (Value.int .i64) (fun _ => rfl)) 3) (eList (eStr) 9))).rd w X (x.Name_, x.Cuts_, x.Values_) _
  exact (ePair_rd h0 (ePair_rd h1 h2))

theorem rdo_Timpl_Attr {w : World} {X : List Nat} {x : Timpl_Attr} {cs : List Value} (h : (eTimpl_Attr).rd w X x cs) : ∃ c0 c1 c2, cs = (c0 ++ (c1 ++ c2)) ∧ (eStr).rd w X x.Name_ c0 ∧ (eList (eVal (Value.int .i64) (fun _ => rfl)) 3).rd w X x.Cuts_ c1 ∧ (eList (eStr) 9).rd w X x.Values_ c2 := by
  have h : (ePair (eStr) (ePair (eList (eVal (Value.int .i64) (fun _ => rfl)) 3) (eList (eStr) 9))).rd w X (x.Name_, x.Cuts_, x.Values_) cs := h
  obtain ⟨c0, d0, rfl, h0, r0⟩ := h
  obtain ⟨c1, c2, rfl, h1, h2⟩ := r0
  exact ⟨c0, c1, c2, rfl, h0, h1, h2⟩

theorem ownm_Timpl_Attr {w : World} {F0 F1 F2 : List Nat} {x : Timpl_Attr} {c0 c1 c2 : List Value} (h0 : (eStr).own w F0 x.Name_ c0) (h1 : (eList (eVal (Value.int .i64) (fun _ => rfl)) 3).own w F1 x.Cuts_ c1) (h2 : (eList (eStr) 9).own w F2 x.Values_ c2) : (eTimpl_Attr).own w (F0 ++ (F1 ++ F2)) x (c0 ++ (c1 ++ c2)) := by
  show (ePair (eStr) (ePair (eList (eVal (Value.int .i64) (fun _ => rfl)) 3) (eList (eStr) 9))).own w _ (x.Name_, x.Cuts_, x.Values_) _
  exact (ePair_own h0 (ePair_own h1 h2))

theorem owno_Timpl_Attr {w : World} {F : List Nat} {x : Timpl_Attr} {cs : List Value} (h : (eTimpl_Attr).own w F x cs) : ∃ F0 F1 F2 c0 c1 c2, F = (F0 ++ (F1 ++ F2)) ∧ cs = (c0 ++ (c1 ++ c2)) ∧ (eStr).own w F0 x.Name_ c0 ∧ (eList (eVal (Value.int .i64) (fun _ => rfl)) 3).own w F1 x.Cuts_ c1 ∧ (eList (eStr) 9).own w F2 x.Values_ c2 := by
  have h : (ePair (eStr) (ePair (eList (eVal (Value.int .i64) (fun _ => rfl)) 3) (eList (eStr) 9))).own w F (x.Name_, x.Cuts_, x.Values_) cs := h
  obtain ⟨F0, G0, c0, d0, rfl, rfl, h0, r0⟩ := h
  obtain ⟨F1, F2, c1, c2, rfl, rfl, h1, h2⟩ := r0
  exact ⟨F0, F1, F2, c0, c1, c2, rfl, rfl, h0, h1, h2⟩

theorem opn_Timpl_Attr {w0 : World} {M : List Nat} {L : List Res} {w : World} {F : List Nat} {x : Timpl_Attr} {cs : List Value} {i : Nat} (h : St w0 M L w) (hi : L[i]? = some (Res.own (eTimpl_Attr) F x cs)) :
    ∃ (a_1 : Option Addr) (k_1 : Nat) (F_1 : List Nat), ∃ (a_2 : Option Addr) (k_2 : Nat) (F_2 : List Nat), cs = [vS x.Name_, .slice a_1 (x.Cuts_).length k_1, .slice a_2 (x.Values_).length k_2] ∧ St w0 M (nilAt L [i] ++ [Res.own (eList (eVal (Value.int .i64) (fun _ => rfl)) 3) F_1 x.Cuts_ [.slice a_1 (x.Cuts_).length k_1], Res.own (eList (eStr) 9) F_2 x.Values_ [.slice a_2 (x.Values_).length k_2]]) w := by
  obtain ⟨hok, _, _⟩ := h.one hi
  have hok : (eTimpl_Attr).own w F x cs := hok
  obtain ⟨F1_0, F1_1, F1_2, c1_0, c1_1, c1_2, rfl, rfl, h1_0, h1_1, h1_2⟩ := owno_Timpl_Attr hok
  obtain ⟨rfl, rfl⟩ : F1_0 = [] ∧ c1_0 = [vS x.Name_] := h1_0
  obtain ⟨a2, k2, rfl⟩ := own_sl1 h1_1
  obtain ⟨a3, k3, rfl⟩ := own_sl1 h1_2
  refine ⟨a2, k2, F1_1, a3, k3, F1_2, rfl, h.re [i] _ rfl ?_ ?_⟩
  · simp [selR_cons, selR_nil, hi, foot, Res.own]
  · intro s hs; simp only [List.mem_cons, List.not_mem_nil, or_false] at hs; rcases hs with rfl | rfl
    · exact h1_1
    · exact h1_2

theorem fus_Timpl_Attr {w0 : World} {M : List Nat} {L : List Res} {w : World} {x0 : List UInt8} {x1 : List Int} {a1 : Option Addr} {n1 k1 : Nat} {G1 : List Nat} {x2 : List (List UInt8)} {a2 : Option Addr} {n2 k2 : Nat} {G2 : List Nat} (idx : List Nat) (h : St w0 M L w) (hs : selR L idx = [Res.own (eList (eVal (Value.int .i64) (fun _ => rfl)) 3) G1 x1 [.slice a1 n1 k1], Res.own (eList (eStr) 9) G2 x2 [.slice a2 n2 k2]]) (hn : nodB idx = true) :
    ∃ F, St w0 M (nilAt L idx ++ [Res.own (eTimpl_Attr) F (Timpl_Attr.mk x0 x1 x2) [vS x0, .slice a1 n1 k1, .slice a2 n2 k2]]) w := by
  have o0 : (eList (eVal (Value.int .i64) (fun _ => rfl)) 3).own w G1 x1 [.slice a1 n1 k1] := h.ok' (mem_sel (L := L) (is := idx) (by rw [hs]; simp : Res.own (eList (eVal (Value.int .i64) (fun _ => rfl)) 3) G1 x1 [.slice a1 n1 k1] ∈ selR L idx))
  have o1 : (eList (eStr) 9).own w G2 x2 [.slice a2 n2 k2] := h.ok' (mem_sel (L := L) (is := idx) (by rw [hs]; simp : Res.own (eList (eStr) 9) G2 x2 [.slice a2 n2 k2] ∈ selR L idx))
  have ho := (ownm_Timpl_Attr (x := (Timpl_Attr.mk x0 x1 x2)) (⟨rfl, rfl⟩ : (eStr).own w [] _ _) o0 o1)
  refine ⟨_, h.re idx [Res.own (eTimpl_Attr) _ (Timpl_Attr.mk x0 x1 x2) [vS x0, .slice a1 n1 k1, .slice a2 n2 k2]] hn ?_ (fun s hs => by rw [List.mem_singleton.1 hs]; exact ho)⟩
  rw [hs]
  simp [foot, Res.own]

def eTimpl_Schema : Enc Timpl_Schema := eIso (ePair (eList (eTimpl_Attr) 105) (eList (eStr) 9)) (fun x => (x.Attrs_, x.Classes_))

theorem rdm_Timpl_Schema {w : World} {X : List Nat} {x : Timpl_Schema} {c0 c1 : List Value} (h0 : (eList (eTimpl_Attr) 105).rd w X x.Attrs_ c0) (h1 : (eList (eStr) 9).rd w X x.Classes_ c1) : (eTimpl_Schema).rd w X x (c0 ++ c1) := by
  show (ePair (eList (eTimpl_Attr) 105) (eList (eStr) 9)).rd w X (x.Attrs_, x.Classes_) _
  exact (ePair_rd h0 h1)

theorem rdo_Timpl_Schema {w : World} {X : List Nat} {x : Timpl_Schema} {cs : List Value} (h : (eTimpl_Schema).rd w X x cs) : ∃ c0 c1, cs = (c0 ++ c1) ∧ (eList (eTimpl_Attr) 105).rd w X x.Attrs_ c0 ∧ (eList (eStr) 9).rd w X x.Classes_ c1 := by
  have h : (ePair (eList (eTimpl_Attr) 105) (eList (eStr) 9)).rd w X (x.Attrs_, x.Classes_) cs := h
  obtain ⟨c0, c1, rfl, h0, h1⟩ := h
  exact ⟨c0, c1, rfl, h0, h1⟩

def eTimpl_Stats : Enc Timpl_Stats := eIso (ePair (eList (eVal (Value.int .i64) (fun _ => rfl)) 3) (eList (eList (eVal (Value.int .i64) (fun _ => rfl)) 3) 22)) (fun x => (x.Totals_, x.Cells_))

theorem rdm_Timpl_Stats {w : World} {X : List Nat} {x : Timpl_Stats} {c0 c1 : List Value} (h0 : (eList (eVal (Value.int .i64) (fun _ => rfl)) 3).rd w X x.Totals_ c0) (h1 : (eList (eList (eVal (Value.int .i64) (fun _ => rfl)) 3) 22).rd w X x.Cells_ c1) : (eTimpl_Stats).rd w X x (c0 ++ c1) := by
  show (ePair (eList (eVal (Value.int .i64) (fun _ => rfl)) 3) (eList (eList (eVal (Value.int .i64) (fun _ => rfl)) 3) 22)).rd w X (x.Totals_, x.Cells_) _
  exact (ePair_rd h0 h1)

theorem rdo_Timpl_Stats {w : World} {X : List Nat} {x : Timpl_Stats} {cs : List Value} (h : (eTimpl_Stats).rd w X x cs) : ∃ c0 c1, cs = (c0 ++ c1) ∧ (eList (eVal (Value.int .i64) (fun _ => rfl)) 3).rd w X x.Totals_ c0 ∧ (eList (eList (eVal (Value.int .i64) (fun _ => rfl)) 3) 22).rd w X x.Cells_ c1 := by
  have h : (ePair (eList (eVal (Value.int .i64) (fun _ => rfl)) 3) (eList (eList (eVal (Value.int .i64) (fun _ => rfl)) 3) 22)).rd w X (x.Totals_, x.Cells_) cs := h
  obtain ⟨c0, c1, rfl, h0, h1⟩ := h
  exact ⟨c0, c1, rfl, h0, h1⟩

def eTimpl_Fork : Enc Timpl_Fork := eFlat (fun x => [.int .i64 x.Attr_, .int .i64 x.At_]) 2 (fun _ => rfl) (by intro x u hu; simp only [List.mem_cons, List.not_mem_nil, or_false] at hu; rcases hu with rfl | rfl <;> rfl)

def eTimpl_Node : Enc Timpl_Node := eIso (ePair (eBool) (ePair (eTimpl_Fork) (ePair (eList (eVal (Value.int .i64) (fun _ => rfl)) 3) (ePair (eVal (Value.int .i64) (fun _ => rfl)) (ePair (eTimpl_Stats) (ePair (eVal (Value.int .i64) (fun _ => rfl)) (ePair (eList (eVal (Value.int .i64) (fun _ => rfl)) 3) (ePair (eVal (Value.int .i64) (fun _ => rfl)) (ePair (eVal (Value.int .i64) (fun _ => rfl)) (eVal (Value.int .i64) (fun _ => rfl))))))))))) (fun x => (x.Leaf_, x.Fork_, x.Kids_, x.Miss_, x.Stats_, x.Since_, x.Attrs_, x.Depth_, x.Up_, x.Born_))

theorem rdm_Timpl_Node {w : World} {X : List Nat} {x : Timpl_Node} {c0 c1 c2 c3 c4 c5 c6 c7 c8 c9 : List Value} (h0 : (eBool).rd w X x.Leaf_ c0) (h1 : (eTimpl_Fork).rd w X x.Fork_ c1) (h2 : (eList (eVal (Value.int .i64) (fun _ => rfl)) 3).rd w X x.Kids_ c2) (h3 : (eVal (Value.int .i64) (fun _ => rfl)).rd w X x.Miss_ c3) (h4 : (eTimpl_Stats).rd w X x.Stats_ c4) (h5 : (eVal (Value.int .i64) (fun _ => rfl)).rd w X x.Since_ c5) (h6 : (eList (eVal (Value.int .i64) (fun _ => rfl)) 3).rd w X x.Attrs_ c6) (h7 : (eVal (Value.int .i64) (fun _ => rfl)).rd w X x.Depth_ c7) (h8 : (eVal (Value.int .i64) (fun _ => rfl)).rd w X x.Up_ c8) (h9 : (eVal (Value.int .i64) (fun _ => rfl)).rd w X x.Born_ c9) : (eTimpl_Node).rd w X x (c0 ++ (c1 ++ (c2 ++ (c3 ++ (c4 ++ (c5 ++ (c6 ++ (c7 ++ (c8 ++ c9))))))))) := by
  show (ePair (eBool) (ePair (eTimpl_Fork) (ePair (eList (eVal (Value.int .i64) (fun _ => rfl)) 3) (ePair (eVal (Value.int .i64) (fun _ => rfl)) (ePair (eTimpl_Stats) (ePair (eVal (Value.int .i64) (fun _ => rfl)) (ePair (eList (eVal (Value.int .i64) (fun _ => rfl)) 3) (ePair (eVal (Value.int .i64) (fun _ => rfl)) (ePair (eVal (Value.int .i64) (fun _ => rfl)) (eVal (Value.int .i64) (fun _ => rfl))))))))))).rd w X (x.Leaf_, x.Fork_, x.Kids_, x.Miss_, x.Stats_, x.Since_, x.Attrs_, x.Depth_, x.Up_, x.Born_) _
  exact (ePair_rd h0 (ePair_rd h1 (ePair_rd h2 (ePair_rd h3 (ePair_rd h4 (ePair_rd h5 (ePair_rd h6 (ePair_rd h7 (ePair_rd h8 h9)))))))))

theorem rdo_Timpl_Node {w : World} {X : List Nat} {x : Timpl_Node} {cs : List Value} (h : (eTimpl_Node).rd w X x cs) : ∃ c0 c1 c2 c3 c4 c5 c6 c7 c8 c9, cs = (c0 ++ (c1 ++ (c2 ++ (c3 ++ (c4 ++ (c5 ++ (c6 ++ (c7 ++ (c8 ++ c9))))))))) ∧ (eBool).rd w X x.Leaf_ c0 ∧ (eTimpl_Fork).rd w X x.Fork_ c1 ∧ (eList (eVal (Value.int .i64) (fun _ => rfl)) 3).rd w X x.Kids_ c2 ∧ (eVal (Value.int .i64) (fun _ => rfl)).rd w X x.Miss_ c3 ∧ (eTimpl_Stats).rd w X x.Stats_ c4 ∧ (eVal (Value.int .i64) (fun _ => rfl)).rd w X x.Since_ c5 ∧ (eList (eVal (Value.int .i64) (fun _ => rfl)) 3).rd w X x.Attrs_ c6 ∧ (eVal (Value.int .i64) (fun _ => rfl)).rd w X x.Depth_ c7 ∧ (eVal (Value.int .i64) (fun _ => rfl)).rd w X x.Up_ c8 ∧ (eVal (Value.int .i64) (fun _ => rfl)).rd w X x.Born_ c9 := by
  have h : (ePair (eBool) (ePair (eTimpl_Fork) (ePair (eList (eVal (Value.int .i64) (fun _ => rfl)) 3) (ePair (eVal (Value.int .i64) (fun _ => rfl)) (ePair (eTimpl_Stats) (ePair (eVal (Value.int .i64) (fun _ => rfl)) (ePair (eList (eVal (Value.int .i64) (fun _ => rfl)) 3) (ePair (eVal (Value.int .i64) (fun _ => rfl)) (ePair (eVal (Value.int .i64) (fun _ => rfl)) (eVal (Value.int .i64) (fun _ => rfl))))))))))).rd w X (x.Leaf_, x.Fork_, x.Kids_, x.Miss_, x.Stats_, x.Since_, x.Attrs_, x.Depth_, x.Up_, x.Born_) cs := h
  obtain ⟨c0, d0, rfl, h0, r0⟩ := h
  obtain ⟨c1, d1, rfl, h1, r1⟩ := r0
  obtain ⟨c2, d2, rfl, h2, r2⟩ := r1
  obtain ⟨c3, d3, rfl, h3, r3⟩ := r2
  obtain ⟨c4, d4, rfl, h4, r4⟩ := r3
  obtain ⟨c5, d5, rfl, h5, r5⟩ := r4
  obtain ⟨c6, d6, rfl, h6, r6⟩ := r5
  obtain ⟨c7, d7, rfl, h7, r7⟩ := r6
  obtain ⟨c8, c9, rfl, h8, h9⟩ := r7
  exact ⟨c0, c1, c2, c3, c4, c5, c6, c7, c8, c9, rfl, h0, h1, h2, h3, h4, h5, h6, h7, h8, h9⟩

theorem sl22 : isSl Tryd.prog 22 3 := isSl_of (by kernel_rfl)

theorem sl48 : isSl Tryd.prog 48 9 := isSl_of (by kernel_rfl)

theorem ty9 : isTy Tryd.prog 9 false 1 16 [vS []] := isTy_of (by kernel_rfl)

theorem st9 : isStr Tryd.prog 9 := isStr_of (by kernel_rfl)

theorem fa145_0 : isFa Tryd.prog 145 0 0 := isFa_of (by kernel_rfl)

theorem fa145_1 : isFa Tryd.prog 145 1 1 := isFa_of (by kernel_rfl)

theorem ty22 : isTy Tryd.prog 22 false 1 24 [.slice none 0 0] := isTy_of (by kernel_rfl)

set_option maxRecDepth 100000 in
theorem fn66 : isFn Tryd.prog 66 := ⟨Tryd.f66, Tryd.func66, rfl, by decide⟩

theorem fa145_2 : isFa Tryd.prog 145 2 2 := isFa_of (by kernel_rfl)

theorem ty48 : isTy Tryd.prog 48 false 1 24 [.slice none 0 0] := isTy_of (by kernel_rfl)

set_option maxRecDepth 100000 in
theorem fn65 : isFn Tryd.prog 65 := ⟨Tryd.f65, Tryd.func65, rfl, by decide⟩

theorem sl47 : isSl Tryd.prog 47 145 := isSl_of (by kernel_rfl)

theorem ty145 : isTy Tryd.prog 145 true 3 64 [vS [], .slice none 0 0, .slice none 0 0] := isTy_of (by kernel_rfl)

set_option maxRecDepth 100000 in
theorem fn110 : isFn Tryd.prog 110 := ⟨Tryd.f110, Tryd.func110, rfl, by decide⟩

theorem fa50_0 : isFa Tryd.prog 50 0 0 := isFa_of (by kernel_rfl)

theorem ty47 : isTy Tryd.prog 47 false 1 24 [.slice none 0 0] := isTy_of (by kernel_rfl)

set_option maxRecDepth 100000 in
theorem fn64 : isFn Tryd.prog 64 := ⟨Tryd.f64, Tryd.func64, rfl, by decide⟩

theorem fa50_1 : isFa Tryd.prog 50 1 1 := isFa_of (by kernel_rfl)

theorem sl27 : isSl Tryd.prog 27 22 := isSl_of (by kernel_rfl)

theorem fa68_0 : isFa Tryd.prog 68 0 0 := isFa_of (by kernel_rfl)

theorem fa68_1 : isFa Tryd.prog 68 1 1 := isFa_of (by kernel_rfl)

theorem ty27 : isTy Tryd.prog 27 false 1 24 [.slice none 0 0] := isTy_of (by kernel_rfl)

set_option maxRecDepth 100000 in
theorem fn38 : isFn Tryd.prog 38 := ⟨Tryd.f38, Tryd.func38, rfl, by decide⟩

theorem fa70_2 : isFa Tryd.prog 70 2 3 := isFa_of (by kernel_rfl)

theorem fa70_4 : isFa Tryd.prog 70 4 5 := isFa_of (by kernel_rfl)

theorem ty68 : isTy Tryd.prog 68 true 2 48 [.slice none 0 0, .slice none 0 0] := isTy_of (by kernel_rfl)

set_option maxRecDepth 100000 in
theorem fn80 : isFn Tryd.prog 80 := ⟨Tryd.f80, Tryd.func80, rfl, by decide⟩

theorem fa70_6 : isFa Tryd.prog 70 6 8 := isFa_of (by kernel_rfl)

theorem ty3 : isTy Tryd.prog 3 false 1 8 [.int .i64 0] := isTy_of (by kernel_rfl)

theorem ty105 : isTy Tryd.prog 105 true 3 64 [vS [], .slice none 0 0, .slice none 0 0] := isTy_of (by kernel_rfl)

theorem fa105_0 : isFa Tryd.prog 105 0 0 := isFa_of (by kernel_rfl)

set_option maxRecDepth 100000 in
theorem fn9 : isFn Tryd.prog 9 := ⟨Tryd.f9, Tryd.func9, rfl, by decide⟩

theorem fa105_1 : isFa Tryd.prog 105 1 1 := isFa_of (by kernel_rfl)

set_option maxRecDepth 100000 in
theorem fn73 : isFn Tryd.prog 73 := ⟨Tryd.f73, Tryd.func73, rfl, by decide⟩

theorem fa105_2 : isFa Tryd.prog 105 2 2 := isFa_of (by kernel_rfl)

theorem sl56 : isSl Tryd.prog 56 105 := isSl_of (by kernel_rfl)

set_option maxRecDepth 100000 in
theorem fn113 : isFn Tryd.prog 113 := ⟨Tryd.f113, Tryd.func113, rfl, by decide⟩

theorem ty58 : isTy Tryd.prog 58 true 2 48 [.slice none 0 0, .slice none 0 0] := isTy_of (by kernel_rfl)

set_option maxRecDepth 100000 in
theorem fn72 : isFn Tryd.prog 72 := ⟨Tryd.f72, Tryd.func72, rfl, by decide⟩

theorem fa58_0 : isFa Tryd.prog 58 0 0 := isFa_of (by kernel_rfl)

theorem ty56 : isTy Tryd.prog 56 false 1 24 [.slice none 0 0] := isTy_of (by kernel_rfl)

theorem fa58_1 : isFa Tryd.prog 58 1 1 := isFa_of (by kernel_rfl)

theorem ty73 : isTy Tryd.prog 73 true 2 16 [.int .i64 0, .int .i64 0] := isTy_of (by kernel_rfl)

theorem fa66_0 : isFa Tryd.prog 66 0 0 := isFa_of (by kernel_rfl)

theorem fa73_0 : isFa Tryd.prog 73 0 0 := isFa_of (by kernel_rfl)

theorem fa66_1 : isFa Tryd.prog 66 1 1 := isFa_of (by kernel_rfl)

theorem fa73_1 : isFa Tryd.prog 73 1 1 := isFa_of (by kernel_rfl)

theorem ty74 : isTy Tryd.prog 74 true 2 48 [.slice none 0 0, .slice none 0 0] := isTy_of (by kernel_rfl)

theorem fa74_0 : isFa Tryd.prog 74 0 0 := isFa_of (by kernel_rfl)

set_option maxRecDepth 100000 in
theorem fn43 : isFn Tryd.prog 43 := ⟨Tryd.f43, Tryd.func43, rfl, by decide⟩

theorem fa74_1 : isFa Tryd.prog 74 1 1 := isFa_of (by kernel_rfl)

theorem ty76 : isTy Tryd.prog 76 true 12 160 [.bool false, .int .i64 0, .int .i64 0, .slice none 0 0, .int .i64 0, .slice none 0 0, .slice none 0 0, .int .i64 0, .slice none 0 0, .int .i64 0, .int .i64 0, .int .i64 0] := isTy_of (by kernel_rfl)

theorem fa70_0 : isFa Tryd.prog 70 0 0 := isFa_of (by kernel_rfl)

theorem ty4 : isTy Tryd.prog 4 false 1 1 [.bool false] := isTy_of (by kernel_rfl)

theorem fa76_0 : isFa Tryd.prog 76 0 0 := isFa_of (by kernel_rfl)

theorem fa70_1 : isFa Tryd.prog 70 1 1 := isFa_of (by kernel_rfl)

theorem ty66 : isTy Tryd.prog 66 true 2 16 [.int .i64 0, .int .i64 0] := isTy_of (by kernel_rfl)

set_option maxRecDepth 100000 in
theorem fn85 : isFn Tryd.prog 85 := ⟨Tryd.f85, Tryd.func85, rfl, by decide⟩

theorem fa76_1 : isFa Tryd.prog 76 1 1 := isFa_of (by kernel_rfl)

theorem fa76_2 : isFa Tryd.prog 76 2 3 := isFa_of (by kernel_rfl)

theorem fa70_3 : isFa Tryd.prog 70 3 4 := isFa_of (by kernel_rfl)

theorem fa76_3 : isFa Tryd.prog 76 3 4 := isFa_of (by kernel_rfl)

set_option maxRecDepth 100000 in
theorem fn86 : isFn Tryd.prog 86 := ⟨Tryd.f86, Tryd.func86, rfl, by decide⟩

theorem fa76_4 : isFa Tryd.prog 76 4 5 := isFa_of (by kernel_rfl)

theorem fa70_5 : isFa Tryd.prog 70 5 7 := isFa_of (by kernel_rfl)

theorem fa76_5 : isFa Tryd.prog 76 5 7 := isFa_of (by kernel_rfl)

theorem fa76_6 : isFa Tryd.prog 76 6 8 := isFa_of (by kernel_rfl)

theorem fa70_7 : isFa Tryd.prog 70 7 9 := isFa_of (by kernel_rfl)

theorem fa76_7 : isFa Tryd.prog 76 7 9 := isFa_of (by kernel_rfl)

theorem fa70_8 : isFa Tryd.prog 70 8 10 := isFa_of (by kernel_rfl)

theorem fa76_8 : isFa Tryd.prog 76 8 10 := isFa_of (by kernel_rfl)

theorem fa70_9 : isFa Tryd.prog 70 9 11 := isFa_of (by kernel_rfl)

theorem fa76_9 : isFa Tryd.prog 76 9 11 := isFa_of (by kernel_rfl)

set_option maxRecDepth 100000 in
theorem fn94 : isFn Tryd.prog 94 := ⟨Tryd.f94, Tryd.func94, rfl, by decide⟩

set_option maxRecDepth 100000 in
theorem fn127 : isFn Tryd.prog 127 := ⟨Tryd.f127, Tryd.func127, rfl, by decide⟩

theorem mixed : Tryd.prog.follows .mixedOrders = true := by kernel_rfl

set_option maxRecDepth 100000 in
theorem fn126 : isFn Tryd.prog 126 := ⟨Tryd.f126, Tryd.func126, rfl, by decide⟩

set_option maxRecDepth 100000 in
theorem fn112 : isFn Tryd.prog 112 := ⟨Tryd.f112, Tryd.func112, rfl, by decide⟩

set_option maxRecDepth 100000 in
theorem fn111 : isFn Tryd.prog 111 := ⟨Tryd.f111, Tryd.func111, rfl, by decide⟩

set_option maxRecDepth 100000 in
theorem fn69 : isFn Tryd.prog 69 := ⟨Tryd.f69, Tryd.func69, rfl, by decide⟩

theorem us3 : (Tryd.prog.underlying 3).isSome = true := by kernel_rfl

theorem in5 : isInt Tryd.prog 5 .u8 := isInt_of (by kernel_rfl)

theorem sl122 : isSl Tryd.prog 122 5 := isSl_of (by kernel_rfl)

theorem ty5 : isTy Tryd.prog 5 false 1 1 [.int .u8 0] := isTy_of (by kernel_rfl)

set_option maxRecDepth 100000 in
theorem fn35 : isFn Tryd.prog 35 := ⟨Tryd.f35, Tryd.func35, rfl, by decide⟩

set_option maxRecDepth 100000 in
theorem fn36 : isFn Tryd.prog 36 := ⟨Tryd.f36, Tryd.func36, rfl, by decide⟩

set_option maxRecDepth 100000 in
theorem fn83 : isFn Tryd.prog 83 := ⟨Tryd.f83, Tryd.func83, rfl, by decide⟩

set_option maxRecDepth 100000 in
theorem fn81 : isFn Tryd.prog 81 := ⟨Tryd.f81, Tryd.func81, rfl, by decide⟩

set_option maxRecDepth 100000 in
theorem fn8 : isFn Tryd.prog 8 := ⟨Tryd.f8, Tryd.func8, rfl, by decide⟩

set_option maxRecDepth 100000 in
theorem fn82 : isFn Tryd.prog 82 := ⟨Tryd.f82, Tryd.func82, rfl, by decide⟩

set_option maxRecDepth 100000 in
theorem fn84 : isFn Tryd.prog 84 := ⟨Tryd.f84, Tryd.func84, rfl, by decide⟩

set_option maxRecDepth 100000 in
theorem fn95 : isFn Tryd.prog 95 := ⟨Tryd.f95, Tryd.func95, rfl, by decide⟩

set_option maxRecDepth 100000 in
theorem fn143 : isFn Tryd.prog 143 := ⟨Tryd.f143, Tryd.func143, rfl, by decide⟩

set_option maxRecDepth 100000 in
theorem fn129 : isFn Tryd.prog 129 := ⟨Tryd.f129, Tryd.func129, rfl, by decide⟩

set_option maxRecDepth 100000 in
theorem fn135 : isFn Tryd.prog 135 := ⟨Tryd.f135, Tryd.func135, rfl, by decide⟩

set_option maxRecDepth 100000 in
theorem fn138 : isFn Tryd.prog 138 := ⟨Tryd.f138, Tryd.func138, rfl, by decide⟩

set_option maxRecDepth 100000 in
theorem fn136 : isFn Tryd.prog 136 := ⟨Tryd.f136, Tryd.func136, rfl, by decide⟩

set_option maxRecDepth 100000 in
theorem fn137 : isFn Tryd.prog 137 := ⟨Tryd.f137, Tryd.func137, rfl, by decide⟩

set_option maxRecDepth 100000 in
theorem fn122 : isFn Tryd.prog 122 := ⟨Tryd.f122, Tryd.func122, rfl, by decide⟩

set_option maxRecDepth 100000 in
theorem fn96 : isFn Tryd.prog 96 := ⟨Tryd.f96, Tryd.func96, rfl, by decide⟩

set_option maxRecDepth 100000 in
theorem fn128 : isFn Tryd.prog 128 := ⟨Tryd.f128, Tryd.func128, rfl, by decide⟩

set_option maxRecDepth 100000 in
theorem fn130 : isFn Tryd.prog 130 := ⟨Tryd.f130, Tryd.func130, rfl, by decide⟩

set_option maxRecDepth 100000 in
theorem fn115 : isFn Tryd.prog 115 := ⟨Tryd.f115, Tryd.func115, rfl, by decide⟩

set_option maxRecDepth 100000 in
theorem fn131 : isFn Tryd.prog 131 := ⟨Tryd.f131, Tryd.func131, rfl, by decide⟩

set_option maxRecDepth 100000 in
theorem fn114 : isFn Tryd.prog 114 := ⟨Tryd.f114, Tryd.func114, rfl, by decide⟩

set_option maxRecDepth 100000 in
theorem fn117 : isFn Tryd.prog 117 := ⟨Tryd.f117, Tryd.func117, rfl, by decide⟩

set_option maxRecDepth 100000 in
theorem fn105 : isFn Tryd.prog 105 := ⟨Tryd.f105, Tryd.func105, rfl, by decide⟩

set_option maxRecDepth 100000 in
theorem fn76 : isFn Tryd.prog 76 := ⟨Tryd.f76, Tryd.func76, rfl, by decide⟩

set_option maxRecDepth 100000 in
theorem fn118 : isFn Tryd.prog 118 := ⟨Tryd.f118, Tryd.func118, rfl, by decide⟩

set_option maxRecDepth 100000 in
theorem fn98 : isFn Tryd.prog 98 := ⟨Tryd.f98, Tryd.func98, rfl, by decide⟩

set_option maxRecDepth 100000 in
theorem fn45 : isFn Tryd.prog 45 := ⟨Tryd.f45, Tryd.func45, rfl, by decide⟩

set_option maxRecDepth 100000 in
theorem fn59 : isFn Tryd.prog 59 := ⟨Tryd.f59, Tryd.func59, rfl, by decide⟩

set_option maxRecDepth 100000 in
theorem fn37 : isFn Tryd.prog 37 := ⟨Tryd.f37, Tryd.func37, rfl, by decide⟩

set_option maxRecDepth 100000 in
theorem fn120 : isFn Tryd.prog 120 := ⟨Tryd.f120, Tryd.func120, rfl, by decide⟩

set_option maxRecDepth 100000 in
theorem fn119 : isFn Tryd.prog 119 := ⟨Tryd.f119, Tryd.func119, rfl, by decide⟩

set_option maxRecDepth 100000 in
theorem fn90 : isFn Tryd.prog 90 := ⟨Tryd.f90, Tryd.func90, rfl, by decide⟩

set_option maxRecDepth 100000 in
theorem fn121 : isFn Tryd.prog 121 := ⟨Tryd.f121, Tryd.func121, rfl, by decide⟩

set_option maxRecDepth 100000 in
theorem fn87 : isFn Tryd.prog 87 := ⟨Tryd.f87, Tryd.func87, rfl, by decide⟩

set_option maxRecDepth 100000 in
theorem fn88 : isFn Tryd.prog 88 := ⟨Tryd.f88, Tryd.func88, rfl, by decide⟩

set_option maxRecDepth 100000 in
theorem fn10 : isFn Tryd.prog 10 := ⟨Tryd.f10, Tryd.func10, rfl, by decide⟩

set_option maxRecDepth 100000 in
theorem fn89 : isFn Tryd.prog 89 := ⟨Tryd.f89, Tryd.func89, rfl, by decide⟩

set_option maxRecDepth 100000 in
theorem fn91 : isFn Tryd.prog 91 := ⟨Tryd.f91, Tryd.func91, rfl, by decide⟩

set_option maxRecDepth 100000 in
theorem fn11 : isFn Tryd.prog 11 := ⟨Tryd.f11, Tryd.func11, rfl, by decide⟩

set_option maxRecDepth 100000 in
theorem fn79 : isFn Tryd.prog 79 := ⟨Tryd.f79, Tryd.func79, rfl, by decide⟩

set_option maxRecDepth 100000 in
theorem fn116 : isFn Tryd.prog 116 := ⟨Tryd.f116, Tryd.func116, rfl, by decide⟩

set_option maxRecDepth 100000 in
theorem fn78 : isFn Tryd.prog 78 := ⟨Tryd.f78, Tryd.func78, rfl, by decide⟩

set_option maxRecDepth 100000 in
theorem fn49 : isFn Tryd.prog 49 := ⟨Tryd.f49, Tryd.func49, rfl, by decide⟩

theorem bl4 : isBl Tryd.prog 4 := isBl_of (by kernel_rfl)

set_option maxRecDepth 100000 in
theorem fn92 : isFn Tryd.prog 92 := ⟨Tryd.f92, Tryd.func92, rfl, by decide⟩

set_option maxRecDepth 100000 in
theorem fn93 : isFn Tryd.prog 93 := ⟨Tryd.f93, Tryd.func93, rfl, by decide⟩

theorem ty50 : isTy Tryd.prog 50 true 2 48 [.slice none 0 0, .slice none 0 0] := isTy_of (by kernel_rfl)

set_option maxRecDepth 100000 in
theorem fn22 : isFn Tryd.prog 22 := ⟨Tryd.f22, Tryd.func22, rfl, by decide⟩

theorem ty70 : isTy Tryd.prog 70 true 12 160 [.bool false, .int .i64 0, .int .i64 0, .slice none 0 0, .int .i64 0, .slice none 0 0, .slice none 0 0, .int .i64 0, .slice none 0 0, .int .i64 0, .int .i64 0, .int .i64 0] := isTy_of (by kernel_rfl)

set_option maxRecDepth 100000 in
theorem fn30 : isFn Tryd.prog 30 := ⟨Tryd.f30, Tryd.func30, rfl, by decide⟩

set_option maxRecDepth 100000 in
theorem fn25 : isFn Tryd.prog 25 := ⟨Tryd.f25, Tryd.func25, rfl, by decide⟩

set_option maxRecDepth 100000 in
theorem fn32 : isFn Tryd.prog 32 := ⟨Tryd.f32, Tryd.func32, rfl, by decide⟩

set_option maxRecDepth 100000 in
theorem fn31 : isFn Tryd.prog 31 := ⟨Tryd.f31, Tryd.func31, rfl, by decide⟩

set_option maxRecDepth 100000 in
theorem fn33 : isFn Tryd.prog 33 := ⟨Tryd.f33, Tryd.func33, rfl, by decide⟩

set_option maxRecDepth 100000 in
theorem fn28 : isFn Tryd.prog 28 := ⟨Tryd.f28, Tryd.func28, rfl, by decide⟩

set_option maxRecDepth 100000 in
theorem fn34 : isFn Tryd.prog 34 := ⟨Tryd.f34, Tryd.func34, rfl, by decide⟩

set_option maxHeartbeats 4000000 in
set_option maxRecDepth 100000 in
theorem laws_szIntS_ok (w : World) {p0 : List Int} {p1 : Int} {a_0 : Option Addr} {n_0 c_0 : Nat} {r : Int} (H : laws_szIntS p0 p1 = some r)  (g0 : (eList (eVal (Value.int .i64) (fun _ => rfl)) 3).rd w [] p0 [.slice a_0 n_0 c_0]) :
    Calls Tryd.prog 66 #[.slice a_0 n_0 c_0, .int .i64 p1] w (fun en w' => en = .returned (.int .i64 r) ∧ Ext [] w w') := by
  obtain rfl := rd_n g0
  unfold laws_szIntS at H
  refine f_enter (vs := [.slice a_0 p0.length c_0, .int .i64 p1]) Tryd.func66 rfl Tryd.ntmps66 rfl (St.init w []) ?_
  refine c_seq ?_
  refine c_reg ?_
  refine ow_batch [.p] rfl ?_
  refine ow_nil ?_
  refine x_qs ?_
  refine c_seq ?_
  refine c_reg ?_
  refine ow_batch [.p, .p, .lenS 22 3 sl22, .p, .p] rfl ?_
  refine ow_nil ?_
  refine x_qs ?_
  refine c_seq ?_
  refine c_seq ?_
  refine c_reg ?_
  refine ow_batch [.p, .p] rfl ?_
  refine ow_nil ?_
  refine x_qs ?_
  refine c_if rfl (fun hb => ?_) (fun hb => ?_)
  · have H := of_if_t hb H
    refine c_seq ?_
    refine c_reg ?_
    refine ow_batch [.p] rfl ?_
    refine ow_nil ?_
    refine x_qs ?_
    refine c_ret ?_
    refine x_qs_ret ?_
    exact x_retR (rs := [.tmp 4]) (vs := [.int .i64 (-1)]) rfl ⟨rfl, trivial⟩ (fun w' hw' => by
        obtain rfl := of_some H
        exact ⟨rfl, hw'.ext⟩)
  · have H := of_if_f hb H
    refine c_skip ?_
    refine x_qs ?_
    refine c_seq ?_
    refine c_reg ?_
    refine ow_batch [.p, .p] rfl ?_
    refine ow_nil ?_
    refine x_qs ?_
    refine c_ret ?_
    exact x_retR (rs := [.tmp 4]) (vs := [.int .i64 (IntKind.i64.wrap (p1 - (p0.length : Int)))]) rfl ⟨rfl, trivial⟩ (fun w' hw' => by
        obtain rfl := of_some H
        exact ⟨rfl, hw'.ext⟩)

set_option maxHeartbeats 4000000 in
set_option maxRecDepth 100000 in
theorem laws_szStringS_ok (w : World) {p0 : List (List UInt8)} {p1 : Int} {a_0 : Option Addr} {n_0 c_0 : Nat} {r : Int} (H : laws_szStringS p0 p1 = some r)  (g0 : (eList (eStr) 9).rd w [] p0 [.slice a_0 n_0 c_0]) :
    Calls Tryd.prog 65 #[.slice a_0 n_0 c_0, .int .i64 p1] w (fun en w' => en = .returned (.int .i64 r) ∧ Ext [] w w') := by
  obtain rfl := rd_n g0
  unfold laws_szStringS at H
  refine f_enter (vs := [.slice a_0 p0.length c_0, .int .i64 p1]) Tryd.func65 rfl Tryd.ntmps65 rfl (St.init w []) ?_
  refine c_seq ?_
  refine c_reg ?_
  refine ow_batch [.p] rfl ?_
  refine ow_nil ?_
  refine x_qs ?_
  refine c_seq ?_
  refine c_reg ?_
  refine ow_batch [.p, .p, .lenS 48 9 sl48, .p, .p] rfl ?_
  refine ow_nil ?_
  refine x_qs ?_
  refine c_seq ?_
  refine c_seq ?_
  refine c_reg ?_
  refine ow_batch [.p, .p] rfl ?_
  refine ow_nil ?_
  refine x_qs ?_
  refine c_if rfl (fun hb => ?_) (fun hb => ?_)
  · have H := of_if_t hb H
    refine c_seq ?_
    refine c_reg ?_
    refine ow_batch [.p] rfl ?_
    refine ow_nil ?_
    refine x_qs ?_
    refine c_ret ?_
    refine x_qs_ret ?_
    exact x_retR (rs := [.tmp 4]) (vs := [.int .i64 (-1)]) rfl ⟨rfl, trivial⟩ (fun w' hw' => by
        obtain rfl := of_some H
        exact ⟨rfl, hw'.ext⟩)
  · have H := of_if_f hb H
    refine c_skip ?_
    refine x_qs ?_
    refine c_seq ?_
    refine c_seq ?_
    refine c_reg ?_
    refine ow_batch [.p] rfl ?_
    refine ow_nil ?_
    refine x_qs ?_
    refine c_block ?_
    refine CW.at (loopI2 (fun (i14 : Int) (i15 : Int) => St w [] []) (fun (i14 : Int) (i15 : Int) => [(0, .slice a_0 p0.length c_0), (1, .int .i64 i14), (5, .int .i64 i15)]) (fun kk => fun (i14 : Int) (i15 : Int) => laws_szStringS_L1 p0 kk i14 i15 = some r) (fun _ _ H => ?_) (fun k1 ihk1 i14 i15 H => ?_) Fuel (IntKind.i64.wrap (p1 - (p0.length : Int))) (0) (H)) (fun _ h => St.sel [] rfl rfl h) ⟨rfl, rfl, rfl,  trivial⟩
    · unfold laws_szStringS_L1 at H
      exact absurd H (by simp)
    · unfold laws_szStringS_L1 at H
      refine c_seq ?_
      refine c_seq ?_
      refine c_reg ?_
      refine ow_batch [.p, .p, .lenS 48 9 sl48, .p] rfl ?_
      refine ow_nil ?_
      refine x_qs ?_
      refine c_if rfl (fun hb => ?_) (fun hb => ?_)
      · have H := of_if_t hb H
        refine c_skip ?_
        refine x_qs ?_
        refine c_seq ?_
        refine c_block ?_
        refine c_seq ?_
        refine c_reg ?_
        refine ow_batch [.p, .p, .p] rfl ?_
        obtain ⟨e20, h21, H⟩ := of_bind H
        refine ow_ixE (e := eStr) (xs := p0) (j := i15) rfl rfl rfl rfl rfl sl48 ty9 rfl (fun w1 hw1 => rds_bor g0 w1 hw1) h21 (by rw [Nat.mul_one]) ?_
        refine ow_r rfl (dstOk_lt rfl) (ry_load1 rfl rfl ty9 (at_elV (fun w1 hw1 => rds_bor g0 w1 hw1) h21)) ?_
        refine ow_batch [.lenT 9 st9, .p, .p] rfl ?_
        refine ow_nil ?_
        refine x_qs ?_
        refine c_seq ?_
        refine c_reg ?_
        refine ow_batch [.p, .p] rfl ?_
        refine ow_nil ?_
        refine x_qs ?_
        refine c_if rfl (fun hb => ?_) (fun hb => ?_)
        · have H := of_if_t hb H
          refine c_seq ?_
          refine c_reg ?_
          refine ow_batch [.p] rfl ?_
          refine ow_nil ?_
          refine x_qs ?_
          refine c_ret ?_
          refine x_qb_ret ?_
          refine x_qs_ret ?_
          refine x_ql_ret ?_
          refine x_qb_ret ?_
          refine x_qs_ret ?_
          exact x_retR (rs := [.tmp 4]) (vs := [.int .i64 (-1)]) rfl ⟨rfl, trivial⟩ (fun w' hw' => by
              obtain rfl := of_some H
              exact ⟨rfl, hw'.ext⟩)
        · have H := of_if_f hb H
          refine c_skip ?_
          refine x_qb ?_
          refine x_qs ?_
          refine c_reg ?_
          refine ow_batch [.p, .p, .p] rfl ?_
          refine ow_nil ?_
          exact x_ql (RW.at (ihk1 (IntKind.i64.wrap (i14 - (e20.length : Int))) (IntKind.i64.wrap (i15 + 1)) (H)) (fun _ h => St.sel [] rfl rfl h) ⟨rfl, rfl, rfl, trivial⟩)
      · have H := of_if_f hb H
        refine c_exit ?_
        refine x_qs_exit ?_
        refine x_ql_exit ?_
        refine x_qb_here ?_
        refine x_qs ?_
        refine c_seq ?_
        refine c_reg ?_
        refine ow_batch [.p, .p] rfl ?_
        refine ow_nil ?_
        refine x_qs ?_
        refine c_ret ?_
        exact x_retR (rs := [.tmp 4]) (vs := [.int .i64 i14]) rfl ⟨rfl, trivial⟩ (fun w' hw' => by
            obtain rfl := of_some H
            exact ⟨rfl, hw'.ext⟩)

set_option maxHeartbeats 4000000 in
set_option maxRecDepth 100000 in
theorem laws_szAttr_ok (w : World) {p0 : Tlaws_Attr} {p1 : Int} {cs0 : List Value} {r : Int} (H : laws_szAttr p0 p1 = some r)  (g0 : (eTlaws_Attr).rd w [] p0 cs0) :
    Calls Tryd.prog 110 #[.agg cs0.toArray, .int .i64 p1] w (fun en w' => en = .returned (.int .i64 r) ∧ Ext [] w w') := by
  obtain ⟨c10, c11, c12, rfl, g13, g14, g15⟩ := rdo_Tlaws_Attr g0
  obtain rfl : c10 = [vS p0.Name_] := g13
  obtain ⟨a16, c17, rfl⟩ := rd_sl1 g14
  obtain ⟨a18, c19, rfl⟩ := rd_sl1 g15
  unfold laws_szAttr at H
  refine f_enter (vs := [.agg #[vS p0.Name_, .slice a16 p0.Cuts_.length c17, .slice a18 p0.Values_.length c19], .int .i64 p1]) Tryd.func110 rfl Tryd.ntmps110 rfl (St.init w []) ?_
  refine c_seq ?_
  refine c_reg ?_
  refine ow_box (cs := [vS p0.Name_, .slice a16 p0.Cuts_.length c17, .slice a18 p0.Values_.length c19]) rfl rfl rfl rfl rfl rfl (fun _ => kp) (fun b20 => ?_)
  refine ow_batch [.p] rfl ?_
  refine ow_nil ?_
  refine x_qs ?_
  refine c_seq ?_
  refine c_reg ?_
  refine ow_batch [.p, .fa 145 0 0 fa145_0] rfl ?_
  refine ow_r rfl (dstOk_lt rfl) (ry_box1 (off := 0) rfl rfl ty9 (boxIn (i := 0) rfl) rfl) ?_
  refine ow_batch [.lenT 9 st9, .p, .p] rfl ?_
  refine ow_nil ?_
  refine x_qs ?_
  refine c_seq ?_
  refine c_seq ?_
  refine c_reg ?_
  refine ow_batch [.p, .p] rfl ?_
  refine ow_nil ?_
  refine x_qs ?_
  refine c_if rfl (fun hb => ?_) (fun hb => ?_)
  · have H := of_if_t hb H
    refine c_seq ?_
    refine c_reg ?_
    refine ow_batch [.p] rfl ?_
    refine ow_nil ?_
    refine x_qs ?_
    refine c_ret ?_
    refine x_qs_ret ?_
    exact x_retR (rs := [.tmp 4]) (vs := [.int .i64 (-1)]) rfl ⟨rfl, trivial⟩ (fun w' hw' => by
        obtain rfl := of_some H
        exact ⟨rfl, hw'.ext⟩)
  · have H := of_if_f hb H
    refine c_skip ?_
    refine x_qs ?_
    refine c_seq ?_
    refine c_reg ?_
    refine ow_batch [.fa 145 1 1 fa145_1] rfl ?_
    refine ow_r rfl (dstOk_lt rfl) (ry_box1 (off := 1) rfl rfl ty22 (boxIn (i := 0) rfl) rfl) ?_
    refine ow_batch [.p] rfl ?_
    obtain ⟨y21, h22, H⟩ := of_bind H
    refine ow_q rfl rfl (dstOk_lt rfl) (qy_call rfl fn66 rfl (fun w1 hw1 => laws_szIntS_ok w1  h22 (rds_bor g14 w1 hw1))) (fun _ _ => trivial) ?_
    refine ow_batch [.p] rfl ?_
    refine ow_nil ?_
    refine x_qs ?_
    refine c_seq ?_
    refine c_seq ?_
    refine c_reg ?_
    refine ow_batch [.p, .p] rfl ?_
    refine ow_nil ?_
    refine x_qs ?_
    refine c_if rfl (fun hb => ?_) (fun hb => ?_)
    · have H := of_if_t hb H
      refine c_seq ?_
      refine c_reg ?_
      refine ow_batch [.p] rfl ?_
      refine ow_nil ?_
      refine x_qs ?_
      refine c_ret ?_
      refine x_qs_ret ?_
      exact x_retR (rs := [.tmp 4]) (vs := [.int .i64 (-1)]) rfl ⟨rfl, trivial⟩ (fun w' hw' => by
          obtain rfl := of_some H
          exact ⟨rfl, hw'.ext⟩)
    · have H := of_if_f hb H
      refine c_skip ?_
      refine x_qs ?_
      refine c_seq ?_
      refine c_reg ?_
      refine ow_batch [.fa 145 2 2 fa145_2] rfl ?_
      refine ow_r rfl (dstOk_lt rfl) (ry_box1 (off := 2) rfl rfl ty48 (boxIn (i := 0) rfl) rfl) ?_
      refine ow_batch [.p] rfl ?_
      obtain ⟨y23, h24, H⟩ := of_bind H
      refine ow_q rfl rfl (dstOk_lt rfl) (qy_call rfl fn65 rfl (fun w1 hw1 => laws_szStringS_ok w1  h24 (rds_bor g15 w1 hw1))) (fun _ _ => trivial) ?_
      refine ow_batch [.p] rfl ?_
      refine ow_nil ?_
      refine x_qs ?_
      refine c_seq ?_
      refine c_seq ?_
      refine c_reg ?_
      refine ow_batch [.p, .p] rfl ?_
      refine ow_nil ?_
      refine x_qs ?_
      refine c_if rfl (fun hb => ?_) (fun hb => ?_)
      · have H := of_if_t hb H
        refine c_seq ?_
        refine c_reg ?_
        refine ow_batch [.p] rfl ?_
        refine ow_nil ?_
        refine x_qs ?_
        refine c_ret ?_
        refine x_qs_ret ?_
        exact x_retR (rs := [.tmp 4]) (vs := [.int .i64 (-1)]) rfl ⟨rfl, trivial⟩ (fun w' hw' => by
            obtain rfl := of_some H
            exact ⟨rfl, hw'.ext⟩)
      · have H := of_if_f hb H
        refine c_skip ?_
        refine x_qs ?_
        refine c_seq ?_
        refine c_reg ?_
        refine ow_batch [.p, .p] rfl ?_
        refine ow_nil ?_
        refine x_qs ?_
        refine c_ret ?_
        exact x_retR (rs := [.tmp 4]) (vs := [.int .i64 y23]) rfl ⟨rfl, trivial⟩ (fun w' hw' => by
            obtain rfl := of_some H
            exact ⟨rfl, hw'.ext⟩)

set_option maxHeartbeats 4000000 in
set_option maxRecDepth 100000 in
theorem laws_szAttrS_ok (w : World) {p0 : List Tlaws_Attr} {p1 : Int} {a_0 : Option Addr} {n_0 c_0 : Nat} {r : Int} (H : laws_szAttrS p0 p1 = some r)  (g0 : (eList (eTlaws_Attr) 145).rd w [] p0 [.slice a_0 n_0 c_0]) :
    Calls Tryd.prog 64 #[.slice a_0 n_0 c_0, .int .i64 p1] w (fun en w' => en = .returned (.int .i64 r) ∧ Ext [] w w') := by
  obtain rfl := rd_n g0
  unfold laws_szAttrS at H
  refine f_enter (vs := [.slice a_0 p0.length c_0, .int .i64 p1]) Tryd.func64 rfl Tryd.ntmps64 rfl (St.init w []) ?_
  refine c_seq ?_
  refine c_reg ?_
  refine ow_batch [.p] rfl ?_
  refine ow_nil ?_
  refine x_qs ?_
  refine c_seq ?_
  refine c_reg ?_
  refine ow_batch [.p, .p, .lenS 47 145 sl47, .p, .p] rfl ?_
  refine ow_nil ?_
  refine x_qs ?_
  refine c_seq ?_
  refine c_seq ?_
  refine c_reg ?_
  refine ow_batch [.p, .p] rfl ?_
  refine ow_nil ?_
  refine x_qs ?_
  refine c_if rfl (fun hb => ?_) (fun hb => ?_)
  · have H := of_if_t hb H
    refine c_seq ?_
    refine c_reg ?_
    refine ow_batch [.p] rfl ?_
    refine ow_nil ?_
    refine x_qs ?_
    refine c_ret ?_
    refine x_qs_ret ?_
    exact x_retR (rs := [.tmp 4]) (vs := [.int .i64 (-1)]) rfl ⟨rfl, trivial⟩ (fun w' hw' => by
        obtain rfl := of_some H
        exact ⟨rfl, hw'.ext⟩)
  · have H := of_if_f hb H
    refine c_skip ?_
    refine x_qs ?_
    refine c_seq ?_
    refine c_seq ?_
    refine c_reg ?_
    refine ow_batch [.p] rfl ?_
    refine ow_nil ?_
    refine x_qs ?_
    refine c_block ?_
    refine CW.at (loopI2 (fun (i30 : Int) (i31 : Int) => St w [] []) (fun (i30 : Int) (i31 : Int) => [(0, .slice a_0 p0.length c_0), (1, .int .i64 i30), (5, .int .i64 i31)]) (fun kk => fun (i30 : Int) (i31 : Int) => laws_szAttrS_L1 p0 kk i30 i31 = some r) (fun _ _ H => ?_) (fun k1 ihk1 i30 i31 H => ?_) Fuel (IntKind.i64.wrap (p1 - (p0.length : Int))) (0) (H)) (fun _ h => St.sel [] rfl rfl h) ⟨rfl, rfl, rfl,  trivial⟩
    · unfold laws_szAttrS_L1 at H
      exact absurd H (by simp)
    · unfold laws_szAttrS_L1 at H
      refine c_seq ?_
      refine c_seq ?_
      refine c_reg ?_
      refine ow_batch [.p, .p, .lenS 47 145 sl47, .p] rfl ?_
      refine ow_nil ?_
      refine x_qs ?_
      refine c_if rfl (fun hb => ?_) (fun hb => ?_)
      · have H := of_if_t hb H
        refine c_skip ?_
        refine x_qs ?_
        refine c_seq ?_
        refine c_block ?_
        refine c_seq ?_
        refine c_reg ?_
        refine ow_batch [.p, .p] rfl ?_
        obtain ⟨e52, h53, H⟩ := of_bind H
        refine ow_ixB rfl rfl rfl rfl rfl sl47 ty145 rfl g0 h53 (fun q56 c57 hd54 hA55 => ?_)
        obtain ⟨c58, c59, c60, rfl, g61, g62, g63⟩ := rdo_Tlaws_Attr hd54
        obtain rfl : c58 = [vS e52.Name_] := g61
        obtain ⟨a64, c65, rfl⟩ := rd_sl1 g62
        obtain ⟨a66, c67, rfl⟩ := rd_sl1 g63
        refine ow_r rfl (dstOk_lt rfl) (ry_load (cs := [vS e52.Name_, .slice a64 e52.Cuts_.length c65, .slice a66 e52.Values_.length c67]) rfl rfl ty145 (at_bor bor hA55) rfl) ?_
        refine ow_batch [.p] rfl ?_
        obtain ⟨y68, h69, H⟩ := of_bind H
        refine ow_q rfl rfl (dstOk_lt rfl) (qy_call rfl fn110 rfl (fun w1 hw1 => laws_szAttr_ok w1 (cs0 := [vS e52.Name_, .slice a64 e52.Cuts_.length c65, .slice a66 e52.Values_.length c67]) h69 (rdm_Tlaws_Attr (x := e52) (c0 := [vS e52.Name_]) (c1 := [.slice a64 e52.Cuts_.length c65]) (c2 := [.slice a66 e52.Values_.length c67]) rfl (rds_bor g62 w1 hw1) (rds_bor g63 w1 hw1)))) (fun _ _ => trivial) ?_
        refine ow_batch [.p] rfl ?_
        refine ow_nil ?_
        refine x_qs ?_
        refine c_seq ?_
        refine c_reg ?_
        refine ow_batch [.p, .p] rfl ?_
        refine ow_nil ?_
        refine x_qs ?_
        refine c_if rfl (fun hb => ?_) (fun hb => ?_)
        · have H := of_if_t hb H
          refine c_seq ?_
          refine c_reg ?_
          refine ow_batch [.p] rfl ?_
          refine ow_nil ?_
          refine x_qs ?_
          refine c_ret ?_
          refine x_qb_ret ?_
          refine x_qs_ret ?_
          refine x_ql_ret ?_
          refine x_qb_ret ?_
          refine x_qs_ret ?_
          exact x_retR (rs := [.tmp 4]) (vs := [.int .i64 (-1)]) rfl ⟨rfl, trivial⟩ (fun w' hw' => by
              obtain rfl := of_some H
              exact ⟨rfl, hw'.ext⟩)
        · have H := of_if_f hb H
          refine c_skip ?_
          refine x_qb ?_
          refine x_qs ?_
          refine c_reg ?_
          refine ow_batch [.p, .p, .p] rfl ?_
          refine ow_nil ?_
          exact x_ql (RW.at (ihk1 (y68) (IntKind.i64.wrap (i31 + 1)) (H)) (fun _ h => St.sel [] rfl rfl h) ⟨rfl, rfl, rfl, trivial⟩)
      · have H := of_if_f hb H
        refine c_exit ?_
        refine x_qs_exit ?_
        refine x_ql_exit ?_
        refine x_qb_here ?_
        refine x_qs ?_
        refine c_seq ?_
        refine c_reg ?_
        refine ow_batch [.p, .p] rfl ?_
        refine ow_nil ?_
        refine x_qs ?_
        refine c_ret ?_
        exact x_retR (rs := [.tmp 4]) (vs := [.int .i64 i30]) rfl ⟨rfl, trivial⟩ (fun w' hw' => by
            obtain rfl := of_some H
            exact ⟨rfl, hw'.ext⟩)

set_option maxHeartbeats 4000000 in
set_option maxRecDepth 100000 in
theorem laws_szSchema_ok (w : World) {p0 : Tlaws_Schema} {p1 : Int} {cs0 : List Value} {r : Int} (H : laws_szSchema p0 p1 = some r)  (g0 : (eTlaws_Schema).rd w [] p0 cs0) :
    Calls Tryd.prog 22 #[.agg cs0.toArray, .int .i64 p1] w (fun en w' => en = .returned (.int .i64 r) ∧ Ext [] w w') := by
  obtain ⟨c10, c11, rfl, g12, g13⟩ := rdo_Tlaws_Schema g0
  obtain ⟨a14, c15, rfl⟩ := rd_sl1 g12
  obtain ⟨a16, c17, rfl⟩ := rd_sl1 g13
  unfold laws_szSchema at H
  refine f_enter (vs := [.agg #[.slice a14 p0.Attrs_.length c15, .slice a16 p0.Classes_.length c17], .int .i64 p1]) Tryd.func22 rfl Tryd.ntmps22 rfl (St.init w []) ?_
  refine c_seq ?_
  refine c_reg ?_
  refine ow_box (cs := [.slice a14 p0.Attrs_.length c15, .slice a16 p0.Classes_.length c17]) rfl rfl rfl rfl rfl rfl (fun _ => kp) (fun b18 => ?_)
  refine ow_batch [.p] rfl ?_
  refine ow_nil ?_
  refine x_qs ?_
  refine c_seq ?_
  refine c_reg ?_
  refine ow_batch [.fa 50 0 0 fa50_0] rfl ?_
  refine ow_r rfl (dstOk_lt rfl) (ry_box1 (off := 0) rfl rfl ty47 (boxIn (i := 0) rfl) rfl) ?_
  refine ow_batch [.p] rfl ?_
  obtain ⟨y19, h20, H⟩ := of_bind H
  refine ow_q rfl rfl (dstOk_lt rfl) (qy_call rfl fn64 rfl (fun w1 hw1 => laws_szAttrS_ok w1  h20 (rds_bor g12 w1 hw1))) (fun _ _ => trivial) ?_
  refine ow_batch [.p] rfl ?_
  refine ow_nil ?_
  refine x_qs ?_
  refine c_seq ?_
  refine c_seq ?_
  refine c_reg ?_
  refine ow_batch [.p, .p] rfl ?_
  refine ow_nil ?_
  refine x_qs ?_
  refine c_if rfl (fun hb => ?_) (fun hb => ?_)
  · have H := of_if_t hb H
    refine c_seq ?_
    refine c_reg ?_
    refine ow_batch [.p] rfl ?_
    refine ow_nil ?_
    refine x_qs ?_
    refine c_ret ?_
    refine x_qs_ret ?_
    exact x_retR (rs := [.tmp 4]) (vs := [.int .i64 (-1)]) rfl ⟨rfl, trivial⟩ (fun w' hw' => by
        obtain rfl := of_some H
        exact ⟨rfl, hw'.ext⟩)
  · have H := of_if_f hb H
    refine c_skip ?_
    refine x_qs ?_
    refine c_seq ?_
    refine c_reg ?_
    refine ow_batch [.fa 50 1 1 fa50_1] rfl ?_
    refine ow_r rfl (dstOk_lt rfl) (ry_box1 (off := 1) rfl rfl ty48 (boxIn (i := 0) rfl) rfl) ?_
    refine ow_batch [.p] rfl ?_
    obtain ⟨y21, h22, H⟩ := of_bind H
    refine ow_q rfl rfl (dstOk_lt rfl) (qy_call rfl fn65 rfl (fun w1 hw1 => laws_szStringS_ok w1  h22 (rds_bor g13 w1 hw1))) (fun _ _ => trivial) ?_
    refine ow_batch [.p] rfl ?_
    refine ow_nil ?_
    refine x_qs ?_
    refine c_seq ?_
    refine c_seq ?_
    refine c_reg ?_
    refine ow_batch [.p, .p] rfl ?_
    refine ow_nil ?_
    refine x_qs ?_
    refine c_if rfl (fun hb => ?_) (fun hb => ?_)
    · have H := of_if_t hb H
      refine c_seq ?_
      refine c_reg ?_
      refine ow_batch [.p] rfl ?_
      refine ow_nil ?_
      refine x_qs ?_
      refine c_ret ?_
      refine x_qs_ret ?_
      exact x_retR (rs := [.tmp 4]) (vs := [.int .i64 (-1)]) rfl ⟨rfl, trivial⟩ (fun w' hw' => by
          obtain rfl := of_some H
          exact ⟨rfl, hw'.ext⟩)
    · have H := of_if_f hb H
      refine c_skip ?_
      refine x_qs ?_
      refine c_seq ?_
      refine c_reg ?_
      refine ow_batch [.p, .p] rfl ?_
      refine ow_nil ?_
      refine x_qs ?_
      refine c_ret ?_
      exact x_retR (rs := [.tmp 4]) (vs := [.int .i64 y21]) rfl ⟨rfl, trivial⟩ (fun w' hw' => by
          obtain rfl := of_some H
          exact ⟨rfl, hw'.ext⟩)

set_option maxHeartbeats 4000000 in
set_option maxRecDepth 100000 in
theorem laws_szIntSS_ok (w : World) {p0 : List (List Int)} {p1 : Int} {a_0 : Option Addr} {n_0 c_0 : Nat} {r : Int} (H : laws_szIntSS p0 p1 = some r)  (g0 : (eList (eList (eVal (Value.int .i64) (fun _ => rfl)) 3) 22).rd w [] p0 [.slice a_0 n_0 c_0]) :
    Calls Tryd.prog 38 #[.slice a_0 n_0 c_0, .int .i64 p1] w (fun en w' => en = .returned (.int .i64 r) ∧ Ext [] w w') := by
  obtain rfl := rd_n g0
  unfold laws_szIntSS at H
  refine f_enter (vs := [.slice a_0 p0.length c_0, .int .i64 p1]) Tryd.func38 rfl Tryd.ntmps38 rfl (St.init w []) ?_
  refine c_seq ?_
  refine c_reg ?_
  refine ow_batch [.p] rfl ?_
  refine ow_nil ?_
  refine x_qs ?_
  refine c_seq ?_
  refine c_reg ?_
  refine ow_batch [.p, .p, .lenS 27 22 sl27, .p, .p] rfl ?_
  refine ow_nil ?_
  refine x_qs ?_
  refine c_seq ?_
  refine c_seq ?_
  refine c_reg ?_
  refine ow_batch [.p, .p] rfl ?_
  refine ow_nil ?_
  refine x_qs ?_
  refine c_if rfl (fun hb => ?_) (fun hb => ?_)
  · have H := of_if_t hb H
    refine c_seq ?_
    refine c_reg ?_
    refine ow_batch [.p] rfl ?_
    refine ow_nil ?_
    refine x_qs ?_
    refine c_ret ?_
    refine x_qs_ret ?_
    exact x_retR (rs := [.tmp 4]) (vs := [.int .i64 (-1)]) rfl ⟨rfl, trivial⟩ (fun w' hw' => by
        obtain rfl := of_some H
        exact ⟨rfl, hw'.ext⟩)
  · have H := of_if_f hb H
    refine c_skip ?_
    refine x_qs ?_
    refine c_seq ?_
    refine c_seq ?_
    refine c_reg ?_
    refine ow_batch [.p] rfl ?_
    refine ow_nil ?_
    refine x_qs ?_
    refine c_block ?_
    refine CW.at (loopI2 (fun (i22 : Int) (i23 : Int) => St w [] []) (fun (i22 : Int) (i23 : Int) => [(0, .slice a_0 p0.length c_0), (1, .int .i64 i22), (5, .int .i64 i23)]) (fun kk => fun (i22 : Int) (i23 : Int) => laws_szIntSS_L1 p0 kk i22 i23 = some r) (fun _ _ H => ?_) (fun k1 ihk1 i22 i23 H => ?_) Fuel (IntKind.i64.wrap (p1 - (p0.length : Int))) (0) (H)) (fun _ h => St.sel [] rfl rfl h) ⟨rfl, rfl, rfl,  trivial⟩
    · unfold laws_szIntSS_L1 at H
      exact absurd H (by simp)
    · unfold laws_szIntSS_L1 at H
      refine c_seq ?_
      refine c_seq ?_
      refine c_reg ?_
      refine ow_batch [.p, .p, .lenS 27 22 sl27, .p] rfl ?_
      refine ow_nil ?_
      refine x_qs ?_
      refine c_if rfl (fun hb => ?_) (fun hb => ?_)
      · have H := of_if_t hb H
        refine c_skip ?_
        refine x_qs ?_
        refine c_seq ?_
        refine c_block ?_
        refine c_seq ?_
        refine c_reg ?_
        refine ow_batch [.p, .p] rfl ?_
        obtain ⟨e36, h37, H⟩ := of_bind H
        refine ow_ixB rfl rfl rfl rfl rfl sl27 ty22 rfl g0 h37 (fun q40 c41 hd38 hA39 => ?_)
        obtain ⟨a42, c43, rfl⟩ := rd_sl1 hd38
        refine ow_r rfl (dstOk_lt rfl) (ry_load1 rfl rfl ty22 (at_bor bor hA39)) ?_
        refine ow_batch [.p] rfl ?_
        obtain ⟨y44, h45, H⟩ := of_bind H
        refine ow_q rfl rfl (dstOk_lt rfl) (qy_call rfl fn66 rfl (fun w1 hw1 => laws_szIntS_ok w1  h45 (rds_bor hd38 w1 hw1))) (fun _ _ => trivial) ?_
        refine ow_batch [.p] rfl ?_
        refine ow_nil ?_
        refine x_qs ?_
        refine c_seq ?_
        refine c_reg ?_
        refine ow_batch [.p, .p] rfl ?_
        refine ow_nil ?_
        refine x_qs ?_
        refine c_if rfl (fun hb => ?_) (fun hb => ?_)
        · have H := of_if_t hb H
          refine c_seq ?_
          refine c_reg ?_
          refine ow_batch [.p] rfl ?_
          refine ow_nil ?_
          refine x_qs ?_
          refine c_ret ?_
          refine x_qb_ret ?_
          refine x_qs_ret ?_
          refine x_ql_ret ?_
          refine x_qb_ret ?_
          refine x_qs_ret ?_
          exact x_retR (rs := [.tmp 4]) (vs := [.int .i64 (-1)]) rfl ⟨rfl, trivial⟩ (fun w' hw' => by
              obtain rfl := of_some H
              exact ⟨rfl, hw'.ext⟩)
        · have H := of_if_f hb H
          refine c_skip ?_
          refine x_qb ?_
          refine x_qs ?_
          refine c_reg ?_
          refine ow_batch [.p, .p, .p] rfl ?_
          refine ow_nil ?_
          exact x_ql (RW.at (ihk1 (y44) (IntKind.i64.wrap (i23 + 1)) (H)) (fun _ h => St.sel [] rfl rfl h) ⟨rfl, rfl, rfl, trivial⟩)
      · have H := of_if_f hb H
        refine c_exit ?_
        refine x_qs_exit ?_
        refine x_ql_exit ?_
        refine x_qb_here ?_
        refine x_qs ?_
        refine c_seq ?_
        refine c_reg ?_
        refine ow_batch [.p, .p] rfl ?_
        refine ow_nil ?_
        refine x_qs ?_
        refine c_ret ?_
        exact x_retR (rs := [.tmp 4]) (vs := [.int .i64 i22]) rfl ⟨rfl, trivial⟩ (fun w' hw' => by
            obtain rfl := of_some H
            exact ⟨rfl, hw'.ext⟩)

set_option maxHeartbeats 4000000 in
set_option maxRecDepth 100000 in
theorem laws_szStats_ok (w : World) {p0 : Tlaws_Stats} {p1 : Int} {cs0 : List Value} {r : Int} (H : laws_szStats p0 p1 = some r)  (g0 : (eTlaws_Stats).rd w [] p0 cs0) :
    Calls Tryd.prog 80 #[.agg cs0.toArray, .int .i64 p1] w (fun en w' => en = .returned (.int .i64 r) ∧ Ext [] w w') := by
  obtain ⟨c10, c11, rfl, g12, g13⟩ := rdo_Tlaws_Stats g0
  obtain ⟨a14, c15, rfl⟩ := rd_sl1 g12
  obtain ⟨a16, c17, rfl⟩ := rd_sl1 g13
  unfold laws_szStats at H
  refine f_enter (vs := [.agg #[.slice a14 p0.Totals_.length c15, .slice a16 p0.Cells_.length c17], .int .i64 p1]) Tryd.func80 rfl Tryd.ntmps80 rfl (St.init w []) ?_
  refine c_seq ?_
  refine c_reg ?_
  refine ow_box (cs := [.slice a14 p0.Totals_.length c15, .slice a16 p0.Cells_.length c17]) rfl rfl rfl rfl rfl rfl (fun _ => kp) (fun b18 => ?_)
  refine ow_batch [.p] rfl ?_
  refine ow_nil ?_
  refine x_qs ?_
  refine c_seq ?_
  refine c_reg ?_
  refine ow_batch [.fa 68 0 0 fa68_0] rfl ?_
  refine ow_r rfl (dstOk_lt rfl) (ry_box1 (off := 0) rfl rfl ty22 (boxIn (i := 0) rfl) rfl) ?_
  refine ow_batch [.p] rfl ?_
  obtain ⟨y19, h20, H⟩ := of_bind H
  refine ow_q rfl rfl (dstOk_lt rfl) (qy_call rfl fn66 rfl (fun w1 hw1 => laws_szIntS_ok w1  h20 (rds_bor g12 w1 hw1))) (fun _ _ => trivial) ?_
  refine ow_batch [.p] rfl ?_
  refine ow_nil ?_
  refine x_qs ?_
  refine c_seq ?_
  refine c_seq ?_
  refine c_reg ?_
  refine ow_batch [.p, .p] rfl ?_
  refine ow_nil ?_
  refine x_qs ?_
  refine c_if rfl (fun hb => ?_) (fun hb => ?_)
  · have H := of_if_t hb H
    refine c_seq ?_
    refine c_reg ?_
    refine ow_batch [.p] rfl ?_
    refine ow_nil ?_
    refine x_qs ?_
    refine c_ret ?_
    refine x_qs_ret ?_
    exact x_retR (rs := [.tmp 4]) (vs := [.int .i64 (-1)]) rfl ⟨rfl, trivial⟩ (fun w' hw' => by
        obtain rfl := of_some H
        exact ⟨rfl, hw'.ext⟩)
  · have H := of_if_f hb H
    refine c_skip ?_
    refine x_qs ?_
    refine c_seq ?_
    refine c_reg ?_
    refine ow_batch [.fa 68 1 1 fa68_1] rfl ?_
    refine ow_r rfl (dstOk_lt rfl) (ry_box1 (off := 1) rfl rfl ty27 (boxIn (i := 0) rfl) rfl) ?_
    refine ow_batch [.p] rfl ?_
    obtain ⟨y21, h22, H⟩ := of_bind H
    refine ow_q rfl rfl (dstOk_lt rfl) (qy_call rfl fn38 rfl (fun w1 hw1 => laws_szIntSS_ok w1  h22 (rds_bor g13 w1 hw1))) (fun _ _ => trivial) ?_
    refine ow_batch [.p] rfl ?_
    refine ow_nil ?_
    refine x_qs ?_
    refine c_seq ?_
    refine c_seq ?_
    refine c_reg ?_
    refine ow_batch [.p, .p] rfl ?_
    refine ow_nil ?_
    refine x_qs ?_
    refine c_if rfl (fun hb => ?_) (fun hb => ?_)
    · have H := of_if_t hb H
      refine c_seq ?_
      refine c_reg ?_
      refine ow_batch [.p] rfl ?_
      refine ow_nil ?_
      refine x_qs ?_
      refine c_ret ?_
      refine x_qs_ret ?_
      exact x_retR (rs := [.tmp 4]) (vs := [.int .i64 (-1)]) rfl ⟨rfl, trivial⟩ (fun w' hw' => by
          obtain rfl := of_some H
          exact ⟨rfl, hw'.ext⟩)
    · have H := of_if_f hb H
      refine c_skip ?_
      refine x_qs ?_
      refine c_seq ?_
      refine c_reg ?_
      refine ow_batch [.p, .p] rfl ?_
      refine ow_nil ?_
      refine x_qs ?_
      refine c_ret ?_
      exact x_retR (rs := [.tmp 4]) (vs := [.int .i64 y21]) rfl ⟨rfl, trivial⟩ (fun w' hw' => by
          obtain rfl := of_some H
          exact ⟨rfl, hw'.ext⟩)

set_option maxHeartbeats 4000000 in
set_option maxRecDepth 100000 in
theorem laws_szNode_ok (w : World) {p0 : Tlaws_Node} {p1 : Int} {cs0 : List Value} {r : Int} (H : laws_szNode p0 p1 = some r)  (g0 : (eTlaws_Node).rd w [] p0 cs0) :
    Calls Tryd.prog 30 #[.agg cs0.toArray, .int .i64 p1] w (fun en w' => en = .returned (.int .i64 r) ∧ Ext [] w w') := by
  obtain ⟨c10, c11, c12, c13, c14, c15, c16, c17, c18, c19, rfl, g20, g21, g22, g23, g24, g25, g26, g27, g28, g29⟩ := rdo_Tlaws_Node g0
  obtain rfl : c10 = [.bool p0.Leaf_] := g20
  obtain rfl : c11 = [.int .i64 p0.Fork_.Attr_, .int .i64 p0.Fork_.At_] := g21
  obtain ⟨a30, c31, rfl⟩ := rd_sl1 g22
  obtain rfl : c13 = [.int .i64 p0.Miss_] := g23
  obtain ⟨c32, c33, rfl, g34, g35⟩ := rdo_Tlaws_Stats g24
  obtain ⟨a36, c37, rfl⟩ := rd_sl1 g34
  obtain ⟨a38, c39, rfl⟩ := rd_sl1 g35
  obtain rfl : c15 = [.int .i64 p0.Since_] := g25
  obtain ⟨a40, c41, rfl⟩ := rd_sl1 g26
  obtain rfl : c17 = [.int .i64 p0.Depth_] := g27
  obtain rfl : c18 = [.int .i64 p0.Up_] := g28
  obtain rfl : c19 = [.int .i64 p0.Born_] := g29
  unfold laws_szNode at H
  refine f_enter (vs := [.agg #[.bool p0.Leaf_, .int .i64 p0.Fork_.Attr_, .int .i64 p0.Fork_.At_, .slice a30 p0.Kids_.length c31, .int .i64 p0.Miss_, .slice a36 p0.Stats_.Totals_.length c37, .slice a38 p0.Stats_.Cells_.length c39, .int .i64 p0.Since_, .slice a40 p0.Attrs_.length c41, .int .i64 p0.Depth_, .int .i64 p0.Up_, .int .i64 p0.Born_], .int .i64 p1]) Tryd.func30 rfl Tryd.ntmps30 rfl (St.init w []) ?_
  refine c_seq ?_
  refine c_reg ?_
  refine ow_box (cs := [.bool p0.Leaf_, .int .i64 p0.Fork_.Attr_, .int .i64 p0.Fork_.At_, .slice a30 p0.Kids_.length c31, .int .i64 p0.Miss_, .slice a36 p0.Stats_.Totals_.length c37, .slice a38 p0.Stats_.Cells_.length c39, .int .i64 p0.Since_, .slice a40 p0.Attrs_.length c41, .int .i64 p0.Depth_, .int .i64 p0.Up_, .int .i64 p0.Born_]) rfl rfl rfl rfl rfl rfl (fun _ => kp) (fun b42 => ?_)
  refine ow_batch [.p] rfl ?_
  refine ow_nil ?_
  refine x_qs ?_
  refine c_seq ?_
  refine c_reg ?_
  refine ow_batch [.fa 70 2 3 fa70_2] rfl ?_
  refine ow_r rfl (dstOk_lt rfl) (ry_box1 (off := 3) rfl rfl ty22 (boxIn (i := 0) rfl) rfl) ?_
  refine ow_batch [.p] rfl ?_
  obtain ⟨y43, h44, H⟩ := of_bind H
  refine ow_q rfl rfl (dstOk_lt rfl) (qy_call rfl fn66 rfl (fun w1 hw1 => laws_szIntS_ok w1  h44 (rds_bor g22 w1 hw1))) (fun _ _ => trivial) ?_
  refine ow_batch [.p] rfl ?_
  refine ow_nil ?_
  refine x_qs ?_
  refine c_seq ?_
  refine c_seq ?_
  refine c_reg ?_
  refine ow_batch [.p, .p] rfl ?_
  refine ow_nil ?_
  refine x_qs ?_
  refine c_if rfl (fun hb => ?_) (fun hb => ?_)
  · have H := of_if_t hb H
    refine c_seq ?_
    refine c_reg ?_
    refine ow_batch [.p] rfl ?_
    refine ow_nil ?_
    refine x_qs ?_
    refine c_ret ?_
    refine x_qs_ret ?_
    exact x_retR (rs := [.tmp 4]) (vs := [.int .i64 (-1)]) rfl ⟨rfl, trivial⟩ (fun w' hw' => by
        obtain rfl := of_some H
        exact ⟨rfl, hw'.ext⟩)
  · have H := of_if_f hb H
    refine c_skip ?_
    refine x_qs ?_
    refine c_seq ?_
    refine c_reg ?_
    refine ow_batch [.fa 70 4 5 fa70_4] rfl ?_
    refine ow_r rfl (dstOk_lt rfl) (ry_box (off := 5) (ds := [.slice a36 p0.Stats_.Totals_.length c37, .slice a38 p0.Stats_.Cells_.length c39]) rfl rfl ty68 (boxIn (i := 0) rfl) rfl rfl) ?_
    refine ow_batch [.p] rfl ?_
    obtain ⟨y45, h46, H⟩ := of_bind H
    refine ow_q rfl rfl (dstOk_lt rfl) (qy_call rfl fn80 rfl (fun w1 hw1 => laws_szStats_ok w1 (cs0 := [.slice a36 p0.Stats_.Totals_.length c37, .slice a38 p0.Stats_.Cells_.length c39]) h46 (rdm_Tlaws_Stats (x := p0.Stats_) (c0 := [.slice a36 p0.Stats_.Totals_.length c37]) (c1 := [.slice a38 p0.Stats_.Cells_.length c39]) (rds_bor g34 w1 hw1) (rds_bor g35 w1 hw1)))) (fun _ _ => trivial) ?_
    refine ow_batch [.p] rfl ?_
    refine ow_nil ?_
    refine x_qs ?_
    refine c_seq ?_
    refine c_seq ?_
    refine c_reg ?_
    refine ow_batch [.p, .p] rfl ?_
    refine ow_nil ?_
    refine x_qs ?_
    refine c_if rfl (fun hb => ?_) (fun hb => ?_)
    · have H := of_if_t hb H
      refine c_seq ?_
      refine c_reg ?_
      refine ow_batch [.p] rfl ?_
      refine ow_nil ?_
      refine x_qs ?_
      refine c_ret ?_
      refine x_qs_ret ?_
      exact x_retR (rs := [.tmp 4]) (vs := [.int .i64 (-1)]) rfl ⟨rfl, trivial⟩ (fun w' hw' => by
          obtain rfl := of_some H
          exact ⟨rfl, hw'.ext⟩)
    · have H := of_if_f hb H
      refine c_skip ?_
      refine x_qs ?_
      refine c_seq ?_
      refine c_reg ?_
      refine ow_batch [.fa 70 6 8 fa70_6] rfl ?_
      refine ow_r rfl (dstOk_lt rfl) (ry_box1 (off := 8) rfl rfl ty22 (boxIn (i := 0) rfl) rfl) ?_
      refine ow_batch [.p] rfl ?_
      obtain ⟨y47, h48, H⟩ := of_bind H
      refine ow_q rfl rfl (dstOk_lt rfl) (qy_call rfl fn66 rfl (fun w1 hw1 => laws_szIntS_ok w1  h48 (rds_bor g26 w1 hw1))) (fun _ _ => trivial) ?_
      refine ow_batch [.p] rfl ?_
      refine ow_nil ?_
      refine x_qs ?_
      refine c_seq ?_
      refine c_seq ?_
      refine c_reg ?_
      refine ow_batch [.p, .p] rfl ?_
      refine ow_nil ?_
      refine x_qs ?_
      refine c_if rfl (fun hb => ?_) (fun hb => ?_)
      · have H := of_if_t hb H
        refine c_seq ?_
        refine c_reg ?_
        refine ow_batch [.p] rfl ?_
        refine ow_nil ?_
        refine x_qs ?_
        refine c_ret ?_
        refine x_qs_ret ?_
        exact x_retR (rs := [.tmp 4]) (vs := [.int .i64 (-1)]) rfl ⟨rfl, trivial⟩ (fun w' hw' => by
            obtain rfl := of_some H
            exact ⟨rfl, hw'.ext⟩)
      · have H := of_if_f hb H
        refine c_skip ?_
        refine x_qs ?_
        refine c_seq ?_
        refine c_reg ?_
        refine ow_batch [.p, .p] rfl ?_
        refine ow_nil ?_
        refine x_qs ?_
        refine c_ret ?_
        exact x_retR (rs := [.tmp 4]) (vs := [.int .i64 y47]) rfl ⟨rfl, trivial⟩ (fun w' hw' => by
            obtain rfl := of_some H
            exact ⟨rfl, hw'.ext⟩)

set_option maxHeartbeats 4000000 in
set_option maxRecDepth 100000 in
theorem laws_toIntS_ok (w : World) {M0 : List Nat} {p0 : List Int} {a_0 : Option Addr} {n_0 c_0 : Nat} {r : List Int} (H : laws_toIntS p0 = some r) (HS : St w M0 [] w) (g0 : (eList (eVal (Value.int .i64) (fun _ => rfl)) 3).rd w M0 p0 [.slice a_0 n_0 c_0]) :
    Calls Tryd.prog 9 #[.slice a_0 n_0 c_0] w (fun en w' => ∃ v, en = .returned v ∧ ∃ (a0 : Option Addr), ∃ (n0 : Nat), ∃ (c0 : Nat), ∃ (F0 : List Nat), v = .slice a0 n0 c0 ∧ St w M0 [Res.own (eList (eVal (Value.int .i64) (fun _ => rfl)) 3) F0 r [.slice a0 n0 c0]] w') := by
  obtain rfl := rd_n g0
  unfold laws_toIntS at H
  refine f_enter (vs := [.slice a_0 p0.length c_0]) Tryd.func9 rfl Tryd.ntmps9 rfl (HS) ?_
  refine c_seq ?_
  refine c_reg ?_
  refine ow_batch [.p] rfl ?_
  refine ow_nil ?_
  refine x_qs ?_
  refine c_seq ?_
  refine c_reg ?_
  refine ow_batch [.p, .lenS 22 3 sl22] rfl ?_
  obtain ⟨l10, h11, H⟩ := of_bind H
  refine ow_make (e := eVal (Value.int .i64) (fun _ => rfl)) (zero := (0 : Int)) rfl rfl rfl rfl rfl rfl sl22 ty3 rfl rfl rfl rfl (fun _ => ⟨rfl, rfl⟩) h11 (fun _ => kp) (fun b12 => ?_)
  refine ow_batch [.p] rfl ?_
  refine ow_nil ?_
  refine x_qs ?_
  refine c_seq ?_
  refine c_seq ?_
  refine c_reg ?_
  refine ow_batch [.p] rfl ?_
  refine ow_nil ?_
  refine x_qs ?_
  refine c_block ?_
  refine CW.at (loopI2 (fun (l19 : List Int) (i20 : Int) => St w M0 [Res.own (eList (eVal (Value.int .i64) (fun _ => rfl)) 3) [b12] l19 [.slice (some ⟨b12, 0, none⟩) l10.length l10.length]]) (fun (l19 : List Int) (i20 : Int) => [(0, .slice a_0 p0.length c_0), (3, .slice (some ⟨b12, 0, none⟩) l10.length l10.length), (4, .int .i64 i20)]) (fun kk => fun (l19 : List Int) (i20 : Int) => laws_toIntS_L1 p0 kk l19 i20 = some r) (fun _ _ H => ?_) (fun k1 ihk1 l19 i20 H => ?_) Fuel (l10) (0) (H)) (fun _ h => St.sel [0] rfl rfl h) ⟨rfl, rfl, rfl,  trivial⟩
  · unfold laws_toIntS_L1 at H
    exact absurd H (by simp)
  · unfold laws_toIntS_L1 at H
    refine c_seq ?_
    refine c_seq ?_
    refine c_reg ?_
    refine ow_batch [.p, .p, .lenS 22 3 sl22, .p] rfl ?_
    refine ow_nil ?_
    refine x_qs ?_
    refine c_if rfl (fun hb => ?_) (fun hb => ?_)
    · have H := of_if_t hb H
      refine c_skip ?_
      refine x_qs ?_
      refine c_seq ?_
      refine c_block ?_
      refine c_reg ?_
      refine ow_batch [.p, .p, .p, .p] rfl ?_
      obtain ⟨e27, h28, H⟩ := of_bind H
      refine ow_ixE (e := eVal (Value.int .i64) (fun _ => rfl)) (xs := p0) (j := i20) rfl rfl rfl rfl rfl sl22 ty3 rfl (fun w1 hw1 => rds_bor g0 w1 hw1) h28 (by rw [Nat.mul_one]) ?_
      refine ow_r rfl (dstOk_lt rfl) (ry_load1 rfl rfl ty3 (at_elV (fun w1 hw1 => rds_bor g0 w1 hw1) h28)) ?_
      obtain ⟨e29, h30, H⟩ := of_bind H
      refine ow_ixE (e := eVal (Value.int .i64) (fun _ => rfl)) (xs := l19) (j := i20) rfl rfl rfl rfl rfl sl22 ty3 rfl (fun w1 hw1 => rds_own (e := eList (eVal (Value.int .i64) (fun _ => rfl)) 3) (r := 0) rfl w1 hw1) h30 (by rw [Nat.mul_one]) ?_
      refine ow_storeV (i := 0) (j := i20) rfl rfl rfl rfl rfl rfl ty3 rfl h30 (fun _ => rfl) kp ?_
      refine ow_nil ?_
      refine x_qb ?_
      refine x_qs ?_
      refine c_reg ?_
      refine ow_batch [.p, .p, .p] rfl ?_
      refine ow_nil ?_
      exact x_ql (RW.at (ihk1 ((l19.set i20.toNat e27)) (IntKind.i64.wrap (i20 + 1)) (H)) (fun _ h => St.sel [0] rfl rfl h) ⟨rfl, rfl, rfl, trivial⟩)
    · have H := of_if_f hb H
      refine c_exit ?_
      refine x_qs_exit ?_
      refine x_ql_exit ?_
      refine x_qb_here ?_
      refine x_qs ?_
      refine c_seq ?_
      refine c_reg ?_
      refine ow_batch [.p, .p] rfl ?_
      refine ow_nil ?_
      refine x_qs ?_
      refine c_ret ?_
      exact x_retR (rs := [.tmp 2]) (vs := [.slice (some ⟨b12, 0, none⟩) l10.length l10.length]) rfl ⟨rfl, trivial⟩ (fun w' hw' => by
          obtain rfl := of_some H
          exact ⟨_, rfl, (some ⟨b12, 0, none⟩), l10.length, l10.length, [b12], rfl, hw'.sel [0] rfl rfl⟩)

set_option maxHeartbeats 4000000 in
set_option maxRecDepth 100000 in
theorem laws_toStringS_ok (w : World) {M0 : List Nat} {p0 : List (List UInt8)} {a_0 : Option Addr} {n_0 c_0 : Nat} {r : List (List UInt8)} (H : laws_toStringS p0 = some r) (HS : St w M0 [] w) (g0 : (eList (eStr) 9).rd w M0 p0 [.slice a_0 n_0 c_0]) :
    Calls Tryd.prog 73 #[.slice a_0 n_0 c_0] w (fun en w' => ∃ v, en = .returned v ∧ ∃ (a0 : Option Addr), ∃ (n0 : Nat), ∃ (c0 : Nat), ∃ (F0 : List Nat), v = .slice a0 n0 c0 ∧ St w M0 [Res.own (eList (eStr) 9) F0 r [.slice a0 n0 c0]] w') := by
  obtain rfl := rd_n g0
  unfold laws_toStringS at H
  refine f_enter (vs := [.slice a_0 p0.length c_0]) Tryd.func73 rfl Tryd.ntmps73 rfl (HS) ?_
  refine c_seq ?_
  refine c_reg ?_
  refine ow_batch [.p] rfl ?_
  refine ow_nil ?_
  refine x_qs ?_
  refine c_seq ?_
  refine c_reg ?_
  refine ow_batch [.p, .lenS 48 9 sl48] rfl ?_
  obtain ⟨l10, h11, H⟩ := of_bind H
  refine ow_make (e := eStr) (zero := ([] : List UInt8)) rfl rfl rfl rfl rfl rfl sl48 ty9 rfl rfl rfl rfl (fun _ => ⟨rfl, rfl⟩) h11 (fun _ => kp) (fun b12 => ?_)
  refine ow_batch [.p] rfl ?_
  refine ow_nil ?_
  refine x_qs ?_
  refine c_seq ?_
  refine c_seq ?_
  refine c_reg ?_
  refine ow_batch [.p] rfl ?_
  refine ow_nil ?_
  refine x_qs ?_
  refine c_block ?_
  refine CW.at (loopI2 (fun (l19 : List (List UInt8)) (i20 : Int) => St w M0 [Res.own (eList (eStr) 9) [b12] l19 [.slice (some ⟨b12, 0, none⟩) l10.length l10.length]]) (fun (l19 : List (List UInt8)) (i20 : Int) => [(0, .slice a_0 p0.length c_0), (3, .slice (some ⟨b12, 0, none⟩) l10.length l10.length), (4, .int .i64 i20)]) (fun kk => fun (l19 : List (List UInt8)) (i20 : Int) => laws_toStringS_L1 p0 kk l19 i20 = some r) (fun _ _ H => ?_) (fun k1 ihk1 l19 i20 H => ?_) Fuel (l10) (0) (H)) (fun _ h => St.sel [0] rfl rfl h) ⟨rfl, rfl, rfl,  trivial⟩
  · unfold laws_toStringS_L1 at H
    exact absurd H (by simp)
  · unfold laws_toStringS_L1 at H
    refine c_seq ?_
    refine c_seq ?_
    refine c_reg ?_
    refine ow_batch [.p, .p, .lenS 48 9 sl48, .p] rfl ?_
    refine ow_nil ?_
    refine x_qs ?_
    refine c_if rfl (fun hb => ?_) (fun hb => ?_)
    · have H := of_if_t hb H
      refine c_skip ?_
      refine x_qs ?_
      refine c_seq ?_
      refine c_block ?_
      refine c_reg ?_
      refine ow_batch [.p, .p, .p, .p] rfl ?_
      obtain ⟨e27, h28, H⟩ := of_bind H
      refine ow_ixE (e := eStr) (xs := p0) (j := i20) rfl rfl rfl rfl rfl sl48 ty9 rfl (fun w1 hw1 => rds_bor g0 w1 hw1) h28 (by rw [Nat.mul_one]) ?_
      refine ow_r rfl (dstOk_lt rfl) (ry_load1 rfl rfl ty9 (at_elV (fun w1 hw1 => rds_bor g0 w1 hw1) h28)) ?_
      obtain ⟨e29, h30, H⟩ := of_bind H
      refine ow_ixE (e := eStr) (xs := l19) (j := i20) rfl rfl rfl rfl rfl sl48 ty9 rfl (fun w1 hw1 => rds_own (e := eList (eStr) 9) (r := 0) rfl w1 hw1) h30 (by rw [Nat.mul_one]) ?_
      refine ow_storeV (i := 0) (j := i20) rfl rfl rfl rfl rfl rfl ty9 rfl h30 (fun _ => rfl) kp ?_
      refine ow_nil ?_
      refine x_qb ?_
      refine x_qs ?_
      refine c_reg ?_
      refine ow_batch [.p, .p, .p] rfl ?_
      refine ow_nil ?_
      exact x_ql (RW.at (ihk1 ((l19.set i20.toNat e27)) (IntKind.i64.wrap (i20 + 1)) (H)) (fun _ h => St.sel [0] rfl rfl h) ⟨rfl, rfl, rfl, trivial⟩)
    · have H := of_if_f hb H
      refine c_exit ?_
      refine x_qs_exit ?_
      refine x_ql_exit ?_
      refine x_qb_here ?_
      refine x_qs ?_
      refine c_seq ?_
      refine c_reg ?_
      refine ow_batch [.p, .p] rfl ?_
      refine ow_nil ?_
      refine x_qs ?_
      refine c_ret ?_
      exact x_retR (rs := [.tmp 2]) (vs := [.slice (some ⟨b12, 0, none⟩) l10.length l10.length]) rfl ⟨rfl, trivial⟩ (fun w' hw' => by
          obtain rfl := of_some H
          exact ⟨_, rfl, (some ⟨b12, 0, none⟩), l10.length, l10.length, [b12], rfl, hw'.sel [0] rfl rfl⟩)

set_option maxHeartbeats 4000000 in
set_option maxRecDepth 100000 in
theorem laws_toAttr_ok (w : World) {M0 : List Nat} {p0 : Tlaws_Attr} {cs0 : List Value} {r : Timpl_Attr} (H : laws_toAttr p0 = some r) (HS : St w M0 [] w) (g0 : (eTlaws_Attr).rd w M0 p0 cs0) :
    Calls Tryd.prog 113 #[.agg cs0.toArray] w (fun en w' => ∃ v, en = .returned v ∧ ∃ (a0 : Option Addr), ∃ (n0 : Nat), ∃ (c0 : Nat), ∃ (F0 : List Nat), ∃ (a1 : Option Addr), ∃ (n1 : Nat), ∃ (c1 : Nat), ∃ (F1 : List Nat), v = .agg #[vS r.Name_, .slice a0 n0 c0, .slice a1 n1 c1] ∧ St w M0 [Res.own (eList (eVal (Value.int .i64) (fun _ => rfl)) 3) F0 r.Cuts_ [.slice a0 n0 c0], Res.own (eList (eStr) 9) F1 r.Values_ [.slice a1 n1 c1]] w') := by
  obtain ⟨c10, c11, c12, rfl, g13, g14, g15⟩ := rdo_Tlaws_Attr g0
  obtain rfl : c10 = [vS p0.Name_] := g13
  obtain ⟨a16, c17, rfl⟩ := rd_sl1 g14
  obtain ⟨a18, c19, rfl⟩ := rd_sl1 g15
  unfold laws_toAttr at H
  refine f_enter (vs := [.agg #[vS p0.Name_, .slice a16 p0.Cuts_.length c17, .slice a18 p0.Values_.length c19]]) Tryd.func113 rfl Tryd.ntmps113 rfl (HS) ?_
  refine c_seq ?_
  refine c_reg ?_
  refine ow_box (cs := [vS p0.Name_, .slice a16 p0.Cuts_.length c17, .slice a18 p0.Values_.length c19]) rfl rfl rfl rfl rfl rfl (fun _ => kp) (fun b20 => ?_)
  refine ow_alloc rfl rfl rfl rfl ty105 (fun _ => kp) (fun b21 => ?_)
  refine ow_nil ?_
  refine x_qs ?_
  refine c_seq ?_
  refine c_reg ?_
  refine ow_alloc rfl rfl rfl rfl ty105 (fun _ => kp) (fun b22 => ?_)
  refine ow_nil ?_
  refine x_qs ?_
  refine c_seq ?_
  refine c_reg ?_
  refine ow_batch [.fa 145 0 0 fa145_0] rfl ?_
  refine ow_r rfl (dstOk_lt rfl) (ry_box1 (off := 0) rfl rfl ty9 (boxIn (i := 0) rfl) rfl) ?_
  refine ow_batch [.fa 105 0 0 fa105_0] rfl ?_
  refine ow_storeC (off := 0) [vS p0.Name_] [_, _, _] (i := 2) rfl rfl rfl rfl rfl rfl ty9 rfl rfl (by intro u hu; simp only [List.mem_cons, List.not_mem_nil, or_false] at hu; rcases hu with rfl <;> rfl) rfl rfl rfl kp ?_
  refine ow_nil ?_
  refine x_qs ?_
  refine c_seq ?_
  refine c_reg ?_
  refine ow_batch [.fa 145 1 1 fa145_1] rfl ?_
  refine ow_r rfl (dstOk_lt rfl) (ry_box1 (off := 1) rfl rfl ty22 (boxIn (i := 0) rfl) rfl) ?_
  obtain ⟨y23, h24, H⟩ := of_bind H
  refine ow_callS rfl fn9 rfl rfl rfl rfl (fun w1 hw1 => laws_toIntS_ok w1  h24 (hw1.carve [] rfl rfl) (rds_bor g14 w1 hw1)) (fun v25 w1 w2 hw1 hR27 => ?_)
  obtain ⟨a28, n29, c30, F31, rfl, hS26⟩ := hR27
  obtain rfl := own_nS (i := 0) hS26 rfl
  refine ⟨St w M0 [_, _, _, _], hw1.comp [] rfl rfl hS26, fun _ _ => trivial, ?_⟩
  refine ow_batch [.fa 105 1 1 fa105_1] rfl ?_
  refine ow_storeC (off := 1) [.slice a28 y23.length c30] [_, _, _] (i := 2) rfl rfl rfl rfl rfl rfl ty22 rfl rfl (by intro u hu; simp only [List.mem_cons, List.not_mem_nil, or_false] at hu; rcases hu with rfl <;> rfl) rfl rfl rfl kp ?_
  refine ow_nil ?_
  refine x_qs ?_
  refine c_seq ?_
  refine c_reg ?_
  refine ow_batch [.fa 145 2 2 fa145_2] rfl ?_
  refine ow_r rfl (dstOk_lt rfl) (ry_box1 (off := 2) rfl rfl ty48 (boxIn (i := 0) rfl) rfl) ?_
  obtain ⟨y32, h33, H⟩ := of_bind H
  refine ow_callS rfl fn73 rfl rfl rfl rfl (fun w1 hw1 => laws_toStringS_ok w1  h33 (hw1.carve [] rfl rfl) (rds_bor g15 w1 hw1)) (fun v34 w1 w2 hw1 hR36 => ?_)
  obtain ⟨a37, n38, c39, F40, rfl, hS35⟩ := hR36
  obtain rfl := own_nS (i := 0) hS35 rfl
  refine ⟨St w M0 [_, _, _, _, _], hw1.comp [] rfl rfl hS35, fun _ _ => trivial, ?_⟩
  refine ow_batch [.fa 105 2 2 fa105_2] rfl ?_
  refine ow_storeC (off := 2) [.slice a37 y32.length c39] [_, _, _] (i := 2) rfl rfl rfl rfl rfl rfl ty48 rfl rfl (by intro u hu; simp only [List.mem_cons, List.not_mem_nil, or_false] at hu; rcases hu with rfl <;> rfl) rfl rfl rfl kp ?_
  refine ow_nil ?_
  refine x_qs ?_
  refine c_seq ?_
  refine c_reg ?_
  refine ow_r rfl (dstOk_lt rfl) (ry_box (off := 0) (ds := [vS p0.Name_, .slice a28 y23.length c30, .slice a37 y32.length c39]) rfl rfl ty105 (boxIn (i := 2) rfl) rfl rfl) ?_
  refine ow_storeC (off := 0) [vS p0.Name_, .slice a28 y23.length c30, .slice a37 y32.length c39] [_, _, _] (i := 1) rfl rfl rfl rfl rfl rfl ty105 rfl rfl (by intro u hu; simp only [List.mem_cons, List.not_mem_nil, or_false] at hu; rcases hu with rfl | rfl | rfl <;> rfl) rfl rfl rfl kp ?_
  refine ow_nil ?_
  refine x_qs ?_
  refine c_ret ?_
  exact x_retR (rs := [.cell 2 105]) (vs := [.agg #[vS p0.Name_, .slice a28 y23.length c30, .slice a37 y32.length c39]]) rfl ⟨⟨_, [vS p0.Name_, .slice a28 y23.length c30, .slice a37 y32.length c39], _, _, _, rfl, ty105, (at_box (T := 105) 0 (boxIn (i := 1) rfl) rfl), rfl, rfl⟩, trivial⟩ (fun w' hw' => by
      obtain rfl := of_some H
      exact ⟨_, rfl, a28, y23.length, c30, F31, a37, y32.length, c39, F40, rfl, hw'.sel [3, 4] rfl rfl⟩)

set_option maxHeartbeats 4000000 in
set_option maxRecDepth 100000 in
theorem laws_toAttrS_ok (w : World) {M0 : List Nat} {p0 : List Tlaws_Attr} {a_0 : Option Addr} {n_0 c_0 : Nat} {r : List Timpl_Attr} (H : laws_toAttrS p0 = some r) (HS : St w M0 [] w) (g0 : (eList (eTlaws_Attr) 145).rd w M0 p0 [.slice a_0 n_0 c_0]) :
    Calls Tryd.prog 72 #[.slice a_0 n_0 c_0] w (fun en w' => ∃ v, en = .returned v ∧ ∃ (a0 : Option Addr), ∃ (n0 : Nat), ∃ (c0 : Nat), ∃ (F0 : List Nat), v = .slice a0 n0 c0 ∧ St w M0 [Res.own (eList (eTimpl_Attr) 105) F0 r [.slice a0 n0 c0]] w') := by
  obtain rfl := rd_n g0
  unfold laws_toAttrS at H
  refine f_enter (vs := [.slice a_0 p0.length c_0]) Tryd.func72 rfl Tryd.ntmps72 rfl (HS) ?_
  refine c_seq ?_
  refine c_reg ?_
  refine ow_batch [.p] rfl ?_
  refine ow_nil ?_
  refine x_qs ?_
  refine c_seq ?_
  refine c_reg ?_
  refine ow_batch [.p, .lenS 47 145 sl47] rfl ?_
  obtain ⟨l10, h11, H⟩ := of_bind H
  refine ow_make (e := eTimpl_Attr) (zero := ((Timpl_Attr.mk [] [] []) : Timpl_Attr)) rfl rfl rfl rfl rfl rfl sl56 ty105 rfl rfl rfl rfl (fun _ => (ownm_Timpl_Attr (x := (Timpl_Attr.mk [] [] [])) (⟨rfl, rfl⟩ : (eStr).own _ [] ([] : List UInt8) _) ((.inl ⟨rfl, rfl, rfl⟩) : (eList (eVal (Value.int .i64) (fun _ => rfl)) 3).own _ [] ([] : List Int) _) ((.inl ⟨rfl, rfl, rfl⟩) : (eList (eStr) 9).own _ [] ([] : List (List UInt8)) _))) h11 (fun _ => kp) (fun b12 => ?_)
  refine ow_batch [.p] rfl ?_
  refine ow_nil ?_
  refine x_qs ?_
  refine c_seq ?_
  refine c_seq ?_
  refine c_reg ?_
  refine ow_batch [.p] rfl ?_
  refine ow_nil ?_
  refine x_qs ?_
  refine c_block ?_
  refine CW.at (loopI3 (fun (l63 : List Timpl_Attr) (F64 : List Nat) (i65 : Int) => St w M0 [Res.own (eList (eTimpl_Attr) 105) F64 l63 [.slice (some ⟨b12, 0, none⟩) l10.length l10.length]]) (fun (l63 : List Timpl_Attr) (F64 : List Nat) (i65 : Int) => [(0, .slice a_0 p0.length c_0), (3, .slice (some ⟨b12, 0, none⟩) l10.length l10.length), (4, .int .i64 i65)]) (fun kk => fun (l63 : List Timpl_Attr) (F64 : List Nat) (i65 : Int) => laws_toAttrS_L1 p0 kk l63 i65 = some r) (fun _ _ _ H => ?_) (fun k1 ihk1 l63 F64 i65 H => ?_) Fuel (l10) ([b12]) (0) (H)) (fun _ h => St.sel [0] rfl rfl h) ⟨rfl, rfl, rfl,  trivial⟩
  · unfold laws_toAttrS_L1 at H
    exact absurd H (by simp)
  · unfold laws_toAttrS_L1 at H
    refine c_seq ?_
    refine c_seq ?_
    refine c_reg ?_
    refine ow_batch [.p, .p, .lenS 47 145 sl47, .p] rfl ?_
    refine ow_nil ?_
    refine x_qs ?_
    refine c_if rfl (fun hb => ?_) (fun hb => ?_)
    · have H := of_if_t hb H
      refine c_skip ?_
      refine x_qs ?_
      refine c_seq ?_
      refine c_block ?_
      refine c_reg ?_
      refine ow_batch [.p, .p, .p, .p] rfl ?_
      obtain ⟨e116, h117, H⟩ := of_bind H
      refine ow_ixB rfl rfl rfl rfl rfl sl47 ty145 rfl g0 h117 (fun q120 c121 hd118 hA119 => ?_)
      obtain ⟨c122, c123, c124, rfl, g125, g126, g127⟩ := rdo_Tlaws_Attr hd118
      obtain rfl : c122 = [vS e116.Name_] := g125
      obtain ⟨a128, c129, rfl⟩ := rd_sl1 g126
      obtain ⟨a130, c131, rfl⟩ := rd_sl1 g127
      refine ow_r rfl (dstOk_lt rfl) (ry_load (cs := [vS e116.Name_, .slice a128 e116.Cuts_.length c129, .slice a130 e116.Values_.length c131]) rfl rfl ty145 (at_bor bor hA119) rfl) ?_
      obtain ⟨y132, h133, H⟩ := of_bind H
      refine ow_callS rfl fn113 rfl rfl rfl rfl (fun w1 hw1 => laws_toAttr_ok w1 (cs0 := [vS e116.Name_, .slice a128 e116.Cuts_.length c129, .slice a130 e116.Values_.length c131]) h133 (hw1.carve [] rfl rfl) (rdm_Tlaws_Attr (x := e116) (c0 := [vS e116.Name_]) (c1 := [.slice a128 e116.Cuts_.length c129]) (c2 := [.slice a130 e116.Values_.length c131]) rfl (rds_bor g126 w1 hw1) (rds_bor g127 w1 hw1))) (fun v134 w1 w2 hw1 hR136 => ?_)
      obtain ⟨a137, n138, c139, F140, a141, n142, c143, F144, rfl, hS135⟩ := hR136
      obtain rfl := own_nS (i := 0) hS135 rfl
      obtain rfl := own_nS (i := 1) hS135 rfl
      refine ⟨St w M0 [_, _, _], hw1.comp [] rfl rfl hS135, fun _ _ => trivial, ?_⟩
      obtain ⟨e145, h146, H⟩ := of_bind H
      refine ow_ex4 rfl (fun w1 hw1 => foc (r := 0) hw1 rfl h146) (fun b148 G149 F150 c151 => ?_)
      refine ow_fact rfl (fun w1 hw1 => hw1.1) (fun q147 => ?_)
      obtain ⟨ha152, hn153⟩ := q147
      refine ow_st (C' := St w M0 [_, _, _, _, _]) rfl (fun w1 hw1 => hw1.2) ?_
      refine ow_ex3 rfl (fun w1 hw1 => opn_Timpl_Attr (i := 4) hw1 rfl) (fun a155 c156 F157 => ?_)
      refine ow_ex3 rfl (fun _ h => h) (fun a158 c159 F160 => ?_)
      refine ow_fact rfl (fun w1 hw1 => hw1.1) (fun q154 => ?_)
      subst q154
      refine ow_st (C' := St w M0 [_, _, _, _, _, _, _]) rfl (fun w1 hw1 => hw1.2) ?_
      refine ow_ixH rfl rfl rfl rfl rfl sl56 ty105 rfl (holeIn (p := 3) rfl) hn153 ha152 (idx_some h146).1 ?_
      refine ow_storeH (off := 0) [vS y132.Name_, .slice a137 y132.Cuts_.length c139, .slice a141 y132.Values_.length c143] (p := 3) (c' := [_, _, _]) rfl rfl rfl rfl rfl (by first | rfl | simp only [add_lit, add_add, add_zero]) rfl ty105 rfl rfl (by intro u hu; simp only [List.mem_cons, List.not_mem_nil, or_false] at hu; rcases hu with rfl | rfl | rfl <;> rfl) rfl rfl rfl kp ?_
      refine ow_nil ?_
      refine x_qb ?_
      refine x_qs ?_
      refine CW.weak (C' := St w M0 [_, _, _, _, _]) ?_ (fun _ h => St.sel [1, 2, 3, 5, 6] rfl rfl h)
      refine c_reg ?_
      refine ow_batch [.p, .p, .p] rfl ?_
      refine ow_nil ?_
      refine xw_ex (fun w1 hw1 => fus_Timpl_Attr (x0 := y132.Name_) [0, 1] hw1 rfl rfl) (fun F161 => ?_)
      refine xw_st (C' := St w M0 [_, _, _, _, _, _]) (fun _ h => h) ?_
      refine xw_ex (fun w1 hw1 => unf (p := 2) (q := 5) hw1 rfl rfl rfl hn153 ha152) (fun F162 => ?_)
      refine xw_st (C' := St w M0 [_, _, _, _, _, _, _]) (fun _ h => h) ?_
      exact x_ql (RW.at (ihk1 ((l63.set i65.toNat y132)) (F162) (IntKind.i64.wrap (i65 + 1)) (H)) (fun _ h => St.sel [6] rfl rfl h) ⟨rfl, rfl, rfl, trivial⟩)
    · have H := of_if_f hb H
      refine c_exit ?_
      refine x_qs_exit ?_
      refine x_ql_exit ?_
      refine x_qb_here ?_
      refine x_qs ?_
      refine c_seq ?_
      refine c_reg ?_
      refine ow_batch [.p, .p] rfl ?_
      refine ow_nil ?_
      refine x_qs ?_
      refine c_ret ?_
      exact x_retR (rs := [.tmp 2]) (vs := [.slice (some ⟨b12, 0, none⟩) l10.length l10.length]) rfl ⟨rfl, trivial⟩ (fun w' hw' => by
          obtain rfl := of_some H
          exact ⟨_, rfl, (some ⟨b12, 0, none⟩), l10.length, l10.length, F64, rfl, hw'.sel [0] rfl rfl⟩)

set_option maxHeartbeats 4000000 in
set_option maxRecDepth 100000 in
theorem laws_toSchema_ok (w : World) {M0 : List Nat} {p0 : Tlaws_Schema} {cs0 : List Value} {r : Timpl_Schema} (H : laws_toSchema p0 = some r) (HS : St w M0 [] w) (g0 : (eTlaws_Schema).rd w M0 p0 cs0) :
    Calls Tryd.prog 25 #[.agg cs0.toArray] w (fun en w' => ∃ v, en = .returned v ∧ ∃ (a0 : Option Addr), ∃ (n0 : Nat), ∃ (c0 : Nat), ∃ (F0 : List Nat), ∃ (a1 : Option Addr), ∃ (n1 : Nat), ∃ (c1 : Nat), ∃ (F1 : List Nat), v = .agg #[.slice a0 n0 c0, .slice a1 n1 c1] ∧ St w M0 [Res.own (eList (eTimpl_Attr) 105) F0 r.Attrs_ [.slice a0 n0 c0], Res.own (eList (eStr) 9) F1 r.Classes_ [.slice a1 n1 c1]] w') := by
  obtain ⟨c10, c11, rfl, g12, g13⟩ := rdo_Tlaws_Schema g0
  obtain ⟨a14, c15, rfl⟩ := rd_sl1 g12
  obtain ⟨a16, c17, rfl⟩ := rd_sl1 g13
  unfold laws_toSchema at H
  refine f_enter (vs := [.agg #[.slice a14 p0.Attrs_.length c15, .slice a16 p0.Classes_.length c17]]) Tryd.func25 rfl Tryd.ntmps25 rfl (HS) ?_
  refine c_seq ?_
  refine c_reg ?_
  refine ow_box (cs := [.slice a14 p0.Attrs_.length c15, .slice a16 p0.Classes_.length c17]) rfl rfl rfl rfl rfl rfl (fun _ => kp) (fun b18 => ?_)
  refine ow_alloc rfl rfl rfl rfl ty58 (fun _ => kp) (fun b19 => ?_)
  refine ow_nil ?_
  refine x_qs ?_
  refine c_seq ?_
  refine c_reg ?_
  refine ow_alloc rfl rfl rfl rfl ty58 (fun _ => kp) (fun b20 => ?_)
  refine ow_nil ?_
  refine x_qs ?_
  refine c_seq ?_
  refine c_reg ?_
  refine ow_batch [.fa 50 0 0 fa50_0] rfl ?_
  refine ow_r rfl (dstOk_lt rfl) (ry_box1 (off := 0) rfl rfl ty47 (boxIn (i := 0) rfl) rfl) ?_
  obtain ⟨y21, h22, H⟩ := of_bind H
  refine ow_callS rfl fn72 rfl rfl rfl rfl (fun w1 hw1 => laws_toAttrS_ok w1  h22 (hw1.carve [] rfl rfl) (rds_bor g12 w1 hw1)) (fun v23 w1 w2 hw1 hR25 => ?_)
  obtain ⟨a26, n27, c28, F29, rfl, hS24⟩ := hR25
  obtain rfl := own_nS (i := 0) hS24 rfl
  refine ⟨St w M0 [_, _, _, _], hw1.comp [] rfl rfl hS24, fun _ _ => trivial, ?_⟩
  refine ow_batch [.fa 58 0 0 fa58_0] rfl ?_
  refine ow_storeC (off := 0) [.slice a26 y21.length c28] [_, _] (i := 2) rfl rfl rfl rfl rfl rfl ty56 rfl rfl (by intro u hu; simp only [List.mem_cons, List.not_mem_nil, or_false] at hu; rcases hu with rfl <;> rfl) rfl rfl rfl kp ?_
  refine ow_nil ?_
  refine x_qs ?_
  refine c_seq ?_
  refine c_reg ?_
  refine ow_batch [.fa 50 1 1 fa50_1] rfl ?_
  refine ow_r rfl (dstOk_lt rfl) (ry_box1 (off := 1) rfl rfl ty48 (boxIn (i := 0) rfl) rfl) ?_
  obtain ⟨y30, h31, H⟩ := of_bind H
  refine ow_callS rfl fn73 rfl rfl rfl rfl (fun w1 hw1 => laws_toStringS_ok w1  h31 (hw1.carve [] rfl rfl) (rds_bor g13 w1 hw1)) (fun v32 w1 w2 hw1 hR34 => ?_)
  obtain ⟨a35, n36, c37, F38, rfl, hS33⟩ := hR34
  obtain rfl := own_nS (i := 0) hS33 rfl
  refine ⟨St w M0 [_, _, _, _, _], hw1.comp [] rfl rfl hS33, fun _ _ => trivial, ?_⟩
  refine ow_batch [.fa 58 1 1 fa58_1] rfl ?_
  refine ow_storeC (off := 1) [.slice a35 y30.length c37] [_, _] (i := 2) rfl rfl rfl rfl rfl rfl ty48 rfl rfl (by intro u hu; simp only [List.mem_cons, List.not_mem_nil, or_false] at hu; rcases hu with rfl <;> rfl) rfl rfl rfl kp ?_
  refine ow_nil ?_
  refine x_qs ?_
  refine c_seq ?_
  refine c_reg ?_
  refine ow_r rfl (dstOk_lt rfl) (ry_box (off := 0) (ds := [.slice a26 y21.length c28, .slice a35 y30.length c37]) rfl rfl ty58 (boxIn (i := 2) rfl) rfl rfl) ?_
  refine ow_storeC (off := 0) [.slice a26 y21.length c28, .slice a35 y30.length c37] [_, _] (i := 1) rfl rfl rfl rfl rfl rfl ty58 rfl rfl (by intro u hu; simp only [List.mem_cons, List.not_mem_nil, or_false] at hu; rcases hu with rfl | rfl <;> rfl) rfl rfl rfl kp ?_
  refine ow_nil ?_
  refine x_qs ?_
  refine c_ret ?_
  exact x_retR (rs := [.cell 2 58]) (vs := [.agg #[.slice a26 y21.length c28, .slice a35 y30.length c37]]) rfl ⟨⟨_, [.slice a26 y21.length c28, .slice a35 y30.length c37], _, _, _, rfl, ty58, (at_box (T := 58) 0 (boxIn (i := 1) rfl) rfl), rfl, rfl⟩, trivial⟩ (fun w' hw' => by
      obtain rfl := of_some H
      exact ⟨_, rfl, a26, y21.length, c28, F29, a35, y30.length, c37, F38, rfl, hw'.sel [3, 4] rfl rfl⟩)

set_option maxHeartbeats 4000000 in
set_option maxRecDepth 100000 in
theorem laws_toFork_ok (w : World) {p0 : Tlaws_Fork}  {r : Timpl_Fork} (H : laws_toFork p0 = some r)   :
    Calls Tryd.prog 85 #[.agg #[.int .i64 p0.Attr_, .int .i64 p0.At_]] w (fun en w' => en = .returned (.agg #[.int .i64 r.Attr_, .int .i64 r.At_]) ∧ Ext [] w w') := by
  unfold laws_toFork at H
  refine f_enter (vs := [.agg #[.int .i64 p0.Attr_, .int .i64 p0.At_]]) Tryd.func85 rfl Tryd.ntmps85 rfl (St.init w []) ?_
  refine c_seq ?_
  refine c_reg ?_
  refine ow_box (cs := [.int .i64 p0.Attr_, .int .i64 p0.At_]) rfl rfl rfl rfl rfl rfl (fun _ => kp) (fun b10 => ?_)
  refine ow_alloc rfl rfl rfl rfl ty73 (fun _ => kp) (fun b11 => ?_)
  refine ow_nil ?_
  refine x_qs ?_
  refine c_seq ?_
  refine c_reg ?_
  refine ow_alloc rfl rfl rfl rfl ty73 (fun _ => kp) (fun b12 => ?_)
  refine ow_nil ?_
  refine x_qs ?_
  refine c_seq ?_
  refine c_reg ?_
  refine ow_batch [.fa 66 0 0 fa66_0] rfl ?_
  refine ow_r rfl (dstOk_lt rfl) (ry_box1 (off := 0) rfl rfl ty3 (boxIn (i := 0) rfl) rfl) ?_
  refine ow_batch [.fa 73 0 0 fa73_0] rfl ?_
  refine ow_storeC (off := 0) [.int .i64 p0.Attr_] [_, _] (i := 2) rfl rfl rfl rfl rfl rfl ty3 rfl rfl (by intro u hu; simp only [List.mem_cons, List.not_mem_nil, or_false] at hu; rcases hu with rfl <;> rfl) rfl rfl rfl kp ?_
  refine ow_nil ?_
  refine x_qs ?_
  refine c_seq ?_
  refine c_reg ?_
  refine ow_batch [.fa 66 1 1 fa66_1] rfl ?_
  refine ow_r rfl (dstOk_lt rfl) (ry_box1 (off := 1) rfl rfl ty3 (boxIn (i := 0) rfl) rfl) ?_
  refine ow_batch [.fa 73 1 1 fa73_1] rfl ?_
  refine ow_storeC (off := 1) [.int .i64 p0.At_] [_, _] (i := 2) rfl rfl rfl rfl rfl rfl ty3 rfl rfl (by intro u hu; simp only [List.mem_cons, List.not_mem_nil, or_false] at hu; rcases hu with rfl <;> rfl) rfl rfl rfl kp ?_
  refine ow_nil ?_
  refine x_qs ?_
  refine c_seq ?_
  refine c_reg ?_
  refine ow_r rfl (dstOk_lt rfl) (ry_box (off := 0) (ds := [.int .i64 p0.Attr_, .int .i64 p0.At_]) rfl rfl ty73 (boxIn (i := 2) rfl) rfl rfl) ?_
  refine ow_storeC (off := 0) [.int .i64 p0.Attr_, .int .i64 p0.At_] [_, _] (i := 1) rfl rfl rfl rfl rfl rfl ty73 rfl rfl (by intro u hu; simp only [List.mem_cons, List.not_mem_nil, or_false] at hu; rcases hu with rfl | rfl <;> rfl) rfl rfl rfl kp ?_
  refine ow_nil ?_
  refine x_qs ?_
  refine c_ret ?_
  exact x_retR (rs := [.cell 2 73]) (vs := [.agg #[.int .i64 p0.Attr_, .int .i64 p0.At_]]) rfl ⟨⟨_, [.int .i64 p0.Attr_, .int .i64 p0.At_], _, _, _, rfl, ty73, (at_box (T := 73) 0 (boxIn (i := 1) rfl) rfl), rfl, rfl⟩, trivial⟩ (fun w' hw' => by
      obtain rfl := of_some H
      exact ⟨rfl, hw'.ext⟩)

set_option maxHeartbeats 4000000 in
set_option maxRecDepth 100000 in
theorem laws_toIntSS_ok (w : World) {M0 : List Nat} {p0 : List (List Int)} {a_0 : Option Addr} {n_0 c_0 : Nat} {r : List (List Int)} (H : laws_toIntSS p0 = some r) (HS : St w M0 [] w) (g0 : (eList (eList (eVal (Value.int .i64) (fun _ => rfl)) 3) 22).rd w M0 p0 [.slice a_0 n_0 c_0]) :
    Calls Tryd.prog 43 #[.slice a_0 n_0 c_0] w (fun en w' => ∃ v, en = .returned v ∧ ∃ (a0 : Option Addr), ∃ (n0 : Nat), ∃ (c0 : Nat), ∃ (F0 : List Nat), v = .slice a0 n0 c0 ∧ St w M0 [Res.own (eList (eList (eVal (Value.int .i64) (fun _ => rfl)) 3) 22) F0 r [.slice a0 n0 c0]] w') := by
  obtain rfl := rd_n g0
  unfold laws_toIntSS at H
  refine f_enter (vs := [.slice a_0 p0.length c_0]) Tryd.func43 rfl Tryd.ntmps43 rfl (HS) ?_
  refine c_seq ?_
  refine c_reg ?_
  refine ow_batch [.p] rfl ?_
  refine ow_nil ?_
  refine x_qs ?_
  refine c_seq ?_
  refine c_reg ?_
  refine ow_batch [.p, .lenS 27 22 sl27] rfl ?_
  obtain ⟨l10, h11, H⟩ := of_bind H
  refine ow_make (e := eList (eVal (Value.int .i64) (fun _ => rfl)) 3) (zero := ([] : List Int)) rfl rfl rfl rfl rfl rfl sl27 ty22 rfl rfl rfl rfl (fun _ => (.inl ⟨rfl, rfl, rfl⟩)) h11 (fun _ => kp) (fun b12 => ?_)
  refine ow_batch [.p] rfl ?_
  refine ow_nil ?_
  refine x_qs ?_
  refine c_seq ?_
  refine c_seq ?_
  refine c_reg ?_
  refine ow_batch [.p] rfl ?_
  refine ow_nil ?_
  refine x_qs ?_
  refine c_block ?_
  refine CW.at (loopI3 (fun (l46 : List (List Int)) (F47 : List Nat) (i48 : Int) => St w M0 [Res.own (eList (eList (eVal (Value.int .i64) (fun _ => rfl)) 3) 22) F47 l46 [.slice (some ⟨b12, 0, none⟩) l10.length l10.length]]) (fun (l46 : List (List Int)) (F47 : List Nat) (i48 : Int) => [(0, .slice a_0 p0.length c_0), (3, .slice (some ⟨b12, 0, none⟩) l10.length l10.length), (4, .int .i64 i48)]) (fun kk => fun (l46 : List (List Int)) (F47 : List Nat) (i48 : Int) => laws_toIntSS_L1 p0 kk l46 i48 = some r) (fun _ _ _ H => ?_) (fun k1 ihk1 l46 F47 i48 H => ?_) Fuel (l10) ([b12]) (0) (H)) (fun _ h => St.sel [0] rfl rfl h) ⟨rfl, rfl, rfl,  trivial⟩
  · unfold laws_toIntSS_L1 at H
    exact absurd H (by simp)
  · unfold laws_toIntSS_L1 at H
    refine c_seq ?_
    refine c_seq ?_
    refine c_reg ?_
    refine ow_batch [.p, .p, .lenS 27 22 sl27, .p] rfl ?_
    refine ow_nil ?_
    refine x_qs ?_
    refine c_if rfl (fun hb => ?_) (fun hb => ?_)
    · have H := of_if_t hb H
      refine c_skip ?_
      refine x_qs ?_
      refine c_seq ?_
      refine c_block ?_
      refine c_reg ?_
      refine ow_batch [.p, .p, .p, .p] rfl ?_
      obtain ⟨e82, h83, H⟩ := of_bind H
      refine ow_ixB rfl rfl rfl rfl rfl sl27 ty22 rfl g0 h83 (fun q86 c87 hd84 hA85 => ?_)
      obtain ⟨a88, c89, rfl⟩ := rd_sl1 hd84
      refine ow_r rfl (dstOk_lt rfl) (ry_load1 rfl rfl ty22 (at_bor bor hA85)) ?_
      obtain ⟨y90, h91, H⟩ := of_bind H
      refine ow_callS rfl fn9 rfl rfl rfl rfl (fun w1 hw1 => laws_toIntS_ok w1  h91 (hw1.carve [] rfl rfl) (rds_bor hd84 w1 hw1)) (fun v92 w1 w2 hw1 hR94 => ?_)
      obtain ⟨a95, n96, c97, F98, rfl, hS93⟩ := hR94
      obtain rfl := own_nS (i := 0) hS93 rfl
      refine ⟨St w M0 [_, _], hw1.comp [] rfl rfl hS93, fun _ _ => trivial, ?_⟩
      obtain ⟨e99, h100, H⟩ := of_bind H
      refine ow_ex4 rfl (fun w1 hw1 => foc (r := 0) hw1 rfl h100) (fun b102 G103 F104 c105 => ?_)
      refine ow_fact rfl (fun w1 hw1 => hw1.1) (fun q101 => ?_)
      obtain ⟨ha106, hn107⟩ := q101
      refine ow_st (C' := St w M0 [_, _, _, _]) rfl (fun w1 hw1 => hw1.2) ?_
      refine ow_ex2 rfl (fun w1 hw1 => opn_sl (i := 3) hw1 rfl) (fun a108 c109 => ?_)
      refine ow_fact rfl (fun w1 hw1 => hw1.1) (fun q110 => ?_)
      subst q110
      refine ow_st (C' := St w M0 [_, _, _, _]) rfl (fun w1 hw1 => hw1.2) ?_
      refine ow_ixH rfl rfl rfl rfl rfl sl27 ty22 rfl (holeIn (p := 2) rfl) hn107 ha106 (idx_some h100).1 ?_
      refine ow_storeH (off := 0) [.slice a95 y90.length c97] (p := 2) (c' := [_]) rfl rfl rfl rfl rfl (by first | rfl | simp only [add_lit, add_add, add_zero]) rfl ty22 rfl rfl (by intro u hu; simp only [List.mem_cons, List.not_mem_nil, or_false] at hu; rcases hu with rfl <;> rfl) rfl rfl rfl kp ?_
      refine ow_nil ?_
      refine x_qb ?_
      refine x_qs ?_
      refine c_reg ?_
      refine ow_batch [.p, .p, .p] rfl ?_
      refine ow_nil ?_
      refine xw_ex (fun w1 hw1 => unf (p := 2) (q := 1) hw1 rfl rfl rfl hn107 ha106) (fun F111 => ?_)
      refine xw_st (C' := St w M0 [_, _, _, _, _]) (fun _ h => h) ?_
      exact x_ql (RW.at (ihk1 ((l46.set i48.toNat y90)) (F111) (IntKind.i64.wrap (i48 + 1)) (H)) (fun _ h => St.sel [4] rfl rfl h) ⟨rfl, rfl, rfl, trivial⟩)
    · have H := of_if_f hb H
      refine c_exit ?_
      refine x_qs_exit ?_
      refine x_ql_exit ?_
      refine x_qb_here ?_
      refine x_qs ?_
      refine c_seq ?_
      refine c_reg ?_
      refine ow_batch [.p, .p] rfl ?_
      refine ow_nil ?_
      refine x_qs ?_
      refine c_ret ?_
      exact x_retR (rs := [.tmp 2]) (vs := [.slice (some ⟨b12, 0, none⟩) l10.length l10.length]) rfl ⟨rfl, trivial⟩ (fun w' hw' => by
          obtain rfl := of_some H
          exact ⟨_, rfl, (some ⟨b12, 0, none⟩), l10.length, l10.length, F47, rfl, hw'.sel [0] rfl rfl⟩)

set_option maxHeartbeats 4000000 in
set_option maxRecDepth 100000 in
theorem laws_toStats_ok (w : World) {M0 : List Nat} {p0 : Tlaws_Stats} {cs0 : List Value} {r : Timpl_Stats} (H : laws_toStats p0 = some r) (HS : St w M0 [] w) (g0 : (eTlaws_Stats).rd w M0 p0 cs0) :
    Calls Tryd.prog 86 #[.agg cs0.toArray] w (fun en w' => ∃ v, en = .returned v ∧ ∃ (a0 : Option Addr), ∃ (n0 : Nat), ∃ (c0 : Nat), ∃ (F0 : List Nat), ∃ (a1 : Option Addr), ∃ (n1 : Nat), ∃ (c1 : Nat), ∃ (F1 : List Nat), v = .agg #[.slice a0 n0 c0, .slice a1 n1 c1] ∧ St w M0 [Res.own (eList (eVal (Value.int .i64) (fun _ => rfl)) 3) F0 r.Totals_ [.slice a0 n0 c0], Res.own (eList (eList (eVal (Value.int .i64) (fun _ => rfl)) 3) 22) F1 r.Cells_ [.slice a1 n1 c1]] w') := by
  obtain ⟨c10, c11, rfl, g12, g13⟩ := rdo_Tlaws_Stats g0
  obtain ⟨a14, c15, rfl⟩ := rd_sl1 g12
  obtain ⟨a16, c17, rfl⟩ := rd_sl1 g13
  unfold laws_toStats at H
  refine f_enter (vs := [.agg #[.slice a14 p0.Totals_.length c15, .slice a16 p0.Cells_.length c17]]) Tryd.func86 rfl Tryd.ntmps86 rfl (HS) ?_
  refine c_seq ?_
  refine c_reg ?_
  refine ow_box (cs := [.slice a14 p0.Totals_.length c15, .slice a16 p0.Cells_.length c17]) rfl rfl rfl rfl rfl rfl (fun _ => kp) (fun b18 => ?_)
  refine ow_alloc rfl rfl rfl rfl ty74 (fun _ => kp) (fun b19 => ?_)
  refine ow_nil ?_
  refine x_qs ?_
  refine c_seq ?_
  refine c_reg ?_
  refine ow_alloc rfl rfl rfl rfl ty74 (fun _ => kp) (fun b20 => ?_)
  refine ow_nil ?_
  refine x_qs ?_
  refine c_seq ?_
  refine c_reg ?_
  refine ow_batch [.fa 68 0 0 fa68_0] rfl ?_
  refine ow_r rfl (dstOk_lt rfl) (ry_box1 (off := 0) rfl rfl ty22 (boxIn (i := 0) rfl) rfl) ?_
  obtain ⟨y21, h22, H⟩ := of_bind H
  refine ow_callS rfl fn9 rfl rfl rfl rfl (fun w1 hw1 => laws_toIntS_ok w1  h22 (hw1.carve [] rfl rfl) (rds_bor g12 w1 hw1)) (fun v23 w1 w2 hw1 hR25 => ?_)
  obtain ⟨a26, n27, c28, F29, rfl, hS24⟩ := hR25
  obtain rfl := own_nS (i := 0) hS24 rfl
  refine ⟨St w M0 [_, _, _, _], hw1.comp [] rfl rfl hS24, fun _ _ => trivial, ?_⟩
  refine ow_batch [.fa 74 0 0 fa74_0] rfl ?_
  refine ow_storeC (off := 0) [.slice a26 y21.length c28] [_, _] (i := 2) rfl rfl rfl rfl rfl rfl ty22 rfl rfl (by intro u hu; simp only [List.mem_cons, List.not_mem_nil, or_false] at hu; rcases hu with rfl <;> rfl) rfl rfl rfl kp ?_
  refine ow_nil ?_
  refine x_qs ?_
  refine c_seq ?_
  refine c_reg ?_
  refine ow_batch [.fa 68 1 1 fa68_1] rfl ?_
  refine ow_r rfl (dstOk_lt rfl) (ry_box1 (off := 1) rfl rfl ty27 (boxIn (i := 0) rfl) rfl) ?_
  obtain ⟨y30, h31, H⟩ := of_bind H
  refine ow_callS rfl fn43 rfl rfl rfl rfl (fun w1 hw1 => laws_toIntSS_ok w1  h31 (hw1.carve [] rfl rfl) (rds_bor g13 w1 hw1)) (fun v32 w1 w2 hw1 hR34 => ?_)
  obtain ⟨a35, n36, c37, F38, rfl, hS33⟩ := hR34
  obtain rfl := own_nS (i := 0) hS33 rfl
  refine ⟨St w M0 [_, _, _, _, _], hw1.comp [] rfl rfl hS33, fun _ _ => trivial, ?_⟩
  refine ow_batch [.fa 74 1 1 fa74_1] rfl ?_
  refine ow_storeC (off := 1) [.slice a35 y30.length c37] [_, _] (i := 2) rfl rfl rfl rfl rfl rfl ty27 rfl rfl (by intro u hu; simp only [List.mem_cons, List.not_mem_nil, or_false] at hu; rcases hu with rfl <;> rfl) rfl rfl rfl kp ?_
  refine ow_nil ?_
  refine x_qs ?_
  refine c_seq ?_
  refine c_reg ?_
  refine ow_r rfl (dstOk_lt rfl) (ry_box (off := 0) (ds := [.slice a26 y21.length c28, .slice a35 y30.length c37]) rfl rfl ty74 (boxIn (i := 2) rfl) rfl rfl) ?_
  refine ow_storeC (off := 0) [.slice a26 y21.length c28, .slice a35 y30.length c37] [_, _] (i := 1) rfl rfl rfl rfl rfl rfl ty74 rfl rfl (by intro u hu; simp only [List.mem_cons, List.not_mem_nil, or_false] at hu; rcases hu with rfl | rfl <;> rfl) rfl rfl rfl kp ?_
  refine ow_nil ?_
  refine x_qs ?_
  refine c_ret ?_
  exact x_retR (rs := [.cell 2 74]) (vs := [.agg #[.slice a26 y21.length c28, .slice a35 y30.length c37]]) rfl ⟨⟨_, [.slice a26 y21.length c28, .slice a35 y30.length c37], _, _, _, rfl, ty74, (at_box (T := 74) 0 (boxIn (i := 1) rfl) rfl), rfl, rfl⟩, trivial⟩ (fun w' hw' => by
      obtain rfl := of_some H
      exact ⟨_, rfl, a26, y21.length, c28, F29, a35, y30.length, c37, F38, rfl, hw'.sel [3, 4] rfl rfl⟩)

set_option maxHeartbeats 4000000 in
set_option maxRecDepth 100000 in
theorem laws_toNode_ok (w : World) {M0 : List Nat} {p0 : Tlaws_Node} {cs0 : List Value} {r : Timpl_Node} (H : laws_toNode p0 = some r) (HS : St w M0 [] w) (g0 : (eTlaws_Node).rd w M0 p0 cs0) :
    Calls Tryd.prog 32 #[.agg cs0.toArray] w (fun en w' => ∃ v, en = .returned v ∧ ∃ (a0 : Option Addr), ∃ (n0 : Nat), ∃ (c0 : Nat), ∃ (F0 : List Nat), ∃ (a1 : Option Addr), ∃ (n1 : Nat), ∃ (c1 : Nat), ∃ (F1 : List Nat), ∃ (a2 : Option Addr), ∃ (n2 : Nat), ∃ (c2 : Nat), ∃ (F2 : List Nat), ∃ (a3 : Option Addr), ∃ (n3 : Nat), ∃ (c3 : Nat), ∃ (F3 : List Nat), v = .agg #[.bool r.Leaf_, .int .i64 r.Fork_.Attr_, .int .i64 r.Fork_.At_, .slice a0 n0 c0, .int .i64 r.Miss_, .slice a1 n1 c1, .slice a2 n2 c2, .int .i64 r.Since_, .slice a3 n3 c3, .int .i64 r.Depth_, .int .i64 r.Up_, .int .i64 r.Born_] ∧ St w M0 [Res.own (eList (eVal (Value.int .i64) (fun _ => rfl)) 3) F0 r.Kids_ [.slice a0 n0 c0], Res.own (eList (eVal (Value.int .i64) (fun _ => rfl)) 3) F1 r.Stats_.Totals_ [.slice a1 n1 c1], Res.own (eList (eList (eVal (Value.int .i64) (fun _ => rfl)) 3) 22) F2 r.Stats_.Cells_ [.slice a2 n2 c2], Res.own (eList (eVal (Value.int .i64) (fun _ => rfl)) 3) F3 r.Attrs_ [.slice a3 n3 c3]] w') := by
  obtain ⟨c10, c11, c12, c13, c14, c15, c16, c17, c18, c19, rfl, g20, g21, g22, g23, g24, g25, g26, g27, g28, g29⟩ := rdo_Tlaws_Node g0
  obtain rfl : c10 = [.bool p0.Leaf_] := g20
  obtain rfl : c11 = [.int .i64 p0.Fork_.Attr_, .int .i64 p0.Fork_.At_] := g21
  obtain ⟨a30, c31, rfl⟩ := rd_sl1 g22
  obtain rfl : c13 = [.int .i64 p0.Miss_] := g23
  obtain ⟨c32, c33, rfl, g34, g35⟩ := rdo_Tlaws_Stats g24
  obtain ⟨a36, c37, rfl⟩ := rd_sl1 g34
  obtain ⟨a38, c39, rfl⟩ := rd_sl1 g35
  obtain rfl : c15 = [.int .i64 p0.Since_] := g25
  obtain ⟨a40, c41, rfl⟩ := rd_sl1 g26
  obtain rfl : c17 = [.int .i64 p0.Depth_] := g27
  obtain rfl : c18 = [.int .i64 p0.Up_] := g28
  obtain rfl : c19 = [.int .i64 p0.Born_] := g29
  unfold laws_toNode at H
  refine f_enter (vs := [.agg #[.bool p0.Leaf_, .int .i64 p0.Fork_.Attr_, .int .i64 p0.Fork_.At_, .slice a30 p0.Kids_.length c31, .int .i64 p0.Miss_, .slice a36 p0.Stats_.Totals_.length c37, .slice a38 p0.Stats_.Cells_.length c39, .int .i64 p0.Since_, .slice a40 p0.Attrs_.length c41, .int .i64 p0.Depth_, .int .i64 p0.Up_, .int .i64 p0.Born_]]) Tryd.func32 rfl Tryd.ntmps32 rfl (HS) ?_
  refine c_seq ?_
  refine c_reg ?_
  refine ow_box (cs := [.bool p0.Leaf_, .int .i64 p0.Fork_.Attr_, .int .i64 p0.Fork_.At_, .slice a30 p0.Kids_.length c31, .int .i64 p0.Miss_, .slice a36 p0.Stats_.Totals_.length c37, .slice a38 p0.Stats_.Cells_.length c39, .int .i64 p0.Since_, .slice a40 p0.Attrs_.length c41, .int .i64 p0.Depth_, .int .i64 p0.Up_, .int .i64 p0.Born_]) rfl rfl rfl rfl rfl rfl (fun _ => kp) (fun b42 => ?_)
  refine ow_alloc rfl rfl rfl rfl ty76 (fun _ => kp) (fun b43 => ?_)
  refine ow_nil ?_
  refine x_qs ?_
  refine c_seq ?_
  refine c_reg ?_
  refine ow_alloc rfl rfl rfl rfl ty76 (fun _ => kp) (fun b44 => ?_)
  refine ow_nil ?_
  refine x_qs ?_
  refine c_seq ?_
  refine c_reg ?_
  refine ow_batch [.fa 70 0 0 fa70_0] rfl ?_
  refine ow_r rfl (dstOk_lt rfl) (ry_box1 (off := 0) rfl rfl ty4 (boxIn (i := 0) rfl) rfl) ?_
  refine ow_batch [.fa 76 0 0 fa76_0] rfl ?_
  refine ow_storeC (off := 0) [.bool p0.Leaf_] [_, _, _, _, _, _, _, _, _, _, _, _] (i := 2) rfl rfl rfl rfl rfl rfl ty4 rfl rfl (by intro u hu; simp only [List.mem_cons, List.not_mem_nil, or_false] at hu; rcases hu with rfl <;> rfl) rfl rfl rfl kp ?_
  refine ow_nil ?_
  refine x_qs ?_
  refine c_seq ?_
  refine c_reg ?_
  refine ow_batch [.fa 70 1 1 fa70_1] rfl ?_
  refine ow_r rfl (dstOk_lt rfl) (ry_box (off := 1) (ds := [.int .i64 p0.Fork_.Attr_, .int .i64 p0.Fork_.At_]) rfl rfl ty66 (boxIn (i := 0) rfl) rfl rfl) ?_
  obtain ⟨y45, h46, H⟩ := of_bind H
  refine ow_q rfl rfl (dstOk_lt rfl) (qy_call rfl fn85 rfl (fun w1 hw1 => laws_toFork_ok w1 (p0 := p0.Fork_) h46)) (fun _ _ => trivial) ?_
  refine ow_batch [.fa 76 1 1 fa76_1] rfl ?_
  refine ow_storeC (off := 1) [.int .i64 y45.Attr_, .int .i64 y45.At_] [_, _, _, _, _, _, _, _, _, _, _, _] (i := 2) rfl rfl rfl rfl rfl rfl ty73 rfl rfl (by intro u hu; simp only [List.mem_cons, List.not_mem_nil, or_false] at hu; rcases hu with rfl | rfl <;> rfl) rfl rfl rfl kp ?_
  refine ow_nil ?_
  refine x_qs ?_
  refine c_seq ?_
  refine c_reg ?_
  refine ow_batch [.fa 70 2 3 fa70_2] rfl ?_
  refine ow_r rfl (dstOk_lt rfl) (ry_box1 (off := 3) rfl rfl ty22 (boxIn (i := 0) rfl) rfl) ?_
  obtain ⟨y47, h48, H⟩ := of_bind H
  refine ow_callS rfl fn9 rfl rfl rfl rfl (fun w1 hw1 => laws_toIntS_ok w1  h48 (hw1.carve [] rfl rfl) (rds_bor g22 w1 hw1)) (fun v49 w1 w2 hw1 hR51 => ?_)
  obtain ⟨a52, n53, c54, F55, rfl, hS50⟩ := hR51
  obtain rfl := own_nS (i := 0) hS50 rfl
  refine ⟨St w M0 [_, _, _, _], hw1.comp [] rfl rfl hS50, fun _ _ => trivial, ?_⟩
  refine ow_batch [.fa 76 2 3 fa76_2] rfl ?_
  refine ow_storeC (off := 3) [.slice a52 y47.length c54] [_, _, _, _, _, _, _, _, _, _, _, _] (i := 2) rfl rfl rfl rfl rfl rfl ty22 rfl rfl (by intro u hu; simp only [List.mem_cons, List.not_mem_nil, or_false] at hu; rcases hu with rfl <;> rfl) rfl rfl rfl kp ?_
  refine ow_nil ?_
  refine x_qs ?_
  refine c_seq ?_
  refine c_reg ?_
  refine ow_batch [.fa 70 3 4 fa70_3] rfl ?_
  refine ow_r rfl (dstOk_lt rfl) (ry_box1 (off := 4) rfl rfl ty3 (boxIn (i := 0) rfl) rfl) ?_
  refine ow_batch [.fa 76 3 4 fa76_3] rfl ?_
  refine ow_storeC (off := 4) [.int .i64 p0.Miss_] [_, _, _, _, _, _, _, _, _, _, _, _] (i := 2) rfl rfl rfl rfl rfl rfl ty3 rfl rfl (by intro u hu; simp only [List.mem_cons, List.not_mem_nil, or_false] at hu; rcases hu with rfl <;> rfl) rfl rfl rfl kp ?_
  refine ow_nil ?_
  refine x_qs ?_
  refine c_seq ?_
  refine c_reg ?_
  refine ow_batch [.fa 70 4 5 fa70_4] rfl ?_
  refine ow_r rfl (dstOk_lt rfl) (ry_box (off := 5) (ds := [.slice a36 p0.Stats_.Totals_.length c37, .slice a38 p0.Stats_.Cells_.length c39]) rfl rfl ty68 (boxIn (i := 0) rfl) rfl rfl) ?_
  obtain ⟨y56, h57, H⟩ := of_bind H
  refine ow_callS rfl fn86 rfl rfl rfl rfl (fun w1 hw1 => laws_toStats_ok w1 (cs0 := [.slice a36 p0.Stats_.Totals_.length c37, .slice a38 p0.Stats_.Cells_.length c39]) h57 (hw1.carve [] rfl rfl) (rdm_Tlaws_Stats (x := p0.Stats_) (c0 := [.slice a36 p0.Stats_.Totals_.length c37]) (c1 := [.slice a38 p0.Stats_.Cells_.length c39]) (rds_bor g34 w1 hw1) (rds_bor g35 w1 hw1))) (fun v58 w1 w2 hw1 hR60 => ?_)
  obtain ⟨a61, n62, c63, F64, a65, n66, c67, F68, rfl, hS59⟩ := hR60
  obtain rfl := own_nS (i := 0) hS59 rfl
  obtain rfl := own_nS (i := 1) hS59 rfl
  refine ⟨St w M0 [_, _, _, _, _, _], hw1.comp [] rfl rfl hS59, fun _ _ => trivial, ?_⟩
  refine ow_batch [.fa 76 4 5 fa76_4] rfl ?_
  refine ow_storeC (off := 5) [.slice a61 y56.Totals_.length c63, .slice a65 y56.Cells_.length c67] [_, _, _, _, _, _, _, _, _, _, _, _] (i := 2) rfl rfl rfl rfl rfl rfl ty74 rfl rfl (by intro u hu; simp only [List.mem_cons, List.not_mem_nil, or_false] at hu; rcases hu with rfl | rfl <;> rfl) rfl rfl rfl kp ?_
  refine ow_nil ?_
  refine x_qs ?_
  refine c_seq ?_
  refine c_reg ?_
  refine ow_batch [.fa 70 5 7 fa70_5] rfl ?_
  refine ow_r rfl (dstOk_lt rfl) (ry_box1 (off := 7) rfl rfl ty3 (boxIn (i := 0) rfl) rfl) ?_
  refine ow_batch [.fa 76 5 7 fa76_5] rfl ?_
  refine ow_storeC (off := 7) [.int .i64 p0.Since_] [_, _, _, _, _, _, _, _, _, _, _, _] (i := 2) rfl rfl rfl rfl rfl rfl ty3 rfl rfl (by intro u hu; simp only [List.mem_cons, List.not_mem_nil, or_false] at hu; rcases hu with rfl <;> rfl) rfl rfl rfl kp ?_
  refine ow_nil ?_
  refine x_qs ?_
  refine c_seq ?_
  refine CW.weak (C' := St w M0 [_, _, _, _, _, _]) ?_ (fun _ h => St.sel [0, 1, 2, 3, 4, 5] rfl rfl h)
  refine c_reg ?_
  refine ow_batch [.fa 70 6 8 fa70_6] rfl ?_
  refine ow_r rfl (dstOk_lt rfl) (ry_box1 (off := 8) rfl rfl ty22 (boxIn (i := 0) rfl) rfl) ?_
  obtain ⟨y69, h70, H⟩ := of_bind H
  refine ow_callS rfl fn9 rfl rfl rfl rfl (fun w1 hw1 => laws_toIntS_ok w1  h70 (hw1.carve [] rfl rfl) (rds_bor g26 w1 hw1)) (fun v71 w1 w2 hw1 hR73 => ?_)
  obtain ⟨a74, n75, c76, F77, rfl, hS72⟩ := hR73
  obtain rfl := own_nS (i := 0) hS72 rfl
  refine ⟨St w M0 [_, _, _, _, _, _, _], hw1.comp [] rfl rfl hS72, fun _ _ => trivial, ?_⟩
  refine ow_batch [.fa 76 6 8 fa76_6] rfl ?_
  refine ow_storeC (off := 8) [.slice a74 y69.length c76] [_, _, _, _, _, _, _, _, _, _, _, _] (i := 2) rfl rfl rfl rfl rfl rfl ty22 rfl rfl (by intro u hu; simp only [List.mem_cons, List.not_mem_nil, or_false] at hu; rcases hu with rfl <;> rfl) rfl rfl rfl kp ?_
  refine ow_nil ?_
  refine x_qs ?_
  refine c_seq ?_
  refine c_reg ?_
  refine ow_batch [.fa 70 7 9 fa70_7] rfl ?_
  refine ow_r rfl (dstOk_lt rfl) (ry_box1 (off := 9) rfl rfl ty3 (boxIn (i := 0) rfl) rfl) ?_
  refine ow_batch [.fa 76 7 9 fa76_7] rfl ?_
  refine ow_storeC (off := 9) [.int .i64 p0.Depth_] [_, _, _, _, _, _, _, _, _, _, _, _] (i := 2) rfl rfl rfl rfl rfl rfl ty3 rfl rfl (by intro u hu; simp only [List.mem_cons, List.not_mem_nil, or_false] at hu; rcases hu with rfl <;> rfl) rfl rfl rfl kp ?_
  refine ow_nil ?_
  refine x_qs ?_
  refine c_seq ?_
  refine c_reg ?_
  refine ow_batch [.fa 70 8 10 fa70_8] rfl ?_
  refine ow_r rfl (dstOk_lt rfl) (ry_box1 (off := 10) rfl rfl ty3 (boxIn (i := 0) rfl) rfl) ?_
  refine ow_batch [.fa 76 8 10 fa76_8] rfl ?_
  refine ow_storeC (off := 10) [.int .i64 p0.Up_] [_, _, _, _, _, _, _, _, _, _, _, _] (i := 2) rfl rfl rfl rfl rfl rfl ty3 rfl rfl (by intro u hu; simp only [List.mem_cons, List.not_mem_nil, or_false] at hu; rcases hu with rfl <;> rfl) rfl rfl rfl kp ?_
  refine ow_nil ?_
  refine x_qs ?_
  refine c_seq ?_
  refine c_reg ?_
  refine ow_batch [.fa 70 9 11 fa70_9] rfl ?_
  refine ow_r rfl (dstOk_lt rfl) (ry_box1 (off := 11) rfl rfl ty3 (boxIn (i := 0) rfl) rfl) ?_
  refine ow_batch [.fa 76 9 11 fa76_9] rfl ?_
  refine ow_storeC (off := 11) [.int .i64 p0.Born_] [_, _, _, _, _, _, _, _, _, _, _, _] (i := 2) rfl rfl rfl rfl rfl rfl ty3 rfl rfl (by intro u hu; simp only [List.mem_cons, List.not_mem_nil, or_false] at hu; rcases hu with rfl <;> rfl) rfl rfl rfl kp ?_
  refine ow_nil ?_
  refine x_qs ?_
  refine c_seq ?_
  refine c_reg ?_
  refine ow_r rfl (dstOk_lt rfl) (ry_box (off := 0) (ds := [.bool p0.Leaf_, .int .i64 y45.Attr_, .int .i64 y45.At_, .slice a52 y47.length c54, .int .i64 p0.Miss_, .slice a61 y56.Totals_.length c63, .slice a65 y56.Cells_.length c67, .int .i64 p0.Since_, .slice a74 y69.length c76, .int .i64 p0.Depth_, .int .i64 p0.Up_, .int .i64 p0.Born_]) rfl rfl ty76 (boxIn (i := 2) rfl) rfl rfl) ?_
  refine ow_storeC (off := 0) [.bool p0.Leaf_, .int .i64 y45.Attr_, .int .i64 y45.At_, .slice a52 y47.length c54, .int .i64 p0.Miss_, .slice a61 y56.Totals_.length c63, .slice a65 y56.Cells_.length c67, .int .i64 p0.Since_, .slice a74 y69.length c76, .int .i64 p0.Depth_, .int .i64 p0.Up_, .int .i64 p0.Born_] [_, _, _, _, _, _, _, _, _, _, _, _] (i := 1) rfl rfl rfl rfl rfl rfl ty76 rfl rfl (by intro u hu; simp only [List.mem_cons, List.not_mem_nil, or_false] at hu; rcases hu with rfl | rfl | rfl | rfl | rfl | rfl | rfl | rfl | rfl | rfl | rfl | rfl <;> rfl) rfl rfl rfl kp ?_
  refine ow_nil ?_
  refine x_qs ?_
  refine c_ret ?_
  exact x_retR (rs := [.cell 2 76]) (vs := [.agg #[.bool p0.Leaf_, .int .i64 y45.Attr_, .int .i64 y45.At_, .slice a52 y47.length c54, .int .i64 p0.Miss_, .slice a61 y56.Totals_.length c63, .slice a65 y56.Cells_.length c67, .int .i64 p0.Since_, .slice a74 y69.length c76, .int .i64 p0.Depth_, .int .i64 p0.Up_, .int .i64 p0.Born_]]) rfl ⟨⟨_, [.bool p0.Leaf_, .int .i64 y45.Attr_, .int .i64 y45.At_, .slice a52 y47.length c54, .int .i64 p0.Miss_, .slice a61 y56.Totals_.length c63, .slice a65 y56.Cells_.length c67, .int .i64 p0.Since_, .slice a74 y69.length c76, .int .i64 p0.Depth_, .int .i64 p0.Up_, .int .i64 p0.Born_], _, _, _, rfl, ty76, (at_box (T := 76) 0 (boxIn (i := 1) rfl) rfl), rfl, rfl⟩, trivial⟩ (fun w' hw' => by
      obtain rfl := of_some H
      exact ⟨_, rfl, a52, y47.length, c54, F55, a61, y56.Totals_.length, c63, F64, a65, y56.Cells_.length, c67, F68, a74, y69.length, c76, F77, rfl, hw'.sel [3, 4, 5, 6] rfl rfl⟩)

set_option maxHeartbeats 4000000 in
set_option maxRecDepth 100000 in
theorem spec_l1In_ok (w : World) {p0 : Int} {p1 : Int} {p2 : Int}  {r : Bool} (H : spec_l1In p0 p1 p2 = some r)   :
    Calls Tryd.prog 94 #[.int .i64 p0, .int .i64 p1, .int .i64 p2] w (fun en w' => en = .returned (.bool r) ∧ Ext [] w w') := by
  unfold spec_l1In at H
  refine f_enter (vs := [.int .i64 p0, .int .i64 p1, .int .i64 p2]) Tryd.func94 rfl Tryd.ntmps94 rfl (St.init w []) ?_
  refine c_seq ?_
  refine c_reg ?_
  refine ow_batch [.p] rfl ?_
  refine ow_nil ?_
  refine x_qs ?_
  refine c_seq ?_
  refine c_reg ?_
  refine ow_batch [.p, .p, .p, .p] rfl ?_
  refine ow_cut [(14, .bool ((decide (p0 ≥ p1)) && (decide (p0 ≤ p2)))), (6, .bool false)] 4 ?_ (fun key => OW.sub (R := [(0, .int .i64 p0), (2, .int .i64 p2), (6, .bool false), (10, .bool (decide (p0 ≥ p1)))]) ?_ ⟨rfl, rfl, rfl, rfl, trivial⟩)
  · refine ow_batch [.p] rfl ?_
    refine ow_nil ?_
    refine x_qs ?_
    refine c_ret ?_
    exact x_retR (rs := [.tmp 6]) (vs := [.bool ((decide (p0 ≥ p1)) && (decide (p0 ≤ p2)))]) rfl ⟨rfl, trivial⟩ (fun w' hw' => by
        obtain rfl := of_some H
        exact ⟨rfl, hw'.ext⟩)
  · generalize (decide (p0 ≥ p1)) = t11 at key ⊢
    cases t11
    · refine ow_batch [.p, .p, .p, .p] rfl ?_
      exact OW.sub key ⟨rfl, rfl, trivial⟩
    · refine ow_batch [.p, .p, .p] rfl ?_
      refine ow_batch [.p] rfl ?_
      exact OW.sub key ⟨rfl, rfl, trivial⟩

set_option maxHeartbeats 4000000 in
set_option maxRecDepth 100000 in
theorem spec_WordOk_ok (w : World) {p0 : List UInt8}  {r : Bool} (H : spec_WordOk p0 = some r)   :
    Calls Tryd.prog 127 #[vS p0] w (fun en w' => en = .returned (.bool r) ∧ Ext [] w w') := by
  unfold spec_WordOk at H
  refine f_enter (vs := [vS p0]) Tryd.func127 rfl Tryd.ntmps127 rfl (St.init w []) ?_
  refine c_seq ?_
  refine c_reg ?_
  refine ow_batch [.p] rfl ?_
  refine ow_nil ?_
  refine x_qs ?_
  refine c_seq ?_
  refine c_seq ?_
  refine c_reg ?_
  refine ow_batch [.p, .lenT 9 st9] rfl ?_
  obtain ⟨y10, h11, H⟩ := of_bind H
  refine ow_q rfl rfl (dstOk_lt rfl) (qy_call rfl fn94 rfl (fun w1 hw1 => spec_l1In_ok w1  h11)) (fun _ _ => trivial) ?_
  refine ow_batch [.p] rfl ?_
  refine ow_nil ?_
  refine x_qs ?_
  refine c_if rfl (fun hb => ?_) (fun hb => ?_)
  · have H := of_if_t hb H
    refine c_seq ?_
    refine c_reg ?_
    refine ow_batch [.p] rfl ?_
    refine ow_nil ?_
    refine x_qs ?_
    refine c_ret ?_
    refine x_qs_ret ?_
    exact x_retR (rs := [.tmp 2]) (vs := [.bool false]) rfl ⟨rfl, trivial⟩ (fun w' hw' => by
        obtain rfl := of_some H
        exact ⟨rfl, hw'.ext⟩)
  · have H := of_if_f hb H
    refine c_skip ?_
    refine x_qs ?_
    refine c_seq ?_
    refine c_seq ?_
    refine c_reg ?_
    refine ow_batch [.p] rfl ?_
    refine ow_nil ?_
    refine x_qs ?_
    refine c_block ?_
    refine CW.at (loopI1 (fun (i20 : Int) => St w [] []) (fun (i20 : Int) => [(0, vS p0), (3, .int .i64 i20)]) (fun kk => fun (i20 : Int) => spec_WordOk_L1 p0 kk i20 = some r) (fun _ H => ?_) (fun k1 ihk1 i20 H => ?_) Fuel (0) (H)) (fun _ h => St.sel [] rfl rfl h) ⟨rfl, rfl,  trivial⟩
    · unfold spec_WordOk_L1 at H
      exact absurd H (by simp)
    · unfold spec_WordOk_L1 at H
      refine c_seq ?_
      refine c_seq ?_
      refine c_reg ?_
      refine ow_batch [.p, .p, .lenT 9 st9, .p] rfl ?_
      refine ow_nil ?_
      refine x_qs ?_
      refine c_if rfl (fun hb => ?_) (fun hb => ?_)
      · have H := of_if_t hb H
        refine c_skip ?_
        refine x_qs ?_
        refine c_seq ?_
        refine c_block ?_
        refine c_seq ?_
        refine c_reg ?_
        refine ow_batch [.p, .p] rfl ?_
        obtain ⟨b29, h30, H⟩ := of_bind H
        refine ow_r rfl (dstOk_lt rfl) (ry_sidx (s := p0) rfl rfl rfl st9 h30) ?_
        refine ow_batch [.p, .p] rfl ?_
        obtain ⟨u31, hu35, H⟩ := of_bind H
        refine ow_cut [(23, .bool u31), (0, vS p0), (3, .int .i64 i20)] 5 ?_ (fun key => OW.sub (R := [(0, vS p0), (3, .int .i64 i20), (18, .bool (decide ((b29.toNat : Int) < 97)))]) ?_ ⟨rfl, rfl, rfl, trivial⟩)
        · refine ow_nil ?_
          refine x_qs ?_
          refine c_if rfl (fun hb => ?_) (fun hb => ?_)
          · have H := of_if_t hb H
            refine c_seq ?_
            refine c_reg ?_
            refine ow_batch [.p] rfl ?_
            refine ow_nil ?_
            refine x_qs ?_
            refine c_ret ?_
            refine x_qb_ret ?_
            refine x_qs_ret ?_
            refine x_ql_ret ?_
            refine x_qb_ret ?_
            refine x_qs_ret ?_
            exact x_retR (rs := [.tmp 2]) (vs := [.bool false]) rfl ⟨rfl, trivial⟩ (fun w' hw' => by
                obtain rfl := of_some H
                exact ⟨rfl, hw'.ext⟩)
          · have H := of_if_f hb H
            refine c_skip ?_
            refine x_qb ?_
            refine x_qs ?_
            refine c_reg ?_
            refine ow_batch [.p, .p, .p] rfl ?_
            refine ow_nil ?_
            exact x_ql (RW.at (ihk1 (IntKind.i64.wrap (i20 + 1)) (H)) (fun _ h => St.sel [] rfl rfl h) ⟨rfl, rfl, trivial⟩)
        · clear H
          have H := hu35
          clear hu35
          generalize (decide ((b29.toNat : Int) < 97)) = t34 at H key ⊢
          cases t34
          · have H := of_if_f rfl H
            refine ow_batch [.p, .p] rfl ?_
            obtain ⟨b32, h33, H⟩ := of_bind H
            refine ow_r rfl (dstOk_lt rfl) (ry_sidx (s := p0) rfl rfl rfl st9 h33) ?_
            refine ow_batch [.p] rfl ?_
            refine ow_batch [.p] rfl ?_
            obtain rfl := of_some H
            exact OW.sub key ⟨rfl, rfl, rfl, trivial⟩
          · have H := of_if_t rfl H
            refine ow_batch [.p, .p, .p, .p, .p] rfl ?_
            obtain rfl := of_some H
            exact OW.sub key ⟨rfl, rfl, rfl, trivial⟩
      · have H := of_if_f hb H
        refine c_exit ?_
        refine x_qs_exit ?_
        refine x_ql_exit ?_
        refine x_qb_here ?_
        refine x_qs ?_
        refine c_seq ?_
        refine c_reg ?_
        refine ow_batch [.p] rfl ?_
        refine ow_nil ?_
        refine x_qs ?_
        refine c_ret ?_
        exact x_retR (rs := [.tmp 2]) (vs := [.bool true]) rfl ⟨rfl, trivial⟩ (fun w' hw' => by
            obtain rfl := of_some H
            exact ⟨rfl, hw'.ext⟩)

set_option maxHeartbeats 4000000 in
set_option maxRecDepth 100000 in
theorem spec_l5Words_ok (w : World) {p0 : List (List UInt8)} {a_0 : Option Addr} {n_0 c_0 : Nat} {r : Bool} (H : spec_l5Words p0 = some r)  (g0 : (eList (eStr) 9).rd w [] p0 [.slice a_0 n_0 c_0]) :
    Calls Tryd.prog 126 #[.slice a_0 n_0 c_0] w (fun en w' => en = .returned (.bool r) ∧ Ext [] w w') := by
  obtain rfl := rd_n g0
  unfold spec_l5Words at H
  refine f_enter (vs := [.slice a_0 p0.length c_0]) Tryd.func126 rfl Tryd.ntmps126 rfl (St.init w []) ?_
  refine c_seq ?_
  refine c_reg ?_
  refine ow_batch [.p] rfl ?_
  refine ow_nil ?_
  refine x_qs ?_
  refine c_seq ?_
  refine c_seq ?_
  refine c_reg ?_
  refine ow_batch [.p] rfl ?_
  refine ow_nil ?_
  refine x_qs ?_
  refine c_block ?_
  refine CW.at (loopI1 (fun (i30 : Int) => St w [] []) (fun (i30 : Int) => [(0, .slice a_0 p0.length c_0), (3, .int .i64 i30)]) (fun kk => fun (i30 : Int) => spec_l5Words_L1 p0 kk i30 = some r) (fun _ H => ?_) (fun k1 ihk1 i30 H => ?_) Fuel (0) (H)) (fun _ h => St.sel [] rfl rfl h) ⟨rfl, rfl,  trivial⟩
  · unfold spec_l5Words_L1 at H
    exact absurd H (by simp)
  · unfold spec_l5Words_L1 at H
    refine c_seq ?_
    refine c_seq ?_
    refine c_reg ?_
    refine ow_batch [.p, .p, .lenS 48 9 sl48, .p] rfl ?_
    refine ow_nil ?_
    refine x_qs ?_
    refine c_if rfl (fun hb => ?_) (fun hb => ?_)
    · have H := of_if_t hb H
      refine c_skip ?_
      refine x_qs ?_
      refine c_seq ?_
      refine c_block ?_
      refine c_seq ?_
      refine c_seq ?_
      refine c_reg ?_
      refine ow_batch [.p, .p] rfl ?_
      obtain ⟨e51, h52, H⟩ := of_bind H
      refine ow_ixE (e := eStr) (xs := p0) (j := i30) rfl rfl rfl rfl rfl sl48 ty9 rfl (fun w1 hw1 => rds_bor g0 w1 hw1) h52 (by rw [Nat.mul_one]) ?_
      refine ow_r rfl (dstOk_lt rfl) (ry_load1 rfl rfl ty9 (at_elV (fun w1 hw1 => rds_bor g0 w1 hw1) h52)) ?_
      obtain ⟨y53, h54, H⟩ := of_bind H
      refine ow_q rfl rfl (dstOk_lt rfl) (qy_call rfl fn127 rfl (fun w1 hw1 => spec_WordOk_ok w1  h54)) (fun _ _ => trivial) ?_
      refine ow_batch [.p] rfl ?_
      refine ow_nil ?_
      refine x_qs ?_
      refine c_if rfl (fun hb => ?_) (fun hb => ?_)
      · have H := of_if_t hb H
        refine c_seq ?_
        refine c_reg ?_
        refine ow_batch [.p] rfl ?_
        refine ow_nil ?_
        refine x_qs ?_
        refine c_ret ?_
        refine x_qs_ret ?_
        refine x_qb_ret ?_
        refine x_qs_ret ?_
        refine x_ql_ret ?_
        refine x_qb_ret ?_
        refine x_qs_ret ?_
        exact x_retR (rs := [.tmp 2]) (vs := [.bool false]) rfl ⟨rfl, trivial⟩ (fun w' hw' => by
            obtain rfl := of_some H
            exact ⟨rfl, hw'.ext⟩)
      · have H := of_if_f hb H
        refine c_skip ?_
        refine x_qs ?_
        refine c_seq ?_
        refine c_reg ?_
        refine ow_batch [.p] rfl ?_
        refine ow_nil ?_
        refine x_qs ?_
        refine c_block ?_
        refine CW.at (loopI1 (fun (i60 : Int) => St w [] []) (fun (i60 : Int) => [(0, .slice a_0 p0.length c_0), (3, .int .i64 i30), (4, .int .i64 i60)]) (fun kk => fun (i60 : Int) => spec_l5Words_L2 i30 p0 (spec_l5Words_L1 p0 k1) kk i60 = some r) (fun _ H => ?_) (fun k2 ihk2 i60 H => ?_) Fuel (0) (H)) (fun _ h => St.sel [] rfl rfl h) ⟨rfl, rfl, rfl,  trivial⟩
        · unfold spec_l5Words_L2 at H
          exact absurd H (by simp)
        · unfold spec_l5Words_L2 at H
          refine c_seq ?_
          refine c_seq ?_
          refine c_reg ?_
          refine ow_batch [.p, .p, .p] rfl ?_
          refine ow_nil ?_
          refine x_qs ?_
          refine c_if rfl (fun hb => ?_) (fun hb => ?_)
          · have H := of_if_t hb H
            refine c_skip ?_
            refine x_qs ?_
            refine c_seq ?_
            refine c_block ?_
            refine c_seq ?_
            refine c_regQ mixed (by kernel_rfl) ?_
            refine ow_batch [.p, .p] rfl ?_
            obtain ⟨e66, h67, H⟩ := of_bind H
            refine ow_ixE (e := eStr) (xs := p0) (j := i30) rfl rfl rfl rfl rfl sl48 ty9 rfl (fun w1 hw1 => rds_bor g0 w1 hw1) h67 (by rw [Nat.mul_one]) ?_
            refine ow_r rfl (dstOk_lt rfl) (ry_load1 rfl rfl ty9 (at_elV (fun w1 hw1 => rds_bor g0 w1 hw1) h67)) ?_
            refine ow_batch [.p, .p] rfl ?_
            obtain ⟨e68, h69, H⟩ := of_bind H
            refine ow_ixE (e := eStr) (xs := p0) (j := i60) rfl rfl rfl rfl rfl sl48 ty9 rfl (fun w1 hw1 => rds_bor g0 w1 hw1) h69 (by rw [Nat.mul_one]) ?_
            refine ow_r rfl (dstOk_lt rfl) (ry_load1 rfl rfl ty9 (at_elV (fun w1 hw1 => rds_bor g0 w1 hw1) h69)) ?_
            refine ow_batch [.p] rfl ?_
            refine ow_nilQ ?_
            refine x_qs ?_
            refine c_if rfl (fun hb => ?_) (fun hb => ?_)
            · have H := of_if_t hb H
              refine c_seq ?_
              refine c_reg ?_
              refine ow_batch [.p] rfl ?_
              refine ow_nil ?_
              refine x_qs ?_
              refine c_ret ?_
              refine x_qb_ret ?_
              refine x_qs_ret ?_
              refine x_ql_ret ?_
              refine x_qb_ret ?_
              refine x_qb_ret ?_
              refine x_qs_ret ?_
              refine x_ql_ret ?_
              refine x_qb_ret ?_
              refine x_qs_ret ?_
              exact x_retR (rs := [.tmp 2]) (vs := [.bool false]) rfl ⟨rfl, trivial⟩ (fun w' hw' => by
                  obtain rfl := of_some H
                  exact ⟨rfl, hw'.ext⟩)
            · have H := of_if_f hb H
              refine c_skip ?_
              refine x_qb ?_
              refine x_qs ?_
              refine c_reg ?_
              refine ow_batch [.p, .p, .p] rfl ?_
              refine ow_nil ?_
              exact x_ql (RW.at (ihk2 (IntKind.i64.wrap (i60 + 1)) (H)) (fun _ h => St.sel [] rfl rfl h) ⟨rfl, rfl, rfl, trivial⟩)
          · have H := of_if_f hb H
            refine c_exit ?_
            refine x_qs_exit ?_
            refine x_ql_exit ?_
            refine x_qb_here ?_
            refine x_qb ?_
            refine x_qs ?_
            refine c_reg ?_
            refine ow_batch [.p, .p, .p] rfl ?_
            refine ow_nil ?_
            exact x_ql (RW.at (ihk1 (IntKind.i64.wrap (i30 + 1)) (H)) (fun _ h => St.sel [] rfl rfl h) ⟨rfl, rfl, trivial⟩)
    · have H := of_if_f hb H
      refine c_exit ?_
      refine x_qs_exit ?_
      refine x_ql_exit ?_
      refine x_qb_here ?_
      refine x_qs ?_
      refine c_seq ?_
      refine c_reg ?_
      refine ow_batch [.p] rfl ?_
      refine ow_nil ?_
      refine x_qs ?_
      refine c_ret ?_
      exact x_retR (rs := [.tmp 2]) (vs := [.bool true]) rfl ⟨rfl, trivial⟩ (fun w' hw' => by
          obtain rfl := of_some H
          exact ⟨rfl, hw'.ext⟩)

set_option maxHeartbeats 4000000 in
set_option maxRecDepth 100000 in
theorem spec_AttrOk_ok (w : World) {p0 : Timpl_Attr} {cs0 : List Value} {r : Bool} (H : spec_AttrOk p0 = some r)  (g0 : (eTimpl_Attr).rd w [] p0 cs0) :
    Calls Tryd.prog 112 #[.agg cs0.toArray] w (fun en w' => en = .returned (.bool r) ∧ Ext [] w w') := by
  obtain ⟨c10, c11, c12, rfl, g13, g14, g15⟩ := rdo_Timpl_Attr g0
  obtain rfl : c10 = [vS p0.Name_] := g13
  obtain ⟨a16, c17, rfl⟩ := rd_sl1 g14
  obtain ⟨a18, c19, rfl⟩ := rd_sl1 g15
  unfold spec_AttrOk at H
  refine f_enter (vs := [.agg #[vS p0.Name_, .slice a16 p0.Cuts_.length c17, .slice a18 p0.Values_.length c19]]) Tryd.func112 rfl Tryd.ntmps112 rfl (St.init w []) ?_
  refine c_seq ?_
  refine c_reg ?_
  refine ow_box (cs := [vS p0.Name_, .slice a16 p0.Cuts_.length c17, .slice a18 p0.Values_.length c19]) rfl rfl rfl rfl rfl rfl (fun _ => kp) (fun b20 => ?_)
  refine ow_batch [.p] rfl ?_
  refine ow_nil ?_
  refine x_qs ?_
  refine c_seq ?_
  refine c_seq ?_
  refine c_reg ?_
  refine ow_batch [.fa 105 0 0 fa105_0] rfl ?_
  refine ow_r rfl (dstOk_lt rfl) (ry_box1 (off := 0) rfl rfl ty9 (boxIn (i := 0) rfl) rfl) ?_
  obtain ⟨y21, h22, H⟩ := of_bind H
  refine ow_q rfl rfl (dstOk_lt rfl) (qy_call rfl fn127 rfl (fun w1 hw1 => spec_WordOk_ok w1  h22)) (fun _ _ => trivial) ?_
  refine ow_batch [.p] rfl ?_
  refine ow_nil ?_
  refine x_qs ?_
  refine c_if rfl (fun hb => ?_) (fun hb => ?_)
  · have H := of_if_t hb H
    refine c_seq ?_
    refine c_reg ?_
    refine ow_batch [.p] rfl ?_
    refine ow_nil ?_
    refine x_qs ?_
    refine c_ret ?_
    refine x_qs_ret ?_
    exact x_retR (rs := [.tmp 2]) (vs := [.bool false]) rfl ⟨rfl, trivial⟩ (fun w' hw' => by
        obtain rfl := of_some H
        exact ⟨rfl, hw'.ext⟩)
  · have H := of_if_f hb H
    refine c_skip ?_
    refine x_qs ?_
    refine c_seq ?_
    refine c_seq ?_
    refine c_reg ?_
    refine ow_batch [.fa 105 1 1 fa105_1] rfl ?_
    refine ow_r rfl (dstOk_lt rfl) (ry_box1 (off := 1) rfl rfl ty22 (boxIn (i := 0) rfl) rfl) ?_
    refine ow_batch [.lenS 22 3 sl22, .p] rfl ?_
    refine ow_nil ?_
    refine x_qs ?_
    refine c_if rfl (fun hb => ?_) (fun hb => ?_)
    · have H := of_if_t hb H
      refine c_seq ?_
      refine c_reg ?_
      refine ow_batch [.fa 105 2 2 fa105_2] rfl ?_
      refine ow_r rfl (dstOk_lt rfl) (ry_box1 (off := 2) rfl rfl ty48 (boxIn (i := 0) rfl) rfl) ?_
      refine ow_batch [.lenS 48 9 sl48] rfl ?_
      obtain ⟨y23, h24, H⟩ := of_bind H
      refine ow_q rfl rfl (dstOk_lt rfl) (qy_call rfl fn94 rfl (fun w1 hw1 => spec_l1In_ok w1  h24)) (fun _ _ => trivial) ?_
      refine ow_batch [.p] rfl ?_
      obtain ⟨u25, hu29, H⟩ := of_bind H
      refine ow_cut [(20, .bool u25), (2, .bool false)] 4 ?_ (fun key => OW.sub (R := [(1, .pointer (some ⟨b20, 0, none⟩)), (2, .bool false), (16, .bool y23)]) ?_ ⟨rfl, rfl, rfl, trivial⟩)
      · refine ow_batch [.p] rfl ?_
        refine ow_nil ?_
        refine x_qs ?_
        refine c_ret ?_
        refine x_qs_ret ?_
        exact x_retR (rs := [.tmp 2]) (vs := [.bool u25]) rfl ⟨rfl, trivial⟩ (fun w' hw' => by
            obtain rfl := of_some H
            exact ⟨rfl, hw'.ext⟩)
      · clear H
        have H := hu29
        clear hu29
        generalize y23 = t28 at H key ⊢
        cases t28
        · have H := of_if_f rfl H
          refine ow_batch [.p, .p, .p, .p] rfl ?_
          obtain rfl := of_some H
          exact OW.sub key ⟨rfl, rfl, trivial⟩
        · have H := of_if_t rfl H
          refine ow_batch [.fa 105 2 2 fa105_2] rfl ?_
          refine ow_r rfl (dstOk_lt rfl) (ry_box1 (off := 2) rfl rfl ty48 (boxIn (i := 0) rfl) rfl) ?_
          obtain ⟨y26, h27, H⟩ := of_bind H
          refine ow_q rfl rfl (dstOk_lt rfl) (qy_call rfl fn126 rfl (fun w1 hw1 => spec_l5Words_ok w1  h27 (rds_bor g15 w1 hw1))) (fun _ _ => trivial) ?_
          refine ow_batch [.p] rfl ?_
          obtain rfl := of_some H
          exact OW.sub key ⟨rfl, rfl, trivial⟩
    · have H := of_if_f hb H
      refine c_skip ?_
      refine x_qs ?_
      refine c_seq ?_
      refine c_seq ?_
      refine c_reg ?_
      refine ow_batch [.fa 105 2 2 fa105_2] rfl ?_
      refine ow_r rfl (dstOk_lt rfl) (ry_box1 (off := 2) rfl rfl ty48 (boxIn (i := 0) rfl) rfl) ?_
      refine ow_batch [.lenS 48 9 sl48, .p, .p] rfl ?_
      refine ow_cut [(30, .bool ((decide ((p0.Values_.length : Int) > 0)) || (decide ((p0.Cuts_.length : Int) > 3)))), (1, .pointer (some ⟨b20, 0, none⟩))] 5 ?_ (fun key => OW.sub (R := [(1, .pointer (some ⟨b20, 0, none⟩)), (25, .bool (decide ((p0.Values_.length : Int) > 0)))]) ?_ ⟨rfl, rfl, trivial⟩)
      · refine ow_nil ?_
        refine x_qs ?_
        refine c_if rfl (fun hb => ?_) (fun hb => ?_)
        · have H := of_if_t hb H
          refine c_seq ?_
          refine c_reg ?_
          refine ow_batch [.p] rfl ?_
          refine ow_nil ?_
          refine x_qs ?_
          refine c_ret ?_
          refine x_qs_ret ?_
          exact x_retR (rs := [.tmp 2]) (vs := [.bool false]) rfl ⟨rfl, trivial⟩ (fun w' hw' => by
              obtain rfl := of_some H
              exact ⟨rfl, hw'.ext⟩)
        · have H := of_if_f hb H
          refine c_skip ?_
          refine x_qs ?_
          refine c_seq ?_
          refine c_seq ?_
          refine c_reg ?_
          refine ow_batch [.p] rfl ?_
          refine ow_nil ?_
          refine x_qs ?_
          refine c_block ?_
          refine CW.at (loopI1 (fun (i47 : Int) => St w [] [Res.box b20 105 [vS p0.Name_, .slice a16 p0.Cuts_.length c17, .slice a18 p0.Values_.length c19]]) (fun (i47 : Int) => [(1, .pointer (some ⟨b20, 0, none⟩)), (3, .int .i64 i47)]) (fun kk => fun (i47 : Int) => spec_AttrOk_L1 p0 kk i47 = some r) (fun _ H => ?_) (fun k1 ihk1 i47 H => ?_) Fuel (0) (H)) (fun _ h => St.sel [0] rfl rfl h) ⟨rfl, rfl,  trivial⟩
          · unfold spec_AttrOk_L1 at H
            exact absurd H (by simp)
          · unfold spec_AttrOk_L1 at H
            refine c_seq ?_
            refine c_seq ?_
            refine c_reg ?_
            refine ow_batch [.p, .fa 105 1 1 fa105_1] rfl ?_
            refine ow_r rfl (dstOk_lt rfl) (ry_box1 (off := 1) rfl rfl ty22 (boxIn (i := 0) rfl) rfl) ?_
            refine ow_batch [.lenS 22 3 sl22, .p] rfl ?_
            refine ow_nil ?_
            refine x_qs ?_
            refine c_if rfl (fun hb => ?_) (fun hb => ?_)
            · have H := of_if_t hb H
              refine c_skip ?_
              refine x_qs ?_
              refine c_seq ?_
              refine c_block ?_
              refine c_seq ?_
              refine c_regQ mixed (by kernel_rfl) ?_
              refine ow_batch [.fa 105 1 1 fa105_1] rfl ?_
              refine ow_r rfl (dstOk_lt rfl) (ry_box1 (off := 1) rfl rfl ty22 (boxIn (i := 0) rfl) rfl) ?_
              refine ow_batch [.p] rfl ?_
              obtain ⟨e63, h64, H⟩ := of_bind H
              refine ow_ixE (e := eVal (Value.int .i64) (fun _ => rfl)) (xs := p0.Cuts_) (j := i47) rfl rfl rfl rfl rfl sl22 ty3 rfl (fun w1 hw1 => rds_bor g14 w1 hw1) h64 (by rw [Nat.mul_one]) ?_
              refine ow_r rfl (dstOk_lt rfl) (ry_load1 rfl rfl ty3 (at_elV (fun w1 hw1 => rds_bor g14 w1 hw1) h64)) ?_
              obtain ⟨y65, h66, H⟩ := of_bind H
              refine ow_q rfl rfl (dstOk_lt rfl) (qy_call rfl fn94 rfl (fun w1 hw1 => spec_l1In_ok w1  h66)) (fun _ _ => trivial) ?_
              refine ow_batch [.p, .p] rfl ?_
              obtain ⟨u67, hu76, H⟩ := of_bind H
              refine ow_cut [(62, .bool u67), (1, .pointer (some ⟨b20, 0, none⟩)), (3, .int .i64 i47)] 17 ?_ (fun key => OW.sub (R := [(1, .pointer (some ⟨b20, 0, none⟩)), (3, .int .i64 i47), (45, .bool (!y65))]) ?_ ⟨rfl, rfl, rfl, trivial⟩)
              · refine ow_nilQ ?_
                refine x_qs ?_
                refine c_if rfl (fun hb => ?_) (fun hb => ?_)
                · have H := of_if_t hb H
                  refine c_seq ?_
                  refine c_reg ?_
                  refine ow_batch [.p] rfl ?_
                  refine ow_nil ?_
                  refine x_qs ?_
                  refine c_ret ?_
                  refine x_qb_ret ?_
                  refine x_qs_ret ?_
                  refine x_ql_ret ?_
                  refine x_qb_ret ?_
                  refine x_qs_ret ?_
                  exact x_retR (rs := [.tmp 2]) (vs := [.bool false]) rfl ⟨rfl, trivial⟩ (fun w' hw' => by
                      obtain rfl := of_some H
                      exact ⟨rfl, hw'.ext⟩)
                · have H := of_if_f hb H
                  refine c_skip ?_
                  refine x_qb ?_
                  refine x_qs ?_
                  refine c_reg ?_
                  refine ow_batch [.p, .p, .p] rfl ?_
                  refine ow_nil ?_
                  exact x_ql (RW.at (ihk1 (IntKind.i64.wrap (i47 + 1)) (H)) (fun _ h => St.sel [0] rfl rfl h) ⟨rfl, rfl, trivial⟩)
              · clear H
                have H := hu76
                clear hu76
                generalize (!y65) = t75 at H key ⊢
                cases t75
                · have H := of_if_f rfl H
                  refine ow_batch [.p, .p, .p] rfl ?_
                  obtain ⟨u68, hu74, H⟩ := of_bind H
                  refine ow_cut [(61, .bool u68), (1, .pointer (some ⟨b20, 0, none⟩)), (3, .int .i64 i47), (45, .bool false)] 13 ?_ (fun key => OW.sub (R := [(1, .pointer (some ⟨b20, 0, none⟩)), (3, .int .i64 i47), (45, .bool false), (48, .bool (decide (i47 > 0)))]) ?_ ⟨rfl, rfl, rfl, rfl, trivial⟩)
                  · refine ow_batch [.p] rfl ?_
                    obtain rfl := of_some H
                    exact OW.sub key ⟨rfl, rfl, rfl, trivial⟩
                  · clear H
                    have H := hu74
                    clear hu74
                    generalize (decide (i47 > 0)) = t73 at H key ⊢
                    cases t73
                    · have H := of_if_f rfl H
                      refine ow_batch [.p, .p, .p, .p, .p, .p, .p, .p, .p, .p, .p, .p, .p] rfl ?_
                      obtain rfl := of_some H
                      exact OW.sub key ⟨rfl, rfl, rfl, rfl, trivial⟩
                    · have H := of_if_t rfl H
                      refine ow_batch [.fa 105 1 1 fa105_1] rfl ?_
                      refine ow_r rfl (dstOk_lt rfl) (ry_box1 (off := 1) rfl rfl ty22 (boxIn (i := 0) rfl) rfl) ?_
                      refine ow_batch [.p] rfl ?_
                      obtain ⟨e69, h70, H⟩ := of_bind H
                      refine ow_ixE (e := eVal (Value.int .i64) (fun _ => rfl)) (xs := p0.Cuts_) (j := i47) rfl rfl rfl rfl rfl sl22 ty3 rfl (fun w1 hw1 => rds_bor g14 w1 hw1) h70 (by rw [Nat.mul_one]) ?_
                      refine ow_r rfl (dstOk_lt rfl) (ry_load1 rfl rfl ty3 (at_elV (fun w1 hw1 => rds_bor g14 w1 hw1) h70)) ?_
                      refine ow_batch [.fa 105 1 1 fa105_1] rfl ?_
                      refine ow_r rfl (dstOk_lt rfl) (ry_box1 (off := 1) rfl rfl ty22 (boxIn (i := 0) rfl) rfl) ?_
                      refine ow_batch [.p, .p] rfl ?_
                      obtain ⟨e71, h72, H⟩ := of_bind H
                      refine ow_ixE (e := eVal (Value.int .i64) (fun _ => rfl)) (xs := p0.Cuts_) (j := IntKind.i64.wrap (i47 - 1)) rfl rfl rfl rfl rfl sl22 ty3 rfl (fun w1 hw1 => rds_bor g14 w1 hw1) h72 (by rw [Nat.mul_one]) ?_
                      refine ow_r rfl (dstOk_lt rfl) (ry_load1 rfl rfl ty3 (at_elV (fun w1 hw1 => rds_bor g14 w1 hw1) h72)) ?_
                      refine ow_batch [.p] rfl ?_
                      refine ow_batch [.p] rfl ?_
                      obtain rfl := of_some H
                      exact OW.sub key ⟨rfl, rfl, rfl, rfl, trivial⟩
                · have H := of_if_t rfl H
                  refine ow_batch [.p, .p, .p, .p, .p, .p, .p, .p, .p, .p, .p, .p, .p, .p, .p, .p, .p] rfl ?_
                  obtain rfl := of_some H
                  exact OW.sub key ⟨rfl, rfl, rfl, trivial⟩
            · have H := of_if_f hb H
              refine c_exit ?_
              refine x_qs_exit ?_
              refine x_ql_exit ?_
              refine x_qb_here ?_
              refine x_qs ?_
              refine c_seq ?_
              refine c_reg ?_
              refine ow_batch [.p] rfl ?_
              refine ow_nil ?_
              refine x_qs ?_
              refine c_ret ?_
              exact x_retR (rs := [.tmp 2]) (vs := [.bool true]) rfl ⟨rfl, trivial⟩ (fun w' hw' => by
                  obtain rfl := of_some H
                  exact ⟨rfl, hw'.ext⟩)
      · generalize (decide ((p0.Values_.length : Int) > 0)) = t31 at key ⊢
        cases t31
        · refine ow_batch [.fa 105 1 1 fa105_1] rfl ?_
          refine ow_r rfl (dstOk_lt rfl) (ry_box1 (off := 1) rfl rfl ty22 (boxIn (i := 0) rfl) rfl) ?_
          refine ow_batch [.lenS 22 3 sl22, .p] rfl ?_
          refine ow_batch [.p] rfl ?_
          exact OW.sub key ⟨rfl, rfl, trivial⟩
        · refine ow_batch [.p, .p, .p, .p, .p] rfl ?_
          exact OW.sub key ⟨rfl, rfl, trivial⟩

set_option maxHeartbeats 4000000 in
set_option maxRecDepth 100000 in
theorem spec_SchemaOk_ok (w : World) {p0 : Timpl_Schema} {cs0 : List Value} {r : Bool} (H : spec_SchemaOk p0 = some r)  (g0 : (eTimpl_Schema).rd w [] p0 cs0) :
    Calls Tryd.prog 111 #[.agg cs0.toArray] w (fun en w' => en = .returned (.bool r) ∧ Ext [] w w') := by
  obtain ⟨c10, c11, rfl, g12, g13⟩ := rdo_Timpl_Schema g0
  obtain ⟨a14, c15, rfl⟩ := rd_sl1 g12
  obtain ⟨a16, c17, rfl⟩ := rd_sl1 g13
  unfold spec_SchemaOk at H
  refine f_enter (vs := [.agg #[.slice a14 p0.Attrs_.length c15, .slice a16 p0.Classes_.length c17]]) Tryd.func111 rfl Tryd.ntmps111 rfl (St.init w []) ?_
  refine c_seq ?_
  refine c_reg ?_
  refine ow_box (cs := [.slice a14 p0.Attrs_.length c15, .slice a16 p0.Classes_.length c17]) rfl rfl rfl rfl rfl rfl (fun _ => kp) (fun b18 => ?_)
  refine ow_batch [.p] rfl ?_
  refine ow_nil ?_
  refine x_qs ?_
  refine c_seq ?_
  refine c_seq ?_
  refine c_reg ?_
  refine ow_batch [.fa 58 0 0 fa58_0] rfl ?_
  refine ow_r rfl (dstOk_lt rfl) (ry_box1 (off := 0) rfl rfl ty56 (boxIn (i := 0) rfl) rfl) ?_
  refine ow_batch [.lenS 56 105 sl56] rfl ?_
  obtain ⟨y19, h20, H⟩ := of_bind H
  refine ow_q rfl rfl (dstOk_lt rfl) (qy_call rfl fn94 rfl (fun w1 hw1 => spec_l1In_ok w1  h20)) (fun _ _ => trivial) ?_
  refine ow_batch [.p, .p] rfl ?_
  obtain ⟨u21, hu25, H⟩ := of_bind H
  refine ow_cut [(16, .bool u21), (1, .pointer (some ⟨b18, 0, none⟩))] 6 ?_ (fun key => OW.sub (R := [(1, .pointer (some ⟨b18, 0, none⟩)), (10, .bool (!y19))]) ?_ ⟨rfl, rfl, trivial⟩)
  · refine ow_batch [.p] rfl ?_
    obtain ⟨u26, hu30, H⟩ := of_bind H
    refine ow_cut [(22, .bool u26), (1, .pointer (some ⟨b18, 0, none⟩))] 5 ?_ (fun key => OW.sub (R := [(1, .pointer (some ⟨b18, 0, none⟩)), (17, .bool u21)]) ?_ ⟨rfl, rfl, trivial⟩)
    · refine ow_nil ?_
      refine x_qs ?_
      refine c_if rfl (fun hb => ?_) (fun hb => ?_)
      · have H := of_if_t hb H
        refine c_seq ?_
        refine c_reg ?_
        refine ow_batch [.p] rfl ?_
        refine ow_nil ?_
        refine x_qs ?_
        refine c_ret ?_
        refine x_qs_ret ?_
        exact x_retR (rs := [.tmp 2]) (vs := [.bool false]) rfl ⟨rfl, trivial⟩ (fun w' hw' => by
            obtain rfl := of_some H
            exact ⟨rfl, hw'.ext⟩)
      · have H := of_if_f hb H
        refine c_skip ?_
        refine x_qs ?_
        refine c_seq ?_
        refine c_seq ?_
        refine c_reg ?_
        refine ow_batch [.p] rfl ?_
        refine ow_nil ?_
        refine x_qs ?_
        refine c_block ?_
        refine CW.at (loopI1 (fun (i149 : Int) => St w [] [Res.box b18 58 [.slice a14 p0.Attrs_.length c15, .slice a16 p0.Classes_.length c17]]) (fun (i149 : Int) => [(1, .pointer (some ⟨b18, 0, none⟩)), (3, .int .i64 i149)]) (fun kk => fun (i149 : Int) => spec_SchemaOk_L1 p0 kk i149 = some r) (fun _ H => ?_) (fun k1 ihk1 i149 H => ?_) Fuel (0) (H)) (fun _ h => St.sel [0] rfl rfl h) ⟨rfl, rfl,  trivial⟩
        · unfold spec_SchemaOk_L1 at H
          exact absurd H (by simp)
        · unfold spec_SchemaOk_L1 at H
          refine c_seq ?_
          refine c_seq ?_
          refine c_reg ?_
          refine ow_batch [.p, .fa 58 0 0 fa58_0] rfl ?_
          refine ow_r rfl (dstOk_lt rfl) (ry_box1 (off := 0) rfl rfl ty56 (boxIn (i := 0) rfl) rfl) ?_
          refine ow_batch [.lenS 56 105 sl56, .p] rfl ?_
          refine ow_nil ?_
          refine x_qs ?_
          refine c_if rfl (fun hb => ?_) (fun hb => ?_)
          · have H := of_if_t hb H
            refine c_skip ?_
            refine x_qs ?_
            refine c_seq ?_
            refine c_block ?_
            refine c_seq ?_
            refine c_seq ?_
            refine c_reg ?_
            refine ow_batch [.fa 58 0 0 fa58_0] rfl ?_
            refine ow_r rfl (dstOk_lt rfl) (ry_box1 (off := 0) rfl rfl ty56 (boxIn (i := 0) rfl) rfl) ?_
            refine ow_batch [.p] rfl ?_
            obtain ⟨e268, h269, H⟩ := of_bind H
            refine ow_ixB rfl rfl rfl rfl rfl sl56 ty105 rfl g12 h269 (fun q272 c273 hd270 hA271 => ?_)
            obtain ⟨c274, c275, c276, rfl, g277, g278, g279⟩ := rdo_Timpl_Attr hd270
            obtain rfl : c274 = [vS e268.Name_] := g277
            obtain ⟨a280, c281, rfl⟩ := rd_sl1 g278
            obtain ⟨a282, c283, rfl⟩ := rd_sl1 g279
            refine ow_r rfl (dstOk_lt rfl) (ry_load (cs := [vS e268.Name_, .slice a280 e268.Cuts_.length c281, .slice a282 e268.Values_.length c283]) rfl rfl ty105 (at_bor bor hA271) rfl) ?_
            obtain ⟨y284, h285, H⟩ := of_bind H
            refine ow_q rfl rfl (dstOk_lt rfl) (qy_call rfl fn112 rfl (fun w1 hw1 => spec_AttrOk_ok w1 (cs0 := [vS e268.Name_, .slice a280 e268.Cuts_.length c281, .slice a282 e268.Values_.length c283]) h285 (rdm_Timpl_Attr (x := e268) (c0 := [vS e268.Name_]) (c1 := [.slice a280 e268.Cuts_.length c281]) (c2 := [.slice a282 e268.Values_.length c283]) rfl (rds_bor g278 w1 hw1) (rds_bor g279 w1 hw1)))) (fun _ _ => trivial) ?_
            refine ow_batch [.p] rfl ?_
            refine ow_nil ?_
            refine x_qs ?_
            refine c_if rfl (fun hb => ?_) (fun hb => ?_)
            · have H := of_if_t hb H
              refine c_seq ?_
              refine c_reg ?_
              refine ow_batch [.p] rfl ?_
              refine ow_nil ?_
              refine x_qs ?_
              refine c_ret ?_
              refine x_qs_ret ?_
              refine x_qb_ret ?_
              refine x_qs_ret ?_
              refine x_ql_ret ?_
              refine x_qb_ret ?_
              refine x_qs_ret ?_
              exact x_retR (rs := [.tmp 2]) (vs := [.bool false]) rfl ⟨rfl, trivial⟩ (fun w' hw' => by
                  obtain rfl := of_some H
                  exact ⟨rfl, hw'.ext⟩)
            · have H := of_if_f hb H
              refine c_skip ?_
              refine x_qs ?_
              refine c_seq ?_
              refine c_reg ?_
              refine ow_batch [.p] rfl ?_
              refine ow_nil ?_
              refine x_qs ?_
              refine c_block ?_
              refine CW.at (loopI1 (fun (i319 : Int) => St w [] [Res.box b18 58 [.slice a14 p0.Attrs_.length c15, .slice a16 p0.Classes_.length c17]]) (fun (i319 : Int) => [(1, .pointer (some ⟨b18, 0, none⟩)), (3, .int .i64 i149), (4, .int .i64 i319)]) (fun kk => fun (i319 : Int) => spec_SchemaOk_L2 i149 p0 (spec_SchemaOk_L1 p0 k1) kk i319 = some r) (fun _ H => ?_) (fun k2 ihk2 i319 H => ?_) Fuel (0) (H)) (fun _ h => St.sel [0] rfl rfl h) ⟨rfl, rfl, rfl,  trivial⟩
              · unfold spec_SchemaOk_L2 at H
                exact absurd H (by simp)
              · unfold spec_SchemaOk_L2 at H
                refine c_seq ?_
                refine c_seq ?_
                refine c_reg ?_
                refine ow_batch [.p, .p, .p] rfl ?_
                refine ow_nil ?_
                refine x_qs ?_
                refine c_if rfl (fun hb => ?_) (fun hb => ?_)
                · have H := of_if_t hb H
                  refine c_skip ?_
                  refine x_qs ?_
                  refine c_seq ?_
                  refine c_block ?_
                  refine c_seq ?_
                  refine c_regQ mixed (by kernel_rfl) ?_
                  refine ow_batch [.fa 58 0 0 fa58_0] rfl ?_
                  refine ow_r rfl (dstOk_lt rfl) (ry_box1 (off := 0) rfl rfl ty56 (boxIn (i := 0) rfl) rfl) ?_
                  refine ow_batch [.p] rfl ?_
                  obtain ⟨e353, h354, H⟩ := of_bind H
                  refine ow_ixB rfl rfl rfl rfl rfl sl56 ty105 rfl g12 h354 (fun q357 c358 hd355 hA356 => ?_)
                  obtain ⟨c359, c360, c361, rfl, g362, g363, g364⟩ := rdo_Timpl_Attr hd355
                  obtain rfl : c359 = [vS e353.Name_] := g362
                  obtain ⟨a365, c366, rfl⟩ := rd_sl1 g363
                  obtain ⟨a367, c368, rfl⟩ := rd_sl1 g364
                  refine ow_batch [.fa 105 0 0 fa105_0] rfl ?_
                  refine ow_r rfl (dstOk_lt rfl) (ry_load1 rfl rfl ty9 (at_bor bor (at_K hA356 0 1))) ?_
                  refine ow_batch [.fa 58 0 0 fa58_0] rfl ?_
                  refine ow_r rfl (dstOk_lt rfl) (ry_box1 (off := 0) rfl rfl ty56 (boxIn (i := 0) rfl) rfl) ?_
                  refine ow_batch [.p] rfl ?_
                  obtain ⟨e369, h370, H⟩ := of_bind H
                  refine ow_ixB rfl rfl rfl rfl rfl sl56 ty105 rfl g12 h370 (fun q373 c374 hd371 hA372 => ?_)
                  obtain ⟨c375, c376, c377, rfl, g378, g379, g380⟩ := rdo_Timpl_Attr hd371
                  obtain rfl : c375 = [vS e369.Name_] := g378
                  obtain ⟨a381, c382, rfl⟩ := rd_sl1 g379
                  obtain ⟨a383, c384, rfl⟩ := rd_sl1 g380
                  refine ow_batch [.fa 105 0 0 fa105_0] rfl ?_
                  refine ow_r rfl (dstOk_lt rfl) (ry_load1 rfl rfl ty9 (at_bor bor (at_K hA372 0 1))) ?_
                  refine ow_batch [.p] rfl ?_
                  refine ow_nilQ ?_
                  refine x_qs ?_
                  refine c_if rfl (fun hb => ?_) (fun hb => ?_)
                  · have H := of_if_t hb H
                    refine c_seq ?_
                    refine c_reg ?_
                    refine ow_batch [.p] rfl ?_
                    refine ow_nil ?_
                    refine x_qs ?_
                    refine c_ret ?_
                    refine x_qb_ret ?_
                    refine x_qs_ret ?_
                    refine x_ql_ret ?_
                    refine x_qb_ret ?_
                    refine x_qb_ret ?_
                    refine x_qs_ret ?_
                    refine x_ql_ret ?_
                    refine x_qb_ret ?_
                    refine x_qs_ret ?_
                    exact x_retR (rs := [.tmp 2]) (vs := [.bool false]) rfl ⟨rfl, trivial⟩ (fun w' hw' => by
                        obtain rfl := of_some H
                        exact ⟨rfl, hw'.ext⟩)
                  · have H := of_if_f hb H
                    refine c_skip ?_
                    refine x_qb ?_
                    refine x_qs ?_
                    refine c_reg ?_
                    refine ow_batch [.p, .p, .p] rfl ?_
                    refine ow_nil ?_
                    exact x_ql (RW.at (ihk2 (IntKind.i64.wrap (i319 + 1)) (H)) (fun _ h => St.sel [0] rfl rfl h) ⟨rfl, rfl, rfl, trivial⟩)
                · have H := of_if_f hb H
                  refine c_exit ?_
                  refine x_qs_exit ?_
                  refine x_ql_exit ?_
                  refine x_qb_here ?_
                  refine x_qb ?_
                  refine x_qs ?_
                  refine c_reg ?_
                  refine ow_batch [.p, .p, .p] rfl ?_
                  refine ow_nil ?_
                  exact x_ql (RW.at (ihk1 (IntKind.i64.wrap (i149 + 1)) (H)) (fun _ h => St.sel [0] rfl rfl h) ⟨rfl, rfl, trivial⟩)
          · have H := of_if_f hb H
            refine c_exit ?_
            refine x_qs_exit ?_
            refine x_ql_exit ?_
            refine x_qb_here ?_
            refine x_qs ?_
            refine c_seq ?_
            refine c_reg ?_
            refine ow_batch [.p] rfl ?_
            refine ow_nil ?_
            refine x_qs ?_
            refine c_ret ?_
            exact x_retR (rs := [.tmp 2]) (vs := [.bool true]) rfl ⟨rfl, trivial⟩ (fun w' hw' => by
                obtain rfl := of_some H
                exact ⟨rfl, hw'.ext⟩)
    · clear H
      have H := hu30
      clear hu30
      generalize u21 = t29 at H key ⊢
      cases t29
      · have H := of_if_f rfl H
        refine ow_batch [.fa 58 1 1 fa58_1] rfl ?_
        refine ow_r rfl (dstOk_lt rfl) (ry_box1 (off := 1) rfl rfl ty48 (boxIn (i := 0) rfl) rfl) ?_
        obtain ⟨y27, h28, H⟩ := of_bind H
        refine ow_q rfl rfl (dstOk_lt rfl) (qy_call rfl fn126 rfl (fun w1 hw1 => spec_l5Words_ok w1  h28 (rds_bor g13 w1 hw1))) (fun _ _ => trivial) ?_
        refine ow_batch [.p] rfl ?_
        refine ow_batch [.p] rfl ?_
        obtain rfl := of_some H
        exact OW.sub key ⟨rfl, rfl, trivial⟩
      · have H := of_if_t rfl H
        refine ow_batch [.p, .p, .p, .p, .p] rfl ?_
        obtain rfl := of_some H
        exact OW.sub key ⟨rfl, rfl, trivial⟩
  · clear H
    have H := hu25
    clear hu25
    generalize (!y19) = t24 at H key ⊢
    cases t24
    · have H := of_if_f rfl H
      refine ow_batch [.fa 58 1 1 fa58_1] rfl ?_
      refine ow_r rfl (dstOk_lt rfl) (ry_box1 (off := 1) rfl rfl ty48 (boxIn (i := 0) rfl) rfl) ?_
      refine ow_batch [.lenS 48 9 sl48] rfl ?_
      obtain ⟨y22, h23, H⟩ := of_bind H
      refine ow_q rfl rfl (dstOk_lt rfl) (qy_call rfl fn94 rfl (fun w1 hw1 => spec_l1In_ok w1  h23)) (fun _ _ => trivial) ?_
      refine ow_batch [.p] rfl ?_
      refine ow_batch [.p] rfl ?_
      obtain rfl := of_some H
      exact OW.sub key ⟨rfl, rfl, trivial⟩
    · have H := of_if_t rfl H
      refine ow_batch [.p, .p, .p, .p, .p, .p] rfl ?_
      obtain rfl := of_some H
      exact OW.sub key ⟨rfl, rfl, trivial⟩

set_option maxHeartbeats 4000000 in
set_option maxRecDepth 100000 in
theorem spec_Bins_ok (w : World) {p0 : Timpl_Attr} {cs0 : List Value} {r : Int} (H : spec_Bins p0 = some r)  (g0 : (eTimpl_Attr).rd w [] p0 cs0) :
    Calls Tryd.prog 69 #[.agg cs0.toArray] w (fun en w' => en = .returned (.int .i64 r) ∧ Ext [] w w') := by
  obtain ⟨c10, c11, c12, rfl, g13, g14, g15⟩ := rdo_Timpl_Attr g0
  obtain rfl : c10 = [vS p0.Name_] := g13
  obtain ⟨a16, c17, rfl⟩ := rd_sl1 g14
  obtain ⟨a18, c19, rfl⟩ := rd_sl1 g15
  unfold spec_Bins at H
  refine f_enter (vs := [.agg #[vS p0.Name_, .slice a16 p0.Cuts_.length c17, .slice a18 p0.Values_.length c19]]) Tryd.func69 rfl Tryd.ntmps69 rfl (St.init w []) ?_
  refine c_seq ?_
  refine c_reg ?_
  refine ow_box (cs := [vS p0.Name_, .slice a16 p0.Cuts_.length c17, .slice a18 p0.Values_.length c19]) rfl rfl rfl rfl rfl rfl (fun _ => kp) (fun b20 => ?_)
  refine ow_batch [.p] rfl ?_
  refine ow_nil ?_
  refine x_qs ?_
  refine c_seq ?_
  refine c_seq ?_
  refine c_reg ?_
  refine ow_r rfl (dstOk_lt rfl) (ry_box (off := 0) (ds := [vS p0.Name_, .slice a16 p0.Cuts_.length c17, .slice a18 p0.Values_.length c19]) rfl rfl ty105 (boxIn (i := 0) rfl) rfl rfl) ?_
  obtain ⟨y21, h22, H⟩ := of_bind H
  refine ow_q rfl rfl (dstOk_lt rfl) (qy_call rfl fn112 rfl (fun w1 hw1 => spec_AttrOk_ok w1 (cs0 := [vS p0.Name_, .slice a16 p0.Cuts_.length c17, .slice a18 p0.Values_.length c19]) h22 (rdm_Timpl_Attr (x := p0) (c0 := [vS p0.Name_]) (c1 := [.slice a16 p0.Cuts_.length c17]) (c2 := [.slice a18 p0.Values_.length c19]) rfl (rds_bor g14 w1 hw1) (rds_bor g15 w1 hw1)))) (fun _ _ => trivial) ?_
  refine ow_batch [.p] rfl ?_
  refine ow_nil ?_
  refine x_qs ?_
  refine c_if rfl (fun hb => ?_) (fun hb => ?_)
  · have H := of_if_t hb H
    refine c_seq ?_
    refine c_reg ?_
    refine ow_batch [.p] rfl ?_
    refine ow_nil ?_
    refine x_qs ?_
    refine c_ret ?_
    refine x_qs_ret ?_
    exact x_retR (rs := [.tmp 2]) (vs := [.int .i64 0]) rfl ⟨rfl, trivial⟩ (fun w' hw' => by
        obtain rfl := of_some H
        exact ⟨rfl, hw'.ext⟩)
  · have H := of_if_f hb H
    refine c_skip ?_
    refine x_qs ?_
    refine c_seq ?_
    refine c_seq ?_
    refine c_reg ?_
    refine ow_batch [.fa 105 1 1 fa105_1] rfl ?_
    refine ow_r rfl (dstOk_lt rfl) (ry_box1 (off := 1) rfl rfl ty22 (boxIn (i := 0) rfl) rfl) ?_
    refine ow_batch [.lenS 22 3 sl22, .p] rfl ?_
    refine ow_nil ?_
    refine x_qs ?_
    refine c_if rfl (fun hb => ?_) (fun hb => ?_)
    · have H := of_if_t hb H
      refine c_seq ?_
      refine c_reg ?_
      refine ow_batch [.fa 105 1 1 fa105_1] rfl ?_
      refine ow_r rfl (dstOk_lt rfl) (ry_box1 (off := 1) rfl rfl ty22 (boxIn (i := 0) rfl) rfl) ?_
      refine ow_batch [.lenS 22 3 sl22, .p, .p] rfl ?_
      refine ow_nil ?_
      refine x_qs ?_
      refine c_ret ?_
      refine x_qs_ret ?_
      exact x_retR (rs := [.tmp 2]) (vs := [.int .i64 (IntKind.i64.wrap ((p0.Cuts_.length : Int) + 1))]) rfl ⟨rfl, trivial⟩ (fun w' hw' => by
          obtain rfl := of_some H
          exact ⟨rfl, hw'.ext⟩)
    · have H := of_if_f hb H
      refine c_skip ?_
      refine x_qs ?_
      refine c_seq ?_
      refine c_reg ?_
      refine ow_batch [.fa 105 2 2 fa105_2] rfl ?_
      refine ow_r rfl (dstOk_lt rfl) (ry_box1 (off := 2) rfl rfl ty48 (boxIn (i := 0) rfl) rfl) ?_
      refine ow_batch [.lenS 48 9 sl48, .p] rfl ?_
      refine ow_nil ?_
      refine x_qs ?_
      refine c_ret ?_
      exact x_retR (rs := [.tmp 2]) (vs := [.int .i64 (p0.Values_.length : Int)]) rfl ⟨rfl, trivial⟩ (fun w' hw' => by
          obtain rfl := of_some H
          exact ⟨rfl, hw'.ext⟩)

set_option maxHeartbeats 4000000 in
set_option maxRecDepth 100000 in
theorem spec_StatsOk_ok (w : World) {p0 : Timpl_Schema} {p1 : Timpl_Stats} {cs0 : List Value} {cs1 : List Value} {r : Bool} (H : spec_StatsOk p0 p1 = some r)  (g0 : (eTimpl_Schema).rd w [] p0 cs0) (g1 : (eTimpl_Stats).rd w [] p1 cs1) :
    Calls Tryd.prog 81 #[.agg cs0.toArray, .agg cs1.toArray] w (fun en w' => en = .returned (.bool r) ∧ Ext [] w w') := by
  obtain ⟨c10, c11, rfl, g12, g13⟩ := rdo_Timpl_Schema g0
  obtain ⟨a14, c15, rfl⟩ := rd_sl1 g12
  obtain ⟨a16, c17, rfl⟩ := rd_sl1 g13
  obtain ⟨c18, c19, rfl, g20, g21⟩ := rdo_Timpl_Stats g1
  obtain ⟨a22, c23, rfl⟩ := rd_sl1 g20
  obtain ⟨a24, c25, rfl⟩ := rd_sl1 g21
  unfold spec_StatsOk at H
  refine f_enter (vs := [.agg #[.slice a14 p0.Attrs_.length c15, .slice a16 p0.Classes_.length c17], .agg #[.slice a22 p1.Totals_.length c23, .slice a24 p1.Cells_.length c25]]) Tryd.func81 rfl Tryd.ntmps81 rfl (St.init w []) ?_
  refine c_seq ?_
  refine c_reg ?_
  refine ow_box (cs := [.slice a14 p0.Attrs_.length c15, .slice a16 p0.Classes_.length c17]) rfl rfl rfl rfl rfl rfl (fun _ => kp) (fun b26 => ?_)
  refine ow_box (cs := [.slice a22 p1.Totals_.length c23, .slice a24 p1.Cells_.length c25]) rfl rfl rfl rfl rfl rfl (fun _ => kp) (fun b27 => ?_)
  refine ow_batch [.p] rfl ?_
  refine ow_nil ?_
  refine x_qs ?_
  refine c_seq ?_
  refine c_seq ?_
  refine c_reg ?_
  refine ow_r rfl (dstOk_lt rfl) (ry_box (off := 0) (ds := [.slice a14 p0.Attrs_.length c15, .slice a16 p0.Classes_.length c17]) rfl rfl ty58 (boxIn (i := 0) rfl) rfl rfl) ?_
  obtain ⟨y28, h29, H⟩ := of_bind H
  refine ow_q rfl rfl (dstOk_lt rfl) (qy_call rfl fn111 rfl (fun w1 hw1 => spec_SchemaOk_ok w1 (cs0 := [.slice a14 p0.Attrs_.length c15, .slice a16 p0.Classes_.length c17]) h29 (rdm_Timpl_Schema (x := p0) (c0 := [.slice a14 p0.Attrs_.length c15]) (c1 := [.slice a16 p0.Classes_.length c17]) (rds_bor g12 w1 hw1) (rds_bor g13 w1 hw1)))) (fun _ _ => trivial) ?_
  refine ow_batch [.p, .p] rfl ?_
  refine ow_cut [(24, .bool ((!y28) || ((p1.Totals_.length : Int) != (p0.Classes_.length : Int)))), (2, .pointer (some ⟨b26, 0, none⟩)), (3, .pointer (some ⟨b27, 0, none⟩))] 8 ?_ (fun key => OW.sub (R := [(2, .pointer (some ⟨b26, 0, none⟩)), (3, .pointer (some ⟨b27, 0, none⟩)), (16, .bool (!y28))]) ?_ ⟨rfl, rfl, rfl, trivial⟩)
  · refine ow_nil ?_
    refine x_qs ?_
    refine c_if rfl (fun hb => ?_) (fun hb => ?_)
    · have H := of_if_t hb H
      refine c_seq ?_
      refine c_reg ?_
      refine ow_batch [.p] rfl ?_
      refine ow_nil ?_
      refine x_qs ?_
      refine c_ret ?_
      refine x_qs_ret ?_
      exact x_retR (rs := [.tmp 4]) (vs := [.bool false]) rfl ⟨rfl, trivial⟩ (fun w' hw' => by
          obtain rfl := of_some H
          exact ⟨rfl, hw'.ext⟩)
    · have H := of_if_f hb H
      refine c_skip ?_
      refine x_qs ?_
      refine c_seq ?_
      refine c_reg ?_
      refine ow_batch [.p] rfl ?_
      refine ow_nil ?_
      refine x_qs ?_
      refine c_seq ?_
      refine c_seq ?_
      refine c_reg ?_
      refine ow_batch [.p] rfl ?_
      refine ow_nil ?_
      refine x_qs ?_
      refine c_block ?_
      refine CW.at (loopI2 (fun (i40 : Int) (i41 : Int) => St w [] [Res.box b26 58 [.slice a14 p0.Attrs_.length c15, .slice a16 p0.Classes_.length c17], Res.box b27 74 [.slice a22 p1.Totals_.length c23, .slice a24 p1.Cells_.length c25]]) (fun (i40 : Int) (i41 : Int) => [(2, .pointer (some ⟨b26, 0, none⟩)), (3, .pointer (some ⟨b27, 0, none⟩)), (5, .int .i64 i40), (6, .int .i64 i41)]) (fun kk => fun (i40 : Int) (i41 : Int) => spec_StatsOk_L1 p1 p0 kk i40 i41 = some r) (fun _ _ H => ?_) (fun k1 ihk1 i40 i41 H => ?_) Fuel (0) (0) (H)) (fun _ h => St.sel [0, 1] rfl rfl h) ⟨rfl, rfl, rfl, rfl,  trivial⟩
      · unfold spec_StatsOk_L1 at H
        exact absurd H (by simp)
      · unfold spec_StatsOk_L1 at H
        refine c_seq ?_
        refine c_seq ?_
        refine c_reg ?_
        refine ow_batch [.p, .fa 74 0 0 fa74_0] rfl ?_
        refine ow_r rfl (dstOk_lt rfl) (ry_box1 (off := 0) rfl rfl ty22 (boxIn (i := 1) rfl) rfl) ?_
        refine ow_batch [.lenS 22 3 sl22, .p] rfl ?_
        refine ow_nil ?_
        refine x_qs ?_
        refine c_if rfl (fun hb => ?_) (fun hb => ?_)
        · have H := of_if_t hb H
          refine c_skip ?_
          refine x_qs ?_
          refine c_seq ?_
          refine c_block ?_
          refine c_seq ?_
          refine c_seq ?_
          refine c_reg ?_
          refine ow_batch [.fa 74 0 0 fa74_0] rfl ?_
          refine ow_r rfl (dstOk_lt rfl) (ry_box1 (off := 0) rfl rfl ty22 (boxIn (i := 1) rfl) rfl) ?_
          refine ow_batch [.p] rfl ?_
          obtain ⟨e50, h51, H⟩ := of_bind H
          refine ow_ixE (e := eVal (Value.int .i64) (fun _ => rfl)) (xs := p1.Totals_) (j := i41) rfl rfl rfl rfl rfl sl22 ty3 rfl (fun w1 hw1 => rds_bor g20 w1 hw1) h51 (by rw [Nat.mul_one]) ?_
          refine ow_r rfl (dstOk_lt rfl) (ry_load1 rfl rfl ty3 (at_elV (fun w1 hw1 => rds_bor g20 w1 hw1) h51)) ?_
          obtain ⟨y52, h53, H⟩ := of_bind H
          refine ow_q rfl rfl (dstOk_lt rfl) (qy_call rfl fn94 rfl (fun w1 hw1 => spec_l1In_ok w1  h53)) (fun _ _ => trivial) ?_
          refine ow_batch [.p] rfl ?_
          refine ow_nil ?_
          refine x_qs ?_
          refine c_if rfl (fun hb => ?_) (fun hb => ?_)
          · have H := of_if_t hb H
            refine c_seq ?_
            refine c_reg ?_
            refine ow_batch [.p] rfl ?_
            refine ow_nil ?_
            refine x_qs ?_
            refine c_ret ?_
            refine x_qs_ret ?_
            refine x_qb_ret ?_
            refine x_qs_ret ?_
            refine x_ql_ret ?_
            refine x_qb_ret ?_
            refine x_qs_ret ?_
            exact x_retR (rs := [.tmp 4]) (vs := [.bool false]) rfl ⟨rfl, trivial⟩ (fun w' hw' => by
                obtain rfl := of_some H
                exact ⟨rfl, hw'.ext⟩)
          · have H := of_if_f hb H
            refine c_skip ?_
            refine x_qs ?_
            refine c_reg ?_
            refine ow_batch [.p, .fa 74 0 0 fa74_0] rfl ?_
            refine ow_r rfl (dstOk_lt rfl) (ry_box1 (off := 0) rfl rfl ty22 (boxIn (i := 1) rfl) rfl) ?_
            refine ow_batch [.p] rfl ?_
            obtain ⟨e54, h55, H⟩ := of_bind H
            refine ow_ixE (e := eVal (Value.int .i64) (fun _ => rfl)) (xs := p1.Totals_) (j := i41) rfl rfl rfl rfl rfl sl22 ty3 rfl (fun w1 hw1 => rds_bor g20 w1 hw1) h55 (by rw [Nat.mul_one]) ?_
            refine ow_r rfl (dstOk_lt rfl) (ry_load1 rfl rfl ty3 (at_elV (fun w1 hw1 => rds_bor g20 w1 hw1) h55)) ?_
            refine ow_batch [.p, .p] rfl ?_
            refine ow_nil ?_
            refine x_qb ?_
            refine x_qs ?_
            refine c_reg ?_
            refine ow_batch [.p, .p, .p] rfl ?_
            refine ow_nil ?_
            exact x_ql (RW.at (ihk1 (IntKind.i64.wrap (i40 + e54)) (IntKind.i64.wrap (i41 + 1)) (H)) (fun _ h => St.sel [0, 1] rfl rfl h) ⟨rfl, rfl, rfl, rfl, trivial⟩)
        · have H := of_if_f hb H
          refine c_exit ?_
          refine x_qs_exit ?_
          refine x_ql_exit ?_
          refine x_qb_here ?_
          refine x_qs ?_
          refine c_seq ?_
          refine c_seq ?_
          refine c_reg ?_
          refine ow_batch [.p, .p] rfl ?_
          refine ow_nil ?_
          refine x_qs ?_
          refine c_if rfl (fun hb => ?_) (fun hb => ?_)
          · have H := of_if_t hb H
            refine c_seq ?_
            refine c_reg ?_
            refine ow_batch [.p] rfl ?_
            refine ow_nil ?_
            refine x_qs ?_
            refine c_ret ?_
            refine x_qs_ret ?_
            exact x_retR (rs := [.tmp 4]) (vs := [.bool false]) rfl ⟨rfl, trivial⟩ (fun w' hw' => by
                obtain rfl := of_some H
                exact ⟨rfl, hw'.ext⟩)
          · have H := of_if_f hb H
            refine c_skip ?_
            refine x_qs ?_
            refine c_seq ?_
            refine c_seq ?_
            refine c_reg ?_
            refine ow_batch [.fa 74 1 1 fa74_1] rfl ?_
            refine ow_r rfl (dstOk_lt rfl) (ry_box1 (off := 1) rfl rfl ty27 (boxIn (i := 1) rfl) rfl) ?_
            refine ow_batch [.lenS 27 22 sl27, .p] rfl ?_
            refine ow_nil ?_
            refine x_qs ?_
            refine c_if rfl (fun hb => ?_) (fun hb => ?_)
            · have H := of_if_t hb H
              refine c_seq ?_
              refine c_reg ?_
              refine ow_batch [.p] rfl ?_
              refine ow_nil ?_
              refine x_qs ?_
              refine c_ret ?_
              refine x_qs_ret ?_
              exact x_retR (rs := [.tmp 4]) (vs := [.bool true]) rfl ⟨rfl, trivial⟩ (fun w' hw' => by
                  obtain rfl := of_some H
                  exact ⟨rfl, hw'.ext⟩)
            · have H := of_if_f hb H
              refine c_skip ?_
              refine x_qs ?_
              refine c_seq ?_
              refine c_seq ?_
              refine c_reg ?_
              refine ow_batch [.fa 74 1 1 fa74_1] rfl ?_
              refine ow_r rfl (dstOk_lt rfl) (ry_box1 (off := 1) rfl rfl ty27 (boxIn (i := 1) rfl) rfl) ?_
              refine ow_batch [.lenS 27 22 sl27, .fa 58 0 0 fa58_0] rfl ?_
              refine ow_r rfl (dstOk_lt rfl) (ry_box1 (off := 0) rfl rfl ty56 (boxIn (i := 0) rfl) rfl) ?_
              refine ow_batch [.lenS 56 105 sl56, .p] rfl ?_
              refine ow_nil ?_
              refine x_qs ?_
              refine c_if rfl (fun hb => ?_) (fun hb => ?_)
              · have H := of_if_t hb H
                refine c_seq ?_
                refine c_reg ?_
                refine ow_batch [.p] rfl ?_
                refine ow_nil ?_
                refine x_qs ?_
                refine c_ret ?_
                refine x_qs_ret ?_
                exact x_retR (rs := [.tmp 4]) (vs := [.bool false]) rfl ⟨rfl, trivial⟩ (fun w' hw' => by
                    obtain rfl := of_some H
                    exact ⟨rfl, hw'.ext⟩)
              · have H := of_if_f hb H
                refine c_skip ?_
                refine x_qs ?_
                refine c_seq ?_
                refine c_seq ?_
                refine c_reg ?_
                refine ow_batch [.p] rfl ?_
                refine ow_nil ?_
                refine x_qs ?_
                refine c_block ?_
                refine CW.at (loopI1 (fun (i218 : Int) => St w [] [Res.box b26 58 [.slice a14 p0.Attrs_.length c15, .slice a16 p0.Classes_.length c17], Res.box b27 74 [.slice a22 p1.Totals_.length c23, .slice a24 p1.Cells_.length c25]]) (fun (i218 : Int) => [(2, .pointer (some ⟨b26, 0, none⟩)), (3, .pointer (some ⟨b27, 0, none⟩)), (7, .int .i64 i218)]) (fun kk => fun (i218 : Int) => spec_StatsOk_L2 p1 p0 kk i218 = some r) (fun _ H => ?_) (fun k2 ihk2 i218 H => ?_) Fuel (0) (H)) (fun _ h => St.sel [0, 1] rfl rfl h) ⟨rfl, rfl, rfl,  trivial⟩
                · unfold spec_StatsOk_L2 at H
                  exact absurd H (by simp)
                · unfold spec_StatsOk_L2 at H
                  refine c_seq ?_
                  refine c_seq ?_
                  refine c_reg ?_
                  refine ow_batch [.p, .fa 74 1 1 fa74_1] rfl ?_
                  refine ow_r rfl (dstOk_lt rfl) (ry_box1 (off := 1) rfl rfl ty27 (boxIn (i := 1) rfl) rfl) ?_
                  refine ow_batch [.lenS 27 22 sl27, .p] rfl ?_
                  refine ow_nil ?_
                  refine x_qs ?_
                  refine c_if rfl (fun hb => ?_) (fun hb => ?_)
                  · have H := of_if_t hb H
                    refine c_skip ?_
                    refine x_qs ?_
                    refine c_seq ?_
                    refine c_block ?_
                    refine c_seq ?_
                    refine c_reg ?_
                    refine ow_batch [.fa 58 0 0 fa58_0] rfl ?_
                    refine ow_r rfl (dstOk_lt rfl) (ry_box1 (off := 0) rfl rfl ty56 (boxIn (i := 0) rfl) rfl) ?_
                    refine ow_batch [.p] rfl ?_
                    obtain ⟨e381, h382, H⟩ := of_bind H
                    refine ow_ixB rfl rfl rfl rfl rfl sl56 ty105 rfl g12 h382 (fun q385 c386 hd383 hA384 => ?_)
                    obtain ⟨c387, c388, c389, rfl, g390, g391, g392⟩ := rdo_Timpl_Attr hd383
                    obtain rfl : c387 = [vS e381.Name_] := g390
                    obtain ⟨a393, c394, rfl⟩ := rd_sl1 g391
                    obtain ⟨a395, c396, rfl⟩ := rd_sl1 g392
                    refine ow_r rfl (dstOk_lt rfl) (ry_load (cs := [vS e381.Name_, .slice a393 e381.Cuts_.length c394, .slice a395 e381.Values_.length c396]) rfl rfl ty105 (at_bor bor hA384) rfl) ?_
                    obtain ⟨y397, h398, H⟩ := of_bind H
                    refine ow_q rfl rfl (dstOk_lt rfl) (qy_call rfl fn69 rfl (fun w1 hw1 => spec_Bins_ok w1 (cs0 := [vS e381.Name_, .slice a393 e381.Cuts_.length c394, .slice a395 e381.Values_.length c396]) h398 (rdm_Timpl_Attr (x := e381) (c0 := [vS e381.Name_]) (c1 := [.slice a393 e381.Cuts_.length c394]) (c2 := [.slice a395 e381.Values_.length c396]) rfl (rds_bor g391 w1 hw1) (rds_bor g392 w1 hw1)))) (fun _ _ => trivial) ?_
                    refine ow_batch [.p] rfl ?_
                    refine ow_nil ?_
                    refine x_qs ?_
                    refine c_seq ?_
                    refine c_seq ?_
                    refine c_regQ mixed (by kernel_rfl) ?_
                    refine ow_batch [.fa 74 1 1 fa74_1] rfl ?_
                    refine ow_r rfl (dstOk_lt rfl) (ry_box1 (off := 1) rfl rfl ty27 (boxIn (i := 1) rfl) rfl) ?_
                    refine ow_batch [.p] rfl ?_
                    obtain ⟨e399, h400, H⟩ := of_bind H
                    refine ow_ixB rfl rfl rfl rfl rfl sl27 ty22 rfl g21 h400 (fun q403 c404 hd401 hA402 => ?_)
                    obtain ⟨a405, c406, rfl⟩ := rd_sl1 hd401
                    refine ow_r rfl (dstOk_lt rfl) (ry_load1 rfl rfl ty22 (at_bor bor hA402)) ?_
                    refine ow_batch [.lenS 22 3 sl22, .p, .fa 58 1 1 fa58_1] rfl ?_
                    refine ow_r rfl (dstOk_lt rfl) (ry_box1 (off := 1) rfl rfl ty48 (boxIn (i := 0) rfl) rfl) ?_
                    refine ow_batch [.lenS 48 9 sl48, .p, .p] rfl ?_
                    refine ow_nilQ ?_
                    refine x_qs ?_
                    refine c_if rfl (fun hb => ?_) (fun hb => ?_)
                    · have H := of_if_t hb H
                      refine c_seq ?_
                      refine c_reg ?_
                      refine ow_batch [.p] rfl ?_
                      refine ow_nil ?_
                      refine x_qs ?_
                      refine c_ret ?_
                      refine x_qs_ret ?_
                      refine x_qb_ret ?_
                      refine x_qs_ret ?_
                      refine x_ql_ret ?_
                      refine x_qb_ret ?_
                      refine x_qs_ret ?_
                      exact x_retR (rs := [.tmp 4]) (vs := [.bool false]) rfl ⟨rfl, trivial⟩ (fun w' hw' => by
                          obtain rfl := of_some H
                          exact ⟨rfl, hw'.ext⟩)
                    · have H := of_if_f hb H
                      refine c_skip ?_
                      refine x_qs ?_
                      refine c_seq ?_
                      refine c_reg ?_
                      refine ow_batch [.p] rfl ?_
                      refine ow_nil ?_
                      refine x_qs ?_
                      refine c_block ?_
                      refine CW.at (loopI1 (fun (i452 : Int) => St w [] [Res.box b26 58 [.slice a14 p0.Attrs_.length c15, .slice a16 p0.Classes_.length c17], Res.box b27 74 [.slice a22 p1.Totals_.length c23, .slice a24 p1.Cells_.length c25]]) (fun (i452 : Int) => [(2, .pointer (some ⟨b26, 0, none⟩)), (3, .pointer (some ⟨b27, 0, none⟩)), (7, .int .i64 i218), (8, .int .i64 y397), (9, .int .i64 i452)]) (fun kk => fun (i452 : Int) => spec_StatsOk_L3 p0 y397 p1 i218 (spec_StatsOk_L2 p1 p0 k2) kk i452 = some r) (fun _ H => ?_) (fun k3 ihk3 i452 H => ?_) Fuel (0) (H)) (fun _ h => St.sel [0, 1] rfl rfl h) ⟨rfl, rfl, rfl, rfl, rfl,  trivial⟩
                      · unfold spec_StatsOk_L3 at H
                        exact absurd H (by simp)
                      · unfold spec_StatsOk_L3 at H
                        refine c_seq ?_
                        refine c_seq ?_
                        refine c_reg ?_
                        refine ow_batch [.p, .fa 58 1 1 fa58_1] rfl ?_
                        refine ow_r rfl (dstOk_lt rfl) (ry_box1 (off := 1) rfl rfl ty48 (boxIn (i := 0) rfl) rfl) ?_
                        refine ow_batch [.lenS 48 9 sl48, .p] rfl ?_
                        refine ow_nil ?_
                        refine x_qs ?_
                        refine c_if rfl (fun hb => ?_) (fun hb => ?_)
                        · have H := of_if_t hb H
                          refine c_skip ?_
                          refine x_qs ?_
                          refine c_seq ?_
                          refine c_block ?_
                          refine c_seq ?_
                          refine c_reg ?_
                          refine ow_batch [.p] rfl ?_
                          refine ow_nil ?_
                          refine x_qs ?_
                          refine c_seq ?_
                          refine c_seq ?_
                          refine c_reg ?_
                          refine ow_batch [.p] rfl ?_
                          refine ow_nil ?_
                          refine x_qs ?_
                          refine c_block ?_
                          refine CW.at (loopI2 (fun (i512 : Int) (i513 : Int) => St w [] [Res.box b26 58 [.slice a14 p0.Attrs_.length c15, .slice a16 p0.Classes_.length c17], Res.box b27 74 [.slice a22 p1.Totals_.length c23, .slice a24 p1.Cells_.length c25]]) (fun (i512 : Int) (i513 : Int) => [(2, .pointer (some ⟨b26, 0, none⟩)), (3, .pointer (some ⟨b27, 0, none⟩)), (7, .int .i64 i218), (8, .int .i64 y397), (9, .int .i64 i452), (10, .int .i64 i512), (11, .int .i64 i513)]) (fun kk => fun (i512 : Int) (i513 : Int) => spec_StatsOk_L4 y397 p1 i218 p0 i452 (spec_StatsOk_L3 p0 y397 p1 i218 (spec_StatsOk_L2 p1 p0 k2) k3) kk i512 i513 = some r) (fun _ _ H => ?_) (fun k4 ihk4 i512 i513 H => ?_) Fuel (0) (0) (H)) (fun _ h => St.sel [0, 1] rfl rfl h) ⟨rfl, rfl, rfl, rfl, rfl, rfl, rfl,  trivial⟩
                          · unfold spec_StatsOk_L4 at H
                            exact absurd H (by simp)
                          · unfold spec_StatsOk_L4 at H
                            refine c_seq ?_
                            refine c_seq ?_
                            refine c_reg ?_
                            refine ow_batch [.p, .p, .p] rfl ?_
                            refine ow_nil ?_
                            refine x_qs ?_
                            refine c_if rfl (fun hb => ?_) (fun hb => ?_)
                            · have H := of_if_t hb H
                              refine c_skip ?_
                              refine x_qs ?_
                              refine c_seq ?_
                              refine c_block ?_
                              refine c_seq ?_
                              refine c_regQ mixed (by kernel_rfl) ?_
                              refine ow_batch [.fa 74 1 1 fa74_1] rfl ?_
                              refine ow_r rfl (dstOk_lt rfl) (ry_box1 (off := 1) rfl rfl ty27 (boxIn (i := 1) rfl) rfl) ?_
                              refine ow_batch [.p] rfl ?_
                              obtain ⟨e528, h529, H⟩ := of_bind H
                              refine ow_ixB rfl rfl rfl rfl rfl sl27 ty22 rfl g21 h529 (fun q532 c533 hd530 hA531 => ?_)
                              obtain ⟨a534, c535, rfl⟩ := rd_sl1 hd530
                              refine ow_r rfl (dstOk_lt rfl) (ry_load1 rfl rfl ty22 (at_bor bor hA531)) ?_
                              refine ow_batch [.p, .fa 58 1 1 fa58_1] rfl ?_
                              refine ow_r rfl (dstOk_lt rfl) (ry_box1 (off := 1) rfl rfl ty48 (boxIn (i := 0) rfl) rfl) ?_
                              refine ow_batch [.lenS 48 9 sl48, .p, .p, .p] rfl ?_
                              obtain ⟨e536, h537, H⟩ := of_bind H
                              refine ow_ixE (e := eVal (Value.int .i64) (fun _ => rfl)) (xs := e528) (j := IntKind.i64.wrap ((IntKind.i64.wrap (i513 * (p0.Classes_.length : Int))) + i452)) rfl rfl rfl rfl rfl sl22 ty3 rfl (fun w1 hw1 => rds_bor hd530 w1 hw1) h537 (by rw [Nat.mul_one]) ?_
                              refine ow_r rfl (dstOk_lt rfl) (ry_load1 rfl rfl ty3 (at_elV (fun w1 hw1 => rds_bor hd530 w1 hw1) h537)) ?_
                              refine ow_batch [.p] rfl ?_
                              refine ow_nilQ ?_
                              refine x_qs ?_
                              refine c_seq ?_
                              refine c_seq ?_
                              refine c_reg ?_
                              refine ow_batch [.p] rfl ?_
                              obtain ⟨y538, h539, H⟩ := of_bind H
                              refine ow_q rfl rfl (dstOk_lt rfl) (qy_call rfl fn94 rfl (fun w1 hw1 => spec_l1In_ok w1  h539)) (fun _ _ => trivial) ?_
                              refine ow_batch [.p] rfl ?_
                              refine ow_nil ?_
                              refine x_qs ?_
                              refine c_if rfl (fun hb => ?_) (fun hb => ?_)
                              · have H := of_if_t hb H
                                refine c_seq ?_
                                refine c_reg ?_
                                refine ow_batch [.p] rfl ?_
                                refine ow_nil ?_
                                refine x_qs ?_
                                refine c_ret ?_
                                refine x_qs_ret ?_
                                refine x_qb_ret ?_
                                refine x_qs_ret ?_
                                refine x_ql_ret ?_
                                refine x_qb_ret ?_
                                refine x_qs_ret ?_
                                refine x_qb_ret ?_
                                refine x_qs_ret ?_
                                refine x_ql_ret ?_
                                refine x_qb_ret ?_
                                refine x_qb_ret ?_
                                refine x_qs_ret ?_
                                refine x_ql_ret ?_
                                refine x_qb_ret ?_
                                refine x_qs_ret ?_
                                exact x_retR (rs := [.tmp 4]) (vs := [.bool false]) rfl ⟨rfl, trivial⟩ (fun w' hw' => by
                                    obtain rfl := of_some H
                                    exact ⟨rfl, hw'.ext⟩)
                              · have H := of_if_f hb H
                                refine c_skip ?_
                                refine x_qs ?_
                                refine c_reg ?_
                                refine ow_batch [.p, .p, .p, .p] rfl ?_
                                refine ow_nil ?_
                                refine x_qb ?_
                                refine x_qs ?_
                                refine c_reg ?_
                                refine ow_batch [.p, .p, .p] rfl ?_
                                refine ow_nil ?_
                                exact x_ql (RW.at (ihk4 (IntKind.i64.wrap (i512 + e536)) (IntKind.i64.wrap (i513 + 1)) (H)) (fun _ h => St.sel [0, 1] rfl rfl h) ⟨rfl, rfl, rfl, rfl, rfl, rfl, rfl, trivial⟩)
                            · have H := of_if_f hb H
                              refine c_exit ?_
                              refine x_qs_exit ?_
                              refine x_ql_exit ?_
                              refine x_qb_here ?_
                              refine x_qs ?_
                              refine c_seq ?_
                              refine c_reg ?_
                              refine ow_batch [.p, .fa 74 0 0 fa74_0] rfl ?_
                              refine ow_r rfl (dstOk_lt rfl) (ry_box1 (off := 0) rfl rfl ty22 (boxIn (i := 1) rfl) rfl) ?_
                              refine ow_batch [.p] rfl ?_
                              obtain ⟨e540, h541, H⟩ := of_bind H
                              refine ow_ixE (e := eVal (Value.int .i64) (fun _ => rfl)) (xs := p1.Totals_) (j := i452) rfl rfl rfl rfl rfl sl22 ty3 rfl (fun w1 hw1 => rds_bor g20 w1 hw1) h541 (by rw [Nat.mul_one]) ?_
                              refine ow_r rfl (dstOk_lt rfl) (ry_load1 rfl rfl ty3 (at_elV (fun w1 hw1 => rds_bor g20 w1 hw1) h541)) ?_
                              refine ow_batch [.p] rfl ?_
                              refine ow_nil ?_
                              refine x_qs ?_
                              refine c_if rfl (fun hb => ?_) (fun hb => ?_)
                              · have H := of_if_t hb H
                                refine c_seq ?_
                                refine c_reg ?_
                                refine ow_batch [.p] rfl ?_
                                refine ow_nil ?_
                                refine x_qs ?_
                                refine c_ret ?_
                                refine x_qb_ret ?_
                                refine x_qs_ret ?_
                                refine x_ql_ret ?_
                                refine x_qb_ret ?_
                                refine x_qb_ret ?_
                                refine x_qs_ret ?_
                                refine x_ql_ret ?_
                                refine x_qb_ret ?_
                                refine x_qs_ret ?_
                                exact x_retR (rs := [.tmp 4]) (vs := [.bool false]) rfl ⟨rfl, trivial⟩ (fun w' hw' => by
                                    obtain rfl := of_some H
                                    exact ⟨rfl, hw'.ext⟩)
                              · have H := of_if_f hb H
                                refine c_skip ?_
                                refine x_qb ?_
                                refine x_qs ?_
                                refine c_reg ?_
                                refine ow_batch [.p, .p, .p] rfl ?_
                                refine ow_nil ?_
                                exact x_ql (RW.at (ihk3 (IntKind.i64.wrap (i452 + 1)) (H)) (fun _ h => St.sel [0, 1] rfl rfl h) ⟨rfl, rfl, rfl, rfl, rfl, trivial⟩)
                        · have H := of_if_f hb H
                          refine c_exit ?_
                          refine x_qs_exit ?_
                          refine x_ql_exit ?_
                          refine x_qb_here ?_
                          refine x_qb ?_
                          refine x_qs ?_
                          refine c_reg ?_
                          refine ow_batch [.p, .p, .p] rfl ?_
                          refine ow_nil ?_
                          exact x_ql (RW.at (ihk2 (IntKind.i64.wrap (i218 + 1)) (H)) (fun _ h => St.sel [0, 1] rfl rfl h) ⟨rfl, rfl, rfl, trivial⟩)
                  · have H := of_if_f hb H
                    refine c_exit ?_
                    refine x_qs_exit ?_
                    refine x_ql_exit ?_
                    refine x_qb_here ?_
                    refine x_qs ?_
                    refine c_seq ?_
                    refine c_reg ?_
                    refine ow_batch [.p] rfl ?_
                    refine ow_nil ?_
                    refine x_qs ?_
                    refine c_ret ?_
                    exact x_retR (rs := [.tmp 4]) (vs := [.bool true]) rfl ⟨rfl, trivial⟩ (fun w' hw' => by
                        obtain rfl := of_some H
                        exact ⟨rfl, hw'.ext⟩)
  · generalize (!y28) = t31 at key ⊢
    cases t31
    · refine ow_batch [.fa 74 0 0 fa74_0] rfl ?_
      refine ow_r rfl (dstOk_lt rfl) (ry_box1 (off := 0) rfl rfl ty22 (boxIn (i := 1) rfl) rfl) ?_
      refine ow_batch [.lenS 22 3 sl22, .fa 58 1 1 fa58_1] rfl ?_
      refine ow_r rfl (dstOk_lt rfl) (ry_box1 (off := 1) rfl rfl ty48 (boxIn (i := 0) rfl) rfl) ?_
      refine ow_batch [.lenS 48 9 sl48, .p] rfl ?_
      refine ow_batch [.p] rfl ?_
      exact OW.sub key ⟨rfl, rfl, rfl, trivial⟩
    · refine ow_batch [.p, .p, .p, .p, .p, .p, .p, .p] rfl ?_
      exact OW.sub key ⟨rfl, rfl, rfl, trivial⟩

set_option maxHeartbeats 4000000 in
set_option maxRecDepth 100000 in
theorem spec_Digits_ok (w : World) {p0 : Int}  {r : List UInt8} (H : spec_Digits p0 = some r)   :
    Calls Tryd.prog 35 #[.int .i64 p0] w (fun en w' => en = .returned (vS r) ∧ Ext [] w w') := by
  unfold spec_Digits at H
  refine f_enter (vs := [.int .i64 p0]) Tryd.func35 rfl Tryd.ntmps35 rfl (St.init w []) ?_
  refine c_seq ?_
  refine c_reg ?_
  refine ow_batch [.p] rfl ?_
  refine ow_nil ?_
  refine x_qs ?_
  refine c_seq ?_
  refine c_seq ?_
  refine c_reg ?_
  refine ow_batch [.p, .p] rfl ?_
  refine ow_nil ?_
  refine x_qs ?_
  refine c_if rfl (fun hb => ?_) (fun hb => ?_)
  · have H := of_if_t hb H
    refine c_seq ?_
    refine c_reg ?_
    refine ow_batch [.p] rfl ?_
    refine ow_nil ?_
    refine x_qs ?_
    refine c_ret ?_
    refine x_qs_ret ?_
    exact x_retR (rs := [.tmp 2]) (vs := [vS ([48] : List UInt8)]) rfl ⟨rfl, trivial⟩ (fun w' hw' => by
        obtain rfl := of_some H
        exact ⟨rfl, hw'.ext⟩)
  · have H := of_if_f hb H
    refine c_skip ?_
    refine x_qs ?_
    refine c_seq ?_
    refine c_reg ?_
    refine ow_batch [.p, .p, .p] rfl ?_
    refine ow_nil ?_
    refine x_qs ?_
    refine c_seq ?_
    refine c_reg ?_
    refine ow_batch [.p] rfl ?_
    refine ow_nil ?_
    refine x_qs ?_
    refine c_seq ?_
    refine c_block ?_
    refine CW.at (loopI2 (fun (i17 : Int) (s18 : List UInt8) => St w [] []) (fun (i17 : Int) (s18 : List UInt8) => [(0, .int .i64 i17), (3, .bool (decide (p0 < 0))), (4, vS s18)]) (fun kk => fun (i17 : Int) (s18 : List UInt8) => spec_Digits_L1 p0 kk i17 s18 = some r) (fun _ _ H => ?_) (fun k1 ihk1 i17 s18 H => ?_) Fuel (p0) (([] : List UInt8)) (H)) (fun _ h => St.sel [] rfl rfl h) ⟨rfl, rfl, rfl,  trivial⟩
    · unfold spec_Digits_L1 at H
      exact absurd H (by simp)
    · unfold spec_Digits_L1 at H
      refine c_seq ?_
      refine c_seq ?_
      refine c_reg ?_
      refine ow_batch [.p, .p] rfl ?_
      refine ow_nil ?_
      refine x_qs ?_
      refine c_if rfl (fun hb => ?_) (fun hb => ?_)
      · have H := of_if_t hb H
        refine c_skip ?_
        refine x_qs ?_
        refine c_block ?_
        refine c_seq ?_
        refine c_reg ?_
        refine ow_batch [.p, .p, .p] rfl ?_
        refine ow_nil ?_
        refine x_qs ?_
        refine c_join1 (fun (i25 : Int) => St w [] []) (fun (i25 : Int) => [(0, .int .i64 i17), (3, .bool (decide (p0 < 0))), (4, vS s18), (5, .int .i64 i25)]) (fun (i25 : Int) => spec_Digits_J1 s18 (spec_Digits_L1 p0 k1) i17 i25 = some r) (fun i25 H => ?_) (fun J1 => ?_)
        · unfold spec_Digits_J1 at H
          refine c_seq ?_
          refine c_reg ?_
          refine ow_batch [.p, .p, .cv 3 5 .u8 us3 in5] rfl ?_
          refine ow_blit (val := Value.int .u8) (h1 := fun _ => rfl) [IntKind.u8.wrap (IntKind.i64.wrap (48 + i25))] [(0, [.int .u8 (IntKind.u8.wrap (IntKind.i64.wrap (48 + i25)))])] rfl rfl rfl rfl rfl sl122 ty5 rfl rfl rfl ⟨rfl, rfl, Nat.le_of_ble_eq_true rfl,  trivial⟩ rfl rfl (fun _ => kp) (fun b26 => ?_)
          refine ow_r rfl (dstOk_lt rfl) (ry_bts (xs := ([IntKind.u8.wrap (IntKind.i64.wrap (48 + i25))] : List Int)) rfl rfl sl122 in5 st9 (fun w1 hw1 => rds_own (e := eList (eVal (Value.int .u8) (fun _ => rfl)) 5) (r := 0) rfl w1 hw1)) ?_
          refine ow_batch [.p] rfl ?_
          obtain ⟨s27, h28, H⟩ := of_bind H
          refine ow_r rfl (dstOk_lt rfl) (ry_sadd rfl rfl rfl h28) ?_
          refine ow_batch [.p] rfl ?_
          refine ow_nil ?_
          refine x_qs ?_
          refine c_reg ?_
          refine ow_batch [.p, .p, .p] rfl ?_
          refine ow_nil ?_
          refine x_qb ?_
          exact x_ql (RW.at (ihk1 (IntKind.i64.wrap (Int.tdiv i17 10)) (s27) (H)) (fun _ h => St.sel [] rfl rfl h) ⟨rfl, rfl, rfl, trivial⟩)
        · refine c_seq ?_
          refine c_reg ?_
          refine ow_batch [.p, .p] rfl ?_
          refine ow_nil ?_
          refine x_qs ?_
          refine c_if rfl (fun hb => ?_) (fun hb => ?_)
          · have H := of_if_t hb H
            refine c_reg ?_
            refine ow_batch [.p, .p, .p] rfl ?_
            refine ow_nil ?_
            exact XW.at (J1 (IntKind.i64.wrap (0 - (Int.tmod i17 10))) (H)) (fun _ h => St.sel [] rfl rfl h) ⟨rfl, rfl, rfl, rfl, trivial⟩
          · have H := of_if_f hb H
            refine c_skip ?_
            exact XW.at (J1 (Int.tmod i17 10) (H)) (fun _ h => St.sel [] rfl rfl h) ⟨rfl, rfl, rfl, rfl, trivial⟩
      · have H := of_if_f hb H
        refine c_exit ?_
        refine x_qs_exit ?_
        refine x_ql_exit ?_
        refine x_qb_here ?_
        refine x_qs ?_
        refine c_seq ?_
        refine c_seq ?_
        refine c_reg ?_
        refine ow_batch [.p] rfl ?_
        refine ow_nil ?_
        refine x_qs ?_
        refine c_if rfl (fun hb => ?_) (fun hb => ?_)
        · have H := of_if_t hb H
          refine c_seq ?_
          refine c_reg ?_
          refine ow_batch [.p] rfl ?_
          obtain ⟨s29, h30, H⟩ := of_bind H
          refine ow_r rfl (dstOk_lt rfl) (ry_sadd rfl rfl rfl h30) ?_
          refine ow_batch [.p] rfl ?_
          refine ow_nil ?_
          refine x_qs ?_
          refine c_ret ?_
          refine x_qs_ret ?_
          exact x_retR (rs := [.tmp 2]) (vs := [vS s29]) rfl ⟨rfl, trivial⟩ (fun w' hw' => by
              obtain rfl := of_some H
              exact ⟨rfl, hw'.ext⟩)
        · have H := of_if_f hb H
          refine c_skip ?_
          refine x_qs ?_
          refine c_seq ?_
          refine c_reg ?_
          refine ow_batch [.p, .p] rfl ?_
          refine ow_nil ?_
          refine x_qs ?_
          refine c_ret ?_
          exact x_retR (rs := [.tmp 2]) (vs := [vS s18]) rfl ⟨rfl, trivial⟩ (fun w' hw' => by
              obtain rfl := of_some H
              exact ⟨rfl, hw'.ext⟩)

set_option maxHeartbeats 4000000 in
set_option maxRecDepth 100000 in
theorem spec_l5Join_ok (w : World) {p0 : List (List UInt8)} {p1 : List UInt8} {a_0 : Option Addr} {n_0 c_0 : Nat} {r : List UInt8} (H : spec_l5Join p0 p1 = some r)  (g0 : (eList (eStr) 9).rd w [] p0 [.slice a_0 n_0 c_0]) :
    Calls Tryd.prog 36 #[.slice a_0 n_0 c_0, vS p1] w (fun en w' => en = .returned (vS r) ∧ Ext [] w w') := by
  obtain rfl := rd_n g0
  unfold spec_l5Join at H
  refine f_enter (vs := [.slice a_0 p0.length c_0, vS p1]) Tryd.func36 rfl Tryd.ntmps36 rfl (St.init w []) ?_
  refine c_seq ?_
  refine c_reg ?_
  refine ow_batch [.p] rfl ?_
  refine ow_nil ?_
  refine x_qs ?_
  refine c_seq ?_
  refine c_reg ?_
  refine ow_batch [.p] rfl ?_
  refine ow_nil ?_
  refine x_qs ?_
  refine c_seq ?_
  refine c_seq ?_
  refine c_reg ?_
  refine ow_batch [.p] rfl ?_
  refine ow_nil ?_
  refine x_qs ?_
  refine c_block ?_
  refine CW.at (loopI2 (fun (s21 : List UInt8) (i22 : Int) => St w [] []) (fun (s21 : List UInt8) (i22 : Int) => [(0, .slice a_0 p0.length c_0), (1, vS p1), (5, vS s21), (6, .int .i64 i22)]) (fun kk => fun (s21 : List UInt8) (i22 : Int) => spec_l5Join_L1 p0 p1 kk s21 i22 = some r) (fun _ _ H => ?_) (fun k1 ihk1 s21 i22 H => ?_) Fuel (([] : List UInt8)) (0) (H)) (fun _ h => St.sel [] rfl rfl h) ⟨rfl, rfl, rfl, rfl,  trivial⟩
  · unfold spec_l5Join_L1 at H
    exact absurd H (by simp)
  · unfold spec_l5Join_L1 at H
    refine c_seq ?_
    refine c_seq ?_
    refine c_reg ?_
    refine ow_batch [.p, .p, .lenS 48 9 sl48, .p] rfl ?_
    refine ow_nil ?_
    refine x_qs ?_
    refine c_if rfl (fun hb => ?_) (fun hb => ?_)
    · have H := of_if_t hb H
      refine c_skip ?_
      refine x_qs ?_
      refine c_seq ?_
      refine c_block ?_
      refine c_join1 (fun (s36 : List UInt8) => St w [] []) (fun (s36 : List UInt8) => [(0, .slice a_0 p0.length c_0), (1, vS p1), (5, vS s36), (6, .int .i64 i22)]) (fun (s36 : List UInt8) => spec_l5Join_J1 p0 i22 (spec_l5Join_L1 p0 p1 k1) s36 = some r) (fun s36 H => ?_) (fun J1 => ?_)
      · unfold spec_l5Join_J1 at H
        refine c_reg ?_
        refine ow_batch [.p, .p, .p] rfl ?_
        obtain ⟨e37, h38, H⟩ := of_bind H
        refine ow_ixE (e := eStr) (xs := p0) (j := i22) rfl rfl rfl rfl rfl sl48 ty9 rfl (fun w1 hw1 => rds_bor g0 w1 hw1) h38 (by rw [Nat.mul_one]) ?_
        refine ow_r rfl (dstOk_lt rfl) (ry_load1 rfl rfl ty9 (at_elV (fun w1 hw1 => rds_bor g0 w1 hw1) h38)) ?_
        obtain ⟨s39, h40, H⟩ := of_bind H
        refine ow_r rfl (dstOk_lt rfl) (ry_sadd rfl rfl rfl h40) ?_
        refine ow_batch [.p] rfl ?_
        refine ow_nil ?_
        refine x_qb ?_
        refine x_qs ?_
        refine c_reg ?_
        refine ow_batch [.p, .p, .p] rfl ?_
        refine ow_nil ?_
        exact x_ql (RW.at (ihk1 (s39) (IntKind.i64.wrap (i22 + 1)) (H)) (fun _ h => St.sel [] rfl rfl h) ⟨rfl, rfl, rfl, rfl, trivial⟩)
      · refine c_seq ?_
        refine c_reg ?_
        refine ow_batch [.p, .p] rfl ?_
        refine ow_nil ?_
        refine x_qs ?_
        refine c_if rfl (fun hb => ?_) (fun hb => ?_)
        · have H := of_if_t hb H
          refine c_reg ?_
          refine ow_batch [.p, .p] rfl ?_
          obtain ⟨s41, h42, H⟩ := of_bind H
          refine ow_r rfl (dstOk_lt rfl) (ry_sadd rfl rfl rfl h42) ?_
          refine ow_batch [.p] rfl ?_
          refine ow_nil ?_
          exact XW.at (J1 (s41) (H)) (fun _ h => St.sel [] rfl rfl h) ⟨rfl, rfl, rfl, rfl, trivial⟩
        · have H := of_if_f hb H
          refine c_skip ?_
          exact XW.at (J1 (s21) (H)) (fun _ h => St.sel [] rfl rfl h) ⟨rfl, rfl, rfl, rfl, trivial⟩
    · have H := of_if_f hb H
      refine c_exit ?_
      refine x_qs_exit ?_
      refine x_ql_exit ?_
      refine x_qb_here ?_
      refine x_qs ?_
      refine c_seq ?_
      refine c_reg ?_
      refine ow_batch [.p, .p] rfl ?_
      refine ow_nil ?_
      refine x_qs ?_
      refine c_ret ?_
      exact x_retR (rs := [.tmp 4]) (vs := [vS s21]) rfl ⟨rfl, trivial⟩ (fun w' hw' => by
          obtain rfl := of_some H
          exact ⟨rfl, hw'.ext⟩)

set_option maxHeartbeats 4000000 in
set_option maxRecDepth 100000 in
theorem spec_TotalsText_ok (w : World) {p0 : List Int} {a_0 : Option Addr} {n_0 c_0 : Nat} {r : List UInt8} (H : spec_TotalsText p0 = some r)  (g0 : (eList (eVal (Value.int .i64) (fun _ => rfl)) 3).rd w [] p0 [.slice a_0 n_0 c_0]) :
    Calls Tryd.prog 8 #[.slice a_0 n_0 c_0] w (fun en w' => en = .returned (vS r) ∧ Ext [] w w') := by
  obtain rfl := rd_n g0
  unfold spec_TotalsText at H
  refine f_enter (vs := [.slice a_0 p0.length c_0]) Tryd.func8 rfl Tryd.ntmps8 rfl (St.init w []) ?_
  refine c_seq ?_
  refine c_reg ?_
  refine ow_batch [.p] rfl ?_
  refine ow_nil ?_
  refine x_qs ?_
  refine c_seq ?_
  refine c_reg ?_
  refine ow_blit0 (e := eStr) rfl rfl rfl rfl sl48 ty9 (fun _ => kp) (fun b10 => ?_)
  refine ow_batch [.p] rfl ?_
  refine ow_nil ?_
  refine x_qs ?_
  refine c_seq ?_
  refine c_seq ?_
  refine c_reg ?_
  refine ow_batch [.p] rfl ?_
  refine ow_nil ?_
  refine x_qs ?_
  refine c_block ?_
  refine CW.at (loopI5 (fun (l28 : List (List UInt8)) (a29 : Option Addr) (c30 : Nat) (F31 : List Nat) (i33 : Int) => St w [] [Res.own (eList (eStr) 9) F31 l28 [.slice a29 l28.length c30]]) (fun (l28 : List (List UInt8)) (a29 : Option Addr) (c30 : Nat) (F31 : List Nat) (i33 : Int) => [(0, .slice a_0 p0.length c_0), (3, .slice a29 l28.length c30), (4, .int .i64 i33)]) (fun kk => fun (l28 : List (List UInt8)) (a29 : Option Addr) (c30 : Nat) (F31 : List Nat) (i33 : Int) => a29.isNone = false ∧ spec_TotalsText_L1 p0 kk l28 i33 = some r) (fun _ _ _ _ _ H => ?_) (fun k1 ihk1 l28 a29 c30 F31 i33 ⟨hz32, H⟩ => ?_) Fuel (([] : List (List UInt8))) ((some ⟨b10, 0, none⟩)) (0) ([b10]) (0) (⟨rfl, H⟩)) (fun _ h => St.sel [0] rfl rfl h) ⟨rfl, rfl, rfl,  trivial⟩
  · unfold spec_TotalsText_L1 at H
    exact absurd H (by simp)
  · unfold spec_TotalsText_L1 at H
    refine c_seq ?_
    refine c_seq ?_
    refine c_reg ?_
    refine ow_batch [.p, .p, .lenS 22 3 sl22, .p] rfl ?_
    refine ow_nil ?_
    refine x_qs ?_
    refine c_if rfl (fun hb => ?_) (fun hb => ?_)
    · have H := of_if_t hb H
      refine c_skip ?_
      refine x_qs ?_
      refine c_seq ?_
      refine c_block ?_
      refine c_reg ?_
      refine ow_batch [.p, .p, .p] rfl ?_
      obtain ⟨e51, h52, H⟩ := of_bind H
      refine ow_ixE (e := eVal (Value.int .i64) (fun _ => rfl)) (xs := p0) (j := i33) rfl rfl rfl rfl rfl sl22 ty3 rfl (fun w1 hw1 => rds_bor g0 w1 hw1) h52 (by rw [Nat.mul_one]) ?_
      refine ow_r rfl (dstOk_lt rfl) (ry_load1 rfl rfl ty3 (at_elV (fun w1 hw1 => rds_bor g0 w1 hw1) h52)) ?_
      obtain ⟨y53, h54, H⟩ := of_bind H
      refine ow_q rfl rfl (dstOk_lt rfl) (qy_call rfl fn35 rfl (fun w1 hw1 => spec_Digits_ok w1  h54)) (fun _ _ => trivial) ?_
      refine ow_blit (val := vS) (h1 := fun _ => rfl) [y53] [(0, [vS y53])] rfl rfl rfl rfl rfl sl48 ty9 rfl rfl rfl ⟨rfl, rfl, Nat.le_of_ble_eq_true rfl,  trivial⟩ rfl rfl (fun _ => kp) (fun b55 => ?_)
      obtain ⟨l56, h57, H⟩ := of_bind H
      refine ow_appR (r := 0) (ys := ([y53] : List (List UInt8))) rfl rfl rfl rfl rfl rfl sl48 ty9 rfl rfl rfl (fun w1 hw1 => rds_own (e := eList (eStr) 9) (r := 1) rfl w1 hw1) h57 (fun _ _ _ => kp) (fun a58 c59 F60 => ?_)
      refine ow_fact rfl (fun w1 hw1 => own_nn (i := 0) hw1 rfl (app_ne h57)) (fun hz61 => ?_)
      refine ow_batch [.p] rfl ?_
      refine ow_nil ?_
      refine x_qb ?_
      refine x_qs ?_
      refine c_reg ?_
      refine ow_batch [.p, .p, .p] rfl ?_
      refine ow_nil ?_
      exact x_ql (RW.at (ihk1 (l56) (a58) (c59) (F60) (IntKind.i64.wrap (i33 + 1)) (⟨hz61, H⟩)) (fun _ h => St.sel [0] rfl rfl h) ⟨rfl, rfl, rfl, trivial⟩)
    · have H := of_if_f hb H
      refine c_exit ?_
      refine x_qs_exit ?_
      refine x_ql_exit ?_
      refine x_qb_here ?_
      refine x_qs ?_
      refine c_seq ?_
      refine c_reg ?_
      refine ow_batch [.p] rfl ?_
      obtain ⟨y62, h63, H⟩ := of_bind H
      refine ow_q rfl rfl (dstOk_lt rfl) (qy_call rfl fn36 rfl (fun w1 hw1 => spec_l5Join_ok w1  h63 (rds_own (e := eList (eStr) 9) (r := 0) rfl w1 hw1))) (fun _ _ => trivial) ?_
      refine ow_batch [.p] rfl ?_
      refine ow_nil ?_
      refine x_qs ?_
      refine c_ret ?_
      exact x_retR (rs := [.tmp 2]) (vs := [vS y62]) rfl ⟨rfl, trivial⟩ (fun w' hw' => by
          obtain rfl := of_some H
          exact ⟨rfl, hw'.ext⟩)

set_option maxHeartbeats 4000000 in
set_option maxRecDepth 100000 in
theorem spec_TopOf_ok (w : World) {p0 : List Int} {a_0 : Option Addr} {n_0 c_0 : Nat} {r : Int} (H : spec_TopOf p0 = some r)  (g0 : (eList (eVal (Value.int .i64) (fun _ => rfl)) 3).rd w [] p0 [.slice a_0 n_0 c_0]) :
    Calls Tryd.prog 82 #[.slice a_0 n_0 c_0] w (fun en w' => en = .returned (.int .i64 r) ∧ Ext [] w w') := by
  obtain rfl := rd_n g0
  unfold spec_TopOf at H
  refine f_enter (vs := [.slice a_0 p0.length c_0]) Tryd.func82 rfl Tryd.ntmps82 rfl (St.init w []) ?_
  refine c_seq ?_
  refine c_reg ?_
  refine ow_batch [.p] rfl ?_
  refine ow_nil ?_
  refine x_qs ?_
  refine c_seq ?_
  refine c_reg ?_
  refine ow_batch [.p] rfl ?_
  refine ow_nil ?_
  refine x_qs ?_
  refine c_seq ?_
  refine c_seq ?_
  refine c_reg ?_
  refine ow_batch [.p] rfl ?_
  refine ow_nil ?_
  refine x_qs ?_
  refine c_block ?_
  refine CW.at (loopI2 (fun (i19 : Int) (i20 : Int) => St w [] []) (fun (i19 : Int) (i20 : Int) => [(0, .slice a_0 p0.length c_0), (3, .int .i64 i19), (4, .int .i64 i20)]) (fun kk => fun (i19 : Int) (i20 : Int) => spec_TopOf_L1 p0 kk i19 i20 = some r) (fun _ _ H => ?_) (fun k1 ihk1 i19 i20 H => ?_) Fuel ((-1)) (0) (H)) (fun _ h => St.sel [] rfl rfl h) ⟨rfl, rfl, rfl,  trivial⟩
  · unfold spec_TopOf_L1 at H
    exact absurd H (by simp)
  · unfold spec_TopOf_L1 at H
    refine c_seq ?_
    refine c_seq ?_
    refine c_reg ?_
    refine ow_batch [.p, .p, .lenS 22 3 sl22, .p] rfl ?_
    refine ow_nil ?_
    refine x_qs ?_
    refine c_if rfl (fun hb => ?_) (fun hb => ?_)
    · have H := of_if_t hb H
      refine c_skip ?_
      refine x_qs ?_
      refine c_seq ?_
      refine c_block ?_
      refine c_seq ?_
      refine c_regQ mixed (by kernel_rfl) ?_
      refine ow_batch [.p, .p, .p] rfl ?_
      obtain ⟨u30, hu36, H⟩ := of_bind H
      refine ow_cut [(23, .bool u30), (0, .slice a_0 p0.length c_0), (3, .int .i64 i19), (4, .int .i64 i20)] 10 ?_ (fun key => OW.sub (R := [(0, .slice a_0 p0.length c_0), (3, .int .i64 i19), (4, .int .i64 i20), (13, .bool (decide (i19 < 0)))]) ?_ ⟨rfl, rfl, rfl, rfl, trivial⟩)
      · refine ow_nilQ ?_
        refine x_qs ?_
        refine c_if rfl (fun hb => ?_) (fun hb => ?_)
        · have H := of_if_t hb H
          refine c_reg ?_
          refine ow_batch [.p, .p] rfl ?_
          refine ow_nil ?_
          refine x_qb ?_
          refine x_qs ?_
          refine c_reg ?_
          refine ow_batch [.p, .p, .p] rfl ?_
          refine ow_nil ?_
          exact x_ql (RW.at (ihk1 (i20) (IntKind.i64.wrap (i20 + 1)) (H)) (fun _ h => St.sel [] rfl rfl h) ⟨rfl, rfl, rfl, trivial⟩)
        · have H := of_if_f hb H
          refine c_skip ?_
          refine x_qb ?_
          refine x_qs ?_
          refine c_reg ?_
          refine ow_batch [.p, .p, .p] rfl ?_
          refine ow_nil ?_
          exact x_ql (RW.at (ihk1 (i19) (IntKind.i64.wrap (i20 + 1)) (H)) (fun _ h => St.sel [] rfl rfl h) ⟨rfl, rfl, rfl, trivial⟩)
      · clear H
        have H := hu36
        clear hu36
        generalize (decide (i19 < 0)) = t35 at H key ⊢
        cases t35
        · have H := of_if_f rfl H
          refine ow_batch [.p, .p] rfl ?_
          obtain ⟨e31, h32, H⟩ := of_bind H
          refine ow_ixE (e := eVal (Value.int .i64) (fun _ => rfl)) (xs := p0) (j := i20) rfl rfl rfl rfl rfl sl22 ty3 rfl (fun w1 hw1 => rds_bor g0 w1 hw1) h32 (by rw [Nat.mul_one]) ?_
          refine ow_r rfl (dstOk_lt rfl) (ry_load1 rfl rfl ty3 (at_elV (fun w1 hw1 => rds_bor g0 w1 hw1) h32)) ?_
          refine ow_batch [.p, .p] rfl ?_
          obtain ⟨e33, h34, H⟩ := of_bind H
          refine ow_ixE (e := eVal (Value.int .i64) (fun _ => rfl)) (xs := p0) (j := i19) rfl rfl rfl rfl rfl sl22 ty3 rfl (fun w1 hw1 => rds_bor g0 w1 hw1) h34 (by rw [Nat.mul_one]) ?_
          refine ow_r rfl (dstOk_lt rfl) (ry_load1 rfl rfl ty3 (at_elV (fun w1 hw1 => rds_bor g0 w1 hw1) h34)) ?_
          refine ow_batch [.p] rfl ?_
          refine ow_batch [.p] rfl ?_
          obtain rfl := of_some H
          exact OW.sub key ⟨rfl, rfl, rfl, rfl, trivial⟩
        · have H := of_if_t rfl H
          refine ow_batch [.p, .p, .p, .p, .p, .p, .p, .p, .p, .p] rfl ?_
          obtain rfl := of_some H
          exact OW.sub key ⟨rfl, rfl, rfl, rfl, trivial⟩
    · have H := of_if_f hb H
      refine c_exit ?_
      refine x_qs_exit ?_
      refine x_ql_exit ?_
      refine x_qb_here ?_
      refine x_qs ?_
      refine c_seq ?_
      refine c_reg ?_
      refine ow_batch [.p, .p] rfl ?_
      refine ow_nil ?_
      refine x_qs ?_
      refine c_ret ?_
      exact x_retR (rs := [.tmp 2]) (vs := [.int .i64 i19]) rfl ⟨rfl, trivial⟩ (fun w' hw' => by
          obtain rfl := of_some H
          exact ⟨rfl, hw'.ext⟩)

set_option maxHeartbeats 4000000 in
set_option maxRecDepth 100000 in
theorem spec_ForkOk_ok (w : World) {p0 : Timpl_Schema} {p1 : Timpl_Fork} {cs0 : List Value} {r : Bool} (H : spec_ForkOk p0 p1 = some r)  (g0 : (eTimpl_Schema).rd w [] p0 cs0) :
    Calls Tryd.prog 83 #[.agg cs0.toArray, .agg #[.int .i64 p1.Attr_, .int .i64 p1.At_]] w (fun en w' => en = .returned (.bool r) ∧ Ext [] w w') := by
  obtain ⟨c10, c11, rfl, g12, g13⟩ := rdo_Timpl_Schema g0
  obtain ⟨a14, c15, rfl⟩ := rd_sl1 g12
  obtain ⟨a16, c17, rfl⟩ := rd_sl1 g13
  unfold spec_ForkOk at H
  refine f_enter (vs := [.agg #[.slice a14 p0.Attrs_.length c15, .slice a16 p0.Classes_.length c17], .agg #[.int .i64 p1.Attr_, .int .i64 p1.At_]]) Tryd.func83 rfl Tryd.ntmps83 rfl (St.init w []) ?_
  refine c_seq ?_
  refine c_reg ?_
  refine ow_box (cs := [.slice a14 p0.Attrs_.length c15, .slice a16 p0.Classes_.length c17]) rfl rfl rfl rfl rfl rfl (fun _ => kp) (fun b18 => ?_)
  refine ow_box (cs := [.int .i64 p1.Attr_, .int .i64 p1.At_]) rfl rfl rfl rfl rfl rfl (fun _ => kp) (fun b19 => ?_)
  refine ow_batch [.p] rfl ?_
  refine ow_nil ?_
  refine x_qs ?_
  refine c_seq ?_
  refine c_seq ?_
  refine c_reg ?_
  refine ow_r rfl (dstOk_lt rfl) (ry_box (off := 0) (ds := [.slice a14 p0.Attrs_.length c15, .slice a16 p0.Classes_.length c17]) rfl rfl ty58 (boxIn (i := 0) rfl) rfl rfl) ?_
  obtain ⟨y20, h21, H⟩ := of_bind H
  refine ow_q rfl rfl (dstOk_lt rfl) (qy_call rfl fn111 rfl (fun w1 hw1 => spec_SchemaOk_ok w1 (cs0 := [.slice a14 p0.Attrs_.length c15, .slice a16 p0.Classes_.length c17]) h21 (rdm_Timpl_Schema (x := p0) (c0 := [.slice a14 p0.Attrs_.length c15]) (c1 := [.slice a16 p0.Classes_.length c17]) (rds_bor g12 w1 hw1) (rds_bor g13 w1 hw1)))) (fun _ _ => trivial) ?_
  refine ow_batch [.p, .p] rfl ?_
  obtain ⟨u22, hu26, H⟩ := of_bind H
  refine ow_cut [(17, .bool u22), (2, .pointer (some ⟨b18, 0, none⟩)), (3, .pointer (some ⟨b19, 0, none⟩))] 9 ?_ (fun key => OW.sub (R := [(2, .pointer (some ⟨b18, 0, none⟩)), (3, .pointer (some ⟨b19, 0, none⟩)), (8, .bool (!y20))]) ?_ ⟨rfl, rfl, rfl, trivial⟩)
  · refine ow_nil ?_
    refine x_qs ?_
    refine c_if rfl (fun hb => ?_) (fun hb => ?_)
    · have H := of_if_t hb H
      refine c_seq ?_
      refine c_reg ?_
      refine ow_batch [.p] rfl ?_
      refine ow_nil ?_
      refine x_qs ?_
      refine c_ret ?_
      refine x_qs_ret ?_
      exact x_retR (rs := [.tmp 4]) (vs := [.bool false]) rfl ⟨rfl, trivial⟩ (fun w' hw' => by
          obtain rfl := of_some H
          exact ⟨rfl, hw'.ext⟩)
    · have H := of_if_f hb H
      refine c_skip ?_
      refine x_qs ?_
      refine c_seq ?_
      refine c_seq ?_
      refine c_reg ?_
      refine ow_batch [.fa 58 0 0 fa58_0] rfl ?_
      refine ow_r rfl (dstOk_lt rfl) (ry_box1 (off := 0) rfl rfl ty56 (boxIn (i := 0) rfl) rfl) ?_
      refine ow_batch [.fa 73 0 0 fa73_0] rfl ?_
      refine ow_r rfl (dstOk_lt rfl) (ry_box1 (off := 0) rfl rfl ty3 (boxIn (i := 1) rfl) rfl) ?_
      obtain ⟨e27, h28, H⟩ := of_bind H
      refine ow_ixB rfl rfl rfl rfl rfl sl56 ty105 rfl g12 h28 (fun q31 c32 hd29 hA30 => ?_)
      obtain ⟨c33, c34, c35, rfl, g36, g37, g38⟩ := rdo_Timpl_Attr hd29
      obtain rfl : c33 = [vS e27.Name_] := g36
      obtain ⟨a39, c40, rfl⟩ := rd_sl1 g37
      obtain ⟨a41, c42, rfl⟩ := rd_sl1 g38
      refine ow_batch [.fa 105 1 1 fa105_1] rfl ?_
      refine ow_r rfl (dstOk_lt rfl) (ry_load1 rfl rfl ty22 (at_bor bor (at_K hA30 1 1))) ?_
      refine ow_batch [.lenS 22 3 sl22, .p] rfl ?_
      refine ow_nil ?_
      refine x_qs ?_
      refine c_if rfl (fun hb => ?_) (fun hb => ?_)
      · have H := of_if_t hb H
        refine c_seq ?_
        refine c_regQ mixed (by kernel_rfl) ?_
        refine ow_batch [.fa 73 1 1 fa73_1] rfl ?_
        refine ow_r rfl (dstOk_lt rfl) (ry_box1 (off := 1) rfl rfl ty3 (boxIn (i := 1) rfl) rfl) ?_
        refine ow_batch [.fa 58 0 0 fa58_0] rfl ?_
        refine ow_r rfl (dstOk_lt rfl) (ry_box1 (off := 0) rfl rfl ty56 (boxIn (i := 0) rfl) rfl) ?_
        refine ow_batch [.fa 73 0 0 fa73_0] rfl ?_
        refine ow_r rfl (dstOk_lt rfl) (ry_box1 (off := 0) rfl rfl ty3 (boxIn (i := 1) rfl) rfl) ?_
        obtain ⟨e43, h44, H⟩ := of_bind H
        refine ow_ixB rfl rfl rfl rfl rfl sl56 ty105 rfl g12 h44 (fun q47 c48 hd45 hA46 => ?_)
        obtain ⟨c49, c50, c51, rfl, g52, g53, g54⟩ := rdo_Timpl_Attr hd45
        obtain rfl : c49 = [vS e43.Name_] := g52
        obtain ⟨a55, c56, rfl⟩ := rd_sl1 g53
        obtain ⟨a57, c58, rfl⟩ := rd_sl1 g54
        refine ow_r rfl (dstOk_lt rfl) (ry_load (cs := [vS e43.Name_, .slice a55 e43.Cuts_.length c56, .slice a57 e43.Values_.length c58]) rfl rfl ty105 (at_bor bor hA46) rfl) ?_
        obtain ⟨y59, h60, H⟩ := of_bind H
        refine ow_q rfl rfl (dstOk_lt rfl) (qy_call rfl fn69 rfl (fun w1 hw1 => spec_Bins_ok w1 (cs0 := [vS e43.Name_, .slice a55 e43.Cuts_.length c56, .slice a57 e43.Values_.length c58]) h60 (rdm_Timpl_Attr (x := e43) (c0 := [vS e43.Name_]) (c1 := [.slice a55 e43.Cuts_.length c56]) (c2 := [.slice a57 e43.Values_.length c58]) rfl (rds_bor g53 w1 hw1) (rds_bor g54 w1 hw1)))) (fun _ _ => trivial) ?_
        refine ow_batch [.p] rfl ?_
        obtain ⟨y61, h62, H⟩ := of_bind H
        refine ow_q rfl rfl (dstOk_lt rfl) (qy_call rfl fn94 rfl (fun w1 hw1 => spec_l1In_ok w1  h62)) (fun _ _ => trivial) ?_
        refine ow_batch [.p] rfl ?_
        refine ow_nilQ ?_
        refine x_qs ?_
        refine c_ret ?_
        refine x_qs_ret ?_
        exact x_retR (rs := [.tmp 4]) (vs := [.bool y61]) rfl ⟨rfl, trivial⟩ (fun w' hw' => by
            obtain rfl := of_some H
            exact ⟨rfl, hw'.ext⟩)
      · have H := of_if_f hb H
        refine c_skip ?_
        refine x_qs ?_
        refine c_seq ?_
        refine c_regQ mixed (by kernel_rfl) ?_
        refine ow_batch [.fa 73 1 1 fa73_1] rfl ?_
        refine ow_r rfl (dstOk_lt rfl) (ry_box1 (off := 1) rfl rfl ty3 (boxIn (i := 1) rfl) rfl) ?_
        refine ow_batch [.fa 58 0 0 fa58_0] rfl ?_
        refine ow_r rfl (dstOk_lt rfl) (ry_box1 (off := 0) rfl rfl ty56 (boxIn (i := 0) rfl) rfl) ?_
        refine ow_batch [.fa 73 0 0 fa73_0] rfl ?_
        refine ow_r rfl (dstOk_lt rfl) (ry_box1 (off := 0) rfl rfl ty3 (boxIn (i := 1) rfl) rfl) ?_
        obtain ⟨e63, h64, H⟩ := of_bind H
        refine ow_ixB rfl rfl rfl rfl rfl sl56 ty105 rfl g12 h64 (fun q67 c68 hd65 hA66 => ?_)
        obtain ⟨c69, c70, c71, rfl, g72, g73, g74⟩ := rdo_Timpl_Attr hd65
        obtain rfl : c69 = [vS e63.Name_] := g72
        obtain ⟨a75, c76, rfl⟩ := rd_sl1 g73
        obtain ⟨a77, c78, rfl⟩ := rd_sl1 g74
        refine ow_r rfl (dstOk_lt rfl) (ry_load (cs := [vS e63.Name_, .slice a75 e63.Cuts_.length c76, .slice a77 e63.Values_.length c78]) rfl rfl ty105 (at_bor bor hA66) rfl) ?_
        obtain ⟨y79, h80, H⟩ := of_bind H
        refine ow_q rfl rfl (dstOk_lt rfl) (qy_call rfl fn69 rfl (fun w1 hw1 => spec_Bins_ok w1 (cs0 := [vS e63.Name_, .slice a75 e63.Cuts_.length c76, .slice a77 e63.Values_.length c78]) h80 (rdm_Timpl_Attr (x := e63) (c0 := [vS e63.Name_]) (c1 := [.slice a75 e63.Cuts_.length c76]) (c2 := [.slice a77 e63.Values_.length c78]) rfl (rds_bor g73 w1 hw1) (rds_bor g74 w1 hw1)))) (fun _ _ => trivial) ?_
        refine ow_batch [.p] rfl ?_
        obtain ⟨y81, h82, H⟩ := of_bind H
        refine ow_q rfl rfl (dstOk_lt rfl) (qy_call rfl fn94 rfl (fun w1 hw1 => spec_l1In_ok w1  h82)) (fun _ _ => trivial) ?_
        refine ow_batch [.p] rfl ?_
        refine ow_nilQ ?_
        refine x_qs ?_
        refine c_ret ?_
        exact x_retR (rs := [.tmp 4]) (vs := [.bool y81]) rfl ⟨rfl, trivial⟩ (fun w' hw' => by
            obtain rfl := of_some H
            exact ⟨rfl, hw'.ext⟩)
  · clear H
    have H := hu26
    clear hu26
    generalize (!y20) = t25 at H key ⊢
    cases t25
    · have H := of_if_f rfl H
      refine ow_batch [.fa 73 0 0 fa73_0] rfl ?_
      refine ow_r rfl (dstOk_lt rfl) (ry_box1 (off := 0) rfl rfl ty3 (boxIn (i := 1) rfl) rfl) ?_
      refine ow_batch [.fa 58 0 0 fa58_0] rfl ?_
      refine ow_r rfl (dstOk_lt rfl) (ry_box1 (off := 0) rfl rfl ty56 (boxIn (i := 0) rfl) rfl) ?_
      refine ow_batch [.lenS 56 105 sl56, .p] rfl ?_
      obtain ⟨y23, h24, H⟩ := of_bind H
      refine ow_q rfl rfl (dstOk_lt rfl) (qy_call rfl fn94 rfl (fun w1 hw1 => spec_l1In_ok w1  h24)) (fun _ _ => trivial) ?_
      refine ow_batch [.p] rfl ?_
      refine ow_batch [.p] rfl ?_
      obtain rfl := of_some H
      exact OW.sub key ⟨rfl, rfl, rfl, trivial⟩
    · have H := of_if_t rfl H
      refine ow_batch [.p, .p, .p, .p, .p, .p, .p, .p, .p] rfl ?_
      obtain rfl := of_some H
      exact OW.sub key ⟨rfl, rfl, rfl, trivial⟩

set_option maxHeartbeats 4000000 in
set_option maxRecDepth 100000 in
theorem spec_ForkText_ok (w : World) {p0 : Timpl_Schema} {p1 : Timpl_Fork} {cs0 : List Value} {r : List UInt8} (H : spec_ForkText p0 p1 = some r)  (g0 : (eTimpl_Schema).rd w [] p0 cs0) :
    Calls Tryd.prog 84 #[.agg cs0.toArray, .agg #[.int .i64 p1.Attr_, .int .i64 p1.At_]] w (fun en w' => en = .returned (vS r) ∧ Ext [] w w') := by
  obtain ⟨c10, c11, rfl, g12, g13⟩ := rdo_Timpl_Schema g0
  obtain ⟨a14, c15, rfl⟩ := rd_sl1 g12
  obtain ⟨a16, c17, rfl⟩ := rd_sl1 g13
  unfold spec_ForkText at H
  refine f_enter (vs := [.agg #[.slice a14 p0.Attrs_.length c15, .slice a16 p0.Classes_.length c17], .agg #[.int .i64 p1.Attr_, .int .i64 p1.At_]]) Tryd.func84 rfl Tryd.ntmps84 rfl (St.init w []) ?_
  refine c_seq ?_
  refine c_reg ?_
  refine ow_box (cs := [.slice a14 p0.Attrs_.length c15, .slice a16 p0.Classes_.length c17]) rfl rfl rfl rfl rfl rfl (fun _ => kp) (fun b18 => ?_)
  refine ow_box (cs := [.int .i64 p1.Attr_, .int .i64 p1.At_]) rfl rfl rfl rfl rfl rfl (fun _ => kp) (fun b19 => ?_)
  refine ow_batch [.p] rfl ?_
  refine ow_nil ?_
  refine x_qs ?_
  refine c_seq ?_
  refine c_seq ?_
  refine c_reg ?_
  refine ow_r rfl (dstOk_lt rfl) (ry_box (off := 0) (ds := [.slice a14 p0.Attrs_.length c15, .slice a16 p0.Classes_.length c17]) rfl rfl ty58 (boxIn (i := 0) rfl) rfl rfl) ?_
  refine ow_r rfl (dstOk_lt rfl) (ry_box (off := 0) (ds := [.int .i64 p1.Attr_, .int .i64 p1.At_]) rfl rfl ty73 (boxIn (i := 1) rfl) rfl rfl) ?_
  obtain ⟨y20, h21, H⟩ := of_bind H
  refine ow_q rfl rfl (dstOk_lt rfl) (qy_call rfl fn83 rfl (fun w1 hw1 => spec_ForkOk_ok w1 (p1 := p1) (cs0 := [.slice a14 p0.Attrs_.length c15, .slice a16 p0.Classes_.length c17]) h21 (rdm_Timpl_Schema (x := p0) (c0 := [.slice a14 p0.Attrs_.length c15]) (c1 := [.slice a16 p0.Classes_.length c17]) (rds_bor g12 w1 hw1) (rds_bor g13 w1 hw1)))) (fun _ _ => trivial) ?_
  refine ow_batch [.p] rfl ?_
  refine ow_nil ?_
  refine x_qs ?_
  refine c_if rfl (fun hb => ?_) (fun hb => ?_)
  · have H := of_if_t hb H
    refine c_seq ?_
    refine c_reg ?_
    refine ow_batch [.p] rfl ?_
    refine ow_nil ?_
    refine x_qs ?_
    refine c_ret ?_
    refine x_qs_ret ?_
    exact x_retR (rs := [.tmp 4]) (vs := [vS ([] : List UInt8)]) rfl ⟨rfl, trivial⟩ (fun w' hw' => by
        obtain rfl := of_some H
        exact ⟨rfl, hw'.ext⟩)
  · have H := of_if_f hb H
    refine c_skip ?_
    refine x_qs ?_
    refine c_seq ?_
    refine c_reg ?_
    refine ow_batch [.fa 58 0 0 fa58_0] rfl ?_
    refine ow_r rfl (dstOk_lt rfl) (ry_box1 (off := 0) rfl rfl ty56 (boxIn (i := 0) rfl) rfl) ?_
    refine ow_batch [.fa 73 0 0 fa73_0] rfl ?_
    refine ow_r rfl (dstOk_lt rfl) (ry_box1 (off := 0) rfl rfl ty3 (boxIn (i := 1) rfl) rfl) ?_
    obtain ⟨e22, h23, H⟩ := of_bind H
    refine ow_ixB rfl rfl rfl rfl rfl sl56 ty105 rfl g12 h23 (fun q26 c27 hd24 hA25 => ?_)
    obtain ⟨c28, c29, c30, rfl, g31, g32, g33⟩ := rdo_Timpl_Attr hd24
    obtain rfl : c28 = [vS e22.Name_] := g31
    obtain ⟨a34, c35, rfl⟩ := rd_sl1 g32
    obtain ⟨a36, c37, rfl⟩ := rd_sl1 g33
    refine ow_r rfl (dstOk_lt rfl) (ry_load (cs := [vS e22.Name_, .slice a34 e22.Cuts_.length c35, .slice a36 e22.Values_.length c37]) rfl rfl ty105 (at_bor bor hA25) rfl) ?_
    refine ow_alloc rfl rfl rfl rfl ty105 (fun _ => kp) (fun b38 => ?_)
    refine ow_storeC (off := 0) [vS e22.Name_, .slice a34 e22.Cuts_.length c35, .slice a36 e22.Values_.length c37] [_, _, _] (i := 2) rfl rfl rfl rfl rfl rfl ty105 rfl rfl (by intro u hu; simp only [List.mem_cons, List.not_mem_nil, or_false] at hu; rcases hu with rfl | rfl | rfl <;> rfl) rfl rfl rfl kp ?_
    refine ow_nil ?_
    refine x_qs ?_
    refine c_seq ?_
    refine c_seq ?_
    refine c_reg ?_
    refine ow_batch [.fa 73 1 1 fa73_1] rfl ?_
    refine ow_r rfl (dstOk_lt rfl) (ry_box1 (off := 1) rfl rfl ty3 (boxIn (i := 1) rfl) rfl) ?_
    refine ow_batch [.p] rfl ?_
    refine ow_nil ?_
    refine x_qs ?_
    refine c_if rfl (fun hb => ?_) (fun hb => ?_)
    · have H := of_if_t hb H
      refine c_seq ?_
      refine c_reg ?_
      refine ow_batch [.fa 105 0 0 fa105_0] rfl ?_
      refine ow_r rfl (dstOk_lt rfl) (ry_box1 (off := 0) rfl rfl ty9 (boxIn (i := 2) rfl) rfl) ?_
      obtain ⟨s39, h40, H⟩ := of_bind H
      refine ow_r rfl (dstOk_lt rfl) (ry_sadd rfl rfl rfl h40) ?_
      refine ow_batch [.p] rfl ?_
      refine ow_nil ?_
      refine x_qs ?_
      refine c_ret ?_
      refine x_qs_ret ?_
      exact x_retR (rs := [.tmp 4]) (vs := [vS s39]) rfl ⟨rfl, trivial⟩ (fun w' hw' => by
          obtain rfl := of_some H
          exact ⟨rfl, hw'.ext⟩)
    · have H := of_if_f hb H
      refine c_skip ?_
      refine x_qs ?_
      refine c_seq ?_
      refine c_seq ?_
      refine c_reg ?_
      refine ow_batch [.fa 105 1 1 fa105_1] rfl ?_
      refine ow_r rfl (dstOk_lt rfl) (ry_box1 (off := 1) rfl rfl ty22 (boxIn (i := 2) rfl) rfl) ?_
      refine ow_batch [.lenS 22 3 sl22, .p] rfl ?_
      refine ow_nil ?_
      refine x_qs ?_
      refine c_if rfl (fun hb => ?_) (fun hb => ?_)
      · have H := of_if_t hb H
        refine c_seq ?_
        refine c_regQ mixed (by kernel_rfl) ?_
        refine ow_batch [.fa 105 0 0 fa105_0] rfl ?_
        refine ow_r rfl (dstOk_lt rfl) (ry_box1 (off := 0) rfl rfl ty9 (boxIn (i := 2) rfl) rfl) ?_
        obtain ⟨s41, h42, H⟩ := of_bind H
        refine ow_r rfl (dstOk_lt rfl) (ry_sadd rfl rfl rfl h42) ?_
        refine ow_batch [.fa 105 1 1 fa105_1] rfl ?_
        refine ow_r rfl (dstOk_lt rfl) (ry_box1 (off := 1) rfl rfl ty22 (boxIn (i := 2) rfl) rfl) ?_
        refine ow_batch [.fa 73 1 1 fa73_1] rfl ?_
        refine ow_r rfl (dstOk_lt rfl) (ry_box1 (off := 1) rfl rfl ty3 (boxIn (i := 1) rfl) rfl) ?_
        obtain ⟨e43, h44, H⟩ := of_bind H
        refine ow_ixE (e := eVal (Value.int .i64) (fun _ => rfl)) (xs := e22.Cuts_) (j := p1.At_) rfl rfl rfl rfl rfl sl22 ty3 rfl (fun w1 hw1 => rds_bor g32 w1 hw1) h44 (by rw [Nat.mul_one]) ?_
        refine ow_r rfl (dstOk_lt rfl) (ry_load1 rfl rfl ty3 (at_elV (fun w1 hw1 => rds_bor g32 w1 hw1) h44)) ?_
        obtain ⟨y45, h46, H⟩ := of_bind H
        refine ow_q rfl rfl (dstOk_lt rfl) (qy_call rfl fn35 rfl (fun w1 hw1 => spec_Digits_ok w1  h46)) (fun _ _ => trivial) ?_
        obtain ⟨s47, h48, H⟩ := of_bind H
        refine ow_r rfl (dstOk_lt rfl) (ry_sadd rfl rfl rfl h48) ?_
        refine ow_batch [.p] rfl ?_
        refine ow_nilQ ?_
        refine x_qs ?_
        refine c_ret ?_
        refine x_qs_ret ?_
        exact x_retR (rs := [.tmp 4]) (vs := [vS s47]) rfl ⟨rfl, trivial⟩ (fun w' hw' => by
            obtain rfl := of_some H
            exact ⟨rfl, hw'.ext⟩)
      · have H := of_if_f hb H
        refine c_skip ?_
        refine x_qs ?_
        refine c_seq ?_
        refine c_regQ mixed (by kernel_rfl) ?_
        refine ow_batch [.fa 105 0 0 fa105_0] rfl ?_
        refine ow_r rfl (dstOk_lt rfl) (ry_box1 (off := 0) rfl rfl ty9 (boxIn (i := 2) rfl) rfl) ?_
        obtain ⟨s49, h50, H⟩ := of_bind H
        refine ow_r rfl (dstOk_lt rfl) (ry_sadd rfl rfl rfl h50) ?_
        refine ow_batch [.fa 105 2 2 fa105_2] rfl ?_
        refine ow_r rfl (dstOk_lt rfl) (ry_box1 (off := 2) rfl rfl ty48 (boxIn (i := 2) rfl) rfl) ?_
        refine ow_batch [.fa 73 1 1 fa73_1] rfl ?_
        refine ow_r rfl (dstOk_lt rfl) (ry_box1 (off := 1) rfl rfl ty3 (boxIn (i := 1) rfl) rfl) ?_
        obtain ⟨e51, h52, H⟩ := of_bind H
        refine ow_ixE (e := eStr) (xs := e22.Values_) (j := p1.At_) rfl rfl rfl rfl rfl sl48 ty9 rfl (fun w1 hw1 => rds_bor g33 w1 hw1) h52 (by rw [Nat.mul_one]) ?_
        refine ow_r rfl (dstOk_lt rfl) (ry_load1 rfl rfl ty9 (at_elV (fun w1 hw1 => rds_bor g33 w1 hw1) h52)) ?_
        obtain ⟨s53, h54, H⟩ := of_bind H
        refine ow_r rfl (dstOk_lt rfl) (ry_sadd rfl rfl rfl h54) ?_
        refine ow_batch [.p] rfl ?_
        refine ow_nilQ ?_
        refine x_qs ?_
        refine c_ret ?_
        exact x_retR (rs := [.tmp 4]) (vs := [vS s53]) rfl ⟨rfl, trivial⟩ (fun w' hw' => by
            obtain rfl := of_some H
            exact ⟨rfl, hw'.ext⟩)

set_option maxHeartbeats 4000000 in
set_option maxRecDepth 100000 in
theorem spec_NodeText_ok (w : World) {p0 : Timpl_Schema} {p1 : Timpl_Node} {cs0 : List Value} {cs1 : List Value} {r : List UInt8} (H : spec_NodeText p0 p1 = some r)  (g0 : (eTimpl_Schema).rd w [] p0 cs0) (g1 : (eTimpl_Node).rd w [] p1 cs1) :
    Calls Tryd.prog 31 #[.agg cs0.toArray, .agg cs1.toArray] w (fun en w' => en = .returned (vS r) ∧ Ext [] w w') := by
  obtain ⟨c10, c11, rfl, g12, g13⟩ := rdo_Timpl_Schema g0
  obtain ⟨a14, c15, rfl⟩ := rd_sl1 g12
  obtain ⟨a16, c17, rfl⟩ := rd_sl1 g13
  obtain ⟨c18, c19, c20, c21, c22, c23, c24, c25, c26, c27, rfl, g28, g29, g30, g31, g32, g33, g34, g35, g36, g37⟩ := rdo_Timpl_Node g1
  obtain rfl : c18 = [.bool p1.Leaf_] := g28
  obtain rfl : c19 = [.int .i64 p1.Fork_.Attr_, .int .i64 p1.Fork_.At_] := g29
  obtain ⟨a38, c39, rfl⟩ := rd_sl1 g30
  obtain rfl : c21 = [.int .i64 p1.Miss_] := g31
  obtain ⟨c40, c41, rfl, g42, g43⟩ := rdo_Timpl_Stats g32
  obtain ⟨a44, c45, rfl⟩ := rd_sl1 g42
  obtain ⟨a46, c47, rfl⟩ := rd_sl1 g43
  obtain rfl : c23 = [.int .i64 p1.Since_] := g33
  obtain ⟨a48, c49, rfl⟩ := rd_sl1 g34
  obtain rfl : c25 = [.int .i64 p1.Depth_] := g35
  obtain rfl : c26 = [.int .i64 p1.Up_] := g36
  obtain rfl : c27 = [.int .i64 p1.Born_] := g37
  unfold spec_NodeText at H
  refine f_enter (vs := [.agg #[.slice a14 p0.Attrs_.length c15, .slice a16 p0.Classes_.length c17], .agg #[.bool p1.Leaf_, .int .i64 p1.Fork_.Attr_, .int .i64 p1.Fork_.At_, .slice a38 p1.Kids_.length c39, .int .i64 p1.Miss_, .slice a44 p1.Stats_.Totals_.length c45, .slice a46 p1.Stats_.Cells_.length c47, .int .i64 p1.Since_, .slice a48 p1.Attrs_.length c49, .int .i64 p1.Depth_, .int .i64 p1.Up_, .int .i64 p1.Born_]]) Tryd.func31 rfl Tryd.ntmps31 rfl (St.init w []) ?_
  refine c_seq ?_
  refine c_reg ?_
  refine ow_box (cs := [.slice a14 p0.Attrs_.length c15, .slice a16 p0.Classes_.length c17]) rfl rfl rfl rfl rfl rfl (fun _ => kp) (fun b50 => ?_)
  refine ow_box (cs := [.bool p1.Leaf_, .int .i64 p1.Fork_.Attr_, .int .i64 p1.Fork_.At_, .slice a38 p1.Kids_.length c39, .int .i64 p1.Miss_, .slice a44 p1.Stats_.Totals_.length c45, .slice a46 p1.Stats_.Cells_.length c47, .int .i64 p1.Since_, .slice a48 p1.Attrs_.length c49, .int .i64 p1.Depth_, .int .i64 p1.Up_, .int .i64 p1.Born_]) rfl rfl rfl rfl rfl rfl (fun _ => kp) (fun b51 => ?_)
  refine ow_batch [.p] rfl ?_
  refine ow_nil ?_
  refine x_qs ?_
  refine c_seq ?_
  refine c_seq ?_
  refine c_reg ?_
  refine ow_batch [.fa 76 0 0 fa76_0] rfl ?_
  refine ow_r rfl (dstOk_lt rfl) (ry_box1 (off := 0) rfl rfl ty4 (boxIn (i := 1) rfl) rfl) ?_
  refine ow_nil ?_
  refine x_qs ?_
  refine c_if rfl (fun hb => ?_) (fun hb => ?_)
  · have H := of_if_t hb H
    refine c_seq ?_
    refine c_seq ?_
    refine c_reg ?_
    refine ow_r rfl (dstOk_lt rfl) (ry_box (off := 0) (ds := [.slice a14 p0.Attrs_.length c15, .slice a16 p0.Classes_.length c17]) rfl rfl ty58 (boxIn (i := 0) rfl) rfl rfl) ?_
    refine ow_batch [.fa 76 4 5 fa76_4] rfl ?_
    refine ow_r rfl (dstOk_lt rfl) (ry_box (off := 5) (ds := [.slice a44 p1.Stats_.Totals_.length c45, .slice a46 p1.Stats_.Cells_.length c47]) rfl rfl ty74 (boxIn (i := 1) rfl) rfl rfl) ?_
    obtain ⟨y52, h53, H⟩ := of_bind H
    refine ow_q rfl rfl (dstOk_lt rfl) (qy_call rfl fn81 rfl (fun w1 hw1 => spec_StatsOk_ok w1 (cs0 := [.slice a14 p0.Attrs_.length c15, .slice a16 p0.Classes_.length c17]) (cs1 := [.slice a44 p1.Stats_.Totals_.length c45, .slice a46 p1.Stats_.Cells_.length c47]) h53 (rdm_Timpl_Schema (x := p0) (c0 := [.slice a14 p0.Attrs_.length c15]) (c1 := [.slice a16 p0.Classes_.length c17]) (rds_bor g12 w1 hw1) (rds_bor g13 w1 hw1)) (rdm_Timpl_Stats (x := p1.Stats_) (c0 := [.slice a44 p1.Stats_.Totals_.length c45]) (c1 := [.slice a46 p1.Stats_.Cells_.length c47]) (rds_bor g42 w1 hw1) (rds_bor g43 w1 hw1)))) (fun _ _ => trivial) ?_
    refine ow_batch [.p] rfl ?_
    refine ow_nil ?_
    refine x_qs ?_
    refine c_if rfl (fun hb => ?_) (fun hb => ?_)
    · have H := of_if_t hb H
      refine c_seq ?_
      refine c_reg ?_
      refine ow_batch [.p] rfl ?_
      refine ow_nil ?_
      refine x_qs ?_
      refine c_ret ?_
      refine x_qs_ret ?_
      refine x_qs_ret ?_
      exact x_retR (rs := [.tmp 4]) (vs := [vS ([] : List UInt8)]) rfl ⟨rfl, trivial⟩ (fun w' hw' => by
          obtain rfl := of_some H
          exact ⟨rfl, hw'.ext⟩)
    · have H := of_if_f hb H
      refine c_skip ?_
      refine x_qs ?_
      refine c_seq ?_
      refine c_reg ?_
      refine ow_batch [.p] rfl ?_
      refine ow_nil ?_
      refine x_qs ?_
      refine c_join1 (fun (s54 : List UInt8) => St w [] [Res.box b50 58 [.slice a14 p0.Attrs_.length c15, .slice a16 p0.Classes_.length c17], Res.box b51 76 [.bool p1.Leaf_, .int .i64 p1.Fork_.Attr_, .int .i64 p1.Fork_.At_, .slice a38 p1.Kids_.length c39, .int .i64 p1.Miss_, .slice a44 p1.Stats_.Totals_.length c45, .slice a46 p1.Stats_.Cells_.length c47, .int .i64 p1.Since_, .slice a48 p1.Attrs_.length c49, .int .i64 p1.Depth_, .int .i64 p1.Up_, .int .i64 p1.Born_]]) (fun (s54 : List UInt8) => [(2, .pointer (some ⟨b50, 0, none⟩)), (3, .pointer (some ⟨b51, 0, none⟩)), (5, vS s54)]) (fun (s54 : List UInt8) => spec_NodeText_J1 p1 p0 s54 = some r) (fun s54 H => ?_) (fun J1 => ?_)
      · unfold spec_NodeText_J1 at H
        refine c_seq ?_
        refine c_regQ mixed (by kernel_rfl) ?_
        refine ow_batch [.p] rfl ?_
        obtain ⟨s55, h56, H⟩ := of_bind H
        refine ow_r rfl (dstOk_lt rfl) (ry_sadd rfl rfl rfl h56) ?_
        refine ow_batch [.fa 76 4 5 fa76_4, .fa 74 0 0 fa74_0] rfl ?_
        refine ow_r rfl (dstOk_lt rfl) (ry_box1 (off := 5) rfl rfl ty22 (boxIn (i := 1) rfl) rfl) ?_
        obtain ⟨y57, h58, H⟩ := of_bind H
        refine ow_q rfl rfl (dstOk_lt rfl) (qy_call rfl fn8 rfl (fun w1 hw1 => spec_TotalsText_ok w1  h58 (rds_bor g42 w1 hw1))) (fun _ _ => trivial) ?_
        obtain ⟨s59, h60, H⟩ := of_bind H
        refine ow_r rfl (dstOk_lt rfl) (ry_sadd rfl rfl rfl h60) ?_
        obtain ⟨s61, h62, H⟩ := of_bind H
        refine ow_r rfl (dstOk_lt rfl) (ry_sadd rfl rfl rfl h62) ?_
        refine ow_batch [.fa 58 1 1 fa58_1] rfl ?_
        refine ow_r rfl (dstOk_lt rfl) (ry_box1 (off := 1) rfl rfl ty48 (boxIn (i := 0) rfl) rfl) ?_
        refine ow_batch [.fa 76 4 5 fa76_4, .fa 74 0 0 fa74_0] rfl ?_
        refine ow_r rfl (dstOk_lt rfl) (ry_box1 (off := 5) rfl rfl ty22 (boxIn (i := 1) rfl) rfl) ?_
        obtain ⟨y63, h64, H⟩ := of_bind H
        refine ow_q rfl rfl (dstOk_lt rfl) (qy_call rfl fn82 rfl (fun w1 hw1 => spec_TopOf_ok w1  h64 (rds_bor g42 w1 hw1))) (fun _ _ => trivial) ?_
        obtain ⟨e65, h66, H⟩ := of_bind H
        refine ow_ixE (e := eStr) (xs := p0.Classes_) (j := y63) rfl rfl rfl rfl rfl sl48 ty9 rfl (fun w1 hw1 => rds_bor g13 w1 hw1) h66 (by rw [Nat.mul_one]) ?_
        refine ow_r rfl (dstOk_lt rfl) (ry_load1 rfl rfl ty9 (at_elV (fun w1 hw1 => rds_bor g13 w1 hw1) h66)) ?_
        obtain ⟨s67, h68, H⟩ := of_bind H
        refine ow_r rfl (dstOk_lt rfl) (ry_sadd rfl rfl rfl h68) ?_
        obtain ⟨s69, h70, H⟩ := of_bind H
        refine ow_r rfl (dstOk_lt rfl) (ry_sadd rfl rfl rfl h70) ?_
        refine ow_batch [.fa 76 5 7 fa76_5] rfl ?_
        refine ow_r rfl (dstOk_lt rfl) (ry_box1 (off := 7) rfl rfl ty3 (boxIn (i := 1) rfl) rfl) ?_
        obtain ⟨y71, h72, H⟩ := of_bind H
        refine ow_q rfl rfl (dstOk_lt rfl) (qy_call rfl fn35 rfl (fun w1 hw1 => spec_Digits_ok w1  h72)) (fun _ _ => trivial) ?_
        obtain ⟨s73, h74, H⟩ := of_bind H
        refine ow_r rfl (dstOk_lt rfl) (ry_sadd rfl rfl rfl h74) ?_
        refine ow_batch [.p] rfl ?_
        refine ow_nilQ ?_
        refine x_qs ?_
        refine c_ret ?_
        refine x_qs_ret ?_
        exact x_retR (rs := [.tmp 4]) (vs := [vS s73]) rfl ⟨rfl, trivial⟩ (fun w' hw' => by
            obtain rfl := of_some H
            exact ⟨rfl, hw'.ext⟩)
      · refine c_seq ?_
        refine c_reg ?_
        refine ow_batch [.fa 76 4 5 fa76_4, .fa 74 1 1 fa74_1] rfl ?_
        refine ow_r rfl (dstOk_lt rfl) (ry_box1 (off := 6) rfl rfl ty27 (boxIn (i := 1) rfl) rfl) ?_
        refine ow_batch [.lenS 27 22 sl27, .p] rfl ?_
        refine ow_nil ?_
        refine x_qs ?_
        refine c_if rfl (fun hb => ?_) (fun hb => ?_)
        · have H := of_if_t hb H
          refine c_reg ?_
          refine ow_batch [.p] rfl ?_
          refine ow_nil ?_
          exact XW.at (J1 (([116, 104, 105, 110] : List UInt8)) (H)) (fun _ h => St.sel [0, 1] rfl rfl h) ⟨rfl, rfl, rfl, trivial⟩
        · have H := of_if_f hb H
          refine c_skip ?_
          exact XW.at (J1 (([108, 101, 97, 102] : List UInt8)) (H)) (fun _ h => St.sel [0, 1] rfl rfl h) ⟨rfl, rfl, rfl, trivial⟩
  · have H := of_if_f hb H
    refine c_skip ?_
    refine x_qs ?_
    refine c_seq ?_
    refine c_seq ?_
    refine c_reg ?_
    refine ow_r rfl (dstOk_lt rfl) (ry_box (off := 0) (ds := [.slice a14 p0.Attrs_.length c15, .slice a16 p0.Classes_.length c17]) rfl rfl ty58 (boxIn (i := 0) rfl) rfl rfl) ?_
    refine ow_batch [.fa 76 1 1 fa76_1] rfl ?_
    refine ow_r rfl (dstOk_lt rfl) (ry_box (off := 1) (ds := [.int .i64 p1.Fork_.Attr_, .int .i64 p1.Fork_.At_]) rfl rfl ty73 (boxIn (i := 1) rfl) rfl rfl) ?_
    obtain ⟨y75, h76, H⟩ := of_bind H
    refine ow_q rfl rfl (dstOk_lt rfl) (qy_call rfl fn83 rfl (fun w1 hw1 => spec_ForkOk_ok w1 (p1 := p1.Fork_) (cs0 := [.slice a14 p0.Attrs_.length c15, .slice a16 p0.Classes_.length c17]) h76 (rdm_Timpl_Schema (x := p0) (c0 := [.slice a14 p0.Attrs_.length c15]) (c1 := [.slice a16 p0.Classes_.length c17]) (rds_bor g12 w1 hw1) (rds_bor g13 w1 hw1)))) (fun _ _ => trivial) ?_
    refine ow_batch [.p] rfl ?_
    refine ow_nil ?_
    refine x_qs ?_
    refine c_if rfl (fun hb => ?_) (fun hb => ?_)
    · have H := of_if_t hb H
      refine c_seq ?_
      refine c_reg ?_
      refine ow_batch [.p] rfl ?_
      refine ow_nil ?_
      refine x_qs ?_
      refine c_ret ?_
      refine x_qs_ret ?_
      exact x_retR (rs := [.tmp 4]) (vs := [vS ([] : List UInt8)]) rfl ⟨rfl, trivial⟩ (fun w' hw' => by
          obtain rfl := of_some H
          exact ⟨rfl, hw'.ext⟩)
    · have H := of_if_f hb H
      refine c_skip ?_
      refine x_qs ?_
      refine c_seq ?_
      refine c_regQ mixed (by kernel_rfl) ?_
      refine ow_r rfl (dstOk_lt rfl) (ry_box (off := 0) (ds := [.slice a14 p0.Attrs_.length c15, .slice a16 p0.Classes_.length c17]) rfl rfl ty58 (boxIn (i := 0) rfl) rfl rfl) ?_
      refine ow_batch [.fa 76 1 1 fa76_1] rfl ?_
      refine ow_r rfl (dstOk_lt rfl) (ry_box (off := 1) (ds := [.int .i64 p1.Fork_.Attr_, .int .i64 p1.Fork_.At_]) rfl rfl ty73 (boxIn (i := 1) rfl) rfl rfl) ?_
      obtain ⟨y77, h78, H⟩ := of_bind H
      refine ow_q rfl rfl (dstOk_lt rfl) (qy_call rfl fn84 rfl (fun w1 hw1 => spec_ForkText_ok w1 (p1 := p1.Fork_) (cs0 := [.slice a14 p0.Attrs_.length c15, .slice a16 p0.Classes_.length c17]) h78 (rdm_Timpl_Schema (x := p0) (c0 := [.slice a14 p0.Attrs_.length c15]) (c1 := [.slice a16 p0.Classes_.length c17]) (rds_bor g12 w1 hw1) (rds_bor g13 w1 hw1)))) (fun _ _ => trivial) ?_
      obtain ⟨s79, h80, H⟩ := of_bind H
      refine ow_r rfl (dstOk_lt rfl) (ry_sadd rfl rfl rfl h80) ?_
      refine ow_batch [.fa 76 3 4 fa76_3] rfl ?_
      refine ow_r rfl (dstOk_lt rfl) (ry_box1 (off := 4) rfl rfl ty3 (boxIn (i := 1) rfl) rfl) ?_
      obtain ⟨y81, h82, H⟩ := of_bind H
      refine ow_q rfl rfl (dstOk_lt rfl) (qy_call rfl fn35 rfl (fun w1 hw1 => spec_Digits_ok w1  h82)) (fun _ _ => trivial) ?_
      obtain ⟨s83, h84, H⟩ := of_bind H
      refine ow_r rfl (dstOk_lt rfl) (ry_sadd rfl rfl rfl h84) ?_
      refine ow_batch [.p] rfl ?_
      refine ow_nilQ ?_
      refine x_qs ?_
      refine c_seq ?_
      refine c_seq ?_
      refine c_reg ?_
      refine ow_batch [.p] rfl ?_
      refine ow_nil ?_
      refine x_qs ?_
      refine c_block ?_
      refine CW.at (loopI2 (fun (s95 : List UInt8) (i96 : Int) => St w [] [Res.box b51 76 [.bool p1.Leaf_, .int .i64 p1.Fork_.Attr_, .int .i64 p1.Fork_.At_, .slice a38 p1.Kids_.length c39, .int .i64 p1.Miss_, .slice a44 p1.Stats_.Totals_.length c45, .slice a46 p1.Stats_.Cells_.length c47, .int .i64 p1.Since_, .slice a48 p1.Attrs_.length c49, .int .i64 p1.Depth_, .int .i64 p1.Up_, .int .i64 p1.Born_]]) (fun (s95 : List UInt8) (i96 : Int) => [(3, .pointer (some ⟨b51, 0, none⟩)), (6, vS s95), (7, .int .i64 i96)]) (fun kk => fun (s95 : List UInt8) (i96 : Int) => spec_NodeText_L1 p1 kk s95 i96 = some r) (fun _ _ H => ?_) (fun k1 ihk1 s95 i96 H => ?_) Fuel (s83) (0) (H)) (fun _ h => St.sel [1] rfl rfl h) ⟨rfl, rfl, rfl,  trivial⟩
      · unfold spec_NodeText_L1 at H
        exact absurd H (by simp)
      · unfold spec_NodeText_L1 at H
        refine c_seq ?_
        refine c_seq ?_
        refine c_reg ?_
        refine ow_batch [.p, .fa 76 2 3 fa76_2] rfl ?_
        refine ow_r rfl (dstOk_lt rfl) (ry_box1 (off := 3) rfl rfl ty22 (boxIn (i := 0) rfl) rfl) ?_
        refine ow_batch [.lenS 22 3 sl22, .p] rfl ?_
        refine ow_nil ?_
        refine x_qs ?_
        refine c_if rfl (fun hb => ?_) (fun hb => ?_)
        · have H := of_if_t hb H
          refine c_skip ?_
          refine x_qs ?_
          refine c_seq ?_
          refine c_block ?_
          refine c_reg ?_
          refine ow_batch [.p] rfl ?_
          obtain ⟨s107, h108, H⟩ := of_bind H
          refine ow_r rfl (dstOk_lt rfl) (ry_sadd rfl rfl rfl h108) ?_
          refine ow_batch [.fa 76 2 3 fa76_2] rfl ?_
          refine ow_r rfl (dstOk_lt rfl) (ry_box1 (off := 3) rfl rfl ty22 (boxIn (i := 0) rfl) rfl) ?_
          refine ow_batch [.p] rfl ?_
          obtain ⟨e109, h110, H⟩ := of_bind H
          refine ow_ixE (e := eVal (Value.int .i64) (fun _ => rfl)) (xs := p1.Kids_) (j := i96) rfl rfl rfl rfl rfl sl22 ty3 rfl (fun w1 hw1 => rds_bor g30 w1 hw1) h110 (by rw [Nat.mul_one]) ?_
          refine ow_r rfl (dstOk_lt rfl) (ry_load1 rfl rfl ty3 (at_elV (fun w1 hw1 => rds_bor g30 w1 hw1) h110)) ?_
          obtain ⟨y111, h112, H⟩ := of_bind H
          refine ow_q rfl rfl (dstOk_lt rfl) (qy_call rfl fn35 rfl (fun w1 hw1 => spec_Digits_ok w1  h112)) (fun _ _ => trivial) ?_
          obtain ⟨s113, h114, H⟩ := of_bind H
          refine ow_r rfl (dstOk_lt rfl) (ry_sadd rfl rfl rfl h114) ?_
          refine ow_batch [.p] rfl ?_
          refine ow_nil ?_
          refine x_qb ?_
          refine x_qs ?_
          refine c_reg ?_
          refine ow_batch [.p, .p, .p] rfl ?_
          refine ow_nil ?_
          exact x_ql (RW.at (ihk1 (s113) (IntKind.i64.wrap (i96 + 1)) (H)) (fun _ h => St.sel [0] rfl rfl h) ⟨rfl, rfl, rfl, trivial⟩)
        · have H := of_if_f hb H
          refine c_exit ?_
          refine x_qs_exit ?_
          refine x_ql_exit ?_
          refine x_qb_here ?_
          refine x_qs ?_
          refine c_seq ?_
          refine c_reg ?_
          refine ow_batch [.p, .p] rfl ?_
          refine ow_nil ?_
          refine x_qs ?_
          refine c_ret ?_
          exact x_retR (rs := [.tmp 4]) (vs := [vS s95]) rfl ⟨rfl, trivial⟩ (fun w' hw' => by
              obtain rfl := of_some H
              exact ⟨rfl, hw'.ext⟩)

set_option maxHeartbeats 4000000 in
set_option maxRecDepth 100000 in
theorem impl_within_ok (w : World) {p0 : Int} {p1 : Int} {p2 : Int}  {r : Bool} (H : impl_within p0 p1 p2 = some r)   :
    Calls Tryd.prog 95 #[.int .i64 p0, .int .i64 p1, .int .i64 p2] w (fun en w' => en = .returned (.bool r) ∧ Ext [] w w') := by
  unfold impl_within at H
  refine f_enter (vs := [.int .i64 p0, .int .i64 p1, .int .i64 p2]) Tryd.func95 rfl Tryd.ntmps95 rfl (St.init w []) ?_
  refine c_seq ?_
  refine c_reg ?_
  refine ow_batch [.p] rfl ?_
  refine ow_nil ?_
  refine x_qs ?_
  refine c_seq ?_
  refine c_reg ?_
  refine ow_batch [.p, .p, .p, .p] rfl ?_
  refine ow_cut [(14, .bool ((decide (p0 ≥ p1)) && (decide (p0 ≤ p2)))), (6, .bool false)] 4 ?_ (fun key => OW.sub (R := [(0, .int .i64 p0), (2, .int .i64 p2), (6, .bool false), (10, .bool (decide (p0 ≥ p1)))]) ?_ ⟨rfl, rfl, rfl, rfl, trivial⟩)
  · refine ow_batch [.p] rfl ?_
    refine ow_nil ?_
    refine x_qs ?_
    refine c_ret ?_
    exact x_retR (rs := [.tmp 6]) (vs := [.bool ((decide (p0 ≥ p1)) && (decide (p0 ≤ p2)))]) rfl ⟨rfl, trivial⟩ (fun w' hw' => by
        obtain rfl := of_some H
        exact ⟨rfl, hw'.ext⟩)
  · generalize (decide (p0 ≥ p1)) = t11 at key ⊢
    cases t11
    · refine ow_batch [.p, .p, .p, .p] rfl ?_
      exact OW.sub key ⟨rfl, rfl, trivial⟩
    · refine ow_batch [.p, .p, .p] rfl ?_
      refine ow_batch [.p] rfl ?_
      exact OW.sub key ⟨rfl, rfl, trivial⟩

end Go.Vk
