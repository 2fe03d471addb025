/- The code does what the functions of data say. Printed by program. -/

import Derived.Test.YtgpfgjlmjodcaaaRF

import Derived.Test.YtgpfgjlmjodcaaaChecked

namespace Go.Vk

open Go.Proofs Go.RowKit



def eTlaws_Window : Enc Tlaws_Window := eIso (eList (eList (eVal (Value.int .i64) (fun _ => rfl)) 3) 22) (fun x => x.Rows_)

theorem rdm_Tlaws_Window {w : World} {X : List Nat} {x : Tlaws_Window} {c0 : List Value} (h0 : (eList (eList (eVal (Value.int .i64) (fun _ => rfl)) 3) 22).rd w X x.Rows_ c0) : (eTlaws_Window).rd w X x c0 := by
  show (eList (eList (eVal (Value.int .i64) (fun _ => rfl)) 3) 22).rd w X x.Rows_ _
  exact h0

theorem rdo_Tlaws_Window {w : World} {X : List Nat} {x : Tlaws_Window} {cs : List Value} (h : (eTlaws_Window).rd w X x cs) : ∃ c0, cs = c0 ∧ (eList (eList (eVal (Value.int .i64) (fun _ => rfl)) 3) 22).rd w X x.Rows_ c0 := by
  have h : (eList (eList (eVal (Value.int .i64) (fun _ => rfl)) 3) 22).rd w X x.Rows_ cs := h
  exact ⟨cs, rfl, h⟩

def eTimpl_Window : Enc Timpl_Window := eIso (eList (eList (eVal (Value.int .i64) (fun _ => rfl)) 3) 22) (fun x => x.Rows_)

theorem rdm_Timpl_Window {w : World} {X : List Nat} {x : Timpl_Window} {c0 : List Value} (h0 : (eList (eList (eVal (Value.int .i64) (fun _ => rfl)) 3) 22).rd w X x.Rows_ c0) : (eTimpl_Window).rd w X x c0 := by
  show (eList (eList (eVal (Value.int .i64) (fun _ => rfl)) 3) 22).rd w X x.Rows_ _
  exact h0

theorem rdo_Timpl_Window {w : World} {X : List Nat} {x : Timpl_Window} {cs : List Value} (h : (eTimpl_Window).rd w X x cs) : ∃ c0, cs = c0 ∧ (eList (eList (eVal (Value.int .i64) (fun _ => rfl)) 3) 22).rd w X x.Rows_ c0 := by
  have h : (eList (eList (eVal (Value.int .i64) (fun _ => rfl)) 3) 22).rd w X x.Rows_ cs := h
  exact ⟨cs, rfl, h⟩

def eTimpl_Fork : Enc Timpl_Fork := eFlat (fun x => [.int .i64 x.Attr_, .int .i64 x.At_]) 2 (fun _ => rfl) (by intro x u hu; simp only [List.mem_cons, List.not_mem_nil, or_false] at hu; rcases hu with rfl | rfl <;> rfl)

def eTimpl_Stats : Enc Timpl_Stats := eIso (ePair (eList (eVal (Value.int .i64) (fun _ => rfl)) 3) (eList (eList (eVal (Value.int .i64) (fun _ => rfl)) 3) 22)) (fun x => (x.Totals_, x.Cells_))

theorem rdm_Timpl_Stats {w : World} {X : List Nat} {x : Timpl_Stats} {c0 c1 : List Value} (h0 : (eList (eVal (Value.int .i64) (fun _ => rfl)) 3).rd w X x.Totals_ c0) (h1 : (eList (eList (eVal (Value.int .i64) (fun _ => rfl)) 3) 22).rd w X x.Cells_ c1) : (eTimpl_Stats).rd w X x (c0 ++ c1) := by
  show (ePair (eList (eVal (Value.int .i64) (fun _ => rfl)) 3) (eList (eList (eVal (Value.int .i64) (fun _ => rfl)) 3) 22)).rd w X (x.Totals_, x.Cells_) _
  exact (ePair_rd h0 h1)

theorem rdo_Timpl_Stats {w : World} {X : List Nat} {x : Timpl_Stats} {cs : List Value} (h : (eTimpl_Stats).rd w X x cs) : ∃ c0 c1, cs = (c0 ++ c1) ∧ (eList (eVal (Value.int .i64) (fun _ => rfl)) 3).rd w X x.Totals_ c0 ∧ (eList (eList (eVal (Value.int .i64) (fun _ => rfl)) 3) 22).rd w X x.Cells_ c1 := by
  have h : (ePair (eList (eVal (Value.int .i64) (fun _ => rfl)) 3) (eList (eList (eVal (Value.int .i64) (fun _ => rfl)) 3) 22)).rd w X (x.Totals_, x.Cells_) cs := h
  obtain ⟨c0, c1, rfl, h0, h1⟩ := h
  exact ⟨c0, c1, rfl, h0, h1⟩

theorem ownm_Timpl_Stats {w : World} {F0 F1 : List Nat} {x : Timpl_Stats} {c0 c1 : List Value} (h0 : (eList (eVal (Value.int .i64) (fun _ => rfl)) 3).own w F0 x.Totals_ c0) (h1 : (eList (eList (eVal (Value.int .i64) (fun _ => rfl)) 3) 22).own w F1 x.Cells_ c1) : (eTimpl_Stats).own w (F0 ++ F1) x (c0 ++ c1) := by
  show (ePair (eList (eVal (Value.int .i64) (fun _ => rfl)) 3) (eList (eList (eVal (Value.int .i64) (fun _ => rfl)) 3) 22)).own w _ (x.Totals_, x.Cells_) _
  exact (ePair_own h0 h1)

theorem owno_Timpl_Stats {w : World} {F : List Nat} {x : Timpl_Stats} {cs : List Value} (h : (eTimpl_Stats).own w F x cs) : ∃ F0 F1 c0 c1, F = (F0 ++ F1) ∧ cs = (c0 ++ c1) ∧ (eList (eVal (Value.int .i64) (fun _ => rfl)) 3).own w F0 x.Totals_ c0 ∧ (eList (eList (eVal (Value.int .i64) (fun _ => rfl)) 3) 22).own w F1 x.Cells_ c1 := by
  have h : (ePair (eList (eVal (Value.int .i64) (fun _ => rfl)) 3) (eList (eList (eVal (Value.int .i64) (fun _ => rfl)) 3) 22)).own w F (x.Totals_, x.Cells_) cs := h
  obtain ⟨F0, F1, c0, c1, rfl, rfl, h0, h1⟩ := h
  exact ⟨F0, F1, c0, c1, rfl, rfl, h0, h1⟩

def eTimpl_Node : Enc Timpl_Node := eIso (ePair (eBool) (ePair (eTimpl_Fork) (ePair (eList (eVal (Value.int .i64) (fun _ => rfl)) 3) (ePair (eVal (Value.int .i64) (fun _ => rfl)) (ePair (eTimpl_Stats) (ePair (eVal (Value.int .i64) (fun _ => rfl)) (ePair (eList (eVal (Value.int .i64) (fun _ => rfl)) 3) (ePair (eVal (Value.int .i64) (fun _ => rfl)) (ePair (eVal (Value.int .i64) (fun _ => rfl)) (eVal (Value.int .i64) (fun _ => rfl))))))))))) (fun x => (x.Leaf_, x.Fork_, x.Kids_, x.Miss_, x.Stats_, x.Since_, x.Attrs_, x.Depth_, x.Up_, x.Born_))

theorem rdm_Timpl_Node {w : World} {X : List Nat} {x : Timpl_Node} {c0 c1 c2 c3 c4 c5 c6 c7 c8 c9 : List Value} (h0 : (eBool).rd w X x.Leaf_ c0) (h1 : (eTimpl_Fork).rd w X x.Fork_ c1) (h2 : (eList (eVal (Value.int .i64) (fun _ => rfl)) 3).rd w X x.Kids_ c2) (h3 : (eVal (Value.int .i64) (fun _ => rfl)).rd w X x.Miss_ c3) (h4 : (eTimpl_Stats).rd w X x.Stats_ c4) (h5 : (eVal (Value.int .i64) (fun _ => rfl)).rd w X x.Since_ c5) (h6 : (eList (eVal (Value.int .i64) (fun _ => rfl)) 3).rd w X x.Attrs_ c6) (h7 : (eVal (Value.int .i64) (fun _ => rfl)).rd w X x.Depth_ c7) (h8 : (eVal (Value.int .i64) (fun _ => rfl)).rd w X x.Up_ c8) (h9 : (eVal (Value.int .i64) (fun _ => rfl)).rd w X x.Born_ c9) : (eTimpl_Node).rd w X x (c0 ++ (c1 ++ (c2 ++ (c3 ++ (c4 ++ (c5 ++ (c6 ++ (c7 ++ (c8 ++ c9))))))))) := by
  show (ePair (eBool) (ePair (eTimpl_Fork) (ePair (eList (eVal (Value.int .i64) (fun _ => rfl)) 3) (ePair (eVal (Value.int .i64) (fun _ => rfl)) (ePair (eTimpl_Stats) (ePair (eVal (Value.int .i64) (fun _ => rfl)) (ePair (eList (eVal (Value.int .i64) (fun _ => rfl)) 3) (ePair (eVal (Value.int .i64) (fun _ => rfl)) (ePair (eVal (Value.int .i64) (fun _ => rfl)) (eVal (Value.int .i64) (fun _ => rfl))))))))))).rd w X (x.Leaf_, x.Fork_, x.Kids_, x.Miss_, x.Stats_, x.Since_, x.Attrs_, x.Depth_, x.Up_, x.Born_) _
  exact (ePair_rd h0 (ePair_rd h1 (ePair_rd h2 (ePair_rd h3 (ePair_rd h4 (ePair_rd h5 (ePair_rd h6 (ePair_rd h7 (ePair_rd h8 h9)))))))))

theorem rdo_Timpl_Node {w : World} {X : List Nat} {x : Timpl_Node} {cs : List Value} (h : (eTimpl_Node).rd w X x cs) : ∃ c0 c1 c2 c3 c4 c5 c6 c7 c8 c9, cs = (c0 ++ (c1 ++ (c2 ++ (c3 ++ (c4 ++ (c5 ++ (c6 ++ (c7 ++ (c8 ++ c9))))))))) ∧ (eBool).rd w X x.Leaf_ c0 ∧ (eTimpl_Fork).rd w X x.Fork_ c1 ∧ (eList (eVal (Value.int .i64) (fun _ => rfl)) 3).rd w X x.Kids_ c2 ∧ (eVal (Value.int .i64) (fun _ => rfl)).rd w X x.Miss_ c3 ∧ (eTimpl_Stats).rd w X x.Stats_ c4 ∧ (eVal (Value.int .i64) (fun _ => rfl)).rd w X x.Since_ c5 ∧ (eList (eVal (Value.int .i64) (fun _ => rfl)) 3).rd w X x.Attrs_ c6 ∧ (eVal (Value.int .i64) (fun _ => rfl)).rd w X x.Depth_ c7 ∧ (eVal (Value.int .i64) (fun _ => rfl)).rd w X x.Up_ c8 ∧ (eVal (Value.int .i64) (fun _ => rfl)).rd w X x.Born_ c9 := by
  have h : (ePair (eBool) (ePair (eTimpl_Fork) (ePair (eList (eVal (Value.int .i64) (fun _ => rfl)) 3) (ePair (eVal (Value.int .i64) (fun _ => rfl)) (ePair (eTimpl_Stats) (ePair (eVal (Value.int .i64) (fun _ => rfl)) (ePair (eList (eVal (Value.int .i64) (fun _ => rfl)) 3) (ePair (eVal (Value.int .i64) (fun _ => rfl)) (ePair (eVal (Value.int .i64) (fun _ => rfl)) (eVal (Value.int .i64) (fun _ => rfl))))))))))).rd w X (x.Leaf_, x.Fork_, x.Kids_, x.Miss_, x.Stats_, x.Since_, x.Attrs_, x.Depth_, x.Up_, x.Born_) cs := h
  obtain ⟨c0, d0, rfl, h0, r0⟩ := h
  obtain ⟨c1, d1, rfl, h1, r1⟩ := r0
  obtain ⟨c2, d2, rfl, h2, r2⟩ := r1
  obtain ⟨c3, d3, rfl, h3, r3⟩ := r2
  obtain ⟨c4, d4, rfl, h4, r4⟩ := r3
  obtain ⟨c5, d5, rfl, h5, r5⟩ := r4
  obtain ⟨c6, d6, rfl, h6, r6⟩ := r5
  obtain ⟨c7, d7, rfl, h7, r7⟩ := r6
  obtain ⟨c8, c9, rfl, h8, h9⟩ := r7
  exact ⟨c0, c1, c2, c3, c4, c5, c6, c7, c8, c9, rfl, h0, h1, h2, h3, h4, h5, h6, h7, h8, h9⟩

theorem ownm_Timpl_Node {w : World} {F0 F1 F2 F3 F4 F5 F6 F7 F8 F9 : List Nat} {x : Timpl_Node} {c0 c1 c2 c3 c4 c5 c6 c7 c8 c9 : List Value} (h0 : (eBool).own w F0 x.Leaf_ c0) (h1 : (eTimpl_Fork).own w F1 x.Fork_ c1) (h2 : (eList (eVal (Value.int .i64) (fun _ => rfl)) 3).own w F2 x.Kids_ c2) (h3 : (eVal (Value.int .i64) (fun _ => rfl)).own w F3 x.Miss_ c3) (h4 : (eTimpl_Stats).own w F4 x.Stats_ c4) (h5 : (eVal (Value.int .i64) (fun _ => rfl)).own w F5 x.Since_ c5) (h6 : (eList (eVal (Value.int .i64) (fun _ => rfl)) 3).own w F6 x.Attrs_ c6) (h7 : (eVal (Value.int .i64) (fun _ => rfl)).own w F7 x.Depth_ c7) (h8 : (eVal (Value.int .i64) (fun _ => rfl)).own w F8 x.Up_ c8) (h9 : (eVal (Value.int .i64) (fun _ => rfl)).own w F9 x.Born_ c9) : (eTimpl_Node).own w (F0 ++ (F1 ++ (F2 ++ (F3 ++ (F4 ++ (F5 ++ (F6 ++ (F7 ++ (F8 ++ F9))))))))) x (c0 ++ (c1 ++ (c2 ++ (c3 ++ (c4 ++ (c5 ++ (c6 ++ (c7 ++ (c8 ++ c9))))))))) := by
  show (ePair (eBool) (ePair (eTimpl_Fork) (ePair (eList (eVal (Value.int .i64) (fun _ => rfl)) 3) (ePair (eVal (Value.int .i64) (fun _ => rfl)) (ePair (eTimpl_Stats) (ePair (eVal (Value.int .i64) (fun _ => rfl)) (ePair (eList (eVal (Value.int .i64) (fun _ => rfl)) 3) (ePair (eVal (Value.int .i64) (fun _ => rfl)) (ePair (eVal (Value.int .i64) (fun _ => rfl)) (eVal (Value.int .i64) (fun _ => rfl))))))))))).own w _ (x.Leaf_, x.Fork_, x.Kids_, x.Miss_, x.Stats_, x.Since_, x.Attrs_, x.Depth_, x.Up_, x.Born_) _
  exact (ePair_own h0 (ePair_own h1 (ePair_own h2 (ePair_own h3 (ePair_own h4 (ePair_own h5 (ePair_own h6 (ePair_own h7 (ePair_own h8 h9)))))))))

theorem owno_Timpl_Node {w : World} {F : List Nat} {x : Timpl_Node} {cs : List Value} (h : (eTimpl_Node).own w F x cs) : ∃ F0 F1 F2 F3 F4 F5 F6 F7 F8 F9 c0 c1 c2 c3 c4 c5 c6 c7 c8 c9, F = (F0 ++ (F1 ++ (F2 ++ (F3 ++ (F4 ++ (F5 ++ (F6 ++ (F7 ++ (F8 ++ F9))))))))) ∧ cs = (c0 ++ (c1 ++ (c2 ++ (c3 ++ (c4 ++ (c5 ++ (c6 ++ (c7 ++ (c8 ++ c9))))))))) ∧ (eBool).own w F0 x.Leaf_ c0 ∧ (eTimpl_Fork).own w F1 x.Fork_ c1 ∧ (eList (eVal (Value.int .i64) (fun _ => rfl)) 3).own w F2 x.Kids_ c2 ∧ (eVal (Value.int .i64) (fun _ => rfl)).own w F3 x.Miss_ c3 ∧ (eTimpl_Stats).own w F4 x.Stats_ c4 ∧ (eVal (Value.int .i64) (fun _ => rfl)).own w F5 x.Since_ c5 ∧ (eList (eVal (Value.int .i64) (fun _ => rfl)) 3).own w F6 x.Attrs_ c6 ∧ (eVal (Value.int .i64) (fun _ => rfl)).own w F7 x.Depth_ c7 ∧ (eVal (Value.int .i64) (fun _ => rfl)).own w F8 x.Up_ c8 ∧ (eVal (Value.int .i64) (fun _ => rfl)).own w F9 x.Born_ c9 := by
  have h : (ePair (eBool) (ePair (eTimpl_Fork) (ePair (eList (eVal (Value.int .i64) (fun _ => rfl)) 3) (ePair (eVal (Value.int .i64) (fun _ => rfl)) (ePair (eTimpl_Stats) (ePair (eVal (Value.int .i64) (fun _ => rfl)) (ePair (eList (eVal (Value.int .i64) (fun _ => rfl)) 3) (ePair (eVal (Value.int .i64) (fun _ => rfl)) (ePair (eVal (Value.int .i64) (fun _ => rfl)) (eVal (Value.int .i64) (fun _ => rfl))))))))))).own w F (x.Leaf_, x.Fork_, x.Kids_, x.Miss_, x.Stats_, x.Since_, x.Attrs_, x.Depth_, x.Up_, x.Born_) cs := h
  obtain ⟨F0, G0, c0, d0, rfl, rfl, h0, r0⟩ := h
  obtain ⟨F1, G1, c1, d1, rfl, rfl, h1, r1⟩ := r0
  obtain ⟨F2, G2, c2, d2, rfl, rfl, h2, r2⟩ := r1
  obtain ⟨F3, G3, c3, d3, rfl, rfl, h3, r3⟩ := r2
  obtain ⟨F4, G4, c4, d4, rfl, rfl, h4, r4⟩ := r3
  obtain ⟨F5, G5, c5, d5, rfl, rfl, h5, r5⟩ := r4
  obtain ⟨F6, G6, c6, d6, rfl, rfl, h6, r6⟩ := r5
  obtain ⟨F7, G7, c7, d7, rfl, rfl, h7, r7⟩ := r6
  obtain ⟨F8, F9, c8, c9, rfl, rfl, h8, h9⟩ := r7
  exact ⟨F0, F1, F2, F3, F4, F5, F6, F7, F8, F9, c0, c1, c2, c3, c4, c5, c6, c7, c8, c9, rfl, rfl, h0, h1, h2, h3, h4, h5, h6, h7, h8, h9⟩

theorem opn_Timpl_Node {w0 : World} {M : List Nat} {L : List Res} {w : World} {F : List Nat} {x : Timpl_Node} {cs : List Value} {i : Nat} (h : St w0 M L w) (hi : L[i]? = some (Res.own (eTimpl_Node) F x cs)) :
    ∃ (a_1 : Option Addr) (k_1 : Nat) (F_1 : List Nat), ∃ (a_2 : Option Addr) (k_2 : Nat) (F_2 : List Nat), ∃ (a_3 : Option Addr) (k_3 : Nat) (F_3 : List Nat), ∃ (a_4 : Option Addr) (k_4 : Nat) (F_4 : List Nat), cs = [.bool x.Leaf_, .int .i64 x.Fork_.Attr_, .int .i64 x.Fork_.At_, .slice a_1 (x.Kids_).length k_1, .int .i64 x.Miss_, .slice a_2 (x.Stats_.Totals_).length k_2, .slice a_3 (x.Stats_.Cells_).length k_3, .int .i64 x.Since_, .slice a_4 (x.Attrs_).length k_4, .int .i64 x.Depth_, .int .i64 x.Up_, .int .i64 x.Born_] ∧ St w0 M (nilAt L [i] ++ [Res.own (eList (eVal (Value.int .i64) (fun _ => rfl)) 3) F_1 x.Kids_ [.slice a_1 (x.Kids_).length k_1], Res.own (eList (eVal (Value.int .i64) (fun _ => rfl)) 3) F_2 x.Stats_.Totals_ [.slice a_2 (x.Stats_.Totals_).length k_2], Res.own (eList (eList (eVal (Value.int .i64) (fun _ => rfl)) 3) 22) F_3 x.Stats_.Cells_ [.slice a_3 (x.Stats_.Cells_).length k_3], Res.own (eList (eVal (Value.int .i64) (fun _ => rfl)) 3) F_4 x.Attrs_ [.slice a_4 (x.Attrs_).length k_4]]) w := by
  obtain ⟨hok, _, _⟩ := h.one hi
  have hok : (eTimpl_Node).own w F x cs := hok
  obtain ⟨F1_0, F1_1, F1_2, F1_3, F1_4, F1_5, F1_6, F1_7, F1_8, F1_9, c1_0, c1_1, c1_2, c1_3, c1_4, c1_5, c1_6, c1_7, c1_8, c1_9, rfl, rfl, h1_0, h1_1, h1_2, h1_3, h1_4, h1_5, h1_6, h1_7, h1_8, h1_9⟩ := owno_Timpl_Node hok
  obtain ⟨rfl, rfl⟩ : F1_0 = [] ∧ c1_0 = [.bool x.Leaf_] := h1_0
  obtain ⟨rfl, rfl⟩ : F1_1 = [] ∧ c1_1 = [.int .i64 x.Fork_.Attr_, .int .i64 x.Fork_.At_] := h1_1
  obtain ⟨a2, k2, rfl⟩ := own_sl1 h1_2
  obtain ⟨rfl, rfl⟩ : F1_3 = [] ∧ c1_3 = [.int .i64 x.Miss_] := h1_3
  obtain ⟨F3_0, F3_1, c3_0, c3_1, rfl, rfl, h3_0, h3_1⟩ := owno_Timpl_Stats h1_4
  obtain ⟨a4, k4, rfl⟩ := own_sl1 h3_0
  obtain ⟨a5, k5, rfl⟩ := own_sl1 h3_1
  obtain ⟨rfl, rfl⟩ : F1_5 = [] ∧ c1_5 = [.int .i64 x.Since_] := h1_5
  obtain ⟨a6, k6, rfl⟩ := own_sl1 h1_6
  obtain ⟨rfl, rfl⟩ : F1_7 = [] ∧ c1_7 = [.int .i64 x.Depth_] := h1_7
  obtain ⟨rfl, rfl⟩ : F1_8 = [] ∧ c1_8 = [.int .i64 x.Up_] := h1_8
  obtain ⟨rfl, rfl⟩ : F1_9 = [] ∧ c1_9 = [.int .i64 x.Born_] := h1_9
  refine ⟨a2, k2, F1_2, a4, k4, F3_0, a5, k5, F3_1, a6, k6, F1_6, rfl, h.re [i] _ rfl ?_ ?_⟩
  · simp [selR_cons, selR_nil, hi, foot, Res.own]
  · intro s hs; simp only [List.mem_cons, List.not_mem_nil, or_false] at hs; rcases hs with rfl | rfl | rfl | rfl
    · exact h1_2
    · exact h3_0
    · exact h3_1
    · exact h1_6

theorem fus_Timpl_Node {w0 : World} {M : List Nat} {L : List Res} {w : World} {x0 : Bool} {x1 : Int} {x2 : Int} {x3 : List Int} {a3 : Option Addr} {n3 k3 : Nat} {G3 : List Nat} {x4 : Int} {x5 : List Int} {a5 : Option Addr} {n5 k5 : Nat} {G5 : List Nat} {x6 : List (List Int)} {a6 : Option Addr} {n6 k6 : Nat} {G6 : List Nat} {x7 : Int} {x8 : List Int} {a8 : Option Addr} {n8 k8 : Nat} {G8 : List Nat} {x9 : Int} {x10 : Int} {x11 : Int} (idx : List Nat) (h : St w0 M L w) (hs : selR L idx = [Res.own (eList (eVal (Value.int .i64) (fun _ => rfl)) 3) G3 x3 [.slice a3 n3 k3], Res.own (eList (eVal (Value.int .i64) (fun _ => rfl)) 3) G5 x5 [.slice a5 n5 k5], Res.own (eList (eList (eVal (Value.int .i64) (fun _ => rfl)) 3) 22) G6 x6 [.slice a6 n6 k6], Res.own (eList (eVal (Value.int .i64) (fun _ => rfl)) 3) G8 x8 [.slice a8 n8 k8]]) (hn : nodB idx = true) :
    ∃ F, St w0 M (nilAt L idx ++ [Res.own (eTimpl_Node) F (Timpl_Node.mk x0 (Timpl_Fork.mk x1 x2) x3 x4 (Timpl_Stats.mk x5 x6) x7 x8 x9 x10 x11) [.bool x0, .int .i64 x1, .int .i64 x2, .slice a3 n3 k3, .int .i64 x4, .slice a5 n5 k5, .slice a6 n6 k6, .int .i64 x7, .slice a8 n8 k8, .int .i64 x9, .int .i64 x10, .int .i64 x11]]) w := by
  have o0 : (eList (eVal (Value.int .i64) (fun _ => rfl)) 3).own w G3 x3 [.slice a3 n3 k3] := h.ok' (mem_sel (L := L) (is := idx) (by rw [hs]; simp : Res.own (eList (eVal (Value.int .i64) (fun _ => rfl)) 3) G3 x3 [.slice a3 n3 k3] ∈ selR L idx))
  have o1 : (eList (eVal (Value.int .i64) (fun _ => rfl)) 3).own w G5 x5 [.slice a5 n5 k5] := h.ok' (mem_sel (L := L) (is := idx) (by rw [hs]; simp : Res.own (eList (eVal (Value.int .i64) (fun _ => rfl)) 3) G5 x5 [.slice a5 n5 k5] ∈ selR L idx))
  have o2 : (eList (eList (eVal (Value.int .i64) (fun _ => rfl)) 3) 22).own w G6 x6 [.slice a6 n6 k6] := h.ok' (mem_sel (L := L) (is := idx) (by rw [hs]; simp : Res.own (eList (eList (eVal (Value.int .i64) (fun _ => rfl)) 3) 22) G6 x6 [.slice a6 n6 k6] ∈ selR L idx))
  have o3 : (eList (eVal (Value.int .i64) (fun _ => rfl)) 3).own w G8 x8 [.slice a8 n8 k8] := h.ok' (mem_sel (L := L) (is := idx) (by rw [hs]; simp : Res.own (eList (eVal (Value.int .i64) (fun _ => rfl)) 3) G8 x8 [.slice a8 n8 k8] ∈ selR L idx))
  have ho := (ownm_Timpl_Node (x := (Timpl_Node.mk x0 (Timpl_Fork.mk x1 x2) x3 x4 (Timpl_Stats.mk x5 x6) x7 x8 x9 x10 x11)) (⟨rfl, rfl⟩ : (eBool).own w [] _ _) (⟨rfl, rfl⟩ : (eTimpl_Fork).own w [] _ _) o0 (⟨rfl, rfl⟩ : (eVal (Value.int .i64) (fun _ => rfl)).own w [] _ _) (ownm_Timpl_Stats (x := (Timpl_Stats.mk x5 x6)) o1 o2) (⟨rfl, rfl⟩ : (eVal (Value.int .i64) (fun _ => rfl)).own w [] _ _) o3 (⟨rfl, rfl⟩ : (eVal (Value.int .i64) (fun _ => rfl)).own w [] _ _) (⟨rfl, rfl⟩ : (eVal (Value.int .i64) (fun _ => rfl)).own w [] _ _) (⟨rfl, rfl⟩ : (eVal (Value.int .i64) (fun _ => rfl)).own w [] _ _))
  refine ⟨_, h.re idx [Res.own (eTimpl_Node) _ (Timpl_Node.mk x0 (Timpl_Fork.mk x1 x2) x3 x4 (Timpl_Stats.mk x5 x6) x7 x8 x9 x10 x11) [.bool x0, .int .i64 x1, .int .i64 x2, .slice a3 n3 k3, .int .i64 x4, .slice a5 n5 k5, .slice a6 n6 k6, .int .i64 x7, .slice a8 n8 k8, .int .i64 x9, .int .i64 x10, .int .i64 x11]] hn ?_ (fun s hs => by rw [List.mem_singleton.1 hs]; exact ho)⟩
  rw [hs]
  simp [foot, Res.own]

def eTimpl_Tree : Enc Timpl_Tree := eIso (ePair (eList (eTimpl_Node) 91) (eVal (Value.int .i64) (fun _ => rfl))) (fun x => (x.Nodes_, x.Seen_))

theorem rdm_Timpl_Tree {w : World} {X : List Nat} {x : Timpl_Tree} {c0 c1 : List Value} (h0 : (eList (eTimpl_Node) 91).rd w X x.Nodes_ c0) (h1 : (eVal (Value.int .i64) (fun _ => rfl)).rd w X x.Seen_ c1) : (eTimpl_Tree).rd w X x (c0 ++ c1) := by
  show (ePair (eList (eTimpl_Node) 91) (eVal (Value.int .i64) (fun _ => rfl))).rd w X (x.Nodes_, x.Seen_) _
  exact (ePair_rd h0 h1)

theorem rdo_Timpl_Tree {w : World} {X : List Nat} {x : Timpl_Tree} {cs : List Value} (h : (eTimpl_Tree).rd w X x cs) : ∃ c0 c1, cs = (c0 ++ c1) ∧ (eList (eTimpl_Node) 91).rd w X x.Nodes_ c0 ∧ (eVal (Value.int .i64) (fun _ => rfl)).rd w X x.Seen_ c1 := by
  have h : (ePair (eList (eTimpl_Node) 91) (eVal (Value.int .i64) (fun _ => rfl))).rd w X (x.Nodes_, x.Seen_) cs := h
  obtain ⟨c0, c1, rfl, h0, h1⟩ := h
  exact ⟨c0, c1, rfl, h0, h1⟩

def eTlaws_Stats : Enc Tlaws_Stats := eIso (ePair (eList (eVal (Value.int .i64) (fun _ => rfl)) 3) (eList (eList (eVal (Value.int .i64) (fun _ => rfl)) 3) 22)) (fun x => (x.Totals_, x.Cells_))

theorem rdm_Tlaws_Stats {w : World} {X : List Nat} {x : Tlaws_Stats} {c0 c1 : List Value} (h0 : (eList (eVal (Value.int .i64) (fun _ => rfl)) 3).rd w X x.Totals_ c0) (h1 : (eList (eList (eVal (Value.int .i64) (fun _ => rfl)) 3) 22).rd w X x.Cells_ c1) : (eTlaws_Stats).rd w X x (c0 ++ c1) := by
  show (ePair (eList (eVal (Value.int .i64) (fun _ => rfl)) 3) (eList (eList (eVal (Value.int .i64) (fun _ => rfl)) 3) 22)).rd w X (x.Totals_, x.Cells_) _
  exact (ePair_rd h0 h1)

theorem rdo_Tlaws_Stats {w : World} {X : List Nat} {x : Tlaws_Stats} {cs : List Value} (h : (eTlaws_Stats).rd w X x cs) : ∃ c0 c1, cs = (c0 ++ c1) ∧ (eList (eVal (Value.int .i64) (fun _ => rfl)) 3).rd w X x.Totals_ c0 ∧ (eList (eList (eVal (Value.int .i64) (fun _ => rfl)) 3) 22).rd w X x.Cells_ c1 := by
  have h : (ePair (eList (eVal (Value.int .i64) (fun _ => rfl)) 3) (eList (eList (eVal (Value.int .i64) (fun _ => rfl)) 3) 22)).rd w X (x.Totals_, x.Cells_) cs := h
  obtain ⟨c0, c1, rfl, h0, h1⟩ := h
  exact ⟨c0, c1, rfl, h0, h1⟩

def eTlaws_Fork : Enc Tlaws_Fork := eFlat (fun x => [.int .i64 x.Attr_, .int .i64 x.At_]) 2 (fun _ => rfl) (by intro x u hu; simp only [List.mem_cons, List.not_mem_nil, or_false] at hu; rcases hu with rfl | rfl <;> rfl)

def eTlaws_Node : Enc Tlaws_Node := eIso (ePair (eBool) (ePair (eTlaws_Fork) (ePair (eList (eVal (Value.int .i64) (fun _ => rfl)) 3) (ePair (eVal (Value.int .i64) (fun _ => rfl)) (ePair (eTlaws_Stats) (ePair (eVal (Value.int .i64) (fun _ => rfl)) (ePair (eList (eVal (Value.int .i64) (fun _ => rfl)) 3) (ePair (eVal (Value.int .i64) (fun _ => rfl)) (ePair (eVal (Value.int .i64) (fun _ => rfl)) (eVal (Value.int .i64) (fun _ => rfl))))))))))) (fun x => (x.Leaf_, x.Fork_, x.Kids_, x.Miss_, x.Stats_, x.Since_, x.Attrs_, x.Depth_, x.Up_, x.Born_))

theorem rdm_Tlaws_Node {w : World} {X : List Nat} {x : Tlaws_Node} {c0 c1 c2 c3 c4 c5 c6 c7 c8 c9 : List Value} (h0 : (eBool).rd w X x.Leaf_ c0) (h1 : (eTlaws_Fork).rd w X x.Fork_ c1) (h2 : (eList (eVal (Value.int .i64) (fun _ => rfl)) 3).rd w X x.Kids_ c2) (h3 : (eVal (Value.int .i64) (fun _ => rfl)).rd w X x.Miss_ c3) (h4 : (eTlaws_Stats).rd w X x.Stats_ c4) (h5 : (eVal (Value.int .i64) (fun _ => rfl)).rd w X x.Since_ c5) (h6 : (eList (eVal (Value.int .i64) (fun _ => rfl)) 3).rd w X x.Attrs_ c6) (h7 : (eVal (Value.int .i64) (fun _ => rfl)).rd w X x.Depth_ c7) (h8 : (eVal (Value.int .i64) (fun _ => rfl)).rd w X x.Up_ c8) (h9 : (eVal (Value.int .i64) (fun _ => rfl)).rd w X x.Born_ c9) : (eTlaws_Node).rd w X x (c0 ++ (c1 ++ (c2 ++ (c3 ++ (c4 ++ (c5 ++ (c6 ++ (c7 ++ (c8 ++ c9))))))))) := by
  show (ePair (eBool) (ePair (eTlaws_Fork) (ePair (eList (eVal (Value.int .i64) (fun _ => rfl)) 3) (ePair (eVal (Value.int .i64) (fun _ => rfl)) (ePair (eTlaws_Stats) (ePair (eVal (Value.int .i64) (fun _ => rfl)) (ePair (eList (eVal (Value.int .i64) (fun _ => rfl)) 3) (ePair (eVal (Value.int .i64) (fun _ => rfl)) (ePair (eVal (Value.int .i64) (fun _ => rfl)) (eVal (Value.int .i64) (fun _ => rfl))))))))))).rd w X (x.Leaf_, x.Fork_, x.Kids_, x.Miss_, x.Stats_, x.Since_, x.Attrs_, x.Depth_, x.Up_, x.Born_) _
  exact (ePair_rd h0 (ePair_rd h1 (ePair_rd h2 (ePair_rd h3 (ePair_rd h4 (ePair_rd h5 (ePair_rd h6 (ePair_rd h7 (ePair_rd h8 h9)))))))))

theorem rdo_Tlaws_Node {w : World} {X : List Nat} {x : Tlaws_Node} {cs : List Value} (h : (eTlaws_Node).rd w X x cs) : ∃ c0 c1 c2 c3 c4 c5 c6 c7 c8 c9, cs = (c0 ++ (c1 ++ (c2 ++ (c3 ++ (c4 ++ (c5 ++ (c6 ++ (c7 ++ (c8 ++ c9))))))))) ∧ (eBool).rd w X x.Leaf_ c0 ∧ (eTlaws_Fork).rd w X x.Fork_ c1 ∧ (eList (eVal (Value.int .i64) (fun _ => rfl)) 3).rd w X x.Kids_ c2 ∧ (eVal (Value.int .i64) (fun _ => rfl)).rd w X x.Miss_ c3 ∧ (eTlaws_Stats).rd w X x.Stats_ c4 ∧ (eVal (Value.int .i64) (fun _ => rfl)).rd w X x.Since_ c5 ∧ (eList (eVal (Value.int .i64) (fun _ => rfl)) 3).rd w X x.Attrs_ c6 ∧ (eVal (Value.int .i64) (fun _ => rfl)).rd w X x.Depth_ c7 ∧ (eVal (Value.int .i64) (fun _ => rfl)).rd w X x.Up_ c8 ∧ (eVal (Value.int .i64) (fun _ => rfl)).rd w X x.Born_ c9 := by
  have h : (ePair (eBool) (ePair (eTlaws_Fork) (ePair (eList (eVal (Value.int .i64) (fun _ => rfl)) 3) (ePair (eVal (Value.int .i64) (fun _ => rfl)) (ePair (eTlaws_Stats) (ePair (eVal (Value.int .i64) (fun _ => rfl)) (ePair (eList (eVal (Value.int .i64) (fun _ => rfl)) 3) (ePair (eVal (Value.int .i64) (fun _ => rfl)) (ePair (eVal (Value.int .i64) (fun _ => rfl)) (eVal (Value.int .i64) (fun _ => rfl))))))))))).rd w X (x.Leaf_, x.Fork_, x.Kids_, x.Miss_, x.Stats_, x.Since_, x.Attrs_, x.Depth_, x.Up_, x.Born_) cs := h
  obtain ⟨c0, d0, rfl, h0, r0⟩ := h
  obtain ⟨c1, d1, rfl, h1, r1⟩ := r0
  obtain ⟨c2, d2, rfl, h2, r2⟩ := r1
  obtain ⟨c3, d3, rfl, h3, r3⟩ := r2
  obtain ⟨c4, d4, rfl, h4, r4⟩ := r3
  obtain ⟨c5, d5, rfl, h5, r5⟩ := r4
  obtain ⟨c6, d6, rfl, h6, r6⟩ := r5
  obtain ⟨c7, d7, rfl, h7, r7⟩ := r6
  obtain ⟨c8, c9, rfl, h8, h9⟩ := r7
  exact ⟨c0, c1, c2, c3, c4, c5, c6, c7, c8, c9, rfl, h0, h1, h2, h3, h4, h5, h6, h7, h8, h9⟩

def eTlaws_Tree : Enc Tlaws_Tree := eIso (ePair (eList (eTlaws_Node) 114) (eVal (Value.int .i64) (fun _ => rfl))) (fun x => (x.Nodes_, x.Seen_))

theorem rdm_Tlaws_Tree {w : World} {X : List Nat} {x : Tlaws_Tree} {c0 c1 : List Value} (h0 : (eList (eTlaws_Node) 114).rd w X x.Nodes_ c0) (h1 : (eVal (Value.int .i64) (fun _ => rfl)).rd w X x.Seen_ c1) : (eTlaws_Tree).rd w X x (c0 ++ c1) := by
  show (ePair (eList (eTlaws_Node) 114) (eVal (Value.int .i64) (fun _ => rfl))).rd w X (x.Nodes_, x.Seen_) _
  exact (ePair_rd h0 h1)

theorem rdo_Tlaws_Tree {w : World} {X : List Nat} {x : Tlaws_Tree} {cs : List Value} (h : (eTlaws_Tree).rd w X x cs) : ∃ c0 c1, cs = (c0 ++ c1) ∧ (eList (eTlaws_Node) 114).rd w X x.Nodes_ c0 ∧ (eVal (Value.int .i64) (fun _ => rfl)).rd w X x.Seen_ c1 := by
  have h : (ePair (eList (eTlaws_Node) 114) (eVal (Value.int .i64) (fun _ => rfl))).rd w X (x.Nodes_, x.Seen_) cs := h
  obtain ⟨c0, c1, rfl, h0, h1⟩ := h
  exact ⟨c0, c1, rfl, h0, h1⟩

theorem sl22 : isSl Try.prog 22 3 := isSl_of (by kernel_rfl)

theorem sl35 : isSl Try.prog 35 22 := isSl_of (by kernel_rfl)

theorem ty22 : isTy Try.prog 22 false 1 24 [.slice none 0 0] := isTy_of (by kernel_rfl)

theorem fn86 : isFn Try.prog 86 := ⟨Try.f86, Try.func86, rfl, by decide⟩

theorem fa37_0 : isFa Try.prog 37 0 0 := isFa_of (by kernel_rfl)

theorem ty35 : isTy Try.prog 35 false 1 24 [.slice none 0 0] := isTy_of (by kernel_rfl)

theorem fn52 : isFn Try.prog 52 := ⟨Try.f52, Try.func52, rfl, by decide⟩

theorem ty3 : isTy Try.prog 3 false 1 8 [.int .i64 0] := isTy_of (by kernel_rfl)

theorem fn11 : isFn Try.prog 11 := ⟨Try.f11, Try.func11, rfl, by decide⟩

theorem ty40 : isTy Try.prog 40 true 1 24 [.slice none 0 0] := isTy_of (by kernel_rfl)

theorem fn54 : isFn Try.prog 54 := ⟨Try.f54, Try.func54, rfl, by decide⟩

theorem fa40_0 : isFa Try.prog 40 0 0 := isFa_of (by kernel_rfl)

theorem fn80 : isFn Try.prog 80 := ⟨Try.f80, Try.func80, rfl, by decide⟩

theorem sl23 : isSl Try.prog 23 5 := isSl_of (by kernel_rfl)

theorem ty5 : isTy Try.prog 5 false 1 1 [.int .u8 0] := isTy_of (by kernel_rfl)

theorem us3 : (Try.prog.underlying 3).isSome = true := by kernel_rfl

theorem in5 : isInt Try.prog 5 .u8 := isInt_of (by kernel_rfl)

theorem fn81 : isFn Try.prog 81 := ⟨Try.f81, Try.func81, rfl, by decide⟩

theorem fn46 : isFn Try.prog 46 := ⟨Try.f46, Try.func46, rfl, by decide⟩

theorem fn47 : isFn Try.prog 47 := ⟨Try.f47, Try.func47, rfl, by decide⟩

theorem fn10 : isFn Try.prog 10 := ⟨Try.f10, Try.func10, rfl, by decide⟩

theorem fn53 : isFn Try.prog 53 := ⟨Try.f53, Try.func53, rfl, by decide⟩

theorem fn77 : isFn Try.prog 77 := ⟨Try.f77, Try.func77, rfl, by decide⟩

theorem fn78 : isFn Try.prog 78 := ⟨Try.f78, Try.func78, rfl, by decide⟩

theorem fn43 : isFn Try.prog 43 := ⟨Try.f43, Try.func43, rfl, by decide⟩

theorem fa69_1 : isFa Try.prog 69 1 1 := isFa_of (by kernel_rfl)

theorem ty4 : isTy Try.prog 4 false 1 1 [.bool false] := isTy_of (by kernel_rfl)

theorem fa69_0 : isFa Try.prog 69 0 0 := isFa_of (by kernel_rfl)

theorem ty23 : isTy Try.prog 23 false 1 24 [.slice none 0 0] := isTy_of (by kernel_rfl)

theorem fn82 : isFn Try.prog 82 := ⟨Try.f82, Try.func82, rfl, by decide⟩

theorem fn48 : isFn Try.prog 48 := ⟨Try.f48, Try.func48, rfl, by decide⟩

theorem ty69 : isTy Try.prog 69 true 2 32 [.slice none 0 0, .bool false] := isTy_of (by kernel_rfl)

theorem fs69 : isFs Try.prog 69 [(0, 1), (1, 1)] := isFs_of (by kernel_rfl)

theorem fn55 : isFn Try.prog 55 := ⟨Try.f55, Try.func55, rfl, by decide⟩

theorem fn49 : isFn Try.prog 49 := ⟨Try.f49, Try.func49, rfl, by decide⟩

theorem mixed : Try.prog.follows .mixedOrders = true := by kernel_rfl

theorem fn14 : isFn Try.prog 14 := ⟨Try.f14, Try.func14, rfl, by decide⟩

theorem fn56 : isFn Try.prog 56 := ⟨Try.f56, Try.func56, rfl, by decide⟩

theorem fn15 : isFn Try.prog 15 := ⟨Try.f15, Try.func15, rfl, by decide⟩

theorem fn57 : isFn Try.prog 57 := ⟨Try.f57, Try.func57, rfl, by decide⟩

theorem ty37 : isTy Try.prog 37 true 1 24 [.slice none 0 0] := isTy_of (by kernel_rfl)

theorem fn22 : isFn Try.prog 22 := ⟨Try.f22, Try.func22, rfl, by decide⟩

theorem fn24 : isFn Try.prog 24 := ⟨Try.f24, Try.func24, rfl, by decide⟩

theorem fn23 : isFn Try.prog 23 := ⟨Try.f23, Try.func23, rfl, by decide⟩

theorem fn25 : isFn Try.prog 25 := ⟨Try.f25, Try.func25, rfl, by decide⟩

theorem fn13 : isFn Try.prog 13 := ⟨Try.f13, Try.func13, rfl, by decide⟩

theorem fn26 : isFn Try.prog 26 := ⟨Try.f26, Try.func26, rfl, by decide⟩

theorem fn27 : isFn Try.prog 27 := ⟨Try.f27, Try.func27, rfl, by decide⟩

theorem fn16 : isFn Try.prog 16 := ⟨Try.f16, Try.func16, rfl, by decide⟩

theorem fn17 : isFn Try.prog 17 := ⟨Try.f17, Try.func17, rfl, by decide⟩

theorem us5 : (Try.prog.underlying 5).isSome = true := by kernel_rfl

theorem in3 : isInt Try.prog 3 .i64 := isInt_of (by kernel_rfl)

theorem ty120 : isTy Try.prog 120 true 3 40 [.slice none 0 0, .int .i64 0, .int .i64 0] := isTy_of (by kernel_rfl)

theorem fs120 : isFs Try.prog 120 [(0, 1), (1, 1), (2, 1)] := isFs_of (by kernel_rfl)

theorem fa120_2 : isFa Try.prog 120 2 2 := isFa_of (by kernel_rfl)

theorem fa120_1 : isFa Try.prog 120 1 1 := isFa_of (by kernel_rfl)

theorem fa120_0 : isFa Try.prog 120 0 0 := isFa_of (by kernel_rfl)

theorem fn99 : isFn Try.prog 99 := ⟨Try.f99, Try.func99, rfl, by decide⟩

theorem fn93 : isFn Try.prog 93 := ⟨Try.f93, Try.func93, rfl, by decide⟩

theorem fn73 : isFn Try.prog 73 := ⟨Try.f73, Try.func73, rfl, by decide⟩

theorem fn72 : isFn Try.prog 72 := ⟨Try.f72, Try.func72, rfl, by decide⟩

theorem fn74 : isFn Try.prog 74 := ⟨Try.f74, Try.func74, rfl, by decide⟩

theorem fn75 : isFn Try.prog 75 := ⟨Try.f75, Try.func75, rfl, by decide⟩

theorem fn76 : isFn Try.prog 76 := ⟨Try.f76, Try.func76, rfl, by decide⟩

theorem fn79 : isFn Try.prog 79 := ⟨Try.f79, Try.func79, rfl, by decide⟩

theorem fa74_2 : isFa Try.prog 74 2 2 := isFa_of (by kernel_rfl)

theorem fa74_0 : isFa Try.prog 74 0 0 := isFa_of (by kernel_rfl)

theorem fa74_1 : isFa Try.prog 74 1 1 := isFa_of (by kernel_rfl)

theorem fn44 : isFn Try.prog 44 := ⟨Try.f44, Try.func44, rfl, by decide⟩

theorem fn85 : isFn Try.prog 85 := ⟨Try.f85, Try.func85, rfl, by decide⟩

theorem fn84 : isFn Try.prog 84 := ⟨Try.f84, Try.func84, rfl, by decide⟩

theorem ty74 : isTy Try.prog 74 true 3 40 [.slice none 0 0, .int .i64 0, .bool false] := isTy_of (by kernel_rfl)

theorem fs74 : isFs Try.prog 74 [(0, 1), (1, 1), (2, 1)] := isFs_of (by kernel_rfl)

theorem fn51 : isFn Try.prog 51 := ⟨Try.f51, Try.func51, rfl, by decide⟩

theorem fn40 : isFn Try.prog 40 := ⟨Try.f40, Try.func40, rfl, by decide⟩

theorem fn41 : isFn Try.prog 41 := ⟨Try.f41, Try.func41, rfl, by decide⟩

theorem fn42 : isFn Try.prog 42 := ⟨Try.f42, Try.func42, rfl, by decide⟩

theorem fn12 : isFn Try.prog 12 := ⟨Try.f12, Try.func12, rfl, by decide⟩

theorem fn20 : isFn Try.prog 20 := ⟨Try.f20, Try.func20, rfl, by decide⟩

theorem fn45 : isFn Try.prog 45 := ⟨Try.f45, Try.func45, rfl, by decide⟩

theorem fn83 : isFn Try.prog 83 := ⟨Try.f83, Try.func83, rfl, by decide⟩

theorem fn50 : isFn Try.prog 50 := ⟨Try.f50, Try.func50, rfl, by decide⟩

theorem fn18 : isFn Try.prog 18 := ⟨Try.f18, Try.func18, rfl, by decide⟩

theorem ty91 : isTy Try.prog 91 true 12 160 [.bool false, .int .i64 0, .int .i64 0, .slice none 0 0, .int .i64 0, .slice none 0 0, .slice none 0 0, .int .i64 0, .slice none 0 0, .int .i64 0, .int .i64 0, .int .i64 0] := isTy_of (by kernel_rfl)

theorem fs91 : isFs Try.prog 91 [(0, 1), (1, 2), (3, 1), (4, 1), (5, 2), (7, 1), (8, 1), (9, 1), (10, 1), (11, 1)] := isFs_of (by kernel_rfl)

theorem fn68 : isFn Try.prog 68 := ⟨Try.f68, Try.func68, rfl, by decide⟩

theorem ty87 : isTy Try.prog 87 true 2 16 [.int .i64 0, .int .i64 0] := isTy_of (by kernel_rfl)

theorem fs87 : isFs Try.prog 87 [(0, 1), (1, 1)] := isFs_of (by kernel_rfl)

theorem fn58 : isFn Try.prog 58 := ⟨Try.f58, Try.func58, rfl, by decide⟩

theorem fa91_2 : isFa Try.prog 91 2 3 := isFa_of (by kernel_rfl)

theorem fa91_3 : isFa Try.prog 91 3 4 := isFa_of (by kernel_rfl)

theorem ty89 : isTy Try.prog 89 true 2 48 [.slice none 0 0, .slice none 0 0] := isTy_of (by kernel_rfl)

theorem fs89 : isFs Try.prog 89 [(0, 1), (1, 1)] := isFs_of (by kernel_rfl)

theorem fa91_4 : isFa Try.prog 91 4 5 := isFa_of (by kernel_rfl)

theorem fa91_5 : isFa Try.prog 91 5 7 := isFa_of (by kernel_rfl)

theorem fa91_6 : isFa Try.prog 91 6 8 := isFa_of (by kernel_rfl)

theorem fa91_7 : isFa Try.prog 91 7 9 := isFa_of (by kernel_rfl)

theorem fa91_8 : isFa Try.prog 91 8 10 := isFa_of (by kernel_rfl)

theorem fa91_9 : isFa Try.prog 91 9 11 := isFa_of (by kernel_rfl)

theorem ty54 : isTy Try.prog 54 true 2 32 [.slice none 0 0, .int .i64 0] := isTy_of (by kernel_rfl)

theorem fs54 : isFs Try.prog 54 [(0, 1), (1, 1)] := isFs_of (by kernel_rfl)

theorem fn69 : isFn Try.prog 69 := ⟨Try.f69, Try.func69, rfl, by decide⟩

theorem fa54_0 : isFa Try.prog 54 0 0 := isFa_of (by kernel_rfl)

theorem ty52 : isTy Try.prog 52 false 1 24 [.slice none 0 0] := isTy_of (by kernel_rfl)

theorem sl52 : isSl Try.prog 52 91 := isSl_of (by kernel_rfl)

theorem fn92 : isFn Try.prog 92 := ⟨Try.f92, Try.func92, rfl, by decide⟩

theorem fa91_1 : isFa Try.prog 91 1 1 := isFa_of (by kernel_rfl)

theorem fa87_0 : isFa Try.prog 87 0 0 := isFa_of (by kernel_rfl)

theorem fa87_1 : isFa Try.prog 87 1 1 := isFa_of (by kernel_rfl)

theorem fa89_0 : isFa Try.prog 89 0 0 := isFa_of (by kernel_rfl)

theorem fa89_1 : isFa Try.prog 89 1 1 := isFa_of (by kernel_rfl)

theorem fn70 : isFn Try.prog 70 := ⟨Try.f70, Try.func70, rfl, by decide⟩

theorem fa91_0 : isFa Try.prog 91 0 0 := isFa_of (by kernel_rfl)

theorem bl4 : isBl Try.prog 4 := isBl_of (by kernel_rfl)

theorem fn97 : isFn Try.prog 97 := ⟨Try.f97, Try.func97, rfl, by decide⟩

theorem fn98 : isFn Try.prog 98 := ⟨Try.f98, Try.func98, rfl, by decide⟩

theorem fn91 : isFn Try.prog 91 := ⟨Try.f91, Try.func91, rfl, by decide⟩

theorem fn66 : isFn Try.prog 66 := ⟨Try.f66, Try.func66, rfl, by decide⟩

theorem fa54_1 : isFa Try.prog 54 1 1 := isFa_of (by kernel_rfl)

theorem fn67 : isFn Try.prog 67 := ⟨Try.f67, Try.func67, rfl, by decide⟩

theorem fn21 : isFn Try.prog 21 := ⟨Try.f21, Try.func21, rfl, by decide⟩

theorem fn60 : isFn Try.prog 60 := ⟨Try.f60, Try.func60, rfl, by decide⟩

theorem fn71 : isFn Try.prog 71 := ⟨Try.f71, Try.func71, rfl, by decide⟩

theorem fn19 : isFn Try.prog 19 := ⟨Try.f19, Try.func19, rfl, by decide⟩

theorem fn37 : isFn Try.prog 37 := ⟨Try.f37, Try.func37, rfl, by decide⟩

theorem fn38 : isFn Try.prog 38 := ⟨Try.f38, Try.func38, rfl, by decide⟩

theorem fn35 : isFn Try.prog 35 := ⟨Try.f35, Try.func35, rfl, by decide⟩

theorem fn36 : isFn Try.prog 36 := ⟨Try.f36, Try.func36, rfl, by decide⟩

theorem fn39 : isFn Try.prog 39 := ⟨Try.f39, Try.func39, rfl, by decide⟩

theorem fs40 : isFs Try.prog 40 [(0, 1)] := isFs_of (by kernel_rfl)

theorem fn59 : isFn Try.prog 59 := ⟨Try.f59, Try.func59, rfl, by decide⟩

theorem fn28 : isFn Try.prog 28 := ⟨Try.f28, Try.func28, rfl, by decide⟩

theorem fn29 : isFn Try.prog 29 := ⟨Try.f29, Try.func29, rfl, by decide⟩

theorem fn30 : isFn Try.prog 30 := ⟨Try.f30, Try.func30, rfl, by decide⟩

theorem fa112_0 : isFa Try.prog 112 0 0 := isFa_of (by kernel_rfl)

theorem fa112_1 : isFa Try.prog 112 1 1 := isFa_of (by kernel_rfl)

theorem fa114_2 : isFa Try.prog 114 2 3 := isFa_of (by kernel_rfl)

theorem fa114_4 : isFa Try.prog 114 4 5 := isFa_of (by kernel_rfl)

theorem ty112 : isTy Try.prog 112 true 2 48 [.slice none 0 0, .slice none 0 0] := isTy_of (by kernel_rfl)

theorem fn94 : isFn Try.prog 94 := ⟨Try.f94, Try.func94, rfl, by decide⟩

theorem fa114_6 : isFa Try.prog 114 6 8 := isFa_of (by kernel_rfl)

theorem sl47 : isSl Try.prog 47 114 := isSl_of (by kernel_rfl)

theorem ty114 : isTy Try.prog 114 true 12 160 [.bool false, .int .i64 0, .int .i64 0, .slice none 0 0, .int .i64 0, .slice none 0 0, .slice none 0 0, .int .i64 0, .slice none 0 0, .int .i64 0, .int .i64 0, .int .i64 0] := isTy_of (by kernel_rfl)

theorem fn87 : isFn Try.prog 87 := ⟨Try.f87, Try.func87, rfl, by decide⟩

theorem fa49_0 : isFa Try.prog 49 0 0 := isFa_of (by kernel_rfl)

theorem ty47 : isTy Try.prog 47 false 1 24 [.slice none 0 0] := isTy_of (by kernel_rfl)

theorem fn61 : isFn Try.prog 61 := ⟨Try.f61, Try.func61, rfl, by decide⟩

theorem fa111_0 : isFa Try.prog 111 0 0 := isFa_of (by kernel_rfl)

theorem fa111_1 : isFa Try.prog 111 1 1 := isFa_of (by kernel_rfl)

theorem fa114_0 : isFa Try.prog 114 0 0 := isFa_of (by kernel_rfl)

theorem fa114_1 : isFa Try.prog 114 1 1 := isFa_of (by kernel_rfl)

theorem ty111 : isTy Try.prog 111 true 2 16 [.int .i64 0, .int .i64 0] := isTy_of (by kernel_rfl)

theorem fn95 : isFn Try.prog 95 := ⟨Try.f95, Try.func95, rfl, by decide⟩

theorem fa114_3 : isFa Try.prog 114 3 4 := isFa_of (by kernel_rfl)

theorem fn96 : isFn Try.prog 96 := ⟨Try.f96, Try.func96, rfl, by decide⟩

theorem fa114_5 : isFa Try.prog 114 5 7 := isFa_of (by kernel_rfl)

theorem fa114_7 : isFa Try.prog 114 7 9 := isFa_of (by kernel_rfl)

theorem fa114_8 : isFa Try.prog 114 8 10 := isFa_of (by kernel_rfl)

theorem fa114_9 : isFa Try.prog 114 9 11 := isFa_of (by kernel_rfl)

theorem fn89 : isFn Try.prog 89 := ⟨Try.f89, Try.func89, rfl, by decide⟩

theorem fn64 : isFn Try.prog 64 := ⟨Try.f64, Try.func64, rfl, by decide⟩

theorem fa49_1 : isFa Try.prog 49 1 1 := isFa_of (by kernel_rfl)

theorem fn88 : isFn Try.prog 88 := ⟨Try.f88, Try.func88, rfl, by decide⟩

theorem fn62 : isFn Try.prog 62 := ⟨Try.f62, Try.func62, rfl, by decide⟩

theorem fn63 : isFn Try.prog 63 := ⟨Try.f63, Try.func63, rfl, by decide⟩

theorem fn90 : isFn Try.prog 90 := ⟨Try.f90, Try.func90, rfl, by decide⟩

theorem fn65 : isFn Try.prog 65 := ⟨Try.f65, Try.func65, rfl, by decide⟩

theorem ty49 : isTy Try.prog 49 true 2 32 [.slice none 0 0, .int .i64 0] := isTy_of (by kernel_rfl)

theorem fn31 : isFn Try.prog 31 := ⟨Try.f31, Try.func31, rfl, by decide⟩

theorem fn33 : isFn Try.prog 33 := ⟨Try.f33, Try.func33, rfl, by decide⟩

theorem fn32 : isFn Try.prog 32 := ⟨Try.f32, Try.func32, rfl, by decide⟩

theorem fn34 : isFn Try.prog 34 := ⟨Try.f34, Try.func34, rfl, by decide⟩

set_option maxHeartbeats 4000000 in
set_option maxRecDepth 100000 in
theorem laws_szIntS_ok (w : World) {p0 : List Int} {p1 : Int} {a_0 : Option Addr} {n_0 c_0 : Nat} {r : Int} (H : laws_szIntS p0 p1 = some r)  (g0 : (eList (eVal (Value.int .i64) (fun _ => rfl)) 3).rd w [] p0 [.slice a_0 n_0 c_0]) :
    Calls Try.prog 86 #[.slice a_0 n_0 c_0, .int .i64 p1] w (fun en w' => en = .returned (.int .i64 r) ∧ Ext [] w w') := by
  obtain rfl := rd_n g0
  unfold laws_szIntS at H
  refine f_enter (vs := [.slice a_0 p0.length c_0, .int .i64 p1]) Try.func86 rfl Try.ntmps86 rfl (St.init w []) ?_
  refine c_seq ?_
  refine c_reg ?_
  refine ow_batch [.p] rfl ?_
  refine ow_nil ?_
  refine x_qs ?_
  refine c_seq ?_
  refine c_reg ?_
  refine ow_batch [.p, .p, .lenS 22 3 sl22, .p, .p] rfl ?_
  refine ow_nil ?_
  refine x_qs ?_
  refine c_seq ?_
  refine c_seq ?_
  refine c_reg ?_
  refine ow_batch [.p, .p] rfl ?_
  refine ow_nil ?_
  refine x_qs ?_
  refine c_if rfl (fun hb => ?_) (fun hb => ?_)
  · have H := of_if_t hb H
    refine c_seq ?_
    refine c_reg ?_
    refine ow_batch [.p] rfl ?_
    refine ow_nil ?_
    refine x_qs ?_
    refine c_ret ?_
    refine x_qs_ret ?_
    exact x_retR (rs := [.tmp 4]) (vs := [.int .i64 (-1)]) rfl ⟨rfl, trivial⟩ (fun w' hw' => by
        obtain rfl := of_some H
        exact ⟨rfl, hw'.ext⟩)
  · have H := of_if_f hb H
    refine c_skip ?_
    refine x_qs ?_
    refine c_seq ?_
    refine c_reg ?_
    refine ow_batch [.p, .p] rfl ?_
    refine ow_nil ?_
    refine x_qs ?_
    refine c_ret ?_
    exact x_retR (rs := [.tmp 4]) (vs := [.int .i64 (IntKind.i64.wrap (p1 - (p0.length : Int)))]) rfl ⟨rfl, trivial⟩ (fun w' hw' => by
        obtain rfl := of_some H
        exact ⟨rfl, hw'.ext⟩)

set_option maxHeartbeats 4000000 in
set_option maxRecDepth 100000 in
theorem laws_szIntSS_ok (w : World) {p0 : List (List Int)} {p1 : Int} {a_0 : Option Addr} {n_0 c_0 : Nat} {r : Int} (H : laws_szIntSS p0 p1 = some r)  (g0 : (eList (eList (eVal (Value.int .i64) (fun _ => rfl)) 3) 22).rd w [] p0 [.slice a_0 n_0 c_0]) :
    Calls Try.prog 52 #[.slice a_0 n_0 c_0, .int .i64 p1] w (fun en w' => en = .returned (.int .i64 r) ∧ Ext [] w w') := by
  obtain rfl := rd_n g0
  unfold laws_szIntSS at H
  refine f_enter (vs := [.slice a_0 p0.length c_0, .int .i64 p1]) Try.func52 rfl Try.ntmps52 rfl (St.init w []) ?_
  refine c_seq ?_
  refine c_reg ?_
  refine ow_batch [.p] rfl ?_
  refine ow_nil ?_
  refine x_qs ?_
  refine c_seq ?_
  refine c_reg ?_
  refine ow_batch [.p, .p, .lenS 35 22 sl35, .p, .p] rfl ?_
  refine ow_nil ?_
  refine x_qs ?_
  refine c_seq ?_
  refine c_seq ?_
  refine c_reg ?_
  refine ow_batch [.p, .p] rfl ?_
  refine ow_nil ?_
  refine x_qs ?_
  refine c_if rfl (fun hb => ?_) (fun hb => ?_)
  · have H := of_if_t hb H
    refine c_seq ?_
    refine c_reg ?_
    refine ow_batch [.p] rfl ?_
    refine ow_nil ?_
    refine x_qs ?_
    refine c_ret ?_
    refine x_qs_ret ?_
    exact x_retR (rs := [.tmp 4]) (vs := [.int .i64 (-1)]) rfl ⟨rfl, trivial⟩ (fun w' hw' => by
        obtain rfl := of_some H
        exact ⟨rfl, hw'.ext⟩)
  · have H := of_if_f hb H
    refine c_skip ?_
    refine x_qs ?_
    refine c_seq ?_
    refine c_seq ?_
    refine c_reg ?_
    refine ow_batch [.p] rfl ?_
    refine ow_nil ?_
    refine x_qs ?_
    refine c_block ?_
    refine CW.at (loopI2 (fun (i13 : Int) (i14 : Int) => St w [] []) (fun (i13 : Int) (i14 : Int) => [(0, .slice a_0 p0.length c_0), (1, .int .i64 i13), (5, .int .i64 i14)]) (fun kk => fun (i13 : Int) (i14 : Int) => laws_szIntSS_L1 p0 kk i13 i14 = some r) (fun _ _ H => ?_) (fun k1 ihk1 i13 i14 H => ?_) Fuel (IntKind.i64.wrap (p1 - (p0.length : Int))) (0) (H)) (fun _ h => St.sel [] rfl rfl h) ⟨rfl, rfl, rfl,  trivial⟩
    · unfold laws_szIntSS_L1 at H
      exact absurd H (by simp)
    · unfold laws_szIntSS_L1 at H
      refine c_seq ?_
      refine c_seq ?_
      refine c_reg ?_
      refine ow_batch [.p, .p, .lenS 35 22 sl35, .p] rfl ?_
      refine ow_nil ?_
      refine x_qs ?_
      refine c_if rfl (fun hb => ?_) (fun hb => ?_)
      · have H := of_if_t hb H
        refine c_skip ?_
        refine x_qs ?_
        refine c_seq ?_
        refine c_block ?_
        refine c_seq ?_
        refine c_reg ?_
        refine ow_batch [.p, .p] rfl ?_
        obtain ⟨e27, h28, H⟩ := of_bind H
        refine ow_ixB rfl rfl rfl rfl rfl sl35 ty22 rfl g0 h28 (fun q31 c32 hd29 hA30 => ?_)
        obtain ⟨a33, c34, rfl⟩ := rd_sl1 hd29
        refine ow_r rfl (dstOk_lt rfl) (ry_load1 rfl rfl ty22 (at_bor bor hA30)) ?_
        refine ow_batch [.p] rfl ?_
        obtain ⟨y35, h36, H⟩ := of_bind H
        refine ow_q rfl rfl (dstOk_lt rfl) (qy_call rfl fn86 rfl (fun w1 hw1 => laws_szIntS_ok w1  h36 (rds_bor hd29 w1 hw1))) (fun _ _ => trivial) ?_
        refine ow_batch [.p] rfl ?_
        refine ow_nil ?_
        refine x_qs ?_
        refine c_seq ?_
        refine c_reg ?_
        refine ow_batch [.p, .p] rfl ?_
        refine ow_nil ?_
        refine x_qs ?_
        refine c_if rfl (fun hb => ?_) (fun hb => ?_)
        · have H := of_if_t hb H
          refine c_seq ?_
          refine c_reg ?_
          refine ow_batch [.p] rfl ?_
          refine ow_nil ?_
          refine x_qs ?_
          refine c_ret ?_
          refine x_qb_ret ?_
          refine x_qs_ret ?_
          refine x_ql_ret ?_
          refine x_qb_ret ?_
          refine x_qs_ret ?_
          exact x_retR (rs := [.tmp 4]) (vs := [.int .i64 (-1)]) rfl ⟨rfl, trivial⟩ (fun w' hw' => by
              obtain rfl := of_some H
              exact ⟨rfl, hw'.ext⟩)
        · have H := of_if_f hb H
          refine c_skip ?_
          refine x_qb ?_
          refine x_qs ?_
          refine c_reg ?_
          refine ow_batch [.p, .p, .p] rfl ?_
          refine ow_nil ?_
          exact x_ql (RW.at (ihk1 (y35) (IntKind.i64.wrap (i14 + 1)) (H)) (fun _ h => St.sel [] rfl rfl h) ⟨rfl, rfl, rfl, trivial⟩)
      · have H := of_if_f hb H
        refine c_exit ?_
        refine x_qs_exit ?_
        refine x_ql_exit ?_
        refine x_qb_here ?_
        refine x_qs ?_
        refine c_seq ?_
        refine c_reg ?_
        refine ow_batch [.p, .p] rfl ?_
        refine ow_nil ?_
        refine x_qs ?_
        refine c_ret ?_
        exact x_retR (rs := [.tmp 4]) (vs := [.int .i64 i13]) rfl ⟨rfl, trivial⟩ (fun w' hw' => by
            obtain rfl := of_some H
            exact ⟨rfl, hw'.ext⟩)

set_option maxHeartbeats 4000000 in
set_option maxRecDepth 100000 in
theorem laws_szWindow_ok (w : World) {p0 : Tlaws_Window} {p1 : Int} {cs0 : List Value} {r : Int} (H : laws_szWindow p0 p1 = some r)  (g0 : (eTlaws_Window).rd w [] p0 cs0) :
    Calls Try.prog 22 #[.agg cs0.toArray, .int .i64 p1] w (fun en w' => en = .returned (.int .i64 r) ∧ Ext [] w w') := by
  obtain ⟨c1, rfl, g2⟩ := rdo_Tlaws_Window g0
  obtain ⟨a3, c4, rfl⟩ := rd_sl1 g2
  unfold laws_szWindow at H
  refine f_enter (vs := [.agg #[.slice a3 p0.Rows_.length c4], .int .i64 p1]) Try.func22 rfl Try.ntmps22 rfl (St.init w []) ?_
  refine c_seq ?_
  refine c_reg ?_
  refine ow_box (cs := [.slice a3 p0.Rows_.length c4]) rfl rfl rfl rfl rfl rfl (fun _ => kp) (fun b5 => ?_)
  refine ow_batch [.p] rfl ?_
  refine ow_nil ?_
  refine x_qs ?_
  refine c_seq ?_
  refine c_reg ?_
  refine ow_batch [.fa 37 0 0 fa37_0] rfl ?_
  refine ow_r rfl (dstOk_lt rfl) (ry_box1 (off := 0) rfl rfl ty35 (boxIn (i := 0) rfl) rfl) ?_
  refine ow_batch [.p] rfl ?_
  obtain ⟨y6, h7, H⟩ := of_bind H
  refine ow_q rfl rfl (dstOk_lt rfl) (qy_call rfl fn52 rfl (fun w1 hw1 => laws_szIntSS_ok w1  h7 (rds_bor g2 w1 hw1))) (fun _ _ => trivial) ?_
  refine ow_batch [.p] rfl ?_
  refine ow_nil ?_
  refine x_qs ?_
  refine c_seq ?_
  refine c_seq ?_
  refine c_reg ?_
  refine ow_batch [.p, .p] rfl ?_
  refine ow_nil ?_
  refine x_qs ?_
  refine c_if rfl (fun hb => ?_) (fun hb => ?_)
  · have H := of_if_t hb H
    refine c_seq ?_
    refine c_reg ?_
    refine ow_batch [.p] rfl ?_
    refine ow_nil ?_
    refine x_qs ?_
    refine c_ret ?_
    refine x_qs_ret ?_
    exact x_retR (rs := [.tmp 4]) (vs := [.int .i64 (-1)]) rfl ⟨rfl, trivial⟩ (fun w' hw' => by
        obtain rfl := of_some H
        exact ⟨rfl, hw'.ext⟩)
  · have H := of_if_f hb H
    refine c_skip ?_
    refine x_qs ?_
    refine c_seq ?_
    refine c_reg ?_
    refine ow_batch [.p, .p] rfl ?_
    refine ow_nil ?_
    refine x_qs ?_
    refine c_ret ?_
    exact x_retR (rs := [.tmp 4]) (vs := [.int .i64 y6]) rfl ⟨rfl, trivial⟩ (fun w' hw' => by
        obtain rfl := of_some H
        exact ⟨rfl, hw'.ext⟩)

set_option maxHeartbeats 4000000 in
set_option maxRecDepth 100000 in
theorem laws_toIntS_ok (w : World) {M0 : List Nat} {p0 : List Int} {a_0 : Option Addr} {n_0 c_0 : Nat} {r : List Int} (H : laws_toIntS p0 = some r) (HS : St w M0 [] w) (g0 : (eList (eVal (Value.int .i64) (fun _ => rfl)) 3).rd w M0 p0 [.slice a_0 n_0 c_0]) :
    Calls Try.prog 11 #[.slice a_0 n_0 c_0] w (fun en w' => ∃ v, en = .returned v ∧ ∃ (a0 : Option Addr), ∃ (n0 : Nat), ∃ (c0 : Nat), ∃ (F0 : List Nat), v = .slice a0 n0 c0 ∧ St w M0 [Res.own (eList (eVal (Value.int .i64) (fun _ => rfl)) 3) F0 r [.slice a0 n0 c0]] w') := by
  obtain rfl := rd_n g0
  unfold laws_toIntS at H
  refine f_enter (vs := [.slice a_0 p0.length c_0]) Try.func11 rfl Try.ntmps11 rfl (HS) ?_
  refine c_seq ?_
  refine c_reg ?_
  refine ow_batch [.p] rfl ?_
  refine ow_nil ?_
  refine x_qs ?_
  refine c_seq ?_
  refine c_reg ?_
  refine ow_batch [.p, .lenS 22 3 sl22] rfl ?_
  obtain ⟨l1, h2, H⟩ := of_bind H
  refine ow_make (e := eVal (Value.int .i64) (fun _ => rfl)) (zero := (0 : Int)) rfl rfl rfl rfl rfl rfl sl22 ty3 rfl rfl rfl rfl (fun _ => ⟨rfl, rfl⟩) h2 (fun _ => kp) (fun b3 => ?_)
  refine ow_batch [.p] rfl ?_
  refine ow_nil ?_
  refine x_qs ?_
  refine c_seq ?_
  refine c_seq ?_
  refine c_reg ?_
  refine ow_batch [.p] rfl ?_
  refine ow_nil ?_
  refine x_qs ?_
  refine c_block ?_
  refine CW.at (loopI2 (fun (l10 : List Int) (i11 : Int) => St w M0 [Res.own (eList (eVal (Value.int .i64) (fun _ => rfl)) 3) [b3] l10 [.slice (some ⟨b3, 0, none⟩) l1.length l1.length]]) (fun (l10 : List Int) (i11 : Int) => [(0, .slice a_0 p0.length c_0), (3, .slice (some ⟨b3, 0, none⟩) l1.length l1.length), (4, .int .i64 i11)]) (fun kk => fun (l10 : List Int) (i11 : Int) => laws_toIntS_L1 p0 kk l10 i11 = some r) (fun _ _ H => ?_) (fun k1 ihk1 l10 i11 H => ?_) Fuel (l1) (0) (H)) (fun _ h => St.sel [0] rfl rfl h) ⟨rfl, rfl, rfl,  trivial⟩
  · unfold laws_toIntS_L1 at H
    exact absurd H (by simp)
  · unfold laws_toIntS_L1 at H
    refine c_seq ?_
    refine c_seq ?_
    refine c_reg ?_
    refine ow_batch [.p, .p, .lenS 22 3 sl22, .p] rfl ?_
    refine ow_nil ?_
    refine x_qs ?_
    refine c_if rfl (fun hb => ?_) (fun hb => ?_)
    · have H := of_if_t hb H
      refine c_skip ?_
      refine x_qs ?_
      refine c_seq ?_
      refine c_block ?_
      refine c_reg ?_
      refine ow_batch [.p, .p, .p, .p] rfl ?_
      obtain ⟨e18, h19, H⟩ := of_bind H
      refine ow_ixE (e := eVal (Value.int .i64) (fun _ => rfl)) (xs := p0) (j := i11) rfl rfl rfl rfl rfl sl22 ty3 rfl (fun w1 hw1 => rds_bor g0 w1 hw1) h19 (by rw [Nat.mul_one]) ?_
      refine ow_r rfl (dstOk_lt rfl) (ry_load1 rfl rfl ty3 (at_elV (fun w1 hw1 => rds_bor g0 w1 hw1) h19)) ?_
      obtain ⟨e20, h21, H⟩ := of_bind H
      refine ow_ixE (e := eVal (Value.int .i64) (fun _ => rfl)) (xs := l10) (j := i11) rfl rfl rfl rfl rfl sl22 ty3 rfl (fun w1 hw1 => rds_own (r := 0) rfl w1 hw1) h21 (by rw [Nat.mul_one]) ?_
      refine ow_storeV (i := 0) (j := i11) rfl rfl rfl rfl rfl rfl ty3 rfl h21 (fun _ => rfl) kp ?_
      refine ow_nil ?_
      refine x_qb ?_
      refine x_qs ?_
      refine c_reg ?_
      refine ow_batch [.p, .p, .p] rfl ?_
      refine ow_nil ?_
      exact x_ql (RW.at (ihk1 ((l10.set i11.toNat e18)) (IntKind.i64.wrap (i11 + 1)) (H)) (fun _ h => St.sel [0] rfl rfl h) ⟨rfl, rfl, rfl, trivial⟩)
    · have H := of_if_f hb H
      refine c_exit ?_
      refine x_qs_exit ?_
      refine x_ql_exit ?_
      refine x_qb_here ?_
      refine x_qs ?_
      refine c_seq ?_
      refine c_reg ?_
      refine ow_batch [.p, .p] rfl ?_
      refine ow_nil ?_
      refine x_qs ?_
      refine c_ret ?_
      exact x_retR (rs := [.tmp 2]) (vs := [.slice (some ⟨b3, 0, none⟩) l1.length l1.length]) rfl ⟨rfl, trivial⟩ (fun w' hw' => by
          obtain rfl := of_some H
          exact ⟨_, rfl, (some ⟨b3, 0, none⟩), l1.length, l1.length, [b3], rfl, hw'.sel [0] rfl rfl⟩)

set_option maxHeartbeats 4000000 in
set_option maxRecDepth 100000 in
theorem laws_toIntSS_ok (w : World) {M0 : List Nat} {p0 : List (List Int)} {a_0 : Option Addr} {n_0 c_0 : Nat} {r : List (List Int)} (H : laws_toIntSS p0 = some r) (HS : St w M0 [] w) (g0 : (eList (eList (eVal (Value.int .i64) (fun _ => rfl)) 3) 22).rd w M0 p0 [.slice a_0 n_0 c_0]) :
    Calls Try.prog 54 #[.slice a_0 n_0 c_0] w (fun en w' => ∃ v, en = .returned v ∧ ∃ (a0 : Option Addr), ∃ (n0 : Nat), ∃ (c0 : Nat), ∃ (F0 : List Nat), v = .slice a0 n0 c0 ∧ St w M0 [Res.own (eList (eList (eVal (Value.int .i64) (fun _ => rfl)) 3) 22) F0 r [.slice a0 n0 c0]] w') := by
  obtain rfl := rd_n g0
  unfold laws_toIntSS at H
  refine f_enter (vs := [.slice a_0 p0.length c_0]) Try.func54 rfl Try.ntmps54 rfl (HS) ?_
  refine c_seq ?_
  refine c_reg ?_
  refine ow_batch [.p] rfl ?_
  refine ow_nil ?_
  refine x_qs ?_
  refine c_seq ?_
  refine c_reg ?_
  refine ow_batch [.p, .lenS 35 22 sl35] rfl ?_
  obtain ⟨l1, h2, H⟩ := of_bind H
  refine ow_make (e := eList (eVal (Value.int .i64) (fun _ => rfl)) 3) (zero := ([] : List Int)) rfl rfl rfl rfl rfl rfl sl35 ty22 rfl rfl rfl rfl (fun _ => (.inl ⟨rfl, rfl, rfl⟩)) h2 (fun _ => kp) (fun b3 => ?_)
  refine ow_batch [.p] rfl ?_
  refine ow_nil ?_
  refine x_qs ?_
  refine c_seq ?_
  refine c_seq ?_
  refine c_reg ?_
  refine ow_batch [.p] rfl ?_
  refine ow_nil ?_
  refine x_qs ?_
  refine c_block ?_
  refine CW.at (loopI3 (fun (l37 : List (List Int)) (F38 : List Nat) (i39 : Int) => St w M0 [Res.own (eList (eList (eVal (Value.int .i64) (fun _ => rfl)) 3) 22) F38 l37 [.slice (some ⟨b3, 0, none⟩) l1.length l1.length]]) (fun (l37 : List (List Int)) (F38 : List Nat) (i39 : Int) => [(0, .slice a_0 p0.length c_0), (3, .slice (some ⟨b3, 0, none⟩) l1.length l1.length), (4, .int .i64 i39)]) (fun kk => fun (l37 : List (List Int)) (F38 : List Nat) (i39 : Int) => laws_toIntSS_L1 p0 kk l37 i39 = some r) (fun _ _ _ H => ?_) (fun k1 ihk1 l37 F38 i39 H => ?_) Fuel (l1) ([b3]) (0) (H)) (fun _ h => St.sel [0] rfl rfl h) ⟨rfl, rfl, rfl,  trivial⟩
  · unfold laws_toIntSS_L1 at H
    exact absurd H (by simp)
  · unfold laws_toIntSS_L1 at H
    refine c_seq ?_
    refine c_seq ?_
    refine c_reg ?_
    refine ow_batch [.p, .p, .lenS 35 22 sl35, .p] rfl ?_
    refine ow_nil ?_
    refine x_qs ?_
    refine c_if rfl (fun hb => ?_) (fun hb => ?_)
    · have H := of_if_t hb H
      refine c_skip ?_
      refine x_qs ?_
      refine c_seq ?_
      refine c_block ?_
      refine c_reg ?_
      refine ow_batch [.p, .p, .p, .p] rfl ?_
      obtain ⟨e73, h74, H⟩ := of_bind H
      refine ow_ixB rfl rfl rfl rfl rfl sl35 ty22 rfl g0 h74 (fun q77 c78 hd75 hA76 => ?_)
      obtain ⟨a79, c80, rfl⟩ := rd_sl1 hd75
      refine ow_r rfl (dstOk_lt rfl) (ry_load1 rfl rfl ty22 (at_bor bor hA76)) ?_
      obtain ⟨y81, h82, H⟩ := of_bind H
      refine ow_callS rfl fn11 rfl rfl rfl rfl (fun w1 hw1 => laws_toIntS_ok w1  h82 (hw1.carve [] rfl rfl) (rds_bor hd75 w1 hw1)) (fun v83 w1 w2 hw1 hR85 => ?_)
      obtain ⟨a86, n87, c88, F89, rfl, hS84⟩ := hR85
      obtain rfl := own_nS (i := 0) hS84 rfl
      refine ⟨St w M0 [_, _], hw1.comp [] rfl rfl hS84, fun _ _ => trivial, ?_⟩
      obtain ⟨e90, h91, H⟩ := of_bind H
      refine ow_ex4 rfl (fun w1 hw1 => foc (r := 0) hw1 rfl h91) (fun b93 G94 F95 c96 => ?_)
      refine ow_fact rfl (fun w1 hw1 => hw1.1) (fun q92 => ?_)
      obtain ⟨ha97, hn98⟩ := q92
      refine ow_st (C' := St w M0 [_, _, _, _]) rfl (fun w1 hw1 => hw1.2) ?_
      refine ow_ex2 rfl (fun w1 hw1 => opn_sl (i := 3) hw1 rfl) (fun a99 c100 => ?_)
      refine ow_fact rfl (fun w1 hw1 => hw1.1) (fun q101 => ?_)
      subst q101
      refine ow_st (C' := St w M0 [_, _, _, _]) rfl (fun w1 hw1 => hw1.2) ?_
      refine ow_ixH rfl rfl rfl rfl rfl sl35 ty22 rfl (holeIn (p := 2) rfl) hn98 ha97 (idx_some h91).1 ?_
      refine ow_storeH (off := 0) [.slice a86 y81.length c88] (p := 2) (c' := [_]) rfl rfl rfl rfl rfl (by first | rfl | simp only [add_lit, add_add, add_zero]) rfl ty22 rfl rfl (by intro u hu; simp only [List.mem_cons, List.not_mem_nil, or_false] at hu; rcases hu with rfl <;> rfl) rfl rfl rfl kp ?_
      refine ow_nil ?_
      refine x_qb ?_
      refine x_qs ?_
      refine c_reg ?_
      refine ow_batch [.p, .p, .p] rfl ?_
      refine ow_nil ?_
      refine xw_ex (fun w1 hw1 => unf (p := 2) (q := 1) hw1 rfl rfl rfl hn98 ha97) (fun F102 => ?_)
      refine xw_st (C' := St w M0 [_, _, _, _, _]) (fun _ h => h) ?_
      exact x_ql (RW.at (ihk1 ((l37.set i39.toNat y81)) (F102) (IntKind.i64.wrap (i39 + 1)) (H)) (fun _ h => St.sel [4] rfl rfl h) ⟨rfl, rfl, rfl, trivial⟩)
    · have H := of_if_f hb H
      refine c_exit ?_
      refine x_qs_exit ?_
      refine x_ql_exit ?_
      refine x_qb_here ?_
      refine x_qs ?_
      refine c_seq ?_
      refine c_reg ?_
      refine ow_batch [.p, .p] rfl ?_
      refine ow_nil ?_
      refine x_qs ?_
      refine c_ret ?_
      exact x_retR (rs := [.tmp 2]) (vs := [.slice (some ⟨b3, 0, none⟩) l1.length l1.length]) rfl ⟨rfl, trivial⟩ (fun w' hw' => by
          obtain rfl := of_some H
          exact ⟨_, rfl, (some ⟨b3, 0, none⟩), l1.length, l1.length, F38, rfl, hw'.sel [0] rfl rfl⟩)

set_option maxHeartbeats 4000000 in
set_option maxRecDepth 100000 in
theorem laws_toWindow_ok (w : World) {M0 : List Nat} {p0 : Tlaws_Window} {cs0 : List Value} {r : Timpl_Window} (H : laws_toWindow p0 = some r) (HS : St w M0 [] w) (g0 : (eTlaws_Window).rd w M0 p0 cs0) :
    Calls Try.prog 24 #[.agg cs0.toArray] w (fun en w' => ∃ v, en = .returned v ∧ ∃ (a0 : Option Addr), ∃ (n0 : Nat), ∃ (c0 : Nat), ∃ (F0 : List Nat), v = .agg #[.slice a0 n0 c0] ∧ St w M0 [Res.own (eList (eList (eVal (Value.int .i64) (fun _ => rfl)) 3) 22) F0 r.Rows_ [.slice a0 n0 c0]] w') := by
  obtain ⟨c1, rfl, g2⟩ := rdo_Tlaws_Window g0
  obtain ⟨a3, c4, rfl⟩ := rd_sl1 g2
  unfold laws_toWindow at H
  refine f_enter (vs := [.agg #[.slice a3 p0.Rows_.length c4]]) Try.func24 rfl Try.ntmps24 rfl (HS) ?_
  refine c_seq ?_
  refine c_reg ?_
  refine ow_box (cs := [.slice a3 p0.Rows_.length c4]) rfl rfl rfl rfl rfl rfl (fun _ => kp) (fun b5 => ?_)
  refine ow_alloc rfl rfl rfl rfl ty40 (fun _ => kp) (fun b6 => ?_)
  refine ow_nil ?_
  refine x_qs ?_
  refine c_seq ?_
  refine c_reg ?_
  refine ow_alloc rfl rfl rfl rfl ty40 (fun _ => kp) (fun b7 => ?_)
  refine ow_nil ?_
  refine x_qs ?_
  refine c_seq ?_
  refine c_reg ?_
  refine ow_batch [.fa 37 0 0 fa37_0] rfl ?_
  refine ow_r rfl (dstOk_lt rfl) (ry_box1 (off := 0) rfl rfl ty35 (boxIn (i := 0) rfl) rfl) ?_
  obtain ⟨y8, h9, H⟩ := of_bind H
  refine ow_callS rfl fn54 rfl rfl rfl rfl (fun w1 hw1 => laws_toIntSS_ok w1  h9 (hw1.carve [] rfl rfl) (rds_bor g2 w1 hw1)) (fun v10 w1 w2 hw1 hR12 => ?_)
  obtain ⟨a13, n14, c15, F16, rfl, hS11⟩ := hR12
  obtain rfl := own_nS (i := 0) hS11 rfl
  refine ⟨St w M0 [_, _, _, _], hw1.comp [] rfl rfl hS11, fun _ _ => trivial, ?_⟩
  refine ow_batch [.fa 40 0 0 fa40_0] rfl ?_
  refine ow_storeC (off := 0) [.slice a13 y8.length c15] [_] (i := 2) rfl rfl rfl rfl rfl rfl ty35 rfl rfl (by intro u hu; simp only [List.mem_cons, List.not_mem_nil, or_false] at hu; rcases hu with rfl <;> rfl) rfl rfl rfl kp ?_
  refine ow_nil ?_
  refine x_qs ?_
  refine c_seq ?_
  refine c_reg ?_
  refine ow_r rfl (dstOk_lt rfl) (ry_box (off := 0) (ds := [.slice a13 y8.length c15]) rfl rfl ty40 (boxIn (i := 2) rfl) rfl rfl) ?_
  refine ow_storeC (off := 0) [.slice a13 y8.length c15] [_] (i := 1) rfl rfl rfl rfl rfl rfl ty40 rfl rfl (by intro u hu; simp only [List.mem_cons, List.not_mem_nil, or_false] at hu; rcases hu with rfl <;> rfl) rfl rfl rfl kp ?_
  refine ow_nil ?_
  refine x_qs ?_
  refine c_ret ?_
  exact x_retR (rs := [.cell 2 40]) (vs := [.agg #[.slice a13 y8.length c15]]) rfl ⟨⟨_, [.slice a13 y8.length c15], _, _, _, rfl, ty40, (at_box (T := 40) 0 (boxIn (i := 1) rfl) rfl), rfl, rfl⟩, trivial⟩ (fun w' hw' => by
      obtain rfl := of_some H
      exact ⟨_, rfl, a13, y8.length, c15, F16, rfl, hw'.sel [3] rfl rfl⟩)

set_option maxHeartbeats 4000000 in
set_option maxRecDepth 100000 in
theorem spec_l1In_ok (w : World) {p0 : Int} {p1 : Int} {p2 : Int}  {r : Bool} (H : spec_l1In p0 p1 p2 = some r)   :
    Calls Try.prog 80 #[.int .i64 p0, .int .i64 p1, .int .i64 p2] w (fun en w' => en = .returned (.bool r) ∧ Ext [] w w') := by
  unfold spec_l1In at H
  refine f_enter (vs := [.int .i64 p0, .int .i64 p1, .int .i64 p2]) Try.func80 rfl Try.ntmps80 rfl (St.init w []) ?_
  refine c_seq ?_
  refine c_reg ?_
  refine ow_batch [.p] rfl ?_
  refine ow_nil ?_
  refine x_qs ?_
  refine c_seq ?_
  refine c_reg ?_
  refine ow_batch [.p, .p, .p, .p] rfl ?_
  refine ow_cut [(14, .bool ((decide (p0 ≥ p1)) && (decide (p0 ≤ p2)))), (6, .bool false)] 4 ?_ (fun key => OW.sub (R := [(0, .int .i64 p0), (2, .int .i64 p2), (6, .bool false), (10, .bool (decide (p0 ≥ p1)))]) ?_ ⟨rfl, rfl, rfl, rfl, trivial⟩)
  · refine ow_batch [.p] rfl ?_
    refine ow_nil ?_
    refine x_qs ?_
    refine c_ret ?_
    exact x_retR (rs := [.tmp 6]) (vs := [.bool ((decide (p0 ≥ p1)) && (decide (p0 ≤ p2)))]) rfl ⟨rfl, trivial⟩ (fun w' hw' => by
        obtain rfl := of_some H
        exact ⟨rfl, hw'.ext⟩)
  · generalize (decide (p0 ≥ p1)) = t2 at key ⊢
    cases t2
    · refine ow_batch [.p, .p, .p, .p] rfl ?_
      exact OW.sub key ⟨rfl, rfl, trivial⟩
    · refine ow_batch [.p, .p, .p] rfl ?_
      refine ow_batch [.p] rfl ?_
      exact OW.sub key ⟨rfl, rfl, trivial⟩

set_option maxHeartbeats 4000000 in
set_option maxRecDepth 100000 in
theorem spec_l27Fits_ok (w : World) {p0 : List Int} {a_0 : Option Addr} {n_0 c_0 : Nat} {r : Bool} (H : spec_l27Fits p0 = some r)  (g0 : (eList (eVal (Value.int .i64) (fun _ => rfl)) 3).rd w [] p0 [.slice a_0 n_0 c_0]) :
    Calls Try.prog 46 #[.slice a_0 n_0 c_0] w (fun en w' => en = .returned (.bool r) ∧ Ext [] w w') := by
  obtain rfl := rd_n g0
  unfold spec_l27Fits at H
  refine f_enter (vs := [.slice a_0 p0.length c_0]) Try.func46 rfl Try.ntmps46 rfl (St.init w []) ?_
  refine c_seq ?_
  refine c_reg ?_
  refine ow_batch [.p] rfl ?_
  refine ow_nil ?_
  refine x_qs ?_
  refine c_seq ?_
  refine c_seq ?_
  refine c_reg ?_
  refine ow_batch [.p] rfl ?_
  refine ow_nil ?_
  refine x_qs ?_
  refine c_block ?_
  refine CW.at (loopI1 (fun (i6 : Int) => St w [] []) (fun (i6 : Int) => [(0, .slice a_0 p0.length c_0), (3, .int .i64 i6)]) (fun kk => fun (i6 : Int) => spec_l27Fits_L1 p0 kk i6 = some r) (fun _ H => ?_) (fun k1 ihk1 i6 H => ?_) Fuel (0) (H)) (fun _ h => St.sel [] rfl rfl h) ⟨rfl, rfl,  trivial⟩
  · unfold spec_l27Fits_L1 at H
    exact absurd H (by simp)
  · unfold spec_l27Fits_L1 at H
    refine c_seq ?_
    refine c_seq ?_
    refine c_reg ?_
    refine ow_batch [.p, .p, .lenS 22 3 sl22, .p] rfl ?_
    refine ow_nil ?_
    refine x_qs ?_
    refine c_if rfl (fun hb => ?_) (fun hb => ?_)
    · have H := of_if_t hb H
      refine c_skip ?_
      refine x_qs ?_
      refine c_seq ?_
      refine c_block ?_
      refine c_seq ?_
      refine c_reg ?_
      refine ow_batch [.p, .p] rfl ?_
      obtain ⟨e12, h13, H⟩ := of_bind H
      refine ow_ixE (e := eVal (Value.int .i64) (fun _ => rfl)) (xs := p0) (j := i6) rfl rfl rfl rfl rfl sl22 ty3 rfl (fun w1 hw1 => rds_bor g0 w1 hw1) h13 (by rw [Nat.mul_one]) ?_
      refine ow_r rfl (dstOk_lt rfl) (ry_load1 rfl rfl ty3 (at_elV (fun w1 hw1 => rds_bor g0 w1 hw1) h13)) ?_
      obtain ⟨y14, h15, H⟩ := of_bind H
      refine ow_q rfl rfl (dstOk_lt rfl) (qy_call rfl fn80 rfl (fun w1 hw1 => spec_l1In_ok w1  h15)) (fun _ _ => trivial) ?_
      refine ow_batch [.p] rfl ?_
      refine ow_nil ?_
      refine x_qs ?_
      refine c_if rfl (fun hb => ?_) (fun hb => ?_)
      · have H := of_if_t hb H
        refine c_seq ?_
        refine c_reg ?_
        refine ow_batch [.p] rfl ?_
        refine ow_nil ?_
        refine x_qs ?_
        refine c_ret ?_
        refine x_qb_ret ?_
        refine x_qs_ret ?_
        refine x_ql_ret ?_
        refine x_qb_ret ?_
        refine x_qs_ret ?_
        exact x_retR (rs := [.tmp 2]) (vs := [.bool false]) rfl ⟨rfl, trivial⟩ (fun w' hw' => by
            obtain rfl := of_some H
            exact ⟨rfl, hw'.ext⟩)
      · have H := of_if_f hb H
        refine c_skip ?_
        refine x_qb ?_
        refine x_qs ?_
        refine c_reg ?_
        refine ow_batch [.p, .p, .p] rfl ?_
        refine ow_nil ?_
        exact x_ql (RW.at (ihk1 (IntKind.i64.wrap (i6 + 1)) (H)) (fun _ h => St.sel [] rfl rfl h) ⟨rfl, rfl, trivial⟩)
    · have H := of_if_f hb H
      refine c_exit ?_
      refine x_qs_exit ?_
      refine x_ql_exit ?_
      refine x_qb_here ?_
      refine x_qs ?_
      refine c_seq ?_
      refine c_reg ?_
      refine ow_batch [.p] rfl ?_
      refine ow_nil ?_
      refine x_qs ?_
      refine c_ret ?_
      exact x_retR (rs := [.tmp 2]) (vs := [.bool true]) rfl ⟨rfl, trivial⟩ (fun w' hw' => by
          obtain rfl := of_some H
          exact ⟨rfl, hw'.ext⟩)

set_option maxHeartbeats 4000000 in
set_option maxRecDepth 100000 in
theorem spec_PutNum_ok (w : World) {M0 : List Nat} {p0 : Int}  {r : List Int} (H : spec_PutNum p0 = some r) (HS : St w M0 [] w)  :
    Calls Try.prog 81 #[.int .i64 p0] w (fun en w' => ∃ v, en = .returned v ∧ ∃ (a0 : Option Addr), ∃ (n0 : Nat), ∃ (c0 : Nat), ∃ (F0 : List Nat), v = .slice a0 n0 c0 ∧ St w M0 [Res.own (eList (eVal (Value.int .u8) (fun _ => rfl)) 5) F0 r [.slice a0 n0 c0]] w') := by
  unfold spec_PutNum at H
  refine f_enter (vs := [.int .i64 p0]) Try.func81 rfl Try.ntmps81 rfl (HS) ?_
  refine c_seq ?_
  refine c_reg ?_
  refine ow_batch [.p] rfl ?_
  refine ow_nil ?_
  refine x_qs ?_
  refine c_seq ?_
  refine c_reg ?_
  refine ow_blit0 (e := eVal (Value.int .u8) (fun _ => rfl)) rfl rfl rfl rfl sl23 ty5 (fun _ => kp) (fun b1 => ?_)
  refine ow_batch [.p] rfl ?_
  refine ow_nil ?_
  refine x_qs ?_
  refine c_seq ?_
  refine c_seq ?_
  refine c_reg ?_
  refine ow_batch [.p] rfl ?_
  obtain ⟨y2, h3, H⟩ := of_bind H
  refine ow_q rfl rfl (dstOk_lt rfl) (qy_call rfl fn80 rfl (fun w1 hw1 => spec_l1In_ok w1  h3)) (fun _ _ => trivial) ?_
  refine ow_batch [.p] rfl ?_
  refine ow_nil ?_
  refine x_qs ?_
  refine c_if rfl (fun hb => ?_) (fun hb => ?_)
  · have H := of_if_t hb H
    refine c_seq ?_
    refine c_reg ?_
    refine ow_batch [.p, .p] rfl ?_
    refine ow_nil ?_
    refine x_qs ?_
    refine c_ret ?_
    refine x_qs_ret ?_
    exact x_retR (rs := [.tmp 2]) (vs := [.slice (some ⟨b1, 0, none⟩) 0 0]) rfl ⟨rfl, trivial⟩ (fun w' hw' => by
        obtain rfl := of_some H
        exact ⟨_, rfl, (some ⟨b1, 0, none⟩), 0, 0, [b1], rfl, hw'.sel [0] rfl rfl⟩)
  · have H := of_if_f hb H
    refine c_skip ?_
    refine x_qs ?_
    refine c_seq ?_
    refine c_block ?_
    refine CW.at (loopI5 (fun (i16 : Int) (l17 : List Int) (a18 : Option Addr) (c19 : Nat) (F20 : List Nat) => St w M0 [Res.own (eList (eVal (Value.int .u8) (fun _ => rfl)) 5) F20 l17 [.slice a18 l17.length c19]]) (fun (i16 : Int) (l17 : List Int) (a18 : Option Addr) (c19 : Nat) (F20 : List Nat) => [(0, .int .i64 i16), (3, .slice a18 l17.length c19)]) (fun kk => fun (i16 : Int) (l17 : List Int) (a18 : Option Addr) (c19 : Nat) (F20 : List Nat) => spec_PutNum_L1 kk i16 l17 = some r) (fun _ _ _ _ _ H => ?_) (fun k1 ihk1 i16 l17 a18 c19 F20 H => ?_) Fuel (p0) (([] : List Int)) ((some ⟨b1, 0, none⟩)) (0) ([b1]) (H)) (fun _ h => St.sel [0] rfl rfl h) ⟨rfl, rfl,  trivial⟩
    · unfold spec_PutNum_L1 at H
      exact absurd H (by simp)
    · unfold spec_PutNum_L1 at H
      refine c_seq ?_
      refine c_seq ?_
      refine c_reg ?_
      refine ow_batch [.p, .p] rfl ?_
      refine ow_nil ?_
      refine x_qs ?_
      refine c_if rfl (fun hb => ?_) (fun hb => ?_)
      · have H := of_if_t hb H
        refine c_skip ?_
        refine x_qs ?_
        refine c_block ?_
        refine c_seq ?_
        refine c_reg ?_
        refine ow_batch [.p, .p, .p, .p, .cv 3 5 .u8 us3 in5] rfl ?_
        refine ow_blit (val := Value.int .u8) (h1 := fun _ => rfl) [IntKind.u8.wrap (IntKind.i64.wrap ((Int.tmod i16 128) + 128))] [(0, [.int .u8 (IntKind.u8.wrap (IntKind.i64.wrap ((Int.tmod i16 128) + 128)))])] rfl rfl rfl rfl rfl sl23 ty5 rfl rfl rfl ⟨rfl, rfl, Nat.le_of_ble_eq_true rfl,  trivial⟩ rfl rfl (fun _ => kp) (fun b33 => ?_)
        obtain ⟨l34, h35, H⟩ := of_bind H
        refine ow_appR (r := 0) (ys := ([IntKind.u8.wrap (IntKind.i64.wrap ((Int.tmod i16 128) + 128))] : List Int)) rfl rfl rfl rfl rfl rfl sl23 ty5 rfl rfl rfl (fun w1 hw1 => rds_own (r := 1) rfl w1 hw1) h35 (fun _ _ _ => kp) (fun a36 c37 F38 => ?_)
        refine ow_fact rfl (fun w1 hw1 => own_nn (i := 0) hw1 rfl (app_ne h35)) (fun hz39 => ?_)
        refine ow_batch [.p] rfl ?_
        refine ow_nil ?_
        refine x_qs ?_
        refine c_reg ?_
        refine ow_batch [.p, .p, .p] rfl ?_
        refine ow_nil ?_
        refine x_qb ?_
        exact x_ql (RW.at (ihk1 (IntKind.i64.wrap (Int.tdiv i16 128)) (l34) (a36) (c37) (F38) (H)) (fun _ h => St.sel [0] rfl rfl h) ⟨rfl, rfl, trivial⟩)
      · have H := of_if_f hb H
        refine c_exit ?_
        refine x_qs_exit ?_
        refine x_ql_exit ?_
        refine x_qb_here ?_
        refine x_qs ?_
        refine c_seq ?_
        refine c_reg ?_
        refine ow_batch [.p, .p, .cv 3 5 .u8 us3 in5] rfl ?_
        refine ow_blit (val := Value.int .u8) (h1 := fun _ => rfl) [IntKind.u8.wrap i16] [(0, [.int .u8 (IntKind.u8.wrap i16)])] rfl rfl rfl rfl rfl sl23 ty5 rfl rfl rfl ⟨rfl, rfl, Nat.le_of_ble_eq_true rfl,  trivial⟩ rfl rfl (fun _ => kp) (fun b40 => ?_)
        obtain ⟨l41, h42, H⟩ := of_bind H
        refine ow_appR (r := 0) (ys := ([IntKind.u8.wrap i16] : List Int)) rfl rfl rfl rfl rfl rfl sl23 ty5 rfl rfl rfl (fun w1 hw1 => rds_own (r := 1) rfl w1 hw1) h42 (fun _ _ _ => kp) (fun a43 c44 F45 => ?_)
        refine ow_fact rfl (fun w1 hw1 => own_nn (i := 0) hw1 rfl (app_ne h42)) (fun hz46 => ?_)
        refine ow_batch [.p] rfl ?_
        refine ow_nil ?_
        refine x_qs ?_
        refine c_ret ?_
        exact x_retR (rs := [.tmp 2]) (vs := [.slice a43 l41.length c44]) rfl ⟨rfl, trivial⟩ (fun w' hw' => by
            obtain rfl := of_some H
            exact ⟨_, rfl, a43, l41.length, c44, F45, rfl, hw'.sel [0] rfl rfl⟩)

set_option maxHeartbeats 4000000 in
set_option maxRecDepth 100000 in
theorem spec_PutInt_ok (w : World) {M0 : List Nat} {p0 : Int}  {r : List Int} (H : spec_PutInt p0 = some r) (HS : St w M0 [] w)  :
    Calls Try.prog 47 #[.int .i64 p0] w (fun en w' => ∃ v, en = .returned v ∧ ∃ (a0 : Option Addr), ∃ (n0 : Nat), ∃ (c0 : Nat), ∃ (F0 : List Nat), v = .slice a0 n0 c0 ∧ St w M0 [Res.own (eList (eVal (Value.int .u8) (fun _ => rfl)) 5) F0 r [.slice a0 n0 c0]] w') := by
  unfold spec_PutInt at H
  refine f_enter (vs := [.int .i64 p0]) Try.func47 rfl Try.ntmps47 rfl (HS) ?_
  refine c_seq ?_
  refine c_reg ?_
  refine ow_batch [.p] rfl ?_
  refine ow_nil ?_
  refine x_qs ?_
  refine c_seq ?_
  refine c_seq ?_
  refine c_reg ?_
  refine ow_batch [.p] rfl ?_
  obtain ⟨y1, h2, H⟩ := of_bind H
  refine ow_q rfl rfl (dstOk_lt rfl) (qy_call rfl fn80 rfl (fun w1 hw1 => spec_l1In_ok w1  h2)) (fun _ _ => trivial) ?_
  refine ow_batch [.p] rfl ?_
  refine ow_nil ?_
  refine x_qs ?_
  refine c_if rfl (fun hb => ?_) (fun hb => ?_)
  · have H := of_if_t hb H
    refine c_seq ?_
    refine c_reg ?_
    refine ow_blit0 (e := eVal (Value.int .u8) (fun _ => rfl)) rfl rfl rfl rfl sl23 ty5 (fun _ => kp) (fun b3 => ?_)
    refine ow_batch [.p] rfl ?_
    refine ow_nil ?_
    refine x_qs ?_
    refine c_ret ?_
    refine x_qs_ret ?_
    exact x_retR (rs := [.tmp 2]) (vs := [.slice (some ⟨b3, 0, none⟩) 0 0]) rfl ⟨rfl, trivial⟩ (fun w' hw' => by
        obtain rfl := of_some H
        exact ⟨_, rfl, (some ⟨b3, 0, none⟩), 0, 0, [b3], rfl, hw'.sel [0] rfl rfl⟩)
  · have H := of_if_f hb H
    refine c_skip ?_
    refine x_qs ?_
    refine c_seq ?_
    refine c_seq ?_
    refine c_reg ?_
    refine ow_batch [.p, .p] rfl ?_
    refine ow_nil ?_
    refine x_qs ?_
    refine c_if rfl (fun hb => ?_) (fun hb => ?_)
    · have H := of_if_t hb H
      refine c_seq ?_
      refine c_reg ?_
      refine ow_batch [.p, .p, .p, .p] rfl ?_
      obtain ⟨y4, h5, H⟩ := of_bind H
      refine ow_callS rfl fn81 rfl rfl rfl rfl (fun w1 hw1 => spec_PutNum_ok w1  h5 (hw1.carve [] rfl rfl)) (fun v6 w1 w2 hw1 hR8 => ?_)
      obtain ⟨a9, n10, c11, F12, rfl, hS7⟩ := hR8
      obtain rfl := own_nS (i := 0) hS7 rfl
      refine ⟨St w M0 [_], hw1.comp [] rfl rfl hS7, fun _ _ => trivial, ?_⟩
      refine ow_batch [.p] rfl ?_
      refine ow_nil ?_
      refine x_qs ?_
      refine c_ret ?_
      refine x_qs_ret ?_
      exact x_retR (rs := [.tmp 2]) (vs := [.slice a9 y4.length c11]) rfl ⟨rfl, trivial⟩ (fun w' hw' => by
          obtain rfl := of_some H
          exact ⟨_, rfl, a9, y4.length, c11, F12, rfl, hw'.sel [0] rfl rfl⟩)
    · have H := of_if_f hb H
      refine c_skip ?_
      refine x_qs ?_
      refine c_seq ?_
      refine c_reg ?_
      refine ow_batch [.p, .p] rfl ?_
      obtain ⟨y13, h14, H⟩ := of_bind H
      refine ow_callS rfl fn81 rfl rfl rfl rfl (fun w1 hw1 => spec_PutNum_ok w1  h14 (hw1.carve [] rfl rfl)) (fun v15 w1 w2 hw1 hR17 => ?_)
      obtain ⟨a18, n19, c20, F21, rfl, hS16⟩ := hR17
      obtain rfl := own_nS (i := 0) hS16 rfl
      refine ⟨St w M0 [_], hw1.comp [] rfl rfl hS16, fun _ _ => trivial, ?_⟩
      refine ow_batch [.p] rfl ?_
      refine ow_nil ?_
      refine x_qs ?_
      refine c_ret ?_
      exact x_retR (rs := [.tmp 2]) (vs := [.slice a18 y13.length c20]) rfl ⟨rfl, trivial⟩ (fun w' hw' => by
          obtain rfl := of_some H
          exact ⟨_, rfl, a18, y13.length, c20, F21, rfl, hw'.sel [0] rfl rfl⟩)

set_option maxHeartbeats 4000000 in
set_option maxRecDepth 100000 in
theorem spec_PutInts_ok (w : World) {M0 : List Nat} {p0 : List Int} {a_0 : Option Addr} {n_0 c_0 : Nat} {r : List Int} (H : spec_PutInts p0 = some r) (HS : St w M0 [] w) (g0 : (eList (eVal (Value.int .i64) (fun _ => rfl)) 3).rd w M0 p0 [.slice a_0 n_0 c_0]) :
    Calls Try.prog 10 #[.slice a_0 n_0 c_0] w (fun en w' => ∃ v, en = .returned v ∧ ∃ (a0 : Option Addr), ∃ (n0 : Nat), ∃ (c0 : Nat), ∃ (F0 : List Nat), v = .slice a0 n0 c0 ∧ St w M0 [Res.own (eList (eVal (Value.int .u8) (fun _ => rfl)) 5) F0 r [.slice a0 n0 c0]] w') := by
  obtain rfl := rd_n g0
  unfold spec_PutInts at H
  refine f_enter (vs := [.slice a_0 p0.length c_0]) Try.func10 rfl Try.ntmps10 rfl (HS) ?_
  refine c_seq ?_
  refine c_reg ?_
  refine ow_batch [.p] rfl ?_
  refine ow_nil ?_
  refine x_qs ?_
  refine c_seq ?_
  refine c_seq ?_
  refine c_reg ?_
  refine ow_batch [.p] rfl ?_
  obtain ⟨y1, h2, H⟩ := of_bind H
  refine ow_q rfl rfl (dstOk_lt rfl) (qy_call rfl fn46 rfl (fun w1 hw1 => spec_l27Fits_ok w1  h2 (rds_bor g0 w1 hw1))) (fun _ _ => trivial) ?_
  refine ow_batch [.p] rfl ?_
  refine ow_nil ?_
  refine x_qs ?_
  refine c_if rfl (fun hb => ?_) (fun hb => ?_)
  · have H := of_if_t hb H
    refine c_seq ?_
    refine c_reg ?_
    refine ow_blit0 (e := eVal (Value.int .u8) (fun _ => rfl)) rfl rfl rfl rfl sl23 ty5 (fun _ => kp) (fun b3 => ?_)
    refine ow_batch [.p] rfl ?_
    refine ow_nil ?_
    refine x_qs ?_
    refine c_ret ?_
    refine x_qs_ret ?_
    exact x_retR (rs := [.tmp 2]) (vs := [.slice (some ⟨b3, 0, none⟩) 0 0]) rfl ⟨rfl, trivial⟩ (fun w' hw' => by
        obtain rfl := of_some H
        exact ⟨_, rfl, (some ⟨b3, 0, none⟩), 0, 0, [b3], rfl, hw'.sel [0] rfl rfl⟩)
  · have H := of_if_f hb H
    refine c_skip ?_
    refine x_qs ?_
    refine c_seq ?_
    refine c_reg ?_
    refine ow_batch [.p, .lenS 22 3 sl22] rfl ?_
    obtain ⟨y4, h5, H⟩ := of_bind H
    refine ow_callS rfl fn47 rfl rfl rfl rfl (fun w1 hw1 => spec_PutInt_ok w1  h5 (hw1.carve [] rfl rfl)) (fun v6 w1 w2 hw1 hR8 => ?_)
    obtain ⟨a9, n10, c11, F12, rfl, hS7⟩ := hR8
    obtain rfl := own_nS (i := 0) hS7 rfl
    refine ⟨St w M0 [_], hw1.comp [] rfl rfl hS7, fun _ _ => trivial, ?_⟩
    refine ow_batch [.p] rfl ?_
    refine ow_nil ?_
    refine x_qs ?_
    refine c_seq ?_
    refine c_seq ?_
    refine c_reg ?_
    refine ow_batch [.p] rfl ?_
    refine ow_nil ?_
    refine x_qs ?_
    refine c_block ?_
    refine CW.at (loopI5 (fun (l34 : List Int) (a35 : Option Addr) (c36 : Nat) (F37 : List Nat) (i38 : Int) => St w M0 [Res.own (eList (eVal (Value.int .u8) (fun _ => rfl)) 5) F37 l34 [.slice a35 l34.length c36]]) (fun (l34 : List Int) (a35 : Option Addr) (c36 : Nat) (F37 : List Nat) (i38 : Int) => [(0, .slice a_0 p0.length c_0), (3, .slice a35 l34.length c36), (4, .int .i64 i38)]) (fun kk => fun (l34 : List Int) (a35 : Option Addr) (c36 : Nat) (F37 : List Nat) (i38 : Int) => spec_PutInts_L1 p0 kk l34 i38 = some r) (fun _ _ _ _ _ H => ?_) (fun k1 ihk1 l34 a35 c36 F37 i38 H => ?_) Fuel (y4) (a9) (c11) (F12) (0) (H)) (fun _ h => St.sel [0] rfl rfl h) ⟨rfl, rfl, rfl,  trivial⟩
    · unfold spec_PutInts_L1 at H
      exact absurd H (by simp)
    · unfold spec_PutInts_L1 at H
      refine c_seq ?_
      refine c_seq ?_
      refine c_reg ?_
      refine ow_batch [.p, .p, .lenS 22 3 sl22, .p] rfl ?_
      refine ow_nil ?_
      refine x_qs ?_
      refine c_if rfl (fun hb => ?_) (fun hb => ?_)
      · have H := of_if_t hb H
        refine c_skip ?_
        refine x_qs ?_
        refine c_seq ?_
        refine c_block ?_
        refine c_reg ?_
        refine ow_batch [.p, .p, .p] rfl ?_
        obtain ⟨e60, h61, H⟩ := of_bind H
        refine ow_ixE (e := eVal (Value.int .i64) (fun _ => rfl)) (xs := p0) (j := i38) rfl rfl rfl rfl rfl sl22 ty3 rfl (fun w1 hw1 => rds_bor g0 w1 hw1) h61 (by rw [Nat.mul_one]) ?_
        refine ow_r rfl (dstOk_lt rfl) (ry_load1 rfl rfl ty3 (at_elV (fun w1 hw1 => rds_bor g0 w1 hw1) h61)) ?_
        obtain ⟨y62, h63, H⟩ := of_bind H
        refine ow_callS rfl fn47 rfl rfl rfl rfl (fun w1 hw1 => spec_PutInt_ok w1  h63 (hw1.carve [] rfl rfl)) (fun v64 w1 w2 hw1 hR66 => ?_)
        obtain ⟨a67, n68, c69, F70, rfl, hS65⟩ := hR66
        obtain rfl := own_nS (i := 0) hS65 rfl
        refine ⟨St w M0 [_, _], hw1.comp [] rfl rfl hS65, fun _ _ => trivial, ?_⟩
        obtain ⟨l71, h72, H⟩ := of_bind H
        refine ow_appR (r := 0) (ys := y62) rfl rfl rfl rfl rfl rfl sl23 ty5 rfl rfl rfl (fun w1 hw1 => rds_own (r := 1) rfl w1 hw1) h72 (fun _ _ _ => kp) (fun a73 c74 F75 => ?_)
        refine ow_batch [.p] rfl ?_
        refine ow_nil ?_
        refine x_qb ?_
        refine x_qs ?_
        refine c_reg ?_
        refine ow_batch [.p, .p, .p] rfl ?_
        refine ow_nil ?_
        exact x_ql (RW.at (ihk1 (l71) (a73) (c74) (F75) (IntKind.i64.wrap (i38 + 1)) (H)) (fun _ h => St.sel [0] rfl rfl h) ⟨rfl, rfl, rfl, trivial⟩)
      · have H := of_if_f hb H
        refine c_exit ?_
        refine x_qs_exit ?_
        refine x_ql_exit ?_
        refine x_qb_here ?_
        refine x_qs ?_
        refine c_seq ?_
        refine c_reg ?_
        refine ow_batch [.p, .p] rfl ?_
        refine ow_nil ?_
        refine x_qs ?_
        refine c_ret ?_
        exact x_retR (rs := [.tmp 2]) (vs := [.slice a35 l34.length c36]) rfl ⟨rfl, trivial⟩ (fun w' hw' => by
            obtain rfl := of_some H
            exact ⟨_, rfl, a35, l34.length, c36, F37, rfl, hw'.sel [0] rfl rfl⟩)

set_option maxHeartbeats 4000000 in
set_option maxRecDepth 100000 in
theorem spec_l27PutLists_ok (w : World) {M0 : List Nat} {p0 : List (List Int)} {a_0 : Option Addr} {n_0 c_0 : Nat} {r : List Int} (H : spec_l27PutLists p0 = some r) (HS : St w M0 [] w) (g0 : (eList (eList (eVal (Value.int .i64) (fun _ => rfl)) 3) 22).rd w M0 p0 [.slice a_0 n_0 c_0]) :
    Calls Try.prog 53 #[.slice a_0 n_0 c_0] w (fun en w' => ∃ v, en = .returned v ∧ ∃ (a0 : Option Addr), ∃ (n0 : Nat), ∃ (c0 : Nat), ∃ (F0 : List Nat), v = .slice a0 n0 c0 ∧ St w M0 [Res.own (eList (eVal (Value.int .u8) (fun _ => rfl)) 5) F0 r [.slice a0 n0 c0]] w') := by
  obtain rfl := rd_n g0
  unfold spec_l27PutLists at H
  refine f_enter (vs := [.slice a_0 p0.length c_0]) Try.func53 rfl Try.ntmps53 rfl (HS) ?_
  refine c_seq ?_
  refine c_reg ?_
  refine ow_batch [.p] rfl ?_
  refine ow_nil ?_
  refine x_qs ?_
  refine c_seq ?_
  refine c_reg ?_
  refine ow_batch [.p, .lenS 35 22 sl35] rfl ?_
  obtain ⟨y1, h2, H⟩ := of_bind H
  refine ow_callS rfl fn47 rfl rfl rfl rfl (fun w1 hw1 => spec_PutInt_ok w1  h2 (hw1.carve [] rfl rfl)) (fun v3 w1 w2 hw1 hR5 => ?_)
  obtain ⟨a6, n7, c8, F9, rfl, hS4⟩ := hR5
  obtain rfl := own_nS (i := 0) hS4 rfl
  refine ⟨St w M0 [_], hw1.comp [] rfl rfl hS4, fun _ _ => trivial, ?_⟩
  refine ow_batch [.p] rfl ?_
  refine ow_nil ?_
  refine x_qs ?_
  refine c_seq ?_
  refine c_seq ?_
  refine c_reg ?_
  refine ow_batch [.p] rfl ?_
  refine ow_nil ?_
  refine x_qs ?_
  refine c_block ?_
  refine CW.at (loopI5 (fun (l37 : List Int) (a38 : Option Addr) (c39 : Nat) (F40 : List Nat) (i41 : Int) => St w M0 [Res.own (eList (eVal (Value.int .u8) (fun _ => rfl)) 5) F40 l37 [.slice a38 l37.length c39]]) (fun (l37 : List Int) (a38 : Option Addr) (c39 : Nat) (F40 : List Nat) (i41 : Int) => [(0, .slice a_0 p0.length c_0), (3, .slice a38 l37.length c39), (4, .int .i64 i41)]) (fun kk => fun (l37 : List Int) (a38 : Option Addr) (c39 : Nat) (F40 : List Nat) (i41 : Int) => spec_l27PutLists_L1 p0 kk l37 i41 = some r) (fun _ _ _ _ _ H => ?_) (fun k1 ihk1 l37 a38 c39 F40 i41 H => ?_) Fuel (y1) (a6) (c8) (F9) (0) (H)) (fun _ h => St.sel [0] rfl rfl h) ⟨rfl, rfl, rfl,  trivial⟩
  · unfold spec_l27PutLists_L1 at H
    exact absurd H (by simp)
  · unfold spec_l27PutLists_L1 at H
    refine c_seq ?_
    refine c_seq ?_
    refine c_reg ?_
    refine ow_batch [.p, .p, .lenS 35 22 sl35, .p] rfl ?_
    refine ow_nil ?_
    refine x_qs ?_
    refine c_if rfl (fun hb => ?_) (fun hb => ?_)
    · have H := of_if_t hb H
      refine c_skip ?_
      refine x_qs ?_
      refine c_seq ?_
      refine c_block ?_
      refine c_reg ?_
      refine ow_batch [.p, .p, .p] rfl ?_
      obtain ⟨e69, h70, H⟩ := of_bind H
      refine ow_ixB rfl rfl rfl rfl rfl sl35 ty22 rfl g0 h70 (fun q73 c74 hd71 hA72 => ?_)
      obtain ⟨a75, c76, rfl⟩ := rd_sl1 hd71
      refine ow_r rfl (dstOk_lt rfl) (ry_load1 rfl rfl ty22 (at_bor bor hA72)) ?_
      obtain ⟨y77, h78, H⟩ := of_bind H
      refine ow_callS rfl fn10 rfl rfl rfl rfl (fun w1 hw1 => spec_PutInts_ok w1  h78 (hw1.carve [] rfl rfl) (rds_bor hd71 w1 hw1)) (fun v79 w1 w2 hw1 hR81 => ?_)
      obtain ⟨a82, n83, c84, F85, rfl, hS80⟩ := hR81
      obtain rfl := own_nS (i := 0) hS80 rfl
      refine ⟨St w M0 [_, _], hw1.comp [] rfl rfl hS80, fun _ _ => trivial, ?_⟩
      obtain ⟨l86, h87, H⟩ := of_bind H
      refine ow_appR (r := 0) (ys := y77) rfl rfl rfl rfl rfl rfl sl23 ty5 rfl rfl rfl (fun w1 hw1 => rds_own (r := 1) rfl w1 hw1) h87 (fun _ _ _ => kp) (fun a88 c89 F90 => ?_)
      refine ow_batch [.p] rfl ?_
      refine ow_nil ?_
      refine x_qb ?_
      refine x_qs ?_
      refine c_reg ?_
      refine ow_batch [.p, .p, .p] rfl ?_
      refine ow_nil ?_
      exact x_ql (RW.at (ihk1 (l86) (a88) (c89) (F90) (IntKind.i64.wrap (i41 + 1)) (H)) (fun _ h => St.sel [0] rfl rfl h) ⟨rfl, rfl, rfl, trivial⟩)
    · have H := of_if_f hb H
      refine c_exit ?_
      refine x_qs_exit ?_
      refine x_ql_exit ?_
      refine x_qb_here ?_
      refine x_qs ?_
      refine c_seq ?_
      refine c_reg ?_
      refine ow_batch [.p, .p] rfl ?_
      refine ow_nil ?_
      refine x_qs ?_
      refine c_ret ?_
      exact x_retR (rs := [.tmp 2]) (vs := [.slice a38 l37.length c39]) rfl ⟨rfl, trivial⟩ (fun w' hw' => by
          obtain rfl := of_some H
          exact ⟨_, rfl, a38, l37.length, c39, F40, rfl, hw'.sel [0] rfl rfl⟩)

set_option maxHeartbeats 4000000 in
set_option maxRecDepth 100000 in
theorem spec_PutWindow_ok (w : World) {M0 : List Nat} {p0 : Timpl_Window} {cs0 : List Value} {r : List Int} (H : spec_PutWindow p0 = some r) (HS : St w M0 [] w) (g0 : (eTimpl_Window).rd w M0 p0 cs0) :
    Calls Try.prog 23 #[.agg cs0.toArray] w (fun en w' => ∃ v, en = .returned v ∧ ∃ (a0 : Option Addr), ∃ (n0 : Nat), ∃ (c0 : Nat), ∃ (F0 : List Nat), v = .slice a0 n0 c0 ∧ St w M0 [Res.own (eList (eVal (Value.int .u8) (fun _ => rfl)) 5) F0 r [.slice a0 n0 c0]] w') := by
  obtain ⟨c1, rfl, g2⟩ := rdo_Timpl_Window g0
  obtain ⟨a3, c4, rfl⟩ := rd_sl1 g2
  unfold spec_PutWindow at H
  refine f_enter (vs := [.agg #[.slice a3 p0.Rows_.length c4]]) Try.func23 rfl Try.ntmps23 rfl (HS) ?_
  refine c_seq ?_
  refine c_reg ?_
  refine ow_box (cs := [.slice a3 p0.Rows_.length c4]) rfl rfl rfl rfl rfl rfl (fun _ => kp) (fun b5 => ?_)
  refine ow_batch [.p] rfl ?_
  refine ow_nil ?_
  refine x_qs ?_
  refine c_seq ?_
  refine c_seq ?_
  refine c_reg ?_
  refine ow_batch [.p] rfl ?_
  refine ow_nil ?_
  refine x_qs ?_
  refine c_block ?_
  refine CW.at (loopI1 (fun (i18 : Int) => St w M0 [Res.box b5 40 [.slice a3 p0.Rows_.length c4]]) (fun (i18 : Int) => [(1, .pointer (some ⟨b5, 0, none⟩)), (3, .int .i64 i18)]) (fun kk => fun (i18 : Int) => spec_PutWindow_L1 p0 kk i18 = some r) (fun _ H => ?_) (fun k1 ihk1 i18 H => ?_) Fuel (0) (H)) (fun _ h => St.sel [0] rfl rfl h) ⟨rfl, rfl,  trivial⟩
  · unfold spec_PutWindow_L1 at H
    exact absurd H (by simp)
  · unfold spec_PutWindow_L1 at H
    refine c_seq ?_
    refine c_seq ?_
    refine c_reg ?_
    refine ow_batch [.p, .fa 40 0 0 fa40_0] rfl ?_
    refine ow_r rfl (dstOk_lt rfl) (ry_box1 (off := 0) rfl rfl ty35 (boxIn (i := 0) rfl) rfl) ?_
    refine ow_batch [.lenS 35 22 sl35, .p] rfl ?_
    refine ow_nil ?_
    refine x_qs ?_
    refine c_if rfl (fun hb => ?_) (fun hb => ?_)
    · have H := of_if_t hb H
      refine c_skip ?_
      refine x_qs ?_
      refine c_seq ?_
      refine c_block ?_
      refine c_seq ?_
      refine c_reg ?_
      refine ow_batch [.fa 40 0 0 fa40_0] rfl ?_
      refine ow_r rfl (dstOk_lt rfl) (ry_box1 (off := 0) rfl rfl ty35 (boxIn (i := 0) rfl) rfl) ?_
      refine ow_batch [.p] rfl ?_
      obtain ⟨e31, h32, H⟩ := of_bind H
      refine ow_ixB rfl rfl rfl rfl rfl sl35 ty22 rfl g2 h32 (fun q35 c36 hd33 hA34 => ?_)
      obtain ⟨a37, c38, rfl⟩ := rd_sl1 hd33
      refine ow_r rfl (dstOk_lt rfl) (ry_load1 rfl rfl ty22 (at_bor bor hA34)) ?_
      obtain ⟨y39, h40, H⟩ := of_bind H
      refine ow_q rfl rfl (dstOk_lt rfl) (qy_call rfl fn46 rfl (fun w1 hw1 => spec_l27Fits_ok w1  h40 (rds_bor hd33 w1 hw1))) (fun _ _ => trivial) ?_
      refine ow_batch [.p] rfl ?_
      refine ow_nil ?_
      refine x_qs ?_
      refine c_if rfl (fun hb => ?_) (fun hb => ?_)
      · have H := of_if_t hb H
        refine c_seq ?_
        refine c_reg ?_
        refine ow_blit0 (e := eVal (Value.int .u8) (fun _ => rfl)) rfl rfl rfl rfl sl23 ty5 (fun _ => kp) (fun b41 => ?_)
        refine ow_batch [.p] rfl ?_
        refine ow_nil ?_
        refine x_qs ?_
        refine c_ret ?_
        refine x_qb_ret ?_
        refine x_qs_ret ?_
        refine x_ql_ret ?_
        refine x_qb_ret ?_
        refine x_qs_ret ?_
        exact x_retR (rs := [.tmp 2]) (vs := [.slice (some ⟨b41, 0, none⟩) 0 0]) rfl ⟨rfl, trivial⟩ (fun w' hw' => by
            obtain rfl := of_some H
            exact ⟨_, rfl, (some ⟨b41, 0, none⟩), 0, 0, [b41], rfl, hw'.sel [1] rfl rfl⟩)
      · have H := of_if_f hb H
        refine c_skip ?_
        refine x_qb ?_
        refine x_qs ?_
        refine c_reg ?_
        refine ow_batch [.p, .p, .p] rfl ?_
        refine ow_nil ?_
        exact x_ql (RW.at (ihk1 (IntKind.i64.wrap (i18 + 1)) (H)) (fun _ h => St.sel [0] rfl rfl h) ⟨rfl, rfl, trivial⟩)
    · have H := of_if_f hb H
      refine c_exit ?_
      refine x_qs_exit ?_
      refine x_ql_exit ?_
      refine x_qb_here ?_
      refine x_qs ?_
      refine c_seq ?_
      refine c_reg ?_
      refine ow_batch [.fa 40 0 0 fa40_0] rfl ?_
      refine ow_r rfl (dstOk_lt rfl) (ry_box1 (off := 0) rfl rfl ty35 (boxIn (i := 0) rfl) rfl) ?_
      obtain ⟨y42, h43, H⟩ := of_bind H
      refine ow_callS rfl fn53 rfl rfl rfl rfl (fun w1 hw1 => spec_l27PutLists_ok w1  h43 (hw1.carve [] rfl rfl) (rds_bor g2 w1 hw1)) (fun v44 w1 w2 hw1 hR46 => ?_)
      obtain ⟨a47, n48, c49, F50, rfl, hS45⟩ := hR46
      obtain rfl := own_nS (i := 0) hS45 rfl
      refine ⟨St w M0 [_, _], hw1.comp [] rfl rfl hS45, fun _ _ => trivial, ?_⟩
      refine ow_batch [.p] rfl ?_
      refine ow_nil ?_
      refine x_qs ?_
      refine c_ret ?_
      exact x_retR (rs := [.tmp 2]) (vs := [.slice a47 y42.length c49]) rfl ⟨rfl, trivial⟩ (fun w' hw' => by
          obtain rfl := of_some H
          exact ⟨_, rfl, a47, y42.length, c49, F50, rfl, hw'.sel [1] rfl rfl⟩)

set_option maxHeartbeats 4000000 in
set_option maxRecDepth 100000 in
theorem impl_within_ok (w : World) {p0 : Int} {p1 : Int} {p2 : Int}  {r : Bool} (H : impl_within p0 p1 p2 = some r)   :
    Calls Try.prog 77 #[.int .i64 p0, .int .i64 p1, .int .i64 p2] w (fun en w' => en = .returned (.bool r) ∧ Ext [] w w') := by
  unfold impl_within at H
  refine f_enter (vs := [.int .i64 p0, .int .i64 p1, .int .i64 p2]) Try.func77 rfl Try.ntmps77 rfl (St.init w []) ?_
  refine c_seq ?_
  refine c_reg ?_
  refine ow_batch [.p] rfl ?_
  refine ow_nil ?_
  refine x_qs ?_
  refine c_seq ?_
  refine c_reg ?_
  refine ow_batch [.p, .p, .p, .p] rfl ?_
  refine ow_cut [(14, .bool ((decide (p0 ≥ p1)) && (decide (p0 ≤ p2)))), (6, .bool false)] 4 ?_ (fun key => OW.sub (R := [(0, .int .i64 p0), (2, .int .i64 p2), (6, .bool false), (10, .bool (decide (p0 ≥ p1)))]) ?_ ⟨rfl, rfl, rfl, rfl, trivial⟩)
  · refine ow_batch [.p] rfl ?_
    refine ow_nil ?_
    refine x_qs ?_
    refine c_ret ?_
    exact x_retR (rs := [.tmp 6]) (vs := [.bool ((decide (p0 ≥ p1)) && (decide (p0 ≤ p2)))]) rfl ⟨rfl, trivial⟩ (fun w' hw' => by
        obtain rfl := of_some H
        exact ⟨rfl, hw'.ext⟩)
  · generalize (decide (p0 ≥ p1)) = t2 at key ⊢
    cases t2
    · refine ow_batch [.p, .p, .p, .p] rfl ?_
      exact OW.sub key ⟨rfl, rfl, trivial⟩
    · refine ow_batch [.p, .p, .p] rfl ?_
      refine ow_batch [.p] rfl ?_
      exact OW.sub key ⟨rfl, rfl, trivial⟩

set_option maxHeartbeats 4000000 in
set_option maxRecDepth 100000 in
theorem impl_PutNum_ok (w : World) {M0 : List Nat} {p0 : Int}  {r : (List Int) × Bool} (H : impl_PutNum p0 = some r) (HS : St w M0 [] w)  :
    Calls Try.prog 78 #[.int .i64 p0] w (fun en w' => ∃ v, en = .returned v ∧ ∃ (a0 : Option Addr), ∃ (n0 : Nat), ∃ (c0 : Nat), ∃ (F0 : List Nat), v = .slice a0 n0 c0 ∧ a0.isNone = r.2 ∧ St w M0 [Res.own (eList (eVal (Value.int .u8) (fun _ => rfl)) 5) F0 r.1 [.slice a0 n0 c0]] w') := by
  unfold impl_PutNum at H
  refine f_enter (vs := [.int .i64 p0]) Try.func78 rfl Try.ntmps78 rfl (HS) ?_
  refine c_seq ?_
  refine c_reg ?_
  refine ow_batch [.p] rfl ?_
  refine ow_nil ?_
  refine x_qs ?_
  refine c_seq ?_
  refine c_seq ?_
  refine c_reg ?_
  refine ow_batch [.p] rfl ?_
  obtain ⟨y1, h2, H⟩ := of_bind H
  refine ow_q rfl rfl (dstOk_lt rfl) (qy_call rfl fn77 rfl (fun w1 hw1 => impl_within_ok w1  h2)) (fun _ _ => trivial) ?_
  refine ow_batch [.p] rfl ?_
  refine ow_nil ?_
  refine x_qs ?_
  refine c_if rfl (fun hb => ?_) (fun hb => ?_)
  · have H := of_if_t hb H
    refine c_seq ?_
    refine c_reg ?_
    refine ow_batch [.p] rfl ?_
    refine ow_nil ?_
    refine x_qs ?_
    refine c_ret ?_
    refine x_qs_ret ?_
    refine xw_st (fun _ h => St.pushNil (e := eVal (Value.int .u8) (fun _ => rfl)) (T := 5) h) ?_
    exact x_retR (rs := [.tmp 2]) (vs := [.slice none 0 0]) rfl ⟨rfl, trivial⟩ (fun w' hw' => by
        obtain rfl := of_some H
        exact ⟨_, rfl, none, 0, 0, [], rfl, rfl, hw'.sel [0] rfl rfl⟩)
  · have H := of_if_f hb H
    refine c_skip ?_
    refine x_qs ?_
    refine c_seq ?_
    refine c_reg ?_
    refine ow_blit0 (e := eVal (Value.int .u8) (fun _ => rfl)) rfl rfl rfl rfl sl23 ty5 (fun _ => kp) (fun b3 => ?_)
    refine ow_batch [.p] rfl ?_
    refine ow_nil ?_
    refine x_qs ?_
    refine c_seq ?_
    refine c_block ?_
    refine CW.at (loopI5 (fun (i16 : Int) (l17 : List Int) (a18 : Option Addr) (c19 : Nat) (F20 : List Nat) => St w M0 [Res.own (eList (eVal (Value.int .u8) (fun _ => rfl)) 5) F20 l17 [.slice a18 l17.length c19]]) (fun (i16 : Int) (l17 : List Int) (a18 : Option Addr) (c19 : Nat) (F20 : List Nat) => [(0, .int .i64 i16), (3, .slice a18 l17.length c19)]) (fun kk => fun (i16 : Int) (l17 : List Int) (a18 : Option Addr) (c19 : Nat) (F20 : List Nat) => impl_PutNum_L1 kk i16 l17 = some r) (fun _ _ _ _ _ H => ?_) (fun k1 ihk1 i16 l17 a18 c19 F20 H => ?_) Fuel (p0) (([] : List Int)) ((some ⟨b3, 0, none⟩)) (0) ([b3]) (H)) (fun _ h => St.sel [0] rfl rfl h) ⟨rfl, rfl,  trivial⟩
    · unfold impl_PutNum_L1 at H
      exact absurd H (by simp)
    · unfold impl_PutNum_L1 at H
      refine c_seq ?_
      refine c_seq ?_
      refine c_reg ?_
      refine ow_batch [.p, .p] rfl ?_
      refine ow_nil ?_
      refine x_qs ?_
      refine c_if rfl (fun hb => ?_) (fun hb => ?_)
      · have H := of_if_t hb H
        refine c_skip ?_
        refine x_qs ?_
        refine c_block ?_
        refine c_seq ?_
        refine c_reg ?_
        refine ow_batch [.p, .p, .p, .p, .cv 3 5 .u8 us3 in5] rfl ?_
        refine ow_blit (val := Value.int .u8) (h1 := fun _ => rfl) [IntKind.u8.wrap (ibits .or .i64 (ibits .and .i64 i16 127) 128)] [(0, [.int .u8 (IntKind.u8.wrap (ibits .or .i64 (ibits .and .i64 i16 127) 128))])] rfl rfl rfl rfl rfl sl23 ty5 rfl rfl rfl ⟨rfl, rfl, Nat.le_of_ble_eq_true rfl,  trivial⟩ rfl rfl (fun _ => kp) (fun b33 => ?_)
        obtain ⟨l34, h35, H⟩ := of_bind H
        refine ow_appR (r := 0) (ys := ([IntKind.u8.wrap (ibits .or .i64 (ibits .and .i64 i16 127) 128)] : List Int)) rfl rfl rfl rfl rfl rfl sl23 ty5 rfl rfl rfl (fun w1 hw1 => rds_own (r := 1) rfl w1 hw1) h35 (fun _ _ _ => kp) (fun a36 c37 F38 => ?_)
        refine ow_fact rfl (fun w1 hw1 => own_nn (i := 0) hw1 rfl (app_ne h35)) (fun hz39 => ?_)
        refine ow_batch [.p] rfl ?_
        refine ow_nil ?_
        refine x_qs ?_
        refine c_reg ?_
        refine ow_batch [.p, .p, .p] rfl ?_
        refine ow_nil ?_
        refine x_qb ?_
        exact x_ql (RW.at (ihk1 (ishr .i64 i16 7) (l34) (a36) (c37) (F38) (H)) (fun _ h => St.sel [0] rfl rfl h) ⟨rfl, rfl, trivial⟩)
      · have H := of_if_f hb H
        refine c_exit ?_
        refine x_qs_exit ?_
        refine x_ql_exit ?_
        refine x_qb_here ?_
        refine x_qs ?_
        refine c_seq ?_
        refine c_reg ?_
        refine ow_batch [.p, .p, .cv 3 5 .u8 us3 in5] rfl ?_
        refine ow_blit (val := Value.int .u8) (h1 := fun _ => rfl) [IntKind.u8.wrap i16] [(0, [.int .u8 (IntKind.u8.wrap i16)])] rfl rfl rfl rfl rfl sl23 ty5 rfl rfl rfl ⟨rfl, rfl, Nat.le_of_ble_eq_true rfl,  trivial⟩ rfl rfl (fun _ => kp) (fun b40 => ?_)
        obtain ⟨l41, h42, H⟩ := of_bind H
        refine ow_appR (r := 0) (ys := ([IntKind.u8.wrap i16] : List Int)) rfl rfl rfl rfl rfl rfl sl23 ty5 rfl rfl rfl (fun w1 hw1 => rds_own (r := 1) rfl w1 hw1) h42 (fun _ _ _ => kp) (fun a43 c44 F45 => ?_)
        refine ow_fact rfl (fun w1 hw1 => own_nn (i := 0) hw1 rfl (app_ne h42)) (fun hz46 => ?_)
        refine ow_batch [.p] rfl ?_
        refine ow_nil ?_
        refine x_qs ?_
        refine c_ret ?_
        exact x_retR (rs := [.tmp 2]) (vs := [.slice a43 l41.length c44]) rfl ⟨rfl, trivial⟩ (fun w' hw' => by
            obtain rfl := of_some H
            exact ⟨_, rfl, a43, l41.length, c44, F45, rfl, hz46, hw'.sel [0] rfl rfl⟩)

set_option maxHeartbeats 4000000 in
set_option maxRecDepth 100000 in
theorem impl_PutInt_ok (w : World) {M0 : List Nat} {p0 : Int}  {r : (List Int) × Bool} (H : impl_PutInt p0 = some r) (HS : St w M0 [] w)  :
    Calls Try.prog 43 #[.int .i64 p0] w (fun en w' => ∃ v, en = .returned v ∧ ∃ (a0 : Option Addr), ∃ (n0 : Nat), ∃ (c0 : Nat), ∃ (F0 : List Nat), v = .slice a0 n0 c0 ∧ a0.isNone = r.2 ∧ St w M0 [Res.own (eList (eVal (Value.int .u8) (fun _ => rfl)) 5) F0 r.1 [.slice a0 n0 c0]] w') := by
  unfold impl_PutInt at H
  refine f_enter (vs := [.int .i64 p0]) Try.func43 rfl Try.ntmps43 rfl (HS) ?_
  refine c_seq ?_
  refine c_reg ?_
  refine ow_batch [.p] rfl ?_
  refine ow_nil ?_
  refine x_qs ?_
  refine c_seq ?_
  refine c_block ?_
  refine c_seq ?_
  refine c_reg ?_
  refine ow_batch [.p] rfl ?_
  obtain ⟨y1, h2, H⟩ := of_bind H
  refine ow_q rfl rfl (dstOk_lt rfl) (qy_call rfl fn77 rfl (fun w1 hw1 => impl_within_ok w1  h2)) (fun _ _ => trivial) ?_
  refine ow_batch [.p, .p] rfl ?_
  refine ow_nil ?_
  refine x_qs ?_
  refine c_if rfl (fun hb => ?_) (fun hb => ?_)
  · have H := of_if_t hb H
    refine c_seq ?_
    refine c_reg ?_
    refine ow_batch [.p] rfl ?_
    refine ow_nil ?_
    refine x_qs ?_
    refine c_ret ?_
    refine x_qb_ret ?_
    refine x_qs_ret ?_
    refine xw_st (fun _ h => St.pushNil (e := eVal (Value.int .u8) (fun _ => rfl)) (T := 5) h) ?_
    exact x_retR (rs := [.tmp 2]) (vs := [.slice none 0 0]) rfl ⟨rfl, trivial⟩ (fun w' hw' => by
        obtain rfl := of_some H
        exact ⟨_, rfl, none, 0, 0, [], rfl, rfl, hw'.sel [0] rfl rfl⟩)
  · have H := of_if_f hb H
    refine c_seq ?_
    refine c_reg ?_
    refine ow_batch [.p, .p, .p] rfl ?_
    refine ow_nil ?_
    refine x_qs ?_
    refine c_if rfl (fun hb => ?_) (fun hb => ?_)
    · have H := of_if_t hb H
      refine c_seq ?_
      refine c_reg ?_
      refine ow_batch [.p, .p, .p] rfl ?_
      obtain ⟨y3, h4, H⟩ := of_bind H
      refine ow_callS rfl fn78 rfl rfl rfl rfl (fun w1 hw1 => impl_PutNum_ok w1  h4 (hw1.carve [] rfl rfl)) (fun v5 w1 w2 hw1 hR7 => ?_)
      obtain ⟨a8, n9, c10, F11, rfl, hz12, hS6⟩ := hR7
      obtain rfl := own_nS (i := 0) hS6 rfl
      refine ⟨St w M0 [_], hw1.comp [] rfl rfl hS6, fun _ _ => trivial, ?_⟩
      refine ow_batch [.p] rfl ?_
      refine ow_nil ?_
      refine x_qs ?_
      refine c_ret ?_
      refine x_qb_ret ?_
      refine x_qs_ret ?_
      exact x_retR (rs := [.tmp 2]) (vs := [.slice a8 y3.1.length c10]) rfl ⟨rfl, trivial⟩ (fun w' hw' => by
          obtain rfl := of_some H
          exact ⟨_, rfl, a8, y3.1.length, c10, F11, rfl, hz12, hw'.sel [0] rfl rfl⟩)
    · have H := of_if_f hb H
      refine c_skip ?_
      refine x_qb ?_
      refine x_qs ?_
      refine c_seq ?_
      refine c_reg ?_
      refine ow_batch [.p, .p] rfl ?_
      obtain ⟨y13, h14, H⟩ := of_bind H
      refine ow_callS rfl fn78 rfl rfl rfl rfl (fun w1 hw1 => impl_PutNum_ok w1  h14 (hw1.carve [] rfl rfl)) (fun v15 w1 w2 hw1 hR17 => ?_)
      obtain ⟨a18, n19, c20, F21, rfl, hz22, hS16⟩ := hR17
      obtain rfl := own_nS (i := 0) hS16 rfl
      refine ⟨St w M0 [_], hw1.comp [] rfl rfl hS16, fun _ _ => trivial, ?_⟩
      refine ow_batch [.p] rfl ?_
      refine ow_nil ?_
      refine x_qs ?_
      refine c_ret ?_
      exact x_retR (rs := [.tmp 2]) (vs := [.slice a18 y13.1.length c20]) rfl ⟨rfl, trivial⟩ (fun w' hw' => by
          obtain rfl := of_some H
          exact ⟨_, rfl, a18, y13.1.length, c20, F21, rfl, hz22, hw'.sel [0] rfl rfl⟩)

set_option maxHeartbeats 4000000 in
set_option maxRecDepth 100000 in
theorem impl_writer_ints_ok (w : World) {M0 : List Nat} {p0 : Timpl_writer} {p1 : List Int} {b_0 : Nat} {a_0_1 : Option Addr} {n_0_1 c_0_1 : Nat} {F_0_1 : List Nat} {a_1 : Option Addr} {n_1 c_1 : Nat} {r : Timpl_writer} (H : impl_writer_ints p0 p1 = some r) (HS : St w M0 [Res.box b_0 69 [.slice a_0_1 n_0_1 c_0_1, .bool p0.bad_], Res.own (eList (eVal (Value.int .u8) (fun _ => rfl)) 5) F_0_1 p0.out_ [.slice a_0_1 n_0_1 c_0_1]] w) (g1 : (eList (eVal (Value.int .i64) (fun _ => rfl)) 3).rd w M0 p1 [.slice a_1 n_1 c_1]) :
    Calls Try.prog 82 #[.pointer (some ⟨b_0, 0, none⟩), .slice a_1 n_1 c_1] w (fun en w' => ∃ v, en = .returned v ∧ ∃ (a0 : Option Addr), ∃ (n0 : Nat), ∃ (c0 : Nat), ∃ (F0 : List Nat), v = .tuple #[] ∧ St w M0 [Res.box b_0 69 [.slice a0 n0 c0, .bool r.bad_], Res.own (eList (eVal (Value.int .u8) (fun _ => rfl)) 5) F0 r.out_ [.slice a0 n0 c0]] w') := by
  obtain rfl := own_nS (i := 1) HS rfl
  obtain rfl := rd_n g1
  unfold impl_writer_ints at H
  refine f_enter (vs := [.pointer (some ⟨b_0, 0, none⟩), .slice a_1 p1.length c_1]) Try.func82 rfl Try.ntmps82 rfl (HS) ?_
  refine c_seq ?_
  refine c_reg ?_
  refine ow_batch [.p, .lenS 22 3 sl22, .p] rfl ?_
  refine ow_nil ?_
  refine x_qs ?_
  refine c_block ?_
  refine CW.at (loopI6 (fun (l26 : List Int) (a27 : Option Addr) (c28 : Nat) (F29 : List Nat) (q30 : Bool) (i31 : Int) => St w M0 [Res.box b_0 69 [.slice a27 l26.length c28, .bool q30], Res.own (eList (eVal (Value.int .u8) (fun _ => rfl)) 5) F29 l26 [.slice a27 l26.length c28]]) (fun (l26 : List Int) (a27 : Option Addr) (c28 : Nat) (F29 : List Nat) (q30 : Bool) (i31 : Int) => [(0, .pointer (some ⟨b_0, 0, none⟩)), (7, .slice a_1 p1.length c_1), (8, .int .i64 (p1.length : Int)), (9, .int .i64 i31)]) (fun kk => fun (l26 : List Int) (a27 : Option Addr) (c28 : Nat) (F29 : List Nat) (q30 : Bool) (i31 : Int) => impl_writer_ints_L1 p1 kk l26 q30 i31 = some r) (fun _ _ _ _ _ _ H => ?_) (fun k1 ihk1 l26 a27 c28 F29 q30 i31 H => ?_) Fuel (p0.out_) (a_0_1) (c_0_1) (F_0_1) (p0.bad_) (0) (H)) (fun _ h => St.sel [0, 1] rfl rfl h) ⟨rfl, rfl, rfl, rfl,  trivial⟩
  · unfold impl_writer_ints_L1 at H
    exact absurd H (by simp)
  · unfold impl_writer_ints_L1 at H
    refine c_seq ?_
    refine c_reg ?_
    refine ow_batch [.p] rfl ?_
    refine ow_nil ?_
    refine x_qs ?_
    refine c_seq ?_
    refine c_if rfl (fun hb => ?_) (fun hb => ?_)
    · have H := of_if_t hb H
      refine c_skip ?_
      refine x_qs ?_
      refine c_seq ?_
      refine c_block ?_
      refine c_seq ?_
      refine c_reg ?_
      obtain ⟨e57, h58, H⟩ := of_bind H
      refine ow_ixE (e := eVal (Value.int .i64) (fun _ => rfl)) (xs := p1) (j := i31) rfl rfl rfl rfl rfl sl22 ty3 rfl (fun w1 hw1 => rds_bor g1 w1 hw1) h58 (by rw [Nat.mul_one]) ?_
      refine ow_r rfl (dstOk_lt rfl) (ry_load1 rfl rfl ty3 (at_elV (fun w1 hw1 => rds_bor g1 w1 hw1) h58)) ?_
      refine ow_batch [.p] rfl ?_
      refine ow_nil ?_
      refine x_qs ?_
      refine c_seq ?_
      refine c_reg ?_
      refine ow_batch [.p] rfl ?_
      obtain ⟨y59, h60, H⟩ := of_bind H
      refine ow_callS rfl fn43 rfl rfl rfl rfl (fun w1 hw1 => impl_PutInt_ok w1  h60 (hw1.carve [] rfl rfl)) (fun v61 w1 w2 hw1 hR63 => ?_)
      obtain ⟨a64, n65, c66, F67, rfl, hz68, hS62⟩ := hR63
      obtain rfl := own_nS (i := 0) hS62 rfl
      refine ⟨St w M0 [_, _, _], hw1.comp [] rfl rfl hS62, fun _ _ => trivial, ?_⟩
      refine ow_batch [.p] rfl ?_
      refine ow_nil ?_
      refine x_qs ?_
      refine c_seq ?_
      refine c_reg ?_
      refine ow_batch [.p, .p, .p, .fa 69 1 1 fa69_1] rfl ?_
      refine ow_r rfl (dstOk_lt rfl) (ry_box1 (off := 1) rfl rfl ty4 (boxIn (i := 0) rfl) rfl) ?_
      refine ow_batch [.p] rfl ?_
      refine ow_cut [(23, .bool (q30 || y59.2)), (0, .pointer (some ⟨b_0, 0, none⟩)), (6, .slice a64 y59.1.length c66), (7, .slice a_1 p1.length c_1), (8, .int .i64 (p1.length : Int)), (9, .int .i64 i31), (15, .pointer (some ⟨b_0, 0, none⟩))] 3 ?_ (fun key => OW.sub (R := [(0, .pointer (some ⟨b_0, 0, none⟩)), (6, .slice a64 y59.1.length c66), (7, .slice a_1 p1.length c_1), (8, .int .i64 (p1.length : Int)), (9, .int .i64 i31), (15, .pointer (some ⟨b_0, 0, none⟩)), (20, .bool q30)]) ?_ ⟨rfl, rfl, rfl, rfl, rfl, rfl, rfl, trivial⟩)
      · refine ow_batch [.p, .fa 69 1 1 fa69_1] rfl ?_
        refine ow_storeC (off := 1) [.bool (q30 || y59.2)] [_, _] (i := 0) rfl rfl rfl rfl rfl rfl ty4 rfl rfl (by intro u hu; simp only [List.mem_cons, List.not_mem_nil, or_false] at hu; rcases hu with rfl <;> rfl) rfl rfl rfl kp ?_
        refine ow_nil ?_
        refine x_qs ?_
        refine c_reg ?_
        refine ow_batch [.p, .p, .p, .fa 69 0 0 fa69_0] rfl ?_
        refine ow_r rfl (dstOk_lt rfl) (ry_box1 (off := 0) rfl rfl ty23 (boxIn (i := 0) rfl) rfl) ?_
        refine ow_batch [.p] rfl ?_
        obtain ⟨l71, h72, H⟩ := of_bind H
        refine ow_appR (r := 1) (ys := y59.1) rfl rfl rfl rfl rfl rfl sl23 ty5 rfl rfl rfl (fun w1 hw1 => rds_own (r := 2) rfl w1 hw1) h72 (fun _ _ _ => kp) (fun a73 c74 F75 => ?_)
        refine ow_batch [.p, .fa 69 0 0 fa69_0] rfl ?_
        refine ow_storeC (off := 0) [.slice a73 l71.length c74] [_, _] (i := 0) rfl rfl rfl rfl rfl rfl ty23 rfl rfl (by intro u hu; simp only [List.mem_cons, List.not_mem_nil, or_false] at hu; rcases hu with rfl <;> rfl) rfl rfl rfl kp ?_
        refine ow_nil ?_
        refine x_qb ?_
        refine x_qs ?_
        refine c_reg ?_
        refine ow_batch [.p, .p] rfl ?_
        refine ow_nil ?_
        exact x_ql (RW.at (ihk1 (l71) (a73) (c74) (F75) ((q30 || y59.2)) (IntKind.i64.wrap (i31 + 1)) (H)) (fun _ h => St.sel [0, 1] rfl rfl h) ⟨rfl, rfl, rfl, rfl, trivial⟩)
      · generalize q30 = t70 at key ⊢
        cases t70
        · refine ow_batch [.p] rfl ?_
          refine ow_r rfl (dstOk_lt rfl) (ry_nilB rfl rfl sl23 hz68) ?_
          refine ow_batch [.p] rfl ?_
          exact OW.sub key ⟨rfl, rfl, rfl, rfl, rfl, rfl, rfl, trivial⟩
        · refine ow_batch [.p, .p, .p] rfl ?_
          exact OW.sub key ⟨rfl, rfl, rfl, rfl, rfl, rfl, rfl, trivial⟩
    · have H := of_if_f hb H
      refine c_exit ?_
      refine x_qs_exit ?_
      refine x_ql_exit ?_
      refine x_qb_here ?_
      exact x_endR (rs := []) (vs := []) rfl trivial (fun w' hw' => by
          obtain rfl := of_some H
          exact ⟨_, rfl, a27, l26.length, c28, F29, rfl, hw'.sel [0, 1] rfl rfl⟩)

set_option maxHeartbeats 4000000 in
set_option maxRecDepth 100000 in
theorem impl_writer_list_ok (w : World) {M0 : List Nat} {p0 : Timpl_writer} {p1 : List Int} {b_0 : Nat} {a_0_1 : Option Addr} {n_0_1 c_0_1 : Nat} {F_0_1 : List Nat} {a_1 : Option Addr} {n_1 c_1 : Nat} {r : Timpl_writer} (H : impl_writer_list p0 p1 = some r) (HS : St w M0 [Res.box b_0 69 [.slice a_0_1 n_0_1 c_0_1, .bool p0.bad_], Res.own (eList (eVal (Value.int .u8) (fun _ => rfl)) 5) F_0_1 p0.out_ [.slice a_0_1 n_0_1 c_0_1]] w) (g1 : (eList (eVal (Value.int .i64) (fun _ => rfl)) 3).rd w M0 p1 [.slice a_1 n_1 c_1]) :
    Calls Try.prog 48 #[.pointer (some ⟨b_0, 0, none⟩), .slice a_1 n_1 c_1] w (fun en w' => ∃ v, en = .returned v ∧ ∃ (a0 : Option Addr), ∃ (n0 : Nat), ∃ (c0 : Nat), ∃ (F0 : List Nat), v = .tuple #[] ∧ St w M0 [Res.box b_0 69 [.slice a0 n0 c0, .bool r.bad_], Res.own (eList (eVal (Value.int .u8) (fun _ => rfl)) 5) F0 r.out_ [.slice a0 n0 c0]] w') := by
  obtain rfl := own_nS (i := 1) HS rfl
  obtain rfl := rd_n g1
  unfold impl_writer_list at H
  refine f_enter (vs := [.pointer (some ⟨b_0, 0, none⟩), .slice a_1 p1.length c_1]) Try.func48 rfl Try.ntmps48 rfl (HS) ?_
  refine c_seq ?_
  refine c_reg ?_
  refine ow_batch [.p, .p, .lenS 22 3 sl22] rfl ?_
  refine ow_blit (val := Value.int .i64) (h1 := fun _ => rfl) [(p1.length : Int)] [(0, [.int .i64 (p1.length : Int)])] rfl rfl rfl rfl rfl sl22 ty3 rfl rfl rfl ⟨rfl, rfl, Nat.le_of_ble_eq_true rfl,  trivial⟩ rfl rfl (fun _ => kp) (fun b1 => ?_)
  obtain ⟨y2, h3, H⟩ := of_bind H
  refine ow_callS rfl fn82 rfl rfl rfl rfl (fun w1 hw1 => impl_writer_ints_ok w1  h3 (hw1.carve [0, 1] rfl rfl) (rdO 2 [0, 1] rfl hw1 rfl rfl)) (fun v4 w1 w2 hw1 hR6 => ?_)
  obtain ⟨a7, n8, c9, F10, rfl, hS5⟩ := hR6
  obtain rfl := own_nS (i := 1) hS5 rfl
  refine ⟨St w M0 [_, _, _, _, _], hw1.comp [0, 1] rfl rfl hS5, fun _ _ => trivial, ?_⟩
  refine ow_nil ?_
  refine x_qs ?_
  refine CW.weak (C' := St w M0 [_, _, _]) ?_ (fun _ h => St.sel [2, 3, 4] rfl rfl h)
  refine c_reg ?_
  refine ow_batch [.p, .p] rfl ?_
  obtain ⟨y11, h12, H⟩ := of_bind H
  refine ow_callS rfl fn82 rfl rfl rfl rfl (fun w1 hw1 => impl_writer_ints_ok w1  h12 (hw1.carve [1, 2] rfl rfl) (rdB [1, 2] rfl rfl hw1 g1)) (fun v13 w1 w2 hw1 hR15 => ?_)
  obtain ⟨a16, n17, c18, F19, rfl, hS14⟩ := hR15
  obtain rfl := own_nS (i := 1) hS14 rfl
  refine ⟨St w M0 [_, _, _, _, _], hw1.comp [1, 2] rfl rfl hS14, fun _ _ => trivial, ?_⟩
  refine ow_nil ?_
  exact x_endR (rs := []) (vs := []) rfl trivial (fun w' hw' => by
      obtain rfl := of_some H
      exact ⟨_, rfl, a16, y11.out_.length, c18, F19, rfl, hw'.sel [3, 4] rfl rfl⟩)

set_option maxHeartbeats 4000000 in
set_option maxRecDepth 100000 in
theorem impl_writer_window_ok (w : World) {M0 : List Nat} {p0 : Timpl_writer} {p1 : Timpl_Window} {b_0 : Nat} {a_0_1 : Option Addr} {n_0_1 c_0_1 : Nat} {F_0_1 : List Nat} {cs1 : List Value} {r : Timpl_writer} (H : impl_writer_window p0 p1 = some r) (HS : St w M0 [Res.box b_0 69 [.slice a_0_1 n_0_1 c_0_1, .bool p0.bad_], Res.own (eList (eVal (Value.int .u8) (fun _ => rfl)) 5) F_0_1 p0.out_ [.slice a_0_1 n_0_1 c_0_1]] w) (g1 : (eTimpl_Window).rd w M0 p1 cs1) :
    Calls Try.prog 55 #[.pointer (some ⟨b_0, 0, none⟩), .agg cs1.toArray] w (fun en w' => ∃ v, en = .returned v ∧ ∃ (a0 : Option Addr), ∃ (n0 : Nat), ∃ (c0 : Nat), ∃ (F0 : List Nat), v = .tuple #[] ∧ St w M0 [Res.box b_0 69 [.slice a0 n0 c0, .bool r.bad_], Res.own (eList (eVal (Value.int .u8) (fun _ => rfl)) 5) F0 r.out_ [.slice a0 n0 c0]] w') := by
  obtain rfl := own_nS (i := 1) HS rfl
  obtain ⟨c1, rfl, g2⟩ := rdo_Timpl_Window g1
  obtain ⟨a3, c4, rfl⟩ := rd_sl1 g2
  unfold impl_writer_window at H
  refine f_enter (vs := [.pointer (some ⟨b_0, 0, none⟩), .agg #[.slice a3 p1.Rows_.length c4]]) Try.func55 rfl Try.ntmps55 rfl (HS) ?_
  refine c_seq ?_
  refine c_reg ?_
  refine ow_box (cs := [.slice a3 p1.Rows_.length c4]) rfl rfl rfl rfl rfl rfl (fun _ => kp) (fun b5 => ?_)
  refine ow_nil ?_
  refine x_qs ?_
  refine c_seq ?_
  refine c_reg ?_
  refine ow_batch [.p, .fa 40 0 0 fa40_0] rfl ?_
  refine ow_r rfl (dstOk_lt rfl) (ry_box1 (off := 0) rfl rfl ty35 (boxIn (i := 2) rfl) rfl) ?_
  refine ow_batch [.lenS 35 22 sl35] rfl ?_
  refine ow_blit (val := Value.int .i64) (h1 := fun _ => rfl) [(p1.Rows_.length : Int)] [(0, [.int .i64 (p1.Rows_.length : Int)])] rfl rfl rfl rfl rfl sl22 ty3 rfl rfl rfl ⟨rfl, rfl, Nat.le_of_ble_eq_true rfl,  trivial⟩ rfl rfl (fun _ => kp) (fun b6 => ?_)
  obtain ⟨y7, h8, H⟩ := of_bind H
  refine ow_callS rfl fn82 rfl rfl rfl rfl (fun w1 hw1 => impl_writer_ints_ok w1  h8 (hw1.carve [0, 1] rfl rfl) (rdO 3 [0, 1] rfl hw1 rfl rfl)) (fun v9 w1 w2 hw1 hR11 => ?_)
  obtain ⟨a12, n13, c14, F15, rfl, hS10⟩ := hR11
  obtain rfl := own_nS (i := 1) hS10 rfl
  refine ⟨St w M0 [_, _, _, _, _, _], hw1.comp [0, 1] rfl rfl hS10, fun _ _ => trivial, ?_⟩
  refine ow_nil ?_
  refine x_qs ?_
  refine c_seq ?_
  refine CW.weak (C' := St w M0 [_, _, _, _]) ?_ (fun _ h => St.sel [2, 3, 4, 5] rfl rfl h)
  refine c_reg ?_
  refine ow_batch [.fa 40 0 0 fa40_0] rfl ?_
  refine ow_r rfl (dstOk_lt rfl) (ry_box1 (off := 0) rfl rfl ty35 (boxIn (i := 0) rfl) rfl) ?_
  refine ow_batch [.lenS 35 22 sl35, .p] rfl ?_
  refine ow_nil ?_
  refine x_qs ?_
  refine c_block ?_
  refine CW.at (loopI6 (fun (l39 : List Int) (a40 : Option Addr) (c41 : Nat) (F42 : List Nat) (q43 : Bool) (i44 : Int) => St w M0 [Res.box b_0 69 [.slice a40 l39.length c41, .bool q43], Res.own (eList (eVal (Value.int .u8) (fun _ => rfl)) 5) F42 l39 [.slice a40 l39.length c41]]) (fun (l39 : List Int) (a40 : Option Addr) (c41 : Nat) (F42 : List Nat) (q43 : Bool) (i44 : Int) => [(0, .pointer (some ⟨b_0, 0, none⟩)), (13, .slice a3 p1.Rows_.length c4), (14, .int .i64 (p1.Rows_.length : Int)), (15, .int .i64 i44)]) (fun kk => fun (l39 : List Int) (a40 : Option Addr) (c41 : Nat) (F42 : List Nat) (q43 : Bool) (i44 : Int) => impl_writer_window_L1 p1 kk l39 q43 i44 = some r) (fun _ _ _ _ _ _ H => ?_) (fun k1 ihk1 l39 a40 c41 F42 q43 i44 H => ?_) Fuel (y7.out_) (a12) (c14) (F15) (y7.bad_) (0) (H)) (fun _ h => St.sel [2, 3] rfl rfl h) ⟨rfl, rfl, rfl, rfl,  trivial⟩
  · unfold impl_writer_window_L1 at H
    exact absurd H (by simp)
  · unfold impl_writer_window_L1 at H
    refine c_seq ?_
    refine c_reg ?_
    refine ow_batch [.p] rfl ?_
    refine ow_nil ?_
    refine x_qs ?_
    refine c_seq ?_
    refine c_if rfl (fun hb => ?_) (fun hb => ?_)
    · have H := of_if_t hb H
      refine c_skip ?_
      refine x_qs ?_
      refine c_seq ?_
      refine c_block ?_
      refine c_seq ?_
      refine c_reg ?_
      obtain ⟨e68, h69, H⟩ := of_bind H
      refine ow_ixB rfl rfl rfl rfl rfl sl35 ty22 rfl g2 h69 (fun q72 c73 hd70 hA71 => ?_)
      obtain ⟨a74, c75, rfl⟩ := rd_sl1 hd70
      refine ow_r rfl (dstOk_lt rfl) (ry_load1 rfl rfl ty22 (at_bor bor hA71)) ?_
      refine ow_batch [.p] rfl ?_
      refine ow_nil ?_
      refine x_qs ?_
      refine c_reg ?_
      refine ow_batch [.p, .p] rfl ?_
      obtain ⟨y76, h77, H⟩ := of_bind H
      refine ow_callS rfl fn48 rfl rfl rfl rfl (fun w1 hw1 => impl_writer_list_ok w1  h77 (hw1.carve [0, 1] rfl rfl) (rdB [0, 1] rfl rfl hw1 hd70)) (fun v78 w1 w2 hw1 hR80 => ?_)
      obtain ⟨a81, n82, c83, F84, rfl, hS79⟩ := hR80
      obtain rfl := own_nS (i := 1) hS79 rfl
      refine ⟨St w M0 [_, _, _, _], hw1.comp [0, 1] rfl rfl hS79, fun _ _ => trivial, ?_⟩
      refine ow_nil ?_
      refine x_qb ?_
      refine x_qs ?_
      refine CW.weak (C' := St w M0 [_, _]) ?_ (fun _ h => St.sel [2, 3] rfl rfl h)
      refine c_reg ?_
      refine ow_batch [.p, .p] rfl ?_
      refine ow_nil ?_
      exact x_ql (RW.at (ihk1 (y76.out_) (a81) (c83) (F84) (y76.bad_) (IntKind.i64.wrap (i44 + 1)) (H)) (fun _ h => St.sel [0, 1] rfl rfl h) ⟨rfl, rfl, rfl, rfl, trivial⟩)
    · have H := of_if_f hb H
      refine c_exit ?_
      refine x_qs_exit ?_
      refine x_ql_exit ?_
      refine x_qb_here ?_
      exact x_endR (rs := []) (vs := []) rfl trivial (fun w' hw' => by
          obtain rfl := of_some H
          exact ⟨_, rfl, a40, l39.length, c41, F42, rfl, hw'.sel [0, 1] rfl rfl⟩)

set_option maxHeartbeats 4000000 in
set_option maxRecDepth 100000 in
theorem impl_writer_done_ok (w : World) {M0 : List Nat} {p0 : Timpl_writer} {b_0 : Nat} {a_0_1 : Option Addr} {n_0_1 c_0_1 : Nat} {F_0_1 : List Nat} {r : List Int} (H : impl_writer_done p0 = some r) (HS : St w M0 [Res.box b_0 69 [.slice a_0_1 n_0_1 c_0_1, .bool p0.bad_], Res.own (eList (eVal (Value.int .u8) (fun _ => rfl)) 5) F_0_1 p0.out_ [.slice a_0_1 n_0_1 c_0_1]] w)  :
    Calls Try.prog 49 #[.pointer (some ⟨b_0, 0, none⟩)] w (fun en w' => ∃ v, en = .returned v ∧ ∃ (a0 : Option Addr), ∃ (n0 : Nat), ∃ (c0 : Nat), ∃ (F0 : List Nat), v = .slice a0 n0 c0 ∧ St w M0 [Res.own (eList (eVal (Value.int .u8) (fun _ => rfl)) 5) F0 r [.slice a0 n0 c0]] w') := by
  obtain rfl := own_nS (i := 1) HS rfl
  unfold impl_writer_done at H
  refine f_enter (vs := [.pointer (some ⟨b_0, 0, none⟩)]) Try.func49 rfl Try.ntmps49 rfl (HS) ?_
  refine c_seq ?_
  refine c_reg ?_
  refine ow_batch [.p] rfl ?_
  refine ow_nil ?_
  refine x_qs ?_
  refine c_seq ?_
  refine c_seq ?_
  refine c_reg ?_
  refine ow_batch [.p, .p, .fa 69 1 1 fa69_1] rfl ?_
  refine ow_r rfl (dstOk_lt rfl) (ry_box1 (off := 1) rfl rfl ty4 (boxIn (i := 0) rfl) rfl) ?_
  refine ow_nil ?_
  refine x_qs ?_
  refine c_if rfl (fun hb => ?_) (fun hb => ?_)
  · have H := of_if_t hb H
    refine c_seq ?_
    refine c_reg ?_
    refine ow_batch [.p] rfl ?_
    refine ow_nil ?_
    refine x_qs ?_
    refine c_ret ?_
    refine x_qs_ret ?_
    refine xw_st (fun _ h => St.pushNil (e := eVal (Value.int .u8) (fun _ => rfl)) (T := 5) h) ?_
    exact x_retR (rs := [.tmp 2]) (vs := [.slice none 0 0]) rfl ⟨rfl, trivial⟩ (fun w' hw' => by
        obtain rfl := of_some H
        exact ⟨_, rfl, none, 0, 0, [], rfl, hw'.sel [2] rfl rfl⟩)
  · have H := of_if_f hb H
    refine c_skip ?_
    refine x_qs ?_
    refine c_seq ?_
    refine c_reg ?_
    refine ow_batch [.p, .p, .fa 69 0 0 fa69_0] rfl ?_
    refine ow_r rfl (dstOk_lt rfl) (ry_box1 (off := 0) rfl rfl ty23 (boxIn (i := 0) rfl) rfl) ?_
    refine ow_batch [.p] rfl ?_
    refine ow_nil ?_
    refine x_qs ?_
    refine c_ret ?_
    exact x_retR (rs := [.tmp 2]) (vs := [.slice a_0_1 p0.out_.length c_0_1]) rfl ⟨rfl, trivial⟩ (fun w' hw' => by
        obtain rfl := of_some H
        exact ⟨_, rfl, a_0_1, p0.out_.length, c_0_1, F_0_1, rfl, hw'.sel [1] rfl rfl⟩)

set_option maxHeartbeats 4000000 in
set_option maxRecDepth 100000 in
theorem impl_PutWindow_ok (w : World) {M0 : List Nat} {p0 : Timpl_Window} {cs0 : List Value} {r : List Int} (H : impl_PutWindow p0 = some r) (HS : St w M0 [] w) (g0 : (eTimpl_Window).rd w M0 p0 cs0) :
    Calls Try.prog 25 #[.agg cs0.toArray] w (fun en w' => ∃ v, en = .returned v ∧ ∃ (a0 : Option Addr), ∃ (n0 : Nat), ∃ (c0 : Nat), ∃ (F0 : List Nat), v = .slice a0 n0 c0 ∧ St w M0 [Res.own (eList (eVal (Value.int .u8) (fun _ => rfl)) 5) F0 r [.slice a0 n0 c0]] w') := by
  obtain ⟨c1, rfl, g2⟩ := rdo_Timpl_Window g0
  obtain ⟨a3, c4, rfl⟩ := rd_sl1 g2
  unfold impl_PutWindow at H
  refine f_enter (vs := [.agg #[.slice a3 p0.Rows_.length c4]]) Try.func25 rfl Try.ntmps25 rfl (HS) ?_
  refine c_seq ?_
  refine c_reg ?_
  refine ow_box (cs := [.slice a3 p0.Rows_.length c4]) rfl rfl rfl rfl rfl rfl (fun _ => kp) (fun b5 => ?_)
  refine ow_batch [.p] rfl ?_
  refine ow_nil ?_
  refine x_qs ?_
  refine c_seq ?_
  refine c_reg ?_
  refine ow_r rfl (dstOk_lt rfl) (ry_build2 [] [.slice none 0 0, .bool false] rfl rfl ty69 fs69 rfl trivial rfl) ?_
  refine ow_box (cs := [.slice none 0 0, .bool false]) rfl rfl rfl rfl rfl rfl (fun _ => kp) (fun b6 => ?_)
  refine ow_batch [.p] rfl ?_
  refine ow_nil ?_
  refine x_qs ?_
  refine c_seq ?_
  refine c_reg ?_
  refine ow_batch [.p] rfl ?_
  refine ow_r rfl (dstOk_lt rfl) (ry_box (off := 0) (ds := [.slice a3 p0.Rows_.length c4]) rfl rfl ty40 (boxIn (i := 0) rfl) rfl rfl) ?_
  refine ow_st rfl (fun _ h => St.pushNil (e := eVal (Value.int .u8) (fun _ => rfl)) (T := 5) h) ?_
  obtain ⟨y7, h8, H⟩ := of_bind H
  refine ow_callS rfl fn55 rfl rfl rfl rfl (fun w1 hw1 => impl_writer_window_ok w1 (cs1 := [.slice a3 p0.Rows_.length c4]) h8 (hw1.carve [1, 2] rfl rfl) (rdm_Timpl_Window (x := p0) (c0 := [.slice a3 p0.Rows_.length c4]) (rdB [1, 2] rfl rfl hw1 g2))) (fun v9 w1 w2 hw1 hR11 => ?_)
  obtain ⟨a12, n13, c14, F15, rfl, hS10⟩ := hR11
  obtain rfl := own_nS (i := 1) hS10 rfl
  refine ⟨St w M0 [_, _, _, _, _], hw1.comp [1, 2] rfl rfl hS10, fun _ _ => trivial, ?_⟩
  refine ow_nil ?_
  refine x_qs ?_
  refine c_seq ?_
  refine CW.weak (C' := St w M0 [_, _, _]) ?_ (fun _ h => St.sel [0, 3, 4] rfl rfl h)
  refine c_reg ?_
  refine ow_batch [.p] rfl ?_
  obtain ⟨y16, h17, H⟩ := of_bind H
  refine ow_callS rfl fn49 rfl rfl rfl rfl (fun w1 hw1 => impl_writer_done_ok w1  h17 (hw1.carve [1, 2] rfl rfl)) (fun v18 w1 w2 hw1 hR20 => ?_)
  obtain ⟨a21, n22, c23, F24, rfl, hS19⟩ := hR20
  obtain rfl := own_nS (i := 0) hS19 rfl
  refine ⟨St w M0 [_, _, _, _], hw1.comp [1, 2] rfl rfl hS19, fun _ _ => trivial, ?_⟩
  refine ow_batch [.p] rfl ?_
  refine ow_nil ?_
  refine x_qs ?_
  refine c_ret ?_
  exact x_retR (rs := [.tmp 2]) (vs := [.slice a21 y16.length c23]) rfl ⟨rfl, trivial⟩ (fun w' hw' => by
      obtain rfl := of_some H
      exact ⟨_, rfl, a21, y16.length, c23, F24, rfl, hw'.sel [3] rfl rfl⟩)

set_option maxHeartbeats 4000000 in
set_option maxRecDepth 100000 in
theorem laws_eqByteS_ok (w : World) {p0 : List Int} {p1 : List Int} {a_0 : Option Addr} {n_0 c_0 : Nat} {a_1 : Option Addr} {n_1 c_1 : Nat} {r : Bool} (H : laws_eqByteS p0 p1 = some r)  (g0 : (eList (eVal (Value.int .u8) (fun _ => rfl)) 5).rd w [] p0 [.slice a_0 n_0 c_0]) (g1 : (eList (eVal (Value.int .u8) (fun _ => rfl)) 5).rd w [] p1 [.slice a_1 n_1 c_1]) :
    Calls Try.prog 13 #[.slice a_0 n_0 c_0, .slice a_1 n_1 c_1] w (fun en w' => en = .returned (.bool r) ∧ Ext [] w w') := by
  obtain rfl := rd_n g0
  obtain rfl := rd_n g1
  unfold laws_eqByteS at H
  refine f_enter (vs := [.slice a_0 p0.length c_0, .slice a_1 p1.length c_1]) Try.func13 rfl Try.ntmps13 rfl (St.init w []) ?_
  refine c_seq ?_
  refine c_reg ?_
  refine ow_batch [.p] rfl ?_
  refine ow_nil ?_
  refine x_qs ?_
  refine c_seq ?_
  refine c_seq ?_
  refine c_reg ?_
  refine ow_batch [.p, .lenS 23 5 sl23, .p, .lenS 23 5 sl23, .p] rfl ?_
  refine ow_nil ?_
  refine x_qs ?_
  refine c_if rfl (fun hb => ?_) (fun hb => ?_)
  · have H := of_if_t hb H
    refine c_seq ?_
    refine c_reg ?_
    refine ow_batch [.p] rfl ?_
    refine ow_nil ?_
    refine x_qs ?_
    refine c_ret ?_
    refine x_qs_ret ?_
    exact x_retR (rs := [.tmp 4]) (vs := [.bool false]) rfl ⟨rfl, trivial⟩ (fun w' hw' => by
        obtain rfl := of_some H
        exact ⟨rfl, hw'.ext⟩)
  · have H := of_if_f hb H
    refine c_skip ?_
    refine x_qs ?_
    refine c_seq ?_
    refine c_seq ?_
    refine c_reg ?_
    refine ow_batch [.p] rfl ?_
    refine ow_nil ?_
    refine x_qs ?_
    refine c_block ?_
    refine CW.at (loopI1 (fun (i6 : Int) => St w [] []) (fun (i6 : Int) => [(0, .slice a_0 p0.length c_0), (1, .slice a_1 p1.length c_1), (5, .int .i64 i6)]) (fun kk => fun (i6 : Int) => laws_eqByteS_L1 p0 p1 kk i6 = some r) (fun _ H => ?_) (fun k1 ihk1 i6 H => ?_) Fuel (0) (H)) (fun _ h => St.sel [] rfl rfl h) ⟨rfl, rfl, rfl,  trivial⟩
    · unfold laws_eqByteS_L1 at H
      exact absurd H (by simp)
    · unfold laws_eqByteS_L1 at H
      refine c_seq ?_
      refine c_seq ?_
      refine c_reg ?_
      refine ow_batch [.p, .p, .lenS 23 5 sl23, .p] rfl ?_
      refine ow_nil ?_
      refine x_qs ?_
      refine c_if rfl (fun hb => ?_) (fun hb => ?_)
      · have H := of_if_t hb H
        refine c_skip ?_
        refine x_qs ?_
        refine c_seq ?_
        refine c_block ?_
        refine c_seq ?_
        refine c_regQ mixed (by kernel_rfl) ?_
        refine ow_batch [.p, .p] rfl ?_
        obtain ⟨e12, h13, H⟩ := of_bind H
        refine ow_ixE (e := eVal (Value.int .u8) (fun _ => rfl)) (xs := p0) (j := i6) rfl rfl rfl rfl rfl sl23 ty5 rfl (fun w1 hw1 => rds_bor g0 w1 hw1) h13 (by rw [Nat.mul_one]) ?_
        refine ow_r rfl (dstOk_lt rfl) (ry_load1 rfl rfl ty5 (at_elV (fun w1 hw1 => rds_bor g0 w1 hw1) h13)) ?_
        refine ow_batch [.p, .p] rfl ?_
        obtain ⟨e14, h15, H⟩ := of_bind H
        refine ow_ixE (e := eVal (Value.int .u8) (fun _ => rfl)) (xs := p1) (j := i6) rfl rfl rfl rfl rfl sl23 ty5 rfl (fun w1 hw1 => rds_bor g1 w1 hw1) h15 (by rw [Nat.mul_one]) ?_
        refine ow_r rfl (dstOk_lt rfl) (ry_load1 rfl rfl ty5 (at_elV (fun w1 hw1 => rds_bor g1 w1 hw1) h15)) ?_
        refine ow_batch [.p] rfl ?_
        refine ow_nilQ ?_
        refine x_qs ?_
        refine c_if rfl (fun hb => ?_) (fun hb => ?_)
        · have H := of_if_t hb H
          refine c_seq ?_
          refine c_reg ?_
          refine ow_batch [.p] rfl ?_
          refine ow_nil ?_
          refine x_qs ?_
          refine c_ret ?_
          refine x_qb_ret ?_
          refine x_qs_ret ?_
          refine x_ql_ret ?_
          refine x_qb_ret ?_
          refine x_qs_ret ?_
          exact x_retR (rs := [.tmp 4]) (vs := [.bool false]) rfl ⟨rfl, trivial⟩ (fun w' hw' => by
              obtain rfl := of_some H
              exact ⟨rfl, hw'.ext⟩)
        · have H := of_if_f hb H
          refine c_skip ?_
          refine x_qb ?_
          refine x_qs ?_
          refine c_reg ?_
          refine ow_batch [.p, .p, .p] rfl ?_
          refine ow_nil ?_
          exact x_ql (RW.at (ihk1 (IntKind.i64.wrap (i6 + 1)) (H)) (fun _ h => St.sel [] rfl rfl h) ⟨rfl, rfl, rfl, trivial⟩)
      · have H := of_if_f hb H
        refine c_exit ?_
        refine x_qs_exit ?_
        refine x_ql_exit ?_
        refine x_qb_here ?_
        refine x_qs ?_
        refine c_seq ?_
        refine c_reg ?_
        refine ow_batch [.p] rfl ?_
        refine ow_nil ?_
        refine x_qs ?_
        refine c_ret ?_
        exact x_retR (rs := [.tmp 4]) (vs := [.bool true]) rfl ⟨rfl, trivial⟩ (fun w' hw' => by
            obtain rfl := of_some H
            exact ⟨rfl, hw'.ext⟩)

set_option maxHeartbeats 4000000 in
set_option maxRecDepth 100000 in
theorem laws_eqIntS_ok (w : World) {p0 : List Int} {p1 : List Int} {a_0 : Option Addr} {n_0 c_0 : Nat} {a_1 : Option Addr} {n_1 c_1 : Nat} {r : Bool} (H : laws_eqIntS p0 p1 = some r)  (g0 : (eList (eVal (Value.int .i64) (fun _ => rfl)) 3).rd w [] p0 [.slice a_0 n_0 c_0]) (g1 : (eList (eVal (Value.int .i64) (fun _ => rfl)) 3).rd w [] p1 [.slice a_1 n_1 c_1]) :
    Calls Try.prog 14 #[.slice a_0 n_0 c_0, .slice a_1 n_1 c_1] w (fun en w' => en = .returned (.bool r) ∧ Ext [] w w') := by
  obtain rfl := rd_n g0
  obtain rfl := rd_n g1
  unfold laws_eqIntS at H
  refine f_enter (vs := [.slice a_0 p0.length c_0, .slice a_1 p1.length c_1]) Try.func14 rfl Try.ntmps14 rfl (St.init w []) ?_
  refine c_seq ?_
  refine c_reg ?_
  refine ow_batch [.p] rfl ?_
  refine ow_nil ?_
  refine x_qs ?_
  refine c_seq ?_
  refine c_seq ?_
  refine c_reg ?_
  refine ow_batch [.p, .lenS 22 3 sl22, .p, .lenS 22 3 sl22, .p] rfl ?_
  refine ow_nil ?_
  refine x_qs ?_
  refine c_if rfl (fun hb => ?_) (fun hb => ?_)
  · have H := of_if_t hb H
    refine c_seq ?_
    refine c_reg ?_
    refine ow_batch [.p] rfl ?_
    refine ow_nil ?_
    refine x_qs ?_
    refine c_ret ?_
    refine x_qs_ret ?_
    exact x_retR (rs := [.tmp 4]) (vs := [.bool false]) rfl ⟨rfl, trivial⟩ (fun w' hw' => by
        obtain rfl := of_some H
        exact ⟨rfl, hw'.ext⟩)
  · have H := of_if_f hb H
    refine c_skip ?_
    refine x_qs ?_
    refine c_seq ?_
    refine c_seq ?_
    refine c_reg ?_
    refine ow_batch [.p] rfl ?_
    refine ow_nil ?_
    refine x_qs ?_
    refine c_block ?_
    refine CW.at (loopI1 (fun (i6 : Int) => St w [] []) (fun (i6 : Int) => [(0, .slice a_0 p0.length c_0), (1, .slice a_1 p1.length c_1), (5, .int .i64 i6)]) (fun kk => fun (i6 : Int) => laws_eqIntS_L1 p0 p1 kk i6 = some r) (fun _ H => ?_) (fun k1 ihk1 i6 H => ?_) Fuel (0) (H)) (fun _ h => St.sel [] rfl rfl h) ⟨rfl, rfl, rfl,  trivial⟩
    · unfold laws_eqIntS_L1 at H
      exact absurd H (by simp)
    · unfold laws_eqIntS_L1 at H
      refine c_seq ?_
      refine c_seq ?_
      refine c_reg ?_
      refine ow_batch [.p, .p, .lenS 22 3 sl22, .p] rfl ?_
      refine ow_nil ?_
      refine x_qs ?_
      refine c_if rfl (fun hb => ?_) (fun hb => ?_)
      · have H := of_if_t hb H
        refine c_skip ?_
        refine x_qs ?_
        refine c_seq ?_
        refine c_block ?_
        refine c_seq ?_
        refine c_regQ mixed (by kernel_rfl) ?_
        refine ow_batch [.p, .p] rfl ?_
        obtain ⟨e12, h13, H⟩ := of_bind H
        refine ow_ixE (e := eVal (Value.int .i64) (fun _ => rfl)) (xs := p0) (j := i6) rfl rfl rfl rfl rfl sl22 ty3 rfl (fun w1 hw1 => rds_bor g0 w1 hw1) h13 (by rw [Nat.mul_one]) ?_
        refine ow_r rfl (dstOk_lt rfl) (ry_load1 rfl rfl ty3 (at_elV (fun w1 hw1 => rds_bor g0 w1 hw1) h13)) ?_
        refine ow_batch [.p, .p] rfl ?_
        obtain ⟨e14, h15, H⟩ := of_bind H
        refine ow_ixE (e := eVal (Value.int .i64) (fun _ => rfl)) (xs := p1) (j := i6) rfl rfl rfl rfl rfl sl22 ty3 rfl (fun w1 hw1 => rds_bor g1 w1 hw1) h15 (by rw [Nat.mul_one]) ?_
        refine ow_r rfl (dstOk_lt rfl) (ry_load1 rfl rfl ty3 (at_elV (fun w1 hw1 => rds_bor g1 w1 hw1) h15)) ?_
        refine ow_batch [.p] rfl ?_
        refine ow_nilQ ?_
        refine x_qs ?_
        refine c_if rfl (fun hb => ?_) (fun hb => ?_)
        · have H := of_if_t hb H
          refine c_seq ?_
          refine c_reg ?_
          refine ow_batch [.p] rfl ?_
          refine ow_nil ?_
          refine x_qs ?_
          refine c_ret ?_
          refine x_qb_ret ?_
          refine x_qs_ret ?_
          refine x_ql_ret ?_
          refine x_qb_ret ?_
          refine x_qs_ret ?_
          exact x_retR (rs := [.tmp 4]) (vs := [.bool false]) rfl ⟨rfl, trivial⟩ (fun w' hw' => by
              obtain rfl := of_some H
              exact ⟨rfl, hw'.ext⟩)
        · have H := of_if_f hb H
          refine c_skip ?_
          refine x_qb ?_
          refine x_qs ?_
          refine c_reg ?_
          refine ow_batch [.p, .p, .p] rfl ?_
          refine ow_nil ?_
          exact x_ql (RW.at (ihk1 (IntKind.i64.wrap (i6 + 1)) (H)) (fun _ h => St.sel [] rfl rfl h) ⟨rfl, rfl, rfl, trivial⟩)
      · have H := of_if_f hb H
        refine c_exit ?_
        refine x_qs_exit ?_
        refine x_ql_exit ?_
        refine x_qb_here ?_
        refine x_qs ?_
        refine c_seq ?_
        refine c_reg ?_
        refine ow_batch [.p] rfl ?_
        refine ow_nil ?_
        refine x_qs ?_
        refine c_ret ?_
        exact x_retR (rs := [.tmp 4]) (vs := [.bool true]) rfl ⟨rfl, trivial⟩ (fun w' hw' => by
            obtain rfl := of_some H
            exact ⟨rfl, hw'.ext⟩)

set_option maxHeartbeats 4000000 in
set_option maxRecDepth 100000 in
theorem laws_eqIntSS_ok (w : World) {p0 : List (List Int)} {p1 : List (List Int)} {a_0 : Option Addr} {n_0 c_0 : Nat} {a_1 : Option Addr} {n_1 c_1 : Nat} {r : Bool} (H : laws_eqIntSS p0 p1 = some r)  (g0 : (eList (eList (eVal (Value.int .i64) (fun _ => rfl)) 3) 22).rd w [] p0 [.slice a_0 n_0 c_0]) (g1 : (eList (eList (eVal (Value.int .i64) (fun _ => rfl)) 3) 22).rd w [] p1 [.slice a_1 n_1 c_1]) :
    Calls Try.prog 56 #[.slice a_0 n_0 c_0, .slice a_1 n_1 c_1] w (fun en w' => en = .returned (.bool r) ∧ Ext [] w w') := by
  obtain rfl := rd_n g0
  obtain rfl := rd_n g1
  unfold laws_eqIntSS at H
  refine f_enter (vs := [.slice a_0 p0.length c_0, .slice a_1 p1.length c_1]) Try.func56 rfl Try.ntmps56 rfl (St.init w []) ?_
  refine c_seq ?_
  refine c_reg ?_
  refine ow_batch [.p] rfl ?_
  refine ow_nil ?_
  refine x_qs ?_
  refine c_seq ?_
  refine c_seq ?_
  refine c_reg ?_
  refine ow_batch [.p, .lenS 35 22 sl35, .p, .lenS 35 22 sl35, .p] rfl ?_
  refine ow_nil ?_
  refine x_qs ?_
  refine c_if rfl (fun hb => ?_) (fun hb => ?_)
  · have H := of_if_t hb H
    refine c_seq ?_
    refine c_reg ?_
    refine ow_batch [.p] rfl ?_
    refine ow_nil ?_
    refine x_qs ?_
    refine c_ret ?_
    refine x_qs_ret ?_
    exact x_retR (rs := [.tmp 4]) (vs := [.bool false]) rfl ⟨rfl, trivial⟩ (fun w' hw' => by
        obtain rfl := of_some H
        exact ⟨rfl, hw'.ext⟩)
  · have H := of_if_f hb H
    refine c_skip ?_
    refine x_qs ?_
    refine c_seq ?_
    refine c_seq ?_
    refine c_reg ?_
    refine ow_batch [.p] rfl ?_
    refine ow_nil ?_
    refine x_qs ?_
    refine c_block ?_
    refine CW.at (loopI1 (fun (i20 : Int) => St w [] []) (fun (i20 : Int) => [(0, .slice a_0 p0.length c_0), (1, .slice a_1 p1.length c_1), (5, .int .i64 i20)]) (fun kk => fun (i20 : Int) => laws_eqIntSS_L1 p0 p1 kk i20 = some r) (fun _ H => ?_) (fun k1 ihk1 i20 H => ?_) Fuel (0) (H)) (fun _ h => St.sel [] rfl rfl h) ⟨rfl, rfl, rfl,  trivial⟩
    · unfold laws_eqIntSS_L1 at H
      exact absurd H (by simp)
    · unfold laws_eqIntSS_L1 at H
      refine c_seq ?_
      refine c_seq ?_
      refine c_reg ?_
      refine ow_batch [.p, .p, .lenS 35 22 sl35, .p] rfl ?_
      refine ow_nil ?_
      refine x_qs ?_
      refine c_if rfl (fun hb => ?_) (fun hb => ?_)
      · have H := of_if_t hb H
        refine c_skip ?_
        refine x_qs ?_
        refine c_seq ?_
        refine c_block ?_
        refine c_seq ?_
        refine c_regQ mixed (by kernel_rfl) ?_
        refine ow_batch [.p, .p] rfl ?_
        obtain ⟨e40, h41, H⟩ := of_bind H
        refine ow_ixB rfl rfl rfl rfl rfl sl35 ty22 rfl g0 h41 (fun q44 c45 hd42 hA43 => ?_)
        obtain ⟨a46, c47, rfl⟩ := rd_sl1 hd42
        refine ow_r rfl (dstOk_lt rfl) (ry_load1 rfl rfl ty22 (at_bor bor hA43)) ?_
        refine ow_batch [.p, .p] rfl ?_
        obtain ⟨e48, h49, H⟩ := of_bind H
        refine ow_ixB rfl rfl rfl rfl rfl sl35 ty22 rfl g1 h49 (fun q52 c53 hd50 hA51 => ?_)
        obtain ⟨a54, c55, rfl⟩ := rd_sl1 hd50
        refine ow_r rfl (dstOk_lt rfl) (ry_load1 rfl rfl ty22 (at_bor bor hA51)) ?_
        obtain ⟨y56, h57, H⟩ := of_bind H
        refine ow_q rfl rfl (dstOk_lt rfl) (qy_call rfl fn14 rfl (fun w1 hw1 => laws_eqIntS_ok w1  h57 (rds_bor hd42 w1 hw1) (rds_bor hd50 w1 hw1))) (fun _ _ => trivial) ?_
        refine ow_batch [.p] rfl ?_
        refine ow_nilQ ?_
        refine x_qs ?_
        refine c_if rfl (fun hb => ?_) (fun hb => ?_)
        · have H := of_if_t hb H
          refine c_seq ?_
          refine c_reg ?_
          refine ow_batch [.p] rfl ?_
          refine ow_nil ?_
          refine x_qs ?_
          refine c_ret ?_
          refine x_qb_ret ?_
          refine x_qs_ret ?_
          refine x_ql_ret ?_
          refine x_qb_ret ?_
          refine x_qs_ret ?_
          exact x_retR (rs := [.tmp 4]) (vs := [.bool false]) rfl ⟨rfl, trivial⟩ (fun w' hw' => by
              obtain rfl := of_some H
              exact ⟨rfl, hw'.ext⟩)
        · have H := of_if_f hb H
          refine c_skip ?_
          refine x_qb ?_
          refine x_qs ?_
          refine c_reg ?_
          refine ow_batch [.p, .p, .p] rfl ?_
          refine ow_nil ?_
          exact x_ql (RW.at (ihk1 (IntKind.i64.wrap (i20 + 1)) (H)) (fun _ h => St.sel [] rfl rfl h) ⟨rfl, rfl, rfl, trivial⟩)
      · have H := of_if_f hb H
        refine c_exit ?_
        refine x_qs_exit ?_
        refine x_ql_exit ?_
        refine x_qb_here ?_
        refine x_qs ?_
        refine c_seq ?_
        refine c_reg ?_
        refine ow_batch [.p] rfl ?_
        refine ow_nil ?_
        refine x_qs ?_
        refine c_ret ?_
        exact x_retR (rs := [.tmp 4]) (vs := [.bool true]) rfl ⟨rfl, trivial⟩ (fun w' hw' => by
            obtain rfl := of_some H
            exact ⟨rfl, hw'.ext⟩)

set_option maxHeartbeats 4000000 in
set_option maxRecDepth 100000 in
theorem laws_eqWindow_ok (w : World) {p0 : Timpl_Window} {p1 : Timpl_Window} {cs0 : List Value} {cs1 : List Value} {r : Bool} (H : laws_eqWindow p0 p1 = some r)  (g0 : (eTimpl_Window).rd w [] p0 cs0) (g1 : (eTimpl_Window).rd w [] p1 cs1) :
    Calls Try.prog 26 #[.agg cs0.toArray, .agg cs1.toArray] w (fun en w' => en = .returned (.bool r) ∧ Ext [] w w') := by
  obtain ⟨c1, rfl, g2⟩ := rdo_Timpl_Window g0
  obtain ⟨a3, c4, rfl⟩ := rd_sl1 g2
  obtain ⟨c5, rfl, g6⟩ := rdo_Timpl_Window g1
  obtain ⟨a7, c8, rfl⟩ := rd_sl1 g6
  unfold laws_eqWindow at H
  refine f_enter (vs := [.agg #[.slice a3 p0.Rows_.length c4], .agg #[.slice a7 p1.Rows_.length c8]]) Try.func26 rfl Try.ntmps26 rfl (St.init w []) ?_
  refine c_seq ?_
  refine c_reg ?_
  refine ow_box (cs := [.slice a3 p0.Rows_.length c4]) rfl rfl rfl rfl rfl rfl (fun _ => kp) (fun b9 => ?_)
  refine ow_box (cs := [.slice a7 p1.Rows_.length c8]) rfl rfl rfl rfl rfl rfl (fun _ => kp) (fun b10 => ?_)
  refine ow_batch [.p] rfl ?_
  refine ow_nil ?_
  refine x_qs ?_
  refine c_seq ?_
  refine c_seq ?_
  refine c_reg ?_
  refine ow_batch [.fa 40 0 0 fa40_0] rfl ?_
  refine ow_r rfl (dstOk_lt rfl) (ry_box1 (off := 0) rfl rfl ty35 (boxIn (i := 0) rfl) rfl) ?_
  refine ow_batch [.fa 40 0 0 fa40_0] rfl ?_
  refine ow_r rfl (dstOk_lt rfl) (ry_box1 (off := 0) rfl rfl ty35 (boxIn (i := 1) rfl) rfl) ?_
  obtain ⟨y11, h12, H⟩ := of_bind H
  refine ow_q rfl rfl (dstOk_lt rfl) (qy_call rfl fn56 rfl (fun w1 hw1 => laws_eqIntSS_ok w1  h12 (rds_bor g2 w1 hw1) (rds_bor g6 w1 hw1))) (fun _ _ => trivial) ?_
  refine ow_batch [.p] rfl ?_
  refine ow_nil ?_
  refine x_qs ?_
  refine c_if rfl (fun hb => ?_) (fun hb => ?_)
  · have H := of_if_t hb H
    refine c_seq ?_
    refine c_reg ?_
    refine ow_batch [.p] rfl ?_
    refine ow_nil ?_
    refine x_qs ?_
    refine c_ret ?_
    refine x_qs_ret ?_
    exact x_retR (rs := [.tmp 4]) (vs := [.bool false]) rfl ⟨rfl, trivial⟩ (fun w' hw' => by
        obtain rfl := of_some H
        exact ⟨rfl, hw'.ext⟩)
  · have H := of_if_f hb H
    refine c_skip ?_
    refine x_qs ?_
    refine c_seq ?_
    refine c_reg ?_
    refine ow_batch [.p] rfl ?_
    refine ow_nil ?_
    refine x_qs ?_
    refine c_ret ?_
    exact x_retR (rs := [.tmp 4]) (vs := [.bool true]) rfl ⟨rfl, trivial⟩ (fun w' hw' => by
        obtain rfl := of_some H
        exact ⟨rfl, hw'.ext⟩)

set_option maxHeartbeats 4000000 in
set_option maxRecDepth 100000 in
theorem laws_markIntS_ok (w : World) {M0 : List Nat} {p0 : List Int} {p1 : Int} {a_0_0 : Option Addr} {n_0_0 c_0_0 : Nat} {F_0_0 : List Nat} {r : Int × (List Int)} (H : laws_markIntS p0 p1 = some r) (HS : St w M0 [Res.own (eList (eVal (Value.int .i64) (fun _ => rfl)) 3) F_0_0 p0 [.slice a_0_0 n_0_0 c_0_0]] w)  :
    Calls Try.prog 15 #[.slice a_0_0 n_0_0 c_0_0, .int .i64 p1] w (fun en w' => ∃ v, en = .returned v ∧ ∃ (F0 : List Nat), v = .int .i64 r.1 ∧ St w M0 [Res.own (eList (eVal (Value.int .i64) (fun _ => rfl)) 3) F0 r.2 [.slice a_0_0 n_0_0 c_0_0]] w') := by
  obtain rfl := own_nS (i := 0) HS rfl
  unfold laws_markIntS at H
  refine f_enter (vs := [.slice a_0_0 p0.length c_0_0, .int .i64 p1]) Try.func15 rfl Try.ntmps15 rfl (HS) ?_
  refine c_seq ?_
  refine c_reg ?_
  refine ow_batch [.p] rfl ?_
  refine ow_nil ?_
  refine x_qs ?_
  refine c_seq ?_
  refine c_seq ?_
  refine c_reg ?_
  refine ow_batch [.p] rfl ?_
  refine ow_nil ?_
  refine x_qs ?_
  refine c_block ?_
  refine CW.at (loopI3 (fun (l6 : List Int) (i7 : Int) (i8 : Int) => St w M0 [Res.own (eList (eVal (Value.int .i64) (fun _ => rfl)) 3) F_0_0 l6 [.slice a_0_0 p0.length c_0_0]]) (fun (l6 : List Int) (i7 : Int) (i8 : Int) => [(0, .slice a_0_0 p0.length c_0_0), (1, .int .i64 i7), (5, .int .i64 i8)]) (fun kk => fun (l6 : List Int) (i7 : Int) (i8 : Int) => laws_markIntS_L1 p0 kk l6 i7 i8 = some r) (fun _ _ _ H => ?_) (fun k1 ihk1 l6 i7 i8 H => ?_) Fuel (p0) (p1) (0) (H)) (fun _ h => St.sel [0] rfl rfl h) ⟨rfl, rfl, rfl,  trivial⟩
  · unfold laws_markIntS_L1 at H
    exact absurd H (by simp)
  · unfold laws_markIntS_L1 at H
    refine c_seq ?_
    refine c_seq ?_
    refine c_reg ?_
    refine ow_batch [.p, .p, .lenS 22 3 sl22, .p] rfl ?_
    refine ow_nil ?_
    refine x_qs ?_
    refine c_if rfl (fun hb => ?_) (fun hb => ?_)
    · have H := of_if_t hb H
      refine c_skip ?_
      refine x_qs ?_
      refine c_seq ?_
      refine c_block ?_
      refine c_seq ?_
      refine c_reg ?_
      refine ow_batch [.p, .p, .p] rfl ?_
      obtain ⟨e14, h15, H⟩ := of_bind H
      refine ow_ixE (e := eVal (Value.int .i64) (fun _ => rfl)) (xs := l6) (j := i8) rfl rfl rfl rfl rfl sl22 ty3 rfl (fun w1 hw1 => rds_own (r := 0) rfl w1 hw1) h15 (by rw [Nat.mul_one]) ?_
      refine ow_storeV (i := 0) (j := i8) rfl rfl rfl rfl rfl rfl ty3 rfl h15 (fun _ => rfl) kp ?_
      refine ow_nil ?_
      refine x_qs ?_
      refine c_reg ?_
      refine ow_batch [.p, .p, .p] rfl ?_
      refine ow_nil ?_
      refine x_qb ?_
      refine x_qs ?_
      refine c_reg ?_
      refine ow_batch [.p, .p, .p] rfl ?_
      refine ow_nil ?_
      exact x_ql (RW.at (ihk1 ((l6.set i8.toNat i7)) (IntKind.i64.wrap (i7 + 1)) (IntKind.i64.wrap (i8 + 1)) (H)) (fun _ h => St.sel [0] rfl rfl h) ⟨rfl, rfl, rfl, trivial⟩)
    · have H := of_if_f hb H
      refine c_exit ?_
      refine x_qs_exit ?_
      refine x_ql_exit ?_
      refine x_qb_here ?_
      refine x_qs ?_
      refine c_seq ?_
      refine c_reg ?_
      refine ow_batch [.p, .p] rfl ?_
      refine ow_nil ?_
      refine x_qs ?_
      refine c_ret ?_
      exact x_retR (rs := [.tmp 4]) (vs := [.int .i64 i7]) rfl ⟨rfl, trivial⟩ (fun w' hw' => by
          obtain rfl := of_some H
          exact ⟨_, rfl, F_0_0, rfl, hw'.sel [0] rfl rfl⟩)

set_option maxHeartbeats 4000000 in
set_option maxRecDepth 100000 in
theorem laws_markIntSS_ok (w : World) {M0 : List Nat} {p0 : List (List Int)} {p1 : Int} {a_0_0 : Option Addr} {n_0_0 c_0_0 : Nat} {F_0_0 : List Nat} {r : Int × (List (List Int))} (H : laws_markIntSS p0 p1 = some r) (HS : St w M0 [Res.own (eList (eList (eVal (Value.int .i64) (fun _ => rfl)) 3) 22) F_0_0 p0 [.slice a_0_0 n_0_0 c_0_0]] w)  :
    Calls Try.prog 57 #[.slice a_0_0 n_0_0 c_0_0, .int .i64 p1] w (fun en w' => ∃ v, en = .returned v ∧ ∃ (F0 : List Nat), v = .int .i64 r.1 ∧ St w M0 [Res.own (eList (eList (eVal (Value.int .i64) (fun _ => rfl)) 3) 22) F0 r.2 [.slice a_0_0 n_0_0 c_0_0]] w') := by
  obtain rfl := own_nS (i := 0) HS rfl
  unfold laws_markIntSS at H
  refine f_enter (vs := [.slice a_0_0 p0.length c_0_0, .int .i64 p1]) Try.func57 rfl Try.ntmps57 rfl (HS) ?_
  refine c_seq ?_
  refine c_reg ?_
  refine ow_batch [.p] rfl ?_
  refine ow_nil ?_
  refine x_qs ?_
  refine c_seq ?_
  refine c_seq ?_
  refine c_reg ?_
  refine ow_batch [.p] rfl ?_
  refine ow_nil ?_
  refine x_qs ?_
  refine c_block ?_
  refine CW.at (loopI4 (fun (l24 : List (List Int)) (F25 : List Nat) (i26 : Int) (i27 : Int) => St w M0 [Res.own (eList (eList (eVal (Value.int .i64) (fun _ => rfl)) 3) 22) F25 l24 [.slice a_0_0 p0.length c_0_0]]) (fun (l24 : List (List Int)) (F25 : List Nat) (i26 : Int) (i27 : Int) => [(0, .slice a_0_0 p0.length c_0_0), (1, .int .i64 i26), (5, .int .i64 i27)]) (fun kk => fun (l24 : List (List Int)) (F25 : List Nat) (i26 : Int) (i27 : Int) => laws_markIntSS_L1 p0 kk l24 i26 i27 = some r) (fun _ _ _ _ H => ?_) (fun k1 ihk1 l24 F25 i26 i27 H => ?_) Fuel (p0) (F_0_0) (p1) (0) (H)) (fun _ h => St.sel [0] rfl rfl h) ⟨rfl, rfl, rfl,  trivial⟩
  · unfold laws_markIntSS_L1 at H
    exact absurd H (by simp)
  · unfold laws_markIntSS_L1 at H
    refine c_seq ?_
    refine c_seq ?_
    refine c_reg ?_
    refine ow_batch [.p, .p, .lenS 35 22 sl35, .p] rfl ?_
    refine ow_nil ?_
    refine x_qs ?_
    refine c_if rfl (fun hb => ?_) (fun hb => ?_)
    · have H := of_if_t hb H
      refine c_skip ?_
      refine x_qs ?_
      refine c_seq ?_
      refine c_block ?_
      refine c_reg ?_
      refine ow_batch [.p, .p] rfl ?_
      obtain ⟨e51, h52, H⟩ := of_bind H
      refine ow_ex4 rfl (fun w1 hw1 => foc (r := 0) hw1 rfl h52) (fun b54 G55 F56 c57 => ?_)
      refine ow_fact rfl (fun w1 hw1 => hw1.1) (fun q53 => ?_)
      obtain ⟨ha58, hn59⟩ := q53
      refine ow_st (C' := St w M0 [_, _, _]) rfl (fun w1 hw1 => hw1.2) ?_
      refine ow_ex2 rfl (fun w1 hw1 => opn_sl (i := 2) hw1 rfl) (fun a60 c61 => ?_)
      refine ow_fact rfl (fun w1 hw1 => hw1.1) (fun q62 => ?_)
      subst q62
      refine ow_st (C' := St w M0 [_, _, _]) rfl (fun w1 hw1 => hw1.2) ?_
      refine ow_ixH rfl rfl rfl rfl rfl sl35 ty22 rfl (holeIn (p := 1) rfl) hn59 ha58 (idx_some h52).1 ?_
      refine ow_r rfl (dstOk_lt rfl) (ry_hole1 1 0 rfl rfl rfl ty22 (by first | rfl | simp only [add_lit, add_add, add_zero]) rfl) ?_
      refine ow_batch [.p] rfl ?_
      obtain ⟨y63, h64, H⟩ := of_bind H
      refine ow_callS rfl fn15 rfl rfl rfl rfl (fun w1 hw1 => laws_markIntS_ok w1  h64 (hw1.carve [2] rfl rfl)) (fun v65 w1 w2 hw1 hR67 => ?_)
      obtain ⟨F68, rfl, hS66⟩ := hR67
      refine ⟨St w M0 [_, _, _, _], hw1.comp [2] rfl rfl hS66, fun _ _ => trivial, ?_⟩
      refine ow_batch [.p] rfl ?_
      refine ow_nil ?_
      refine x_qb ?_
      refine x_qs ?_
      refine CW.weak (C' := St w M0 [_, _]) ?_ (fun _ h => St.sel [1, 3] rfl rfl h)
      refine c_reg ?_
      refine ow_batch [.p, .p, .p] rfl ?_
      refine ow_nil ?_
      refine xw_ex (fun w1 hw1 => unf (p := 0) (q := 1) hw1 rfl rfl rfl hn59 ha58) (fun F69 => ?_)
      refine xw_st (C' := St w M0 [_, _, _]) (fun _ h => h) ?_
      exact x_ql (RW.at (ihk1 ((l24.set i27.toNat y63.2)) (F69) (y63.1) (IntKind.i64.wrap (i27 + 1)) (H)) (fun _ h => St.sel [2] rfl rfl h) ⟨rfl, rfl, rfl, trivial⟩)
    · have H := of_if_f hb H
      refine c_exit ?_
      refine x_qs_exit ?_
      refine x_ql_exit ?_
      refine x_qb_here ?_
      refine x_qs ?_
      refine c_seq ?_
      refine c_reg ?_
      refine ow_batch [.p, .p] rfl ?_
      refine ow_nil ?_
      refine x_qs ?_
      refine c_ret ?_
      exact x_retR (rs := [.tmp 4]) (vs := [.int .i64 i26]) rfl ⟨rfl, trivial⟩ (fun w' hw' => by
          obtain rfl := of_some H
          exact ⟨_, rfl, F25, rfl, hw'.sel [0] rfl rfl⟩)

set_option maxHeartbeats 4000000 in
set_option maxRecDepth 100000 in
theorem laws_markWindow_ok (w : World) {M0 : List Nat} {p0 : Timpl_Window} {p1 : Int} {a_0_0 : Option Addr} {n_0_0 c_0_0 : Nat} {F_0_0 : List Nat} {r : Int × Timpl_Window} (H : laws_markWindow p0 p1 = some r) (HS : St w M0 [Res.own (eList (eList (eVal (Value.int .i64) (fun _ => rfl)) 3) 22) F_0_0 p0.Rows_ [.slice a_0_0 n_0_0 c_0_0]] w)  :
    Calls Try.prog 27 #[.agg #[.slice a_0_0 n_0_0 c_0_0], .int .i64 p1] w (fun en w' => ∃ v, en = .returned v ∧ ∃ (F0 : List Nat), v = .int .i64 r.1 ∧ St w M0 [Res.own (eList (eList (eVal (Value.int .i64) (fun _ => rfl)) 3) 22) F0 r.2.Rows_ [.slice a_0_0 n_0_0 c_0_0]] w') := by
  obtain rfl := own_nS (i := 0) HS rfl
  unfold laws_markWindow at H
  refine f_enter (vs := [.agg #[.slice a_0_0 p0.Rows_.length c_0_0], .int .i64 p1]) Try.func27 rfl Try.ntmps27 rfl (HS) ?_
  refine c_seq ?_
  refine c_reg ?_
  refine ow_box (cs := [.slice a_0_0 p0.Rows_.length c_0_0]) rfl rfl rfl rfl rfl rfl (fun _ => kp) (fun b1 => ?_)
  refine ow_batch [.p] rfl ?_
  refine ow_nil ?_
  refine x_qs ?_
  refine c_seq ?_
  refine c_reg ?_
  refine ow_batch [.fa 40 0 0 fa40_0] rfl ?_
  refine ow_r rfl (dstOk_lt rfl) (ry_box1 (off := 0) rfl rfl ty35 (boxIn (i := 1) rfl) rfl) ?_
  refine ow_batch [.p] rfl ?_
  obtain ⟨y2, h3, H⟩ := of_bind H
  refine ow_callS rfl fn57 rfl rfl rfl rfl (fun w1 hw1 => laws_markIntSS_ok w1  h3 (hw1.carve [0] rfl rfl)) (fun v4 w1 w2 hw1 hR6 => ?_)
  obtain ⟨F7, rfl, hS5⟩ := hR6
  refine ⟨St w M0 [_, _, _], hw1.comp [0] rfl rfl hS5, fun _ _ => trivial, ?_⟩
  refine ow_batch [.p] rfl ?_
  refine ow_nil ?_
  refine x_qs ?_
  refine c_seq ?_
  refine c_reg ?_
  refine ow_batch [.p, .p] rfl ?_
  refine ow_nil ?_
  refine x_qs ?_
  refine c_ret ?_
  exact x_retR (rs := [.tmp 4]) (vs := [.int .i64 y2.1]) rfl ⟨rfl, trivial⟩ (fun w' hw' => by
      obtain rfl := of_some H
      exact ⟨_, rfl, F7, rfl, hw'.sel [2] rfl rfl⟩)

set_option maxHeartbeats 4000000 in
set_option maxRecDepth 100000 in
theorem laws_markByteS_ok (w : World) {M0 : List Nat} {p0 : List Int} {p1 : Int} {a_0_0 : Option Addr} {n_0_0 c_0_0 : Nat} {F_0_0 : List Nat} {r : Int × (List Int)} (H : laws_markByteS p0 p1 = some r) (HS : St w M0 [Res.own (eList (eVal (Value.int .u8) (fun _ => rfl)) 5) F_0_0 p0 [.slice a_0_0 n_0_0 c_0_0]] w)  :
    Calls Try.prog 16 #[.slice a_0_0 n_0_0 c_0_0, .int .i64 p1] w (fun en w' => ∃ v, en = .returned v ∧ ∃ (F0 : List Nat), v = .int .i64 r.1 ∧ St w M0 [Res.own (eList (eVal (Value.int .u8) (fun _ => rfl)) 5) F0 r.2 [.slice a_0_0 n_0_0 c_0_0]] w') := by
  obtain rfl := own_nS (i := 0) HS rfl
  unfold laws_markByteS at H
  refine f_enter (vs := [.slice a_0_0 p0.length c_0_0, .int .i64 p1]) Try.func16 rfl Try.ntmps16 rfl (HS) ?_
  refine c_seq ?_
  refine c_reg ?_
  refine ow_batch [.p] rfl ?_
  refine ow_nil ?_
  refine x_qs ?_
  refine c_seq ?_
  refine c_seq ?_
  refine c_reg ?_
  refine ow_batch [.p] rfl ?_
  refine ow_nil ?_
  refine x_qs ?_
  refine c_block ?_
  refine CW.at (loopI3 (fun (l6 : List Int) (i7 : Int) (i8 : Int) => St w M0 [Res.own (eList (eVal (Value.int .u8) (fun _ => rfl)) 5) F_0_0 l6 [.slice a_0_0 p0.length c_0_0]]) (fun (l6 : List Int) (i7 : Int) (i8 : Int) => [(0, .slice a_0_0 p0.length c_0_0), (1, .int .i64 i7), (5, .int .i64 i8)]) (fun kk => fun (l6 : List Int) (i7 : Int) (i8 : Int) => laws_markByteS_L1 p0 kk l6 i7 i8 = some r) (fun _ _ _ H => ?_) (fun k1 ihk1 l6 i7 i8 H => ?_) Fuel (p0) (p1) (0) (H)) (fun _ h => St.sel [0] rfl rfl h) ⟨rfl, rfl, rfl,  trivial⟩
  · unfold laws_markByteS_L1 at H
    exact absurd H (by simp)
  · unfold laws_markByteS_L1 at H
    refine c_seq ?_
    refine c_seq ?_
    refine c_reg ?_
    refine ow_batch [.p, .p, .lenS 23 5 sl23, .p] rfl ?_
    refine ow_nil ?_
    refine x_qs ?_
    refine c_if rfl (fun hb => ?_) (fun hb => ?_)
    · have H := of_if_t hb H
      refine c_skip ?_
      refine x_qs ?_
      refine c_seq ?_
      refine c_block ?_
      refine c_seq ?_
      refine c_reg ?_
      refine ow_batch [.p, .p, .p, .cv 3 5 .u8 us3 in5] rfl ?_
      obtain ⟨e14, h15, H⟩ := of_bind H
      refine ow_ixE (e := eVal (Value.int .u8) (fun _ => rfl)) (xs := l6) (j := i8) rfl rfl rfl rfl rfl sl23 ty5 rfl (fun w1 hw1 => rds_own (r := 0) rfl w1 hw1) h15 (by rw [Nat.mul_one]) ?_
      refine ow_storeV (i := 0) (j := i8) rfl rfl rfl rfl rfl rfl ty5 rfl h15 (fun _ => rfl) kp ?_
      refine ow_nil ?_
      refine x_qs ?_
      refine c_reg ?_
      refine ow_batch [.p, .p, .p] rfl ?_
      refine ow_nil ?_
      refine x_qb ?_
      refine x_qs ?_
      refine c_reg ?_
      refine ow_batch [.p, .p, .p] rfl ?_
      refine ow_nil ?_
      exact x_ql (RW.at (ihk1 ((l6.set i8.toNat (IntKind.u8.wrap i7))) (IntKind.i64.wrap (i7 + 1)) (IntKind.i64.wrap (i8 + 1)) (H)) (fun _ h => St.sel [0] rfl rfl h) ⟨rfl, rfl, rfl, trivial⟩)
    · have H := of_if_f hb H
      refine c_exit ?_
      refine x_qs_exit ?_
      refine x_ql_exit ?_
      refine x_qb_here ?_
      refine x_qs ?_
      refine c_seq ?_
      refine c_reg ?_
      refine ow_batch [.p, .p] rfl ?_
      refine ow_nil ?_
      refine x_qs ?_
      refine c_ret ?_
      exact x_retR (rs := [.tmp 4]) (vs := [.int .i64 i7]) rfl ⟨rfl, trivial⟩ (fun w' hw' => by
          obtain rfl := of_some H
          exact ⟨_, rfl, F_0_0, rfl, hw'.sel [0] rfl rfl⟩)

set_option maxHeartbeats 4000000 in
set_option maxRecDepth 100000 in
theorem laws_heldByteS_ok (w : World) {p0 : List Int} {p1 : Int} {a_0 : Option Addr} {n_0 c_0 : Nat} {r : Int} (H : laws_heldByteS p0 p1 = some r)  (g0 : (eList (eVal (Value.int .u8) (fun _ => rfl)) 5).rd w [] p0 [.slice a_0 n_0 c_0]) :
    Calls Try.prog 17 #[.slice a_0 n_0 c_0, .int .i64 p1] w (fun en w' => en = .returned (.int .i64 r) ∧ Ext [] w w') := by
  obtain rfl := rd_n g0
  unfold laws_heldByteS at H
  refine f_enter (vs := [.slice a_0 p0.length c_0, .int .i64 p1]) Try.func17 rfl Try.ntmps17 rfl (St.init w []) ?_
  refine c_seq ?_
  refine c_reg ?_
  refine ow_batch [.p] rfl ?_
  refine ow_nil ?_
  refine x_qs ?_
  refine c_seq ?_
  refine c_seq ?_
  refine c_reg ?_
  refine ow_batch [.p] rfl ?_
  refine ow_nil ?_
  refine x_qs ?_
  refine c_block ?_
  refine CW.at (loopI2 (fun (i5 : Int) (i6 : Int) => St w [] []) (fun (i5 : Int) (i6 : Int) => [(0, .slice a_0 p0.length c_0), (1, .int .i64 i5), (5, .int .i64 i6)]) (fun kk => fun (i5 : Int) (i6 : Int) => laws_heldByteS_L1 p0 kk i5 i6 = some r) (fun _ _ H => ?_) (fun k1 ihk1 i5 i6 H => ?_) Fuel (p1) (0) (H)) (fun _ h => St.sel [] rfl rfl h) ⟨rfl, rfl, rfl,  trivial⟩
  · unfold laws_heldByteS_L1 at H
    exact absurd H (by simp)
  · unfold laws_heldByteS_L1 at H
    refine c_seq ?_
    refine c_seq ?_
    refine c_reg ?_
    refine ow_batch [.p, .p, .lenS 23 5 sl23, .p] rfl ?_
    refine ow_nil ?_
    refine x_qs ?_
    refine c_if rfl (fun hb => ?_) (fun hb => ?_)
    · have H := of_if_t hb H
      refine c_skip ?_
      refine x_qs ?_
      refine c_seq ?_
      refine c_block ?_
      refine c_seq ?_
      refine c_seq ?_
      refine c_reg ?_
      refine ow_batch [.p, .p] rfl ?_
      obtain ⟨e11, h12, H⟩ := of_bind H
      refine ow_ixE (e := eVal (Value.int .u8) (fun _ => rfl)) (xs := p0) (j := i6) rfl rfl rfl rfl rfl sl23 ty5 rfl (fun w1 hw1 => rds_bor g0 w1 hw1) h12 (by rw [Nat.mul_one]) ?_
      refine ow_r rfl (dstOk_lt rfl) (ry_load1 rfl rfl ty5 (at_elV (fun w1 hw1 => rds_bor g0 w1 hw1) h12)) ?_
      refine ow_batch [.p, .cv 3 5 .u8 us3 in5, .p] rfl ?_
      refine ow_nil ?_
      refine x_qs ?_
      refine c_if rfl (fun hb => ?_) (fun hb => ?_)
      · have H := of_if_t hb H
        refine c_seq ?_
        refine c_reg ?_
        refine ow_batch [.p] rfl ?_
        refine ow_nil ?_
        refine x_qs ?_
        refine c_ret ?_
        refine x_qs_ret ?_
        refine x_qb_ret ?_
        refine x_qs_ret ?_
        refine x_ql_ret ?_
        refine x_qb_ret ?_
        refine x_qs_ret ?_
        exact x_retR (rs := [.tmp 4]) (vs := [.int .i64 (-1)]) rfl ⟨rfl, trivial⟩ (fun w' hw' => by
            obtain rfl := of_some H
            exact ⟨rfl, hw'.ext⟩)
      · have H := of_if_f hb H
        refine c_skip ?_
        refine x_qs ?_
        refine c_reg ?_
        refine ow_batch [.p, .p, .p] rfl ?_
        refine ow_nil ?_
        refine x_qb ?_
        refine x_qs ?_
        refine c_reg ?_
        refine ow_batch [.p, .p, .p] rfl ?_
        refine ow_nil ?_
        exact x_ql (RW.at (ihk1 (IntKind.i64.wrap (i5 + 1)) (IntKind.i64.wrap (i6 + 1)) (H)) (fun _ h => St.sel [] rfl rfl h) ⟨rfl, rfl, rfl, trivial⟩)
    · have H := of_if_f hb H
      refine c_exit ?_
      refine x_qs_exit ?_
      refine x_ql_exit ?_
      refine x_qb_here ?_
      refine x_qs ?_
      refine c_seq ?_
      refine c_reg ?_
      refine ow_batch [.p, .p] rfl ?_
      refine ow_nil ?_
      refine x_qs ?_
      refine c_ret ?_
      exact x_retR (rs := [.tmp 4]) (vs := [.int .i64 i5]) rfl ⟨rfl, trivial⟩ (fun w' hw' => by
          obtain rfl := of_some H
          exact ⟨rfl, hw'.ext⟩)

set_option maxHeartbeats 4000000 in
set_option maxRecDepth 100000 in
theorem laws_FnExactPutWindow_ok (w : World) {p0 : Tlaws_Window} {cs0 : List Value} {r : Bool} (H : laws_FnExactPutWindow p0 = some r)  (g0 : (eTlaws_Window).rd w [] p0 cs0) :
    Calls Try.prog 5 #[.agg cs0.toArray] w (fun en w' => en = .returned (.bool r) ∧ Ext [] w w') := by
  obtain ⟨c1, rfl, g2⟩ := rdo_Tlaws_Window g0
  obtain ⟨a3, c4, rfl⟩ := rd_sl1 g2
  unfold laws_FnExactPutWindow at H
  refine f_enter (vs := [.agg #[.slice a3 p0.Rows_.length c4]]) Try.func5 rfl Try.ntmps5 rfl (St.init w []) ?_
  refine c_seq ?_
  refine c_reg ?_
  refine ow_box (cs := [.slice a3 p0.Rows_.length c4]) rfl rfl rfl rfl rfl rfl (fun _ => kp) (fun b5 => ?_)
  refine ow_batch [.p] rfl ?_
  refine ow_nil ?_
  refine x_qs ?_
  refine c_seq ?_
  refine c_reg ?_
  refine ow_batch [.p] rfl ?_
  refine ow_nil ?_
  refine x_qs ?_
  refine c_seq ?_
  refine c_reg ?_
  refine ow_r rfl (dstOk_lt rfl) (ry_box (off := 0) (ds := [.slice a3 p0.Rows_.length c4]) rfl rfl ty37 (boxIn (i := 0) rfl) rfl rfl) ?_
  refine ow_batch [.p] rfl ?_
  obtain ⟨y6, h7, H⟩ := of_bind H
  refine ow_q rfl rfl (dstOk_lt rfl) (qy_call rfl fn22 rfl (fun w1 hw1 => laws_szWindow_ok w1 (cs0 := [.slice a3 p0.Rows_.length c4]) h7 (rdm_Tlaws_Window (x := p0) (c0 := [.slice a3 p0.Rows_.length c4]) (rds_bor g2 w1 hw1)))) (fun _ _ => trivial) ?_
  refine ow_batch [.p] rfl ?_
  refine ow_nil ?_
  refine x_qs ?_
  refine c_seq ?_
  refine c_seq ?_
  refine c_reg ?_
  refine ow_batch [.p, .p] rfl ?_
  refine ow_nil ?_
  refine x_qs ?_
  refine c_if rfl (fun hb => ?_) (fun hb => ?_)
  · have H := of_if_t hb H
    refine c_seq ?_
    refine c_reg ?_
    refine ow_batch [.p] rfl ?_
    refine ow_nil ?_
    refine x_qs ?_
    refine c_ret ?_
    refine x_qs_ret ?_
    exact x_retR (rs := [.tmp 2]) (vs := [.bool true]) rfl ⟨rfl, trivial⟩ (fun w' hw' => by
        obtain rfl := of_some H
        exact ⟨rfl, hw'.ext⟩)
  · have H := of_if_f hb H
    refine c_skip ?_
    refine x_qs ?_
    refine c_seq ?_
    refine c_reg ?_
    refine ow_r rfl (dstOk_lt rfl) (ry_box (off := 0) (ds := [.slice a3 p0.Rows_.length c4]) rfl rfl ty37 (boxIn (i := 0) rfl) rfl rfl) ?_
    obtain ⟨y8, h9, H⟩ := of_bind H
    refine ow_callS rfl fn24 rfl rfl rfl rfl (fun w1 hw1 => laws_toWindow_ok w1 (cs0 := [.slice a3 p0.Rows_.length c4]) h9 (hw1.carve [] rfl rfl) (rdm_Tlaws_Window (x := p0) (c0 := [.slice a3 p0.Rows_.length c4]) (rds_bor g2 w1 hw1))) (fun v10 w1 w2 hw1 hR12 => ?_)
    obtain ⟨a13, n14, c15, F16, rfl, hS11⟩ := hR12
    obtain rfl := own_nS (i := 0) hS11 rfl
    refine ⟨St w [] [_, _], hw1.comp [] rfl rfl hS11, fun _ _ => trivial, ?_⟩
    obtain ⟨y17, h18, H⟩ := of_bind H
    refine ow_callS rfl fn23 rfl rfl rfl rfl (fun w1 hw1 => spec_PutWindow_ok w1 (cs0 := [.slice a13 y8.Rows_.length c15]) h18 (hw1.carve [] rfl rfl) (rdm_Timpl_Window (x := y8) (c0 := [.slice a13 y8.Rows_.length c15]) (rds_own (r := 1) rfl w1 hw1))) (fun v19 w1 w2 hw1 hR21 => ?_)
    obtain ⟨a22, n23, c24, F25, rfl, hS20⟩ := hR21
    obtain rfl := own_nS (i := 0) hS20 rfl
    refine ⟨St w [] [_, _, _], hw1.comp [] rfl rfl hS20, fun _ _ => trivial, ?_⟩
    refine ow_batch [.p] rfl ?_
    refine ow_nil ?_
    refine x_qs ?_
    refine c_seq ?_
    refine c_reg ?_
    refine ow_r rfl (dstOk_lt rfl) (ry_box (off := 0) (ds := [.slice a3 p0.Rows_.length c4]) rfl rfl ty37 (boxIn (i := 0) rfl) rfl rfl) ?_
    obtain ⟨y26, h27, H⟩ := of_bind H
    refine ow_callS rfl fn24 rfl rfl rfl rfl (fun w1 hw1 => laws_toWindow_ok w1 (cs0 := [.slice a3 p0.Rows_.length c4]) h27 (hw1.carve [] rfl rfl) (rdm_Tlaws_Window (x := p0) (c0 := [.slice a3 p0.Rows_.length c4]) (rds_bor g2 w1 hw1))) (fun v28 w1 w2 hw1 hR30 => ?_)
    obtain ⟨a31, n32, c33, F34, rfl, hS29⟩ := hR30
    obtain rfl := own_nS (i := 0) hS29 rfl
    refine ⟨St w [] [_, _, _, _], hw1.comp [] rfl rfl hS29, fun _ _ => trivial, ?_⟩
    refine ow_alloc rfl rfl rfl rfl ty40 (fun _ => kp) (fun b35 => ?_)
    refine ow_storeC (off := 0) [.slice a31 y26.Rows_.length c33] [_] (i := 4) rfl rfl rfl rfl rfl rfl ty40 rfl rfl (by intro u hu; simp only [List.mem_cons, List.not_mem_nil, or_false] at hu; rcases hu with rfl <;> rfl) rfl rfl rfl kp ?_
    refine ow_nil ?_
    refine x_qs ?_
    refine c_seq ?_
    refine c_reg ?_
    refine ow_r rfl (dstOk_lt rfl) (ry_box (off := 0) (ds := [.slice a31 y26.Rows_.length c33]) rfl rfl ty40 (boxIn (i := 4) rfl) rfl rfl) ?_
    obtain ⟨y36, h37, H⟩ := of_bind H
    refine ow_callS rfl fn25 rfl rfl rfl rfl (fun w1 hw1 => impl_PutWindow_ok w1 (cs0 := [.slice a31 y26.Rows_.length c33]) h37 (hw1.carve [] rfl rfl) (rdm_Timpl_Window (x := y26) (c0 := [.slice a31 y26.Rows_.length c33]) (rds_own (r := 3) rfl w1 hw1))) (fun v38 w1 w2 hw1 hR40 => ?_)
    obtain ⟨a41, n42, c43, F44, rfl, hS39⟩ := hR40
    obtain rfl := own_nS (i := 0) hS39 rfl
    refine ⟨St w [] [_, _, _, _, _, _], hw1.comp [] rfl rfl hS39, fun _ _ => trivial, ?_⟩
    refine ow_batch [.p] rfl ?_
    refine ow_nil ?_
    refine x_qs ?_
    refine c_seq ?_
    refine c_seq ?_
    refine c_reg ?_
    refine ow_batch [.p, .p] rfl ?_
    obtain ⟨y45, h46, H⟩ := of_bind H
    refine ow_q rfl rfl (dstOk_lt rfl) (qy_call rfl fn13 rfl (fun w1 hw1 => laws_eqByteS_ok w1  h46 (rds_own (r := 5) rfl w1 hw1) (rds_own (r := 2) rfl w1 hw1))) (fun _ _ => trivial) ?_
    refine ow_batch [.p] rfl ?_
    refine ow_nil ?_
    refine x_qs ?_
    refine c_if rfl (fun hb => ?_) (fun hb => ?_)
    · have H := of_if_t hb H
      refine c_seq ?_
      refine c_reg ?_
      refine ow_batch [.p] rfl ?_
      refine ow_nil ?_
      refine x_qs ?_
      refine c_ret ?_
      refine x_qs_ret ?_
      exact x_retR (rs := [.tmp 2]) (vs := [.bool false]) rfl ⟨rfl, trivial⟩ (fun w' hw' => by
          obtain rfl := of_some H
          exact ⟨rfl, hw'.ext⟩)
    · have H := of_if_f hb H
      refine c_skip ?_
      refine x_qs ?_
      refine c_seq ?_
      refine c_seq ?_
      refine c_regHT 3 [(0, true), (1, true), (2, false)] (St w [] [Res.box b5 37 [.slice a3 p0.Rows_.length c4], Res.own (eList (eList (eVal (Value.int .i64) (fun _ => rfl)) 3) 22) F16 y8.Rows_ [.slice a13 y8.Rows_.length c15], Res.own (eList (eVal (Value.int .u8) (fun _ => rfl)) 5) F25 y17 [.slice a22 y17.length c24], Res.own (eList (eList (eVal (Value.int .i64) (fun _ => rfl)) 3) 22) F34 y26.Rows_ [.slice a31 y26.Rows_.length c33], Res.box b35 40 [.slice a31 y26.Rows_.length c33], Res.own (eList (eVal (Value.int .u8) (fun _ => rfl)) 5) F44 y36 [.slice a41 y36.length c43]]) mixed (by kernel_rfl) (panicOk_qs (panicOk_qs panicOk_body)) (fun _ h => St.mask [true, true, true, true, true, true] rfl h) ?_
      refine ow_rH rfl (dstOk_lt rfl) (ry_box (off := 0) (ds := [.slice a31 y26.Rows_.length c33]) rfl rfl ty40 (boxIn (i := 4) rfl) rfl rfl) ?_
      refine ow_rH rfl (dstOk_lt rfl) (ry_box (off := 0) (ds := [.slice a3 p0.Rows_.length c4]) rfl rfl ty37 (boxIn (i := 0) rfl) rfl rfl) ?_
      obtain ⟨y56, h57, H⟩ := of_bind H
      refine ow_callS rfl fn24 rfl rfl rfl rfl (fun w1 hw1 => laws_toWindow_ok w1 (cs0 := [.slice a3 p0.Rows_.length c4]) h57 (hw1.carve [] rfl rfl) (rdm_Tlaws_Window (x := p0) (c0 := [.slice a3 p0.Rows_.length c4]) (rds_bor g2 w1 hw1))) (fun v58 w1 w2 hw1 hR60 => ?_)
      obtain ⟨a61, n62, c63, F64, rfl, hS59⟩ := hR60
      obtain rfl := own_nS (i := 0) hS59 rfl
      refine ⟨St w [] [_, _, _, _, _, _, _], hw1.comp [] rfl rfl hS59, (fun _ h => St.mask [true, true, true, true, true, true] rfl h), ?_⟩
      refine ow_nilH ?_
      refine x_qt ?_
      obtain ⟨y65, h66, H⟩ := of_bind H
      refine ow_q rfl rfl (dstOk_lt rfl) (qy_call rfl fn26 rfl (fun w1 hw1 => laws_eqWindow_ok w1 (cs0 := [.slice a31 y26.Rows_.length c33]) (cs1 := [.slice a61 y56.Rows_.length c63]) h66 (rdm_Timpl_Window (x := y26) (c0 := [.slice a31 y26.Rows_.length c33]) (rds_own (r := 3) rfl w1 hw1)) (rdm_Timpl_Window (x := y56) (c0 := [.slice a61 y56.Rows_.length c63]) (rds_own (r := 6) rfl w1 hw1)))) (fun _ _ => trivial) ?_
      refine ow_batch [.p] rfl ?_
      refine ow_nil ?_
      refine x_qs ?_
      refine c_if rfl (fun hb => ?_) (fun hb => ?_)
      · have H := of_if_t hb H
        refine c_seq ?_
        refine c_reg ?_
        refine ow_batch [.p] rfl ?_
        refine ow_nil ?_
        refine x_qs ?_
        refine c_ret ?_
        refine x_qs_ret ?_
        exact x_retR (rs := [.tmp 2]) (vs := [.bool false]) rfl ⟨rfl, trivial⟩ (fun w' hw' => by
            obtain rfl := of_some H
            exact ⟨rfl, hw'.ext⟩)
      · have H := of_if_f hb H
        refine c_skip ?_
        refine x_qs ?_
        refine c_seq ?_
        refine c_reg ?_
        refine ow_batch [.p] rfl ?_
        refine ow_nil ?_
        refine x_qs ?_
        refine c_seq ?_
        refine c_reg ?_
        refine ow_r rfl (dstOk_lt rfl) (ry_box (off := 0) (ds := [.slice a31 y26.Rows_.length c33]) rfl rfl ty40 (boxIn (i := 4) rfl) rfl rfl) ?_
        refine ow_batch [.p] rfl ?_
        obtain ⟨y67, h68, H⟩ := of_bind H
        refine ow_callS rfl fn27 rfl rfl rfl rfl (fun w1 hw1 => laws_markWindow_ok w1  h68 (hw1.carve [3] rfl rfl)) (fun v69 w1 w2 hw1 hR71 => ?_)
        obtain ⟨F72, rfl, hS70⟩ := hR71
        refine ⟨St w [] [_, _, _, _, _, _, _, _], hw1.comp [3] rfl rfl hS70, fun _ _ => trivial, ?_⟩
        refine ow_batch [.p] rfl ?_
        refine ow_nil ?_
        refine x_qs ?_
        refine c_seq ?_
        refine c_seq ?_
        refine c_reg ?_
        refine ow_batch [.p, .p, .p] rfl ?_
        obtain ⟨u73, hu77, H⟩ := of_bind H
        refine ow_cut [(42, .bool u73), (1, .pointer (some ⟨b5, 0, none⟩)), (4, .slice a22 y17.length c24), (6, .slice a41 y36.length c43)] 5 ?_ (fun key => OW.sub (R := [(1, .pointer (some ⟨b5, 0, none⟩)), (4, .slice a22 y17.length c24), (6, .slice a41 y36.length c43), (37, .bool (decide (y67.1 < 0)))]) ?_ ⟨rfl, rfl, rfl, rfl, trivial⟩)
        · refine ow_nil ?_
          refine x_qs ?_
          refine c_if rfl (fun hb => ?_) (fun hb => ?_)
          · have H := of_if_t hb H
            refine c_seq ?_
            refine c_reg ?_
            refine ow_batch [.p] rfl ?_
            refine ow_nil ?_
            refine x_qs ?_
            refine c_ret ?_
            refine x_qs_ret ?_
            exact x_retR (rs := [.tmp 2]) (vs := [.bool false]) rfl ⟨rfl, trivial⟩ (fun w' hw' => by
                obtain rfl := of_some H
                exact ⟨rfl, hw'.ext⟩)
          · have H := of_if_f hb H
            refine c_skip ?_
            refine x_qs ?_
            refine c_seq ?_
            refine c_reg ?_
            refine ow_batch [.p] rfl ?_
            refine ow_nil ?_
            refine x_qs ?_
            refine c_seq ?_
            refine c_reg ?_
            refine ow_batch [.p, .p] rfl ?_
            obtain ⟨y78, h79, H⟩ := of_bind H
            refine ow_callS rfl fn16 rfl rfl rfl rfl (fun w1 hw1 => laws_markByteS_ok w1  h79 (hw1.carve [5] rfl rfl)) (fun v80 w1 w2 hw1 hR82 => ?_)
            obtain ⟨F83, rfl, hS81⟩ := hR82
            refine ⟨St w [] [_, _, _, _, _, _, _, _, _], hw1.comp [5] rfl rfl hS81, fun _ _ => trivial, ?_⟩
            refine ow_batch [.p] rfl ?_
            refine ow_nil ?_
            refine x_qs ?_
            refine c_seq ?_
            refine CW.weak (C' := St w [] [_, _, _, _, _, _, _]) ?_ (fun _ h => St.sel [0, 1, 2, 4, 6, 7, 8] rfl rfl h)
            refine c_reg ?_
            refine ow_batch [.p] rfl ?_
            refine ow_nil ?_
            refine x_qs ?_
            refine c_seq ?_
            refine c_reg ?_
            refine ow_batch [.p, .p] rfl ?_
            obtain ⟨y84, h85, H⟩ := of_bind H
            refine ow_q rfl rfl (dstOk_lt rfl) (qy_call rfl fn17 rfl (fun w1 hw1 => laws_heldByteS_ok w1  h85 (rds_own (r := 6) rfl w1 hw1))) (fun _ _ => trivial) ?_
            refine ow_batch [.p] rfl ?_
            refine ow_nil ?_
            refine x_qs ?_
            refine c_seq ?_
            refine c_seq ?_
            refine c_reg ?_
            refine ow_batch [.p, .p] rfl ?_
            refine ow_nil ?_
            refine x_qs ?_
            refine c_if rfl (fun hb => ?_) (fun hb => ?_)
            · have H := of_if_t hb H
              refine c_seq ?_
              refine c_reg ?_
              refine ow_batch [.p] rfl ?_
              refine ow_nil ?_
              refine x_qs ?_
              refine c_ret ?_
              refine x_qs_ret ?_
              exact x_retR (rs := [.tmp 2]) (vs := [.bool false]) rfl ⟨rfl, trivial⟩ (fun w' hw' => by
                  obtain rfl := of_some H
                  exact ⟨rfl, hw'.ext⟩)
            · have H := of_if_f hb H
              refine c_skip ?_
              refine x_qs ?_
              refine c_seq ?_
              refine c_seq ?_
              refine c_reg ?_
              refine ow_batch [.p, .p, .p] rfl ?_
              refine ow_nil ?_
              refine x_qs ?_
              refine c_if rfl (fun hb => ?_) (fun hb => ?_)
              · have H := of_if_t hb H
                refine c_seq ?_
                refine c_reg ?_
                refine ow_batch [.p] rfl ?_
                refine ow_nil ?_
                refine x_qs ?_
                refine c_ret ?_
                refine x_qs_ret ?_
                exact x_retR (rs := [.tmp 2]) (vs := [.bool false]) rfl ⟨rfl, trivial⟩ (fun w' hw' => by
                    obtain rfl := of_some H
                    exact ⟨rfl, hw'.ext⟩)
              · have H := of_if_f hb H
                refine c_skip ?_
                refine x_qs ?_
                refine c_seq ?_
                refine c_reg ?_
                refine ow_r rfl (dstOk_lt rfl) (ry_box (off := 0) (ds := [.slice a3 p0.Rows_.length c4]) rfl rfl ty37 (boxIn (i := 0) rfl) rfl rfl) ?_
                obtain ⟨y86, h87, H⟩ := of_bind H
                refine ow_callS rfl fn24 rfl rfl rfl rfl (fun w1 hw1 => laws_toWindow_ok w1 (cs0 := [.slice a3 p0.Rows_.length c4]) h87 (hw1.carve [] rfl rfl) (rdm_Tlaws_Window (x := p0) (c0 := [.slice a3 p0.Rows_.length c4]) (rds_bor g2 w1 hw1))) (fun v88 w1 w2 hw1 hR90 => ?_)
                obtain ⟨a91, n92, c93, F94, rfl, hS89⟩ := hR90
                obtain rfl := own_nS (i := 0) hS89 rfl
                refine ⟨St w [] [_, _, _, _, _, _, _, _], hw1.comp [] rfl rfl hS89, fun _ _ => trivial, ?_⟩
                obtain ⟨y95, h96, H⟩ := of_bind H
                refine ow_callS rfl fn25 rfl rfl rfl rfl (fun w1 hw1 => impl_PutWindow_ok w1 (cs0 := [.slice a91 y86.Rows_.length c93]) h96 (hw1.carve [] rfl rfl) (rdm_Timpl_Window (x := y86) (c0 := [.slice a91 y86.Rows_.length c93]) (rds_own (r := 7) rfl w1 hw1))) (fun v97 w1 w2 hw1 hR99 => ?_)
                obtain ⟨a100, n101, c102, F103, rfl, hS98⟩ := hR99
                obtain rfl := own_nS (i := 0) hS98 rfl
                refine ⟨St w [] [_, _, _, _, _, _, _, _, _], hw1.comp [] rfl rfl hS98, fun _ _ => trivial, ?_⟩
                refine ow_batch [.p] rfl ?_
                refine ow_nil ?_
                refine x_qs ?_
                refine c_seq ?_
                refine c_seq ?_
                refine c_reg ?_
                refine ow_batch [.p, .p] rfl ?_
                obtain ⟨y104, h105, H⟩ := of_bind H
                refine ow_q rfl rfl (dstOk_lt rfl) (qy_call rfl fn13 rfl (fun w1 hw1 => laws_eqByteS_ok w1  h105 (rds_own (r := 8) rfl w1 hw1) (rds_own (r := 2) rfl w1 hw1))) (fun _ _ => trivial) ?_
                refine ow_batch [.p] rfl ?_
                refine ow_nil ?_
                refine x_qs ?_
                refine c_if rfl (fun hb => ?_) (fun hb => ?_)
                · have H := of_if_t hb H
                  refine c_seq ?_
                  refine c_reg ?_
                  refine ow_batch [.p] rfl ?_
                  refine ow_nil ?_
                  refine x_qs ?_
                  refine c_ret ?_
                  refine x_qs_ret ?_
                  exact x_retR (rs := [.tmp 2]) (vs := [.bool false]) rfl ⟨rfl, trivial⟩ (fun w' hw' => by
                      obtain rfl := of_some H
                      exact ⟨rfl, hw'.ext⟩)
                · have H := of_if_f hb H
                  refine c_skip ?_
                  refine x_qs ?_
                  refine c_seq ?_
                  refine c_reg ?_
                  refine ow_batch [.p] rfl ?_
                  refine ow_nil ?_
                  refine x_qs ?_
                  refine c_seq ?_
                  refine c_reg ?_
                  refine ow_batch [.p, .p] rfl ?_
                  obtain ⟨y106, h107, H⟩ := of_bind H
                  refine ow_q rfl rfl (dstOk_lt rfl) (qy_call rfl fn17 rfl (fun w1 hw1 => laws_heldByteS_ok w1  h107 (rds_own (r := 6) rfl w1 hw1))) (fun _ _ => trivial) ?_
                  refine ow_batch [.p] rfl ?_
                  refine ow_nil ?_
                  refine x_qs ?_
                  refine c_seq ?_
                  refine c_seq ?_
                  refine c_reg ?_
                  refine ow_batch [.p, .p] rfl ?_
                  refine ow_nil ?_
                  refine x_qs ?_
                  refine c_if rfl (fun hb => ?_) (fun hb => ?_)
                  · have H := of_if_t hb H
                    refine c_seq ?_
                    refine c_reg ?_
                    refine ow_batch [.p] rfl ?_
                    refine ow_nil ?_
                    refine x_qs ?_
                    refine c_ret ?_
                    refine x_qs_ret ?_
                    exact x_retR (rs := [.tmp 2]) (vs := [.bool false]) rfl ⟨rfl, trivial⟩ (fun w' hw' => by
                        obtain rfl := of_some H
                        exact ⟨rfl, hw'.ext⟩)
                  · have H := of_if_f hb H
                    refine c_skip ?_
                    refine x_qs ?_
                    refine c_seq ?_
                    refine c_seq ?_
                    refine c_reg ?_
                    refine ow_batch [.p, .p, .p] rfl ?_
                    refine ow_nil ?_
                    refine x_qs ?_
                    refine c_if rfl (fun hb => ?_) (fun hb => ?_)
                    · have H := of_if_t hb H
                      refine c_seq ?_
                      refine c_reg ?_
                      refine ow_batch [.p] rfl ?_
                      refine ow_nil ?_
                      refine x_qs ?_
                      refine c_ret ?_
                      refine x_qs_ret ?_
                      exact x_retR (rs := [.tmp 2]) (vs := [.bool false]) rfl ⟨rfl, trivial⟩ (fun w' hw' => by
                          obtain rfl := of_some H
                          exact ⟨rfl, hw'.ext⟩)
                    · have H := of_if_f hb H
                      refine c_skip ?_
                      refine x_qs ?_
                      refine c_seq ?_
                      refine c_reg ?_
                      refine ow_batch [.p] rfl ?_
                      refine ow_nil ?_
                      refine x_qs ?_
                      refine c_ret ?_
                      exact x_retR (rs := [.tmp 2]) (vs := [.bool true]) rfl ⟨rfl, trivial⟩ (fun w' hw' => by
                          obtain rfl := of_some H
                          exact ⟨rfl, hw'.ext⟩)
        · clear H
          have H := hu77
          clear hu77
          generalize (decide (y67.1 < 0)) = t76 at H ⊢
          cases t76
          · have H := of_if_f rfl H
            refine ow_batch [.p, .p] rfl ?_
            obtain ⟨y74, h75, H⟩ := of_bind H
            refine ow_q rfl rfl (dstOk_lt rfl) (qy_call rfl fn13 rfl (fun w1 hw1 => laws_eqByteS_ok w1  h75 (rds_own (r := 5) rfl w1 hw1) (rds_own (r := 2) rfl w1 hw1))) (fun _ _ => trivial) ?_
            refine ow_batch [.p] rfl ?_
            refine ow_batch [.p] rfl ?_
            obtain rfl := of_some H
            exact OW.sub key ⟨rfl, rfl, rfl, rfl, trivial⟩
          · have H := of_if_t rfl H
            refine ow_batch [.p, .p, .p, .p, .p] rfl ?_
            obtain rfl := of_some H
            exact OW.sub key ⟨rfl, rfl, rfl, rfl, trivial⟩

set_option maxHeartbeats 4000000 in
set_option maxRecDepth 100000 in
theorem laws_big_ok (w : World) {p0 : List Int} {a_0 : Option Addr} {n_0 c_0 : Nat} {r : Bool} (H : laws_big p0 = some r)  (g0 : (eList (eVal (Value.int .u8) (fun _ => rfl)) 5).rd w [] p0 [.slice a_0 n_0 c_0]) :
    Calls Try.prog 40 #[.slice a_0 n_0 c_0] w (fun en w' => en = .returned (.bool r) ∧ Ext [] w w') := by
  obtain rfl := rd_n g0
  unfold laws_big at H
  refine f_enter (vs := [.slice a_0 p0.length c_0]) Try.func40 rfl Try.ntmps40 rfl (St.init w []) ?_
  refine c_seq ?_
  refine c_reg ?_
  refine ow_batch [.p] rfl ?_
  refine ow_nil ?_
  refine x_qs ?_
  refine c_seq ?_
  refine c_reg ?_
  refine ow_batch [.p, .lenS 23 5 sl23, .p, .p] rfl ?_
  refine ow_nil ?_
  refine x_qs ?_
  refine c_ret ?_
  exact x_retR (rs := [.tmp 2]) (vs := [.bool (decide ((p0.length : Int) > 1048576))]) rfl ⟨rfl, trivial⟩ (fun w' hw' => by
      obtain rfl := of_some H
      exact ⟨rfl, hw'.ext⟩)

set_option maxHeartbeats 4000000 in
set_option maxRecDepth 100000 in
theorem spec_l1New_ok (w : World) {M0 : List Nat} {p0 : List Int} {a_0 : Option Addr} {n_0 c_0 : Nat} {r : Tspec_l1Cur} (H : spec_l1New p0 = some r) (HS : St w M0 [] w) (g0 : (eList (eVal (Value.int .u8) (fun _ => rfl)) 5).rd w M0 p0 [.slice a_0 n_0 c_0]) :
    Calls Try.prog 72 #[.slice a_0 n_0 c_0] w (fun en w' => ∃ v, en = .returned v ∧ ∃ (b0 : Nat), v = .pointer (some ⟨b0, 0, none⟩) ∧ St w M0 [Res.box b0 120 [.slice a_0 n_0 c_0, .int .i64 r.i_, .int .i64 r.h_]] w') := by
  obtain rfl := rd_n g0
  unfold spec_l1New at H
  refine f_enter (vs := [.slice a_0 p0.length c_0]) Try.func72 rfl Try.ntmps72 rfl (HS) ?_
  refine c_seq ?_
  refine c_reg ?_
  refine ow_batch [.p] rfl ?_
  refine ow_nil ?_
  refine x_qs ?_
  refine c_seq ?_
  refine c_reg ?_
  refine ow_batch [.p, .lenS 23 5 sl23, .p, .p] rfl ?_
  refine ow_nil ?_
  refine x_qs ?_
  refine c_seq ?_
  refine c_seq ?_
  refine c_reg ?_
  refine ow_batch [.p] rfl ?_
  refine ow_nil ?_
  refine x_qs ?_
  refine c_block ?_
  refine CW.at (loopI2 (fun (i7 : Int) (i8 : Int) => St w M0 []) (fun (i7 : Int) (i8 : Int) => [(0, .slice a_0 p0.length c_0), (3, .int .i64 i7), (4, .int .i64 i8)]) (fun kk => fun (i7 : Int) (i8 : Int) => spec_l1New_L1 p0 kk i7 i8 = some r) (fun _ _ H => ?_) (fun k1 ihk1 i7 i8 H => ?_) Fuel (IntKind.i64.wrap (26583 + (p0.length : Int))) (0) (H)) (fun _ h => St.sel [] rfl rfl h) ⟨rfl, rfl, rfl,  trivial⟩
  · unfold spec_l1New_L1 at H
    exact absurd H (by simp)
  · unfold spec_l1New_L1 at H
    refine c_seq ?_
    refine c_seq ?_
    refine c_reg ?_
    refine ow_batch [.p, .p, .lenS 23 5 sl23, .p, .p] rfl ?_
    refine ow_cut [(15, .bool ((decide (i8 < (p0.length : Int))) && (decide (i8 < 4000)))), (0, .slice a_0 p0.length c_0), (3, .int .i64 i7), (4, .int .i64 i8)] 3 ?_ (fun key => OW.sub (R := [(0, .slice a_0 p0.length c_0), (3, .int .i64 i7), (4, .int .i64 i8), (12, .bool (decide (i8 < (p0.length : Int))))]) ?_ ⟨rfl, rfl, rfl, rfl, trivial⟩)
    · refine ow_nil ?_
      refine x_qs ?_
      refine c_if rfl (fun hb => ?_) (fun hb => ?_)
      · have H := of_if_t hb H
        refine c_skip ?_
        refine x_qs ?_
        refine c_seq ?_
        refine c_block ?_
        refine c_reg ?_
        refine ow_batch [.p, .p, .p, .p] rfl ?_
        obtain ⟨e17, h18, H⟩ := of_bind H
        refine ow_ixE (e := eVal (Value.int .u8) (fun _ => rfl)) (xs := p0) (j := i8) rfl rfl rfl rfl rfl sl23 ty5 rfl (fun w1 hw1 => rds_bor g0 w1 hw1) h18 (by rw [Nat.mul_one]) ?_
        refine ow_r rfl (dstOk_lt rfl) (ry_load1 rfl rfl ty5 (at_elV (fun w1 hw1 => rds_bor g0 w1 hw1) h18)) ?_
        refine ow_batch [.cv 5 3 .i64 us5 in3, .p, .p, .p, .p] rfl ?_
        refine ow_nil ?_
        refine x_qb ?_
        refine x_qs ?_
        refine c_reg ?_
        refine ow_batch [.p, .p, .p] rfl ?_
        refine ow_nil ?_
        exact x_ql (RW.at (ihk1 (ibits .and .i64 (IntKind.i64.wrap ((IntKind.i64.wrap ((IntKind.i64.wrap (i7 * 131)) + (IntKind.i64.wrap e17))) + 7)) 1073741823) (IntKind.i64.wrap (i8 + 1)) (H)) (fun _ h => St.sel [] rfl rfl h) ⟨rfl, rfl, rfl, trivial⟩)
      · have H := of_if_f hb H
        refine c_exit ?_
        refine x_qs_exit ?_
        refine x_ql_exit ?_
        refine x_qb_here ?_
        refine x_qs ?_
        refine c_seq ?_
        refine c_reg ?_
        refine ow_batch [.p, .p] rfl ?_
        refine ow_r rfl (dstOk_lt rfl) (ry_build2 [(0, [.slice a_0 p0.length c_0]), (2, [.int .i64 i7])] [.slice a_0 p0.length c_0, .int .i64 0, .int .i64 i7] rfl rfl ty120 fs120 rfl ⟨rfl, rfl, Nat.le_of_ble_eq_true rfl, rfl, rfl, Nat.le_of_ble_eq_true rfl,  trivial⟩ rfl) ?_
        refine ow_box (cs := [.slice a_0 p0.length c_0, .int .i64 0, .int .i64 i7]) rfl rfl rfl rfl rfl rfl (fun _ => kp) (fun b19 => ?_)
        refine ow_batch [.p] rfl ?_
        refine ow_nil ?_
        refine x_qs ?_
        refine c_ret ?_
        exact x_retR (rs := [.tmp 2]) (vs := [.pointer (some ⟨b19, 0, none⟩)]) rfl ⟨rfl, trivial⟩ (fun w' hw' => by
            obtain rfl := of_some H
            exact ⟨_, rfl, b19, rfl, hw'.sel [0] rfl rfl⟩)
    · generalize (decide (i8 < (p0.length : Int))) = t16 at key ⊢
      cases t16
      · refine ow_batch [.p, .p, .p] rfl ?_
        exact OW.sub key ⟨rfl, rfl, rfl, rfl, trivial⟩
      · refine ow_batch [.p, .p] rfl ?_
        refine ow_batch [.p] rfl ?_
        exact OW.sub key ⟨rfl, rfl, rfl, rfl, trivial⟩

set_option maxHeartbeats 4000000 in
set_option maxRecDepth 100000 in
theorem spec_l1Byte_ok (w : World) {M0 : List Nat} {p0b : List Int} {p0 : Tspec_l1Cur} {b_0 : Nat} {a_p0b : Option Addr} {n_p0b c_p0b : Nat} {r : Int × Tspec_l1Cur} (H : spec_l1Byte p0b p0 = some r) (HS : St w M0 [Res.box b_0 120 [.slice a_p0b p0b.length c_p0b, .int .i64 p0.i_, .int .i64 p0.h_]] w) (g_p0b : (eList (eVal (Value.int .u8) (fun _ => rfl)) 5).rd w M0 p0b [.slice a_p0b n_p0b c_p0b]) :
    Calls Try.prog 99 #[.pointer (some ⟨b_0, 0, none⟩)] w (fun en w' => ∃ v, en = .returned v ∧ v = .int .i64 r.1 ∧ St w M0 [Res.box b_0 120 [.slice a_p0b n_p0b c_p0b, .int .i64 r.2.i_, .int .i64 r.2.h_]] w') := by
  obtain rfl := rd_n g_p0b
  unfold spec_l1Byte at H
  refine f_enter (vs := [.pointer (some ⟨b_0, 0, none⟩)]) Try.func99 rfl Try.ntmps99 rfl (HS) ?_
  refine c_seq ?_
  refine c_reg ?_
  refine ow_batch [.p] rfl ?_
  refine ow_nil ?_
  refine x_qs ?_
  refine c_seq ?_
  refine c_reg ?_
  refine ow_batch [.p, .p, .p, .fa 120 2 2 fa120_2] rfl ?_
  refine ow_r rfl (dstOk_lt rfl) (ry_box1 (off := 2) rfl rfl ty3 (boxIn (i := 0) rfl) rfl) ?_
  refine ow_batch [.p, .p, .p, .fa 120 2 2 fa120_2] rfl ?_
  refine ow_storeC (off := 2) [.int .i64 (IntKind.i64.wrap ((IntKind.i64.wrap (p0.h_ * 6364136223846793005)) + 1442695040888963407))] [_, _, _] (i := 0) rfl rfl rfl rfl rfl rfl ty3 rfl rfl (by intro u hu; simp only [List.mem_cons, List.not_mem_nil, or_false] at hu; rcases hu with rfl <;> rfl) rfl rfl rfl kp ?_
  refine ow_nil ?_
  refine x_qs ?_
  refine c_seq ?_
  refine c_regQ mixed (by kernel_rfl) ?_
  refine ow_batch [.p, .p, .fa 120 2 2 fa120_2] rfl ?_
  refine ow_r rfl (dstOk_lt rfl) (ry_box1 (off := 2) rfl rfl ty3 (boxIn (i := 0) rfl) rfl) ?_
  refine ow_batch [.p, .p, .p, .fa 120 2 2 fa120_2] rfl ?_
  refine ow_r rfl (dstOk_lt rfl) (ry_box1 (off := 2) rfl rfl ty3 (boxIn (i := 0) rfl) rfl) ?_
  refine ow_batch [.p, .p, .p, .p] rfl ?_
  refine ow_nilQ ?_
  refine x_qs ?_
  refine c_seq ?_
  refine c_seq ?_
  refine c_regQ mixed (by kernel_rfl) ?_
  refine ow_batch [.p, .p, .fa 120 1 1 fa120_1] rfl ?_
  refine ow_r rfl (dstOk_lt rfl) (ry_box1 (off := 1) rfl rfl ty3 (boxIn (i := 0) rfl) rfl) ?_
  refine ow_batch [.p, .p, .fa 120 0 0 fa120_0] rfl ?_
  refine ow_r rfl (dstOk_lt rfl) (ry_box1 (off := 0) rfl rfl ty23 (boxIn (i := 0) rfl) rfl) ?_
  refine ow_batch [.lenS 23 5 sl23, .p] rfl ?_
  refine ow_nilQ ?_
  refine x_qs ?_
  refine c_if rfl (fun hb => ?_) (fun hb => ?_)
  · have H := of_if_t hb H
    refine c_seq ?_
    refine c_regQ mixed (by kernel_rfl) ?_
    refine ow_batch [.p, .p, .p, .fa 120 0 0 fa120_0] rfl ?_
    refine ow_r rfl (dstOk_lt rfl) (ry_box1 (off := 0) rfl rfl ty23 (boxIn (i := 0) rfl) rfl) ?_
    refine ow_batch [.p, .p, .fa 120 1 1 fa120_1] rfl ?_
    refine ow_r rfl (dstOk_lt rfl) (ry_box1 (off := 1) rfl rfl ty3 (boxIn (i := 0) rfl) rfl) ?_
    obtain ⟨e1, h2, H⟩ := of_bind H
    refine ow_ixE (e := eVal (Value.int .u8) (fun _ => rfl)) (xs := p0b) (j := p0.i_) rfl rfl rfl rfl rfl sl23 ty5 rfl (fun w1 hw1 => rds_bor g_p0b w1 hw1) h2 (by rw [Nat.mul_one]) ?_
    refine ow_r rfl (dstOk_lt rfl) (ry_load1 rfl rfl ty5 (at_elV (fun w1 hw1 => rds_bor g_p0b w1 hw1) h2)) ?_
    refine ow_batch [.cv 5 3 .i64 us5 in3, .p, .p, .p] rfl ?_
    refine ow_nilQ ?_
    refine x_qs ?_
    refine c_reg ?_
    refine ow_batch [.p, .p, .p, .fa 120 1 1 fa120_1] rfl ?_
    refine ow_r rfl (dstOk_lt rfl) (ry_box1 (off := 1) rfl rfl ty3 (boxIn (i := 0) rfl) rfl) ?_
    refine ow_batch [.p, .p, .fa 120 1 1 fa120_1] rfl ?_
    refine ow_storeC (off := 1) [.int .i64 (IntKind.i64.wrap (p0.i_ + 1))] [_, _, _] (i := 0) rfl rfl rfl rfl rfl rfl ty3 rfl rfl (by intro u hu; simp only [List.mem_cons, List.not_mem_nil, or_false] at hu; rcases hu with rfl <;> rfl) rfl rfl rfl kp ?_
    refine ow_nil ?_
    refine x_qs ?_
    refine c_seq ?_
    refine c_reg ?_
    refine ow_batch [.p, .p] rfl ?_
    refine ow_nil ?_
    refine x_qs ?_
    refine c_ret ?_
    exact x_retR (rs := [.tmp 2]) (vs := [.int .i64 (ibits .and .i64 (IntKind.i64.wrap ((ibits .and .i64 (ibits .xor .i64 (ishr .i64 (IntKind.i64.wrap ((IntKind.i64.wrap (p0.h_ * 6364136223846793005)) + 1442695040888963407)) 33) (ishr .i64 (IntKind.i64.wrap ((IntKind.i64.wrap (p0.h_ * 6364136223846793005)) + 1442695040888963407)) 45)) 255) + (IntKind.i64.wrap e1))) 255)]) rfl ⟨rfl, trivial⟩ (fun w' hw' => by
        obtain rfl := of_some H
        exact ⟨_, rfl, rfl, hw'.sel [0] rfl rfl⟩)
  · have H := of_if_f hb H
    refine c_skip ?_
    refine x_qs ?_
    refine c_seq ?_
    refine c_reg ?_
    refine ow_batch [.p, .p] rfl ?_
    refine ow_nil ?_
    refine x_qs ?_
    refine c_ret ?_
    exact x_retR (rs := [.tmp 2]) (vs := [.int .i64 (ibits .and .i64 (ibits .xor .i64 (ishr .i64 (IntKind.i64.wrap ((IntKind.i64.wrap (p0.h_ * 6364136223846793005)) + 1442695040888963407)) 33) (ishr .i64 (IntKind.i64.wrap ((IntKind.i64.wrap (p0.h_ * 6364136223846793005)) + 1442695040888963407)) 45)) 255)]) rfl ⟨rfl, trivial⟩ (fun w' hw' => by
        obtain rfl := of_some H
        exact ⟨_, rfl, rfl, hw'.sel [0] rfl rfl⟩)

set_option maxHeartbeats 4000000 in
set_option maxRecDepth 100000 in
theorem spec_l1Below_ok (w : World) {M0 : List Nat} {p0b : List Int} {p0 : Tspec_l1Cur} {p1 : Int} {b_0 : Nat} {a_p0b : Option Addr} {n_p0b c_p0b : Nat} {r : Int × Tspec_l1Cur} (H : spec_l1Below p0b p0 p1 = some r) (HS : St w M0 [Res.box b_0 120 [.slice a_p0b p0b.length c_p0b, .int .i64 p0.i_, .int .i64 p0.h_]] w) (g_p0b : (eList (eVal (Value.int .u8) (fun _ => rfl)) 5).rd w M0 p0b [.slice a_p0b n_p0b c_p0b]) :
    Calls Try.prog 93 #[.pointer (some ⟨b_0, 0, none⟩), .int .i64 p1] w (fun en w' => ∃ v, en = .returned v ∧ v = .int .i64 r.1 ∧ St w M0 [Res.box b_0 120 [.slice a_p0b n_p0b c_p0b, .int .i64 r.2.i_, .int .i64 r.2.h_]] w') := by
  obtain rfl := rd_n g_p0b
  unfold spec_l1Below at H
  refine f_enter (vs := [.pointer (some ⟨b_0, 0, none⟩), .int .i64 p1]) Try.func93 rfl Try.ntmps93 rfl (HS) ?_
  refine c_seq ?_
  refine c_reg ?_
  refine ow_batch [.p] rfl ?_
  refine ow_nil ?_
  refine x_qs ?_
  refine c_seq ?_
  refine c_seq ?_
  refine c_reg ?_
  refine ow_batch [.p, .p] rfl ?_
  refine ow_nil ?_
  refine x_qs ?_
  refine c_if rfl (fun hb => ?_) (fun hb => ?_)
  · have H := of_if_t hb H
    refine c_seq ?_
    refine c_reg ?_
    refine ow_batch [.p] rfl ?_
    refine ow_nil ?_
    refine x_qs ?_
    refine c_ret ?_
    refine x_qs_ret ?_
    exact x_retR (rs := [.tmp 4]) (vs := [.int .i64 0]) rfl ⟨rfl, trivial⟩ (fun w' hw' => by
        obtain rfl := of_some H
        exact ⟨_, rfl, rfl, hw'.sel [0] rfl rfl⟩)
  · have H := of_if_f hb H
    refine c_skip ?_
    refine x_qs ?_
    refine c_seq ?_
    refine c_seq ?_
    refine c_reg ?_
    refine ow_batch [.p, .p] rfl ?_
    refine ow_nil ?_
    refine x_qs ?_
    refine c_if rfl (fun hb => ?_) (fun hb => ?_)
    · have H := of_if_t hb H
      refine c_seq ?_
      refine c_reg ?_
      refine ow_batch [.p] rfl ?_
      obtain ⟨y1, h2, H⟩ := of_bind H
      refine ow_callS rfl fn99 rfl rfl rfl rfl (fun w1 hw1 => spec_l1Byte_ok w1  h2 (hw1.carve [0] rfl rfl) (rdB [0] rfl rfl hw1 g_p0b)) (fun v3 w1 w2 hw1 hR5 => ?_)
      obtain ⟨rfl, hS4⟩ := hR5
      refine ⟨St w M0 [_, _], hw1.comp [0] rfl rfl hS4, fun _ _ => trivial, ?_⟩
      refine ow_batch [.p] rfl ?_
      obtain ⟨x6, h7, H⟩ := of_bind H
      refine ow_r rfl (dstOk_lt rfl) (ry_rem rfl rfl rfl h7) ?_
      refine ow_batch [.p] rfl ?_
      refine ow_nil ?_
      refine x_qs ?_
      refine c_ret ?_
      refine x_qs_ret ?_
      exact x_retR (rs := [.tmp 4]) (vs := [.int .i64 x6]) rfl ⟨rfl, trivial⟩ (fun w' hw' => by
          obtain rfl := of_some H
          exact ⟨_, rfl, rfl, hw'.sel [1] rfl rfl⟩)
    · have H := of_if_f hb H
      refine c_skip ?_
      refine x_qs ?_
      refine c_seq ?_
      refine c_reg ?_
      refine ow_batch [.p] rfl ?_
      obtain ⟨y8, h9, H⟩ := of_bind H
      refine ow_callS rfl fn99 rfl rfl rfl rfl (fun w1 hw1 => spec_l1Byte_ok w1  h9 (hw1.carve [0] rfl rfl) (rdB [0] rfl rfl hw1 g_p0b)) (fun v10 w1 w2 hw1 hR12 => ?_)
      obtain ⟨rfl, hS11⟩ := hR12
      refine ⟨St w M0 [_, _], hw1.comp [0] rfl rfl hS11, fun _ _ => trivial, ?_⟩
      refine ow_batch [.p] rfl ?_
      refine ow_nil ?_
      refine x_qs ?_
      refine c_seq ?_
      refine c_reg ?_
      refine ow_batch [.p] rfl ?_
      obtain ⟨y13, h14, H⟩ := of_bind H
      refine ow_callS rfl fn99 rfl rfl rfl rfl (fun w1 hw1 => spec_l1Byte_ok w1  h14 (hw1.carve [1] rfl rfl) (rdB [1] rfl rfl hw1 g_p0b)) (fun v15 w1 w2 hw1 hR17 => ?_)
      obtain ⟨rfl, hS16⟩ := hR17
      refine ⟨St w M0 [_, _, _], hw1.comp [1] rfl rfl hS16, fun _ _ => trivial, ?_⟩
      refine ow_batch [.p] rfl ?_
      refine ow_nil ?_
      refine x_qs ?_
      refine c_seq ?_
      refine CW.weak (C' := St w M0 [_]) ?_ (fun _ h => St.sel [2] rfl rfl h)
      refine c_reg ?_
      refine ow_batch [.p] rfl ?_
      obtain ⟨y18, h19, H⟩ := of_bind H
      refine ow_callS rfl fn99 rfl rfl rfl rfl (fun w1 hw1 => spec_l1Byte_ok w1  h19 (hw1.carve [0] rfl rfl) (rdB [0] rfl rfl hw1 g_p0b)) (fun v20 w1 w2 hw1 hR22 => ?_)
      obtain ⟨rfl, hS21⟩ := hR22
      refine ⟨St w M0 [_, _], hw1.comp [0] rfl rfl hS21, fun _ _ => trivial, ?_⟩
      refine ow_batch [.p] rfl ?_
      refine ow_nil ?_
      refine x_qs ?_
      refine c_seq ?_
      refine c_reg ?_
      refine ow_batch [.p] rfl ?_
      obtain ⟨y23, h24, H⟩ := of_bind H
      refine ow_callS rfl fn99 rfl rfl rfl rfl (fun w1 hw1 => spec_l1Byte_ok w1  h24 (hw1.carve [1] rfl rfl) (rdB [1] rfl rfl hw1 g_p0b)) (fun v25 w1 w2 hw1 hR27 => ?_)
      obtain ⟨rfl, hS26⟩ := hR27
      refine ⟨St w M0 [_, _, _], hw1.comp [1] rfl rfl hS26, fun _ _ => trivial, ?_⟩
      refine ow_batch [.p] rfl ?_
      refine ow_nil ?_
      refine x_qs ?_
      refine c_seq ?_
      refine CW.weak (C' := St w M0 [_]) ?_ (fun _ h => St.sel [2] rfl rfl h)
      refine c_reg ?_
      refine ow_batch [.p, .p, .p, .p, .p, .p, .p, .p, .p, .p, .p] rfl ?_
      obtain ⟨x28, h29, H⟩ := of_bind H
      refine ow_r rfl (dstOk_lt rfl) (ry_rem rfl rfl rfl h29) ?_
      refine ow_batch [.p] rfl ?_
      refine ow_nil ?_
      refine x_qs ?_
      refine c_ret ?_
      exact x_retR (rs := [.tmp 4]) (vs := [.int .i64 x28]) rfl ⟨rfl, trivial⟩ (fun w' hw' => by
          obtain rfl := of_some H
          exact ⟨_, rfl, rfl, hw'.sel [0] rfl rfl⟩)

set_option maxHeartbeats 4000000 in
set_option maxRecDepth 100000 in
theorem spec_l1PickInt_ok (w : World) {M0 : List Nat} {p0b : List Int} {p0 : Tspec_l1Cur} {p1 : List Int} {b_0 : Nat} {a_p0b : Option Addr} {n_p0b c_p0b : Nat} {a_1 : Option Addr} {n_1 c_1 : Nat} {r : Int × Tspec_l1Cur} (H : spec_l1PickInt p0b p0 p1 = some r) (HS : St w M0 [Res.box b_0 120 [.slice a_p0b p0b.length c_p0b, .int .i64 p0.i_, .int .i64 p0.h_]] w) (g_p0b : (eList (eVal (Value.int .u8) (fun _ => rfl)) 5).rd w M0 p0b [.slice a_p0b n_p0b c_p0b]) (g1 : (eList (eVal (Value.int .i64) (fun _ => rfl)) 3).rd w M0 p1 [.slice a_1 n_1 c_1]) :
    Calls Try.prog 73 #[.pointer (some ⟨b_0, 0, none⟩), .slice a_1 n_1 c_1] w (fun en w' => ∃ v, en = .returned v ∧ v = .int .i64 r.1 ∧ St w M0 [Res.box b_0 120 [.slice a_p0b n_p0b c_p0b, .int .i64 r.2.i_, .int .i64 r.2.h_]] w') := by
  obtain rfl := rd_n g_p0b
  obtain rfl := rd_n g1
  unfold spec_l1PickInt at H
  refine f_enter (vs := [.pointer (some ⟨b_0, 0, none⟩), .slice a_1 p1.length c_1]) Try.func73 rfl Try.ntmps73 rfl (HS) ?_
  refine c_seq ?_
  refine c_reg ?_
  refine ow_batch [.p] rfl ?_
  refine ow_nil ?_
  refine x_qs ?_
  refine c_seq ?_
  refine c_reg ?_
  refine ow_batch [.p, .p, .p, .lenS 22 3 sl22] rfl ?_
  obtain ⟨y1, h2, H⟩ := of_bind H
  refine ow_callS rfl fn93 rfl rfl rfl rfl (fun w1 hw1 => spec_l1Below_ok w1  h2 (hw1.carve [0] rfl rfl) (rdB [0] rfl rfl hw1 g_p0b)) (fun v3 w1 w2 hw1 hR5 => ?_)
  obtain ⟨rfl, hS4⟩ := hR5
  refine ⟨St w M0 [_, _], hw1.comp [0] rfl rfl hS4, fun _ _ => trivial, ?_⟩
  obtain ⟨e6, h7, H⟩ := of_bind H
  refine ow_ixE (e := eVal (Value.int .i64) (fun _ => rfl)) (xs := p1) (j := y1.1) rfl rfl rfl rfl rfl sl22 ty3 rfl (fun w1 hw1 => rds_bor g1 w1 hw1) h7 (by rw [Nat.mul_one]) ?_
  refine ow_r rfl (dstOk_lt rfl) (ry_load1 rfl rfl ty3 (at_elV (fun w1 hw1 => rds_bor g1 w1 hw1) h7)) ?_
  refine ow_batch [.p] rfl ?_
  refine ow_nil ?_
  refine x_qs ?_
  refine c_ret ?_
  exact x_retR (rs := [.tmp 4]) (vs := [.int .i64 e6]) rfl ⟨rfl, trivial⟩ (fun w' hw' => by
      obtain rfl := of_some H
      exact ⟨_, rfl, rfl, hw'.sel [1] rfl rfl⟩)

set_option maxHeartbeats 4000000 in
set_option maxRecDepth 100000 in
theorem spec_l27Int_ok (w : World) {M0 : List Nat} {p0b : List Int} {p0 : Tspec_l1Cur} {b_0 : Nat} {a_p0b : Option Addr} {n_p0b c_p0b : Nat} {r : Int × Tspec_l1Cur} (H : spec_l27Int p0b p0 = some r) (HS : St w M0 [Res.box b_0 120 [.slice a_p0b p0b.length c_p0b, .int .i64 p0.i_, .int .i64 p0.h_]] w) (g_p0b : (eList (eVal (Value.int .u8) (fun _ => rfl)) 5).rd w M0 p0b [.slice a_p0b n_p0b c_p0b]) :
    Calls Try.prog 74 #[.pointer (some ⟨b_0, 0, none⟩)] w (fun en w' => ∃ v, en = .returned v ∧ v = .int .i64 r.1 ∧ St w M0 [Res.box b_0 120 [.slice a_p0b n_p0b c_p0b, .int .i64 r.2.i_, .int .i64 r.2.h_]] w') := by
  obtain rfl := rd_n g_p0b
  unfold spec_l27Int at H
  refine f_enter (vs := [.pointer (some ⟨b_0, 0, none⟩)]) Try.func74 rfl Try.ntmps74 rfl (HS) ?_
  refine c_seq ?_
  refine c_reg ?_
  refine ow_batch [.p] rfl ?_
  refine ow_nil ?_
  refine x_qs ?_
  refine c_seq ?_
  refine c_reg ?_
  refine ow_batch [.p, .p] rfl ?_
  obtain ⟨y1, h2, H⟩ := of_bind H
  refine ow_callS rfl fn93 rfl rfl rfl rfl (fun w1 hw1 => spec_l1Below_ok w1  h2 (hw1.carve [0] rfl rfl) (rdB [0] rfl rfl hw1 g_p0b)) (fun v3 w1 w2 hw1 hR5 => ?_)
  obtain ⟨rfl, hS4⟩ := hR5
  refine ⟨St w M0 [_, _], hw1.comp [0] rfl rfl hS4, fun _ _ => trivial, ?_⟩
  refine ow_blit (val := Value.int .i64) (h1 := fun _ => rfl) [0, 1, (-1), 63, 64, (-64), (-65), 1000000000, (-1000000000), y1.1] [(0, [.int .i64 0]), (1, [.int .i64 1]), (2, [.int .i64 (-1)]), (3, [.int .i64 63]), (4, [.int .i64 64]), (5, [.int .i64 (-64)]), (6, [.int .i64 (-65)]), (7, [.int .i64 1000000000]), (8, [.int .i64 (-1000000000)]), (9, [.int .i64 y1.1])] rfl rfl rfl rfl rfl sl22 ty3 rfl rfl rfl ⟨rfl, rfl, Nat.le_of_ble_eq_true rfl, rfl, rfl, Nat.le_of_ble_eq_true rfl, rfl, rfl, Nat.le_of_ble_eq_true rfl, rfl, rfl, Nat.le_of_ble_eq_true rfl, rfl, rfl, Nat.le_of_ble_eq_true rfl, rfl, rfl, Nat.le_of_ble_eq_true rfl, rfl, rfl, Nat.le_of_ble_eq_true rfl, rfl, rfl, Nat.le_of_ble_eq_true rfl, rfl, rfl, Nat.le_of_ble_eq_true rfl, rfl, rfl, Nat.le_of_ble_eq_true rfl,  trivial⟩ rfl rfl (fun _ => kp) (fun b6 => ?_)
  obtain ⟨y7, h8, H⟩ := of_bind H
  refine ow_callS rfl fn73 rfl rfl rfl rfl (fun w1 hw1 => spec_l1PickInt_ok w1  h8 (hw1.carve [1] rfl rfl) (rdB [1] rfl rfl hw1 g_p0b) (rdO 2 [1] rfl hw1 rfl rfl)) (fun v9 w1 w2 hw1 hR11 => ?_)
  obtain ⟨rfl, hS10⟩ := hR11
  refine ⟨St w M0 [_, _, _, _], hw1.comp [1] rfl rfl hS10, fun _ _ => trivial, ?_⟩
  refine ow_batch [.p] rfl ?_
  refine ow_nil ?_
  refine x_qs ?_
  refine c_ret ?_
  exact x_retR (rs := [.tmp 2]) (vs := [.int .i64 y7.1]) rfl ⟨rfl, trivial⟩ (fun w' hw' => by
      obtain rfl := of_some H
      exact ⟨_, rfl, rfl, hw'.sel [3] rfl rfl⟩)

set_option maxHeartbeats 4000000 in
set_option maxRecDepth 100000 in
theorem spec_DrawPutInt_ok (w : World) {p0 : List Int} {a_0 : Option Addr} {n_0 c_0 : Nat} {r : Int} (H : spec_DrawPutInt p0 = some r)  (g0 : (eList (eVal (Value.int .u8) (fun _ => rfl)) 5).rd w [] p0 [.slice a_0 n_0 c_0]) :
    Calls Try.prog 41 #[.slice a_0 n_0 c_0] w (fun en w' => en = .returned (.int .i64 r) ∧ Ext [] w w') := by
  obtain rfl := rd_n g0
  unfold spec_DrawPutInt at H
  refine f_enter (vs := [.slice a_0 p0.length c_0]) Try.func41 rfl Try.ntmps41 rfl (St.init w []) ?_
  refine c_seq ?_
  refine c_reg ?_
  refine ow_batch [.p] rfl ?_
  refine ow_nil ?_
  refine x_qs ?_
  refine c_seq ?_
  refine c_reg ?_
  refine ow_batch [.p] rfl ?_
  obtain ⟨y1, h2, H⟩ := of_bind H
  refine ow_callS rfl fn72 rfl rfl rfl rfl (fun w1 hw1 => spec_l1New_ok w1  h2 (hw1.carve [] rfl rfl) (rds_bor g0 w1 hw1)) (fun v3 w1 w2 hw1 hR5 => ?_)
  obtain ⟨b6, rfl, hS4⟩ := hR5
  refine ⟨St w [] [_], hw1.comp [] rfl rfl hS4, fun _ _ => trivial, ?_⟩
  refine ow_batch [.p] rfl ?_
  refine ow_nil ?_
  refine x_qs ?_
  refine c_seq ?_
  refine c_reg ?_
  refine ow_batch [.p, .p] rfl ?_
  obtain ⟨y7, h8, H⟩ := of_bind H
  refine ow_callS rfl fn74 rfl rfl rfl rfl (fun w1 hw1 => spec_l27Int_ok w1  h8 (hw1.carve [0] rfl rfl) (rdB [0] rfl rfl hw1 g0)) (fun v9 w1 w2 hw1 hR11 => ?_)
  obtain ⟨rfl, hS10⟩ := hR11
  refine ⟨St w [] [_, _], hw1.comp [0] rfl rfl hS10, fun _ _ => trivial, ?_⟩
  refine ow_batch [.p] rfl ?_
  obtain ⟨y12, h13, H⟩ := of_bind H
  refine ow_callS rfl fn74 rfl rfl rfl rfl (fun w1 hw1 => spec_l27Int_ok w1  h13 (hw1.carve [1] rfl rfl) (rdB [1] rfl rfl hw1 g0)) (fun v14 w1 w2 hw1 hR16 => ?_)
  obtain ⟨rfl, hS15⟩ := hR16
  refine ⟨St w [] [_, _, _], hw1.comp [1] rfl rfl hS15, fun _ _ => trivial, ?_⟩
  refine ow_blit (val := Value.int .i64) (h1 := fun _ => rfl) [y7.1, y12.1, 1000000001, (-1000000001), 9223372036854775807, (-9223372036854775808)] [(0, [.int .i64 y7.1]), (1, [.int .i64 y12.1]), (2, [.int .i64 1000000001]), (3, [.int .i64 (-1000000001)]), (4, [.int .i64 9223372036854775807]), (5, [.int .i64 (-9223372036854775808)])] rfl rfl rfl rfl rfl sl22 ty3 rfl rfl rfl ⟨rfl, rfl, Nat.le_of_ble_eq_true rfl, rfl, rfl, Nat.le_of_ble_eq_true rfl, rfl, rfl, Nat.le_of_ble_eq_true rfl, rfl, rfl, Nat.le_of_ble_eq_true rfl, rfl, rfl, Nat.le_of_ble_eq_true rfl, rfl, rfl, Nat.le_of_ble_eq_true rfl,  trivial⟩ rfl rfl (fun _ => kp) (fun b17 => ?_)
  obtain ⟨y18, h19, H⟩ := of_bind H
  refine ow_callS rfl fn73 rfl rfl rfl rfl (fun w1 hw1 => spec_l1PickInt_ok w1  h19 (hw1.carve [2] rfl rfl) (rdB [2] rfl rfl hw1 g0) (rdO 3 [2] rfl hw1 rfl rfl)) (fun v20 w1 w2 hw1 hR22 => ?_)
  obtain ⟨rfl, hS21⟩ := hR22
  refine ⟨St w [] [_, _, _, _, _], hw1.comp [2] rfl rfl hS21, fun _ _ => trivial, ?_⟩
  refine ow_batch [.p] rfl ?_
  refine ow_nil ?_
  refine x_qs ?_
  refine c_ret ?_
  exact x_retR (rs := [.tmp 2]) (vs := [.int .i64 y18.1]) rfl ⟨rfl, trivial⟩ (fun w' hw' => by
      obtain rfl := of_some H
      exact ⟨rfl, hw'.ext⟩)

set_option maxHeartbeats 4000000 in
set_option maxRecDepth 100000 in
theorem spec_l27Ints_ok (w : World) {M0 : List Nat} {p0b : List Int} {p0 : Tspec_l1Cur} {b_0 : Nat} {a_p0b : Option Addr} {n_p0b c_p0b : Nat} {r : (List Int) × Tspec_l1Cur} (H : spec_l27Ints p0b p0 = some r) (HS : St w M0 [Res.box b_0 120 [.slice a_p0b p0b.length c_p0b, .int .i64 p0.i_, .int .i64 p0.h_]] w) (g_p0b : (eList (eVal (Value.int .u8) (fun _ => rfl)) 5).rd w M0 p0b [.slice a_p0b n_p0b c_p0b]) :
    Calls Try.prog 75 #[.pointer (some ⟨b_0, 0, none⟩)] w (fun en w' => ∃ v, en = .returned v ∧ ∃ (a0 : Option Addr), ∃ (n0 : Nat), ∃ (c0 : Nat), ∃ (F0 : List Nat), v = .slice a0 n0 c0 ∧ St w M0 [Res.own (eList (eVal (Value.int .i64) (fun _ => rfl)) 3) F0 r.1 [.slice a0 n0 c0], Res.box b_0 120 [.slice a_p0b n_p0b c_p0b, .int .i64 r.2.i_, .int .i64 r.2.h_]] w') := by
  obtain rfl := rd_n g_p0b
  unfold spec_l27Ints at H
  refine f_enter (vs := [.pointer (some ⟨b_0, 0, none⟩)]) Try.func75 rfl Try.ntmps75 rfl (HS) ?_
  refine c_seq ?_
  refine c_reg ?_
  refine ow_batch [.p] rfl ?_
  refine ow_nil ?_
  refine x_qs ?_
  refine c_seq ?_
  refine c_reg ?_
  refine ow_blit0 (e := eVal (Value.int .i64) (fun _ => rfl)) rfl rfl rfl rfl sl22 ty3 (fun _ => kp) (fun b1 => ?_)
  refine ow_batch [.p] rfl ?_
  refine ow_nil ?_
  refine x_qs ?_
  refine c_seq ?_
  refine c_reg ?_
  refine ow_batch [.p] rfl ?_
  obtain ⟨y2, h3, H⟩ := of_bind H
  refine ow_callS rfl fn93 rfl rfl rfl rfl (fun w1 hw1 => spec_l1Below_ok w1  h3 (hw1.carve [0] rfl rfl) (rdB [0] rfl rfl hw1 g_p0b)) (fun v4 w1 w2 hw1 hR6 => ?_)
  obtain ⟨rfl, hS5⟩ := hR6
  refine ⟨St w M0 [_, _, _], hw1.comp [0] rfl rfl hS5, fun _ _ => trivial, ?_⟩
  refine ow_batch [.p] rfl ?_
  refine ow_nil ?_
  refine x_qs ?_
  refine c_seq ?_
  refine c_seq ?_
  refine c_reg ?_
  refine ow_batch [.p] rfl ?_
  refine ow_nil ?_
  refine x_qs ?_
  refine c_block ?_
  refine CW.at (loopI7 (fun (i26 : Int) (i27 : Int) (l28 : List Int) (a29 : Option Addr) (c30 : Nat) (F31 : List Nat) (i32 : Int) => St w M0 [Res.box b_0 120 [.slice a_p0b p0b.length c_p0b, .int .i64 i26, .int .i64 i27], Res.own (eList (eVal (Value.int .i64) (fun _ => rfl)) 3) F31 l28 [.slice a29 l28.length c30]]) (fun (i26 : Int) (i27 : Int) (l28 : List Int) (a29 : Option Addr) (c30 : Nat) (F31 : List Nat) (i32 : Int) => [(0, .pointer (some ⟨b_0, 0, none⟩)), (3, .slice a29 l28.length c30), (4, .int .i64 y2.1), (5, .int .i64 i32)]) (fun kk => fun (i26 : Int) (i27 : Int) (l28 : List Int) (a29 : Option Addr) (c30 : Nat) (F31 : List Nat) (i32 : Int) => spec_l27Ints_L1 y2 p0b kk i26 i27 l28 i32 = some r) (fun _ _ _ _ _ _ _ H => ?_) (fun k1 ihk1 i26 i27 l28 a29 c30 F31 i32 H => ?_) Fuel (y2.2.i_) (y2.2.h_) (([] : List Int)) ((some ⟨b1, 0, none⟩)) (0) ([b1]) (0) (H)) (fun _ h => St.sel [2, 1] rfl rfl h) ⟨rfl, rfl, rfl, rfl,  trivial⟩
  · unfold spec_l27Ints_L1 at H
    exact absurd H (by simp)
  · unfold spec_l27Ints_L1 at H
    refine c_seq ?_
    refine c_seq ?_
    refine c_reg ?_
    refine ow_batch [.p, .p, .p] rfl ?_
    refine ow_nil ?_
    refine x_qs ?_
    refine c_if rfl (fun hb => ?_) (fun hb => ?_)
    · have H := of_if_t hb H
      refine c_skip ?_
      refine x_qs ?_
      refine c_seq ?_
      refine c_block ?_
      refine c_reg ?_
      refine ow_batch [.p, .p] rfl ?_
      obtain ⟨y52, h53, H⟩ := of_bind H
      refine ow_callS rfl fn74 rfl rfl rfl rfl (fun w1 hw1 => spec_l27Int_ok w1  h53 (hw1.carve [0] rfl rfl) (rdB [0] rfl rfl hw1 g_p0b)) (fun v54 w1 w2 hw1 hR56 => ?_)
      obtain ⟨rfl, hS55⟩ := hR56
      refine ⟨St w M0 [_, _, _], hw1.comp [0] rfl rfl hS55, fun _ _ => trivial, ?_⟩
      refine ow_blit (val := Value.int .i64) (h1 := fun _ => rfl) [y52.1] [(0, [.int .i64 y52.1])] rfl rfl rfl rfl rfl sl22 ty3 rfl rfl rfl ⟨rfl, rfl, Nat.le_of_ble_eq_true rfl,  trivial⟩ rfl rfl (fun _ => kp) (fun b57 => ?_)
      obtain ⟨l58, h59, H⟩ := of_bind H
      refine ow_appR (r := 1) (ys := ([y52.1] : List Int)) rfl rfl rfl rfl rfl rfl sl22 ty3 rfl rfl rfl (fun w1 hw1 => rds_own (r := 3) rfl w1 hw1) h59 (fun _ _ _ => kp) (fun a60 c61 F62 => ?_)
      refine ow_fact rfl (fun w1 hw1 => own_nn (i := 1) hw1 rfl (app_ne h59)) (fun hz63 => ?_)
      refine ow_batch [.p] rfl ?_
      refine ow_nil ?_
      refine x_qb ?_
      refine x_qs ?_
      refine c_reg ?_
      refine ow_batch [.p, .p, .p] rfl ?_
      refine ow_nil ?_
      exact x_ql (RW.at (ihk1 (y52.2.i_) (y52.2.h_) (l58) (a60) (c61) (F62) (IntKind.i64.wrap (i32 + 1)) (H)) (fun _ h => St.sel [2, 1] rfl rfl h) ⟨rfl, rfl, rfl, rfl, trivial⟩)
    · have H := of_if_f hb H
      refine c_exit ?_
      refine x_qs_exit ?_
      refine x_ql_exit ?_
      refine x_qb_here ?_
      refine x_qs ?_
      refine c_seq ?_
      refine c_reg ?_
      refine ow_batch [.p, .p] rfl ?_
      refine ow_nil ?_
      refine x_qs ?_
      refine c_ret ?_
      exact x_retR (rs := [.tmp 2]) (vs := [.slice a29 l28.length c30]) rfl ⟨rfl, trivial⟩ (fun w' hw' => by
          obtain rfl := of_some H
          exact ⟨_, rfl, a29, l28.length, c30, F31, rfl, hw'.sel [1, 0] rfl rfl⟩)

set_option maxHeartbeats 4000000 in
set_option maxRecDepth 100000 in
theorem spec_l1Once_ok (w : World) {M0 : List Nat} {p0b : List Int} {p0 : Tspec_l1Cur} {p1 : Int} {b_0 : Nat} {a_p0b : Option Addr} {n_p0b c_p0b : Nat} {r : Bool × Tspec_l1Cur} (H : spec_l1Once p0b p0 p1 = some r) (HS : St w M0 [Res.box b_0 120 [.slice a_p0b p0b.length c_p0b, .int .i64 p0.i_, .int .i64 p0.h_]] w) (g_p0b : (eList (eVal (Value.int .u8) (fun _ => rfl)) 5).rd w M0 p0b [.slice a_p0b n_p0b c_p0b]) :
    Calls Try.prog 76 #[.pointer (some ⟨b_0, 0, none⟩), .int .i64 p1] w (fun en w' => ∃ v, en = .returned v ∧ v = .bool r.1 ∧ St w M0 [Res.box b_0 120 [.slice a_p0b n_p0b c_p0b, .int .i64 r.2.i_, .int .i64 r.2.h_]] w') := by
  obtain rfl := rd_n g_p0b
  unfold spec_l1Once at H
  refine f_enter (vs := [.pointer (some ⟨b_0, 0, none⟩), .int .i64 p1]) Try.func76 rfl Try.ntmps76 rfl (HS) ?_
  refine c_seq ?_
  refine c_reg ?_
  refine ow_batch [.p] rfl ?_
  refine ow_nil ?_
  refine x_qs ?_
  refine c_seq ?_
  refine c_reg ?_
  refine ow_batch [.p, .p] rfl ?_
  obtain ⟨y1, h2, H⟩ := of_bind H
  refine ow_callS rfl fn93 rfl rfl rfl rfl (fun w1 hw1 => spec_l1Below_ok w1  h2 (hw1.carve [0] rfl rfl) (rdB [0] rfl rfl hw1 g_p0b)) (fun v3 w1 w2 hw1 hR5 => ?_)
  obtain ⟨rfl, hS4⟩ := hR5
  refine ⟨St w M0 [_, _], hw1.comp [0] rfl rfl hS4, fun _ _ => trivial, ?_⟩
  refine ow_batch [.p, .p] rfl ?_
  refine ow_nil ?_
  refine x_qs ?_
  refine c_ret ?_
  exact x_retR (rs := [.tmp 4]) (vs := [.bool (y1.1 == 0)]) rfl ⟨rfl, trivial⟩ (fun w' hw' => by
      obtain rfl := of_some H
      exact ⟨_, rfl, rfl, hw'.sel [1] rfl rfl⟩)

set_option maxHeartbeats 4000000 in
set_option maxRecDepth 100000 in
theorem spec_DrawPutInts_ok (w : World) {M0 : List Nat} {p0 : List Int} {a_0 : Option Addr} {n_0 c_0 : Nat} {r : List Int} (H : spec_DrawPutInts p0 = some r) (HS : St w M0 [] w) (g0 : (eList (eVal (Value.int .u8) (fun _ => rfl)) 5).rd w M0 p0 [.slice a_0 n_0 c_0]) :
    Calls Try.prog 42 #[.slice a_0 n_0 c_0] w (fun en w' => ∃ v, en = .returned v ∧ ∃ (a0 : Option Addr), ∃ (n0 : Nat), ∃ (c0 : Nat), ∃ (F0 : List Nat), v = .slice a0 n0 c0 ∧ St w M0 [Res.own (eList (eVal (Value.int .i64) (fun _ => rfl)) 3) F0 r [.slice a0 n0 c0]] w') := by
  obtain rfl := rd_n g0
  unfold spec_DrawPutInts at H
  refine f_enter (vs := [.slice a_0 p0.length c_0]) Try.func42 rfl Try.ntmps42 rfl (HS) ?_
  refine c_seq ?_
  refine c_reg ?_
  refine ow_batch [.p] rfl ?_
  refine ow_nil ?_
  refine x_qs ?_
  refine c_seq ?_
  refine c_reg ?_
  refine ow_batch [.p] rfl ?_
  obtain ⟨y1, h2, H⟩ := of_bind H
  refine ow_callS rfl fn72 rfl rfl rfl rfl (fun w1 hw1 => spec_l1New_ok w1  h2 (hw1.carve [] rfl rfl) (rds_bor g0 w1 hw1)) (fun v3 w1 w2 hw1 hR5 => ?_)
  obtain ⟨b6, rfl, hS4⟩ := hR5
  refine ⟨St w M0 [_], hw1.comp [] rfl rfl hS4, fun _ _ => trivial, ?_⟩
  refine ow_batch [.p] rfl ?_
  refine ow_nil ?_
  refine x_qs ?_
  refine c_seq ?_
  refine c_reg ?_
  refine ow_batch [.p] rfl ?_
  obtain ⟨y7, h8, H⟩ := of_bind H
  refine ow_callS rfl fn75 rfl rfl rfl rfl (fun w1 hw1 => spec_l27Ints_ok w1  h8 (hw1.carve [0] rfl rfl) (rdB [0] rfl rfl hw1 g0)) (fun v9 w1 w2 hw1 hR11 => ?_)
  obtain ⟨a12, n13, c14, F15, rfl, hS10⟩ := hR11
  obtain rfl := own_nS (i := 0) hS10 rfl
  refine ⟨St w M0 [_, _, _], hw1.comp [0] rfl rfl hS10, fun _ _ => trivial, ?_⟩
  refine ow_batch [.p] rfl ?_
  refine ow_nil ?_
  refine x_qs ?_
  refine c_seq ?_
  refine c_seq ?_
  refine c_reg ?_
  refine ow_batch [.p] rfl ?_
  obtain ⟨y16, h17, H⟩ := of_bind H
  refine ow_callS rfl fn76 rfl rfl rfl rfl (fun w1 hw1 => spec_l1Once_ok w1  h17 (hw1.carve [2] rfl rfl) (rdB [2] rfl rfl hw1 g0)) (fun v18 w1 w2 hw1 hR20 => ?_)
  obtain ⟨rfl, hS19⟩ := hR20
  refine ⟨St w M0 [_, _, _, _], hw1.comp [2] rfl rfl hS19, fun _ _ => trivial, ?_⟩
  refine ow_nil ?_
  refine x_qs ?_
  refine c_if rfl (fun hb => ?_) (fun hb => ?_)
  · have H := of_if_t hb H
    refine CW.weak (C' := St w M0 [_, _]) ?_ (fun _ h => St.sel [1, 3] rfl rfl h)
    refine c_reg ?_
    refine ow_batch [.p, .p] rfl ?_
    refine ow_blit (val := Value.int .i64) (h1 := fun _ => rfl) [1000000001, (-9223372036854775808)] [(0, [.int .i64 1000000001]), (1, [.int .i64 (-9223372036854775808)])] rfl rfl rfl rfl rfl sl22 ty3 rfl rfl rfl ⟨rfl, rfl, Nat.le_of_ble_eq_true rfl, rfl, rfl, Nat.le_of_ble_eq_true rfl,  trivial⟩ rfl rfl (fun _ => kp) (fun b21 => ?_)
    obtain ⟨y22, h23, H⟩ := of_bind H
    refine ow_callS rfl fn73 rfl rfl rfl rfl (fun w1 hw1 => spec_l1PickInt_ok w1  h23 (hw1.carve [1] rfl rfl) (rdB [1] rfl rfl hw1 g0) (rdO 2 [1] rfl hw1 rfl rfl)) (fun v24 w1 w2 hw1 hR26 => ?_)
    obtain ⟨rfl, hS25⟩ := hR26
    refine ⟨St w M0 [_, _, _, _], hw1.comp [1] rfl rfl hS25, fun _ _ => trivial, ?_⟩
    refine ow_blit (val := Value.int .i64) (h1 := fun _ => rfl) [y22.1] [(0, [.int .i64 y22.1])] rfl rfl rfl rfl rfl sl22 ty3 rfl rfl rfl ⟨rfl, rfl, Nat.le_of_ble_eq_true rfl,  trivial⟩ rfl rfl (fun _ => kp) (fun b27 => ?_)
    obtain ⟨l28, h29, H⟩ := of_bind H
    refine ow_appR (r := 0) (ys := ([y22.1] : List Int)) rfl rfl rfl rfl rfl rfl sl22 ty3 rfl rfl rfl (fun w1 hw1 => rds_own (r := 4) rfl w1 hw1) h29 (fun _ _ _ => kp) (fun a30 c31 F32 => ?_)
    refine ow_fact rfl (fun w1 hw1 => own_nn (i := 0) hw1 rfl (app_ne h29)) (fun hz33 => ?_)
    refine ow_batch [.p] rfl ?_
    refine ow_nil ?_
    refine x_qs ?_
    refine c_seq ?_
    refine c_reg ?_
    refine ow_batch [.p, .p] rfl ?_
    refine ow_nil ?_
    refine x_qs ?_
    refine c_ret ?_
    exact x_retR (rs := [.tmp 2]) (vs := [.slice a30 l28.length c31]) rfl ⟨rfl, trivial⟩ (fun w' hw' => by
        obtain rfl := of_some H
        exact ⟨_, rfl, a30, l28.length, c31, F32, rfl, hw'.sel [0] rfl rfl⟩)
  · have H := of_if_f hb H
    refine c_skip ?_
    refine x_qs ?_
    refine c_seq ?_
    refine CW.weak (C' := St w M0 [_, _]) ?_ (fun _ h => St.sel [1, 3] rfl rfl h)
    refine c_reg ?_
    refine ow_batch [.p, .p] rfl ?_
    refine ow_nil ?_
    refine x_qs ?_
    refine c_ret ?_
    exact x_retR (rs := [.tmp 2]) (vs := [.slice a12 y7.1.length c14]) rfl ⟨rfl, trivial⟩ (fun w' hw' => by
        obtain rfl := of_some H
        exact ⟨_, rfl, a12, y7.1.length, c14, F15, rfl, hw'.sel [0] rfl rfl⟩)

set_option maxHeartbeats 4000000 in
set_option maxRecDepth 100000 in
theorem impl_PutInts_ok (w : World) {M0 : List Nat} {p0 : List Int} {a_0 : Option Addr} {n_0 c_0 : Nat} {r : List Int} (H : impl_PutInts p0 = some r) (HS : St w M0 [] w) (g0 : (eList (eVal (Value.int .i64) (fun _ => rfl)) 3).rd w M0 p0 [.slice a_0 n_0 c_0]) :
    Calls Try.prog 12 #[.slice a_0 n_0 c_0] w (fun en w' => ∃ v, en = .returned v ∧ ∃ (a0 : Option Addr), ∃ (n0 : Nat), ∃ (c0 : Nat), ∃ (F0 : List Nat), v = .slice a0 n0 c0 ∧ St w M0 [Res.own (eList (eVal (Value.int .u8) (fun _ => rfl)) 5) F0 r [.slice a0 n0 c0]] w') := by
  obtain rfl := rd_n g0
  unfold impl_PutInts at H
  refine f_enter (vs := [.slice a_0 p0.length c_0]) Try.func12 rfl Try.ntmps12 rfl (HS) ?_
  refine c_seq ?_
  refine c_reg ?_
  refine ow_batch [.p] rfl ?_
  refine ow_nil ?_
  refine x_qs ?_
  refine c_seq ?_
  refine c_reg ?_
  refine ow_r rfl (dstOk_lt rfl) (ry_build2 [] [.slice none 0 0, .bool false] rfl rfl ty69 fs69 rfl trivial rfl) ?_
  refine ow_box (cs := [.slice none 0 0, .bool false]) rfl rfl rfl rfl rfl rfl (fun _ => kp) (fun b1 => ?_)
  refine ow_batch [.p] rfl ?_
  refine ow_nil ?_
  refine x_qs ?_
  refine c_seq ?_
  refine c_reg ?_
  refine ow_batch [.p, .p] rfl ?_
  refine ow_st rfl (fun _ h => St.pushNil (e := eVal (Value.int .u8) (fun _ => rfl)) (T := 5) h) ?_
  obtain ⟨y2, h3, H⟩ := of_bind H
  refine ow_callS rfl fn48 rfl rfl rfl rfl (fun w1 hw1 => impl_writer_list_ok w1  h3 (hw1.carve [0, 1] rfl rfl) (rdB [0, 1] rfl rfl hw1 g0)) (fun v4 w1 w2 hw1 hR6 => ?_)
  obtain ⟨a7, n8, c9, F10, rfl, hS5⟩ := hR6
  obtain rfl := own_nS (i := 1) hS5 rfl
  refine ⟨St w M0 [_, _, _, _], hw1.comp [0, 1] rfl rfl hS5, fun _ _ => trivial, ?_⟩
  refine ow_nil ?_
  refine x_qs ?_
  refine c_seq ?_
  refine CW.weak (C' := St w M0 [_, _]) ?_ (fun _ h => St.sel [2, 3] rfl rfl h)
  refine c_reg ?_
  refine ow_batch [.p] rfl ?_
  obtain ⟨y11, h12, H⟩ := of_bind H
  refine ow_callS rfl fn49 rfl rfl rfl rfl (fun w1 hw1 => impl_writer_done_ok w1  h12 (hw1.carve [0, 1] rfl rfl)) (fun v13 w1 w2 hw1 hR15 => ?_)
  obtain ⟨a16, n17, c18, F19, rfl, hS14⟩ := hR15
  obtain rfl := own_nS (i := 0) hS14 rfl
  refine ⟨St w M0 [_, _, _], hw1.comp [0, 1] rfl rfl hS14, fun _ _ => trivial, ?_⟩
  refine ow_batch [.p] rfl ?_
  refine ow_nil ?_
  refine x_qs ?_
  refine c_ret ?_
  exact x_retR (rs := [.tmp 2]) (vs := [.slice a16 y11.length c18]) rfl ⟨rfl, trivial⟩ (fun w' hw' => by
      obtain rfl := of_some H
      exact ⟨_, rfl, a16, y11.length, c18, F19, rfl, hw'.sel [2] rfl rfl⟩)

set_option maxHeartbeats 4000000 in
set_option maxRecDepth 100000 in
theorem impl_GetNum_ok (w : World) {p0 : List Int} {p1 : Int} {a_0 : Option Addr} {n_0 c_0 : Nat} {r : Int × Int × Bool} (H : impl_GetNum p0 p1 = some r)  (g0 : (eList (eVal (Value.int .u8) (fun _ => rfl)) 5).rd w [] p0 [.slice a_0 n_0 c_0]) :
    Calls Try.prog 79 #[.slice a_0 n_0 c_0, .int .i64 p1] w (fun en w' => en = .returned (.tuple #[.int .i64 r.1, .int .i64 r.2.1, .bool r.2.2]) ∧ Ext [] w w') := by
  obtain rfl := rd_n g0
  unfold impl_GetNum at H
  refine f_enter (vs := [.slice a_0 p0.length c_0, .int .i64 p1]) Try.func79 rfl Try.ntmps79 rfl (St.init w []) ?_
  refine c_seq ?_
  refine c_reg ?_
  refine ow_batch [.p, .p, .p] rfl ?_
  refine ow_nil ?_
  refine x_qs ?_
  refine c_seq ?_
  refine c_seq ?_
  refine c_reg ?_
  refine ow_batch [.p, .p] rfl ?_
  refine ow_nil ?_
  refine x_qs ?_
  refine c_if rfl (fun hb => ?_) (fun hb => ?_)
  · have H := of_if_t hb H
    refine c_seq ?_
    refine c_reg ?_
    refine ow_batch [.p, .p, .p] rfl ?_
    refine ow_nil ?_
    refine x_qs ?_
    refine c_ret ?_
    refine x_qs_ret ?_
    exact x_retR (rs := [.tmp 4, .tmp 5, .tmp 6]) (vs := [.int .i64 0, .int .i64 0, .bool false]) rfl ⟨rfl, rfl, rfl, trivial⟩ (fun w' hw' => by
        obtain rfl := of_some H
        exact ⟨rfl, hw'.ext⟩)
  · have H := of_if_f hb H
    refine c_skip ?_
    refine x_qs ?_
    refine c_seq ?_
    refine c_reg ?_
    refine ow_batch [.p] rfl ?_
    refine ow_nil ?_
    refine x_qs ?_
    refine c_seq ?_
    refine c_seq ?_
    refine c_reg ?_
    refine ow_batch [.p] rfl ?_
    refine ow_nil ?_
    refine x_qs ?_
    refine c_block ?_
    refine CW.at (loopI2 (fun (i15 : Int) (i16 : Int) => St w [] []) (fun (i15 : Int) (i16 : Int) => [(0, .slice a_0 p0.length c_0), (1, .int .i64 p1), (7, .int .i64 i15), (8, .int .i64 i16)]) (fun kk => fun (i15 : Int) (i16 : Int) => impl_GetNum_L1 p1 p0 kk i15 i16 = some r) (fun _ _ H => ?_) (fun k1 ihk1 i15 i16 H => ?_) Fuel (0) (0) (H)) (fun _ h => St.sel [] rfl rfl h) ⟨rfl, rfl, rfl, rfl,  trivial⟩
    · unfold impl_GetNum_L1 at H
      exact absurd H (by simp)
    · unfold impl_GetNum_L1 at H
      refine c_seq ?_
      refine c_seq ?_
      refine c_reg ?_
      refine ow_batch [.p, .p, .p] rfl ?_
      refine ow_cut [(19, .bool ((decide (i16 < 5)) && (decide ((IntKind.i64.wrap (p1 + i16)) ≥ 0)))), (0, .slice a_0 p0.length c_0), (1, .int .i64 p1), (7, .int .i64 i15), (8, .int .i64 i16)] 5 ?_ (fun key => OW.sub (R := [(0, .slice a_0 p0.length c_0), (1, .int .i64 p1), (7, .int .i64 i15), (8, .int .i64 i16), (14, .bool (decide (i16 < 5)))]) ?_ ⟨rfl, rfl, rfl, rfl, rfl, trivial⟩)
      · refine ow_batch [.p] rfl ?_
        refine ow_cut [(27, .bool (((decide (i16 < 5)) && (decide ((IntKind.i64.wrap (p1 + i16)) ≥ 0))) && (decide ((IntKind.i64.wrap (p1 + i16)) < (p0.length : Int))))), (0, .slice a_0 p0.length c_0), (1, .int .i64 p1), (7, .int .i64 i15), (8, .int .i64 i16)] 7 ?_ (fun key => OW.sub (R := [(0, .slice a_0 p0.length c_0), (1, .int .i64 p1), (7, .int .i64 i15), (8, .int .i64 i16), (20, .bool ((decide (i16 < 5)) && (decide ((IntKind.i64.wrap (p1 + i16)) ≥ 0))))]) ?_ ⟨rfl, rfl, rfl, rfl, rfl, trivial⟩)
        · refine ow_nil ?_
          refine x_qs ?_
          refine c_if rfl (fun hb => ?_) (fun hb => ?_)
          · have H := of_if_t hb H
            refine c_skip ?_
            refine x_qs ?_
            refine c_seq ?_
            refine c_block ?_
            refine c_seq ?_
            refine c_reg ?_
            refine ow_batch [.p, .p, .p, .p] rfl ?_
            obtain ⟨e35, h36, H⟩ := of_bind H
            refine ow_ixE (e := eVal (Value.int .u8) (fun _ => rfl)) (xs := p0) (j := IntKind.i64.wrap (p1 + i16)) rfl rfl rfl rfl rfl sl23 ty5 rfl (fun w1 hw1 => rds_bor g0 w1 hw1) h36 (by rw [Nat.mul_one]) ?_
            refine ow_r rfl (dstOk_lt rfl) (ry_load1 rfl rfl ty5 (at_elV (fun w1 hw1 => rds_bor g0 w1 hw1) h36)) ?_
            refine ow_batch [.cv 5 3 .i64 us5 in3, .p] rfl ?_
            refine ow_nil ?_
            refine x_qs ?_
            refine c_seq ?_
            refine c_reg ?_
            refine ow_batch [.p, .p, .p, .p, .p] rfl ?_
            obtain ⟨x37, h38, H⟩ := of_bind H
            refine ow_r rfl (dstOk_lt rfl) (ry_shl rfl rfl rfl h38) ?_
            refine ow_batch [.p, .p] rfl ?_
            refine ow_nil ?_
            refine x_qs ?_
            refine c_seq ?_
            refine c_seq ?_
            refine c_reg ?_
            refine ow_batch [.p, .p] rfl ?_
            refine ow_nil ?_
            refine x_qs ?_
            refine c_if rfl (fun hb => ?_) (fun hb => ?_)
            · have H := of_if_t hb H
              refine c_exit ?_
              refine x_qs_exit ?_
              refine x_qb_here ?_
              refine x_qs ?_
              refine c_reg ?_
              refine ow_batch [.p, .p, .p] rfl ?_
              refine ow_nil ?_
              exact x_ql (RW.at (ihk1 (ibits .or .i64 i15 x37) (IntKind.i64.wrap (i16 + 1)) (H)) (fun _ h => St.sel [] rfl rfl h) ⟨rfl, rfl, rfl, rfl, trivial⟩)
            · have H := of_if_f hb H
              refine c_skip ?_
              refine x_qs ?_
              refine c_seq ?_
              refine c_seq ?_
              refine c_reg ?_
              refine ow_batch [.p, .p, .p] rfl ?_
              refine ow_cut [(51, .bool (((IntKind.i64.wrap e35) == 0) && (decide (i16 > 0)))), (1, .int .i64 p1), (7, .int .i64 (ibits .or .i64 i15 x37)), (8, .int .i64 i16)] 3 ?_ (fun key => OW.sub (R := [(1, .int .i64 p1), (7, .int .i64 (ibits .or .i64 i15 x37)), (8, .int .i64 i16), (48, .bool ((IntKind.i64.wrap e35) == 0))]) ?_ ⟨rfl, rfl, rfl, rfl, trivial⟩)
              · refine ow_batch [.p] rfl ?_
                refine ow_cut [(55, .bool ((((IntKind.i64.wrap e35) == 0) && (decide (i16 > 0))) || (decide ((ibits .or .i64 i15 x37) > 2147483647)))), (1, .int .i64 p1), (7, .int .i64 (ibits .or .i64 i15 x37)), (8, .int .i64 i16)] 3 ?_ (fun key => OW.sub (R := [(1, .int .i64 p1), (7, .int .i64 (ibits .or .i64 i15 x37)), (8, .int .i64 i16), (52, .bool (((IntKind.i64.wrap e35) == 0) && (decide (i16 > 0))))]) ?_ ⟨rfl, rfl, rfl, rfl, trivial⟩)
                · refine ow_nil ?_
                  refine x_qs ?_
                  refine c_if rfl (fun hb => ?_) (fun hb => ?_)
                  · have H := of_if_t hb H
                    refine c_seq ?_
                    refine c_reg ?_
                    refine ow_batch [.p, .p, .p] rfl ?_
                    refine ow_nil ?_
                    refine x_qs ?_
                    refine c_ret ?_
                    refine x_qs_ret ?_
                    refine x_qb_ret ?_
                    refine x_qs_ret ?_
                    refine x_ql_ret ?_
                    refine x_qb_ret ?_
                    refine x_qs_ret ?_
                    exact x_retR (rs := [.tmp 4, .tmp 5, .tmp 6]) (vs := [.int .i64 0, .int .i64 0, .bool false]) rfl ⟨rfl, rfl, rfl, trivial⟩ (fun w' hw' => by
                        obtain rfl := of_some H
                        exact ⟨rfl, hw'.ext⟩)
                  · have H := of_if_f hb H
                    refine c_skip ?_
                    refine x_qs ?_
                    refine c_seq ?_
                    refine c_reg ?_
                    refine ow_batch [.p, .p, .p, .p, .p, .p, .p, .p] rfl ?_
                    refine ow_nil ?_
                    refine x_qs ?_
                    refine c_ret ?_
                    refine x_qb_ret ?_
                    refine x_qs_ret ?_
                    refine x_ql_ret ?_
                    refine x_qb_ret ?_
                    refine x_qs_ret ?_
                    exact x_retR (rs := [.tmp 4, .tmp 5, .tmp 6]) (vs := [.int .i64 (ibits .or .i64 i15 x37), .int .i64 (IntKind.i64.wrap ((IntKind.i64.wrap (p1 + i16)) + 1)), .bool true]) rfl ⟨rfl, rfl, rfl, trivial⟩ (fun w' hw' => by
                        obtain rfl := of_some H
                        exact ⟨rfl, hw'.ext⟩)
                · generalize (((IntKind.i64.wrap e35) == 0) && (decide (i16 > 0))) = t42 at key ⊢
                  cases t42
                  · refine ow_batch [.p, .p] rfl ?_
                    refine ow_batch [.p] rfl ?_
                    exact OW.sub key ⟨rfl, rfl, rfl, rfl, trivial⟩
                  · refine ow_batch [.p, .p, .p] rfl ?_
                    exact OW.sub key ⟨rfl, rfl, rfl, rfl, trivial⟩
              · generalize ((IntKind.i64.wrap e35) == 0) = t40 at key ⊢
                cases t40
                · refine ow_batch [.p, .p, .p] rfl ?_
                  exact OW.sub key ⟨rfl, rfl, rfl, rfl, trivial⟩
                · refine ow_batch [.p, .p] rfl ?_
                  refine ow_batch [.p] rfl ?_
                  exact OW.sub key ⟨rfl, rfl, rfl, rfl, trivial⟩
          · have H := of_if_f hb H
            refine c_exit ?_
            refine x_qs_exit ?_
            refine x_ql_exit ?_
            refine x_qb_here ?_
            refine x_qs ?_
            refine c_seq ?_
            refine c_reg ?_
            refine ow_batch [.p, .p, .p] rfl ?_
            refine ow_nil ?_
            refine x_qs ?_
            refine c_ret ?_
            exact x_retR (rs := [.tmp 4, .tmp 5, .tmp 6]) (vs := [.int .i64 0, .int .i64 0, .bool false]) rfl ⟨rfl, rfl, rfl, trivial⟩ (fun w' hw' => by
                obtain rfl := of_some H
                exact ⟨rfl, hw'.ext⟩)
        · generalize ((decide (i16 < 5)) && (decide ((IntKind.i64.wrap (p1 + i16)) ≥ 0))) = t34 at key ⊢
          cases t34
          · refine ow_batch [.p, .p, .p, .p, .p, .p, .p] rfl ?_
            exact OW.sub key ⟨rfl, rfl, rfl, rfl, rfl, trivial⟩
          · refine ow_batch [.p, .p, .p, .p, .lenS 23 5 sl23, .p] rfl ?_
            refine ow_batch [.p] rfl ?_
            exact OW.sub key ⟨rfl, rfl, rfl, rfl, rfl, trivial⟩
      · generalize (decide (i16 < 5)) = t32 at key ⊢
        cases t32
        · refine ow_batch [.p, .p, .p, .p, .p] rfl ?_
          exact OW.sub key ⟨rfl, rfl, rfl, rfl, rfl, trivial⟩
        · refine ow_batch [.p, .p, .p, .p] rfl ?_
          refine ow_batch [.p] rfl ?_
          exact OW.sub key ⟨rfl, rfl, rfl, rfl, rfl, trivial⟩

set_option maxHeartbeats 4000000 in
set_option maxRecDepth 100000 in
theorem impl_GetInt_ok (w : World) {p0 : List Int} {p1 : Int} {a_0 : Option Addr} {n_0 c_0 : Nat} {r : Int × Int × Bool} (H : impl_GetInt p0 p1 = some r)  (g0 : (eList (eVal (Value.int .u8) (fun _ => rfl)) 5).rd w [] p0 [.slice a_0 n_0 c_0]) :
    Calls Try.prog 44 #[.slice a_0 n_0 c_0, .int .i64 p1] w (fun en w' => en = .returned (.tuple #[.int .i64 r.1, .int .i64 r.2.1, .bool r.2.2]) ∧ Ext [] w w') := by
  obtain rfl := rd_n g0
  unfold impl_GetInt at H
  refine f_enter (vs := [.slice a_0 p0.length c_0, .int .i64 p1]) Try.func44 rfl Try.ntmps44 rfl (St.init w []) ?_
  refine c_seq ?_
  refine c_reg ?_
  refine ow_batch [.p, .p, .p] rfl ?_
  refine ow_nil ?_
  refine x_qs ?_
  refine c_seq ?_
  refine c_reg ?_
  refine ow_batch [.p, .p] rfl ?_
  obtain ⟨y1, h2, H⟩ := of_bind H
  refine ow_q rfl rfl (dstOk_lt rfl) (qy_call rfl fn79 rfl (fun w1 hw1 => impl_GetNum_ok w1  h2 (rds_bor g0 w1 hw1))) (fun _ _ => trivial) ?_
  refine ow_batch [.p, .p, .p, .p, .p, .p, .p] rfl ?_
  refine ow_nil ?_
  refine x_qs ?_
  refine c_seq ?_
  refine c_reg ?_
  refine ow_batch [.p, .p, .p] rfl ?_
  refine ow_nil ?_
  refine x_qs ?_
  refine c_join1 (fun (i3 : Int) => St w [] []) (fun (i3 : Int) => [(8, .int .i64 y1.2.1), (9, .bool y1.2.2), (10, .int .i64 i3)]) (fun (i3 : Int) => impl_GetInt_J1 y1 i3 = some r) (fun i3 H => ?_) (fun J1 => ?_)
  · unfold impl_GetInt_J1 at H
    refine c_seq ?_
    refine c_seq ?_
    refine c_reg ?_
    refine ow_batch [.p, .p, .p] rfl ?_
    obtain ⟨u4, hu8, H⟩ := of_bind H
    refine ow_cut [(32, .bool u4), (8, .int .i64 y1.2.1), (10, .int .i64 i3)] 4 ?_ (fun key => OW.sub (R := [(8, .int .i64 y1.2.1), (10, .int .i64 i3), (28, .bool (!y1.2.2))]) ?_ ⟨rfl, rfl, rfl, trivial⟩)
    · refine ow_nil ?_
      refine x_qs ?_
      refine c_if rfl (fun hb => ?_) (fun hb => ?_)
      · have H := of_if_t hb H
        refine c_seq ?_
        refine c_reg ?_
        refine ow_batch [.p, .p, .p] rfl ?_
        refine ow_nil ?_
        refine x_qs ?_
        refine c_ret ?_
        refine x_qs_ret ?_
        exact x_retR (rs := [.tmp 4, .tmp 5, .tmp 6]) (vs := [.int .i64 0, .int .i64 0, .bool false]) rfl ⟨rfl, rfl, rfl, trivial⟩ (fun w' hw' => by
            obtain rfl := of_some H
            exact ⟨rfl, hw'.ext⟩)
      · have H := of_if_f hb H
        refine c_skip ?_
        refine x_qs ?_
        refine c_seq ?_
        refine c_reg ?_
        refine ow_batch [.p, .p, .p, .p, .p] rfl ?_
        refine ow_nil ?_
        refine x_qs ?_
        refine c_ret ?_
        exact x_retR (rs := [.tmp 4, .tmp 5, .tmp 6]) (vs := [.int .i64 i3, .int .i64 y1.2.1, .bool true]) rfl ⟨rfl, rfl, rfl, trivial⟩ (fun w' hw' => by
            obtain rfl := of_some H
            exact ⟨rfl, hw'.ext⟩)
    · clear H
      have H := hu8
      clear hu8
      generalize (!y1.2.2) = t7 at H ⊢
      cases t7
      · have H := of_if_f rfl H
        refine ow_batch [.p] rfl ?_
        obtain ⟨y5, h6, H⟩ := of_bind H
        refine ow_q rfl rfl (dstOk_lt rfl) (qy_call rfl fn77 rfl (fun w1 hw1 => impl_within_ok w1  h6)) (fun _ _ => trivial) ?_
        refine ow_batch [.p] rfl ?_
        refine ow_batch [.p] rfl ?_
        obtain rfl := of_some H
        exact OW.sub key ⟨rfl, rfl, rfl, trivial⟩
      · have H := of_if_t rfl H
        refine ow_batch [.p, .p, .p, .p] rfl ?_
        obtain rfl := of_some H
        exact OW.sub key ⟨rfl, rfl, rfl, trivial⟩
  · refine c_seq ?_
    refine c_reg ?_
    refine ow_batch [.p, .p, .p] rfl ?_
    refine ow_nil ?_
    refine x_qs ?_
    refine c_if rfl (fun hb => ?_) (fun hb => ?_)
    · have H := of_if_t hb H
      refine c_reg ?_
      refine ow_batch [.p, .p, .p, .p] rfl ?_
      refine ow_nil ?_
      exact XW.at (J1 (IntKind.i64.wrap ((IntKind.i64.wrap (0 - (IntKind.i64.wrap (Int.tdiv y1.1 2)))) - 1)) (H)) (fun _ h => St.sel [] rfl rfl h) ⟨rfl, rfl, rfl, trivial⟩
    · have H := of_if_f hb H
      refine c_skip ?_
      exact XW.at (J1 (IntKind.i64.wrap (Int.tdiv y1.1 2)) (H)) (fun _ h => St.sel [] rfl rfl h) ⟨rfl, rfl, rfl, trivial⟩

set_option maxHeartbeats 4000000 in
set_option maxRecDepth 100000 in
theorem impl_reader_int_ok (w : World) {M0 : List Nat} {p0b : List Int} {p0 : Timpl_reader} {b_0 : Nat} {a_p0b : Option Addr} {n_p0b c_p0b : Nat} {r : Int × Timpl_reader} (H : impl_reader_int p0b p0 = some r) (HS : St w M0 [Res.box b_0 74 [.slice a_p0b p0b.length c_p0b, .int .i64 p0.at_, .bool p0.bad_]] w) (g_p0b : (eList (eVal (Value.int .u8) (fun _ => rfl)) 5).rd w M0 p0b [.slice a_p0b n_p0b c_p0b]) :
    Calls Try.prog 85 #[.pointer (some ⟨b_0, 0, none⟩)] w (fun en w' => ∃ v, en = .returned v ∧ v = .int .i64 r.1 ∧ St w M0 [Res.box b_0 74 [.slice a_p0b n_p0b c_p0b, .int .i64 r.2.at_, .bool r.2.bad_]] w') := by
  obtain rfl := rd_n g_p0b
  unfold impl_reader_int at H
  refine f_enter (vs := [.pointer (some ⟨b_0, 0, none⟩)]) Try.func85 rfl Try.ntmps85 rfl (HS) ?_
  refine c_seq ?_
  refine c_reg ?_
  refine ow_batch [.p] rfl ?_
  refine ow_nil ?_
  refine x_qs ?_
  refine c_seq ?_
  refine c_seq ?_
  refine c_reg ?_
  refine ow_batch [.p, .p, .fa 74 2 2 fa74_2] rfl ?_
  refine ow_r rfl (dstOk_lt rfl) (ry_box1 (off := 2) rfl rfl ty4 (boxIn (i := 0) rfl) rfl) ?_
  refine ow_nil ?_
  refine x_qs ?_
  refine c_if rfl (fun hb => ?_) (fun hb => ?_)
  · have H := of_if_t hb H
    refine c_seq ?_
    refine c_reg ?_
    refine ow_batch [.p] rfl ?_
    refine ow_nil ?_
    refine x_qs ?_
    refine c_ret ?_
    refine x_qs_ret ?_
    exact x_retR (rs := [.tmp 2]) (vs := [.int .i64 0]) rfl ⟨rfl, trivial⟩ (fun w' hw' => by
        obtain rfl := of_some H
        exact ⟨_, rfl, rfl, hw'.sel [0] rfl rfl⟩)
  · have H := of_if_f hb H
    refine c_skip ?_
    refine x_qs ?_
    refine c_seq ?_
    refine c_regQ mixed (by kernel_rfl) ?_
    refine ow_batch [.p, .p, .fa 74 0 0 fa74_0] rfl ?_
    refine ow_r rfl (dstOk_lt rfl) (ry_box1 (off := 0) rfl rfl ty23 (boxIn (i := 0) rfl) rfl) ?_
    refine ow_batch [.p, .p, .fa 74 1 1 fa74_1] rfl ?_
    refine ow_r rfl (dstOk_lt rfl) (ry_box1 (off := 1) rfl rfl ty3 (boxIn (i := 0) rfl) rfl) ?_
    obtain ⟨y1, h2, H⟩ := of_bind H
    refine ow_q rfl rfl (dstOk_lt rfl) (qy_call rfl fn44 rfl (fun w1 hw1 => impl_GetInt_ok w1  h2 (rds_bor g_p0b w1 hw1))) (fun _ _ => trivial) ?_
    refine ow_batch [.p, .p, .p, .p, .p, .p, .p] rfl ?_
    refine ow_nilQ ?_
    refine x_qs ?_
    refine c_seq ?_
    refine c_seq ?_
    refine c_reg ?_
    refine ow_batch [.p, .p] rfl ?_
    refine ow_nil ?_
    refine x_qs ?_
    refine c_if rfl (fun hb => ?_) (fun hb => ?_)
    · have H := of_if_t hb H
      refine c_seq ?_
      refine c_reg ?_
      refine ow_batch [.p, .p, .fa 74 2 2 fa74_2] rfl ?_
      refine ow_storeC (off := 2) [.bool true] [_, _, _] (i := 0) rfl rfl rfl rfl rfl rfl ty4 rfl rfl (by intro u hu; simp only [List.mem_cons, List.not_mem_nil, or_false] at hu; rcases hu with rfl <;> rfl) rfl rfl rfl kp ?_
      refine ow_nil ?_
      refine x_qs ?_
      refine c_seq ?_
      refine c_reg ?_
      refine ow_batch [.p] rfl ?_
      refine ow_nil ?_
      refine x_qs ?_
      refine c_ret ?_
      refine x_qs_ret ?_
      exact x_retR (rs := [.tmp 2]) (vs := [.int .i64 0]) rfl ⟨rfl, trivial⟩ (fun w' hw' => by
          obtain rfl := of_some H
          exact ⟨_, rfl, rfl, hw'.sel [0] rfl rfl⟩)
    · have H := of_if_f hb H
      refine c_skip ?_
      refine x_qs ?_
      refine c_seq ?_
      refine c_reg ?_
      refine ow_batch [.p, .p, .p, .fa 74 1 1 fa74_1] rfl ?_
      refine ow_storeC (off := 1) [.int .i64 y1.2.1] [_, _, _] (i := 0) rfl rfl rfl rfl rfl rfl ty3 rfl rfl (by intro u hu; simp only [List.mem_cons, List.not_mem_nil, or_false] at hu; rcases hu with rfl <;> rfl) rfl rfl rfl kp ?_
      refine ow_nil ?_
      refine x_qs ?_
      refine c_seq ?_
      refine c_reg ?_
      refine ow_batch [.p, .p] rfl ?_
      refine ow_nil ?_
      refine x_qs ?_
      refine c_ret ?_
      exact x_retR (rs := [.tmp 2]) (vs := [.int .i64 y1.1]) rfl ⟨rfl, trivial⟩ (fun w' hw' => by
          obtain rfl := of_some H
          exact ⟨_, rfl, rfl, hw'.sel [0] rfl rfl⟩)

set_option maxHeartbeats 4000000 in
set_option maxRecDepth 100000 in
theorem impl_reader_count_ok (w : World) {M0 : List Nat} {p0b : List Int} {p0 : Timpl_reader} {b_0 : Nat} {a_p0b : Option Addr} {n_p0b c_p0b : Nat} {r : Int × Timpl_reader} (H : impl_reader_count p0b p0 = some r) (HS : St w M0 [Res.box b_0 74 [.slice a_p0b p0b.length c_p0b, .int .i64 p0.at_, .bool p0.bad_]] w) (g_p0b : (eList (eVal (Value.int .u8) (fun _ => rfl)) 5).rd w M0 p0b [.slice a_p0b n_p0b c_p0b]) :
    Calls Try.prog 84 #[.pointer (some ⟨b_0, 0, none⟩)] w (fun en w' => ∃ v, en = .returned v ∧ v = .int .i64 r.1 ∧ St w M0 [Res.box b_0 74 [.slice a_p0b n_p0b c_p0b, .int .i64 r.2.at_, .bool r.2.bad_]] w') := by
  obtain rfl := rd_n g_p0b
  unfold impl_reader_count at H
  refine f_enter (vs := [.pointer (some ⟨b_0, 0, none⟩)]) Try.func84 rfl Try.ntmps84 rfl (HS) ?_
  refine c_seq ?_
  refine c_reg ?_
  refine ow_batch [.p] rfl ?_
  refine ow_nil ?_
  refine x_qs ?_
  refine c_seq ?_
  refine c_reg ?_
  refine ow_batch [.p] rfl ?_
  obtain ⟨y1, h2, H⟩ := of_bind H
  refine ow_callS rfl fn85 rfl rfl rfl rfl (fun w1 hw1 => impl_reader_int_ok w1  h2 (hw1.carve [0] rfl rfl) (rdB [0] rfl rfl hw1 g_p0b)) (fun v3 w1 w2 hw1 hR5 => ?_)
  obtain ⟨rfl, hS4⟩ := hR5
  refine ⟨St w M0 [_, _], hw1.comp [0] rfl rfl hS4, fun _ _ => trivial, ?_⟩
  refine ow_batch [.p] rfl ?_
  refine ow_nil ?_
  refine x_qs ?_
  refine c_seq ?_
  refine c_seq ?_
  refine c_regQ mixed (by kernel_rfl) ?_
  refine ow_batch [.p, .p, .p] rfl ?_
  refine ow_cut [(21, .bool ((decide (y1.1 < 0)) || (decide (y1.1 > (IntKind.i64.wrap ((p0b.length : Int) - y1.2.at_)))))), (0, .pointer (some ⟨b_0, 0, none⟩)), (3, .int .i64 y1.1)] 13 ?_ (fun key => OW.sub (R := [(0, .pointer (some ⟨b_0, 0, none⟩)), (3, .int .i64 y1.1), (8, .bool (decide (y1.1 < 0)))]) ?_ ⟨rfl, rfl, rfl, trivial⟩)
  · refine ow_nilQ ?_
    refine x_qs ?_
    refine c_if rfl (fun hb => ?_) (fun hb => ?_)
    · have H := of_if_t hb H
      refine c_seq ?_
      refine c_reg ?_
      refine ow_batch [.p, .p, .fa 74 2 2 fa74_2] rfl ?_
      refine ow_storeC (off := 2) [.bool true] [_, _, _] (i := 1) rfl rfl rfl rfl rfl rfl ty4 rfl rfl (by intro u hu; simp only [List.mem_cons, List.not_mem_nil, or_false] at hu; rcases hu with rfl <;> rfl) rfl rfl rfl kp ?_
      refine ow_nil ?_
      refine x_qs ?_
      refine c_seq ?_
      refine c_reg ?_
      refine ow_batch [.p] rfl ?_
      refine ow_nil ?_
      refine x_qs ?_
      refine c_ret ?_
      refine x_qs_ret ?_
      exact x_retR (rs := [.tmp 2]) (vs := [.int .i64 0]) rfl ⟨rfl, trivial⟩ (fun w' hw' => by
          obtain rfl := of_some H
          exact ⟨_, rfl, rfl, hw'.sel [1] rfl rfl⟩)
    · have H := of_if_f hb H
      refine c_skip ?_
      refine x_qs ?_
      refine c_seq ?_
      refine c_reg ?_
      refine ow_batch [.p, .p] rfl ?_
      refine ow_nil ?_
      refine x_qs ?_
      refine c_ret ?_
      exact x_retR (rs := [.tmp 2]) (vs := [.int .i64 y1.1]) rfl ⟨rfl, trivial⟩ (fun w' hw' => by
          obtain rfl := of_some H
          exact ⟨_, rfl, rfl, hw'.sel [1] rfl rfl⟩)
  · generalize (decide (y1.1 < 0)) = t7 at key ⊢
    cases t7
    · refine ow_batch [.p, .p, .p, .fa 74 0 0 fa74_0] rfl ?_
      refine ow_r rfl (dstOk_lt rfl) (ry_box1 (off := 0) rfl rfl ty23 (boxIn (i := 1) rfl) rfl) ?_
      refine ow_batch [.lenS 23 5 sl23, .p, .p, .fa 74 1 1 fa74_1] rfl ?_
      refine ow_r rfl (dstOk_lt rfl) (ry_box1 (off := 1) rfl rfl ty3 (boxIn (i := 1) rfl) rfl) ?_
      refine ow_batch [.p, .p] rfl ?_
      refine ow_batch [.p] rfl ?_
      exact OW.sub key ⟨rfl, rfl, rfl, trivial⟩
    · refine ow_batch [.p, .p, .p, .p, .p, .p, .p, .p, .p, .p, .p, .p, .p] rfl ?_
      exact OW.sub key ⟨rfl, rfl, rfl, trivial⟩

set_option maxHeartbeats 4000000 in
set_option maxRecDepth 100000 in
theorem impl_reader_list_ok (w : World) {M0 : List Nat} {p0b : List Int} {p0 : Timpl_reader} {b_0 : Nat} {a_p0b : Option Addr} {n_p0b c_p0b : Nat} {r : (List Int) × Timpl_reader} (H : impl_reader_list p0b p0 = some r) (HS : St w M0 [Res.box b_0 74 [.slice a_p0b p0b.length c_p0b, .int .i64 p0.at_, .bool p0.bad_]] w) (g_p0b : (eList (eVal (Value.int .u8) (fun _ => rfl)) 5).rd w M0 p0b [.slice a_p0b n_p0b c_p0b]) :
    Calls Try.prog 51 #[.pointer (some ⟨b_0, 0, none⟩)] w (fun en w' => ∃ v, en = .returned v ∧ ∃ (a0 : Option Addr), ∃ (n0 : Nat), ∃ (c0 : Nat), ∃ (F0 : List Nat), v = .slice a0 n0 c0 ∧ St w M0 [Res.own (eList (eVal (Value.int .i64) (fun _ => rfl)) 3) F0 r.1 [.slice a0 n0 c0], Res.box b_0 74 [.slice a_p0b n_p0b c_p0b, .int .i64 r.2.at_, .bool r.2.bad_]] w') := by
  obtain rfl := rd_n g_p0b
  unfold impl_reader_list at H
  refine f_enter (vs := [.pointer (some ⟨b_0, 0, none⟩)]) Try.func51 rfl Try.ntmps51 rfl (HS) ?_
  refine c_seq ?_
  refine c_reg ?_
  refine ow_batch [.p] rfl ?_
  refine ow_nil ?_
  refine x_qs ?_
  refine c_seq ?_
  refine c_reg ?_
  refine ow_batch [.p] rfl ?_
  refine ow_nil ?_
  refine x_qs ?_
  refine c_seq ?_
  refine c_seq ?_
  refine c_reg ?_
  refine ow_batch [.p] rfl ?_
  obtain ⟨y1, h2, H⟩ := of_bind H
  refine ow_callS rfl fn84 rfl rfl rfl rfl (fun w1 hw1 => impl_reader_count_ok w1  h2 (hw1.carve [0] rfl rfl) (rdB [0] rfl rfl hw1 g_p0b)) (fun v3 w1 w2 hw1 hR5 => ?_)
  obtain ⟨rfl, hS4⟩ := hR5
  refine ⟨St w M0 [_, _], hw1.comp [0] rfl rfl hS4, fun _ _ => trivial, ?_⟩
  refine ow_batch [.p] rfl ?_
  refine ow_nil ?_
  refine x_qs ?_
  refine c_block ?_
  refine CW.weak ?_ (fun _ h => St.pushNil (e := eVal (Value.int .i64) (fun _ => rfl)) (T := 3) h)
  refine CW.at (loopI7 (fun (i31 : Int) (q32 : Bool) (l33 : List Int) (a34 : Option Addr) (c35 : Nat) (F36 : List Nat) (i37 : Int) => St w M0 [Res.box b_0 74 [.slice a_p0b p0b.length c_p0b, .int .i64 i31, .bool q32], Res.own (eList (eVal (Value.int .i64) (fun _ => rfl)) 3) F36 l33 [.slice a34 l33.length c35]]) (fun (i31 : Int) (q32 : Bool) (l33 : List Int) (a34 : Option Addr) (c35 : Nat) (F36 : List Nat) (i37 : Int) => [(0, .pointer (some ⟨b_0, 0, none⟩)), (3, .slice a34 l33.length c35), (4, .int .i64 i37)]) (fun kk => fun (i31 : Int) (q32 : Bool) (l33 : List Int) (a34 : Option Addr) (c35 : Nat) (F36 : List Nat) (i37 : Int) => impl_reader_list_L1 p0b kk i31 q32 l33 i37 = some r) (fun _ _ _ _ _ _ _ H => ?_) (fun k1 ihk1 i31 q32 l33 a34 c35 F36 i37 H => ?_) Fuel (y1.2.at_) (y1.2.bad_) (([] : List Int)) (none) (0) ([]) (y1.1) (H)) (fun _ h => St.sel [1, 2] rfl rfl h) ⟨rfl, rfl, rfl,  trivial⟩
  · unfold impl_reader_list_L1 at H
    exact absurd H (by simp)
  · unfold impl_reader_list_L1 at H
    refine c_seq ?_
    refine c_seq ?_
    refine c_reg ?_
    refine ow_batch [.p, .p, .p] rfl ?_
    refine ow_cut [(15, .bool ((decide (i37 > 0)) && (!q32))), (0, .pointer (some ⟨b_0, 0, none⟩)), (3, .slice a34 l33.length c35), (4, .int .i64 i37)] 6 ?_ (fun key => OW.sub (R := [(0, .pointer (some ⟨b_0, 0, none⟩)), (3, .slice a34 l33.length c35), (4, .int .i64 i37), (9, .bool (decide (i37 > 0)))]) ?_ ⟨rfl, rfl, rfl, rfl, trivial⟩)
    · refine ow_nil ?_
      refine x_qs ?_
      refine c_if rfl (fun hb => ?_) (fun hb => ?_)
      · have H := of_if_t hb H
        refine c_skip ?_
        refine x_qs ?_
        refine c_seq ?_
        refine c_block ?_
        refine c_reg ?_
        refine ow_batch [.p, .p] rfl ?_
        obtain ⟨y61, h62, H⟩ := of_bind H
        refine ow_callS rfl fn85 rfl rfl rfl rfl (fun w1 hw1 => impl_reader_int_ok w1  h62 (hw1.carve [0] rfl rfl) (rdB [0] rfl rfl hw1 g_p0b)) (fun v63 w1 w2 hw1 hR65 => ?_)
        obtain ⟨rfl, hS64⟩ := hR65
        refine ⟨St w M0 [_, _, _], hw1.comp [0] rfl rfl hS64, fun _ _ => trivial, ?_⟩
        refine ow_blit (val := Value.int .i64) (h1 := fun _ => rfl) [y61.1] [(0, [.int .i64 y61.1])] rfl rfl rfl rfl rfl sl22 ty3 rfl rfl rfl ⟨rfl, rfl, Nat.le_of_ble_eq_true rfl,  trivial⟩ rfl rfl (fun _ => kp) (fun b66 => ?_)
        obtain ⟨l67, h68, H⟩ := of_bind H
        refine ow_appR (r := 1) (ys := ([y61.1] : List Int)) rfl rfl rfl rfl rfl rfl sl22 ty3 rfl rfl rfl (fun w1 hw1 => rds_own (r := 3) rfl w1 hw1) h68 (fun _ _ _ => kp) (fun a69 c70 F71 => ?_)
        refine ow_fact rfl (fun w1 hw1 => own_nn (i := 1) hw1 rfl (app_ne h68)) (fun hz72 => ?_)
        refine ow_batch [.p] rfl ?_
        refine ow_nil ?_
        refine x_qb ?_
        refine x_qs ?_
        refine c_reg ?_
        refine ow_batch [.p, .p, .p] rfl ?_
        refine ow_nil ?_
        exact x_ql (RW.at (ihk1 (y61.2.at_) (y61.2.bad_) (l67) (a69) (c70) (F71) (IntKind.i64.wrap (i37 - 1)) (H)) (fun _ h => St.sel [2, 1] rfl rfl h) ⟨rfl, rfl, rfl, trivial⟩)
      · have H := of_if_f hb H
        refine c_exit ?_
        refine x_qs_exit ?_
        refine x_ql_exit ?_
        refine x_qb_here ?_
        refine x_qs ?_
        refine c_seq ?_
        refine c_reg ?_
        refine ow_batch [.p, .p] rfl ?_
        refine ow_nil ?_
        refine x_qs ?_
        refine c_ret ?_
        exact x_retR (rs := [.tmp 2]) (vs := [.slice a34 l33.length c35]) rfl ⟨rfl, trivial⟩ (fun w' hw' => by
            obtain rfl := of_some H
            exact ⟨_, rfl, a34, l33.length, c35, F36, rfl, hw'.sel [1, 0] rfl rfl⟩)
    · generalize (decide (i37 > 0)) = t60 at key ⊢
      cases t60
      · refine ow_batch [.p, .p, .p, .p, .p, .p] rfl ?_
        exact OW.sub key ⟨rfl, rfl, rfl, rfl, trivial⟩
      · refine ow_batch [.p, .p, .fa 74 2 2 fa74_2] rfl ?_
        refine ow_r rfl (dstOk_lt rfl) (ry_box1 (off := 2) rfl rfl ty4 (boxIn (i := 0) rfl) rfl) ?_
        refine ow_batch [.p] rfl ?_
        refine ow_batch [.p] rfl ?_
        exact OW.sub key ⟨rfl, rfl, rfl, rfl, trivial⟩

end Go.Vk
