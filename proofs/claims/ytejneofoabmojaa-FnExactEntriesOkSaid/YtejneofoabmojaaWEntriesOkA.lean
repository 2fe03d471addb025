/- The code does what the functions of data say. Printed by program. -/

import Derived.Test.YtejneofoabmojaaRF

import Derived.Test.YtejneofoabmojaaChecked

namespace Go.Vk

open Go.Proofs Go.RowKit



def eTlaws_Attr : Enc Tlaws_Attr := eIso (ePair (eStr) (ePair (eList (eVal (Value.int .i64) (fun _ => rfl)) 3) (eList (eStr) 9))) (fun x => (x.Name_, x.Cuts_, x.Values_))

theorem rdm_Tlaws_Attr {w : World} {X : List Nat} {x : Tlaws_Attr} {c0 c1 c2 : List Value} (h0 : (eStr).rd w X x.Name_ c0) (h1 : (eList (eVal (Value.int .i64) (fun _ => rfl)) 3).rd w X x.Cuts_ c1) (h2 : (eList (eStr) 9).rd w X x.Values_ c2) : (eTlaws_Attr).rd w X x (c0 ++ (c1 ++ c2)) := by
  show (ePair (eStr) (ePair (eList (eVal (Value.int .i64) (fun _ => rfl)) 3) (eList (eStr) 9))).rd w X (x.Name_, x.Cuts_, x.Values_) _
  exact (ePair_rd h0 (ePair_rd h1 h2))

theorem rdo_Tlaws_Attr {w : World} {X : List Nat} {x : Tlaws_Attr} {cs : List Value} (h : (eTlaws_Attr).rd w X x cs) : ∃ c0 c1 c2, cs = (c0 ++ (c1 ++ c2)) ∧ (eStr).rd w X x.Name_ c0 ∧ (eList (eVal (Value.int .i64) (fun _ => rfl)) 3).rd w X x.Cuts_ c1 ∧ (eList (eStr) 9).rd w X x.Values_ c2 := by
  have h : (ePair (eStr) (ePair (eList (eVal (Value.int .i64) (fun _ => rfl)) 3) (eList (eStr) 9))).rd w X (x.Name_, x.Cuts_, x.Values_) cs := h
  obtain ⟨c0, d0, rfl, h0, r0⟩ := h
  obtain ⟨c1, c2, rfl, h1, h2⟩ := r0
  exact ⟨c0, c1, c2, rfl, h0, h1, h2⟩

def eTlaws_Schema : Enc Tlaws_Schema := eIso (ePair (eList (eTlaws_Attr) 25) (eList (eStr) 9)) (fun x => (x.Attrs_, x.Classes_))

theorem rdm_Tlaws_Schema {w : World} {X : List Nat} {x : Tlaws_Schema} {c0 c1 : List Value} (h0 : (eList (eTlaws_Attr) 25).rd w X x.Attrs_ c0) (h1 : (eList (eStr) 9).rd w X x.Classes_ c1) : (eTlaws_Schema).rd w X x (c0 ++ c1) := by
  show (ePair (eList (eTlaws_Attr) 25) (eList (eStr) 9)).rd w X (x.Attrs_, x.Classes_) _
  exact (ePair_rd h0 h1)

theorem rdo_Tlaws_Schema {w : World} {X : List Nat} {x : Tlaws_Schema} {cs : List Value} (h : (eTlaws_Schema).rd w X x cs) : ∃ c0 c1, cs = (c0 ++ c1) ∧ (eList (eTlaws_Attr) 25).rd w X x.Attrs_ c0 ∧ (eList (eStr) 9).rd w X x.Classes_ c1 := by
  have h : (ePair (eList (eTlaws_Attr) 25) (eList (eStr) 9)).rd w X (x.Attrs_, x.Classes_) cs := h
  obtain ⟨c0, c1, rfl, h0, h1⟩ := h
  exact ⟨c0, c1, rfl, h0, h1⟩

def eTimpl_Attr : Enc Timpl_Attr := eIso (ePair (eStr) (ePair (eList (eVal (Value.int .i64) (fun _ => rfl)) 3) (eList (eStr) 9))) (fun x => (x.Name_, x.Cuts_, x.Values_))

theorem rdm_Timpl_Attr {w : World} {X : List Nat} {x : Timpl_Attr} {c0 c1 c2 : List Value} (h0 : (eStr).rd w X x.Name_ c0) (h1 : (eList (eVal (Value.int .i64) (fun _ => rfl)) 3).rd w X x.Cuts_ c1) (h2 : (eList (eStr) 9).rd w X x.Values_ c2) : (eTimpl_Attr).rd w X x (c0 ++ (c1 ++ c2)) := by
  show (ePair (eStr) (ePair (eList (eVal (Value.int .i64) (fun _ => rfl)) 3) (eList (eStr) 9))).rd w X (x.Name_, x.Cuts_, x.Values_) _
  exact (ePair_rd h0 (ePair_rd h1 h2))

theorem rdo_Timpl_Attr {w : World} {X : List Nat} {x : Timpl_Attr} {cs : List Value} (h : (eTimpl_Attr).rd w X x cs) : ∃ c0 c1 c2, cs = (c0 ++ (c1 ++ c2)) ∧ (eStr).rd w X x.Name_ c0 ∧ (eList (eVal (Value.int .i64) (fun _ => rfl)) 3).rd w X x.Cuts_ c1 ∧ (eList (eStr) 9).rd w X x.Values_ c2 := by
  have h : (ePair (eStr) (ePair (eList (eVal (Value.int .i64) (fun _ => rfl)) 3) (eList (eStr) 9))).rd w X (x.Name_, x.Cuts_, x.Values_) cs := h
  obtain ⟨c0, d0, rfl, h0, r0⟩ := h
  obtain ⟨c1, c2, rfl, h1, h2⟩ := r0
  exact ⟨c0, c1, c2, rfl, h0, h1, h2⟩

theorem ownm_Timpl_Attr {w : World} {F0 F1 F2 : List Nat} {x : Timpl_Attr} {c0 c1 c2 : List Value} (h0 : (eStr).own w F0 x.Name_ c0) (h1 : (eList (eVal (Value.int .i64) (fun _ => rfl)) 3).own w F1 x.Cuts_ c1) (h2 : (eList (eStr) 9).own w F2 x.Values_ c2) : (eTimpl_Attr).own w (F0 ++ (F1 ++ F2)) x (c0 ++ (c1 ++ c2)) := by
  show (ePair (eStr) (ePair (eList (eVal (Value.int .i64) (fun _ => rfl)) 3) (eList (eStr) 9))).own w _ (x.Name_, x.Cuts_, x.Values_) _
  exact (ePair_own h0 (ePair_own h1 h2))

theorem owno_Timpl_Attr {w : World} {F : List Nat} {x : Timpl_Attr} {cs : List Value} (h : (eTimpl_Attr).own w F x cs) : ∃ F0 F1 F2 c0 c1 c2, F = (F0 ++ (F1 ++ F2)) ∧ cs = (c0 ++ (c1 ++ c2)) ∧ (eStr).own w F0 x.Name_ c0 ∧ (eList (eVal (Value.int .i64) (fun _ => rfl)) 3).own w F1 x.Cuts_ c1 ∧ (eList (eStr) 9).own w F2 x.Values_ c2 := by
  have h : (ePair (eStr) (ePair (eList (eVal (Value.int .i64) (fun _ => rfl)) 3) (eList (eStr) 9))).own w F (x.Name_, x.Cuts_, x.Values_) cs := h
  obtain ⟨F0, G0, c0, d0, rfl, rfl, h0, r0⟩ := h
  obtain ⟨F1, F2, c1, c2, rfl, rfl, h1, h2⟩ := r0
  exact ⟨F0, F1, F2, c0, c1, c2, rfl, rfl, h0, h1, h2⟩

theorem opn_Timpl_Attr {w0 : World} {M : List Nat} {L : List Res} {w : World} {F : List Nat} {x : Timpl_Attr} {cs : List Value} {i : Nat} (h : St w0 M L w) (hi : L[i]? = some (Res.own (eTimpl_Attr) F x cs)) :
    ∃ (a_1 : Option Addr) (k_1 : Nat) (F_1 : List Nat), ∃ (a_2 : Option Addr) (k_2 : Nat) (F_2 : List Nat), cs = [vS x.Name_, .slice a_1 (x.Cuts_).length k_1, .slice a_2 (x.Values_).length k_2] ∧ St w0 M (nilAt L [i] ++ [Res.own (eList (eVal (Value.int .i64) (fun _ => rfl)) 3) F_1 x.Cuts_ [.slice a_1 (x.Cuts_).length k_1], Res.own (eList (eStr) 9) F_2 x.Values_ [.slice a_2 (x.Values_).length k_2]]) w := by
  obtain ⟨hok, _, _⟩ := h.one hi
  have hok : (eTimpl_Attr).own w F x cs := hok
  obtain ⟨F1_0, F1_1, F1_2, c1_0, c1_1, c1_2, rfl, rfl, h1_0, h1_1, h1_2⟩ := owno_Timpl_Attr hok
  obtain ⟨rfl, rfl⟩ : F1_0 = [] ∧ c1_0 = [vS x.Name_] := h1_0
  obtain ⟨a2, k2, rfl⟩ := own_sl1 h1_1
  obtain ⟨a3, k3, rfl⟩ := own_sl1 h1_2
  refine ⟨a2, k2, F1_1, a3, k3, F1_2, rfl, h.re [i] _ rfl ?_ ?_⟩
  · simp [selR_cons, selR_nil, hi, foot, Res.own]
  · intro s hs; simp only [List.mem_cons, List.not_mem_nil, or_false] at hs; rcases hs with rfl | rfl
    · exact h1_1
    · exact h1_2

theorem fus_Timpl_Attr {w0 : World} {M : List Nat} {L : List Res} {w : World} {x0 : List UInt8} {x1 : List Int} {a1 : Option Addr} {n1 k1 : Nat} {G1 : List Nat} {x2 : List (List UInt8)} {a2 : Option Addr} {n2 k2 : Nat} {G2 : List Nat} (idx : List Nat) (h : St w0 M L w) (hs : selR L idx = [Res.own (eList (eVal (Value.int .i64) (fun _ => rfl)) 3) G1 x1 [.slice a1 n1 k1], Res.own (eList (eStr) 9) G2 x2 [.slice a2 n2 k2]]) (hn : nodB idx = true) :
    ∃ F, St w0 M (nilAt L idx ++ [Res.own (eTimpl_Attr) F (Timpl_Attr.mk x0 x1 x2) [vS x0, .slice a1 n1 k1, .slice a2 n2 k2]]) w := by
  have o0 : (eList (eVal (Value.int .i64) (fun _ => rfl)) 3).own w G1 x1 [.slice a1 n1 k1] := h.ok' (mem_sel (L := L) (is := idx) (by rw [hs]; simp : Res.own (eList (eVal (Value.int .i64) (fun _ => rfl)) 3) G1 x1 [.slice a1 n1 k1] ∈ selR L idx))
  have o1 : (eList (eStr) 9).own w G2 x2 [.slice a2 n2 k2] := h.ok' (mem_sel (L := L) (is := idx) (by rw [hs]; simp : Res.own (eList (eStr) 9) G2 x2 [.slice a2 n2 k2] ∈ selR L idx))
  have ho := (ownm_Timpl_Attr (x := (Timpl_Attr.mk x0 x1 x2)) (⟨rfl, rfl⟩ : (eStr).own w [] _ _) o0 o1)
  refine ⟨_, h.re idx [Res.own (eTimpl_Attr) _ (Timpl_Attr.mk x0 x1 x2) [vS x0, .slice a1 n1 k1, .slice a2 n2 k2]] hn ?_ (fun s hs => by rw [List.mem_singleton.1 hs]; exact ho)⟩
  rw [hs]
  simp [foot, Res.own]

def eTimpl_Schema : Enc Timpl_Schema := eIso (ePair (eList (eTimpl_Attr) 28) (eList (eStr) 9)) (fun x => (x.Attrs_, x.Classes_))

theorem rdm_Timpl_Schema {w : World} {X : List Nat} {x : Timpl_Schema} {c0 c1 : List Value} (h0 : (eList (eTimpl_Attr) 28).rd w X x.Attrs_ c0) (h1 : (eList (eStr) 9).rd w X x.Classes_ c1) : (eTimpl_Schema).rd w X x (c0 ++ c1) := by
  show (ePair (eList (eTimpl_Attr) 28) (eList (eStr) 9)).rd w X (x.Attrs_, x.Classes_) _
  exact (ePair_rd h0 h1)

theorem rdo_Timpl_Schema {w : World} {X : List Nat} {x : Timpl_Schema} {cs : List Value} (h : (eTimpl_Schema).rd w X x cs) : ∃ c0 c1, cs = (c0 ++ c1) ∧ (eList (eTimpl_Attr) 28).rd w X x.Attrs_ c0 ∧ (eList (eStr) 9).rd w X x.Classes_ c1 := by
  have h : (ePair (eList (eTimpl_Attr) 28) (eList (eStr) 9)).rd w X (x.Attrs_, x.Classes_) cs := h
  obtain ⟨c0, c1, rfl, h0, h1⟩ := h
  exact ⟨c0, c1, rfl, h0, h1⟩

def eTlaws_Ex : Enc Tlaws_Ex := eIso (ePair (eList (eVal (Value.int .i64) (fun _ => rfl)) 3) (eVal (Value.int .i64) (fun _ => rfl))) (fun x => (x.Bins_, x.Class_))

theorem rdm_Tlaws_Ex {w : World} {X : List Nat} {x : Tlaws_Ex} {c0 c1 : List Value} (h0 : (eList (eVal (Value.int .i64) (fun _ => rfl)) 3).rd w X x.Bins_ c0) (h1 : (eVal (Value.int .i64) (fun _ => rfl)).rd w X x.Class_ c1) : (eTlaws_Ex).rd w X x (c0 ++ c1) := by
  show (ePair (eList (eVal (Value.int .i64) (fun _ => rfl)) 3) (eVal (Value.int .i64) (fun _ => rfl))).rd w X (x.Bins_, x.Class_) _
  exact (ePair_rd h0 h1)

theorem rdo_Tlaws_Ex {w : World} {X : List Nat} {x : Tlaws_Ex} {cs : List Value} (h : (eTlaws_Ex).rd w X x cs) : ∃ c0 c1, cs = (c0 ++ c1) ∧ (eList (eVal (Value.int .i64) (fun _ => rfl)) 3).rd w X x.Bins_ c0 ∧ (eVal (Value.int .i64) (fun _ => rfl)).rd w X x.Class_ c1 := by
  have h : (ePair (eList (eVal (Value.int .i64) (fun _ => rfl)) 3) (eVal (Value.int .i64) (fun _ => rfl))).rd w X (x.Bins_, x.Class_) cs := h
  obtain ⟨c0, c1, rfl, h0, h1⟩ := h
  exact ⟨c0, c1, rfl, h0, h1⟩

def eTlaws_Entry : Enc Tlaws_Entry := eIso (ePair (eTlaws_Ex) (eVal (Value.int .i64) (fun _ => rfl))) (fun x => (x.Ex_, x.Weight_))

theorem rdm_Tlaws_Entry {w : World} {X : List Nat} {x : Tlaws_Entry} {c0 c1 : List Value} (h0 : (eTlaws_Ex).rd w X x.Ex_ c0) (h1 : (eVal (Value.int .i64) (fun _ => rfl)).rd w X x.Weight_ c1) : (eTlaws_Entry).rd w X x (c0 ++ c1) := by
  show (ePair (eTlaws_Ex) (eVal (Value.int .i64) (fun _ => rfl))).rd w X (x.Ex_, x.Weight_) _
  exact (ePair_rd h0 h1)

theorem rdo_Tlaws_Entry {w : World} {X : List Nat} {x : Tlaws_Entry} {cs : List Value} (h : (eTlaws_Entry).rd w X x cs) : ∃ c0 c1, cs = (c0 ++ c1) ∧ (eTlaws_Ex).rd w X x.Ex_ c0 ∧ (eVal (Value.int .i64) (fun _ => rfl)).rd w X x.Weight_ c1 := by
  have h : (ePair (eTlaws_Ex) (eVal (Value.int .i64) (fun _ => rfl))).rd w X (x.Ex_, x.Weight_) cs := h
  obtain ⟨c0, c1, rfl, h0, h1⟩ := h
  exact ⟨c0, c1, rfl, h0, h1⟩

def eTimpl_Ex : Enc Timpl_Ex := eIso (ePair (eList (eVal (Value.int .i64) (fun _ => rfl)) 3) (eVal (Value.int .i64) (fun _ => rfl))) (fun x => (x.Bins_, x.Class_))

theorem rdm_Timpl_Ex {w : World} {X : List Nat} {x : Timpl_Ex} {c0 c1 : List Value} (h0 : (eList (eVal (Value.int .i64) (fun _ => rfl)) 3).rd w X x.Bins_ c0) (h1 : (eVal (Value.int .i64) (fun _ => rfl)).rd w X x.Class_ c1) : (eTimpl_Ex).rd w X x (c0 ++ c1) := by
  show (ePair (eList (eVal (Value.int .i64) (fun _ => rfl)) 3) (eVal (Value.int .i64) (fun _ => rfl))).rd w X (x.Bins_, x.Class_) _
  exact (ePair_rd h0 h1)

theorem rdo_Timpl_Ex {w : World} {X : List Nat} {x : Timpl_Ex} {cs : List Value} (h : (eTimpl_Ex).rd w X x cs) : ∃ c0 c1, cs = (c0 ++ c1) ∧ (eList (eVal (Value.int .i64) (fun _ => rfl)) 3).rd w X x.Bins_ c0 ∧ (eVal (Value.int .i64) (fun _ => rfl)).rd w X x.Class_ c1 := by
  have h : (ePair (eList (eVal (Value.int .i64) (fun _ => rfl)) 3) (eVal (Value.int .i64) (fun _ => rfl))).rd w X (x.Bins_, x.Class_) cs := h
  obtain ⟨c0, c1, rfl, h0, h1⟩ := h
  exact ⟨c0, c1, rfl, h0, h1⟩

theorem ownm_Timpl_Ex {w : World} {F0 F1 : List Nat} {x : Timpl_Ex} {c0 c1 : List Value} (h0 : (eList (eVal (Value.int .i64) (fun _ => rfl)) 3).own w F0 x.Bins_ c0) (h1 : (eVal (Value.int .i64) (fun _ => rfl)).own w F1 x.Class_ c1) : (eTimpl_Ex).own w (F0 ++ F1) x (c0 ++ c1) := by
  show (ePair (eList (eVal (Value.int .i64) (fun _ => rfl)) 3) (eVal (Value.int .i64) (fun _ => rfl))).own w _ (x.Bins_, x.Class_) _
  exact (ePair_own h0 h1)

theorem owno_Timpl_Ex {w : World} {F : List Nat} {x : Timpl_Ex} {cs : List Value} (h : (eTimpl_Ex).own w F x cs) : ∃ F0 F1 c0 c1, F = (F0 ++ F1) ∧ cs = (c0 ++ c1) ∧ (eList (eVal (Value.int .i64) (fun _ => rfl)) 3).own w F0 x.Bins_ c0 ∧ (eVal (Value.int .i64) (fun _ => rfl)).own w F1 x.Class_ c1 := by
  have h : (ePair (eList (eVal (Value.int .i64) (fun _ => rfl)) 3) (eVal (Value.int .i64) (fun _ => rfl))).own w F (x.Bins_, x.Class_) cs := h
  obtain ⟨F0, F1, c0, c1, rfl, rfl, h0, h1⟩ := h
  exact ⟨F0, F1, c0, c1, rfl, rfl, h0, h1⟩

def eTimpl_Entry : Enc Timpl_Entry := eIso (ePair (eTimpl_Ex) (eVal (Value.int .i64) (fun _ => rfl))) (fun x => (x.Ex_, x.Weight_))

theorem rdm_Timpl_Entry {w : World} {X : List Nat} {x : Timpl_Entry} {c0 c1 : List Value} (h0 : (eTimpl_Ex).rd w X x.Ex_ c0) (h1 : (eVal (Value.int .i64) (fun _ => rfl)).rd w X x.Weight_ c1) : (eTimpl_Entry).rd w X x (c0 ++ c1) := by
  show (ePair (eTimpl_Ex) (eVal (Value.int .i64) (fun _ => rfl))).rd w X (x.Ex_, x.Weight_) _
  exact (ePair_rd h0 h1)

theorem rdo_Timpl_Entry {w : World} {X : List Nat} {x : Timpl_Entry} {cs : List Value} (h : (eTimpl_Entry).rd w X x cs) : ∃ c0 c1, cs = (c0 ++ c1) ∧ (eTimpl_Ex).rd w X x.Ex_ c0 ∧ (eVal (Value.int .i64) (fun _ => rfl)).rd w X x.Weight_ c1 := by
  have h : (ePair (eTimpl_Ex) (eVal (Value.int .i64) (fun _ => rfl))).rd w X (x.Ex_, x.Weight_) cs := h
  obtain ⟨c0, c1, rfl, h0, h1⟩ := h
  exact ⟨c0, c1, rfl, h0, h1⟩

theorem ownm_Timpl_Entry {w : World} {F0 F1 : List Nat} {x : Timpl_Entry} {c0 c1 : List Value} (h0 : (eTimpl_Ex).own w F0 x.Ex_ c0) (h1 : (eVal (Value.int .i64) (fun _ => rfl)).own w F1 x.Weight_ c1) : (eTimpl_Entry).own w (F0 ++ F1) x (c0 ++ c1) := by
  show (ePair (eTimpl_Ex) (eVal (Value.int .i64) (fun _ => rfl))).own w _ (x.Ex_, x.Weight_) _
  exact (ePair_own h0 h1)

theorem owno_Timpl_Entry {w : World} {F : List Nat} {x : Timpl_Entry} {cs : List Value} (h : (eTimpl_Entry).own w F x cs) : ∃ F0 F1 c0 c1, F = (F0 ++ F1) ∧ cs = (c0 ++ c1) ∧ (eTimpl_Ex).own w F0 x.Ex_ c0 ∧ (eVal (Value.int .i64) (fun _ => rfl)).own w F1 x.Weight_ c1 := by
  have h : (ePair (eTimpl_Ex) (eVal (Value.int .i64) (fun _ => rfl))).own w F (x.Ex_, x.Weight_) cs := h
  obtain ⟨F0, F1, c0, c1, rfl, rfl, h0, h1⟩ := h
  exact ⟨F0, F1, c0, c1, rfl, rfl, h0, h1⟩

theorem opn_Timpl_Entry {w0 : World} {M : List Nat} {L : List Res} {w : World} {F : List Nat} {x : Timpl_Entry} {cs : List Value} {i : Nat} (h : St w0 M L w) (hi : L[i]? = some (Res.own (eTimpl_Entry) F x cs)) :
    ∃ (a_1 : Option Addr) (k_1 : Nat) (F_1 : List Nat), cs = [.slice a_1 (x.Ex_.Bins_).length k_1, .int .i64 x.Ex_.Class_, .int .i64 x.Weight_] ∧ St w0 M (nilAt L [i] ++ [Res.own (eList (eVal (Value.int .i64) (fun _ => rfl)) 3) F_1 x.Ex_.Bins_ [.slice a_1 (x.Ex_.Bins_).length k_1]]) w := by
  obtain ⟨hok, _, _⟩ := h.one hi
  have hok : (eTimpl_Entry).own w F x cs := hok
  obtain ⟨F1_0, F1_1, c1_0, c1_1, rfl, rfl, h1_0, h1_1⟩ := owno_Timpl_Entry hok
  obtain ⟨F2_0, F2_1, c2_0, c2_1, rfl, rfl, h2_0, h2_1⟩ := owno_Timpl_Ex h1_0
  obtain ⟨a3, k3, rfl⟩ := own_sl1 h2_0
  obtain ⟨rfl, rfl⟩ : F2_1 = [] ∧ c2_1 = [.int .i64 x.Ex_.Class_] := h2_1
  obtain ⟨rfl, rfl⟩ : F1_1 = [] ∧ c1_1 = [.int .i64 x.Weight_] := h1_1
  refine ⟨a3, k3, F2_0, rfl, h.re [i] _ rfl ?_ ?_⟩
  · simp [selR_cons, selR_nil, hi, foot, Res.own]
  · intro s hs; simp only [List.mem_cons, List.not_mem_nil, or_false] at hs; rcases hs with rfl
    · exact h2_0

theorem fus_Timpl_Entry {w0 : World} {M : List Nat} {L : List Res} {w : World} {x0 : List Int} {a0 : Option Addr} {n0 k0 : Nat} {G0 : List Nat} {x1 : Int} {x2 : Int} (idx : List Nat) (h : St w0 M L w) (hs : selR L idx = [Res.own (eList (eVal (Value.int .i64) (fun _ => rfl)) 3) G0 x0 [.slice a0 n0 k0]]) (hn : nodB idx = true) :
    ∃ F, St w0 M (nilAt L idx ++ [Res.own (eTimpl_Entry) F (Timpl_Entry.mk (Timpl_Ex.mk x0 x1) x2) [.slice a0 n0 k0, .int .i64 x1, .int .i64 x2]]) w := by
  have o0 : (eList (eVal (Value.int .i64) (fun _ => rfl)) 3).own w G0 x0 [.slice a0 n0 k0] := h.ok' (mem_sel (L := L) (is := idx) (by rw [hs]; simp : Res.own (eList (eVal (Value.int .i64) (fun _ => rfl)) 3) G0 x0 [.slice a0 n0 k0] ∈ selR L idx))
  have ho := (ownm_Timpl_Entry (x := (Timpl_Entry.mk (Timpl_Ex.mk x0 x1) x2)) (ownm_Timpl_Ex (x := (Timpl_Ex.mk x0 x1)) o0 (⟨rfl, rfl⟩ : (eVal (Value.int .i64) (fun _ => rfl)).own w [] _ _)) (⟨rfl, rfl⟩ : (eVal (Value.int .i64) (fun _ => rfl)).own w [] _ _))
  refine ⟨_, h.re idx [Res.own (eTimpl_Entry) _ (Timpl_Entry.mk (Timpl_Ex.mk x0 x1) x2) [.slice a0 n0 k0, .int .i64 x1, .int .i64 x2]] hn ?_ (fun s hs => by rw [List.mem_singleton.1 hs]; exact ho)⟩
  rw [hs]
  simp [foot, Res.own]

theorem sl22 : isSl Try.prog 22 3 := isSl_of (by kernel_rfl)

theorem sl23 : isSl Try.prog 23 9 := isSl_of (by kernel_rfl)

theorem ty9 : isTy Try.prog 9 false 1 16 [vS []] := isTy_of (by kernel_rfl)

theorem st9 : isStr Try.prog 9 := isStr_of (by kernel_rfl)

theorem fa25_0 : isFa Try.prog 25 0 0 := isFa_of (by kernel_rfl)

theorem fa25_1 : isFa Try.prog 25 1 1 := isFa_of (by kernel_rfl)

theorem ty22 : isTy Try.prog 22 false 1 24 [.slice none 0 0] := isTy_of (by kernel_rfl)

theorem fn55 : isFn Try.prog 55 := ⟨Try.f55, Try.func55, rfl, by decide⟩

theorem fa25_2 : isFa Try.prog 25 2 2 := isFa_of (by kernel_rfl)

theorem ty23 : isTy Try.prog 23 false 1 24 [.slice none 0 0] := isTy_of (by kernel_rfl)

theorem fn56 : isFn Try.prog 56 := ⟨Try.f56, Try.func56, rfl, by decide⟩

theorem sl32 : isSl Try.prog 32 25 := isSl_of (by kernel_rfl)

theorem ty25 : isTy Try.prog 25 true 3 64 [vS [], .slice none 0 0, .slice none 0 0] := isTy_of (by kernel_rfl)

theorem fn11 : isFn Try.prog 11 := ⟨Try.f11, Try.func11, rfl, by decide⟩

theorem fa34_0 : isFa Try.prog 34 0 0 := isFa_of (by kernel_rfl)

theorem ty32 : isTy Try.prog 32 false 1 24 [.slice none 0 0] := isTy_of (by kernel_rfl)

theorem fn66 : isFn Try.prog 66 := ⟨Try.f66, Try.func66, rfl, by decide⟩

theorem fa34_1 : isFa Try.prog 34 1 1 := isFa_of (by kernel_rfl)

theorem ty3 : isTy Try.prog 3 false 1 8 [.int .i64 0] := isTy_of (by kernel_rfl)

theorem ty28 : isTy Try.prog 28 true 3 64 [vS [], .slice none 0 0, .slice none 0 0] := isTy_of (by kernel_rfl)

theorem fa28_0 : isFa Try.prog 28 0 0 := isFa_of (by kernel_rfl)

theorem fn60 : isFn Try.prog 60 := ⟨Try.f60, Try.func60, rfl, by decide⟩

theorem fa28_1 : isFa Try.prog 28 1 1 := isFa_of (by kernel_rfl)

theorem fn61 : isFn Try.prog 61 := ⟨Try.f61, Try.func61, rfl, by decide⟩

theorem fa28_2 : isFa Try.prog 28 2 2 := isFa_of (by kernel_rfl)

theorem sl37 : isSl Try.prog 37 28 := isSl_of (by kernel_rfl)

theorem fn13 : isFn Try.prog 13 := ⟨Try.f13, Try.func13, rfl, by decide⟩

theorem ty39 : isTy Try.prog 39 true 2 48 [.slice none 0 0, .slice none 0 0] := isTy_of (by kernel_rfl)

theorem fn68 : isFn Try.prog 68 := ⟨Try.f68, Try.func68, rfl, by decide⟩

theorem fa39_0 : isFa Try.prog 39 0 0 := isFa_of (by kernel_rfl)

theorem ty37 : isTy Try.prog 37 false 1 24 [.slice none 0 0] := isTy_of (by kernel_rfl)

theorem fa39_1 : isFa Try.prog 39 1 1 := isFa_of (by kernel_rfl)

theorem fn71 : isFn Try.prog 71 := ⟨Try.f71, Try.func71, rfl, by decide⟩

theorem fn104 : isFn Try.prog 104 := ⟨Try.f104, Try.func104, rfl, by decide⟩

theorem mixed : Try.prog.follows .mixedOrders = true := by kernel_rfl

theorem fn105 : isFn Try.prog 105 := ⟨Try.f105, Try.func105, rfl, by decide⟩

theorem fn57 : isFn Try.prog 57 := ⟨Try.f57, Try.func57, rfl, by decide⟩

theorem fn59 : isFn Try.prog 59 := ⟨Try.f59, Try.func59, rfl, by decide⟩

theorem fn67 : isFn Try.prog 67 := ⟨Try.f67, Try.func67, rfl, by decide⟩

theorem fn72 : isFn Try.prog 72 := ⟨Try.f72, Try.func72, rfl, by decide⟩

theorem fn117 : isFn Try.prog 117 := ⟨Try.f117, Try.func117, rfl, by decide⟩

theorem fn106 : isFn Try.prog 106 := ⟨Try.f106, Try.func106, rfl, by decide⟩

theorem fn112 : isFn Try.prog 112 := ⟨Try.f112, Try.func112, rfl, by decide⟩

theorem fn116 : isFn Try.prog 116 := ⟨Try.f116, Try.func116, rfl, by decide⟩

theorem fn113 : isFn Try.prog 113 := ⟨Try.f113, Try.func113, rfl, by decide⟩

theorem fn115 : isFn Try.prog 115 := ⟨Try.f115, Try.func115, rfl, by decide⟩

theorem fn118 : isFn Try.prog 118 := ⟨Try.f118, Try.func118, rfl, by decide⟩

theorem fn114 : isFn Try.prog 114 := ⟨Try.f114, Try.func114, rfl, by decide⟩

theorem fn107 : isFn Try.prog 107 := ⟨Try.f107, Try.func107, rfl, by decide⟩

theorem fn108 : isFn Try.prog 108 := ⟨Try.f108, Try.func108, rfl, by decide⟩

theorem fn62 : isFn Try.prog 62 := ⟨Try.f62, Try.func62, rfl, by decide⟩

theorem fn63 : isFn Try.prog 63 := ⟨Try.f63, Try.func63, rfl, by decide⟩

theorem fn69 : isFn Try.prog 69 := ⟨Try.f69, Try.func69, rfl, by decide⟩

theorem fn64 : isFn Try.prog 64 := ⟨Try.f64, Try.func64, rfl, by decide⟩

theorem fn65 : isFn Try.prog 65 := ⟨Try.f65, Try.func65, rfl, by decide⟩

theorem fn15 : isFn Try.prog 15 := ⟨Try.f15, Try.func15, rfl, by decide⟩

theorem fn70 : isFn Try.prog 70 := ⟨Try.f70, Try.func70, rfl, by decide⟩

theorem ty34 : isTy Try.prog 34 true 2 48 [.slice none 0 0, .slice none 0 0] := isTy_of (by kernel_rfl)

theorem fn16 : isFn Try.prog 16 := ⟨Try.f16, Try.func16, rfl, by decide⟩

theorem fn18 : isFn Try.prog 18 := ⟨Try.f18, Try.func18, rfl, by decide⟩

theorem bl4 : isBl Try.prog 4 := isBl_of (by kernel_rfl)

theorem fn20 : isFn Try.prog 20 := ⟨Try.f20, Try.func20, rfl, by decide⟩

theorem fa53_0 : isFa Try.prog 53 0 0 := isFa_of (by kernel_rfl)

theorem fa109_0 : isFa Try.prog 109 0 0 := isFa_of (by kernel_rfl)

theorem ty53 : isTy Try.prog 53 true 2 32 [.slice none 0 0, .int .i64 0] := isTy_of (by kernel_rfl)

theorem fn28 : isFn Try.prog 28 := ⟨Try.f28, Try.func28, rfl, by decide⟩

theorem sl60 : isSl Try.prog 60 109 := isSl_of (by kernel_rfl)

theorem ty109 : isTy Try.prog 109 true 3 40 [.slice none 0 0, .int .i64 0, .int .i64 0] := isTy_of (by kernel_rfl)

theorem fn76 : isFn Try.prog 76 := ⟨Try.f76, Try.func76, rfl, by decide⟩

theorem fn33 : isFn Try.prog 33 := ⟨Try.f33, Try.func33, rfl, by decide⟩

theorem ty56 : isTy Try.prog 56 true 2 32 [.slice none 0 0, .int .i64 0] := isTy_of (by kernel_rfl)

theorem fa56_0 : isFa Try.prog 56 0 0 := isFa_of (by kernel_rfl)

theorem fa53_1 : isFa Try.prog 53 1 1 := isFa_of (by kernel_rfl)

theorem fa56_1 : isFa Try.prog 56 1 1 := isFa_of (by kernel_rfl)

theorem ty111 : isTy Try.prog 111 true 3 40 [.slice none 0 0, .int .i64 0, .int .i64 0] := isTy_of (by kernel_rfl)

theorem fn30 : isFn Try.prog 30 := ⟨Try.f30, Try.func30, rfl, by decide⟩

theorem fa111_0 : isFa Try.prog 111 0 0 := isFa_of (by kernel_rfl)

theorem fa109_1 : isFa Try.prog 109 1 2 := isFa_of (by kernel_rfl)

theorem fa111_1 : isFa Try.prog 111 1 2 := isFa_of (by kernel_rfl)

theorem sl63 : isSl Try.prog 63 111 := isSl_of (by kernel_rfl)

theorem fn77 : isFn Try.prog 77 := ⟨Try.f77, Try.func77, rfl, by decide⟩

theorem fn35 : isFn Try.prog 35 := ⟨Try.f35, Try.func35, rfl, by decide⟩

theorem fn32 : isFn Try.prog 32 := ⟨Try.f32, Try.func32, rfl, by decide⟩

theorem fn80 : isFn Try.prog 80 := ⟨Try.f80, Try.func80, rfl, by decide⟩

theorem fn37 : isFn Try.prog 37 := ⟨Try.f37, Try.func37, rfl, by decide⟩

theorem fn74 : isFn Try.prog 74 := ⟨Try.f74, Try.func74, rfl, by decide⟩

theorem fn75 : isFn Try.prog 75 := ⟨Try.f75, Try.func75, rfl, by decide⟩

theorem fn79 : isFn Try.prog 79 := ⟨Try.f79, Try.func79, rfl, by decide⟩

theorem fn111 : isFn Try.prog 111 := ⟨Try.f111, Try.func111, rfl, by decide⟩

theorem fn78 : isFn Try.prog 78 := ⟨Try.f78, Try.func78, rfl, by decide⟩

theorem fn34 : isFn Try.prog 34 := ⟨Try.f34, Try.func34, rfl, by decide⟩

theorem fn36 : isFn Try.prog 36 := ⟨Try.f36, Try.func36, rfl, by decide⟩

set_option maxHeartbeats 4000000 in
set_option maxRecDepth 100000 in
theorem laws_szIntS_ok (w : World) {p0 : List Int} {p1 : Int} {a_0 : Option Addr} {n_0 c_0 : Nat} {r : Int} (H : laws_szIntS p0 p1 = some r)  (g0 : (eList (eVal (Value.int .i64) (fun _ => rfl)) 3).rd w [] p0 [.slice a_0 n_0 c_0]) :
    Calls Try.prog 55 #[.slice a_0 n_0 c_0, .int .i64 p1] w (fun en w' => en = .returned (.int .i64 r) ∧ Ext [] w w') := by
  obtain rfl := rd_n g0
  unfold laws_szIntS at H
  refine f_enter (vs := [.slice a_0 p0.length c_0, .int .i64 p1]) Try.func55 rfl Try.ntmps55 rfl (St.init w []) ?_
  refine c_seq ?_
  refine c_reg ?_
  refine ow_batch [.p] rfl ?_
  refine ow_nil ?_
  refine x_qs ?_
  refine c_seq ?_
  refine c_reg ?_
  refine ow_batch [.p, .p, .lenS 22 3 sl22, .p, .p] rfl ?_
  refine ow_nil ?_
  refine x_qs ?_
  refine c_seq ?_
  refine c_seq ?_
  refine c_reg ?_
  refine ow_batch [.p, .p] rfl ?_
  refine ow_nil ?_
  refine x_qs ?_
  refine c_if rfl (fun hb => ?_) (fun hb => ?_)
  · have H := of_if_t hb H
    refine c_seq ?_
    refine c_reg ?_
    refine ow_batch [.p] rfl ?_
    refine ow_nil ?_
    refine x_qs ?_
    refine c_ret ?_
    refine x_qs_ret ?_
    exact x_retR (rs := [.tmp 4]) (vs := [.int .i64 (-1)]) rfl ⟨rfl, trivial⟩ (fun w' hw' => by
        obtain rfl := of_some H
        exact ⟨rfl, hw'.ext⟩)
  · have H := of_if_f hb H
    refine c_skip ?_
    refine x_qs ?_
    refine c_seq ?_
    refine c_reg ?_
    refine ow_batch [.p, .p] rfl ?_
    refine ow_nil ?_
    refine x_qs ?_
    refine c_ret ?_
    exact x_retR (rs := [.tmp 4]) (vs := [.int .i64 (IntKind.i64.wrap (p1 - (p0.length : Int)))]) rfl ⟨rfl, trivial⟩ (fun w' hw' => by
        obtain rfl := of_some H
        exact ⟨rfl, hw'.ext⟩)

set_option maxHeartbeats 4000000 in
set_option maxRecDepth 100000 in
theorem laws_szStringS_ok (w : World) {p0 : List (List UInt8)} {p1 : Int} {a_0 : Option Addr} {n_0 c_0 : Nat} {r : Int} (H : laws_szStringS p0 p1 = some r)  (g0 : (eList (eStr) 9).rd w [] p0 [.slice a_0 n_0 c_0]) :
    Calls Try.prog 56 #[.slice a_0 n_0 c_0, .int .i64 p1] w (fun en w' => en = .returned (.int .i64 r) ∧ Ext [] w w') := by
  obtain rfl := rd_n g0
  unfold laws_szStringS at H
  refine f_enter (vs := [.slice a_0 p0.length c_0, .int .i64 p1]) Try.func56 rfl Try.ntmps56 rfl (St.init w []) ?_
  refine c_seq ?_
  refine c_reg ?_
  refine ow_batch [.p] rfl ?_
  refine ow_nil ?_
  refine x_qs ?_
  refine c_seq ?_
  refine c_reg ?_
  refine ow_batch [.p, .p, .lenS 23 9 sl23, .p, .p] rfl ?_
  refine ow_nil ?_
  refine x_qs ?_
  refine c_seq ?_
  refine c_seq ?_
  refine c_reg ?_
  refine ow_batch [.p, .p] rfl ?_
  refine ow_nil ?_
  refine x_qs ?_
  refine c_if rfl (fun hb => ?_) (fun hb => ?_)
  · have H := of_if_t hb H
    refine c_seq ?_
    refine c_reg ?_
    refine ow_batch [.p] rfl ?_
    refine ow_nil ?_
    refine x_qs ?_
    refine c_ret ?_
    refine x_qs_ret ?_
    exact x_retR (rs := [.tmp 4]) (vs := [.int .i64 (-1)]) rfl ⟨rfl, trivial⟩ (fun w' hw' => by
        obtain rfl := of_some H
        exact ⟨rfl, hw'.ext⟩)
  · have H := of_if_f hb H
    refine c_skip ?_
    refine x_qs ?_
    refine c_seq ?_
    refine c_seq ?_
    refine c_reg ?_
    refine ow_batch [.p] rfl ?_
    refine ow_nil ?_
    refine x_qs ?_
    refine c_block ?_
    refine CW.at (loopI2 (fun (i5 : Int) (i6 : Int) => St w [] []) (fun (i5 : Int) (i6 : Int) => [(0, .slice a_0 p0.length c_0), (1, .int .i64 i5), (5, .int .i64 i6)]) (fun kk => fun (i5 : Int) (i6 : Int) => laws_szStringS_L1 p0 kk i5 i6 = some r) (fun _ _ H => ?_) (fun k1 ihk1 i5 i6 H => ?_) Fuel (IntKind.i64.wrap (p1 - (p0.length : Int))) (0) (H)) (fun _ h => St.sel [] rfl rfl h) ⟨rfl, rfl, rfl,  trivial⟩
    · unfold laws_szStringS_L1 at H
      exact absurd H (by simp)
    · unfold laws_szStringS_L1 at H
      refine c_seq ?_
      refine c_seq ?_
      refine c_reg ?_
      refine ow_batch [.p, .p, .lenS 23 9 sl23, .p] rfl ?_
      refine ow_nil ?_
      refine x_qs ?_
      refine c_if rfl (fun hb => ?_) (fun hb => ?_)
      · have H := of_if_t hb H
        refine c_skip ?_
        refine x_qs ?_
        refine c_seq ?_
        refine c_block ?_
        refine c_seq ?_
        refine c_reg ?_
        refine ow_batch [.p, .p, .p] rfl ?_
        obtain ⟨e11, h12, H⟩ := of_bind H
        refine ow_ixE (e := eStr) (xs := p0) (j := i6) rfl rfl rfl rfl rfl sl23 ty9 rfl (fun w1 hw1 => rds_bor g0 w1 hw1) h12 (by rw [Nat.mul_one]) ?_
        refine ow_r rfl (dstOk_lt rfl) (ry_load1 rfl rfl ty9 (at_elV (fun w1 hw1 => rds_bor g0 w1 hw1) h12)) ?_
        refine ow_batch [.lenT 9 st9, .p, .p] rfl ?_
        refine ow_nil ?_
        refine x_qs ?_
        refine c_seq ?_
        refine c_reg ?_
        refine ow_batch [.p, .p] rfl ?_
        refine ow_nil ?_
        refine x_qs ?_
        refine c_if rfl (fun hb => ?_) (fun hb => ?_)
        · have H := of_if_t hb H
          refine c_seq ?_
          refine c_reg ?_
          refine ow_batch [.p] rfl ?_
          refine ow_nil ?_
          refine x_qs ?_
          refine c_ret ?_
          refine x_qb_ret ?_
          refine x_qs_ret ?_
          refine x_ql_ret ?_
          refine x_qb_ret ?_
          refine x_qs_ret ?_
          exact x_retR (rs := [.tmp 4]) (vs := [.int .i64 (-1)]) rfl ⟨rfl, trivial⟩ (fun w' hw' => by
              obtain rfl := of_some H
              exact ⟨rfl, hw'.ext⟩)
        · have H := of_if_f hb H
          refine c_skip ?_
          refine x_qb ?_
          refine x_qs ?_
          refine c_reg ?_
          refine ow_batch [.p, .p, .p] rfl ?_
          refine ow_nil ?_
          exact x_ql (RW.at (ihk1 (IntKind.i64.wrap (i5 - (e11.length : Int))) (IntKind.i64.wrap (i6 + 1)) (H)) (fun _ h => St.sel [] rfl rfl h) ⟨rfl, rfl, rfl, trivial⟩)
      · have H := of_if_f hb H
        refine c_exit ?_
        refine x_qs_exit ?_
        refine x_ql_exit ?_
        refine x_qb_here ?_
        refine x_qs ?_
        refine c_seq ?_
        refine c_reg ?_
        refine ow_batch [.p, .p] rfl ?_
        refine ow_nil ?_
        refine x_qs ?_
        refine c_ret ?_
        exact x_retR (rs := [.tmp 4]) (vs := [.int .i64 i5]) rfl ⟨rfl, trivial⟩ (fun w' hw' => by
            obtain rfl := of_some H
            exact ⟨rfl, hw'.ext⟩)

set_option maxHeartbeats 4000000 in
set_option maxRecDepth 100000 in
theorem laws_szAttr_ok (w : World) {p0 : Tlaws_Attr} {p1 : Int} {cs0 : List Value} {r : Int} (H : laws_szAttr p0 p1 = some r)  (g0 : (eTlaws_Attr).rd w [] p0 cs0) :
    Calls Try.prog 11 #[.agg cs0.toArray, .int .i64 p1] w (fun en w' => en = .returned (.int .i64 r) ∧ Ext [] w w') := by
  obtain ⟨c1, c2, c3, rfl, g4, g5, g6⟩ := rdo_Tlaws_Attr g0
  obtain rfl : c1 = [vS p0.Name_] := g4
  obtain ⟨a7, c8, rfl⟩ := rd_sl1 g5
  obtain ⟨a9, c10, rfl⟩ := rd_sl1 g6
  unfold laws_szAttr at H
  refine f_enter (vs := [.agg #[vS p0.Name_, .slice a7 p0.Cuts_.length c8, .slice a9 p0.Values_.length c10], .int .i64 p1]) Try.func11 rfl Try.ntmps11 rfl (St.init w []) ?_
  refine c_seq ?_
  refine c_reg ?_
  refine ow_box (cs := [vS p0.Name_, .slice a7 p0.Cuts_.length c8, .slice a9 p0.Values_.length c10]) rfl rfl rfl rfl rfl rfl (fun _ => kp) (fun b11 => ?_)
  refine ow_batch [.p] rfl ?_
  refine ow_nil ?_
  refine x_qs ?_
  refine c_seq ?_
  refine c_reg ?_
  refine ow_batch [.p, .fa 25 0 0 fa25_0] rfl ?_
  refine ow_r rfl (dstOk_lt rfl) (ry_box1 (off := 0) rfl rfl ty9 (boxIn (i := 0) rfl) rfl) ?_
  refine ow_batch [.lenT 9 st9, .p, .p] rfl ?_
  refine ow_nil ?_
  refine x_qs ?_
  refine c_seq ?_
  refine c_seq ?_
  refine c_reg ?_
  refine ow_batch [.p, .p] rfl ?_
  refine ow_nil ?_
  refine x_qs ?_
  refine c_if rfl (fun hb => ?_) (fun hb => ?_)
  · have H := of_if_t hb H
    refine c_seq ?_
    refine c_reg ?_
    refine ow_batch [.p] rfl ?_
    refine ow_nil ?_
    refine x_qs ?_
    refine c_ret ?_
    refine x_qs_ret ?_
    exact x_retR (rs := [.tmp 4]) (vs := [.int .i64 (-1)]) rfl ⟨rfl, trivial⟩ (fun w' hw' => by
        obtain rfl := of_some H
        exact ⟨rfl, hw'.ext⟩)
  · have H := of_if_f hb H
    refine c_skip ?_
    refine x_qs ?_
    refine c_seq ?_
    refine c_reg ?_
    refine ow_batch [.fa 25 1 1 fa25_1] rfl ?_
    refine ow_r rfl (dstOk_lt rfl) (ry_box1 (off := 1) rfl rfl ty22 (boxIn (i := 0) rfl) rfl) ?_
    refine ow_batch [.p] rfl ?_
    obtain ⟨y12, h13, H⟩ := of_bind H
    refine ow_q rfl rfl (dstOk_lt rfl) (qy_call rfl fn55 rfl (fun w1 hw1 => laws_szIntS_ok w1  h13 (rds_bor g5 w1 hw1))) (fun _ _ => trivial) ?_
    refine ow_batch [.p] rfl ?_
    refine ow_nil ?_
    refine x_qs ?_
    refine c_seq ?_
    refine c_seq ?_
    refine c_reg ?_
    refine ow_batch [.p, .p] rfl ?_
    refine ow_nil ?_
    refine x_qs ?_
    refine c_if rfl (fun hb => ?_) (fun hb => ?_)
    · have H := of_if_t hb H
      refine c_seq ?_
      refine c_reg ?_
      refine ow_batch [.p] rfl ?_
      refine ow_nil ?_
      refine x_qs ?_
      refine c_ret ?_
      refine x_qs_ret ?_
      exact x_retR (rs := [.tmp 4]) (vs := [.int .i64 (-1)]) rfl ⟨rfl, trivial⟩ (fun w' hw' => by
          obtain rfl := of_some H
          exact ⟨rfl, hw'.ext⟩)
    · have H := of_if_f hb H
      refine c_skip ?_
      refine x_qs ?_
      refine c_seq ?_
      refine c_reg ?_
      refine ow_batch [.fa 25 2 2 fa25_2] rfl ?_
      refine ow_r rfl (dstOk_lt rfl) (ry_box1 (off := 2) rfl rfl ty23 (boxIn (i := 0) rfl) rfl) ?_
      refine ow_batch [.p] rfl ?_
      obtain ⟨y14, h15, H⟩ := of_bind H
      refine ow_q rfl rfl (dstOk_lt rfl) (qy_call rfl fn56 rfl (fun w1 hw1 => laws_szStringS_ok w1  h15 (rds_bor g6 w1 hw1))) (fun _ _ => trivial) ?_
      refine ow_batch [.p] rfl ?_
      refine ow_nil ?_
      refine x_qs ?_
      refine c_seq ?_
      refine c_seq ?_
      refine c_reg ?_
      refine ow_batch [.p, .p] rfl ?_
      refine ow_nil ?_
      refine x_qs ?_
      refine c_if rfl (fun hb => ?_) (fun hb => ?_)
      · have H := of_if_t hb H
        refine c_seq ?_
        refine c_reg ?_
        refine ow_batch [.p] rfl ?_
        refine ow_nil ?_
        refine x_qs ?_
        refine c_ret ?_
        refine x_qs_ret ?_
        exact x_retR (rs := [.tmp 4]) (vs := [.int .i64 (-1)]) rfl ⟨rfl, trivial⟩ (fun w' hw' => by
            obtain rfl := of_some H
            exact ⟨rfl, hw'.ext⟩)
      · have H := of_if_f hb H
        refine c_skip ?_
        refine x_qs ?_
        refine c_seq ?_
        refine c_reg ?_
        refine ow_batch [.p, .p] rfl ?_
        refine ow_nil ?_
        refine x_qs ?_
        refine c_ret ?_
        exact x_retR (rs := [.tmp 4]) (vs := [.int .i64 y14]) rfl ⟨rfl, trivial⟩ (fun w' hw' => by
            obtain rfl := of_some H
            exact ⟨rfl, hw'.ext⟩)

set_option maxHeartbeats 4000000 in
set_option maxRecDepth 100000 in
theorem laws_szAttrS_ok (w : World) {p0 : List Tlaws_Attr} {p1 : Int} {a_0 : Option Addr} {n_0 c_0 : Nat} {r : Int} (H : laws_szAttrS p0 p1 = some r)  (g0 : (eList (eTlaws_Attr) 25).rd w [] p0 [.slice a_0 n_0 c_0]) :
    Calls Try.prog 66 #[.slice a_0 n_0 c_0, .int .i64 p1] w (fun en w' => en = .returned (.int .i64 r) ∧ Ext [] w w') := by
  obtain rfl := rd_n g0
  unfold laws_szAttrS at H
  refine f_enter (vs := [.slice a_0 p0.length c_0, .int .i64 p1]) Try.func66 rfl Try.ntmps66 rfl (St.init w []) ?_
  refine c_seq ?_
  refine c_reg ?_
  refine ow_batch [.p] rfl ?_
  refine ow_nil ?_
  refine x_qs ?_
  refine c_seq ?_
  refine c_reg ?_
  refine ow_batch [.p, .p, .lenS 32 25 sl32, .p, .p] rfl ?_
  refine ow_nil ?_
  refine x_qs ?_
  refine c_seq ?_
  refine c_seq ?_
  refine c_reg ?_
  refine ow_batch [.p, .p] rfl ?_
  refine ow_nil ?_
  refine x_qs ?_
  refine c_if rfl (fun hb => ?_) (fun hb => ?_)
  · have H := of_if_t hb H
    refine c_seq ?_
    refine c_reg ?_
    refine ow_batch [.p] rfl ?_
    refine ow_nil ?_
    refine x_qs ?_
    refine c_ret ?_
    refine x_qs_ret ?_
    exact x_retR (rs := [.tmp 4]) (vs := [.int .i64 (-1)]) rfl ⟨rfl, trivial⟩ (fun w' hw' => by
        obtain rfl := of_some H
        exact ⟨rfl, hw'.ext⟩)
  · have H := of_if_f hb H
    refine c_skip ?_
    refine x_qs ?_
    refine c_seq ?_
    refine c_seq ?_
    refine c_reg ?_
    refine ow_batch [.p] rfl ?_
    refine ow_nil ?_
    refine x_qs ?_
    refine c_block ?_
    refine CW.at (loopI2 (fun (i21 : Int) (i22 : Int) => St w [] []) (fun (i21 : Int) (i22 : Int) => [(0, .slice a_0 p0.length c_0), (1, .int .i64 i21), (5, .int .i64 i22)]) (fun kk => fun (i21 : Int) (i22 : Int) => laws_szAttrS_L1 p0 kk i21 i22 = some r) (fun _ _ H => ?_) (fun k1 ihk1 i21 i22 H => ?_) Fuel (IntKind.i64.wrap (p1 - (p0.length : Int))) (0) (H)) (fun _ h => St.sel [] rfl rfl h) ⟨rfl, rfl, rfl,  trivial⟩
    · unfold laws_szAttrS_L1 at H
      exact absurd H (by simp)
    · unfold laws_szAttrS_L1 at H
      refine c_seq ?_
      refine c_seq ?_
      refine c_reg ?_
      refine ow_batch [.p, .p, .lenS 32 25 sl32, .p] rfl ?_
      refine ow_nil ?_
      refine x_qs ?_
      refine c_if rfl (fun hb => ?_) (fun hb => ?_)
      · have H := of_if_t hb H
        refine c_skip ?_
        refine x_qs ?_
        refine c_seq ?_
        refine c_block ?_
        refine c_seq ?_
        refine c_reg ?_
        refine ow_batch [.p, .p] rfl ?_
        obtain ⟨e43, h44, H⟩ := of_bind H
        refine ow_ixB rfl rfl rfl rfl rfl sl32 ty25 rfl g0 h44 (fun q47 c48 hd45 hA46 => ?_)
        obtain ⟨c49, c50, c51, rfl, g52, g53, g54⟩ := rdo_Tlaws_Attr hd45
        obtain rfl : c49 = [vS e43.Name_] := g52
        obtain ⟨a55, c56, rfl⟩ := rd_sl1 g53
        obtain ⟨a57, c58, rfl⟩ := rd_sl1 g54
        refine ow_r rfl (dstOk_lt rfl) (ry_load (cs := [vS e43.Name_, .slice a55 e43.Cuts_.length c56, .slice a57 e43.Values_.length c58]) rfl rfl ty25 (at_bor bor hA46) rfl) ?_
        refine ow_batch [.p] rfl ?_
        obtain ⟨y59, h60, H⟩ := of_bind H
        refine ow_q rfl rfl (dstOk_lt rfl) (qy_call rfl fn11 rfl (fun w1 hw1 => laws_szAttr_ok w1 (cs0 := [vS e43.Name_, .slice a55 e43.Cuts_.length c56, .slice a57 e43.Values_.length c58]) h60 (rdm_Tlaws_Attr (x := e43) (c0 := [vS e43.Name_]) (c1 := [.slice a55 e43.Cuts_.length c56]) (c2 := [.slice a57 e43.Values_.length c58]) rfl (rds_bor g53 w1 hw1) (rds_bor g54 w1 hw1)))) (fun _ _ => trivial) ?_
        refine ow_batch [.p] rfl ?_
        refine ow_nil ?_
        refine x_qs ?_
        refine c_seq ?_
        refine c_reg ?_
        refine ow_batch [.p, .p] rfl ?_
        refine ow_nil ?_
        refine x_qs ?_
        refine c_if rfl (fun hb => ?_) (fun hb => ?_)
        · have H := of_if_t hb H
          refine c_seq ?_
          refine c_reg ?_
          refine ow_batch [.p] rfl ?_
          refine ow_nil ?_
          refine x_qs ?_
          refine c_ret ?_
          refine x_qb_ret ?_
          refine x_qs_ret ?_
          refine x_ql_ret ?_
          refine x_qb_ret ?_
          refine x_qs_ret ?_
          exact x_retR (rs := [.tmp 4]) (vs := [.int .i64 (-1)]) rfl ⟨rfl, trivial⟩ (fun w' hw' => by
              obtain rfl := of_some H
              exact ⟨rfl, hw'.ext⟩)
        · have H := of_if_f hb H
          refine c_skip ?_
          refine x_qb ?_
          refine x_qs ?_
          refine c_reg ?_
          refine ow_batch [.p, .p, .p] rfl ?_
          refine ow_nil ?_
          exact x_ql (RW.at (ihk1 (y59) (IntKind.i64.wrap (i22 + 1)) (H)) (fun _ h => St.sel [] rfl rfl h) ⟨rfl, rfl, rfl, trivial⟩)
      · have H := of_if_f hb H
        refine c_exit ?_
        refine x_qs_exit ?_
        refine x_ql_exit ?_
        refine x_qb_here ?_
        refine x_qs ?_
        refine c_seq ?_
        refine c_reg ?_
        refine ow_batch [.p, .p] rfl ?_
        refine ow_nil ?_
        refine x_qs ?_
        refine c_ret ?_
        exact x_retR (rs := [.tmp 4]) (vs := [.int .i64 i21]) rfl ⟨rfl, trivial⟩ (fun w' hw' => by
            obtain rfl := of_some H
            exact ⟨rfl, hw'.ext⟩)

set_option maxHeartbeats 4000000 in
set_option maxRecDepth 100000 in
theorem laws_szSchema_ok (w : World) {p0 : Tlaws_Schema} {p1 : Int} {cs0 : List Value} {r : Int} (H : laws_szSchema p0 p1 = some r)  (g0 : (eTlaws_Schema).rd w [] p0 cs0) :
    Calls Try.prog 16 #[.agg cs0.toArray, .int .i64 p1] w (fun en w' => en = .returned (.int .i64 r) ∧ Ext [] w w') := by
  obtain ⟨c1, c2, rfl, g3, g4⟩ := rdo_Tlaws_Schema g0
  obtain ⟨a5, c6, rfl⟩ := rd_sl1 g3
  obtain ⟨a7, c8, rfl⟩ := rd_sl1 g4
  unfold laws_szSchema at H
  refine f_enter (vs := [.agg #[.slice a5 p0.Attrs_.length c6, .slice a7 p0.Classes_.length c8], .int .i64 p1]) Try.func16 rfl Try.ntmps16 rfl (St.init w []) ?_
  refine c_seq ?_
  refine c_reg ?_
  refine ow_box (cs := [.slice a5 p0.Attrs_.length c6, .slice a7 p0.Classes_.length c8]) rfl rfl rfl rfl rfl rfl (fun _ => kp) (fun b9 => ?_)
  refine ow_batch [.p] rfl ?_
  refine ow_nil ?_
  refine x_qs ?_
  refine c_seq ?_
  refine c_reg ?_
  refine ow_batch [.fa 34 0 0 fa34_0] rfl ?_
  refine ow_r rfl (dstOk_lt rfl) (ry_box1 (off := 0) rfl rfl ty32 (boxIn (i := 0) rfl) rfl) ?_
  refine ow_batch [.p] rfl ?_
  obtain ⟨y10, h11, H⟩ := of_bind H
  refine ow_q rfl rfl (dstOk_lt rfl) (qy_call rfl fn66 rfl (fun w1 hw1 => laws_szAttrS_ok w1  h11 (rds_bor g3 w1 hw1))) (fun _ _ => trivial) ?_
  refine ow_batch [.p] rfl ?_
  refine ow_nil ?_
  refine x_qs ?_
  refine c_seq ?_
  refine c_seq ?_
  refine c_reg ?_
  refine ow_batch [.p, .p] rfl ?_
  refine ow_nil ?_
  refine x_qs ?_
  refine c_if rfl (fun hb => ?_) (fun hb => ?_)
  · have H := of_if_t hb H
    refine c_seq ?_
    refine c_reg ?_
    refine ow_batch [.p] rfl ?_
    refine ow_nil ?_
    refine x_qs ?_
    refine c_ret ?_
    refine x_qs_ret ?_
    exact x_retR (rs := [.tmp 4]) (vs := [.int .i64 (-1)]) rfl ⟨rfl, trivial⟩ (fun w' hw' => by
        obtain rfl := of_some H
        exact ⟨rfl, hw'.ext⟩)
  · have H := of_if_f hb H
    refine c_skip ?_
    refine x_qs ?_
    refine c_seq ?_
    refine c_reg ?_
    refine ow_batch [.fa 34 1 1 fa34_1] rfl ?_
    refine ow_r rfl (dstOk_lt rfl) (ry_box1 (off := 1) rfl rfl ty23 (boxIn (i := 0) rfl) rfl) ?_
    refine ow_batch [.p] rfl ?_
    obtain ⟨y12, h13, H⟩ := of_bind H
    refine ow_q rfl rfl (dstOk_lt rfl) (qy_call rfl fn56 rfl (fun w1 hw1 => laws_szStringS_ok w1  h13 (rds_bor g4 w1 hw1))) (fun _ _ => trivial) ?_
    refine ow_batch [.p] rfl ?_
    refine ow_nil ?_
    refine x_qs ?_
    refine c_seq ?_
    refine c_seq ?_
    refine c_reg ?_
    refine ow_batch [.p, .p] rfl ?_
    refine ow_nil ?_
    refine x_qs ?_
    refine c_if rfl (fun hb => ?_) (fun hb => ?_)
    · have H := of_if_t hb H
      refine c_seq ?_
      refine c_reg ?_
      refine ow_batch [.p] rfl ?_
      refine ow_nil ?_
      refine x_qs ?_
      refine c_ret ?_
      refine x_qs_ret ?_
      exact x_retR (rs := [.tmp 4]) (vs := [.int .i64 (-1)]) rfl ⟨rfl, trivial⟩ (fun w' hw' => by
          obtain rfl := of_some H
          exact ⟨rfl, hw'.ext⟩)
    · have H := of_if_f hb H
      refine c_skip ?_
      refine x_qs ?_
      refine c_seq ?_
      refine c_reg ?_
      refine ow_batch [.p, .p] rfl ?_
      refine ow_nil ?_
      refine x_qs ?_
      refine c_ret ?_
      exact x_retR (rs := [.tmp 4]) (vs := [.int .i64 y12]) rfl ⟨rfl, trivial⟩ (fun w' hw' => by
          obtain rfl := of_some H
          exact ⟨rfl, hw'.ext⟩)

set_option maxHeartbeats 4000000 in
set_option maxRecDepth 100000 in
theorem laws_toIntS_ok (w : World) {M0 : List Nat} {p0 : List Int} {a_0 : Option Addr} {n_0 c_0 : Nat} {r : List Int} (H : laws_toIntS p0 = some r) (HS : St w M0 [] w) (g0 : (eList (eVal (Value.int .i64) (fun _ => rfl)) 3).rd w M0 p0 [.slice a_0 n_0 c_0]) :
    Calls Try.prog 60 #[.slice a_0 n_0 c_0] w (fun en w' => ∃ v, en = .returned v ∧ ∃ (a0 : Option Addr), ∃ (n0 : Nat), ∃ (c0 : Nat), ∃ (F0 : List Nat), v = .slice a0 n0 c0 ∧ St w M0 [Res.own (eList (eVal (Value.int .i64) (fun _ => rfl)) 3) F0 r [.slice a0 n0 c0]] w') := by
  obtain rfl := rd_n g0
  unfold laws_toIntS at H
  refine f_enter (vs := [.slice a_0 p0.length c_0]) Try.func60 rfl Try.ntmps60 rfl (HS) ?_
  refine c_seq ?_
  refine c_reg ?_
  refine ow_batch [.p] rfl ?_
  refine ow_nil ?_
  refine x_qs ?_
  refine c_seq ?_
  refine c_reg ?_
  refine ow_batch [.p, .lenS 22 3 sl22] rfl ?_
  obtain ⟨l1, h2, H⟩ := of_bind H
  refine ow_make (e := eVal (Value.int .i64) (fun _ => rfl)) (zero := (0 : Int)) rfl rfl rfl rfl rfl rfl sl22 ty3 rfl rfl rfl rfl (fun _ => ⟨rfl, rfl⟩) h2 (fun _ => kp) (fun b3 => ?_)
  refine ow_batch [.p] rfl ?_
  refine ow_nil ?_
  refine x_qs ?_
  refine c_seq ?_
  refine c_seq ?_
  refine c_reg ?_
  refine ow_batch [.p] rfl ?_
  refine ow_nil ?_
  refine x_qs ?_
  refine c_block ?_
  refine CW.at (loopI2 (fun (l10 : List Int) (i11 : Int) => St w M0 [Res.own (eList (eVal (Value.int .i64) (fun _ => rfl)) 3) [b3] l10 [.slice (some ⟨b3, 0, none⟩) l1.length l1.length]]) (fun (l10 : List Int) (i11 : Int) => [(0, .slice a_0 p0.length c_0), (3, .slice (some ⟨b3, 0, none⟩) l1.length l1.length), (4, .int .i64 i11)]) (fun kk => fun (l10 : List Int) (i11 : Int) => laws_toIntS_L1 p0 kk l10 i11 = some r) (fun _ _ H => ?_) (fun k1 ihk1 l10 i11 H => ?_) Fuel (l1) (0) (H)) (fun _ h => St.sel [0] rfl rfl h) ⟨rfl, rfl, rfl,  trivial⟩
  · unfold laws_toIntS_L1 at H
    exact absurd H (by simp)
  · unfold laws_toIntS_L1 at H
    refine c_seq ?_
    refine c_seq ?_
    refine c_reg ?_
    refine ow_batch [.p, .p, .lenS 22 3 sl22, .p] rfl ?_
    refine ow_nil ?_
    refine x_qs ?_
    refine c_if rfl (fun hb => ?_) (fun hb => ?_)
    · have H := of_if_t hb H
      refine c_skip ?_
      refine x_qs ?_
      refine c_seq ?_
      refine c_block ?_
      refine c_reg ?_
      refine ow_batch [.p, .p, .p, .p] rfl ?_
      obtain ⟨e18, h19, H⟩ := of_bind H
      refine ow_ixE (e := eVal (Value.int .i64) (fun _ => rfl)) (xs := p0) (j := i11) rfl rfl rfl rfl rfl sl22 ty3 rfl (fun w1 hw1 => rds_bor g0 w1 hw1) h19 (by rw [Nat.mul_one]) ?_
      refine ow_r rfl (dstOk_lt rfl) (ry_load1 rfl rfl ty3 (at_elV (fun w1 hw1 => rds_bor g0 w1 hw1) h19)) ?_
      obtain ⟨e20, h21, H⟩ := of_bind H
      refine ow_ixE (e := eVal (Value.int .i64) (fun _ => rfl)) (xs := l10) (j := i11) rfl rfl rfl rfl rfl sl22 ty3 rfl (fun w1 hw1 => rds_own (r := 0) rfl w1 hw1) h21 (by rw [Nat.mul_one]) ?_
      refine ow_storeV (i := 0) (j := i11) rfl rfl rfl rfl rfl rfl ty3 rfl h21 (fun _ => rfl) kp ?_
      refine ow_nil ?_
      refine x_qb ?_
      refine x_qs ?_
      refine c_reg ?_
      refine ow_batch [.p, .p, .p] rfl ?_
      refine ow_nil ?_
      exact x_ql (RW.at (ihk1 ((l10.set i11.toNat e18)) (IntKind.i64.wrap (i11 + 1)) (H)) (fun _ h => St.sel [0] rfl rfl h) ⟨rfl, rfl, rfl, trivial⟩)
    · have H := of_if_f hb H
      refine c_exit ?_
      refine x_qs_exit ?_
      refine x_ql_exit ?_
      refine x_qb_here ?_
      refine x_qs ?_
      refine c_seq ?_
      refine c_reg ?_
      refine ow_batch [.p, .p] rfl ?_
      refine ow_nil ?_
      refine x_qs ?_
      refine c_ret ?_
      exact x_retR (rs := [.tmp 2]) (vs := [.slice (some ⟨b3, 0, none⟩) l1.length l1.length]) rfl ⟨rfl, trivial⟩ (fun w' hw' => by
          obtain rfl := of_some H
          exact ⟨_, rfl, (some ⟨b3, 0, none⟩), l1.length, l1.length, [b3], rfl, hw'.sel [0] rfl rfl⟩)

set_option maxHeartbeats 4000000 in
set_option maxRecDepth 100000 in
theorem laws_toStringS_ok (w : World) {M0 : List Nat} {p0 : List (List UInt8)} {a_0 : Option Addr} {n_0 c_0 : Nat} {r : List (List UInt8)} (H : laws_toStringS p0 = some r) (HS : St w M0 [] w) (g0 : (eList (eStr) 9).rd w M0 p0 [.slice a_0 n_0 c_0]) :
    Calls Try.prog 61 #[.slice a_0 n_0 c_0] w (fun en w' => ∃ v, en = .returned v ∧ ∃ (a0 : Option Addr), ∃ (n0 : Nat), ∃ (c0 : Nat), ∃ (F0 : List Nat), v = .slice a0 n0 c0 ∧ St w M0 [Res.own (eList (eStr) 9) F0 r [.slice a0 n0 c0]] w') := by
  obtain rfl := rd_n g0
  unfold laws_toStringS at H
  refine f_enter (vs := [.slice a_0 p0.length c_0]) Try.func61 rfl Try.ntmps61 rfl (HS) ?_
  refine c_seq ?_
  refine c_reg ?_
  refine ow_batch [.p] rfl ?_
  refine ow_nil ?_
  refine x_qs ?_
  refine c_seq ?_
  refine c_reg ?_
  refine ow_batch [.p, .lenS 23 9 sl23] rfl ?_
  obtain ⟨l1, h2, H⟩ := of_bind H
  refine ow_make (e := eStr) (zero := ([] : List UInt8)) rfl rfl rfl rfl rfl rfl sl23 ty9 rfl rfl rfl rfl (fun _ => ⟨rfl, rfl⟩) h2 (fun _ => kp) (fun b3 => ?_)
  refine ow_batch [.p] rfl ?_
  refine ow_nil ?_
  refine x_qs ?_
  refine c_seq ?_
  refine c_seq ?_
  refine c_reg ?_
  refine ow_batch [.p] rfl ?_
  refine ow_nil ?_
  refine x_qs ?_
  refine c_block ?_
  refine CW.at (loopI2 (fun (l10 : List (List UInt8)) (i11 : Int) => St w M0 [Res.own (eList (eStr) 9) [b3] l10 [.slice (some ⟨b3, 0, none⟩) l1.length l1.length]]) (fun (l10 : List (List UInt8)) (i11 : Int) => [(0, .slice a_0 p0.length c_0), (3, .slice (some ⟨b3, 0, none⟩) l1.length l1.length), (4, .int .i64 i11)]) (fun kk => fun (l10 : List (List UInt8)) (i11 : Int) => laws_toStringS_L1 p0 kk l10 i11 = some r) (fun _ _ H => ?_) (fun k1 ihk1 l10 i11 H => ?_) Fuel (l1) (0) (H)) (fun _ h => St.sel [0] rfl rfl h) ⟨rfl, rfl, rfl,  trivial⟩
  · unfold laws_toStringS_L1 at H
    exact absurd H (by simp)
  · unfold laws_toStringS_L1 at H
    refine c_seq ?_
    refine c_seq ?_
    refine c_reg ?_
    refine ow_batch [.p, .p, .lenS 23 9 sl23, .p] rfl ?_
    refine ow_nil ?_
    refine x_qs ?_
    refine c_if rfl (fun hb => ?_) (fun hb => ?_)
    · have H := of_if_t hb H
      refine c_skip ?_
      refine x_qs ?_
      refine c_seq ?_
      refine c_block ?_
      refine c_reg ?_
      refine ow_batch [.p, .p, .p, .p] rfl ?_
      obtain ⟨e18, h19, H⟩ := of_bind H
      refine ow_ixE (e := eStr) (xs := p0) (j := i11) rfl rfl rfl rfl rfl sl23 ty9 rfl (fun w1 hw1 => rds_bor g0 w1 hw1) h19 (by rw [Nat.mul_one]) ?_
      refine ow_r rfl (dstOk_lt rfl) (ry_load1 rfl rfl ty9 (at_elV (fun w1 hw1 => rds_bor g0 w1 hw1) h19)) ?_
      obtain ⟨e20, h21, H⟩ := of_bind H
      refine ow_ixE (e := eStr) (xs := l10) (j := i11) rfl rfl rfl rfl rfl sl23 ty9 rfl (fun w1 hw1 => rds_own (r := 0) rfl w1 hw1) h21 (by rw [Nat.mul_one]) ?_
      refine ow_storeV (i := 0) (j := i11) rfl rfl rfl rfl rfl rfl ty9 rfl h21 (fun _ => rfl) kp ?_
      refine ow_nil ?_
      refine x_qb ?_
      refine x_qs ?_
      refine c_reg ?_
      refine ow_batch [.p, .p, .p] rfl ?_
      refine ow_nil ?_
      exact x_ql (RW.at (ihk1 ((l10.set i11.toNat e18)) (IntKind.i64.wrap (i11 + 1)) (H)) (fun _ h => St.sel [0] rfl rfl h) ⟨rfl, rfl, rfl, trivial⟩)
    · have H := of_if_f hb H
      refine c_exit ?_
      refine x_qs_exit ?_
      refine x_ql_exit ?_
      refine x_qb_here ?_
      refine x_qs ?_
      refine c_seq ?_
      refine c_reg ?_
      refine ow_batch [.p, .p] rfl ?_
      refine ow_nil ?_
      refine x_qs ?_
      refine c_ret ?_
      exact x_retR (rs := [.tmp 2]) (vs := [.slice (some ⟨b3, 0, none⟩) l1.length l1.length]) rfl ⟨rfl, trivial⟩ (fun w' hw' => by
          obtain rfl := of_some H
          exact ⟨_, rfl, (some ⟨b3, 0, none⟩), l1.length, l1.length, [b3], rfl, hw'.sel [0] rfl rfl⟩)

set_option maxHeartbeats 4000000 in
set_option maxRecDepth 100000 in
theorem laws_toAttr_ok (w : World) {M0 : List Nat} {p0 : Tlaws_Attr} {cs0 : List Value} {r : Timpl_Attr} (H : laws_toAttr p0 = some r) (HS : St w M0 [] w) (g0 : (eTlaws_Attr).rd w M0 p0 cs0) :
    Calls Try.prog 13 #[.agg cs0.toArray] w (fun en w' => ∃ v, en = .returned v ∧ ∃ (a0 : Option Addr), ∃ (n0 : Nat), ∃ (c0 : Nat), ∃ (F0 : List Nat), ∃ (a1 : Option Addr), ∃ (n1 : Nat), ∃ (c1 : Nat), ∃ (F1 : List Nat), v = .agg #[vS r.Name_, .slice a0 n0 c0, .slice a1 n1 c1] ∧ St w M0 [Res.own (eList (eVal (Value.int .i64) (fun _ => rfl)) 3) F0 r.Cuts_ [.slice a0 n0 c0], Res.own (eList (eStr) 9) F1 r.Values_ [.slice a1 n1 c1]] w') := by
  obtain ⟨c1, c2, c3, rfl, g4, g5, g6⟩ := rdo_Tlaws_Attr g0
  obtain rfl : c1 = [vS p0.Name_] := g4
  obtain ⟨a7, c8, rfl⟩ := rd_sl1 g5
  obtain ⟨a9, c10, rfl⟩ := rd_sl1 g6
  unfold laws_toAttr at H
  refine f_enter (vs := [.agg #[vS p0.Name_, .slice a7 p0.Cuts_.length c8, .slice a9 p0.Values_.length c10]]) Try.func13 rfl Try.ntmps13 rfl (HS) ?_
  refine c_seq ?_
  refine c_reg ?_
  refine ow_box (cs := [vS p0.Name_, .slice a7 p0.Cuts_.length c8, .slice a9 p0.Values_.length c10]) rfl rfl rfl rfl rfl rfl (fun _ => kp) (fun b11 => ?_)
  refine ow_alloc rfl rfl rfl rfl ty28 (fun _ => kp) (fun b12 => ?_)
  refine ow_nil ?_
  refine x_qs ?_
  refine c_seq ?_
  refine c_reg ?_
  refine ow_alloc rfl rfl rfl rfl ty28 (fun _ => kp) (fun b13 => ?_)
  refine ow_nil ?_
  refine x_qs ?_
  refine c_seq ?_
  refine c_reg ?_
  refine ow_batch [.fa 25 0 0 fa25_0] rfl ?_
  refine ow_r rfl (dstOk_lt rfl) (ry_box1 (off := 0) rfl rfl ty9 (boxIn (i := 0) rfl) rfl) ?_
  refine ow_batch [.fa 28 0 0 fa28_0] rfl ?_
  refine ow_storeC (off := 0) [vS p0.Name_] [_, _, _] (i := 2) rfl rfl rfl rfl rfl rfl ty9 rfl rfl (by intro u hu; simp only [List.mem_cons, List.not_mem_nil, or_false] at hu; rcases hu with rfl <;> rfl) rfl rfl rfl kp ?_
  refine ow_nil ?_
  refine x_qs ?_
  refine c_seq ?_
  refine c_reg ?_
  refine ow_batch [.fa 25 1 1 fa25_1] rfl ?_
  refine ow_r rfl (dstOk_lt rfl) (ry_box1 (off := 1) rfl rfl ty22 (boxIn (i := 0) rfl) rfl) ?_
  obtain ⟨y14, h15, H⟩ := of_bind H
  refine ow_callS rfl fn60 rfl rfl rfl rfl (fun w1 hw1 => laws_toIntS_ok w1  h15 (hw1.carve [] rfl rfl) (rds_bor g5 w1 hw1)) (fun v16 w1 w2 hw1 hR18 => ?_)
  obtain ⟨a19, n20, c21, F22, rfl, hS17⟩ := hR18
  obtain rfl := own_nS (i := 0) hS17 rfl
  refine ⟨St w M0 [_, _, _, _], hw1.comp [] rfl rfl hS17, fun _ _ => trivial, ?_⟩
  refine ow_batch [.fa 28 1 1 fa28_1] rfl ?_
  refine ow_storeC (off := 1) [.slice a19 y14.length c21] [_, _, _] (i := 2) rfl rfl rfl rfl rfl rfl ty22 rfl rfl (by intro u hu; simp only [List.mem_cons, List.not_mem_nil, or_false] at hu; rcases hu with rfl <;> rfl) rfl rfl rfl kp ?_
  refine ow_nil ?_
  refine x_qs ?_
  refine c_seq ?_
  refine c_reg ?_
  refine ow_batch [.fa 25 2 2 fa25_2] rfl ?_
  refine ow_r rfl (dstOk_lt rfl) (ry_box1 (off := 2) rfl rfl ty23 (boxIn (i := 0) rfl) rfl) ?_
  obtain ⟨y23, h24, H⟩ := of_bind H
  refine ow_callS rfl fn61 rfl rfl rfl rfl (fun w1 hw1 => laws_toStringS_ok w1  h24 (hw1.carve [] rfl rfl) (rds_bor g6 w1 hw1)) (fun v25 w1 w2 hw1 hR27 => ?_)
  obtain ⟨a28, n29, c30, F31, rfl, hS26⟩ := hR27
  obtain rfl := own_nS (i := 0) hS26 rfl
  refine ⟨St w M0 [_, _, _, _, _], hw1.comp [] rfl rfl hS26, fun _ _ => trivial, ?_⟩
  refine ow_batch [.fa 28 2 2 fa28_2] rfl ?_
  refine ow_storeC (off := 2) [.slice a28 y23.length c30] [_, _, _] (i := 2) rfl rfl rfl rfl rfl rfl ty23 rfl rfl (by intro u hu; simp only [List.mem_cons, List.not_mem_nil, or_false] at hu; rcases hu with rfl <;> rfl) rfl rfl rfl kp ?_
  refine ow_nil ?_
  refine x_qs ?_
  refine c_seq ?_
  refine c_reg ?_
  refine ow_r rfl (dstOk_lt rfl) (ry_box (off := 0) (ds := [vS p0.Name_, .slice a19 y14.length c21, .slice a28 y23.length c30]) rfl rfl ty28 (boxIn (i := 2) rfl) rfl rfl) ?_
  refine ow_storeC (off := 0) [vS p0.Name_, .slice a19 y14.length c21, .slice a28 y23.length c30] [_, _, _] (i := 1) rfl rfl rfl rfl rfl rfl ty28 rfl rfl (by intro u hu; simp only [List.mem_cons, List.not_mem_nil, or_false] at hu; rcases hu with rfl | rfl | rfl <;> rfl) rfl rfl rfl kp ?_
  refine ow_nil ?_
  refine x_qs ?_
  refine c_ret ?_
  exact x_retR (rs := [.cell 2 28]) (vs := [.agg #[vS p0.Name_, .slice a19 y14.length c21, .slice a28 y23.length c30]]) rfl ⟨⟨_, [vS p0.Name_, .slice a19 y14.length c21, .slice a28 y23.length c30], _, _, _, rfl, ty28, (at_box (T := 28) 0 (boxIn (i := 1) rfl) rfl), rfl, rfl⟩, trivial⟩ (fun w' hw' => by
      obtain rfl := of_some H
      exact ⟨_, rfl, a19, y14.length, c21, F22, a28, y23.length, c30, F31, rfl, hw'.sel [3, 4] rfl rfl⟩)

set_option maxHeartbeats 4000000 in
set_option maxRecDepth 100000 in
theorem laws_toAttrS_ok (w : World) {M0 : List Nat} {p0 : List Tlaws_Attr} {a_0 : Option Addr} {n_0 c_0 : Nat} {r : List Timpl_Attr} (H : laws_toAttrS p0 = some r) (HS : St w M0 [] w) (g0 : (eList (eTlaws_Attr) 25).rd w M0 p0 [.slice a_0 n_0 c_0]) :
    Calls Try.prog 68 #[.slice a_0 n_0 c_0] w (fun en w' => ∃ v, en = .returned v ∧ ∃ (a0 : Option Addr), ∃ (n0 : Nat), ∃ (c0 : Nat), ∃ (F0 : List Nat), v = .slice a0 n0 c0 ∧ St w M0 [Res.own (eList (eTimpl_Attr) 28) F0 r [.slice a0 n0 c0]] w') := by
  obtain rfl := rd_n g0
  unfold laws_toAttrS at H
  refine f_enter (vs := [.slice a_0 p0.length c_0]) Try.func68 rfl Try.ntmps68 rfl (HS) ?_
  refine c_seq ?_
  refine c_reg ?_
  refine ow_batch [.p] rfl ?_
  refine ow_nil ?_
  refine x_qs ?_
  refine c_seq ?_
  refine c_reg ?_
  refine ow_batch [.p, .lenS 32 25 sl32] rfl ?_
  obtain ⟨l1, h2, H⟩ := of_bind H
  refine ow_make (e := eTimpl_Attr) (zero := ((Timpl_Attr.mk [] [] []) : Timpl_Attr)) rfl rfl rfl rfl rfl rfl sl37 ty28 rfl rfl rfl rfl (fun _ => (ownm_Timpl_Attr (x := (Timpl_Attr.mk [] [] [])) (⟨rfl, rfl⟩ : (eStr).own _ [] ([] : List UInt8) _) ((.inl ⟨rfl, rfl, rfl⟩) : (eList (eVal (Value.int .i64) (fun _ => rfl)) 3).own _ [] ([] : List Int) _) ((.inl ⟨rfl, rfl, rfl⟩) : (eList (eStr) 9).own _ [] ([] : List (List UInt8)) _))) h2 (fun _ => kp) (fun b3 => ?_)
  refine ow_batch [.p] rfl ?_
  refine ow_nil ?_
  refine x_qs ?_
  refine c_seq ?_
  refine c_seq ?_
  refine c_reg ?_
  refine ow_batch [.p] rfl ?_
  refine ow_nil ?_
  refine x_qs ?_
  refine c_block ?_
  refine CW.at (loopI3 (fun (l54 : List Timpl_Attr) (F55 : List Nat) (i56 : Int) => St w M0 [Res.own (eList (eTimpl_Attr) 28) F55 l54 [.slice (some ⟨b3, 0, none⟩) l1.length l1.length]]) (fun (l54 : List Timpl_Attr) (F55 : List Nat) (i56 : Int) => [(0, .slice a_0 p0.length c_0), (3, .slice (some ⟨b3, 0, none⟩) l1.length l1.length), (4, .int .i64 i56)]) (fun kk => fun (l54 : List Timpl_Attr) (F55 : List Nat) (i56 : Int) => laws_toAttrS_L1 p0 kk l54 i56 = some r) (fun _ _ _ H => ?_) (fun k1 ihk1 l54 F55 i56 H => ?_) Fuel (l1) ([b3]) (0) (H)) (fun _ h => St.sel [0] rfl rfl h) ⟨rfl, rfl, rfl,  trivial⟩
  · unfold laws_toAttrS_L1 at H
    exact absurd H (by simp)
  · unfold laws_toAttrS_L1 at H
    refine c_seq ?_
    refine c_seq ?_
    refine c_reg ?_
    refine ow_batch [.p, .p, .lenS 32 25 sl32, .p] rfl ?_
    refine ow_nil ?_
    refine x_qs ?_
    refine c_if rfl (fun hb => ?_) (fun hb => ?_)
    · have H := of_if_t hb H
      refine c_skip ?_
      refine x_qs ?_
      refine c_seq ?_
      refine c_block ?_
      refine c_reg ?_
      refine ow_batch [.p, .p, .p, .p] rfl ?_
      obtain ⟨e107, h108, H⟩ := of_bind H
      refine ow_ixB rfl rfl rfl rfl rfl sl32 ty25 rfl g0 h108 (fun q111 c112 hd109 hA110 => ?_)
      obtain ⟨c113, c114, c115, rfl, g116, g117, g118⟩ := rdo_Tlaws_Attr hd109
      obtain rfl : c113 = [vS e107.Name_] := g116
      obtain ⟨a119, c120, rfl⟩ := rd_sl1 g117
      obtain ⟨a121, c122, rfl⟩ := rd_sl1 g118
      refine ow_r rfl (dstOk_lt rfl) (ry_load (cs := [vS e107.Name_, .slice a119 e107.Cuts_.length c120, .slice a121 e107.Values_.length c122]) rfl rfl ty25 (at_bor bor hA110) rfl) ?_
      obtain ⟨y123, h124, H⟩ := of_bind H
      refine ow_callS rfl fn13 rfl rfl rfl rfl (fun w1 hw1 => laws_toAttr_ok w1 (cs0 := [vS e107.Name_, .slice a119 e107.Cuts_.length c120, .slice a121 e107.Values_.length c122]) h124 (hw1.carve [] rfl rfl) (rdm_Tlaws_Attr (x := e107) (c0 := [vS e107.Name_]) (c1 := [.slice a119 e107.Cuts_.length c120]) (c2 := [.slice a121 e107.Values_.length c122]) rfl (rds_bor g117 w1 hw1) (rds_bor g118 w1 hw1))) (fun v125 w1 w2 hw1 hR127 => ?_)
      obtain ⟨a128, n129, c130, F131, a132, n133, c134, F135, rfl, hS126⟩ := hR127
      obtain rfl := own_nS (i := 0) hS126 rfl
      obtain rfl := own_nS (i := 1) hS126 rfl
      refine ⟨St w M0 [_, _, _], hw1.comp [] rfl rfl hS126, fun _ _ => trivial, ?_⟩
      obtain ⟨e136, h137, H⟩ := of_bind H
      refine ow_ex4 rfl (fun w1 hw1 => foc (r := 0) hw1 rfl h137) (fun b139 G140 F141 c142 => ?_)
      refine ow_fact rfl (fun w1 hw1 => hw1.1) (fun q138 => ?_)
      obtain ⟨ha143, hn144⟩ := q138
      refine ow_st (C' := St w M0 [_, _, _, _, _]) rfl (fun w1 hw1 => hw1.2) ?_
      refine ow_ex3 rfl (fun w1 hw1 => opn_Timpl_Attr (i := 4) hw1 rfl) (fun a146 c147 F148 => ?_)
      refine ow_ex3 rfl (fun _ h => h) (fun a149 c150 F151 => ?_)
      refine ow_fact rfl (fun w1 hw1 => hw1.1) (fun q145 => ?_)
      subst q145
      refine ow_st (C' := St w M0 [_, _, _, _, _, _, _]) rfl (fun w1 hw1 => hw1.2) ?_
      refine ow_ixH rfl rfl rfl rfl rfl sl37 ty28 rfl (holeIn (p := 3) rfl) hn144 ha143 (idx_some h137).1 ?_
      refine ow_storeH (off := 0) [vS y123.Name_, .slice a128 y123.Cuts_.length c130, .slice a132 y123.Values_.length c134] (p := 3) (c' := [_, _, _]) rfl rfl rfl rfl rfl (by first | rfl | simp only [add_lit, add_add, add_zero]) rfl ty28 rfl rfl (by intro u hu; simp only [List.mem_cons, List.not_mem_nil, or_false] at hu; rcases hu with rfl | rfl | rfl <;> rfl) rfl rfl rfl kp ?_
      refine ow_nil ?_
      refine x_qb ?_
      refine x_qs ?_
      refine CW.weak (C' := St w M0 [_, _, _, _, _]) ?_ (fun _ h => St.sel [1, 2, 3, 5, 6] rfl rfl h)
      refine c_reg ?_
      refine ow_batch [.p, .p, .p] rfl ?_
      refine ow_nil ?_
      refine xw_ex (fun w1 hw1 => fus_Timpl_Attr (x0 := y123.Name_) [0, 1] hw1 rfl rfl) (fun F152 => ?_)
      refine xw_st (C' := St w M0 [_, _, _, _, _, _]) (fun _ h => h) ?_
      refine xw_ex (fun w1 hw1 => unf (p := 2) (q := 5) hw1 rfl rfl rfl hn144 ha143) (fun F153 => ?_)
      refine xw_st (C' := St w M0 [_, _, _, _, _, _, _]) (fun _ h => h) ?_
      exact x_ql (RW.at (ihk1 ((l54.set i56.toNat y123)) (F153) (IntKind.i64.wrap (i56 + 1)) (H)) (fun _ h => St.sel [6] rfl rfl h) ⟨rfl, rfl, rfl, trivial⟩)
    · have H := of_if_f hb H
      refine c_exit ?_
      refine x_qs_exit ?_
      refine x_ql_exit ?_
      refine x_qb_here ?_
      refine x_qs ?_
      refine c_seq ?_
      refine c_reg ?_
      refine ow_batch [.p, .p] rfl ?_
      refine ow_nil ?_
      refine x_qs ?_
      refine c_ret ?_
      exact x_retR (rs := [.tmp 2]) (vs := [.slice (some ⟨b3, 0, none⟩) l1.length l1.length]) rfl ⟨rfl, trivial⟩ (fun w' hw' => by
          obtain rfl := of_some H
          exact ⟨_, rfl, (some ⟨b3, 0, none⟩), l1.length, l1.length, F55, rfl, hw'.sel [0] rfl rfl⟩)

set_option maxHeartbeats 4000000 in
set_option maxRecDepth 100000 in
theorem laws_toSchema_ok (w : World) {M0 : List Nat} {p0 : Tlaws_Schema} {cs0 : List Value} {r : Timpl_Schema} (H : laws_toSchema p0 = some r) (HS : St w M0 [] w) (g0 : (eTlaws_Schema).rd w M0 p0 cs0) :
    Calls Try.prog 18 #[.agg cs0.toArray] w (fun en w' => ∃ v, en = .returned v ∧ ∃ (a0 : Option Addr), ∃ (n0 : Nat), ∃ (c0 : Nat), ∃ (F0 : List Nat), ∃ (a1 : Option Addr), ∃ (n1 : Nat), ∃ (c1 : Nat), ∃ (F1 : List Nat), v = .agg #[.slice a0 n0 c0, .slice a1 n1 c1] ∧ St w M0 [Res.own (eList (eTimpl_Attr) 28) F0 r.Attrs_ [.slice a0 n0 c0], Res.own (eList (eStr) 9) F1 r.Classes_ [.slice a1 n1 c1]] w') := by
  obtain ⟨c1, c2, rfl, g3, g4⟩ := rdo_Tlaws_Schema g0
  obtain ⟨a5, c6, rfl⟩ := rd_sl1 g3
  obtain ⟨a7, c8, rfl⟩ := rd_sl1 g4
  unfold laws_toSchema at H
  refine f_enter (vs := [.agg #[.slice a5 p0.Attrs_.length c6, .slice a7 p0.Classes_.length c8]]) Try.func18 rfl Try.ntmps18 rfl (HS) ?_
  refine c_seq ?_
  refine c_reg ?_
  refine ow_box (cs := [.slice a5 p0.Attrs_.length c6, .slice a7 p0.Classes_.length c8]) rfl rfl rfl rfl rfl rfl (fun _ => kp) (fun b9 => ?_)
  refine ow_alloc rfl rfl rfl rfl ty39 (fun _ => kp) (fun b10 => ?_)
  refine ow_nil ?_
  refine x_qs ?_
  refine c_seq ?_
  refine c_reg ?_
  refine ow_alloc rfl rfl rfl rfl ty39 (fun _ => kp) (fun b11 => ?_)
  refine ow_nil ?_
  refine x_qs ?_
  refine c_seq ?_
  refine c_reg ?_
  refine ow_batch [.fa 34 0 0 fa34_0] rfl ?_
  refine ow_r rfl (dstOk_lt rfl) (ry_box1 (off := 0) rfl rfl ty32 (boxIn (i := 0) rfl) rfl) ?_
  obtain ⟨y12, h13, H⟩ := of_bind H
  refine ow_callS rfl fn68 rfl rfl rfl rfl (fun w1 hw1 => laws_toAttrS_ok w1  h13 (hw1.carve [] rfl rfl) (rds_bor g3 w1 hw1)) (fun v14 w1 w2 hw1 hR16 => ?_)
  obtain ⟨a17, n18, c19, F20, rfl, hS15⟩ := hR16
  obtain rfl := own_nS (i := 0) hS15 rfl
  refine ⟨St w M0 [_, _, _, _], hw1.comp [] rfl rfl hS15, fun _ _ => trivial, ?_⟩
  refine ow_batch [.fa 39 0 0 fa39_0] rfl ?_
  refine ow_storeC (off := 0) [.slice a17 y12.length c19] [_, _] (i := 2) rfl rfl rfl rfl rfl rfl ty37 rfl rfl (by intro u hu; simp only [List.mem_cons, List.not_mem_nil, or_false] at hu; rcases hu with rfl <;> rfl) rfl rfl rfl kp ?_
  refine ow_nil ?_
  refine x_qs ?_
  refine c_seq ?_
  refine c_reg ?_
  refine ow_batch [.fa 34 1 1 fa34_1] rfl ?_
  refine ow_r rfl (dstOk_lt rfl) (ry_box1 (off := 1) rfl rfl ty23 (boxIn (i := 0) rfl) rfl) ?_
  obtain ⟨y21, h22, H⟩ := of_bind H
  refine ow_callS rfl fn61 rfl rfl rfl rfl (fun w1 hw1 => laws_toStringS_ok w1  h22 (hw1.carve [] rfl rfl) (rds_bor g4 w1 hw1)) (fun v23 w1 w2 hw1 hR25 => ?_)
  obtain ⟨a26, n27, c28, F29, rfl, hS24⟩ := hR25
  obtain rfl := own_nS (i := 0) hS24 rfl
  refine ⟨St w M0 [_, _, _, _, _], hw1.comp [] rfl rfl hS24, fun _ _ => trivial, ?_⟩
  refine ow_batch [.fa 39 1 1 fa39_1] rfl ?_
  refine ow_storeC (off := 1) [.slice a26 y21.length c28] [_, _] (i := 2) rfl rfl rfl rfl rfl rfl ty23 rfl rfl (by intro u hu; simp only [List.mem_cons, List.not_mem_nil, or_false] at hu; rcases hu with rfl <;> rfl) rfl rfl rfl kp ?_
  refine ow_nil ?_
  refine x_qs ?_
  refine c_seq ?_
  refine c_reg ?_
  refine ow_r rfl (dstOk_lt rfl) (ry_box (off := 0) (ds := [.slice a17 y12.length c19, .slice a26 y21.length c28]) rfl rfl ty39 (boxIn (i := 2) rfl) rfl rfl) ?_
  refine ow_storeC (off := 0) [.slice a17 y12.length c19, .slice a26 y21.length c28] [_, _] (i := 1) rfl rfl rfl rfl rfl rfl ty39 rfl rfl (by intro u hu; simp only [List.mem_cons, List.not_mem_nil, or_false] at hu; rcases hu with rfl | rfl <;> rfl) rfl rfl rfl kp ?_
  refine ow_nil ?_
  refine x_qs ?_
  refine c_ret ?_
  exact x_retR (rs := [.cell 2 39]) (vs := [.agg #[.slice a17 y12.length c19, .slice a26 y21.length c28]]) rfl ⟨⟨_, [.slice a17 y12.length c19, .slice a26 y21.length c28], _, _, _, rfl, ty39, (at_box (T := 39) 0 (boxIn (i := 1) rfl) rfl), rfl, rfl⟩, trivial⟩ (fun w' hw' => by
      obtain rfl := of_some H
      exact ⟨_, rfl, a17, y12.length, c19, F20, a26, y21.length, c28, F29, rfl, hw'.sel [3, 4] rfl rfl⟩)

set_option maxHeartbeats 4000000 in
set_option maxRecDepth 100000 in
theorem spec_l1In_ok (w : World) {p0 : Int} {p1 : Int} {p2 : Int}  {r : Bool} (H : spec_l1In p0 p1 p2 = some r)   :
    Calls Try.prog 71 #[.int .i64 p0, .int .i64 p1, .int .i64 p2] w (fun en w' => en = .returned (.bool r) ∧ Ext [] w w') := by
  unfold spec_l1In at H
  refine f_enter (vs := [.int .i64 p0, .int .i64 p1, .int .i64 p2]) Try.func71 rfl Try.ntmps71 rfl (St.init w []) ?_
  refine c_seq ?_
  refine c_reg ?_
  refine ow_batch [.p] rfl ?_
  refine ow_nil ?_
  refine x_qs ?_
  refine c_seq ?_
  refine c_reg ?_
  refine ow_batch [.p, .p, .p, .p] rfl ?_
  refine ow_cut [(14, .bool ((decide (p0 ≥ p1)) && (decide (p0 ≤ p2)))), (6, .bool false)] 4 ?_ (fun key => OW.sub (R := [(0, .int .i64 p0), (2, .int .i64 p2), (6, .bool false), (10, .bool (decide (p0 ≥ p1)))]) ?_ ⟨rfl, rfl, rfl, rfl, trivial⟩)
  · refine ow_batch [.p] rfl ?_
    refine ow_nil ?_
    refine x_qs ?_
    refine c_ret ?_
    exact x_retR (rs := [.tmp 6]) (vs := [.bool ((decide (p0 ≥ p1)) && (decide (p0 ≤ p2)))]) rfl ⟨rfl, trivial⟩ (fun w' hw' => by
        obtain rfl := of_some H
        exact ⟨rfl, hw'.ext⟩)
  · generalize (decide (p0 ≥ p1)) = t2 at key ⊢
    cases t2
    · refine ow_batch [.p, .p, .p, .p] rfl ?_
      exact OW.sub key ⟨rfl, rfl, trivial⟩
    · refine ow_batch [.p, .p, .p] rfl ?_
      refine ow_batch [.p] rfl ?_
      exact OW.sub key ⟨rfl, rfl, trivial⟩

set_option maxHeartbeats 4000000 in
set_option maxRecDepth 100000 in
theorem spec_WordOk_ok (w : World) {p0 : List UInt8}  {r : Bool} (H : spec_WordOk p0 = some r)   :
    Calls Try.prog 104 #[vS p0] w (fun en w' => en = .returned (.bool r) ∧ Ext [] w w') := by
  unfold spec_WordOk at H
  refine f_enter (vs := [vS p0]) Try.func104 rfl Try.ntmps104 rfl (St.init w []) ?_
  refine c_seq ?_
  refine c_reg ?_
  refine ow_batch [.p] rfl ?_
  refine ow_nil ?_
  refine x_qs ?_
  refine c_seq ?_
  refine c_seq ?_
  refine c_reg ?_
  refine ow_batch [.p, .lenT 9 st9] rfl ?_
  obtain ⟨y1, h2, H⟩ := of_bind H
  refine ow_q rfl rfl (dstOk_lt rfl) (qy_call rfl fn71 rfl (fun w1 hw1 => spec_l1In_ok w1  h2)) (fun _ _ => trivial) ?_
  refine ow_batch [.p] rfl ?_
  refine ow_nil ?_
  refine x_qs ?_
  refine c_if rfl (fun hb => ?_) (fun hb => ?_)
  · have H := of_if_t hb H
    refine c_seq ?_
    refine c_reg ?_
    refine ow_batch [.p] rfl ?_
    refine ow_nil ?_
    refine x_qs ?_
    refine c_ret ?_
    refine x_qs_ret ?_
    exact x_retR (rs := [.tmp 2]) (vs := [.bool false]) rfl ⟨rfl, trivial⟩ (fun w' hw' => by
        obtain rfl := of_some H
        exact ⟨rfl, hw'.ext⟩)
  · have H := of_if_f hb H
    refine c_skip ?_
    refine x_qs ?_
    refine c_seq ?_
    refine c_seq ?_
    refine c_reg ?_
    refine ow_batch [.p] rfl ?_
    refine ow_nil ?_
    refine x_qs ?_
    refine c_block ?_
    refine CW.at (loopI1 (fun (i11 : Int) => St w [] []) (fun (i11 : Int) => [(0, vS p0), (3, .int .i64 i11)]) (fun kk => fun (i11 : Int) => spec_WordOk_L1 p0 kk i11 = some r) (fun _ H => ?_) (fun k1 ihk1 i11 H => ?_) Fuel (0) (H)) (fun _ h => St.sel [] rfl rfl h) ⟨rfl, rfl,  trivial⟩
    · unfold spec_WordOk_L1 at H
      exact absurd H (by simp)
    · unfold spec_WordOk_L1 at H
      refine c_seq ?_
      refine c_seq ?_
      refine c_reg ?_
      refine ow_batch [.p, .p, .lenT 9 st9, .p] rfl ?_
      refine ow_nil ?_
      refine x_qs ?_
      refine c_if rfl (fun hb => ?_) (fun hb => ?_)
      · have H := of_if_t hb H
        refine c_skip ?_
        refine x_qs ?_
        refine c_seq ?_
        refine c_block ?_
        refine c_seq ?_
        refine c_reg ?_
        refine ow_batch [.p, .p] rfl ?_
        obtain ⟨b20, h21, H⟩ := of_bind H
        refine ow_r rfl (dstOk_lt rfl) (ry_sidx (s := p0) rfl rfl rfl st9 h21) ?_
        refine ow_batch [.p, .p] rfl ?_
        obtain ⟨u22, hu26, H⟩ := of_bind H
        refine ow_cut [(23, .bool u22), (0, vS p0), (3, .int .i64 i11)] 5 ?_ (fun key => OW.sub (R := [(0, vS p0), (3, .int .i64 i11), (18, .bool (decide ((b20.toNat : Int) < 97)))]) ?_ ⟨rfl, rfl, rfl, trivial⟩)
        · refine ow_nil ?_
          refine x_qs ?_
          refine c_if rfl (fun hb => ?_) (fun hb => ?_)
          · have H := of_if_t hb H
            refine c_seq ?_
            refine c_reg ?_
            refine ow_batch [.p] rfl ?_
            refine ow_nil ?_
            refine x_qs ?_
            refine c_ret ?_
            refine x_qb_ret ?_
            refine x_qs_ret ?_
            refine x_ql_ret ?_
            refine x_qb_ret ?_
            refine x_qs_ret ?_
            exact x_retR (rs := [.tmp 2]) (vs := [.bool false]) rfl ⟨rfl, trivial⟩ (fun w' hw' => by
                obtain rfl := of_some H
                exact ⟨rfl, hw'.ext⟩)
          · have H := of_if_f hb H
            refine c_skip ?_
            refine x_qb ?_
            refine x_qs ?_
            refine c_reg ?_
            refine ow_batch [.p, .p, .p] rfl ?_
            refine ow_nil ?_
            exact x_ql (RW.at (ihk1 (IntKind.i64.wrap (i11 + 1)) (H)) (fun _ h => St.sel [] rfl rfl h) ⟨rfl, rfl, trivial⟩)
        · clear H
          have H := hu26
          clear hu26
          generalize (decide ((b20.toNat : Int) < 97)) = t25 at H ⊢
          cases t25
          · have H := of_if_f rfl H
            refine ow_batch [.p, .p] rfl ?_
            obtain ⟨b23, h24, H⟩ := of_bind H
            refine ow_r rfl (dstOk_lt rfl) (ry_sidx (s := p0) rfl rfl rfl st9 h24) ?_
            refine ow_batch [.p] rfl ?_
            refine ow_batch [.p] rfl ?_
            obtain rfl := of_some H
            exact OW.sub key ⟨rfl, rfl, rfl, trivial⟩
          · have H := of_if_t rfl H
            refine ow_batch [.p, .p, .p, .p, .p] rfl ?_
            obtain rfl := of_some H
            exact OW.sub key ⟨rfl, rfl, rfl, trivial⟩
      · have H := of_if_f hb H
        refine c_exit ?_
        refine x_qs_exit ?_
        refine x_ql_exit ?_
        refine x_qb_here ?_
        refine x_qs ?_
        refine c_seq ?_
        refine c_reg ?_
        refine ow_batch [.p] rfl ?_
        refine ow_nil ?_
        refine x_qs ?_
        refine c_ret ?_
        exact x_retR (rs := [.tmp 2]) (vs := [.bool true]) rfl ⟨rfl, trivial⟩ (fun w' hw' => by
            obtain rfl := of_some H
            exact ⟨rfl, hw'.ext⟩)

set_option maxHeartbeats 4000000 in
set_option maxRecDepth 100000 in
theorem spec_l5Words_ok (w : World) {p0 : List (List UInt8)} {a_0 : Option Addr} {n_0 c_0 : Nat} {r : Bool} (H : spec_l5Words p0 = some r)  (g0 : (eList (eStr) 9).rd w [] p0 [.slice a_0 n_0 c_0]) :
    Calls Try.prog 105 #[.slice a_0 n_0 c_0] w (fun en w' => en = .returned (.bool r) ∧ Ext [] w w') := by
  obtain rfl := rd_n g0
  unfold spec_l5Words at H
  refine f_enter (vs := [.slice a_0 p0.length c_0]) Try.func105 rfl Try.ntmps105 rfl (St.init w []) ?_
  refine c_seq ?_
  refine c_reg ?_
  refine ow_batch [.p] rfl ?_
  refine ow_nil ?_
  refine x_qs ?_
  refine c_seq ?_
  refine c_seq ?_
  refine c_reg ?_
  refine ow_batch [.p] rfl ?_
  refine ow_nil ?_
  refine x_qs ?_
  refine c_block ?_
  refine CW.at (loopI1 (fun (i21 : Int) => St w [] []) (fun (i21 : Int) => [(0, .slice a_0 p0.length c_0), (3, .int .i64 i21)]) (fun kk => fun (i21 : Int) => spec_l5Words_L1 p0 kk i21 = some r) (fun _ H => ?_) (fun k1 ihk1 i21 H => ?_) Fuel (0) (H)) (fun _ h => St.sel [] rfl rfl h) ⟨rfl, rfl,  trivial⟩
  · unfold spec_l5Words_L1 at H
    exact absurd H (by simp)
  · unfold spec_l5Words_L1 at H
    refine c_seq ?_
    refine c_seq ?_
    refine c_reg ?_
    refine ow_batch [.p, .p, .lenS 23 9 sl23, .p] rfl ?_
    refine ow_nil ?_
    refine x_qs ?_
    refine c_if rfl (fun hb => ?_) (fun hb => ?_)
    · have H := of_if_t hb H
      refine c_skip ?_
      refine x_qs ?_
      refine c_seq ?_
      refine c_block ?_
      refine c_seq ?_
      refine c_seq ?_
      refine c_reg ?_
      refine ow_batch [.p, .p] rfl ?_
      obtain ⟨e42, h43, H⟩ := of_bind H
      refine ow_ixE (e := eStr) (xs := p0) (j := i21) rfl rfl rfl rfl rfl sl23 ty9 rfl (fun w1 hw1 => rds_bor g0 w1 hw1) h43 (by rw [Nat.mul_one]) ?_
      refine ow_r rfl (dstOk_lt rfl) (ry_load1 rfl rfl ty9 (at_elV (fun w1 hw1 => rds_bor g0 w1 hw1) h43)) ?_
      obtain ⟨y44, h45, H⟩ := of_bind H
      refine ow_q rfl rfl (dstOk_lt rfl) (qy_call rfl fn104 rfl (fun w1 hw1 => spec_WordOk_ok w1  h45)) (fun _ _ => trivial) ?_
      refine ow_batch [.p] rfl ?_
      refine ow_nil ?_
      refine x_qs ?_
      refine c_if rfl (fun hb => ?_) (fun hb => ?_)
      · have H := of_if_t hb H
        refine c_seq ?_
        refine c_reg ?_
        refine ow_batch [.p] rfl ?_
        refine ow_nil ?_
        refine x_qs ?_
        refine c_ret ?_
        refine x_qs_ret ?_
        refine x_qb_ret ?_
        refine x_qs_ret ?_
        refine x_ql_ret ?_
        refine x_qb_ret ?_
        refine x_qs_ret ?_
        exact x_retR (rs := [.tmp 2]) (vs := [.bool false]) rfl ⟨rfl, trivial⟩ (fun w' hw' => by
            obtain rfl := of_some H
            exact ⟨rfl, hw'.ext⟩)
      · have H := of_if_f hb H
        refine c_skip ?_
        refine x_qs ?_
        refine c_seq ?_
        refine c_reg ?_
        refine ow_batch [.p] rfl ?_
        refine ow_nil ?_
        refine x_qs ?_
        refine c_block ?_
        refine CW.at (loopI1 (fun (i51 : Int) => St w [] []) (fun (i51 : Int) => [(0, .slice a_0 p0.length c_0), (3, .int .i64 i21), (4, .int .i64 i51)]) (fun kk => fun (i51 : Int) => spec_l5Words_L2 i21 p0 (spec_l5Words_L1 p0 k1) kk i51 = some r) (fun _ H => ?_) (fun k2 ihk2 i51 H => ?_) Fuel (0) (H)) (fun _ h => St.sel [] rfl rfl h) ⟨rfl, rfl, rfl,  trivial⟩
        · unfold spec_l5Words_L2 at H
          exact absurd H (by simp)
        · unfold spec_l5Words_L2 at H
          refine c_seq ?_
          refine c_seq ?_
          refine c_reg ?_
          refine ow_batch [.p, .p, .p] rfl ?_
          refine ow_nil ?_
          refine x_qs ?_
          refine c_if rfl (fun hb => ?_) (fun hb => ?_)
          · have H := of_if_t hb H
            refine c_skip ?_
            refine x_qs ?_
            refine c_seq ?_
            refine c_block ?_
            refine c_seq ?_
            refine c_regQ mixed (by kernel_rfl) ?_
            refine ow_batch [.p, .p] rfl ?_
            obtain ⟨e57, h58, H⟩ := of_bind H
            refine ow_ixE (e := eStr) (xs := p0) (j := i21) rfl rfl rfl rfl rfl sl23 ty9 rfl (fun w1 hw1 => rds_bor g0 w1 hw1) h58 (by rw [Nat.mul_one]) ?_
            refine ow_r rfl (dstOk_lt rfl) (ry_load1 rfl rfl ty9 (at_elV (fun w1 hw1 => rds_bor g0 w1 hw1) h58)) ?_
            refine ow_batch [.p, .p] rfl ?_
            obtain ⟨e59, h60, H⟩ := of_bind H
            refine ow_ixE (e := eStr) (xs := p0) (j := i51) rfl rfl rfl rfl rfl sl23 ty9 rfl (fun w1 hw1 => rds_bor g0 w1 hw1) h60 (by rw [Nat.mul_one]) ?_
            refine ow_r rfl (dstOk_lt rfl) (ry_load1 rfl rfl ty9 (at_elV (fun w1 hw1 => rds_bor g0 w1 hw1) h60)) ?_
            refine ow_batch [.p] rfl ?_
            refine ow_nilQ ?_
            refine x_qs ?_
            refine c_if rfl (fun hb => ?_) (fun hb => ?_)
            · have H := of_if_t hb H
              refine c_seq ?_
              refine c_reg ?_
              refine ow_batch [.p] rfl ?_
              refine ow_nil ?_
              refine x_qs ?_
              refine c_ret ?_
              refine x_qb_ret ?_
              refine x_qs_ret ?_
              refine x_ql_ret ?_
              refine x_qb_ret ?_
              refine x_qb_ret ?_
              refine x_qs_ret ?_
              refine x_ql_ret ?_
              refine x_qb_ret ?_
              refine x_qs_ret ?_
              exact x_retR (rs := [.tmp 2]) (vs := [.bool false]) rfl ⟨rfl, trivial⟩ (fun w' hw' => by
                  obtain rfl := of_some H
                  exact ⟨rfl, hw'.ext⟩)
            · have H := of_if_f hb H
              refine c_skip ?_
              refine x_qb ?_
              refine x_qs ?_
              refine c_reg ?_
              refine ow_batch [.p, .p, .p] rfl ?_
              refine ow_nil ?_
              exact x_ql (RW.at (ihk2 (IntKind.i64.wrap (i51 + 1)) (H)) (fun _ h => St.sel [] rfl rfl h) ⟨rfl, rfl, rfl, trivial⟩)
          · have H := of_if_f hb H
            refine c_exit ?_
            refine x_qs_exit ?_
            refine x_ql_exit ?_
            refine x_qb_here ?_
            refine x_qb ?_
            refine x_qs ?_
            refine c_reg ?_
            refine ow_batch [.p, .p, .p] rfl ?_
            refine ow_nil ?_
            exact x_ql (RW.at (ihk1 (IntKind.i64.wrap (i21 + 1)) (H)) (fun _ h => St.sel [] rfl rfl h) ⟨rfl, rfl, trivial⟩)
    · have H := of_if_f hb H
      refine c_exit ?_
      refine x_qs_exit ?_
      refine x_ql_exit ?_
      refine x_qb_here ?_
      refine x_qs ?_
      refine c_seq ?_
      refine c_reg ?_
      refine ow_batch [.p] rfl ?_
      refine ow_nil ?_
      refine x_qs ?_
      refine c_ret ?_
      exact x_retR (rs := [.tmp 2]) (vs := [.bool true]) rfl ⟨rfl, trivial⟩ (fun w' hw' => by
          obtain rfl := of_some H
          exact ⟨rfl, hw'.ext⟩)

set_option maxHeartbeats 4000000 in
set_option maxRecDepth 100000 in
theorem spec_AttrOk_ok (w : World) {p0 : Timpl_Attr} {cs0 : List Value} {r : Bool} (H : spec_AttrOk p0 = some r)  (g0 : (eTimpl_Attr).rd w [] p0 cs0) :
    Calls Try.prog 57 #[.agg cs0.toArray] w (fun en w' => en = .returned (.bool r) ∧ Ext [] w w') := by
  obtain ⟨c1, c2, c3, rfl, g4, g5, g6⟩ := rdo_Timpl_Attr g0
  obtain rfl : c1 = [vS p0.Name_] := g4
  obtain ⟨a7, c8, rfl⟩ := rd_sl1 g5
  obtain ⟨a9, c10, rfl⟩ := rd_sl1 g6
  unfold spec_AttrOk at H
  refine f_enter (vs := [.agg #[vS p0.Name_, .slice a7 p0.Cuts_.length c8, .slice a9 p0.Values_.length c10]]) Try.func57 rfl Try.ntmps57 rfl (St.init w []) ?_
  refine c_seq ?_
  refine c_reg ?_
  refine ow_box (cs := [vS p0.Name_, .slice a7 p0.Cuts_.length c8, .slice a9 p0.Values_.length c10]) rfl rfl rfl rfl rfl rfl (fun _ => kp) (fun b11 => ?_)
  refine ow_batch [.p] rfl ?_
  refine ow_nil ?_
  refine x_qs ?_
  refine c_seq ?_
  refine c_seq ?_
  refine c_reg ?_
  refine ow_batch [.fa 28 0 0 fa28_0] rfl ?_
  refine ow_r rfl (dstOk_lt rfl) (ry_box1 (off := 0) rfl rfl ty9 (boxIn (i := 0) rfl) rfl) ?_
  obtain ⟨y12, h13, H⟩ := of_bind H
  refine ow_q rfl rfl (dstOk_lt rfl) (qy_call rfl fn104 rfl (fun w1 hw1 => spec_WordOk_ok w1  h13)) (fun _ _ => trivial) ?_
  refine ow_batch [.p] rfl ?_
  refine ow_nil ?_
  refine x_qs ?_
  refine c_if rfl (fun hb => ?_) (fun hb => ?_)
  · have H := of_if_t hb H
    refine c_seq ?_
    refine c_reg ?_
    refine ow_batch [.p] rfl ?_
    refine ow_nil ?_
    refine x_qs ?_
    refine c_ret ?_
    refine x_qs_ret ?_
    exact x_retR (rs := [.tmp 2]) (vs := [.bool false]) rfl ⟨rfl, trivial⟩ (fun w' hw' => by
        obtain rfl := of_some H
        exact ⟨rfl, hw'.ext⟩)
  · have H := of_if_f hb H
    refine c_skip ?_
    refine x_qs ?_
    refine c_seq ?_
    refine c_seq ?_
    refine c_reg ?_
    refine ow_batch [.fa 28 1 1 fa28_1] rfl ?_
    refine ow_r rfl (dstOk_lt rfl) (ry_box1 (off := 1) rfl rfl ty22 (boxIn (i := 0) rfl) rfl) ?_
    refine ow_batch [.lenS 22 3 sl22, .p] rfl ?_
    refine ow_nil ?_
    refine x_qs ?_
    refine c_if rfl (fun hb => ?_) (fun hb => ?_)
    · have H := of_if_t hb H
      refine c_seq ?_
      refine c_reg ?_
      refine ow_batch [.fa 28 2 2 fa28_2] rfl ?_
      refine ow_r rfl (dstOk_lt rfl) (ry_box1 (off := 2) rfl rfl ty23 (boxIn (i := 0) rfl) rfl) ?_
      refine ow_batch [.lenS 23 9 sl23] rfl ?_
      obtain ⟨y14, h15, H⟩ := of_bind H
      refine ow_q rfl rfl (dstOk_lt rfl) (qy_call rfl fn71 rfl (fun w1 hw1 => spec_l1In_ok w1  h15)) (fun _ _ => trivial) ?_
      refine ow_batch [.p] rfl ?_
      obtain ⟨u17, hu21, H⟩ := of_bind H
      refine ow_cut [(20, .bool u17), (2, .bool false)] 4 ?_ (fun key => OW.sub (R := [(1, .pointer (some ⟨b11, 0, none⟩)), (2, .bool false), (16, .bool y14)]) ?_ ⟨rfl, rfl, rfl, trivial⟩)
      · refine ow_batch [.p] rfl ?_
        refine ow_nil ?_
        refine x_qs ?_
        refine c_ret ?_
        refine x_qs_ret ?_
        exact x_retR (rs := [.tmp 2]) (vs := [.bool u17]) rfl ⟨rfl, trivial⟩ (fun w' hw' => by
            obtain rfl := of_some H
            exact ⟨rfl, hw'.ext⟩)
      · clear H
        have H := hu21
        clear hu21
        generalize y14 = t20 at H ⊢
        cases t20
        · have H := of_if_f rfl H
          refine ow_batch [.p, .p, .p, .p] rfl ?_
          obtain rfl := of_some H
          exact OW.sub key ⟨rfl, rfl, trivial⟩
        · have H := of_if_t rfl H
          refine ow_batch [.fa 28 2 2 fa28_2] rfl ?_
          refine ow_r rfl (dstOk_lt rfl) (ry_box1 (off := 2) rfl rfl ty23 (boxIn (i := 0) rfl) rfl) ?_
          obtain ⟨y18, h19, H⟩ := of_bind H
          refine ow_q rfl rfl (dstOk_lt rfl) (qy_call rfl fn105 rfl (fun w1 hw1 => spec_l5Words_ok w1  h19 (rds_bor g6 w1 hw1))) (fun _ _ => trivial) ?_
          refine ow_batch [.p] rfl ?_
          obtain rfl := of_some H
          exact OW.sub key ⟨rfl, rfl, trivial⟩
    · have H := of_if_f hb H
      refine c_skip ?_
      refine x_qs ?_
      refine c_seq ?_
      refine c_seq ?_
      refine c_reg ?_
      refine ow_batch [.fa 28 2 2 fa28_2] rfl ?_
      refine ow_r rfl (dstOk_lt rfl) (ry_box1 (off := 2) rfl rfl ty23 (boxIn (i := 0) rfl) rfl) ?_
      refine ow_batch [.lenS 23 9 sl23, .p, .p] rfl ?_
      refine ow_cut [(30, .bool ((decide ((p0.Values_.length : Int) > 0)) || (decide ((p0.Cuts_.length : Int) > 3)))), (1, .pointer (some ⟨b11, 0, none⟩))] 5 ?_ (fun key => OW.sub (R := [(1, .pointer (some ⟨b11, 0, none⟩)), (25, .bool (decide ((p0.Values_.length : Int) > 0)))]) ?_ ⟨rfl, rfl, trivial⟩)
      · refine ow_nil ?_
        refine x_qs ?_
        refine c_if rfl (fun hb => ?_) (fun hb => ?_)
        · have H := of_if_t hb H
          refine c_seq ?_
          refine c_reg ?_
          refine ow_batch [.p] rfl ?_
          refine ow_nil ?_
          refine x_qs ?_
          refine c_ret ?_
          refine x_qs_ret ?_
          exact x_retR (rs := [.tmp 2]) (vs := [.bool false]) rfl ⟨rfl, trivial⟩ (fun w' hw' => by
              obtain rfl := of_some H
              exact ⟨rfl, hw'.ext⟩)
        · have H := of_if_f hb H
          refine c_skip ?_
          refine x_qs ?_
          refine c_seq ?_
          refine c_seq ?_
          refine c_reg ?_
          refine ow_batch [.p] rfl ?_
          refine ow_nil ?_
          refine x_qs ?_
          refine c_block ?_
          refine CW.at (loopI1 (fun (i39 : Int) => St w [] [Res.box b11 28 [vS p0.Name_, .slice a7 p0.Cuts_.length c8, .slice a9 p0.Values_.length c10]]) (fun (i39 : Int) => [(1, .pointer (some ⟨b11, 0, none⟩)), (3, .int .i64 i39)]) (fun kk => fun (i39 : Int) => spec_AttrOk_L1 p0 kk i39 = some r) (fun _ H => ?_) (fun k1 ihk1 i39 H => ?_) Fuel (0) (H)) (fun _ h => St.sel [0] rfl rfl h) ⟨rfl, rfl,  trivial⟩
          · unfold spec_AttrOk_L1 at H
            exact absurd H (by simp)
          · unfold spec_AttrOk_L1 at H
            refine c_seq ?_
            refine c_seq ?_
            refine c_reg ?_
            refine ow_batch [.p, .fa 28 1 1 fa28_1] rfl ?_
            refine ow_r rfl (dstOk_lt rfl) (ry_box1 (off := 1) rfl rfl ty22 (boxIn (i := 0) rfl) rfl) ?_
            refine ow_batch [.lenS 22 3 sl22, .p] rfl ?_
            refine ow_nil ?_
            refine x_qs ?_
            refine c_if rfl (fun hb => ?_) (fun hb => ?_)
            · have H := of_if_t hb H
              refine c_skip ?_
              refine x_qs ?_
              refine c_seq ?_
              refine c_block ?_
              refine c_seq ?_
              refine c_regQ mixed (by kernel_rfl) ?_
              refine ow_batch [.fa 28 1 1 fa28_1] rfl ?_
              refine ow_r rfl (dstOk_lt rfl) (ry_box1 (off := 1) rfl rfl ty22 (boxIn (i := 0) rfl) rfl) ?_
              refine ow_batch [.p] rfl ?_
              obtain ⟨e55, h56, H⟩ := of_bind H
              refine ow_ixE (e := eVal (Value.int .i64) (fun _ => rfl)) (xs := p0.Cuts_) (j := i39) rfl rfl rfl rfl rfl sl22 ty3 rfl (fun w1 hw1 => rds_bor g5 w1 hw1) h56 (by rw [Nat.mul_one]) ?_
              refine ow_r rfl (dstOk_lt rfl) (ry_load1 rfl rfl ty3 (at_elV (fun w1 hw1 => rds_bor g5 w1 hw1) h56)) ?_
              obtain ⟨y57, h58, H⟩ := of_bind H
              refine ow_q rfl rfl (dstOk_lt rfl) (qy_call rfl fn71 rfl (fun w1 hw1 => spec_l1In_ok w1  h58)) (fun _ _ => trivial) ?_
              refine ow_batch [.p, .p] rfl ?_
              obtain ⟨u59, hu68, H⟩ := of_bind H
              refine ow_cut [(62, .bool u59), (1, .pointer (some ⟨b11, 0, none⟩)), (3, .int .i64 i39)] 17 ?_ (fun key => OW.sub (R := [(1, .pointer (some ⟨b11, 0, none⟩)), (3, .int .i64 i39), (45, .bool (!y57))]) ?_ ⟨rfl, rfl, rfl, trivial⟩)
              · refine ow_nilQ ?_
                refine x_qs ?_
                refine c_if rfl (fun hb => ?_) (fun hb => ?_)
                · have H := of_if_t hb H
                  refine c_seq ?_
                  refine c_reg ?_
                  refine ow_batch [.p] rfl ?_
                  refine ow_nil ?_
                  refine x_qs ?_
                  refine c_ret ?_
                  refine x_qb_ret ?_
                  refine x_qs_ret ?_
                  refine x_ql_ret ?_
                  refine x_qb_ret ?_
                  refine x_qs_ret ?_
                  exact x_retR (rs := [.tmp 2]) (vs := [.bool false]) rfl ⟨rfl, trivial⟩ (fun w' hw' => by
                      obtain rfl := of_some H
                      exact ⟨rfl, hw'.ext⟩)
                · have H := of_if_f hb H
                  refine c_skip ?_
                  refine x_qb ?_
                  refine x_qs ?_
                  refine c_reg ?_
                  refine ow_batch [.p, .p, .p] rfl ?_
                  refine ow_nil ?_
                  exact x_ql (RW.at (ihk1 (IntKind.i64.wrap (i39 + 1)) (H)) (fun _ h => St.sel [0] rfl rfl h) ⟨rfl, rfl, trivial⟩)
              · clear H
                have H := hu68
                clear hu68
                generalize (!y57) = t67 at H ⊢
                cases t67
                · have H := of_if_f rfl H
                  refine ow_batch [.p, .p, .p] rfl ?_
                  obtain ⟨u60, hu66, H⟩ := of_bind H
                  refine ow_cut [(61, .bool u60), (1, .pointer (some ⟨b11, 0, none⟩)), (3, .int .i64 i39), (45, .bool false)] 13 ?_ (fun key => OW.sub (R := [(1, .pointer (some ⟨b11, 0, none⟩)), (3, .int .i64 i39), (45, .bool false), (48, .bool (decide (i39 > 0)))]) ?_ ⟨rfl, rfl, rfl, rfl, trivial⟩)
                  · refine ow_batch [.p] rfl ?_
                    obtain rfl := of_some H
                    exact OW.sub key ⟨rfl, rfl, rfl, trivial⟩
                  · clear H
                    have H := hu66
                    clear hu66
                    generalize (decide (i39 > 0)) = t65 at H ⊢
                    cases t65
                    · have H := of_if_f rfl H
                      refine ow_batch [.p, .p, .p, .p, .p, .p, .p, .p, .p, .p, .p, .p, .p] rfl ?_
                      obtain rfl := of_some H
                      exact OW.sub key ⟨rfl, rfl, rfl, rfl, trivial⟩
                    · have H := of_if_t rfl H
                      refine ow_batch [.fa 28 1 1 fa28_1] rfl ?_
                      refine ow_r rfl (dstOk_lt rfl) (ry_box1 (off := 1) rfl rfl ty22 (boxIn (i := 0) rfl) rfl) ?_
                      refine ow_batch [.p] rfl ?_
                      obtain ⟨e61, h62, H⟩ := of_bind H
                      refine ow_ixE (e := eVal (Value.int .i64) (fun _ => rfl)) (xs := p0.Cuts_) (j := i39) rfl rfl rfl rfl rfl sl22 ty3 rfl (fun w1 hw1 => rds_bor g5 w1 hw1) h62 (by rw [Nat.mul_one]) ?_
                      refine ow_r rfl (dstOk_lt rfl) (ry_load1 rfl rfl ty3 (at_elV (fun w1 hw1 => rds_bor g5 w1 hw1) h62)) ?_
                      refine ow_batch [.fa 28 1 1 fa28_1] rfl ?_
                      refine ow_r rfl (dstOk_lt rfl) (ry_box1 (off := 1) rfl rfl ty22 (boxIn (i := 0) rfl) rfl) ?_
                      refine ow_batch [.p, .p] rfl ?_
                      obtain ⟨e63, h64, H⟩ := of_bind H
                      refine ow_ixE (e := eVal (Value.int .i64) (fun _ => rfl)) (xs := p0.Cuts_) (j := IntKind.i64.wrap (i39 - 1)) rfl rfl rfl rfl rfl sl22 ty3 rfl (fun w1 hw1 => rds_bor g5 w1 hw1) h64 (by rw [Nat.mul_one]) ?_
                      refine ow_r rfl (dstOk_lt rfl) (ry_load1 rfl rfl ty3 (at_elV (fun w1 hw1 => rds_bor g5 w1 hw1) h64)) ?_
                      refine ow_batch [.p] rfl ?_
                      refine ow_batch [.p] rfl ?_
                      obtain rfl := of_some H
                      exact OW.sub key ⟨rfl, rfl, rfl, rfl, trivial⟩
                · have H := of_if_t rfl H
                  refine ow_batch [.p, .p, .p, .p, .p, .p, .p, .p, .p, .p, .p, .p, .p, .p, .p, .p, .p] rfl ?_
                  obtain rfl := of_some H
                  exact OW.sub key ⟨rfl, rfl, rfl, trivial⟩
            · have H := of_if_f hb H
              refine c_exit ?_
              refine x_qs_exit ?_
              refine x_ql_exit ?_
              refine x_qb_here ?_
              refine x_qs ?_
              refine c_seq ?_
              refine c_reg ?_
              refine ow_batch [.p] rfl ?_
              refine ow_nil ?_
              refine x_qs ?_
              refine c_ret ?_
              exact x_retR (rs := [.tmp 2]) (vs := [.bool true]) rfl ⟨rfl, trivial⟩ (fun w' hw' => by
                  obtain rfl := of_some H
                  exact ⟨rfl, hw'.ext⟩)
      · generalize (decide ((p0.Values_.length : Int) > 0)) = t23 at key ⊢
        cases t23
        · refine ow_batch [.fa 28 1 1 fa28_1] rfl ?_
          refine ow_r rfl (dstOk_lt rfl) (ry_box1 (off := 1) rfl rfl ty22 (boxIn (i := 0) rfl) rfl) ?_
          refine ow_batch [.lenS 22 3 sl22, .p] rfl ?_
          refine ow_batch [.p] rfl ?_
          exact OW.sub key ⟨rfl, rfl, trivial⟩
        · refine ow_batch [.p, .p, .p, .p, .p] rfl ?_
          exact OW.sub key ⟨rfl, rfl, trivial⟩

set_option maxHeartbeats 4000000 in
set_option maxRecDepth 100000 in
theorem spec_SchemaOk_ok (w : World) {p0 : Timpl_Schema} {cs0 : List Value} {r : Bool} (H : spec_SchemaOk p0 = some r)  (g0 : (eTimpl_Schema).rd w [] p0 cs0) :
    Calls Try.prog 67 #[.agg cs0.toArray] w (fun en w' => en = .returned (.bool r) ∧ Ext [] w w') := by
  obtain ⟨c1, c2, rfl, g3, g4⟩ := rdo_Timpl_Schema g0
  obtain ⟨a5, c6, rfl⟩ := rd_sl1 g3
  obtain ⟨a7, c8, rfl⟩ := rd_sl1 g4
  unfold spec_SchemaOk at H
  refine f_enter (vs := [.agg #[.slice a5 p0.Attrs_.length c6, .slice a7 p0.Classes_.length c8]]) Try.func67 rfl Try.ntmps67 rfl (St.init w []) ?_
  refine c_seq ?_
  refine c_reg ?_
  refine ow_box (cs := [.slice a5 p0.Attrs_.length c6, .slice a7 p0.Classes_.length c8]) rfl rfl rfl rfl rfl rfl (fun _ => kp) (fun b9 => ?_)
  refine ow_batch [.p] rfl ?_
  refine ow_nil ?_
  refine x_qs ?_
  refine c_seq ?_
  refine c_seq ?_
  refine c_reg ?_
  refine ow_batch [.fa 39 0 0 fa39_0] rfl ?_
  refine ow_r rfl (dstOk_lt rfl) (ry_box1 (off := 0) rfl rfl ty37 (boxIn (i := 0) rfl) rfl) ?_
  refine ow_batch [.lenS 37 28 sl37] rfl ?_
  obtain ⟨y10, h11, H⟩ := of_bind H
  refine ow_q rfl rfl (dstOk_lt rfl) (qy_call rfl fn71 rfl (fun w1 hw1 => spec_l1In_ok w1  h11)) (fun _ _ => trivial) ?_
  refine ow_batch [.p, .p] rfl ?_
  obtain ⟨u12, hu16, H⟩ := of_bind H
  refine ow_cut [(16, .bool u12), (1, .pointer (some ⟨b9, 0, none⟩))] 6 ?_ (fun key => OW.sub (R := [(1, .pointer (some ⟨b9, 0, none⟩)), (10, .bool (!y10))]) ?_ ⟨rfl, rfl, trivial⟩)
  · refine ow_batch [.p] rfl ?_
    obtain ⟨u17, hu21, H⟩ := of_bind H
    refine ow_cut [(22, .bool u17), (1, .pointer (some ⟨b9, 0, none⟩))] 5 ?_ (fun key => OW.sub (R := [(1, .pointer (some ⟨b9, 0, none⟩)), (17, .bool u12)]) ?_ ⟨rfl, rfl, trivial⟩)
    · refine ow_nil ?_
      refine x_qs ?_
      refine c_if rfl (fun hb => ?_) (fun hb => ?_)
      · have H := of_if_t hb H
        refine c_seq ?_
        refine c_reg ?_
        refine ow_batch [.p] rfl ?_
        refine ow_nil ?_
        refine x_qs ?_
        refine c_ret ?_
        refine x_qs_ret ?_
        exact x_retR (rs := [.tmp 2]) (vs := [.bool false]) rfl ⟨rfl, trivial⟩ (fun w' hw' => by
            obtain rfl := of_some H
            exact ⟨rfl, hw'.ext⟩)
      · have H := of_if_f hb H
        refine c_skip ?_
        refine x_qs ?_
        refine c_seq ?_
        refine c_seq ?_
        refine c_reg ?_
        refine ow_batch [.p] rfl ?_
        refine ow_nil ?_
        refine x_qs ?_
        refine c_block ?_
        refine CW.at (loopI1 (fun (i140 : Int) => St w [] [Res.box b9 39 [.slice a5 p0.Attrs_.length c6, .slice a7 p0.Classes_.length c8]]) (fun (i140 : Int) => [(1, .pointer (some ⟨b9, 0, none⟩)), (3, .int .i64 i140)]) (fun kk => fun (i140 : Int) => spec_SchemaOk_L1 p0 kk i140 = some r) (fun _ H => ?_) (fun k1 ihk1 i140 H => ?_) Fuel (0) (H)) (fun _ h => St.sel [0] rfl rfl h) ⟨rfl, rfl,  trivial⟩
        · unfold spec_SchemaOk_L1 at H
          exact absurd H (by simp)
        · unfold spec_SchemaOk_L1 at H
          refine c_seq ?_
          refine c_seq ?_
          refine c_reg ?_
          refine ow_batch [.p, .fa 39 0 0 fa39_0] rfl ?_
          refine ow_r rfl (dstOk_lt rfl) (ry_box1 (off := 0) rfl rfl ty37 (boxIn (i := 0) rfl) rfl) ?_
          refine ow_batch [.lenS 37 28 sl37, .p] rfl ?_
          refine ow_nil ?_
          refine x_qs ?_
          refine c_if rfl (fun hb => ?_) (fun hb => ?_)
          · have H := of_if_t hb H
            refine c_skip ?_
            refine x_qs ?_
            refine c_seq ?_
            refine c_block ?_
            refine c_seq ?_
            refine c_seq ?_
            refine c_reg ?_
            refine ow_batch [.fa 39 0 0 fa39_0] rfl ?_
            refine ow_r rfl (dstOk_lt rfl) (ry_box1 (off := 0) rfl rfl ty37 (boxIn (i := 0) rfl) rfl) ?_
            refine ow_batch [.p] rfl ?_
            obtain ⟨e259, h260, H⟩ := of_bind H
            refine ow_ixB rfl rfl rfl rfl rfl sl37 ty28 rfl g3 h260 (fun q263 c264 hd261 hA262 => ?_)
            obtain ⟨c265, c266, c267, rfl, g268, g269, g270⟩ := rdo_Timpl_Attr hd261
            obtain rfl : c265 = [vS e259.Name_] := g268
            obtain ⟨a271, c272, rfl⟩ := rd_sl1 g269
            obtain ⟨a273, c274, rfl⟩ := rd_sl1 g270
            refine ow_r rfl (dstOk_lt rfl) (ry_load (cs := [vS e259.Name_, .slice a271 e259.Cuts_.length c272, .slice a273 e259.Values_.length c274]) rfl rfl ty28 (at_bor bor hA262) rfl) ?_
            obtain ⟨y275, h276, H⟩ := of_bind H
            refine ow_q rfl rfl (dstOk_lt rfl) (qy_call rfl fn57 rfl (fun w1 hw1 => spec_AttrOk_ok w1 (cs0 := [vS e259.Name_, .slice a271 e259.Cuts_.length c272, .slice a273 e259.Values_.length c274]) h276 (rdm_Timpl_Attr (x := e259) (c0 := [vS e259.Name_]) (c1 := [.slice a271 e259.Cuts_.length c272]) (c2 := [.slice a273 e259.Values_.length c274]) rfl (rds_bor g269 w1 hw1) (rds_bor g270 w1 hw1)))) (fun _ _ => trivial) ?_
            refine ow_batch [.p] rfl ?_
            refine ow_nil ?_
            refine x_qs ?_
            refine c_if rfl (fun hb => ?_) (fun hb => ?_)
            · have H := of_if_t hb H
              refine c_seq ?_
              refine c_reg ?_
              refine ow_batch [.p] rfl ?_
              refine ow_nil ?_
              refine x_qs ?_
              refine c_ret ?_
              refine x_qs_ret ?_
              refine x_qb_ret ?_
              refine x_qs_ret ?_
              refine x_ql_ret ?_
              refine x_qb_ret ?_
              refine x_qs_ret ?_
              exact x_retR (rs := [.tmp 2]) (vs := [.bool false]) rfl ⟨rfl, trivial⟩ (fun w' hw' => by
                  obtain rfl := of_some H
                  exact ⟨rfl, hw'.ext⟩)
            · have H := of_if_f hb H
              refine c_skip ?_
              refine x_qs ?_
              refine c_seq ?_
              refine c_reg ?_
              refine ow_batch [.p] rfl ?_
              refine ow_nil ?_
              refine x_qs ?_
              refine c_block ?_
              refine CW.at (loopI1 (fun (i310 : Int) => St w [] [Res.box b9 39 [.slice a5 p0.Attrs_.length c6, .slice a7 p0.Classes_.length c8]]) (fun (i310 : Int) => [(1, .pointer (some ⟨b9, 0, none⟩)), (3, .int .i64 i140), (4, .int .i64 i310)]) (fun kk => fun (i310 : Int) => spec_SchemaOk_L2 i140 p0 (spec_SchemaOk_L1 p0 k1) kk i310 = some r) (fun _ H => ?_) (fun k2 ihk2 i310 H => ?_) Fuel (0) (H)) (fun _ h => St.sel [0] rfl rfl h) ⟨rfl, rfl, rfl,  trivial⟩
              · unfold spec_SchemaOk_L2 at H
                exact absurd H (by simp)
              · unfold spec_SchemaOk_L2 at H
                refine c_seq ?_
                refine c_seq ?_
                refine c_reg ?_
                refine ow_batch [.p, .p, .p] rfl ?_
                refine ow_nil ?_
                refine x_qs ?_
                refine c_if rfl (fun hb => ?_) (fun hb => ?_)
                · have H := of_if_t hb H
                  refine c_skip ?_
                  refine x_qs ?_
                  refine c_seq ?_
                  refine c_block ?_
                  refine c_seq ?_
                  refine c_regQ mixed (by kernel_rfl) ?_
                  refine ow_batch [.fa 39 0 0 fa39_0] rfl ?_
                  refine ow_r rfl (dstOk_lt rfl) (ry_box1 (off := 0) rfl rfl ty37 (boxIn (i := 0) rfl) rfl) ?_
                  refine ow_batch [.p] rfl ?_
                  obtain ⟨e344, h345, H⟩ := of_bind H
                  refine ow_ixB rfl rfl rfl rfl rfl sl37 ty28 rfl g3 h345 (fun q348 c349 hd346 hA347 => ?_)
                  obtain ⟨c350, c351, c352, rfl, g353, g354, g355⟩ := rdo_Timpl_Attr hd346
                  obtain rfl : c350 = [vS e344.Name_] := g353
                  obtain ⟨a356, c357, rfl⟩ := rd_sl1 g354
                  obtain ⟨a358, c359, rfl⟩ := rd_sl1 g355
                  refine ow_batch [.fa 28 0 0 fa28_0] rfl ?_
                  refine ow_r rfl (dstOk_lt rfl) (ry_load1 rfl rfl ty9 (at_bor bor (at_K hA347 0 1))) ?_
                  refine ow_batch [.fa 39 0 0 fa39_0] rfl ?_
                  refine ow_r rfl (dstOk_lt rfl) (ry_box1 (off := 0) rfl rfl ty37 (boxIn (i := 0) rfl) rfl) ?_
                  refine ow_batch [.p] rfl ?_
                  obtain ⟨e360, h361, H⟩ := of_bind H
                  refine ow_ixB rfl rfl rfl rfl rfl sl37 ty28 rfl g3 h361 (fun q364 c365 hd362 hA363 => ?_)
                  obtain ⟨c366, c367, c368, rfl, g369, g370, g371⟩ := rdo_Timpl_Attr hd362
                  obtain rfl : c366 = [vS e360.Name_] := g369
                  obtain ⟨a372, c373, rfl⟩ := rd_sl1 g370
                  obtain ⟨a374, c375, rfl⟩ := rd_sl1 g371
                  refine ow_batch [.fa 28 0 0 fa28_0] rfl ?_
                  refine ow_r rfl (dstOk_lt rfl) (ry_load1 rfl rfl ty9 (at_bor bor (at_K hA363 0 1))) ?_
                  refine ow_batch [.p] rfl ?_
                  refine ow_nilQ ?_
                  refine x_qs ?_
                  refine c_if rfl (fun hb => ?_) (fun hb => ?_)
                  · have H := of_if_t hb H
                    refine c_seq ?_
                    refine c_reg ?_
                    refine ow_batch [.p] rfl ?_
                    refine ow_nil ?_
                    refine x_qs ?_
                    refine c_ret ?_
                    refine x_qb_ret ?_
                    refine x_qs_ret ?_
                    refine x_ql_ret ?_
                    refine x_qb_ret ?_
                    refine x_qb_ret ?_
                    refine x_qs_ret ?_
                    refine x_ql_ret ?_
                    refine x_qb_ret ?_
                    refine x_qs_ret ?_
                    exact x_retR (rs := [.tmp 2]) (vs := [.bool false]) rfl ⟨rfl, trivial⟩ (fun w' hw' => by
                        obtain rfl := of_some H
                        exact ⟨rfl, hw'.ext⟩)
                  · have H := of_if_f hb H
                    refine c_skip ?_
                    refine x_qb ?_
                    refine x_qs ?_
                    refine c_reg ?_
                    refine ow_batch [.p, .p, .p] rfl ?_
                    refine ow_nil ?_
                    exact x_ql (RW.at (ihk2 (IntKind.i64.wrap (i310 + 1)) (H)) (fun _ h => St.sel [0] rfl rfl h) ⟨rfl, rfl, rfl, trivial⟩)
                · have H := of_if_f hb H
                  refine c_exit ?_
                  refine x_qs_exit ?_
                  refine x_ql_exit ?_
                  refine x_qb_here ?_
                  refine x_qb ?_
                  refine x_qs ?_
                  refine c_reg ?_
                  refine ow_batch [.p, .p, .p] rfl ?_
                  refine ow_nil ?_
                  exact x_ql (RW.at (ihk1 (IntKind.i64.wrap (i140 + 1)) (H)) (fun _ h => St.sel [0] rfl rfl h) ⟨rfl, rfl, trivial⟩)
          · have H := of_if_f hb H
            refine c_exit ?_
            refine x_qs_exit ?_
            refine x_ql_exit ?_
            refine x_qb_here ?_
            refine x_qs ?_
            refine c_seq ?_
            refine c_reg ?_
            refine ow_batch [.p] rfl ?_
            refine ow_nil ?_
            refine x_qs ?_
            refine c_ret ?_
            exact x_retR (rs := [.tmp 2]) (vs := [.bool true]) rfl ⟨rfl, trivial⟩ (fun w' hw' => by
                obtain rfl := of_some H
                exact ⟨rfl, hw'.ext⟩)
    · clear H
      have H := hu21
      clear hu21
      generalize u12 = t20 at H ⊢
      cases t20
      · have H := of_if_f rfl H
        refine ow_batch [.fa 39 1 1 fa39_1] rfl ?_
        refine ow_r rfl (dstOk_lt rfl) (ry_box1 (off := 1) rfl rfl ty23 (boxIn (i := 0) rfl) rfl) ?_
        obtain ⟨y18, h19, H⟩ := of_bind H
        refine ow_q rfl rfl (dstOk_lt rfl) (qy_call rfl fn105 rfl (fun w1 hw1 => spec_l5Words_ok w1  h19 (rds_bor g4 w1 hw1))) (fun _ _ => trivial) ?_
        refine ow_batch [.p] rfl ?_
        refine ow_batch [.p] rfl ?_
        obtain rfl := of_some H
        exact OW.sub key ⟨rfl, rfl, trivial⟩
      · have H := of_if_t rfl H
        refine ow_batch [.p, .p, .p, .p, .p] rfl ?_
        obtain rfl := of_some H
        exact OW.sub key ⟨rfl, rfl, trivial⟩
  · clear H
    have H := hu16
    clear hu16
    generalize (!y10) = t15 at H ⊢
    cases t15
    · have H := of_if_f rfl H
      refine ow_batch [.fa 39 1 1 fa39_1] rfl ?_
      refine ow_r rfl (dstOk_lt rfl) (ry_box1 (off := 1) rfl rfl ty23 (boxIn (i := 0) rfl) rfl) ?_
      refine ow_batch [.lenS 23 9 sl23] rfl ?_
      obtain ⟨y13, h14, H⟩ := of_bind H
      refine ow_q rfl rfl (dstOk_lt rfl) (qy_call rfl fn71 rfl (fun w1 hw1 => spec_l1In_ok w1  h14)) (fun _ _ => trivial) ?_
      refine ow_batch [.p] rfl ?_
      refine ow_batch [.p] rfl ?_
      obtain rfl := of_some H
      exact OW.sub key ⟨rfl, rfl, trivial⟩
    · have H := of_if_t rfl H
      refine ow_batch [.p, .p, .p, .p, .p, .p] rfl ?_
      obtain rfl := of_some H
      exact OW.sub key ⟨rfl, rfl, trivial⟩

set_option maxHeartbeats 4000000 in
set_option maxRecDepth 100000 in
theorem spec_Bins_ok (w : World) {p0 : Timpl_Attr} {cs0 : List Value} {r : Int} (H : spec_Bins p0 = some r)  (g0 : (eTimpl_Attr).rd w [] p0 cs0) :
    Calls Try.prog 59 #[.agg cs0.toArray] w (fun en w' => en = .returned (.int .i64 r) ∧ Ext [] w w') := by
  obtain ⟨c1, c2, c3, rfl, g4, g5, g6⟩ := rdo_Timpl_Attr g0
  obtain rfl : c1 = [vS p0.Name_] := g4
  obtain ⟨a7, c8, rfl⟩ := rd_sl1 g5
  obtain ⟨a9, c10, rfl⟩ := rd_sl1 g6
  unfold spec_Bins at H
  refine f_enter (vs := [.agg #[vS p0.Name_, .slice a7 p0.Cuts_.length c8, .slice a9 p0.Values_.length c10]]) Try.func59 rfl Try.ntmps59 rfl (St.init w []) ?_
  refine c_seq ?_
  refine c_reg ?_
  refine ow_box (cs := [vS p0.Name_, .slice a7 p0.Cuts_.length c8, .slice a9 p0.Values_.length c10]) rfl rfl rfl rfl rfl rfl (fun _ => kp) (fun b11 => ?_)
  refine ow_batch [.p] rfl ?_
  refine ow_nil ?_
  refine x_qs ?_
  refine c_seq ?_
  refine c_seq ?_
  refine c_reg ?_
  refine ow_r rfl (dstOk_lt rfl) (ry_box (off := 0) (ds := [vS p0.Name_, .slice a7 p0.Cuts_.length c8, .slice a9 p0.Values_.length c10]) rfl rfl ty28 (boxIn (i := 0) rfl) rfl rfl) ?_
  obtain ⟨y12, h13, H⟩ := of_bind H
  refine ow_q rfl rfl (dstOk_lt rfl) (qy_call rfl fn57 rfl (fun w1 hw1 => spec_AttrOk_ok w1 (cs0 := [vS p0.Name_, .slice a7 p0.Cuts_.length c8, .slice a9 p0.Values_.length c10]) h13 (rdm_Timpl_Attr (x := p0) (c0 := [vS p0.Name_]) (c1 := [.slice a7 p0.Cuts_.length c8]) (c2 := [.slice a9 p0.Values_.length c10]) rfl (rds_bor g5 w1 hw1) (rds_bor g6 w1 hw1)))) (fun _ _ => trivial) ?_
  refine ow_batch [.p] rfl ?_
  refine ow_nil ?_
  refine x_qs ?_
  refine c_if rfl (fun hb => ?_) (fun hb => ?_)
  · have H := of_if_t hb H
    refine c_seq ?_
    refine c_reg ?_
    refine ow_batch [.p] rfl ?_
    refine ow_nil ?_
    refine x_qs ?_
    refine c_ret ?_
    refine x_qs_ret ?_
    exact x_retR (rs := [.tmp 2]) (vs := [.int .i64 0]) rfl ⟨rfl, trivial⟩ (fun w' hw' => by
        obtain rfl := of_some H
        exact ⟨rfl, hw'.ext⟩)
  · have H := of_if_f hb H
    refine c_skip ?_
    refine x_qs ?_
    refine c_seq ?_
    refine c_seq ?_
    refine c_reg ?_
    refine ow_batch [.fa 28 1 1 fa28_1] rfl ?_
    refine ow_r rfl (dstOk_lt rfl) (ry_box1 (off := 1) rfl rfl ty22 (boxIn (i := 0) rfl) rfl) ?_
    refine ow_batch [.lenS 22 3 sl22, .p] rfl ?_
    refine ow_nil ?_
    refine x_qs ?_
    refine c_if rfl (fun hb => ?_) (fun hb => ?_)
    · have H := of_if_t hb H
      refine c_seq ?_
      refine c_reg ?_
      refine ow_batch [.fa 28 1 1 fa28_1] rfl ?_
      refine ow_r rfl (dstOk_lt rfl) (ry_box1 (off := 1) rfl rfl ty22 (boxIn (i := 0) rfl) rfl) ?_
      refine ow_batch [.lenS 22 3 sl22, .p, .p] rfl ?_
      refine ow_nil ?_
      refine x_qs ?_
      refine c_ret ?_
      refine x_qs_ret ?_
      exact x_retR (rs := [.tmp 2]) (vs := [.int .i64 (IntKind.i64.wrap ((p0.Cuts_.length : Int) + 1))]) rfl ⟨rfl, trivial⟩ (fun w' hw' => by
          obtain rfl := of_some H
          exact ⟨rfl, hw'.ext⟩)
    · have H := of_if_f hb H
      refine c_skip ?_
      refine x_qs ?_
      refine c_seq ?_
      refine c_reg ?_
      refine ow_batch [.fa 28 2 2 fa28_2] rfl ?_
      refine ow_r rfl (dstOk_lt rfl) (ry_box1 (off := 2) rfl rfl ty23 (boxIn (i := 0) rfl) rfl) ?_
      refine ow_batch [.lenS 23 9 sl23, .p] rfl ?_
      refine ow_nil ?_
      refine x_qs ?_
      refine c_ret ?_
      exact x_retR (rs := [.tmp 2]) (vs := [.int .i64 (p0.Values_.length : Int)]) rfl ⟨rfl, trivial⟩ (fun w' hw' => by
          obtain rfl := of_some H
          exact ⟨rfl, hw'.ext⟩)

set_option maxHeartbeats 4000000 in
set_option maxRecDepth 100000 in
theorem impl_within_ok (w : World) {p0 : Int} {p1 : Int} {p2 : Int}  {r : Bool} (H : impl_within p0 p1 p2 = some r)   :
    Calls Try.prog 72 #[.int .i64 p0, .int .i64 p1, .int .i64 p2] w (fun en w' => en = .returned (.bool r) ∧ Ext [] w w') := by
  unfold impl_within at H
  refine f_enter (vs := [.int .i64 p0, .int .i64 p1, .int .i64 p2]) Try.func72 rfl Try.ntmps72 rfl (St.init w []) ?_
  refine c_seq ?_
  refine c_reg ?_
  refine ow_batch [.p] rfl ?_
  refine ow_nil ?_
  refine x_qs ?_
  refine c_seq ?_
  refine c_reg ?_
  refine ow_batch [.p, .p, .p, .p] rfl ?_
  refine ow_cut [(14, .bool ((decide (p0 ≥ p1)) && (decide (p0 ≤ p2)))), (6, .bool false)] 4 ?_ (fun key => OW.sub (R := [(0, .int .i64 p0), (2, .int .i64 p2), (6, .bool false), (10, .bool (decide (p0 ≥ p1)))]) ?_ ⟨rfl, rfl, rfl, rfl, trivial⟩)
  · refine ow_batch [.p] rfl ?_
    refine ow_nil ?_
    refine x_qs ?_
    refine c_ret ?_
    exact x_retR (rs := [.tmp 6]) (vs := [.bool ((decide (p0 ≥ p1)) && (decide (p0 ≤ p2)))]) rfl ⟨rfl, trivial⟩ (fun w' hw' => by
        obtain rfl := of_some H
        exact ⟨rfl, hw'.ext⟩)
  · generalize (decide (p0 ≥ p1)) = t2 at key ⊢
    cases t2
    · refine ow_batch [.p, .p, .p, .p] rfl ?_
      exact OW.sub key ⟨rfl, rfl, trivial⟩
    · refine ow_batch [.p, .p, .p] rfl ?_
      refine ow_batch [.p] rfl ?_
      exact OW.sub key ⟨rfl, rfl, trivial⟩

set_option maxHeartbeats 4000000 in
set_option maxRecDepth 100000 in
theorem impl_WordOk_ok (w : World) {p0 : List UInt8}  {r : Bool} (H : impl_WordOk p0 = some r)   :
    Calls Try.prog 106 #[vS p0] w (fun en w' => en = .returned (.bool r) ∧ Ext [] w w') := by
  unfold impl_WordOk at H
  refine f_enter (vs := [vS p0]) Try.func106 rfl Try.ntmps106 rfl (St.init w []) ?_
  refine c_seq ?_
  refine c_reg ?_
  refine ow_batch [.p] rfl ?_
  refine ow_nil ?_
  refine x_qs ?_
  refine c_seq ?_
  refine c_seq ?_
  refine c_reg ?_
  refine ow_batch [.p, .lenT 9 st9] rfl ?_
  obtain ⟨y1, h2, H⟩ := of_bind H
  refine ow_q rfl rfl (dstOk_lt rfl) (qy_call rfl fn72 rfl (fun w1 hw1 => impl_within_ok w1  h2)) (fun _ _ => trivial) ?_
  refine ow_batch [.p] rfl ?_
  refine ow_nil ?_
  refine x_qs ?_
  refine c_if rfl (fun hb => ?_) (fun hb => ?_)
  · have H := of_if_t hb H
    refine c_seq ?_
    refine c_reg ?_
    refine ow_batch [.p] rfl ?_
    refine ow_nil ?_
    refine x_qs ?_
    refine c_ret ?_
    refine x_qs_ret ?_
    exact x_retR (rs := [.tmp 2]) (vs := [.bool false]) rfl ⟨rfl, trivial⟩ (fun w' hw' => by
        obtain rfl := of_some H
        exact ⟨rfl, hw'.ext⟩)
  · have H := of_if_f hb H
    refine c_skip ?_
    refine x_qs ?_
    refine c_seq ?_
    refine c_seq ?_
    refine c_reg ?_
    refine ow_batch [.p, .lenT 9 st9, .p] rfl ?_
    refine ow_nil ?_
    refine x_qs ?_
    refine c_block ?_
    refine CW.at (loopI1 (fun (i11 : Int) => St w [] []) (fun (i11 : Int) => [(0, vS p0), (9, .int .i64 (p0.length : Int)), (10, .int .i64 i11)]) (fun kk => fun (i11 : Int) => impl_WordOk_L1 p0 kk i11 = some r) (fun _ H => ?_) (fun k1 ihk1 i11 H => ?_) Fuel (0) (H)) (fun _ h => St.sel [] rfl rfl h) ⟨rfl, rfl, rfl,  trivial⟩
    · unfold impl_WordOk_L1 at H
      exact absurd H (by simp)
    · unfold impl_WordOk_L1 at H
      refine c_seq ?_
      refine c_reg ?_
      refine ow_batch [.p] rfl ?_
      refine ow_nil ?_
      refine x_qs ?_
      refine c_seq ?_
      refine c_if rfl (fun hb => ?_) (fun hb => ?_)
      · have H := of_if_t hb H
        refine c_skip ?_
        refine x_qs ?_
        refine c_seq ?_
        refine c_block ?_
        refine c_seq ?_
        refine c_reg ?_
        refine ow_batch [.p, .p] rfl ?_
        refine ow_nil ?_
        refine x_qs ?_
        refine c_seq ?_
        refine c_reg ?_
        refine ow_batch [.p, .p] rfl ?_
        obtain ⟨b20, h21, H⟩ := of_bind H
        refine ow_r rfl (dstOk_lt rfl) (ry_sidx (s := p0) rfl rfl rfl st9 h21) ?_
        refine ow_batch [.p, .p] rfl ?_
        obtain ⟨u22, hu26, H⟩ := of_bind H
        refine ow_cut [(22, .bool u22), (0, vS p0), (9, .int .i64 (p0.length : Int)), (10, .int .i64 i11)] 5 ?_ (fun key => OW.sub (R := [(0, vS p0), (3, .int .i64 i11), (9, .int .i64 (p0.length : Int)), (10, .int .i64 i11), (17, .bool (decide ((b20.toNat : Int) < 97)))]) ?_ ⟨rfl, rfl, rfl, rfl, rfl, trivial⟩)
        · refine ow_nil ?_
          refine x_qs ?_
          refine c_if rfl (fun hb => ?_) (fun hb => ?_)
          · have H := of_if_t hb H
            refine c_seq ?_
            refine c_reg ?_
            refine ow_batch [.p] rfl ?_
            refine ow_nil ?_
            refine x_qs ?_
            refine c_ret ?_
            refine x_qb_ret ?_
            refine x_qs_ret ?_
            refine x_ql_ret ?_
            refine x_qb_ret ?_
            refine x_qs_ret ?_
            exact x_retR (rs := [.tmp 2]) (vs := [.bool false]) rfl ⟨rfl, trivial⟩ (fun w' hw' => by
                obtain rfl := of_some H
                exact ⟨rfl, hw'.ext⟩)
          · have H := of_if_f hb H
            refine c_skip ?_
            refine x_qb ?_
            refine x_qs ?_
            refine c_reg ?_
            refine ow_batch [.p, .p] rfl ?_
            refine ow_nil ?_
            exact x_ql (RW.at (ihk1 (IntKind.i64.wrap (i11 + 1)) (H)) (fun _ h => St.sel [] rfl rfl h) ⟨rfl, rfl, rfl, trivial⟩)
        · clear H
          have H := hu26
          clear hu26
          generalize (decide ((b20.toNat : Int) < 97)) = t25 at H ⊢
          cases t25
          · have H := of_if_f rfl H
            refine ow_batch [.p, .p] rfl ?_
            obtain ⟨b23, h24, H⟩ := of_bind H
            refine ow_r rfl (dstOk_lt rfl) (ry_sidx (s := p0) rfl rfl rfl st9 h24) ?_
            refine ow_batch [.p] rfl ?_
            refine ow_batch [.p] rfl ?_
            obtain rfl := of_some H
            exact OW.sub key ⟨rfl, rfl, rfl, rfl, trivial⟩
          · have H := of_if_t rfl H
            refine ow_batch [.p, .p, .p, .p, .p] rfl ?_
            obtain rfl := of_some H
            exact OW.sub key ⟨rfl, rfl, rfl, rfl, trivial⟩
      · have H := of_if_f hb H
        refine c_exit ?_
        refine x_qs_exit ?_
        refine x_ql_exit ?_
        refine x_qb_here ?_
        refine x_qs ?_
        refine c_seq ?_
        refine c_reg ?_
        refine ow_batch [.p] rfl ?_
        refine ow_nil ?_
        refine x_qs ?_
        refine c_ret ?_
        exact x_retR (rs := [.tmp 2]) (vs := [.bool true]) rfl ⟨rfl, trivial⟩ (fun w' hw' => by
            obtain rfl := of_some H
            exact ⟨rfl, hw'.ext⟩)

set_option maxHeartbeats 4000000 in
set_option maxRecDepth 100000 in
theorem lib_slices_Index___string_string__ok (w : World) {p0 : List (List UInt8)} {p1 : List UInt8} {a_0 : Option Addr} {n_0 c_0 : Nat} {r : Int} (H : lib_slices_Index___string_string_ p0 p1 = some r)  (g0 : (eList (eStr) 9).rd w [] p0 [.slice a_0 n_0 c_0]) :
    Calls Try.prog 117 #[.slice a_0 n_0 c_0, vS p1] w (fun en w' => en = .returned (.int .i64 r) ∧ Ext [] w w') := by
  obtain rfl := rd_n g0
  unfold lib_slices_Index___string_string_ at H
  refine f_enter (vs := [.slice a_0 p0.length c_0, vS p1]) Try.func117 rfl Try.ntmps117 rfl (St.init w []) ?_
  refine c_seq ?_
  refine c_reg ?_
  refine ow_batch [.p] rfl ?_
  refine ow_nil ?_
  refine x_qs ?_
  refine c_seq ?_
  refine c_seq ?_
  refine c_reg ?_
  refine ow_batch [.p, .lenS 23 9 sl23, .p] rfl ?_
  refine ow_nil ?_
  refine x_qs ?_
  refine c_block ?_
  refine CW.at (loopI1 (fun (i4 : Int) => St w [] []) (fun (i4 : Int) => [(0, .slice a_0 p0.length c_0), (1, vS p1), (7, .int .i64 (p0.length : Int)), (8, .int .i64 i4)]) (fun kk => fun (i4 : Int) => lib_slices_Index___string_string__L1 p0 p1 kk i4 = some r) (fun _ H => ?_) (fun k1 ihk1 i4 H => ?_) Fuel (0) (H)) (fun _ h => St.sel [] rfl rfl h) ⟨rfl, rfl, rfl, rfl,  trivial⟩
  · unfold lib_slices_Index___string_string__L1 at H
    exact absurd H (by simp)
  · unfold lib_slices_Index___string_string__L1 at H
    refine c_seq ?_
    refine c_reg ?_
    refine ow_batch [.p] rfl ?_
    refine ow_nil ?_
    refine x_qs ?_
    refine c_seq ?_
    refine c_if rfl (fun hb => ?_) (fun hb => ?_)
    · have H := of_if_t hb H
      refine c_skip ?_
      refine x_qs ?_
      refine c_seq ?_
      refine c_block ?_
      refine c_seq ?_
      refine c_reg ?_
      refine ow_batch [.p, .p] rfl ?_
      refine ow_nil ?_
      refine x_qs ?_
      refine c_seq ?_
      refine c_reg ?_
      refine ow_batch [.p, .p, .p] rfl ?_
      obtain ⟨e8, h9, H⟩ := of_bind H
      refine ow_ixE (e := eStr) (xs := p0) (j := i4) rfl rfl rfl rfl rfl sl23 ty9 rfl (fun w1 hw1 => rds_bor g0 w1 hw1) h9 (by rw [Nat.mul_one]) ?_
      refine ow_r rfl (dstOk_lt rfl) (ry_load1 rfl rfl ty9 (at_elV (fun w1 hw1 => rds_bor g0 w1 hw1) h9)) ?_
      refine ow_batch [.p] rfl ?_
      refine ow_nil ?_
      refine x_qs ?_
      refine c_if rfl (fun hb => ?_) (fun hb => ?_)
      · have H := of_if_t hb H
        refine c_seq ?_
        refine c_reg ?_
        refine ow_batch [.p, .p] rfl ?_
        refine ow_nil ?_
        refine x_qs ?_
        refine c_ret ?_
        refine x_qb_ret ?_
        refine x_qs_ret ?_
        refine x_ql_ret ?_
        refine x_qb_ret ?_
        refine x_qs_ret ?_
        exact x_retR (rs := [.tmp 4]) (vs := [.int .i64 i4]) rfl ⟨rfl, trivial⟩ (fun w' hw' => by
            obtain rfl := of_some H
            exact ⟨rfl, hw'.ext⟩)
      · have H := of_if_f hb H
        refine c_skip ?_
        refine x_qb ?_
        refine x_qs ?_
        refine c_reg ?_
        refine ow_batch [.p, .p] rfl ?_
        refine ow_nil ?_
        exact x_ql (RW.at (ihk1 (IntKind.i64.wrap (i4 + 1)) (H)) (fun _ h => St.sel [] rfl rfl h) ⟨rfl, rfl, rfl, rfl, trivial⟩)
    · have H := of_if_f hb H
      refine c_exit ?_
      refine x_qs_exit ?_
      refine x_ql_exit ?_
      refine x_qb_here ?_
      refine x_qs ?_
      refine c_seq ?_
      refine c_reg ?_
      refine ow_batch [.p] rfl ?_
      refine ow_nil ?_
      refine x_qs ?_
      refine c_ret ?_
      exact x_retR (rs := [.tmp 4]) (vs := [.int .i64 (-1)]) rfl ⟨rfl, trivial⟩ (fun w' hw' => by
          obtain rfl := of_some H
          exact ⟨rfl, hw'.ext⟩)

set_option maxHeartbeats 4000000 in
set_option maxRecDepth 100000 in
theorem lib_slices_Contains___string_string__ok (w : World) {p0 : List (List UInt8)} {p1 : List UInt8} {a_0 : Option Addr} {n_0 c_0 : Nat} {r : Bool} (H : lib_slices_Contains___string_string_ p0 p1 = some r)  (g0 : (eList (eStr) 9).rd w [] p0 [.slice a_0 n_0 c_0]) :
    Calls Try.prog 112 #[.slice a_0 n_0 c_0, vS p1] w (fun en w' => en = .returned (.bool r) ∧ Ext [] w w') := by
  obtain rfl := rd_n g0
  unfold lib_slices_Contains___string_string_ at H
  refine f_enter (vs := [.slice a_0 p0.length c_0, vS p1]) Try.func112 rfl Try.ntmps112 rfl (St.init w []) ?_
  refine c_seq ?_
  refine c_reg ?_
  refine ow_batch [.p] rfl ?_
  refine ow_nil ?_
  refine x_qs ?_
  refine c_seq ?_
  refine c_reg ?_
  refine ow_batch [.p, .p] rfl ?_
  obtain ⟨y1, h2, H⟩ := of_bind H
  refine ow_q rfl rfl (dstOk_lt rfl) (qy_call rfl fn117 rfl (fun w1 hw1 => lib_slices_Index___string_string__ok w1  h2 (rds_bor g0 w1 hw1))) (fun _ _ => trivial) ?_
  refine ow_batch [.p, .p] rfl ?_
  refine ow_nil ?_
  refine x_qs ?_
  refine c_ret ?_
  exact x_retR (rs := [.tmp 4]) (vs := [.bool (decide (y1 ≥ 0))]) rfl ⟨rfl, trivial⟩ (fun w' hw' => by
      obtain rfl := of_some H
      exact ⟨rfl, hw'.ext⟩)

set_option maxHeartbeats 4000000 in
set_option maxRecDepth 100000 in
theorem impl_distinctWords_ok (w : World) {p0 : List (List UInt8)} {a_0 : Option Addr} {n_0 c_0 : Nat} {r : Bool} (H : impl_distinctWords p0 = some r)  (g0 : (eList (eStr) 9).rd w [] p0 [.slice a_0 n_0 c_0]) :
    Calls Try.prog 107 #[.slice a_0 n_0 c_0] w (fun en w' => en = .returned (.bool r) ∧ Ext [] w w') := by
  obtain rfl := rd_n g0
  unfold impl_distinctWords at H
  refine f_enter (vs := [.slice a_0 p0.length c_0]) Try.func107 rfl Try.ntmps107 rfl (St.init w []) ?_
  refine c_seq ?_
  refine c_reg ?_
  refine ow_batch [.p] rfl ?_
  refine ow_nil ?_
  refine x_qs ?_
  refine c_seq ?_
  refine c_seq ?_
  refine c_reg ?_
  refine ow_batch [.p, .lenS 23 9 sl23, .p] rfl ?_
  refine ow_nil ?_
  refine x_qs ?_
  refine c_block ?_
  refine CW.at (loopI1 (fun (i18 : Int) => St w [] []) (fun (i18 : Int) => [(0, .slice a_0 p0.length c_0), (5, .slice a_0 p0.length c_0), (6, .int .i64 (p0.length : Int)), (7, .int .i64 i18)]) (fun kk => fun (i18 : Int) => impl_distinctWords_L1 p0 kk i18 = some r) (fun _ H => ?_) (fun k1 ihk1 i18 H => ?_) Fuel (0) (H)) (fun _ h => St.sel [] rfl rfl h) ⟨rfl, rfl, rfl, rfl,  trivial⟩
  · unfold impl_distinctWords_L1 at H
    exact absurd H (by simp)
  · unfold impl_distinctWords_L1 at H
    refine c_seq ?_
    refine c_reg ?_
    refine ow_batch [.p] rfl ?_
    refine ow_nil ?_
    refine x_qs ?_
    refine c_seq ?_
    refine c_if rfl (fun hb => ?_) (fun hb => ?_)
    · have H := of_if_t hb H
      refine c_skip ?_
      refine x_qs ?_
      refine c_seq ?_
      refine c_block ?_
      refine c_seq ?_
      refine c_reg ?_
      refine ow_batch [.p] rfl ?_
      obtain ⟨e35, h36, H⟩ := of_bind H
      refine ow_ixE (e := eStr) (xs := p0) (j := i18) rfl rfl rfl rfl rfl sl23 ty9 rfl (fun w1 hw1 => rds_bor g0 w1 hw1) h36 (by rw [Nat.mul_one]) ?_
      refine ow_r rfl (dstOk_lt rfl) (ry_load1 rfl rfl ty9 (at_elV (fun w1 hw1 => rds_bor g0 w1 hw1) h36)) ?_
      refine ow_batch [.p, .p] rfl ?_
      refine ow_nil ?_
      refine x_qs ?_
      refine c_seq ?_
      refine c_reg ?_
      refine ow_batch [.p] rfl ?_
      obtain ⟨y37, h38, H⟩ := of_bind H
      refine ow_q rfl rfl (dstOk_lt rfl) (qy_call rfl fn106 rfl (fun w1 hw1 => impl_WordOk_ok w1  h38)) (fun _ _ => trivial) ?_
      refine ow_batch [.p, .p] rfl ?_
      obtain ⟨u39, hu49, H⟩ := of_bind H
      refine ow_cut [(21, .bool u39), (0, .slice a_0 p0.length c_0), (5, .slice a_0 p0.length c_0), (6, .int .i64 (p0.length : Int)), (7, .int .i64 i18)] 6 ?_ (fun key => OW.sub (R := [(0, .slice a_0 p0.length c_0), (3, .int .i64 i18), (4, vS e35), (5, .slice a_0 p0.length c_0), (6, .int .i64 (p0.length : Int)), (7, .int .i64 i18), (15, .bool (!y37))]) ?_ ⟨rfl, rfl, rfl, rfl, rfl, rfl, rfl, trivial⟩)
      · refine ow_nil ?_
        refine x_qs ?_
        refine c_if rfl (fun hb => ?_) (fun hb => ?_)
        · have H := of_if_t hb H
          refine c_seq ?_
          refine c_reg ?_
          refine ow_batch [.p] rfl ?_
          refine ow_nil ?_
          refine x_qs ?_
          refine c_ret ?_
          refine x_qb_ret ?_
          refine x_qs_ret ?_
          refine x_ql_ret ?_
          refine x_qb_ret ?_
          refine x_qs_ret ?_
          exact x_retR (rs := [.tmp 2]) (vs := [.bool false]) rfl ⟨rfl, trivial⟩ (fun w' hw' => by
              obtain rfl := of_some H
              exact ⟨rfl, hw'.ext⟩)
        · have H := of_if_f hb H
          refine c_skip ?_
          refine x_qb ?_
          refine x_qs ?_
          refine c_reg ?_
          refine ow_batch [.p, .p] rfl ?_
          refine ow_nil ?_
          exact x_ql (RW.at (ihk1 (IntKind.i64.wrap (i18 + 1)) (H)) (fun _ h => St.sel [] rfl rfl h) ⟨rfl, rfl, rfl, rfl, trivial⟩)
      · clear H
        have H := hu49
        clear hu49
        generalize (!y37) = t48 at H ⊢
        cases t48
        · have H := of_if_f rfl H
          refine ow_batch [.p, .p] rfl ?_
          obtain ⟨l40, h41, H⟩ := of_bind H
          refine ow_lsub rfl rfl rfl rfl sl23 ty9 rfl rfl rfl h41 g0 (fun v43 h42 => ?_)
          obtain ⟨a44, c45, rfl⟩ := rd_sl h42
          refine ow_batch [.p] rfl ?_
          obtain ⟨y46, h47, H⟩ := of_bind H
          refine ow_q rfl rfl (dstOk_lt rfl) (qy_call rfl fn112 rfl (fun w1 hw1 => lib_slices_Contains___string_string__ok w1  h47 (rds_bor h42 w1 hw1))) (fun _ _ => trivial) ?_
          refine ow_batch [.p] rfl ?_
          obtain rfl := of_some H
          exact OW.sub key ⟨rfl, rfl, rfl, rfl, rfl, trivial⟩
        · have H := of_if_t rfl H
          refine ow_batch [.p, .p, .p, .p, .p, .p] rfl ?_
          obtain rfl := of_some H
          exact OW.sub key ⟨rfl, rfl, rfl, rfl, rfl, trivial⟩
    · have H := of_if_f hb H
      refine c_exit ?_
      refine x_qs_exit ?_
      refine x_ql_exit ?_
      refine x_qb_here ?_
      refine x_qs ?_
      refine c_seq ?_
      refine c_reg ?_
      refine ow_batch [.p] rfl ?_
      refine ow_nil ?_
      refine x_qs ?_
      refine c_ret ?_
      exact x_retR (rs := [.tmp 2]) (vs := [.bool true]) rfl ⟨rfl, trivial⟩ (fun w' hw' => by
          obtain rfl := of_some H
          exact ⟨rfl, hw'.ext⟩)

set_option maxHeartbeats 4000000 in
set_option maxRecDepth 100000 in
theorem impl_ascending_ok (w : World) {p0 : List Int} {a_0 : Option Addr} {n_0 c_0 : Nat} {r : Bool} (H : impl_ascending p0 = some r)  (g0 : (eList (eVal (Value.int .i64) (fun _ => rfl)) 3).rd w [] p0 [.slice a_0 n_0 c_0]) :
    Calls Try.prog 113 #[.slice a_0 n_0 c_0] w (fun en w' => en = .returned (.bool r) ∧ Ext [] w w') := by
  obtain rfl := rd_n g0
  unfold impl_ascending at H
  refine f_enter (vs := [.slice a_0 p0.length c_0]) Try.func113 rfl Try.ntmps113 rfl (St.init w []) ?_
  refine c_seq ?_
  refine c_reg ?_
  refine ow_batch [.p] rfl ?_
  refine ow_nil ?_
  refine x_qs ?_
  refine c_seq ?_
  refine c_seq ?_
  refine c_reg ?_
  refine ow_batch [.p] rfl ?_
  refine ow_nil ?_
  refine x_qs ?_
  refine c_block ?_
  refine CW.at (loopI1 (fun (i6 : Int) => St w [] []) (fun (i6 : Int) => [(0, .slice a_0 p0.length c_0), (3, .int .i64 i6)]) (fun kk => fun (i6 : Int) => impl_ascending_L1 p0 kk i6 = some r) (fun _ H => ?_) (fun k1 ihk1 i6 H => ?_) Fuel (1) (H)) (fun _ h => St.sel [] rfl rfl h) ⟨rfl, rfl,  trivial⟩
  · unfold impl_ascending_L1 at H
    exact absurd H (by simp)
  · unfold impl_ascending_L1 at H
    refine c_seq ?_
    refine c_seq ?_
    refine c_reg ?_
    refine ow_batch [.p, .p, .lenS 22 3 sl22, .p] rfl ?_
    refine ow_nil ?_
    refine x_qs ?_
    refine c_if rfl (fun hb => ?_) (fun hb => ?_)
    · have H := of_if_t hb H
      refine c_skip ?_
      refine x_qs ?_
      refine c_seq ?_
      refine c_block ?_
      refine c_seq ?_
      refine c_regQ mixed (by kernel_rfl) ?_
      refine ow_batch [.p, .p] rfl ?_
      obtain ⟨e12, h13, H⟩ := of_bind H
      refine ow_ixE (e := eVal (Value.int .i64) (fun _ => rfl)) (xs := p0) (j := i6) rfl rfl rfl rfl rfl sl22 ty3 rfl (fun w1 hw1 => rds_bor g0 w1 hw1) h13 (by rw [Nat.mul_one]) ?_
      refine ow_r rfl (dstOk_lt rfl) (ry_load1 rfl rfl ty3 (at_elV (fun w1 hw1 => rds_bor g0 w1 hw1) h13)) ?_
      refine ow_batch [.p, .p, .p] rfl ?_
      obtain ⟨e14, h15, H⟩ := of_bind H
      refine ow_ixE (e := eVal (Value.int .i64) (fun _ => rfl)) (xs := p0) (j := IntKind.i64.wrap (i6 - 1)) rfl rfl rfl rfl rfl sl22 ty3 rfl (fun w1 hw1 => rds_bor g0 w1 hw1) h15 (by rw [Nat.mul_one]) ?_
      refine ow_r rfl (dstOk_lt rfl) (ry_load1 rfl rfl ty3 (at_elV (fun w1 hw1 => rds_bor g0 w1 hw1) h15)) ?_
      refine ow_batch [.p] rfl ?_
      refine ow_nilQ ?_
      refine x_qs ?_
      refine c_if rfl (fun hb => ?_) (fun hb => ?_)
      · have H := of_if_t hb H
        refine c_seq ?_
        refine c_reg ?_
        refine ow_batch [.p] rfl ?_
        refine ow_nil ?_
        refine x_qs ?_
        refine c_ret ?_
        refine x_qb_ret ?_
        refine x_qs_ret ?_
        refine x_ql_ret ?_
        refine x_qb_ret ?_
        refine x_qs_ret ?_
        exact x_retR (rs := [.tmp 2]) (vs := [.bool false]) rfl ⟨rfl, trivial⟩ (fun w' hw' => by
            obtain rfl := of_some H
            exact ⟨rfl, hw'.ext⟩)
      · have H := of_if_f hb H
        refine c_skip ?_
        refine x_qb ?_
        refine x_qs ?_
        refine c_reg ?_
        refine ow_batch [.p, .p, .p] rfl ?_
        refine ow_nil ?_
        exact x_ql (RW.at (ihk1 (IntKind.i64.wrap (i6 + 1)) (H)) (fun _ h => St.sel [] rfl rfl h) ⟨rfl, rfl, trivial⟩)
    · have H := of_if_f hb H
      refine c_exit ?_
      refine x_qs_exit ?_
      refine x_ql_exit ?_
      refine x_qb_here ?_
      refine x_qs ?_
      refine c_seq ?_
      refine c_reg ?_
      refine ow_batch [.p] rfl ?_
      refine ow_nil ?_
      refine x_qs ?_
      refine c_ret ?_
      exact x_retR (rs := [.tmp 2]) (vs := [.bool true]) rfl ⟨rfl, trivial⟩ (fun w' hw' => by
          obtain rfl := of_some H
          exact ⟨rfl, hw'.ext⟩)

set_option maxHeartbeats 4000000 in
set_option maxRecDepth 100000 in
theorem impl_isCut_ok (w : World) {p0 : Int}  {r : Bool} (H : impl_isCut p0 = some r)   :
    Calls Try.prog 116 #[.int .i64 p0] w (fun en w' => en = .returned (.bool r) ∧ Ext [] w w') := by
  unfold impl_isCut at H
  refine f_enter (vs := [.int .i64 p0]) Try.func116 rfl Try.ntmps116 rfl (St.init w []) ?_
  refine c_seq ?_
  refine c_reg ?_
  refine ow_batch [.p] rfl ?_
  refine ow_nil ?_
  refine x_qs ?_
  refine c_seq ?_
  refine c_reg ?_
  refine ow_batch [.p] rfl ?_
  obtain ⟨y1, h2, H⟩ := of_bind H
  refine ow_q rfl rfl (dstOk_lt rfl) (qy_call rfl fn72 rfl (fun w1 hw1 => impl_within_ok w1  h2)) (fun _ _ => trivial) ?_
  refine ow_batch [.p] rfl ?_
  refine ow_nil ?_
  refine x_qs ?_
  refine c_ret ?_
  exact x_retR (rs := [.tmp 2]) (vs := [.bool y1]) rfl ⟨rfl, trivial⟩ (fun w' hw' => by
      obtain rfl := of_some H
      exact ⟨rfl, hw'.ext⟩)

set_option maxHeartbeats 4000000 in
set_option maxRecDepth 100000 in
theorem impl_CutsOk_1_ok (w : World) {p0 : Int}  {r : Bool} (H : impl_CutsOk_1 p0 = some r)   :
    Calls Try.prog 115 #[.int .i64 p0] w (fun en w' => en = .returned (.bool r) ∧ Ext [] w w') := by
  unfold impl_CutsOk_1 at H
  refine f_enter (vs := [.int .i64 p0]) Try.func115 rfl Try.ntmps115 rfl (St.init w []) ?_
  refine c_seq ?_
  refine c_reg ?_
  refine ow_batch [.p] rfl ?_
  refine ow_nil ?_
  refine x_qs ?_
  refine c_seq ?_
  refine c_reg ?_
  refine ow_batch [.p] rfl ?_
  obtain ⟨y1, h2, H⟩ := of_bind H
  refine ow_q rfl rfl (dstOk_lt rfl) (qy_call rfl fn116 rfl (fun w1 hw1 => impl_isCut_ok w1  h2)) (fun _ _ => trivial) ?_
  refine ow_batch [.p, .p] rfl ?_
  refine ow_nil ?_
  refine x_qs ?_
  refine c_ret ?_
  exact x_retR (rs := [.tmp 2]) (vs := [.bool (!y1)]) rfl ⟨rfl, trivial⟩ (fun w' hw' => by
      obtain rfl := of_some H
      exact ⟨rfl, hw'.ext⟩)

set_option maxHeartbeats 4000000 in
set_option maxRecDepth 100000 in
theorem lib_slices_IndexFunc___int_int___impl_CutsOk_1_ok (w : World) {p0 : List Int} {a_0 : Option Addr} {n_0 c_0 : Nat} {r : Int} (H : lib_slices_IndexFunc___int_int___impl_CutsOk_1 p0 = some r)  (g0 : (eList (eVal (Value.int .i64) (fun _ => rfl)) 3).rd w [] p0 [.slice a_0 n_0 c_0]) :
    Calls Try.prog 118 #[.slice a_0 n_0 c_0, .func (.func 115) #[] #[]] w (fun en w' => en = .returned (.int .i64 r) ∧ Ext [] w w') := by
  obtain rfl := rd_n g0
  unfold lib_slices_IndexFunc___int_int___impl_CutsOk_1 at H
  refine f_enter (vs := [.slice a_0 p0.length c_0, .func (.func 115) #[] #[]]) Try.func118 rfl Try.ntmps118 rfl (St.init w []) ?_
  refine c_seq ?_
  refine c_reg ?_
  refine ow_batch [.p] rfl ?_
  refine ow_nil ?_
  refine x_qs ?_
  refine c_seq ?_
  refine c_seq ?_
  refine c_reg ?_
  refine ow_batch [.p, .lenS 22 3 sl22, .p] rfl ?_
  refine ow_nil ?_
  refine x_qs ?_
  refine c_block ?_
  refine CW.at (loopI1 (fun (i6 : Int) => St w [] []) (fun (i6 : Int) => [(0, .slice a_0 p0.length c_0), (1, .func (.func 115) #[] #[]), (7, .int .i64 (p0.length : Int)), (8, .int .i64 i6)]) (fun kk => fun (i6 : Int) => lib_slices_IndexFunc___int_int___impl_CutsOk_1_L1 p0 kk i6 = some r) (fun _ H => ?_) (fun k1 ihk1 i6 H => ?_) Fuel (0) (H)) (fun _ h => St.sel [] rfl rfl h) ⟨rfl, rfl, rfl, rfl,  trivial⟩
  · unfold lib_slices_IndexFunc___int_int___impl_CutsOk_1_L1 at H
    exact absurd H (by simp)
  · unfold lib_slices_IndexFunc___int_int___impl_CutsOk_1_L1 at H
    refine c_seq ?_
    refine c_reg ?_
    refine ow_batch [.p] rfl ?_
    refine ow_nil ?_
    refine x_qs ?_
    refine c_seq ?_
    refine c_if rfl (fun hb => ?_) (fun hb => ?_)
    · have H := of_if_t hb H
      refine c_skip ?_
      refine x_qs ?_
      refine c_seq ?_
      refine c_block ?_
      refine c_seq ?_
      refine c_reg ?_
      refine ow_batch [.p, .p] rfl ?_
      refine ow_nil ?_
      refine x_qs ?_
      refine c_seq ?_
      refine c_reg ?_
      refine ow_batch [.p, .p, .p] rfl ?_
      obtain ⟨e12, h13, H⟩ := of_bind H
      refine ow_ixE (e := eVal (Value.int .i64) (fun _ => rfl)) (xs := p0) (j := i6) rfl rfl rfl rfl rfl sl22 ty3 rfl (fun w1 hw1 => rds_bor g0 w1 hw1) h13 (by rw [Nat.mul_one]) ?_
      refine ow_r rfl (dstOk_lt rfl) (ry_load1 rfl rfl ty3 (at_elV (fun w1 hw1 => rds_bor g0 w1 hw1) h13)) ?_
      obtain ⟨y14, h15, H⟩ := of_bind H
      refine ow_q rfl rfl (dstOk_lt rfl) (qy_callV (cap := []) rfl fn115 rfl rfl (fun w1 hw1 => impl_CutsOk_1_ok w1  h15)) (fun _ _ => trivial) ?_
      refine ow_nil ?_
      refine x_qs ?_
      refine c_if rfl (fun hb => ?_) (fun hb => ?_)
      · have H := of_if_t hb H
        refine c_seq ?_
        refine c_reg ?_
        refine ow_batch [.p, .p] rfl ?_
        refine ow_nil ?_
        refine x_qs ?_
        refine c_ret ?_
        refine x_qb_ret ?_
        refine x_qs_ret ?_
        refine x_ql_ret ?_
        refine x_qb_ret ?_
        refine x_qs_ret ?_
        exact x_retR (rs := [.tmp 4]) (vs := [.int .i64 i6]) rfl ⟨rfl, trivial⟩ (fun w' hw' => by
            obtain rfl := of_some H
            exact ⟨rfl, hw'.ext⟩)
      · have H := of_if_f hb H
        refine c_skip ?_
        refine x_qb ?_
        refine x_qs ?_
        refine c_reg ?_
        refine ow_batch [.p, .p] rfl ?_
        refine ow_nil ?_
        exact x_ql (RW.at (ihk1 (IntKind.i64.wrap (i6 + 1)) (H)) (fun _ h => St.sel [] rfl rfl h) ⟨rfl, rfl, rfl, rfl, trivial⟩)
    · have H := of_if_f hb H
      refine c_exit ?_
      refine x_qs_exit ?_
      refine x_ql_exit ?_
      refine x_qb_here ?_
      refine x_qs ?_
      refine c_seq ?_
      refine c_reg ?_
      refine ow_batch [.p] rfl ?_
      refine ow_nil ?_
      refine x_qs ?_
      refine c_ret ?_
      exact x_retR (rs := [.tmp 4]) (vs := [.int .i64 (-1)]) rfl ⟨rfl, trivial⟩ (fun w' hw' => by
          obtain rfl := of_some H
          exact ⟨rfl, hw'.ext⟩)

set_option maxHeartbeats 4000000 in
set_option maxRecDepth 100000 in
theorem lib_slices_ContainsFunc___int_int___impl_CutsOk_1_ok (w : World) {p0 : List Int} {a_0 : Option Addr} {n_0 c_0 : Nat} {r : Bool} (H : lib_slices_ContainsFunc___int_int___impl_CutsOk_1 p0 = some r)  (g0 : (eList (eVal (Value.int .i64) (fun _ => rfl)) 3).rd w [] p0 [.slice a_0 n_0 c_0]) :
    Calls Try.prog 114 #[.slice a_0 n_0 c_0, .func (.func 115) #[] #[]] w (fun en w' => en = .returned (.bool r) ∧ Ext [] w w') := by
  obtain rfl := rd_n g0
  unfold lib_slices_ContainsFunc___int_int___impl_CutsOk_1 at H
  refine f_enter (vs := [.slice a_0 p0.length c_0, .func (.func 115) #[] #[]]) Try.func114 rfl Try.ntmps114 rfl (St.init w []) ?_
  refine c_seq ?_
  refine c_reg ?_
  refine ow_batch [.p] rfl ?_
  refine ow_nil ?_
  refine x_qs ?_
  refine c_seq ?_
  refine c_reg ?_
  refine ow_batch [.p, .p] rfl ?_
  obtain ⟨y1, h2, H⟩ := of_bind H
  refine ow_q rfl rfl (dstOk_lt rfl) (qy_call rfl fn118 rfl (fun w1 hw1 => lib_slices_IndexFunc___int_int___impl_CutsOk_1_ok w1  h2 (rds_bor g0 w1 hw1))) (fun _ _ => trivial) ?_
  refine ow_batch [.p, .p] rfl ?_
  refine ow_nil ?_
  refine x_qs ?_
  refine c_ret ?_
  exact x_retR (rs := [.tmp 4]) (vs := [.bool (decide (y1 ≥ 0))]) rfl ⟨rfl, trivial⟩ (fun w' hw' => by
      obtain rfl := of_some H
      exact ⟨rfl, hw'.ext⟩)

set_option maxHeartbeats 4000000 in
set_option maxRecDepth 100000 in
theorem impl_CutsOk_ok (w : World) {p0 : List Int} {a_0 : Option Addr} {n_0 c_0 : Nat} {r : Bool} (H : impl_CutsOk p0 = some r)  (g0 : (eList (eVal (Value.int .i64) (fun _ => rfl)) 3).rd w [] p0 [.slice a_0 n_0 c_0]) :
    Calls Try.prog 108 #[.slice a_0 n_0 c_0] w (fun en w' => en = .returned (.bool r) ∧ Ext [] w w') := by
  obtain rfl := rd_n g0
  unfold impl_CutsOk at H
  refine f_enter (vs := [.slice a_0 p0.length c_0]) Try.func108 rfl Try.ntmps108 rfl (St.init w []) ?_
  refine c_seq ?_
  refine c_reg ?_
  refine ow_batch [.p] rfl ?_
  refine ow_nil ?_
  refine x_qs ?_
  refine c_seq ?_
  refine c_reg ?_
  refine ow_batch [.p, .lenS 22 3 sl22] rfl ?_
  obtain ⟨y1, h2, H⟩ := of_bind H
  refine ow_q rfl rfl (dstOk_lt rfl) (qy_call rfl fn72 rfl (fun w1 hw1 => impl_within_ok w1  h2)) (fun _ _ => trivial) ?_
  refine ow_batch [.p] rfl ?_
  obtain ⟨u3, hu7, H⟩ := of_bind H
  refine ow_cut [(9, .bool u3), (0, .slice a_0 p0.length c_0), (2, .bool false)] 3 ?_ (fun key => OW.sub (R := [(0, .slice a_0 p0.length c_0), (2, .bool false), (6, .bool y1)]) ?_ ⟨rfl, rfl, rfl, trivial⟩)
  · refine ow_batch [.p] rfl ?_
    obtain ⟨u9, hu13, H⟩ := of_bind H
    refine ow_cut [(14, .bool u9), (2, .bool false)] 4 ?_ (fun key => OW.sub (R := [(0, .slice a_0 p0.length c_0), (2, .bool false), (10, .bool u3)]) ?_ ⟨rfl, rfl, rfl, trivial⟩)
    · refine ow_batch [.p] rfl ?_
      refine ow_nil ?_
      refine x_qs ?_
      refine c_ret ?_
      exact x_retR (rs := [.tmp 2]) (vs := [.bool u9]) rfl ⟨rfl, trivial⟩ (fun w' hw' => by
          obtain rfl := of_some H
          exact ⟨rfl, hw'.ext⟩)
    · clear H
      have H := hu13
      clear hu13
      generalize u3 = t12 at H ⊢
      cases t12
      · have H := of_if_f rfl H
        refine ow_batch [.p, .p, .p, .p] rfl ?_
        obtain rfl := of_some H
        exact OW.sub key ⟨rfl, rfl, trivial⟩
      · have H := of_if_t rfl H
        refine ow_batch [.p] rfl ?_
        obtain ⟨y10, h11, H⟩ := of_bind H
        refine ow_q rfl rfl (dstOk_lt rfl) (qy_call rfl fn114 rfl (fun w1 hw1 => lib_slices_ContainsFunc___int_int___impl_CutsOk_1_ok w1  h11 (rds_bor g0 w1 hw1))) (fun _ _ => trivial) ?_
        refine ow_batch [.p] rfl ?_
        refine ow_batch [.p] rfl ?_
        obtain rfl := of_some H
        exact OW.sub key ⟨rfl, rfl, trivial⟩
  · clear H
    have H := hu7
    clear hu7
    generalize y1 = t6 at H ⊢
    cases t6
    · have H := of_if_f rfl H
      refine ow_batch [.p, .p, .p] rfl ?_
      obtain rfl := of_some H
      exact OW.sub key ⟨rfl, rfl, rfl, trivial⟩
    · have H := of_if_t rfl H
      refine ow_batch [.p] rfl ?_
      obtain ⟨y4, h5, H⟩ := of_bind H
      refine ow_q rfl rfl (dstOk_lt rfl) (qy_call rfl fn113 rfl (fun w1 hw1 => impl_ascending_ok w1  h5 (rds_bor g0 w1 hw1))) (fun _ _ => trivial) ?_
      refine ow_batch [.p] rfl ?_
      obtain rfl := of_some H
      exact OW.sub key ⟨rfl, rfl, rfl, trivial⟩

set_option maxHeartbeats 4000000 in
set_option maxRecDepth 100000 in
theorem impl_AttrOk_ok (w : World) {p0 : Timpl_Attr} {cs0 : List Value} {r : Bool} (H : impl_AttrOk p0 = some r)  (g0 : (eTimpl_Attr).rd w [] p0 cs0) :
    Calls Try.prog 62 #[.agg cs0.toArray] w (fun en w' => en = .returned (.bool r) ∧ Ext [] w w') := by
  obtain ⟨c1, c2, c3, rfl, g4, g5, g6⟩ := rdo_Timpl_Attr g0
  obtain rfl : c1 = [vS p0.Name_] := g4
  obtain ⟨a7, c8, rfl⟩ := rd_sl1 g5
  obtain ⟨a9, c10, rfl⟩ := rd_sl1 g6
  unfold impl_AttrOk at H
  refine f_enter (vs := [.agg #[vS p0.Name_, .slice a7 p0.Cuts_.length c8, .slice a9 p0.Values_.length c10]]) Try.func62 rfl Try.ntmps62 rfl (St.init w []) ?_
  refine c_seq ?_
  refine c_reg ?_
  refine ow_box (cs := [vS p0.Name_, .slice a7 p0.Cuts_.length c8, .slice a9 p0.Values_.length c10]) rfl rfl rfl rfl rfl rfl (fun _ => kp) (fun b11 => ?_)
  refine ow_batch [.p] rfl ?_
  refine ow_nil ?_
  refine x_qs ?_
  refine c_seq ?_
  refine c_seq ?_
  refine c_reg ?_
  refine ow_batch [.fa 28 0 0 fa28_0] rfl ?_
  refine ow_r rfl (dstOk_lt rfl) (ry_box1 (off := 0) rfl rfl ty9 (boxIn (i := 0) rfl) rfl) ?_
  obtain ⟨y12, h13, H⟩ := of_bind H
  refine ow_q rfl rfl (dstOk_lt rfl) (qy_call rfl fn106 rfl (fun w1 hw1 => impl_WordOk_ok w1  h13)) (fun _ _ => trivial) ?_
  refine ow_batch [.p] rfl ?_
  refine ow_nil ?_
  refine x_qs ?_
  refine c_if rfl (fun hb => ?_) (fun hb => ?_)
  · have H := of_if_t hb H
    refine c_seq ?_
    refine c_reg ?_
    refine ow_batch [.p] rfl ?_
    refine ow_nil ?_
    refine x_qs ?_
    refine c_ret ?_
    refine x_qs_ret ?_
    exact x_retR (rs := [.tmp 2]) (vs := [.bool false]) rfl ⟨rfl, trivial⟩ (fun w' hw' => by
        obtain rfl := of_some H
        exact ⟨rfl, hw'.ext⟩)
  · have H := of_if_f hb H
    refine c_skip ?_
    refine x_qs ?_
    refine c_seq ?_
    refine c_seq ?_
    refine c_reg ?_
    refine ow_batch [.fa 28 1 1 fa28_1] rfl ?_
    refine ow_r rfl (dstOk_lt rfl) (ry_box1 (off := 1) rfl rfl ty22 (boxIn (i := 0) rfl) rfl) ?_
    refine ow_batch [.lenS 22 3 sl22, .p] rfl ?_
    refine ow_nil ?_
    refine x_qs ?_
    refine c_if rfl (fun hb => ?_) (fun hb => ?_)
    · have H := of_if_t hb H
      refine c_seq ?_
      refine c_reg ?_
      refine ow_batch [.fa 28 2 2 fa28_2] rfl ?_
      refine ow_r rfl (dstOk_lt rfl) (ry_box1 (off := 2) rfl rfl ty23 (boxIn (i := 0) rfl) rfl) ?_
      refine ow_batch [.lenS 23 9 sl23] rfl ?_
      obtain ⟨y14, h15, H⟩ := of_bind H
      refine ow_q rfl rfl (dstOk_lt rfl) (qy_call rfl fn72 rfl (fun w1 hw1 => impl_within_ok w1  h15)) (fun _ _ => trivial) ?_
      refine ow_batch [.p] rfl ?_
      obtain ⟨u17, hu21, H⟩ := of_bind H
      refine ow_cut [(19, .bool u17), (2, .bool false)] 4 ?_ (fun key => OW.sub (R := [(1, .pointer (some ⟨b11, 0, none⟩)), (2, .bool false), (15, .bool y14)]) ?_ ⟨rfl, rfl, rfl, trivial⟩)
      · refine ow_batch [.p] rfl ?_
        refine ow_nil ?_
        refine x_qs ?_
        refine c_ret ?_
        refine x_qs_ret ?_
        exact x_retR (rs := [.tmp 2]) (vs := [.bool u17]) rfl ⟨rfl, trivial⟩ (fun w' hw' => by
            obtain rfl := of_some H
            exact ⟨rfl, hw'.ext⟩)
      · clear H
        have H := hu21
        clear hu21
        generalize y14 = t20 at H ⊢
        cases t20
        · have H := of_if_f rfl H
          refine ow_batch [.p, .p, .p, .p] rfl ?_
          obtain rfl := of_some H
          exact OW.sub key ⟨rfl, rfl, trivial⟩
        · have H := of_if_t rfl H
          refine ow_batch [.fa 28 2 2 fa28_2] rfl ?_
          refine ow_r rfl (dstOk_lt rfl) (ry_box1 (off := 2) rfl rfl ty23 (boxIn (i := 0) rfl) rfl) ?_
          obtain ⟨y18, h19, H⟩ := of_bind H
          refine ow_q rfl rfl (dstOk_lt rfl) (qy_call rfl fn107 rfl (fun w1 hw1 => impl_distinctWords_ok w1  h19 (rds_bor g6 w1 hw1))) (fun _ _ => trivial) ?_
          refine ow_batch [.p] rfl ?_
          obtain rfl := of_some H
          exact OW.sub key ⟨rfl, rfl, trivial⟩
    · have H := of_if_f hb H
      refine c_skip ?_
      refine x_qs ?_
      refine c_seq ?_
      refine c_reg ?_
      refine ow_batch [.fa 28 2 2 fa28_2] rfl ?_
      refine ow_r rfl (dstOk_lt rfl) (ry_box1 (off := 2) rfl rfl ty23 (boxIn (i := 0) rfl) rfl) ?_
      refine ow_batch [.lenS 23 9 sl23, .p, .p] rfl ?_
      obtain ⟨u22, hu26, H⟩ := of_bind H
      refine ow_cut [(28, .bool u22), (2, .bool false)] 4 ?_ (fun key => OW.sub (R := [(1, .pointer (some ⟨b11, 0, none⟩)), (2, .bool false), (24, .bool ((p0.Values_.length : Int) == 0))]) ?_ ⟨rfl, rfl, rfl, trivial⟩)
      · refine ow_batch [.p] rfl ?_
        refine ow_nil ?_
        refine x_qs ?_
        refine c_ret ?_
        exact x_retR (rs := [.tmp 2]) (vs := [.bool u22]) rfl ⟨rfl, trivial⟩ (fun w' hw' => by
            obtain rfl := of_some H
            exact ⟨rfl, hw'.ext⟩)
      · clear H
        have H := hu26
        clear hu26
        generalize ((p0.Values_.length : Int) == 0) = t25 at H ⊢
        cases t25
        · have H := of_if_f rfl H
          refine ow_batch [.p, .p, .p, .p] rfl ?_
          obtain rfl := of_some H
          exact OW.sub key ⟨rfl, rfl, trivial⟩
        · have H := of_if_t rfl H
          refine ow_batch [.fa 28 1 1 fa28_1] rfl ?_
          refine ow_r rfl (dstOk_lt rfl) (ry_box1 (off := 1) rfl rfl ty22 (boxIn (i := 0) rfl) rfl) ?_
          obtain ⟨y23, h24, H⟩ := of_bind H
          refine ow_q rfl rfl (dstOk_lt rfl) (qy_call rfl fn108 rfl (fun w1 hw1 => impl_CutsOk_ok w1  h24 (rds_bor g5 w1 hw1))) (fun _ _ => trivial) ?_
          refine ow_batch [.p] rfl ?_
          obtain rfl := of_some H
          exact OW.sub key ⟨rfl, rfl, trivial⟩

set_option maxHeartbeats 4000000 in
set_option maxRecDepth 100000 in
theorem impl_SchemaOk_ok (w : World) {p0 : Timpl_Schema} {cs0 : List Value} {r : Bool} (H : impl_SchemaOk p0 = some r)  (g0 : (eTimpl_Schema).rd w [] p0 cs0) :
    Calls Try.prog 69 #[.agg cs0.toArray] w (fun en w' => en = .returned (.bool r) ∧ Ext [] w w') := by
  obtain ⟨c1, c2, rfl, g3, g4⟩ := rdo_Timpl_Schema g0
  obtain ⟨a5, c6, rfl⟩ := rd_sl1 g3
  obtain ⟨a7, c8, rfl⟩ := rd_sl1 g4
  unfold impl_SchemaOk at H
  refine f_enter (vs := [.agg #[.slice a5 p0.Attrs_.length c6, .slice a7 p0.Classes_.length c8]]) Try.func69 rfl Try.ntmps69 rfl (St.init w []) ?_
  refine c_seq ?_
  refine c_reg ?_
  refine ow_box (cs := [.slice a5 p0.Attrs_.length c6, .slice a7 p0.Classes_.length c8]) rfl rfl rfl rfl rfl rfl (fun _ => kp) (fun b9 => ?_)
  refine ow_batch [.p] rfl ?_
  refine ow_nil ?_
  refine x_qs ?_
  refine c_seq ?_
  refine c_seq ?_
  refine c_reg ?_
  refine ow_batch [.fa 39 0 0 fa39_0] rfl ?_
  refine ow_r rfl (dstOk_lt rfl) (ry_box1 (off := 0) rfl rfl ty37 (boxIn (i := 0) rfl) rfl) ?_
  refine ow_batch [.lenS 37 28 sl37] rfl ?_
  obtain ⟨y10, h11, H⟩ := of_bind H
  refine ow_q rfl rfl (dstOk_lt rfl) (qy_call rfl fn72 rfl (fun w1 hw1 => impl_within_ok w1  h11)) (fun _ _ => trivial) ?_
  refine ow_batch [.p, .p] rfl ?_
  obtain ⟨u12, hu16, H⟩ := of_bind H
  refine ow_cut [(17, .bool u12), (1, .pointer (some ⟨b9, 0, none⟩))] 6 ?_ (fun key => OW.sub (R := [(1, .pointer (some ⟨b9, 0, none⟩)), (11, .bool (!y10))]) ?_ ⟨rfl, rfl, trivial⟩)
  · refine ow_batch [.p] rfl ?_
    obtain ⟨u17, hu21, H⟩ := of_bind H
    refine ow_cut [(23, .bool u17), (1, .pointer (some ⟨b9, 0, none⟩))] 5 ?_ (fun key => OW.sub (R := [(1, .pointer (some ⟨b9, 0, none⟩)), (18, .bool u12)]) ?_ ⟨rfl, rfl, trivial⟩)
    · refine ow_nil ?_
      refine x_qs ?_
      refine c_if rfl (fun hb => ?_) (fun hb => ?_)
      · have H := of_if_t hb H
        refine c_seq ?_
        refine c_reg ?_
        refine ow_batch [.p] rfl ?_
        refine ow_nil ?_
        refine x_qs ?_
        refine c_ret ?_
        refine x_qs_ret ?_
        exact x_retR (rs := [.tmp 2]) (vs := [.bool false]) rfl ⟨rfl, trivial⟩ (fun w' hw' => by
            obtain rfl := of_some H
            exact ⟨rfl, hw'.ext⟩)
      · have H := of_if_f hb H
        refine c_skip ?_
        refine x_qs ?_
        refine c_seq ?_
        refine c_reg ?_
        refine ow_blit0 (e := eStr) rfl rfl rfl rfl sl23 ty9 (fun _ => kp) (fun b22 => ?_)
        refine ow_batch [.p] rfl ?_
        refine ow_nil ?_
        refine x_qs ?_
        refine c_seq ?_
        refine c_seq ?_
        refine c_reg ?_
        refine ow_batch [.fa 39 0 0 fa39_0] rfl ?_
        refine ow_r rfl (dstOk_lt rfl) (ry_box1 (off := 0) rfl rfl ty37 (boxIn (i := 0) rfl) rfl) ?_
        refine ow_batch [.lenS 37 28 sl37, .p] rfl ?_
        refine ow_nil ?_
        refine x_qs ?_
        refine c_block ?_
        refine CW.at (loopI5 (fun (i54 : Int) (l55 : List (List UInt8)) (a56 : Option Addr) (c57 : Nat) (F58 : List Nat) => St w [] [Res.own (eList (eStr) 9) F58 l55 [.slice a56 l55.length c57]]) (fun (i54 : Int) (l55 : List (List UInt8)) (a56 : Option Addr) (c57 : Nat) (F58 : List Nat) => [(3, .slice a56 l55.length c57), (26, .slice a5 p0.Attrs_.length c6), (27, .int .i64 (p0.Attrs_.length : Int)), (28, .int .i64 i54)]) (fun kk => fun (i54 : Int) (l55 : List (List UInt8)) (a56 : Option Addr) (c57 : Nat) (F58 : List Nat) => impl_SchemaOk_L1 p0 kk i54 l55 = some r) (fun _ _ _ _ _ H => ?_) (fun k1 ihk1 i54 l55 a56 c57 F58 H => ?_) Fuel (0) (([] : List (List UInt8))) ((some ⟨b22, 0, none⟩)) (0) ([b22]) (H)) (fun _ h => St.sel [1] rfl rfl h) ⟨rfl, rfl, rfl, rfl,  trivial⟩
        · unfold impl_SchemaOk_L1 at H
          exact absurd H (by simp)
        · unfold impl_SchemaOk_L1 at H
          refine c_seq ?_
          refine c_reg ?_
          refine ow_batch [.p] rfl ?_
          refine ow_nil ?_
          refine x_qs ?_
          refine c_seq ?_
          refine c_if rfl (fun hb => ?_) (fun hb => ?_)
          · have H := of_if_t hb H
            refine c_skip ?_
            refine x_qs ?_
            refine c_seq ?_
            refine c_block ?_
            refine c_seq ?_
            refine c_reg ?_
            obtain ⟨e90, h91, H⟩ := of_bind H
            refine ow_ixB rfl rfl rfl rfl rfl sl37 ty28 rfl g3 h91 (fun q94 c95 hd92 hA93 => ?_)
            obtain ⟨c96, c97, c98, rfl, g99, g100, g101⟩ := rdo_Timpl_Attr hd92
            obtain rfl : c96 = [vS e90.Name_] := g99
            obtain ⟨a102, c103, rfl⟩ := rd_sl1 g100
            obtain ⟨a104, c105, rfl⟩ := rd_sl1 g101
            refine ow_r rfl (dstOk_lt rfl) (ry_load (cs := [vS e90.Name_, .slice a102 e90.Cuts_.length c103, .slice a104 e90.Values_.length c105]) rfl rfl ty28 (at_bor bor hA93) rfl) ?_
            refine ow_alloc rfl rfl rfl rfl ty28 (fun _ => kp) (fun b106 => ?_)
            refine ow_storeC (off := 0) [vS e90.Name_, .slice a102 e90.Cuts_.length c103, .slice a104 e90.Values_.length c105] [_, _, _] (i := 1) rfl rfl rfl rfl rfl rfl ty28 rfl rfl (by intro u hu; simp only [List.mem_cons, List.not_mem_nil, or_false] at hu; rcases hu with rfl | rfl | rfl <;> rfl) rfl rfl rfl kp ?_
            refine ow_nil ?_
            refine x_qs ?_
            refine c_seq ?_
            refine c_seq ?_
            refine c_reg ?_
            refine ow_r rfl (dstOk_lt rfl) (ry_box (off := 0) (ds := [vS e90.Name_, .slice a102 e90.Cuts_.length c103, .slice a104 e90.Values_.length c105]) rfl rfl ty28 (boxIn (i := 1) rfl) rfl rfl) ?_
            obtain ⟨y107, h108, H⟩ := of_bind H
            refine ow_q rfl rfl (dstOk_lt rfl) (qy_call rfl fn62 rfl (fun w1 hw1 => impl_AttrOk_ok w1 (cs0 := [vS e90.Name_, .slice a102 e90.Cuts_.length c103, .slice a104 e90.Values_.length c105]) h108 (rdm_Timpl_Attr (x := e90) (c0 := [vS e90.Name_]) (c1 := [.slice a102 e90.Cuts_.length c103]) (c2 := [.slice a104 e90.Values_.length c105]) rfl (rds_bor g100 w1 hw1) (rds_bor g101 w1 hw1)))) (fun _ _ => trivial) ?_
            refine ow_batch [.p] rfl ?_
            refine ow_nil ?_
            refine x_qs ?_
            refine c_if rfl (fun hb => ?_) (fun hb => ?_)
            · have H := of_if_t hb H
              refine c_seq ?_
              refine c_reg ?_
              refine ow_batch [.p] rfl ?_
              refine ow_nil ?_
              refine x_qs ?_
              refine c_ret ?_
              refine x_qs_ret ?_
              refine x_qb_ret ?_
              refine x_qs_ret ?_
              refine x_ql_ret ?_
              refine x_qb_ret ?_
              refine x_qs_ret ?_
              exact x_retR (rs := [.tmp 2]) (vs := [.bool false]) rfl ⟨rfl, trivial⟩ (fun w' hw' => by
                  obtain rfl := of_some H
                  exact ⟨rfl, hw'.ext⟩)
            · have H := of_if_f hb H
              refine c_skip ?_
              refine x_qs ?_
              refine c_reg ?_
              refine ow_batch [.p, .fa 28 0 0 fa28_0] rfl ?_
              refine ow_r rfl (dstOk_lt rfl) (ry_box1 (off := 0) rfl rfl ty9 (boxIn (i := 1) rfl) rfl) ?_
              refine ow_blit (val := vS) (h1 := fun _ => rfl) [e90.Name_] [(0, [vS e90.Name_])] rfl rfl rfl rfl rfl sl23 ty9 rfl rfl rfl ⟨rfl, rfl, Nat.le_of_ble_eq_true rfl,  trivial⟩ rfl rfl (fun _ => kp) (fun b109 => ?_)
              obtain ⟨l110, h111, H⟩ := of_bind H
              refine ow_appR (r := 0) (ys := ([e90.Name_] : List (List UInt8))) rfl rfl rfl rfl rfl rfl sl23 ty9 rfl rfl rfl (fun w1 hw1 => rds_own (r := 2) rfl w1 hw1) h111 (fun _ _ _ => kp) (fun a112 c113 F114 => ?_)
              refine ow_fact rfl (fun w1 hw1 => own_nn (i := 0) hw1 rfl (app_ne h111)) (fun hz115 => ?_)
              refine ow_batch [.p] rfl ?_
              refine ow_nil ?_
              refine x_qb ?_
              refine x_qs ?_
              refine c_reg ?_
              refine ow_batch [.p, .p] rfl ?_
              refine ow_nil ?_
              exact x_ql (RW.at (ihk1 (IntKind.i64.wrap (i54 + 1)) (l110) (a112) (c113) (F114) (H)) (fun _ h => St.sel [0] rfl rfl h) ⟨rfl, rfl, rfl, rfl, trivial⟩)
          · have H := of_if_f hb H
            refine c_exit ?_
            refine x_qs_exit ?_
            refine x_ql_exit ?_
            refine x_qb_here ?_
            refine x_qs ?_
            refine c_seq ?_
            refine c_reg ?_
            refine ow_batch [.p] rfl ?_
            obtain ⟨y116, h117, H⟩ := of_bind H
            refine ow_q rfl rfl (dstOk_lt rfl) (qy_call rfl fn107 rfl (fun w1 hw1 => impl_distinctWords_ok w1  h117 (rds_own (r := 0) rfl w1 hw1))) (fun _ _ => trivial) ?_
            refine ow_batch [.p] rfl ?_
            refine ow_nil ?_
            refine x_qs ?_
            refine c_ret ?_
            exact x_retR (rs := [.tmp 2]) (vs := [.bool y116]) rfl ⟨rfl, trivial⟩ (fun w' hw' => by
                obtain rfl := of_some H
                exact ⟨rfl, hw'.ext⟩)
    · clear H
      have H := hu21
      clear hu21
      generalize u12 = t20 at H ⊢
      cases t20
      · have H := of_if_f rfl H
        refine ow_batch [.fa 39 1 1 fa39_1] rfl ?_
        refine ow_r rfl (dstOk_lt rfl) (ry_box1 (off := 1) rfl rfl ty23 (boxIn (i := 0) rfl) rfl) ?_
        obtain ⟨y18, h19, H⟩ := of_bind H
        refine ow_q rfl rfl (dstOk_lt rfl) (qy_call rfl fn107 rfl (fun w1 hw1 => impl_distinctWords_ok w1  h19 (rds_bor g4 w1 hw1))) (fun _ _ => trivial) ?_
        refine ow_batch [.p] rfl ?_
        refine ow_batch [.p] rfl ?_
        obtain rfl := of_some H
        exact OW.sub key ⟨rfl, rfl, trivial⟩
      · have H := of_if_t rfl H
        refine ow_batch [.p, .p, .p, .p, .p] rfl ?_
        obtain rfl := of_some H
        exact OW.sub key ⟨rfl, rfl, trivial⟩
  · clear H
    have H := hu16
    clear hu16
    generalize (!y10) = t15 at H ⊢
    cases t15
    · have H := of_if_f rfl H
      refine ow_batch [.fa 39 1 1 fa39_1] rfl ?_
      refine ow_r rfl (dstOk_lt rfl) (ry_box1 (off := 1) rfl rfl ty23 (boxIn (i := 0) rfl) rfl) ?_
      refine ow_batch [.lenS 23 9 sl23] rfl ?_
      obtain ⟨y13, h14, H⟩ := of_bind H
      refine ow_q rfl rfl (dstOk_lt rfl) (qy_call rfl fn72 rfl (fun w1 hw1 => impl_within_ok w1  h14)) (fun _ _ => trivial) ?_
      refine ow_batch [.p] rfl ?_
      refine ow_batch [.p] rfl ?_
      obtain rfl := of_some H
      exact OW.sub key ⟨rfl, rfl, trivial⟩
    · have H := of_if_t rfl H
      refine ow_batch [.p, .p, .p, .p, .p, .p] rfl ?_
      obtain rfl := of_some H
      exact OW.sub key ⟨rfl, rfl, trivial⟩

set_option maxHeartbeats 4000000 in
set_option maxRecDepth 100000 in
theorem impl_bins_ok (w : World) {p0 : Timpl_Attr} {cs0 : List Value} {r : Int} (H : impl_bins p0 = some r)  (g0 : (eTimpl_Attr).rd w [] p0 cs0) :
    Calls Try.prog 63 #[.agg cs0.toArray] w (fun en w' => en = .returned (.int .i64 r) ∧ Ext [] w w') := by
  obtain ⟨c1, c2, c3, rfl, g4, g5, g6⟩ := rdo_Timpl_Attr g0
  obtain rfl : c1 = [vS p0.Name_] := g4
  obtain ⟨a7, c8, rfl⟩ := rd_sl1 g5
  obtain ⟨a9, c10, rfl⟩ := rd_sl1 g6
  unfold impl_bins at H
  refine f_enter (vs := [.agg #[vS p0.Name_, .slice a7 p0.Cuts_.length c8, .slice a9 p0.Values_.length c10]]) Try.func63 rfl Try.ntmps63 rfl (St.init w []) ?_
  refine c_seq ?_
  refine c_reg ?_
  refine ow_box (cs := [vS p0.Name_, .slice a7 p0.Cuts_.length c8, .slice a9 p0.Values_.length c10]) rfl rfl rfl rfl rfl rfl (fun _ => kp) (fun b11 => ?_)
  refine ow_batch [.p] rfl ?_
  refine ow_nil ?_
  refine x_qs ?_
  refine c_seq ?_
  refine c_seq ?_
  refine c_reg ?_
  refine ow_batch [.fa 28 1 1 fa28_1] rfl ?_
  refine ow_r rfl (dstOk_lt rfl) (ry_box1 (off := 1) rfl rfl ty22 (boxIn (i := 0) rfl) rfl) ?_
  refine ow_batch [.lenS 22 3 sl22, .p] rfl ?_
  refine ow_nil ?_
  refine x_qs ?_
  refine c_if rfl (fun hb => ?_) (fun hb => ?_)
  · have H := of_if_t hb H
    refine c_seq ?_
    refine c_reg ?_
    refine ow_batch [.fa 28 1 1 fa28_1] rfl ?_
    refine ow_r rfl (dstOk_lt rfl) (ry_box1 (off := 1) rfl rfl ty22 (boxIn (i := 0) rfl) rfl) ?_
    refine ow_batch [.lenS 22 3 sl22, .p, .p] rfl ?_
    refine ow_nil ?_
    refine x_qs ?_
    refine c_ret ?_
    refine x_qs_ret ?_
    exact x_retR (rs := [.tmp 2]) (vs := [.int .i64 (IntKind.i64.wrap ((p0.Cuts_.length : Int) + 1))]) rfl ⟨rfl, trivial⟩ (fun w' hw' => by
        obtain rfl := of_some H
        exact ⟨rfl, hw'.ext⟩)
  · have H := of_if_f hb H
    refine c_skip ?_
    refine x_qs ?_
    refine c_seq ?_
    refine c_reg ?_
    refine ow_batch [.fa 28 2 2 fa28_2] rfl ?_
    refine ow_r rfl (dstOk_lt rfl) (ry_box1 (off := 2) rfl rfl ty23 (boxIn (i := 0) rfl) rfl) ?_
    refine ow_batch [.lenS 23 9 sl23, .p] rfl ?_
    refine ow_nil ?_
    refine x_qs ?_
    refine c_ret ?_
    exact x_retR (rs := [.tmp 2]) (vs := [.int .i64 (p0.Values_.length : Int)]) rfl ⟨rfl, trivial⟩ (fun w' hw' => by
        obtain rfl := of_some H
        exact ⟨rfl, hw'.ext⟩)

set_option maxHeartbeats 4000000 in
set_option maxRecDepth 100000 in
theorem laws_eqIntS_ok (w : World) {p0 : List Int} {p1 : List Int} {a_0 : Option Addr} {n_0 c_0 : Nat} {a_1 : Option Addr} {n_1 c_1 : Nat} {r : Bool} (H : laws_eqIntS p0 p1 = some r)  (g0 : (eList (eVal (Value.int .i64) (fun _ => rfl)) 3).rd w [] p0 [.slice a_0 n_0 c_0]) (g1 : (eList (eVal (Value.int .i64) (fun _ => rfl)) 3).rd w [] p1 [.slice a_1 n_1 c_1]) :
    Calls Try.prog 64 #[.slice a_0 n_0 c_0, .slice a_1 n_1 c_1] w (fun en w' => en = .returned (.bool r) ∧ Ext [] w w') := by
  obtain rfl := rd_n g0
  obtain rfl := rd_n g1
  unfold laws_eqIntS at H
  refine f_enter (vs := [.slice a_0 p0.length c_0, .slice a_1 p1.length c_1]) Try.func64 rfl Try.ntmps64 rfl (St.init w []) ?_
  refine c_seq ?_
  refine c_reg ?_
  refine ow_batch [.p] rfl ?_
  refine ow_nil ?_
  refine x_qs ?_
  refine c_seq ?_
  refine c_seq ?_
  refine c_reg ?_
  refine ow_batch [.p, .lenS 22 3 sl22, .p, .lenS 22 3 sl22, .p] rfl ?_
  refine ow_nil ?_
  refine x_qs ?_
  refine c_if rfl (fun hb => ?_) (fun hb => ?_)
  · have H := of_if_t hb H
    refine c_seq ?_
    refine c_reg ?_
    refine ow_batch [.p] rfl ?_
    refine ow_nil ?_
    refine x_qs ?_
    refine c_ret ?_
    refine x_qs_ret ?_
    exact x_retR (rs := [.tmp 4]) (vs := [.bool false]) rfl ⟨rfl, trivial⟩ (fun w' hw' => by
        obtain rfl := of_some H
        exact ⟨rfl, hw'.ext⟩)
  · have H := of_if_f hb H
    refine c_skip ?_
    refine x_qs ?_
    refine c_seq ?_
    refine c_seq ?_
    refine c_reg ?_
    refine ow_batch [.p] rfl ?_
    refine ow_nil ?_
    refine x_qs ?_
    refine c_block ?_
    refine CW.at (loopI1 (fun (i6 : Int) => St w [] []) (fun (i6 : Int) => [(0, .slice a_0 p0.length c_0), (1, .slice a_1 p1.length c_1), (5, .int .i64 i6)]) (fun kk => fun (i6 : Int) => laws_eqIntS_L1 p0 p1 kk i6 = some r) (fun _ H => ?_) (fun k1 ihk1 i6 H => ?_) Fuel (0) (H)) (fun _ h => St.sel [] rfl rfl h) ⟨rfl, rfl, rfl,  trivial⟩
    · unfold laws_eqIntS_L1 at H
      exact absurd H (by simp)
    · unfold laws_eqIntS_L1 at H
      refine c_seq ?_
      refine c_seq ?_
      refine c_reg ?_
      refine ow_batch [.p, .p, .lenS 22 3 sl22, .p] rfl ?_
      refine ow_nil ?_
      refine x_qs ?_
      refine c_if rfl (fun hb => ?_) (fun hb => ?_)
      · have H := of_if_t hb H
        refine c_skip ?_
        refine x_qs ?_
        refine c_seq ?_
        refine c_block ?_
        refine c_seq ?_
        refine c_regQ mixed (by kernel_rfl) ?_
        refine ow_batch [.p, .p] rfl ?_
        obtain ⟨e12, h13, H⟩ := of_bind H
        refine ow_ixE (e := eVal (Value.int .i64) (fun _ => rfl)) (xs := p0) (j := i6) rfl rfl rfl rfl rfl sl22 ty3 rfl (fun w1 hw1 => rds_bor g0 w1 hw1) h13 (by rw [Nat.mul_one]) ?_
        refine ow_r rfl (dstOk_lt rfl) (ry_load1 rfl rfl ty3 (at_elV (fun w1 hw1 => rds_bor g0 w1 hw1) h13)) ?_
        refine ow_batch [.p, .p] rfl ?_
        obtain ⟨e14, h15, H⟩ := of_bind H
        refine ow_ixE (e := eVal (Value.int .i64) (fun _ => rfl)) (xs := p1) (j := i6) rfl rfl rfl rfl rfl sl22 ty3 rfl (fun w1 hw1 => rds_bor g1 w1 hw1) h15 (by rw [Nat.mul_one]) ?_
        refine ow_r rfl (dstOk_lt rfl) (ry_load1 rfl rfl ty3 (at_elV (fun w1 hw1 => rds_bor g1 w1 hw1) h15)) ?_
        refine ow_batch [.p] rfl ?_
        refine ow_nilQ ?_
        refine x_qs ?_
        refine c_if rfl (fun hb => ?_) (fun hb => ?_)
        · have H := of_if_t hb H
          refine c_seq ?_
          refine c_reg ?_
          refine ow_batch [.p] rfl ?_
          refine ow_nil ?_
          refine x_qs ?_
          refine c_ret ?_
          refine x_qb_ret ?_
          refine x_qs_ret ?_
          refine x_ql_ret ?_
          refine x_qb_ret ?_
          refine x_qs_ret ?_
          exact x_retR (rs := [.tmp 4]) (vs := [.bool false]) rfl ⟨rfl, trivial⟩ (fun w' hw' => by
              obtain rfl := of_some H
              exact ⟨rfl, hw'.ext⟩)
        · have H := of_if_f hb H
          refine c_skip ?_
          refine x_qb ?_
          refine x_qs ?_
          refine c_reg ?_
          refine ow_batch [.p, .p, .p] rfl ?_
          refine ow_nil ?_
          exact x_ql (RW.at (ihk1 (IntKind.i64.wrap (i6 + 1)) (H)) (fun _ h => St.sel [] rfl rfl h) ⟨rfl, rfl, rfl, trivial⟩)
      · have H := of_if_f hb H
        refine c_exit ?_
        refine x_qs_exit ?_
        refine x_ql_exit ?_
        refine x_qb_here ?_
        refine x_qs ?_
        refine c_seq ?_
        refine c_reg ?_
        refine ow_batch [.p] rfl ?_
        refine ow_nil ?_
        refine x_qs ?_
        refine c_ret ?_
        exact x_retR (rs := [.tmp 4]) (vs := [.bool true]) rfl ⟨rfl, trivial⟩ (fun w' hw' => by
            obtain rfl := of_some H
            exact ⟨rfl, hw'.ext⟩)

set_option maxHeartbeats 4000000 in
set_option maxRecDepth 100000 in
theorem laws_eqStringS_ok (w : World) {p0 : List (List UInt8)} {p1 : List (List UInt8)} {a_0 : Option Addr} {n_0 c_0 : Nat} {a_1 : Option Addr} {n_1 c_1 : Nat} {r : Bool} (H : laws_eqStringS p0 p1 = some r)  (g0 : (eList (eStr) 9).rd w [] p0 [.slice a_0 n_0 c_0]) (g1 : (eList (eStr) 9).rd w [] p1 [.slice a_1 n_1 c_1]) :
    Calls Try.prog 65 #[.slice a_0 n_0 c_0, .slice a_1 n_1 c_1] w (fun en w' => en = .returned (.bool r) ∧ Ext [] w w') := by
  obtain rfl := rd_n g0
  obtain rfl := rd_n g1
  unfold laws_eqStringS at H
  refine f_enter (vs := [.slice a_0 p0.length c_0, .slice a_1 p1.length c_1]) Try.func65 rfl Try.ntmps65 rfl (St.init w []) ?_
  refine c_seq ?_
  refine c_reg ?_
  refine ow_batch [.p] rfl ?_
  refine ow_nil ?_
  refine x_qs ?_
  refine c_seq ?_
  refine c_seq ?_
  refine c_reg ?_
  refine ow_batch [.p, .lenS 23 9 sl23, .p, .lenS 23 9 sl23, .p] rfl ?_
  refine ow_nil ?_
  refine x_qs ?_
  refine c_if rfl (fun hb => ?_) (fun hb => ?_)
  · have H := of_if_t hb H
    refine c_seq ?_
    refine c_reg ?_
    refine ow_batch [.p] rfl ?_
    refine ow_nil ?_
    refine x_qs ?_
    refine c_ret ?_
    refine x_qs_ret ?_
    exact x_retR (rs := [.tmp 4]) (vs := [.bool false]) rfl ⟨rfl, trivial⟩ (fun w' hw' => by
        obtain rfl := of_some H
        exact ⟨rfl, hw'.ext⟩)
  · have H := of_if_f hb H
    refine c_skip ?_
    refine x_qs ?_
    refine c_seq ?_
    refine c_seq ?_
    refine c_reg ?_
    refine ow_batch [.p] rfl ?_
    refine ow_nil ?_
    refine x_qs ?_
    refine c_block ?_
    refine CW.at (loopI1 (fun (i6 : Int) => St w [] []) (fun (i6 : Int) => [(0, .slice a_0 p0.length c_0), (1, .slice a_1 p1.length c_1), (5, .int .i64 i6)]) (fun kk => fun (i6 : Int) => laws_eqStringS_L1 p0 p1 kk i6 = some r) (fun _ H => ?_) (fun k1 ihk1 i6 H => ?_) Fuel (0) (H)) (fun _ h => St.sel [] rfl rfl h) ⟨rfl, rfl, rfl,  trivial⟩
    · unfold laws_eqStringS_L1 at H
      exact absurd H (by simp)
    · unfold laws_eqStringS_L1 at H
      refine c_seq ?_
      refine c_seq ?_
      refine c_reg ?_
      refine ow_batch [.p, .p, .lenS 23 9 sl23, .p] rfl ?_
      refine ow_nil ?_
      refine x_qs ?_
      refine c_if rfl (fun hb => ?_) (fun hb => ?_)
      · have H := of_if_t hb H
        refine c_skip ?_
        refine x_qs ?_
        refine c_seq ?_
        refine c_block ?_
        refine c_seq ?_
        refine c_regQ mixed (by kernel_rfl) ?_
        refine ow_batch [.p, .p] rfl ?_
        obtain ⟨e12, h13, H⟩ := of_bind H
        refine ow_ixE (e := eStr) (xs := p0) (j := i6) rfl rfl rfl rfl rfl sl23 ty9 rfl (fun w1 hw1 => rds_bor g0 w1 hw1) h13 (by rw [Nat.mul_one]) ?_
        refine ow_r rfl (dstOk_lt rfl) (ry_load1 rfl rfl ty9 (at_elV (fun w1 hw1 => rds_bor g0 w1 hw1) h13)) ?_
        refine ow_batch [.p, .p] rfl ?_
        obtain ⟨e14, h15, H⟩ := of_bind H
        refine ow_ixE (e := eStr) (xs := p1) (j := i6) rfl rfl rfl rfl rfl sl23 ty9 rfl (fun w1 hw1 => rds_bor g1 w1 hw1) h15 (by rw [Nat.mul_one]) ?_
        refine ow_r rfl (dstOk_lt rfl) (ry_load1 rfl rfl ty9 (at_elV (fun w1 hw1 => rds_bor g1 w1 hw1) h15)) ?_
        refine ow_batch [.p] rfl ?_
        refine ow_nilQ ?_
        refine x_qs ?_
        refine c_if rfl (fun hb => ?_) (fun hb => ?_)
        · have H := of_if_t hb H
          refine c_seq ?_
          refine c_reg ?_
          refine ow_batch [.p] rfl ?_
          refine ow_nil ?_
          refine x_qs ?_
          refine c_ret ?_
          refine x_qb_ret ?_
          refine x_qs_ret ?_
          refine x_ql_ret ?_
          refine x_qb_ret ?_
          refine x_qs_ret ?_
          exact x_retR (rs := [.tmp 4]) (vs := [.bool false]) rfl ⟨rfl, trivial⟩ (fun w' hw' => by
              obtain rfl := of_some H
              exact ⟨rfl, hw'.ext⟩)
        · have H := of_if_f hb H
          refine c_skip ?_
          refine x_qb ?_
          refine x_qs ?_
          refine c_reg ?_
          refine ow_batch [.p, .p, .p] rfl ?_
          refine ow_nil ?_
          exact x_ql (RW.at (ihk1 (IntKind.i64.wrap (i6 + 1)) (H)) (fun _ h => St.sel [] rfl rfl h) ⟨rfl, rfl, rfl, trivial⟩)
      · have H := of_if_f hb H
        refine c_exit ?_
        refine x_qs_exit ?_
        refine x_ql_exit ?_
        refine x_qb_here ?_
        refine x_qs ?_
        refine c_seq ?_
        refine c_reg ?_
        refine ow_batch [.p] rfl ?_
        refine ow_nil ?_
        refine x_qs ?_
        refine c_ret ?_
        exact x_retR (rs := [.tmp 4]) (vs := [.bool true]) rfl ⟨rfl, trivial⟩ (fun w' hw' => by
            obtain rfl := of_some H
            exact ⟨rfl, hw'.ext⟩)

set_option maxHeartbeats 4000000 in
set_option maxRecDepth 100000 in
theorem laws_eqAttr_ok (w : World) {p0 : Timpl_Attr} {p1 : Timpl_Attr} {cs0 : List Value} {cs1 : List Value} {r : Bool} (H : laws_eqAttr p0 p1 = some r)  (g0 : (eTimpl_Attr).rd w [] p0 cs0) (g1 : (eTimpl_Attr).rd w [] p1 cs1) :
    Calls Try.prog 15 #[.agg cs0.toArray, .agg cs1.toArray] w (fun en w' => en = .returned (.bool r) ∧ Ext [] w w') := by
  obtain ⟨c1, c2, c3, rfl, g4, g5, g6⟩ := rdo_Timpl_Attr g0
  obtain rfl : c1 = [vS p0.Name_] := g4
  obtain ⟨a7, c8, rfl⟩ := rd_sl1 g5
  obtain ⟨a9, c10, rfl⟩ := rd_sl1 g6
  obtain ⟨c11, c12, c13, rfl, g14, g15, g16⟩ := rdo_Timpl_Attr g1
  obtain rfl : c11 = [vS p1.Name_] := g14
  obtain ⟨a17, c18, rfl⟩ := rd_sl1 g15
  obtain ⟨a19, c20, rfl⟩ := rd_sl1 g16
  unfold laws_eqAttr at H
  refine f_enter (vs := [.agg #[vS p0.Name_, .slice a7 p0.Cuts_.length c8, .slice a9 p0.Values_.length c10], .agg #[vS p1.Name_, .slice a17 p1.Cuts_.length c18, .slice a19 p1.Values_.length c20]]) Try.func15 rfl Try.ntmps15 rfl (St.init w []) ?_
  refine c_seq ?_
  refine c_reg ?_
  refine ow_box (cs := [vS p0.Name_, .slice a7 p0.Cuts_.length c8, .slice a9 p0.Values_.length c10]) rfl rfl rfl rfl rfl rfl (fun _ => kp) (fun b21 => ?_)
  refine ow_box (cs := [vS p1.Name_, .slice a17 p1.Cuts_.length c18, .slice a19 p1.Values_.length c20]) rfl rfl rfl rfl rfl rfl (fun _ => kp) (fun b22 => ?_)
  refine ow_batch [.p] rfl ?_
  refine ow_nil ?_
  refine x_qs ?_
  refine c_seq ?_
  refine c_seq ?_
  refine c_reg ?_
  refine ow_batch [.fa 28 0 0 fa28_0] rfl ?_
  refine ow_r rfl (dstOk_lt rfl) (ry_box1 (off := 0) rfl rfl ty9 (boxIn (i := 0) rfl) rfl) ?_
  refine ow_batch [.fa 28 0 0 fa28_0] rfl ?_
  refine ow_r rfl (dstOk_lt rfl) (ry_box1 (off := 0) rfl rfl ty9 (boxIn (i := 1) rfl) rfl) ?_
  refine ow_batch [.p] rfl ?_
  refine ow_nil ?_
  refine x_qs ?_
  refine c_if rfl (fun hb => ?_) (fun hb => ?_)
  · have H := of_if_t hb H
    refine c_seq ?_
    refine c_reg ?_
    refine ow_batch [.p] rfl ?_
    refine ow_nil ?_
    refine x_qs ?_
    refine c_ret ?_
    refine x_qs_ret ?_
    exact x_retR (rs := [.tmp 4]) (vs := [.bool false]) rfl ⟨rfl, trivial⟩ (fun w' hw' => by
        obtain rfl := of_some H
        exact ⟨rfl, hw'.ext⟩)
  · have H := of_if_f hb H
    refine c_skip ?_
    refine x_qs ?_
    refine c_seq ?_
    refine c_seq ?_
    refine c_reg ?_
    refine ow_batch [.fa 28 1 1 fa28_1] rfl ?_
    refine ow_r rfl (dstOk_lt rfl) (ry_box1 (off := 1) rfl rfl ty22 (boxIn (i := 0) rfl) rfl) ?_
    refine ow_batch [.fa 28 1 1 fa28_1] rfl ?_
    refine ow_r rfl (dstOk_lt rfl) (ry_box1 (off := 1) rfl rfl ty22 (boxIn (i := 1) rfl) rfl) ?_
    obtain ⟨y23, h24, H⟩ := of_bind H
    refine ow_q rfl rfl (dstOk_lt rfl) (qy_call rfl fn64 rfl (fun w1 hw1 => laws_eqIntS_ok w1  h24 (rds_bor g5 w1 hw1) (rds_bor g15 w1 hw1))) (fun _ _ => trivial) ?_
    refine ow_batch [.p] rfl ?_
    refine ow_nil ?_
    refine x_qs ?_
    refine c_if rfl (fun hb => ?_) (fun hb => ?_)
    · have H := of_if_t hb H
      refine c_seq ?_
      refine c_reg ?_
      refine ow_batch [.p] rfl ?_
      refine ow_nil ?_
      refine x_qs ?_
      refine c_ret ?_
      refine x_qs_ret ?_
      exact x_retR (rs := [.tmp 4]) (vs := [.bool false]) rfl ⟨rfl, trivial⟩ (fun w' hw' => by
          obtain rfl := of_some H
          exact ⟨rfl, hw'.ext⟩)
    · have H := of_if_f hb H
      refine c_skip ?_
      refine x_qs ?_
      refine c_seq ?_
      refine c_seq ?_
      refine c_reg ?_
      refine ow_batch [.fa 28 2 2 fa28_2] rfl ?_
      refine ow_r rfl (dstOk_lt rfl) (ry_box1 (off := 2) rfl rfl ty23 (boxIn (i := 0) rfl) rfl) ?_
      refine ow_batch [.fa 28 2 2 fa28_2] rfl ?_
      refine ow_r rfl (dstOk_lt rfl) (ry_box1 (off := 2) rfl rfl ty23 (boxIn (i := 1) rfl) rfl) ?_
      obtain ⟨y25, h26, H⟩ := of_bind H
      refine ow_q rfl rfl (dstOk_lt rfl) (qy_call rfl fn65 rfl (fun w1 hw1 => laws_eqStringS_ok w1  h26 (rds_bor g6 w1 hw1) (rds_bor g16 w1 hw1))) (fun _ _ => trivial) ?_
      refine ow_batch [.p] rfl ?_
      refine ow_nil ?_
      refine x_qs ?_
      refine c_if rfl (fun hb => ?_) (fun hb => ?_)
      · have H := of_if_t hb H
        refine c_seq ?_
        refine c_reg ?_
        refine ow_batch [.p] rfl ?_
        refine ow_nil ?_
        refine x_qs ?_
        refine c_ret ?_
        refine x_qs_ret ?_
        exact x_retR (rs := [.tmp 4]) (vs := [.bool false]) rfl ⟨rfl, trivial⟩ (fun w' hw' => by
            obtain rfl := of_some H
            exact ⟨rfl, hw'.ext⟩)
      · have H := of_if_f hb H
        refine c_skip ?_
        refine x_qs ?_
        refine c_seq ?_
        refine c_reg ?_
        refine ow_batch [.p] rfl ?_
        refine ow_nil ?_
        refine x_qs ?_
        refine c_ret ?_
        exact x_retR (rs := [.tmp 4]) (vs := [.bool true]) rfl ⟨rfl, trivial⟩ (fun w' hw' => by
            obtain rfl := of_some H
            exact ⟨rfl, hw'.ext⟩)

set_option maxHeartbeats 4000000 in
set_option maxRecDepth 100000 in
theorem laws_eqAttrS_ok (w : World) {p0 : List Timpl_Attr} {p1 : List Timpl_Attr} {a_0 : Option Addr} {n_0 c_0 : Nat} {a_1 : Option Addr} {n_1 c_1 : Nat} {r : Bool} (H : laws_eqAttrS p0 p1 = some r)  (g0 : (eList (eTimpl_Attr) 28).rd w [] p0 [.slice a_0 n_0 c_0]) (g1 : (eList (eTimpl_Attr) 28).rd w [] p1 [.slice a_1 n_1 c_1]) :
    Calls Try.prog 70 #[.slice a_0 n_0 c_0, .slice a_1 n_1 c_1] w (fun en w' => en = .returned (.bool r) ∧ Ext [] w w') := by
  obtain rfl := rd_n g0
  obtain rfl := rd_n g1
  unfold laws_eqAttrS at H
  refine f_enter (vs := [.slice a_0 p0.length c_0, .slice a_1 p1.length c_1]) Try.func70 rfl Try.ntmps70 rfl (St.init w []) ?_
  refine c_seq ?_
  refine c_reg ?_
  refine ow_batch [.p] rfl ?_
  refine ow_nil ?_
  refine x_qs ?_
  refine c_seq ?_
  refine c_seq ?_
  refine c_reg ?_
  refine ow_batch [.p, .lenS 37 28 sl37, .p, .lenS 37 28 sl37, .p] rfl ?_
  refine ow_nil ?_
  refine x_qs ?_
  refine c_if rfl (fun hb => ?_) (fun hb => ?_)
  · have H := of_if_t hb H
    refine c_seq ?_
    refine c_reg ?_
    refine ow_batch [.p] rfl ?_
    refine ow_nil ?_
    refine x_qs ?_
    refine c_ret ?_
    refine x_qs_ret ?_
    exact x_retR (rs := [.tmp 4]) (vs := [.bool false]) rfl ⟨rfl, trivial⟩ (fun w' hw' => by
        obtain rfl := of_some H
        exact ⟨rfl, hw'.ext⟩)
  · have H := of_if_f hb H
    refine c_skip ?_
    refine x_qs ?_
    refine c_seq ?_
    refine c_seq ?_
    refine c_reg ?_
    refine ow_batch [.p] rfl ?_
    refine ow_nil ?_
    refine x_qs ?_
    refine c_block ?_
    refine CW.at (loopI1 (fun (i36 : Int) => St w [] []) (fun (i36 : Int) => [(0, .slice a_0 p0.length c_0), (1, .slice a_1 p1.length c_1), (5, .int .i64 i36)]) (fun kk => fun (i36 : Int) => laws_eqAttrS_L1 p0 p1 kk i36 = some r) (fun _ H => ?_) (fun k1 ihk1 i36 H => ?_) Fuel (0) (H)) (fun _ h => St.sel [] rfl rfl h) ⟨rfl, rfl, rfl,  trivial⟩
    · unfold laws_eqAttrS_L1 at H
      exact absurd H (by simp)
    · unfold laws_eqAttrS_L1 at H
      refine c_seq ?_
      refine c_seq ?_
      refine c_reg ?_
      refine ow_batch [.p, .p, .lenS 37 28 sl37, .p] rfl ?_
      refine ow_nil ?_
      refine x_qs ?_
      refine c_if rfl (fun hb => ?_) (fun hb => ?_)
      · have H := of_if_t hb H
        refine c_skip ?_
        refine x_qs ?_
        refine c_seq ?_
        refine c_block ?_
        refine c_seq ?_
        refine c_regQ mixed (by kernel_rfl) ?_
        refine ow_batch [.p, .p] rfl ?_
        obtain ⟨e72, h73, H⟩ := of_bind H
        refine ow_ixB rfl rfl rfl rfl rfl sl37 ty28 rfl g0 h73 (fun q76 c77 hd74 hA75 => ?_)
        obtain ⟨c78, c79, c80, rfl, g81, g82, g83⟩ := rdo_Timpl_Attr hd74
        obtain rfl : c78 = [vS e72.Name_] := g81
        obtain ⟨a84, c85, rfl⟩ := rd_sl1 g82
        obtain ⟨a86, c87, rfl⟩ := rd_sl1 g83
        refine ow_r rfl (dstOk_lt rfl) (ry_load (cs := [vS e72.Name_, .slice a84 e72.Cuts_.length c85, .slice a86 e72.Values_.length c87]) rfl rfl ty28 (at_bor bor hA75) rfl) ?_
        refine ow_batch [.p, .p] rfl ?_
        obtain ⟨e88, h89, H⟩ := of_bind H
        refine ow_ixB rfl rfl rfl rfl rfl sl37 ty28 rfl g1 h89 (fun q92 c93 hd90 hA91 => ?_)
        obtain ⟨c94, c95, c96, rfl, g97, g98, g99⟩ := rdo_Timpl_Attr hd90
        obtain rfl : c94 = [vS e88.Name_] := g97
        obtain ⟨a100, c101, rfl⟩ := rd_sl1 g98
        obtain ⟨a102, c103, rfl⟩ := rd_sl1 g99
        refine ow_r rfl (dstOk_lt rfl) (ry_load (cs := [vS e88.Name_, .slice a100 e88.Cuts_.length c101, .slice a102 e88.Values_.length c103]) rfl rfl ty28 (at_bor bor hA91) rfl) ?_
        obtain ⟨y104, h105, H⟩ := of_bind H
        refine ow_q rfl rfl (dstOk_lt rfl) (qy_call rfl fn15 rfl (fun w1 hw1 => laws_eqAttr_ok w1 (cs0 := [vS e72.Name_, .slice a84 e72.Cuts_.length c85, .slice a86 e72.Values_.length c87]) (cs1 := [vS e88.Name_, .slice a100 e88.Cuts_.length c101, .slice a102 e88.Values_.length c103]) h105 (rdm_Timpl_Attr (x := e72) (c0 := [vS e72.Name_]) (c1 := [.slice a84 e72.Cuts_.length c85]) (c2 := [.slice a86 e72.Values_.length c87]) rfl (rds_bor g82 w1 hw1) (rds_bor g83 w1 hw1)) (rdm_Timpl_Attr (x := e88) (c0 := [vS e88.Name_]) (c1 := [.slice a100 e88.Cuts_.length c101]) (c2 := [.slice a102 e88.Values_.length c103]) rfl (rds_bor g98 w1 hw1) (rds_bor g99 w1 hw1)))) (fun _ _ => trivial) ?_
        refine ow_batch [.p] rfl ?_
        refine ow_nilQ ?_
        refine x_qs ?_
        refine c_if rfl (fun hb => ?_) (fun hb => ?_)
        · have H := of_if_t hb H
          refine c_seq ?_
          refine c_reg ?_
          refine ow_batch [.p] rfl ?_
          refine ow_nil ?_
          refine x_qs ?_
          refine c_ret ?_
          refine x_qb_ret ?_
          refine x_qs_ret ?_
          refine x_ql_ret ?_
          refine x_qb_ret ?_
          refine x_qs_ret ?_
          exact x_retR (rs := [.tmp 4]) (vs := [.bool false]) rfl ⟨rfl, trivial⟩ (fun w' hw' => by
              obtain rfl := of_some H
              exact ⟨rfl, hw'.ext⟩)
        · have H := of_if_f hb H
          refine c_skip ?_
          refine x_qb ?_
          refine x_qs ?_
          refine c_reg ?_
          refine ow_batch [.p, .p, .p] rfl ?_
          refine ow_nil ?_
          exact x_ql (RW.at (ihk1 (IntKind.i64.wrap (i36 + 1)) (H)) (fun _ h => St.sel [] rfl rfl h) ⟨rfl, rfl, rfl, trivial⟩)
      · have H := of_if_f hb H
        refine c_exit ?_
        refine x_qs_exit ?_
        refine x_ql_exit ?_
        refine x_qb_here ?_
        refine x_qs ?_
        refine c_seq ?_
        refine c_reg ?_
        refine ow_batch [.p] rfl ?_
        refine ow_nil ?_
        refine x_qs ?_
        refine c_ret ?_
        exact x_retR (rs := [.tmp 4]) (vs := [.bool true]) rfl ⟨rfl, trivial⟩ (fun w' hw' => by
            obtain rfl := of_some H
            exact ⟨rfl, hw'.ext⟩)

set_option maxHeartbeats 4000000 in
set_option maxRecDepth 100000 in
theorem laws_eqSchema_ok (w : World) {p0 : Timpl_Schema} {p1 : Timpl_Schema} {cs0 : List Value} {cs1 : List Value} {r : Bool} (H : laws_eqSchema p0 p1 = some r)  (g0 : (eTimpl_Schema).rd w [] p0 cs0) (g1 : (eTimpl_Schema).rd w [] p1 cs1) :
    Calls Try.prog 20 #[.agg cs0.toArray, .agg cs1.toArray] w (fun en w' => en = .returned (.bool r) ∧ Ext [] w w') := by
  obtain ⟨c1, c2, rfl, g3, g4⟩ := rdo_Timpl_Schema g0
  obtain ⟨a5, c6, rfl⟩ := rd_sl1 g3
  obtain ⟨a7, c8, rfl⟩ := rd_sl1 g4
  obtain ⟨c9, c10, rfl, g11, g12⟩ := rdo_Timpl_Schema g1
  obtain ⟨a13, c14, rfl⟩ := rd_sl1 g11
  obtain ⟨a15, c16, rfl⟩ := rd_sl1 g12
  unfold laws_eqSchema at H
  refine f_enter (vs := [.agg #[.slice a5 p0.Attrs_.length c6, .slice a7 p0.Classes_.length c8], .agg #[.slice a13 p1.Attrs_.length c14, .slice a15 p1.Classes_.length c16]]) Try.func20 rfl Try.ntmps20 rfl (St.init w []) ?_
  refine c_seq ?_
  refine c_reg ?_
  refine ow_box (cs := [.slice a5 p0.Attrs_.length c6, .slice a7 p0.Classes_.length c8]) rfl rfl rfl rfl rfl rfl (fun _ => kp) (fun b17 => ?_)
  refine ow_box (cs := [.slice a13 p1.Attrs_.length c14, .slice a15 p1.Classes_.length c16]) rfl rfl rfl rfl rfl rfl (fun _ => kp) (fun b18 => ?_)
  refine ow_batch [.p] rfl ?_
  refine ow_nil ?_
  refine x_qs ?_
  refine c_seq ?_
  refine c_seq ?_
  refine c_reg ?_
  refine ow_batch [.fa 39 0 0 fa39_0] rfl ?_
  refine ow_r rfl (dstOk_lt rfl) (ry_box1 (off := 0) rfl rfl ty37 (boxIn (i := 0) rfl) rfl) ?_
  refine ow_batch [.fa 39 0 0 fa39_0] rfl ?_
  refine ow_r rfl (dstOk_lt rfl) (ry_box1 (off := 0) rfl rfl ty37 (boxIn (i := 1) rfl) rfl) ?_
  obtain ⟨y19, h20, H⟩ := of_bind H
  refine ow_q rfl rfl (dstOk_lt rfl) (qy_call rfl fn70 rfl (fun w1 hw1 => laws_eqAttrS_ok w1  h20 (rds_bor g3 w1 hw1) (rds_bor g11 w1 hw1))) (fun _ _ => trivial) ?_
  refine ow_batch [.p] rfl ?_
  refine ow_nil ?_
  refine x_qs ?_
  refine c_if rfl (fun hb => ?_) (fun hb => ?_)
  · have H := of_if_t hb H
    refine c_seq ?_
    refine c_reg ?_
    refine ow_batch [.p] rfl ?_
    refine ow_nil ?_
    refine x_qs ?_
    refine c_ret ?_
    refine x_qs_ret ?_
    exact x_retR (rs := [.tmp 4]) (vs := [.bool false]) rfl ⟨rfl, trivial⟩ (fun w' hw' => by
        obtain rfl := of_some H
        exact ⟨rfl, hw'.ext⟩)
  · have H := of_if_f hb H
    refine c_skip ?_
    refine x_qs ?_
    refine c_seq ?_
    refine c_seq ?_
    refine c_reg ?_
    refine ow_batch [.fa 39 1 1 fa39_1] rfl ?_
    refine ow_r rfl (dstOk_lt rfl) (ry_box1 (off := 1) rfl rfl ty23 (boxIn (i := 0) rfl) rfl) ?_
    refine ow_batch [.fa 39 1 1 fa39_1] rfl ?_
    refine ow_r rfl (dstOk_lt rfl) (ry_box1 (off := 1) rfl rfl ty23 (boxIn (i := 1) rfl) rfl) ?_
    obtain ⟨y21, h22, H⟩ := of_bind H
    refine ow_q rfl rfl (dstOk_lt rfl) (qy_call rfl fn65 rfl (fun w1 hw1 => laws_eqStringS_ok w1  h22 (rds_bor g4 w1 hw1) (rds_bor g12 w1 hw1))) (fun _ _ => trivial) ?_
    refine ow_batch [.p] rfl ?_
    refine ow_nil ?_
    refine x_qs ?_
    refine c_if rfl (fun hb => ?_) (fun hb => ?_)
    · have H := of_if_t hb H
      refine c_seq ?_
      refine c_reg ?_
      refine ow_batch [.p] rfl ?_
      refine ow_nil ?_
      refine x_qs ?_
      refine c_ret ?_
      refine x_qs_ret ?_
      exact x_retR (rs := [.tmp 4]) (vs := [.bool false]) rfl ⟨rfl, trivial⟩ (fun w' hw' => by
          obtain rfl := of_some H
          exact ⟨rfl, hw'.ext⟩)
    · have H := of_if_f hb H
      refine c_skip ?_
      refine x_qs ?_
      refine c_seq ?_
      refine c_reg ?_
      refine ow_batch [.p] rfl ?_
      refine ow_nil ?_
      refine x_qs ?_
      refine c_ret ?_
      exact x_retR (rs := [.tmp 4]) (vs := [.bool true]) rfl ⟨rfl, trivial⟩ (fun w' hw' => by
          obtain rfl := of_some H
          exact ⟨rfl, hw'.ext⟩)

set_option maxHeartbeats 4000000 in
set_option maxRecDepth 100000 in
theorem laws_szEx_ok (w : World) {p0 : Tlaws_Ex} {p1 : Int} {cs0 : List Value} {r : Int} (H : laws_szEx p0 p1 = some r)  (g0 : (eTlaws_Ex).rd w [] p0 cs0) :
    Calls Try.prog 28 #[.agg cs0.toArray, .int .i64 p1] w (fun en w' => en = .returned (.int .i64 r) ∧ Ext [] w w') := by
  obtain ⟨c1, c2, rfl, g3, g4⟩ := rdo_Tlaws_Ex g0
  obtain ⟨a5, c6, rfl⟩ := rd_sl1 g3
  obtain rfl : c2 = [.int .i64 p0.Class_] := g4
  unfold laws_szEx at H
  refine f_enter (vs := [.agg #[.slice a5 p0.Bins_.length c6, .int .i64 p0.Class_], .int .i64 p1]) Try.func28 rfl Try.ntmps28 rfl (St.init w []) ?_
  refine c_seq ?_
  refine c_reg ?_
  refine ow_box (cs := [.slice a5 p0.Bins_.length c6, .int .i64 p0.Class_]) rfl rfl rfl rfl rfl rfl (fun _ => kp) (fun b7 => ?_)
  refine ow_batch [.p] rfl ?_
  refine ow_nil ?_
  refine x_qs ?_
  refine c_seq ?_
  refine c_reg ?_
  refine ow_batch [.fa 53 0 0 fa53_0] rfl ?_
  refine ow_r rfl (dstOk_lt rfl) (ry_box1 (off := 0) rfl rfl ty22 (boxIn (i := 0) rfl) rfl) ?_
  refine ow_batch [.p] rfl ?_
  obtain ⟨y8, h9, H⟩ := of_bind H
  refine ow_q rfl rfl (dstOk_lt rfl) (qy_call rfl fn55 rfl (fun w1 hw1 => laws_szIntS_ok w1  h9 (rds_bor g3 w1 hw1))) (fun _ _ => trivial) ?_
  refine ow_batch [.p] rfl ?_
  refine ow_nil ?_
  refine x_qs ?_
  refine c_seq ?_
  refine c_seq ?_
  refine c_reg ?_
  refine ow_batch [.p, .p] rfl ?_
  refine ow_nil ?_
  refine x_qs ?_
  refine c_if rfl (fun hb => ?_) (fun hb => ?_)
  · have H := of_if_t hb H
    refine c_seq ?_
    refine c_reg ?_
    refine ow_batch [.p] rfl ?_
    refine ow_nil ?_
    refine x_qs ?_
    refine c_ret ?_
    refine x_qs_ret ?_
    exact x_retR (rs := [.tmp 4]) (vs := [.int .i64 (-1)]) rfl ⟨rfl, trivial⟩ (fun w' hw' => by
        obtain rfl := of_some H
        exact ⟨rfl, hw'.ext⟩)
  · have H := of_if_f hb H
    refine c_skip ?_
    refine x_qs ?_
    refine c_seq ?_
    refine c_reg ?_
    refine ow_batch [.p, .p] rfl ?_
    refine ow_nil ?_
    refine x_qs ?_
    refine c_ret ?_
    exact x_retR (rs := [.tmp 4]) (vs := [.int .i64 y8]) rfl ⟨rfl, trivial⟩ (fun w' hw' => by
        obtain rfl := of_some H
        exact ⟨rfl, hw'.ext⟩)

set_option maxHeartbeats 4000000 in
set_option maxRecDepth 100000 in
theorem laws_szEntry_ok (w : World) {p0 : Tlaws_Entry} {p1 : Int} {cs0 : List Value} {r : Int} (H : laws_szEntry p0 p1 = some r)  (g0 : (eTlaws_Entry).rd w [] p0 cs0) :
    Calls Try.prog 76 #[.agg cs0.toArray, .int .i64 p1] w (fun en w' => en = .returned (.int .i64 r) ∧ Ext [] w w') := by
  obtain ⟨c1, c2, rfl, g3, g4⟩ := rdo_Tlaws_Entry g0
  obtain ⟨c5, c6, rfl, g7, g8⟩ := rdo_Tlaws_Ex g3
  obtain ⟨a9, c10, rfl⟩ := rd_sl1 g7
  obtain rfl : c6 = [.int .i64 p0.Ex_.Class_] := g8
  obtain rfl : c2 = [.int .i64 p0.Weight_] := g4
  unfold laws_szEntry at H
  refine f_enter (vs := [.agg #[.slice a9 p0.Ex_.Bins_.length c10, .int .i64 p0.Ex_.Class_, .int .i64 p0.Weight_], .int .i64 p1]) Try.func76 rfl Try.ntmps76 rfl (St.init w []) ?_
  refine c_seq ?_
  refine c_reg ?_
  refine ow_box (cs := [.slice a9 p0.Ex_.Bins_.length c10, .int .i64 p0.Ex_.Class_, .int .i64 p0.Weight_]) rfl rfl rfl rfl rfl rfl (fun _ => kp) (fun b11 => ?_)
  refine ow_batch [.p] rfl ?_
  refine ow_nil ?_
  refine x_qs ?_
  refine c_seq ?_
  refine c_reg ?_
  refine ow_batch [.fa 109 0 0 fa109_0] rfl ?_
  refine ow_r rfl (dstOk_lt rfl) (ry_box (off := 0) (ds := [.slice a9 p0.Ex_.Bins_.length c10, .int .i64 p0.Ex_.Class_]) rfl rfl ty53 (boxIn (i := 0) rfl) rfl rfl) ?_
  refine ow_batch [.p] rfl ?_
  obtain ⟨y12, h13, H⟩ := of_bind H
  refine ow_q rfl rfl (dstOk_lt rfl) (qy_call rfl fn28 rfl (fun w1 hw1 => laws_szEx_ok w1 (cs0 := [.slice a9 p0.Ex_.Bins_.length c10, .int .i64 p0.Ex_.Class_]) h13 (rdm_Tlaws_Ex (x := p0.Ex_) (c0 := [.slice a9 p0.Ex_.Bins_.length c10]) (c1 := [.int .i64 p0.Ex_.Class_]) (rds_bor g7 w1 hw1) rfl))) (fun _ _ => trivial) ?_
  refine ow_batch [.p] rfl ?_
  refine ow_nil ?_
  refine x_qs ?_
  refine c_seq ?_
  refine c_seq ?_
  refine c_reg ?_
  refine ow_batch [.p, .p] rfl ?_
  refine ow_nil ?_
  refine x_qs ?_
  refine c_if rfl (fun hb => ?_) (fun hb => ?_)
  · have H := of_if_t hb H
    refine c_seq ?_
    refine c_reg ?_
    refine ow_batch [.p] rfl ?_
    refine ow_nil ?_
    refine x_qs ?_
    refine c_ret ?_
    refine x_qs_ret ?_
    exact x_retR (rs := [.tmp 4]) (vs := [.int .i64 (-1)]) rfl ⟨rfl, trivial⟩ (fun w' hw' => by
        obtain rfl := of_some H
        exact ⟨rfl, hw'.ext⟩)
  · have H := of_if_f hb H
    refine c_skip ?_
    refine x_qs ?_
    refine c_seq ?_
    refine c_reg ?_
    refine ow_batch [.p, .p] rfl ?_
    refine ow_nil ?_
    refine x_qs ?_
    refine c_ret ?_
    exact x_retR (rs := [.tmp 4]) (vs := [.int .i64 y12]) rfl ⟨rfl, trivial⟩ (fun w' hw' => by
        obtain rfl := of_some H
        exact ⟨rfl, hw'.ext⟩)

set_option maxHeartbeats 4000000 in
set_option maxRecDepth 100000 in
theorem laws_szEntryS_ok (w : World) {p0 : List Tlaws_Entry} {p1 : Int} {a_0 : Option Addr} {n_0 c_0 : Nat} {r : Int} (H : laws_szEntryS p0 p1 = some r)  (g0 : (eList (eTlaws_Entry) 109).rd w [] p0 [.slice a_0 n_0 c_0]) :
    Calls Try.prog 33 #[.slice a_0 n_0 c_0, .int .i64 p1] w (fun en w' => en = .returned (.int .i64 r) ∧ Ext [] w w') := by
  obtain rfl := rd_n g0
  unfold laws_szEntryS at H
  refine f_enter (vs := [.slice a_0 p0.length c_0, .int .i64 p1]) Try.func33 rfl Try.ntmps33 rfl (St.init w []) ?_
  refine c_seq ?_
  refine c_reg ?_
  refine ow_batch [.p] rfl ?_
  refine ow_nil ?_
  refine x_qs ?_
  refine c_seq ?_
  refine c_reg ?_
  refine ow_batch [.p, .p, .lenS 60 109 sl60, .p, .p] rfl ?_
  refine ow_nil ?_
  refine x_qs ?_
  refine c_seq ?_
  refine c_seq ?_
  refine c_reg ?_
  refine ow_batch [.p, .p] rfl ?_
  refine ow_nil ?_
  refine x_qs ?_
  refine c_if rfl (fun hb => ?_) (fun hb => ?_)
  · have H := of_if_t hb H
    refine c_seq ?_
    refine c_reg ?_
    refine ow_batch [.p] rfl ?_
    refine ow_nil ?_
    refine x_qs ?_
    refine c_ret ?_
    refine x_qs_ret ?_
    exact x_retR (rs := [.tmp 4]) (vs := [.int .i64 (-1)]) rfl ⟨rfl, trivial⟩ (fun w' hw' => by
        obtain rfl := of_some H
        exact ⟨rfl, hw'.ext⟩)
  · have H := of_if_f hb H
    refine c_skip ?_
    refine x_qs ?_
    refine c_seq ?_
    refine c_seq ?_
    refine c_reg ?_
    refine ow_batch [.p] rfl ?_
    refine ow_nil ?_
    refine x_qs ?_
    refine c_block ?_
    refine CW.at (loopI2 (fun (i21 : Int) (i22 : Int) => St w [] []) (fun (i21 : Int) (i22 : Int) => [(0, .slice a_0 p0.length c_0), (1, .int .i64 i21), (5, .int .i64 i22)]) (fun kk => fun (i21 : Int) (i22 : Int) => laws_szEntryS_L1 p0 kk i21 i22 = some r) (fun _ _ H => ?_) (fun k1 ihk1 i21 i22 H => ?_) Fuel (IntKind.i64.wrap (p1 - (p0.length : Int))) (0) (H)) (fun _ h => St.sel [] rfl rfl h) ⟨rfl, rfl, rfl,  trivial⟩
    · unfold laws_szEntryS_L1 at H
      exact absurd H (by simp)
    · unfold laws_szEntryS_L1 at H
      refine c_seq ?_
      refine c_seq ?_
      refine c_reg ?_
      refine ow_batch [.p, .p, .lenS 60 109 sl60, .p] rfl ?_
      refine ow_nil ?_
      refine x_qs ?_
      refine c_if rfl (fun hb => ?_) (fun hb => ?_)
      · have H := of_if_t hb H
        refine c_skip ?_
        refine x_qs ?_
        refine c_seq ?_
        refine c_block ?_
        refine c_seq ?_
        refine c_reg ?_
        refine ow_batch [.p, .p] rfl ?_
        obtain ⟨e43, h44, H⟩ := of_bind H
        refine ow_ixB rfl rfl rfl rfl rfl sl60 ty109 rfl g0 h44 (fun q47 c48 hd45 hA46 => ?_)
        obtain ⟨c49, c50, rfl, g51, g52⟩ := rdo_Tlaws_Entry hd45
        obtain ⟨c53, c54, rfl, g55, g56⟩ := rdo_Tlaws_Ex g51
        obtain ⟨a57, c58, rfl⟩ := rd_sl1 g55
        obtain rfl : c54 = [.int .i64 e43.Ex_.Class_] := g56
        obtain rfl : c50 = [.int .i64 e43.Weight_] := g52
        refine ow_r rfl (dstOk_lt rfl) (ry_load (cs := [.slice a57 e43.Ex_.Bins_.length c58, .int .i64 e43.Ex_.Class_, .int .i64 e43.Weight_]) rfl rfl ty109 (at_bor bor hA46) rfl) ?_
        refine ow_batch [.p] rfl ?_
        obtain ⟨y59, h60, H⟩ := of_bind H
        refine ow_q rfl rfl (dstOk_lt rfl) (qy_call rfl fn76 rfl (fun w1 hw1 => laws_szEntry_ok w1 (cs0 := [.slice a57 e43.Ex_.Bins_.length c58, .int .i64 e43.Ex_.Class_, .int .i64 e43.Weight_]) h60 (rdm_Tlaws_Entry (x := e43) (c0 := [.slice a57 e43.Ex_.Bins_.length c58, .int .i64 e43.Ex_.Class_]) (c1 := [.int .i64 e43.Weight_]) (rdm_Tlaws_Ex (x := e43.Ex_) (c0 := [.slice a57 e43.Ex_.Bins_.length c58]) (c1 := [.int .i64 e43.Ex_.Class_]) (rds_bor g55 w1 hw1) rfl) rfl))) (fun _ _ => trivial) ?_
        refine ow_batch [.p] rfl ?_
        refine ow_nil ?_
        refine x_qs ?_
        refine c_seq ?_
        refine c_reg ?_
        refine ow_batch [.p, .p] rfl ?_
        refine ow_nil ?_
        refine x_qs ?_
        refine c_if rfl (fun hb => ?_) (fun hb => ?_)
        · have H := of_if_t hb H
          refine c_seq ?_
          refine c_reg ?_
          refine ow_batch [.p] rfl ?_
          refine ow_nil ?_
          refine x_qs ?_
          refine c_ret ?_
          refine x_qb_ret ?_
          refine x_qs_ret ?_
          refine x_ql_ret ?_
          refine x_qb_ret ?_
          refine x_qs_ret ?_
          exact x_retR (rs := [.tmp 4]) (vs := [.int .i64 (-1)]) rfl ⟨rfl, trivial⟩ (fun w' hw' => by
              obtain rfl := of_some H
              exact ⟨rfl, hw'.ext⟩)
        · have H := of_if_f hb H
          refine c_skip ?_
          refine x_qb ?_
          refine x_qs ?_
          refine c_reg ?_
          refine ow_batch [.p, .p, .p] rfl ?_
          refine ow_nil ?_
          exact x_ql (RW.at (ihk1 (y59) (IntKind.i64.wrap (i22 + 1)) (H)) (fun _ h => St.sel [] rfl rfl h) ⟨rfl, rfl, rfl, trivial⟩)
      · have H := of_if_f hb H
        refine c_exit ?_
        refine x_qs_exit ?_
        refine x_ql_exit ?_
        refine x_qb_here ?_
        refine x_qs ?_
        refine c_seq ?_
        refine c_reg ?_
        refine ow_batch [.p, .p] rfl ?_
        refine ow_nil ?_
        refine x_qs ?_
        refine c_ret ?_
        exact x_retR (rs := [.tmp 4]) (vs := [.int .i64 i21]) rfl ⟨rfl, trivial⟩ (fun w' hw' => by
            obtain rfl := of_some H
            exact ⟨rfl, hw'.ext⟩)

set_option maxHeartbeats 4000000 in
set_option maxRecDepth 100000 in
theorem laws_toEx_ok (w : World) {M0 : List Nat} {p0 : Tlaws_Ex} {cs0 : List Value} {r : Timpl_Ex} (H : laws_toEx p0 = some r) (HS : St w M0 [] w) (g0 : (eTlaws_Ex).rd w M0 p0 cs0) :
    Calls Try.prog 30 #[.agg cs0.toArray] w (fun en w' => ∃ v, en = .returned v ∧ ∃ (a0 : Option Addr), ∃ (n0 : Nat), ∃ (c0 : Nat), ∃ (F0 : List Nat), v = .agg #[.slice a0 n0 c0, .int .i64 r.Class_] ∧ St w M0 [Res.own (eList (eVal (Value.int .i64) (fun _ => rfl)) 3) F0 r.Bins_ [.slice a0 n0 c0]] w') := by
  obtain ⟨c1, c2, rfl, g3, g4⟩ := rdo_Tlaws_Ex g0
  obtain ⟨a5, c6, rfl⟩ := rd_sl1 g3
  obtain rfl : c2 = [.int .i64 p0.Class_] := g4
  unfold laws_toEx at H
  refine f_enter (vs := [.agg #[.slice a5 p0.Bins_.length c6, .int .i64 p0.Class_]]) Try.func30 rfl Try.ntmps30 rfl (HS) ?_
  refine c_seq ?_
  refine c_reg ?_
  refine ow_box (cs := [.slice a5 p0.Bins_.length c6, .int .i64 p0.Class_]) rfl rfl rfl rfl rfl rfl (fun _ => kp) (fun b7 => ?_)
  refine ow_alloc rfl rfl rfl rfl ty56 (fun _ => kp) (fun b8 => ?_)
  refine ow_nil ?_
  refine x_qs ?_
  refine c_seq ?_
  refine c_reg ?_
  refine ow_alloc rfl rfl rfl rfl ty56 (fun _ => kp) (fun b9 => ?_)
  refine ow_nil ?_
  refine x_qs ?_
  refine c_seq ?_
  refine c_reg ?_
  refine ow_batch [.fa 53 0 0 fa53_0] rfl ?_
  refine ow_r rfl (dstOk_lt rfl) (ry_box1 (off := 0) rfl rfl ty22 (boxIn (i := 0) rfl) rfl) ?_
  obtain ⟨y10, h11, H⟩ := of_bind H
  refine ow_callS rfl fn60 rfl rfl rfl rfl (fun w1 hw1 => laws_toIntS_ok w1  h11 (hw1.carve [] rfl rfl) (rds_bor g3 w1 hw1)) (fun v12 w1 w2 hw1 hR14 => ?_)
  obtain ⟨a15, n16, c17, F18, rfl, hS13⟩ := hR14
  obtain rfl := own_nS (i := 0) hS13 rfl
  refine ⟨St w M0 [_, _, _, _], hw1.comp [] rfl rfl hS13, fun _ _ => trivial, ?_⟩
  refine ow_batch [.fa 56 0 0 fa56_0] rfl ?_
  refine ow_storeC (off := 0) [.slice a15 y10.length c17] [_, _] (i := 2) rfl rfl rfl rfl rfl rfl ty22 rfl rfl (by intro u hu; simp only [List.mem_cons, List.not_mem_nil, or_false] at hu; rcases hu with rfl <;> rfl) rfl rfl rfl kp ?_
  refine ow_nil ?_
  refine x_qs ?_
  refine c_seq ?_
  refine c_reg ?_
  refine ow_batch [.fa 53 1 1 fa53_1] rfl ?_
  refine ow_r rfl (dstOk_lt rfl) (ry_box1 (off := 1) rfl rfl ty3 (boxIn (i := 0) rfl) rfl) ?_
  refine ow_batch [.fa 56 1 1 fa56_1] rfl ?_
  refine ow_storeC (off := 1) [.int .i64 p0.Class_] [_, _] (i := 2) rfl rfl rfl rfl rfl rfl ty3 rfl rfl (by intro u hu; simp only [List.mem_cons, List.not_mem_nil, or_false] at hu; rcases hu with rfl <;> rfl) rfl rfl rfl kp ?_
  refine ow_nil ?_
  refine x_qs ?_
  refine c_seq ?_
  refine c_reg ?_
  refine ow_r rfl (dstOk_lt rfl) (ry_box (off := 0) (ds := [.slice a15 y10.length c17, .int .i64 p0.Class_]) rfl rfl ty56 (boxIn (i := 2) rfl) rfl rfl) ?_
  refine ow_storeC (off := 0) [.slice a15 y10.length c17, .int .i64 p0.Class_] [_, _] (i := 1) rfl rfl rfl rfl rfl rfl ty56 rfl rfl (by intro u hu; simp only [List.mem_cons, List.not_mem_nil, or_false] at hu; rcases hu with rfl | rfl <;> rfl) rfl rfl rfl kp ?_
  refine ow_nil ?_
  refine x_qs ?_
  refine c_ret ?_
  exact x_retR (rs := [.cell 2 56]) (vs := [.agg #[.slice a15 y10.length c17, .int .i64 p0.Class_]]) rfl ⟨⟨_, [.slice a15 y10.length c17, .int .i64 p0.Class_], _, _, _, rfl, ty56, (at_box (T := 56) 0 (boxIn (i := 1) rfl) rfl), rfl, rfl⟩, trivial⟩ (fun w' hw' => by
      obtain rfl := of_some H
      exact ⟨_, rfl, a15, y10.length, c17, F18, rfl, hw'.sel [3] rfl rfl⟩)

set_option maxHeartbeats 4000000 in
set_option maxRecDepth 100000 in
theorem laws_toEntry_ok (w : World) {M0 : List Nat} {p0 : Tlaws_Entry} {cs0 : List Value} {r : Timpl_Entry} (H : laws_toEntry p0 = some r) (HS : St w M0 [] w) (g0 : (eTlaws_Entry).rd w M0 p0 cs0) :
    Calls Try.prog 77 #[.agg cs0.toArray] w (fun en w' => ∃ v, en = .returned v ∧ ∃ (a0 : Option Addr), ∃ (n0 : Nat), ∃ (c0 : Nat), ∃ (F0 : List Nat), v = .agg #[.slice a0 n0 c0, .int .i64 r.Ex_.Class_, .int .i64 r.Weight_] ∧ St w M0 [Res.own (eList (eVal (Value.int .i64) (fun _ => rfl)) 3) F0 r.Ex_.Bins_ [.slice a0 n0 c0]] w') := by
  obtain ⟨c1, c2, rfl, g3, g4⟩ := rdo_Tlaws_Entry g0
  obtain ⟨c5, c6, rfl, g7, g8⟩ := rdo_Tlaws_Ex g3
  obtain ⟨a9, c10, rfl⟩ := rd_sl1 g7
  obtain rfl : c6 = [.int .i64 p0.Ex_.Class_] := g8
  obtain rfl : c2 = [.int .i64 p0.Weight_] := g4
  unfold laws_toEntry at H
  refine f_enter (vs := [.agg #[.slice a9 p0.Ex_.Bins_.length c10, .int .i64 p0.Ex_.Class_, .int .i64 p0.Weight_]]) Try.func77 rfl Try.ntmps77 rfl (HS) ?_
  refine c_seq ?_
  refine c_reg ?_
  refine ow_box (cs := [.slice a9 p0.Ex_.Bins_.length c10, .int .i64 p0.Ex_.Class_, .int .i64 p0.Weight_]) rfl rfl rfl rfl rfl rfl (fun _ => kp) (fun b11 => ?_)
  refine ow_alloc rfl rfl rfl rfl ty111 (fun _ => kp) (fun b12 => ?_)
  refine ow_nil ?_
  refine x_qs ?_
  refine c_seq ?_
  refine c_reg ?_
  refine ow_alloc rfl rfl rfl rfl ty111 (fun _ => kp) (fun b13 => ?_)
  refine ow_nil ?_
  refine x_qs ?_
  refine c_seq ?_
  refine c_reg ?_
  refine ow_batch [.fa 109 0 0 fa109_0] rfl ?_
  refine ow_r rfl (dstOk_lt rfl) (ry_box (off := 0) (ds := [.slice a9 p0.Ex_.Bins_.length c10, .int .i64 p0.Ex_.Class_]) rfl rfl ty53 (boxIn (i := 0) rfl) rfl rfl) ?_
  obtain ⟨y14, h15, H⟩ := of_bind H
  refine ow_callS rfl fn30 rfl rfl rfl rfl (fun w1 hw1 => laws_toEx_ok w1 (cs0 := [.slice a9 p0.Ex_.Bins_.length c10, .int .i64 p0.Ex_.Class_]) h15 (hw1.carve [] rfl rfl) (rdm_Tlaws_Ex (x := p0.Ex_) (c0 := [.slice a9 p0.Ex_.Bins_.length c10]) (c1 := [.int .i64 p0.Ex_.Class_]) (rds_bor g7 w1 hw1) rfl)) (fun v16 w1 w2 hw1 hR18 => ?_)
  obtain ⟨a19, n20, c21, F22, rfl, hS17⟩ := hR18
  obtain rfl := own_nS (i := 0) hS17 rfl
  refine ⟨St w M0 [_, _, _, _], hw1.comp [] rfl rfl hS17, fun _ _ => trivial, ?_⟩
  refine ow_batch [.fa 111 0 0 fa111_0] rfl ?_
  refine ow_storeC (off := 0) [.slice a19 y14.Bins_.length c21, .int .i64 y14.Class_] [_, _, _] (i := 2) rfl rfl rfl rfl rfl rfl ty56 rfl rfl (by intro u hu; simp only [List.mem_cons, List.not_mem_nil, or_false] at hu; rcases hu with rfl | rfl <;> rfl) rfl rfl rfl kp ?_
  refine ow_nil ?_
  refine x_qs ?_
  refine c_seq ?_
  refine c_reg ?_
  refine ow_batch [.fa 109 1 2 fa109_1] rfl ?_
  refine ow_r rfl (dstOk_lt rfl) (ry_box1 (off := 2) rfl rfl ty3 (boxIn (i := 0) rfl) rfl) ?_
  refine ow_batch [.fa 111 1 2 fa111_1] rfl ?_
  refine ow_storeC (off := 2) [.int .i64 p0.Weight_] [_, _, _] (i := 2) rfl rfl rfl rfl rfl rfl ty3 rfl rfl (by intro u hu; simp only [List.mem_cons, List.not_mem_nil, or_false] at hu; rcases hu with rfl <;> rfl) rfl rfl rfl kp ?_
  refine ow_nil ?_
  refine x_qs ?_
  refine c_seq ?_
  refine c_reg ?_
  refine ow_r rfl (dstOk_lt rfl) (ry_box (off := 0) (ds := [.slice a19 y14.Bins_.length c21, .int .i64 y14.Class_, .int .i64 p0.Weight_]) rfl rfl ty111 (boxIn (i := 2) rfl) rfl rfl) ?_
  refine ow_storeC (off := 0) [.slice a19 y14.Bins_.length c21, .int .i64 y14.Class_, .int .i64 p0.Weight_] [_, _, _] (i := 1) rfl rfl rfl rfl rfl rfl ty111 rfl rfl (by intro u hu; simp only [List.mem_cons, List.not_mem_nil, or_false] at hu; rcases hu with rfl | rfl | rfl <;> rfl) rfl rfl rfl kp ?_
  refine ow_nil ?_
  refine x_qs ?_
  refine c_ret ?_
  exact x_retR (rs := [.cell 2 111]) (vs := [.agg #[.slice a19 y14.Bins_.length c21, .int .i64 y14.Class_, .int .i64 p0.Weight_]]) rfl ⟨⟨_, [.slice a19 y14.Bins_.length c21, .int .i64 y14.Class_, .int .i64 p0.Weight_], _, _, _, rfl, ty111, (at_box (T := 111) 0 (boxIn (i := 1) rfl) rfl), rfl, rfl⟩, trivial⟩ (fun w' hw' => by
      obtain rfl := of_some H
      exact ⟨_, rfl, a19, y14.Bins_.length, c21, F22, rfl, hw'.sel [3] rfl rfl⟩)

set_option maxHeartbeats 4000000 in
set_option maxRecDepth 100000 in
theorem laws_toEntryS_ok (w : World) {M0 : List Nat} {p0 : List Tlaws_Entry} {a_0 : Option Addr} {n_0 c_0 : Nat} {r : List Timpl_Entry} (H : laws_toEntryS p0 = some r) (HS : St w M0 [] w) (g0 : (eList (eTlaws_Entry) 109).rd w M0 p0 [.slice a_0 n_0 c_0]) :
    Calls Try.prog 35 #[.slice a_0 n_0 c_0] w (fun en w' => ∃ v, en = .returned v ∧ ∃ (a0 : Option Addr), ∃ (n0 : Nat), ∃ (c0 : Nat), ∃ (F0 : List Nat), v = .slice a0 n0 c0 ∧ St w M0 [Res.own (eList (eTimpl_Entry) 111) F0 r [.slice a0 n0 c0]] w') := by
  obtain rfl := rd_n g0
  unfold laws_toEntryS at H
  refine f_enter (vs := [.slice a_0 p0.length c_0]) Try.func35 rfl Try.ntmps35 rfl (HS) ?_
  refine c_seq ?_
  refine c_reg ?_
  refine ow_batch [.p] rfl ?_
  refine ow_nil ?_
  refine x_qs ?_
  refine c_seq ?_
  refine c_reg ?_
  refine ow_batch [.p, .lenS 60 109 sl60] rfl ?_
  obtain ⟨l1, h2, H⟩ := of_bind H
  refine ow_make (e := eTimpl_Entry) (zero := ((Timpl_Entry.mk (Timpl_Ex.mk [] 0) 0) : Timpl_Entry)) rfl rfl rfl rfl rfl rfl sl63 ty111 rfl rfl rfl rfl (fun _ => (ownm_Timpl_Entry (x := (Timpl_Entry.mk (Timpl_Ex.mk [] 0) 0)) ((ownm_Timpl_Ex (x := (Timpl_Ex.mk [] 0)) ((.inl ⟨rfl, rfl, rfl⟩) : (eList (eVal (Value.int .i64) (fun _ => rfl)) 3).own _ [] ([] : List Int) _) (⟨rfl, rfl⟩ : (eVal (Value.int .i64) (fun _ => rfl)).own _ [] (0 : Int) _)) : (eTimpl_Ex).own _ [] ((Timpl_Ex.mk [] 0) : Timpl_Ex) _) (⟨rfl, rfl⟩ : (eVal (Value.int .i64) (fun _ => rfl)).own _ [] (0 : Int) _))) h2 (fun _ => kp) (fun b3 => ?_)
  refine ow_batch [.p] rfl ?_
  refine ow_nil ?_
  refine x_qs ?_
  refine c_seq ?_
  refine c_seq ?_
  refine c_reg ?_
  refine ow_batch [.p] rfl ?_
  refine ow_nil ?_
  refine x_qs ?_
  refine c_block ?_
  refine CW.at (loopI3 (fun (l47 : List Timpl_Entry) (F48 : List Nat) (i49 : Int) => St w M0 [Res.own (eList (eTimpl_Entry) 111) F48 l47 [.slice (some ⟨b3, 0, none⟩) l1.length l1.length]]) (fun (l47 : List Timpl_Entry) (F48 : List Nat) (i49 : Int) => [(0, .slice a_0 p0.length c_0), (3, .slice (some ⟨b3, 0, none⟩) l1.length l1.length), (4, .int .i64 i49)]) (fun kk => fun (l47 : List Timpl_Entry) (F48 : List Nat) (i49 : Int) => laws_toEntryS_L1 p0 kk l47 i49 = some r) (fun _ _ _ H => ?_) (fun k1 ihk1 l47 F48 i49 H => ?_) Fuel (l1) ([b3]) (0) (H)) (fun _ h => St.sel [0] rfl rfl h) ⟨rfl, rfl, rfl,  trivial⟩
  · unfold laws_toEntryS_L1 at H
    exact absurd H (by simp)
  · unfold laws_toEntryS_L1 at H
    refine c_seq ?_
    refine c_seq ?_
    refine c_reg ?_
    refine ow_batch [.p, .p, .lenS 60 109 sl60, .p] rfl ?_
    refine ow_nil ?_
    refine x_qs ?_
    refine c_if rfl (fun hb => ?_) (fun hb => ?_)
    · have H := of_if_t hb H
      refine c_skip ?_
      refine x_qs ?_
      refine c_seq ?_
      refine c_block ?_
      refine c_reg ?_
      refine ow_batch [.p, .p, .p, .p] rfl ?_
      obtain ⟨e93, h94, H⟩ := of_bind H
      refine ow_ixB rfl rfl rfl rfl rfl sl60 ty109 rfl g0 h94 (fun q97 c98 hd95 hA96 => ?_)
      obtain ⟨c99, c100, rfl, g101, g102⟩ := rdo_Tlaws_Entry hd95
      obtain ⟨c103, c104, rfl, g105, g106⟩ := rdo_Tlaws_Ex g101
      obtain ⟨a107, c108, rfl⟩ := rd_sl1 g105
      obtain rfl : c104 = [.int .i64 e93.Ex_.Class_] := g106
      obtain rfl : c100 = [.int .i64 e93.Weight_] := g102
      refine ow_r rfl (dstOk_lt rfl) (ry_load (cs := [.slice a107 e93.Ex_.Bins_.length c108, .int .i64 e93.Ex_.Class_, .int .i64 e93.Weight_]) rfl rfl ty109 (at_bor bor hA96) rfl) ?_
      obtain ⟨y109, h110, H⟩ := of_bind H
      refine ow_callS rfl fn77 rfl rfl rfl rfl (fun w1 hw1 => laws_toEntry_ok w1 (cs0 := [.slice a107 e93.Ex_.Bins_.length c108, .int .i64 e93.Ex_.Class_, .int .i64 e93.Weight_]) h110 (hw1.carve [] rfl rfl) (rdm_Tlaws_Entry (x := e93) (c0 := [.slice a107 e93.Ex_.Bins_.length c108, .int .i64 e93.Ex_.Class_]) (c1 := [.int .i64 e93.Weight_]) (rdm_Tlaws_Ex (x := e93.Ex_) (c0 := [.slice a107 e93.Ex_.Bins_.length c108]) (c1 := [.int .i64 e93.Ex_.Class_]) (rds_bor g105 w1 hw1) rfl) rfl)) (fun v111 w1 w2 hw1 hR113 => ?_)
      obtain ⟨a114, n115, c116, F117, rfl, hS112⟩ := hR113
      obtain rfl := own_nS (i := 0) hS112 rfl
      refine ⟨St w M0 [_, _], hw1.comp [] rfl rfl hS112, fun _ _ => trivial, ?_⟩
      obtain ⟨e118, h119, H⟩ := of_bind H
      refine ow_ex4 rfl (fun w1 hw1 => foc (r := 0) hw1 rfl h119) (fun b121 G122 F123 c124 => ?_)
      refine ow_fact rfl (fun w1 hw1 => hw1.1) (fun q120 => ?_)
      obtain ⟨ha125, hn126⟩ := q120
      refine ow_st (C' := St w M0 [_, _, _, _]) rfl (fun w1 hw1 => hw1.2) ?_
      refine ow_ex3 rfl (fun w1 hw1 => opn_Timpl_Entry (i := 3) hw1 rfl) (fun a128 c129 F130 => ?_)
      refine ow_fact rfl (fun w1 hw1 => hw1.1) (fun q127 => ?_)
      subst q127
      refine ow_st (C' := St w M0 [_, _, _, _, _]) rfl (fun w1 hw1 => hw1.2) ?_
      refine ow_ixH rfl rfl rfl rfl rfl sl63 ty111 rfl (holeIn (p := 2) rfl) hn126 ha125 (idx_some h119).1 ?_
      refine ow_storeH (off := 0) [.slice a114 y109.Ex_.Bins_.length c116, .int .i64 y109.Ex_.Class_, .int .i64 y109.Weight_] (p := 2) (c' := [_, _, _]) rfl rfl rfl rfl rfl (by first | rfl | simp only [add_lit, add_add, add_zero]) rfl ty111 rfl rfl (by intro u hu; simp only [List.mem_cons, List.not_mem_nil, or_false] at hu; rcases hu with rfl | rfl | rfl <;> rfl) rfl rfl rfl kp ?_
      refine ow_nil ?_
      refine x_qb ?_
      refine x_qs ?_
      refine CW.weak (C' := St w M0 [_, _, _]) ?_ (fun _ h => St.sel [1, 2, 4] rfl rfl h)
      refine c_reg ?_
      refine ow_batch [.p, .p, .p] rfl ?_
      refine ow_nil ?_
      refine xw_ex (fun w1 hw1 => fus_Timpl_Entry (x1 := y109.Ex_.Class_) (x2 := y109.Weight_) [0] hw1 rfl rfl) (fun F131 => ?_)
      refine xw_st (C' := St w M0 [_, _, _, _]) (fun _ h => h) ?_
      refine xw_ex (fun w1 hw1 => unf (p := 1) (q := 3) hw1 rfl rfl rfl hn126 ha125) (fun F132 => ?_)
      refine xw_st (C' := St w M0 [_, _, _, _, _]) (fun _ h => h) ?_
      exact x_ql (RW.at (ihk1 ((l47.set i49.toNat y109)) (F132) (IntKind.i64.wrap (i49 + 1)) (H)) (fun _ h => St.sel [4] rfl rfl h) ⟨rfl, rfl, rfl, trivial⟩)
    · have H := of_if_f hb H
      refine c_exit ?_
      refine x_qs_exit ?_
      refine x_ql_exit ?_
      refine x_qb_here ?_
      refine x_qs ?_
      refine c_seq ?_
      refine c_reg ?_
      refine ow_batch [.p, .p] rfl ?_
      refine ow_nil ?_
      refine x_qs ?_
      refine c_ret ?_
      exact x_retR (rs := [.tmp 2]) (vs := [.slice (some ⟨b3, 0, none⟩) l1.length l1.length]) rfl ⟨rfl, trivial⟩ (fun w' hw' => by
          obtain rfl := of_some H
          exact ⟨_, rfl, (some ⟨b3, 0, none⟩), l1.length, l1.length, F48, rfl, hw'.sel [0] rfl rfl⟩)

set_option maxHeartbeats 4000000 in
set_option maxRecDepth 100000 in
theorem laws_eqEx_ok (w : World) {p0 : Timpl_Ex} {p1 : Timpl_Ex} {cs0 : List Value} {cs1 : List Value} {r : Bool} (H : laws_eqEx p0 p1 = some r)  (g0 : (eTimpl_Ex).rd w [] p0 cs0) (g1 : (eTimpl_Ex).rd w [] p1 cs1) :
    Calls Try.prog 32 #[.agg cs0.toArray, .agg cs1.toArray] w (fun en w' => en = .returned (.bool r) ∧ Ext [] w w') := by
  obtain ⟨c1, c2, rfl, g3, g4⟩ := rdo_Timpl_Ex g0
  obtain ⟨a5, c6, rfl⟩ := rd_sl1 g3
  obtain rfl : c2 = [.int .i64 p0.Class_] := g4
  obtain ⟨c7, c8, rfl, g9, g10⟩ := rdo_Timpl_Ex g1
  obtain ⟨a11, c12, rfl⟩ := rd_sl1 g9
  obtain rfl : c8 = [.int .i64 p1.Class_] := g10
  unfold laws_eqEx at H
  refine f_enter (vs := [.agg #[.slice a5 p0.Bins_.length c6, .int .i64 p0.Class_], .agg #[.slice a11 p1.Bins_.length c12, .int .i64 p1.Class_]]) Try.func32 rfl Try.ntmps32 rfl (St.init w []) ?_
  refine c_seq ?_
  refine c_reg ?_
  refine ow_box (cs := [.slice a5 p0.Bins_.length c6, .int .i64 p0.Class_]) rfl rfl rfl rfl rfl rfl (fun _ => kp) (fun b13 => ?_)
  refine ow_box (cs := [.slice a11 p1.Bins_.length c12, .int .i64 p1.Class_]) rfl rfl rfl rfl rfl rfl (fun _ => kp) (fun b14 => ?_)
  refine ow_batch [.p] rfl ?_
  refine ow_nil ?_
  refine x_qs ?_
  refine c_seq ?_
  refine c_seq ?_
  refine c_reg ?_
  refine ow_batch [.fa 56 0 0 fa56_0] rfl ?_
  refine ow_r rfl (dstOk_lt rfl) (ry_box1 (off := 0) rfl rfl ty22 (boxIn (i := 0) rfl) rfl) ?_
  refine ow_batch [.fa 56 0 0 fa56_0] rfl ?_
  refine ow_r rfl (dstOk_lt rfl) (ry_box1 (off := 0) rfl rfl ty22 (boxIn (i := 1) rfl) rfl) ?_
  obtain ⟨y15, h16, H⟩ := of_bind H
  refine ow_q rfl rfl (dstOk_lt rfl) (qy_call rfl fn64 rfl (fun w1 hw1 => laws_eqIntS_ok w1  h16 (rds_bor g3 w1 hw1) (rds_bor g9 w1 hw1))) (fun _ _ => trivial) ?_
  refine ow_batch [.p] rfl ?_
  refine ow_nil ?_
  refine x_qs ?_
  refine c_if rfl (fun hb => ?_) (fun hb => ?_)
  · have H := of_if_t hb H
    refine c_seq ?_
    refine c_reg ?_
    refine ow_batch [.p] rfl ?_
    refine ow_nil ?_
    refine x_qs ?_
    refine c_ret ?_
    refine x_qs_ret ?_
    exact x_retR (rs := [.tmp 4]) (vs := [.bool false]) rfl ⟨rfl, trivial⟩ (fun w' hw' => by
        obtain rfl := of_some H
        exact ⟨rfl, hw'.ext⟩)
  · have H := of_if_f hb H
    refine c_skip ?_
    refine x_qs ?_
    refine c_seq ?_
    refine c_seq ?_
    refine c_reg ?_
    refine ow_batch [.fa 56 1 1 fa56_1] rfl ?_
    refine ow_r rfl (dstOk_lt rfl) (ry_box1 (off := 1) rfl rfl ty3 (boxIn (i := 0) rfl) rfl) ?_
    refine ow_batch [.fa 56 1 1 fa56_1] rfl ?_
    refine ow_r rfl (dstOk_lt rfl) (ry_box1 (off := 1) rfl rfl ty3 (boxIn (i := 1) rfl) rfl) ?_
    refine ow_batch [.p] rfl ?_
    refine ow_nil ?_
    refine x_qs ?_
    refine c_if rfl (fun hb => ?_) (fun hb => ?_)
    · have H := of_if_t hb H
      refine c_seq ?_
      refine c_reg ?_
      refine ow_batch [.p] rfl ?_
      refine ow_nil ?_
      refine x_qs ?_
      refine c_ret ?_
      refine x_qs_ret ?_
      exact x_retR (rs := [.tmp 4]) (vs := [.bool false]) rfl ⟨rfl, trivial⟩ (fun w' hw' => by
          obtain rfl := of_some H
          exact ⟨rfl, hw'.ext⟩)
    · have H := of_if_f hb H
      refine c_skip ?_
      refine x_qs ?_
      refine c_seq ?_
      refine c_reg ?_
      refine ow_batch [.p] rfl ?_
      refine ow_nil ?_
      refine x_qs ?_
      refine c_ret ?_
      exact x_retR (rs := [.tmp 4]) (vs := [.bool true]) rfl ⟨rfl, trivial⟩ (fun w' hw' => by
          obtain rfl := of_some H
          exact ⟨rfl, hw'.ext⟩)

set_option maxHeartbeats 4000000 in
set_option maxRecDepth 100000 in
theorem laws_eqEntry_ok (w : World) {p0 : Timpl_Entry} {p1 : Timpl_Entry} {cs0 : List Value} {cs1 : List Value} {r : Bool} (H : laws_eqEntry p0 p1 = some r)  (g0 : (eTimpl_Entry).rd w [] p0 cs0) (g1 : (eTimpl_Entry).rd w [] p1 cs1) :
    Calls Try.prog 80 #[.agg cs0.toArray, .agg cs1.toArray] w (fun en w' => en = .returned (.bool r) ∧ Ext [] w w') := by
  obtain ⟨c1, c2, rfl, g3, g4⟩ := rdo_Timpl_Entry g0
  obtain ⟨c5, c6, rfl, g7, g8⟩ := rdo_Timpl_Ex g3
  obtain ⟨a9, c10, rfl⟩ := rd_sl1 g7
  obtain rfl : c6 = [.int .i64 p0.Ex_.Class_] := g8
  obtain rfl : c2 = [.int .i64 p0.Weight_] := g4
  obtain ⟨c11, c12, rfl, g13, g14⟩ := rdo_Timpl_Entry g1
  obtain ⟨c15, c16, rfl, g17, g18⟩ := rdo_Timpl_Ex g13
  obtain ⟨a19, c20, rfl⟩ := rd_sl1 g17
  obtain rfl : c16 = [.int .i64 p1.Ex_.Class_] := g18
  obtain rfl : c12 = [.int .i64 p1.Weight_] := g14
  unfold laws_eqEntry at H
  refine f_enter (vs := [.agg #[.slice a9 p0.Ex_.Bins_.length c10, .int .i64 p0.Ex_.Class_, .int .i64 p0.Weight_], .agg #[.slice a19 p1.Ex_.Bins_.length c20, .int .i64 p1.Ex_.Class_, .int .i64 p1.Weight_]]) Try.func80 rfl Try.ntmps80 rfl (St.init w []) ?_
  refine c_seq ?_
  refine c_reg ?_
  refine ow_box (cs := [.slice a9 p0.Ex_.Bins_.length c10, .int .i64 p0.Ex_.Class_, .int .i64 p0.Weight_]) rfl rfl rfl rfl rfl rfl (fun _ => kp) (fun b21 => ?_)
  refine ow_box (cs := [.slice a19 p1.Ex_.Bins_.length c20, .int .i64 p1.Ex_.Class_, .int .i64 p1.Weight_]) rfl rfl rfl rfl rfl rfl (fun _ => kp) (fun b22 => ?_)
  refine ow_batch [.p] rfl ?_
  refine ow_nil ?_
  refine x_qs ?_
  refine c_seq ?_
  refine c_seq ?_
  refine c_reg ?_
  refine ow_batch [.fa 111 0 0 fa111_0] rfl ?_
  refine ow_r rfl (dstOk_lt rfl) (ry_box (off := 0) (ds := [.slice a9 p0.Ex_.Bins_.length c10, .int .i64 p0.Ex_.Class_]) rfl rfl ty56 (boxIn (i := 0) rfl) rfl rfl) ?_
  refine ow_batch [.fa 111 0 0 fa111_0] rfl ?_
  refine ow_r rfl (dstOk_lt rfl) (ry_box (off := 0) (ds := [.slice a19 p1.Ex_.Bins_.length c20, .int .i64 p1.Ex_.Class_]) rfl rfl ty56 (boxIn (i := 1) rfl) rfl rfl) ?_
  obtain ⟨y23, h24, H⟩ := of_bind H
  refine ow_q rfl rfl (dstOk_lt rfl) (qy_call rfl fn32 rfl (fun w1 hw1 => laws_eqEx_ok w1 (cs0 := [.slice a9 p0.Ex_.Bins_.length c10, .int .i64 p0.Ex_.Class_]) (cs1 := [.slice a19 p1.Ex_.Bins_.length c20, .int .i64 p1.Ex_.Class_]) h24 (rdm_Timpl_Ex (x := p0.Ex_) (c0 := [.slice a9 p0.Ex_.Bins_.length c10]) (c1 := [.int .i64 p0.Ex_.Class_]) (rds_bor g7 w1 hw1) rfl) (rdm_Timpl_Ex (x := p1.Ex_) (c0 := [.slice a19 p1.Ex_.Bins_.length c20]) (c1 := [.int .i64 p1.Ex_.Class_]) (rds_bor g17 w1 hw1) rfl))) (fun _ _ => trivial) ?_
  refine ow_batch [.p] rfl ?_
  refine ow_nil ?_
  refine x_qs ?_
  refine c_if rfl (fun hb => ?_) (fun hb => ?_)
  · have H := of_if_t hb H
    refine c_seq ?_
    refine c_reg ?_
    refine ow_batch [.p] rfl ?_
    refine ow_nil ?_
    refine x_qs ?_
    refine c_ret ?_
    refine x_qs_ret ?_
    exact x_retR (rs := [.tmp 4]) (vs := [.bool false]) rfl ⟨rfl, trivial⟩ (fun w' hw' => by
        obtain rfl := of_some H
        exact ⟨rfl, hw'.ext⟩)
  · have H := of_if_f hb H
    refine c_skip ?_
    refine x_qs ?_
    refine c_seq ?_
    refine c_seq ?_
    refine c_reg ?_
    refine ow_batch [.fa 111 1 2 fa111_1] rfl ?_
    refine ow_r rfl (dstOk_lt rfl) (ry_box1 (off := 2) rfl rfl ty3 (boxIn (i := 0) rfl) rfl) ?_
    refine ow_batch [.fa 111 1 2 fa111_1] rfl ?_
    refine ow_r rfl (dstOk_lt rfl) (ry_box1 (off := 2) rfl rfl ty3 (boxIn (i := 1) rfl) rfl) ?_
    refine ow_batch [.p] rfl ?_
    refine ow_nil ?_
    refine x_qs ?_
    refine c_if rfl (fun hb => ?_) (fun hb => ?_)
    · have H := of_if_t hb H
      refine c_seq ?_
      refine c_reg ?_
      refine ow_batch [.p] rfl ?_
      refine ow_nil ?_
      refine x_qs ?_
      refine c_ret ?_
      refine x_qs_ret ?_
      exact x_retR (rs := [.tmp 4]) (vs := [.bool false]) rfl ⟨rfl, trivial⟩ (fun w' hw' => by
          obtain rfl := of_some H
          exact ⟨rfl, hw'.ext⟩)
    · have H := of_if_f hb H
      refine c_skip ?_
      refine x_qs ?_
      refine c_seq ?_
      refine c_reg ?_
      refine ow_batch [.p] rfl ?_
      refine ow_nil ?_
      refine x_qs ?_
      refine c_ret ?_
      exact x_retR (rs := [.tmp 4]) (vs := [.bool true]) rfl ⟨rfl, trivial⟩ (fun w' hw' => by
          obtain rfl := of_some H
          exact ⟨rfl, hw'.ext⟩)

set_option maxHeartbeats 4000000 in
set_option maxRecDepth 100000 in
theorem laws_eqEntryS_ok (w : World) {p0 : List Timpl_Entry} {p1 : List Timpl_Entry} {a_0 : Option Addr} {n_0 c_0 : Nat} {a_1 : Option Addr} {n_1 c_1 : Nat} {r : Bool} (H : laws_eqEntryS p0 p1 = some r)  (g0 : (eList (eTimpl_Entry) 111).rd w [] p0 [.slice a_0 n_0 c_0]) (g1 : (eList (eTimpl_Entry) 111).rd w [] p1 [.slice a_1 n_1 c_1]) :
    Calls Try.prog 37 #[.slice a_0 n_0 c_0, .slice a_1 n_1 c_1] w (fun en w' => en = .returned (.bool r) ∧ Ext [] w w') := by
  obtain rfl := rd_n g0
  obtain rfl := rd_n g1
  unfold laws_eqEntryS at H
  refine f_enter (vs := [.slice a_0 p0.length c_0, .slice a_1 p1.length c_1]) Try.func37 rfl Try.ntmps37 rfl (St.init w []) ?_
  refine c_seq ?_
  refine c_reg ?_
  refine ow_batch [.p] rfl ?_
  refine ow_nil ?_
  refine x_qs ?_
  refine c_seq ?_
  refine c_seq ?_
  refine c_reg ?_
  refine ow_batch [.p, .lenS 63 111 sl63, .p, .lenS 63 111 sl63, .p] rfl ?_
  refine ow_nil ?_
  refine x_qs ?_
  refine c_if rfl (fun hb => ?_) (fun hb => ?_)
  · have H := of_if_t hb H
    refine c_seq ?_
    refine c_reg ?_
    refine ow_batch [.p] rfl ?_
    refine ow_nil ?_
    refine x_qs ?_
    refine c_ret ?_
    refine x_qs_ret ?_
    exact x_retR (rs := [.tmp 4]) (vs := [.bool false]) rfl ⟨rfl, trivial⟩ (fun w' hw' => by
        obtain rfl := of_some H
        exact ⟨rfl, hw'.ext⟩)
  · have H := of_if_f hb H
    refine c_skip ?_
    refine x_qs ?_
    refine c_seq ?_
    refine c_seq ?_
    refine c_reg ?_
    refine ow_batch [.p] rfl ?_
    refine ow_nil ?_
    refine x_qs ?_
    refine c_block ?_
    refine CW.at (loopI1 (fun (i36 : Int) => St w [] []) (fun (i36 : Int) => [(0, .slice a_0 p0.length c_0), (1, .slice a_1 p1.length c_1), (5, .int .i64 i36)]) (fun kk => fun (i36 : Int) => laws_eqEntryS_L1 p0 p1 kk i36 = some r) (fun _ H => ?_) (fun k1 ihk1 i36 H => ?_) Fuel (0) (H)) (fun _ h => St.sel [] rfl rfl h) ⟨rfl, rfl, rfl,  trivial⟩
    · unfold laws_eqEntryS_L1 at H
      exact absurd H (by simp)
    · unfold laws_eqEntryS_L1 at H
      refine c_seq ?_
      refine c_seq ?_
      refine c_reg ?_
      refine ow_batch [.p, .p, .lenS 63 111 sl63, .p] rfl ?_
      refine ow_nil ?_
      refine x_qs ?_
      refine c_if rfl (fun hb => ?_) (fun hb => ?_)
      · have H := of_if_t hb H
        refine c_skip ?_
        refine x_qs ?_
        refine c_seq ?_
        refine c_block ?_
        refine c_seq ?_
        refine c_regQ mixed (by kernel_rfl) ?_
        refine ow_batch [.p, .p] rfl ?_
        obtain ⟨e72, h73, H⟩ := of_bind H
        refine ow_ixB rfl rfl rfl rfl rfl sl63 ty111 rfl g0 h73 (fun q76 c77 hd74 hA75 => ?_)
        obtain ⟨c78, c79, rfl, g80, g81⟩ := rdo_Timpl_Entry hd74
        obtain ⟨c82, c83, rfl, g84, g85⟩ := rdo_Timpl_Ex g80
        obtain ⟨a86, c87, rfl⟩ := rd_sl1 g84
        obtain rfl : c83 = [.int .i64 e72.Ex_.Class_] := g85
        obtain rfl : c79 = [.int .i64 e72.Weight_] := g81
        refine ow_r rfl (dstOk_lt rfl) (ry_load (cs := [.slice a86 e72.Ex_.Bins_.length c87, .int .i64 e72.Ex_.Class_, .int .i64 e72.Weight_]) rfl rfl ty111 (at_bor bor hA75) rfl) ?_
        refine ow_batch [.p, .p] rfl ?_
        obtain ⟨e88, h89, H⟩ := of_bind H
        refine ow_ixB rfl rfl rfl rfl rfl sl63 ty111 rfl g1 h89 (fun q92 c93 hd90 hA91 => ?_)
        obtain ⟨c94, c95, rfl, g96, g97⟩ := rdo_Timpl_Entry hd90
        obtain ⟨c98, c99, rfl, g100, g101⟩ := rdo_Timpl_Ex g96
        obtain ⟨a102, c103, rfl⟩ := rd_sl1 g100
        obtain rfl : c99 = [.int .i64 e88.Ex_.Class_] := g101
        obtain rfl : c95 = [.int .i64 e88.Weight_] := g97
        refine ow_r rfl (dstOk_lt rfl) (ry_load (cs := [.slice a102 e88.Ex_.Bins_.length c103, .int .i64 e88.Ex_.Class_, .int .i64 e88.Weight_]) rfl rfl ty111 (at_bor bor hA91) rfl) ?_
        obtain ⟨y104, h105, H⟩ := of_bind H
        refine ow_q rfl rfl (dstOk_lt rfl) (qy_call rfl fn80 rfl (fun w1 hw1 => laws_eqEntry_ok w1 (cs0 := [.slice a86 e72.Ex_.Bins_.length c87, .int .i64 e72.Ex_.Class_, .int .i64 e72.Weight_]) (cs1 := [.slice a102 e88.Ex_.Bins_.length c103, .int .i64 e88.Ex_.Class_, .int .i64 e88.Weight_]) h105 (rdm_Timpl_Entry (x := e72) (c0 := [.slice a86 e72.Ex_.Bins_.length c87, .int .i64 e72.Ex_.Class_]) (c1 := [.int .i64 e72.Weight_]) (rdm_Timpl_Ex (x := e72.Ex_) (c0 := [.slice a86 e72.Ex_.Bins_.length c87]) (c1 := [.int .i64 e72.Ex_.Class_]) (rds_bor g84 w1 hw1) rfl) rfl) (rdm_Timpl_Entry (x := e88) (c0 := [.slice a102 e88.Ex_.Bins_.length c103, .int .i64 e88.Ex_.Class_]) (c1 := [.int .i64 e88.Weight_]) (rdm_Timpl_Ex (x := e88.Ex_) (c0 := [.slice a102 e88.Ex_.Bins_.length c103]) (c1 := [.int .i64 e88.Ex_.Class_]) (rds_bor g100 w1 hw1) rfl) rfl))) (fun _ _ => trivial) ?_
        refine ow_batch [.p] rfl ?_
        refine ow_nilQ ?_
        refine x_qs ?_
        refine c_if rfl (fun hb => ?_) (fun hb => ?_)
        · have H := of_if_t hb H
          refine c_seq ?_
          refine c_reg ?_
          refine ow_batch [.p] rfl ?_
          refine ow_nil ?_
          refine x_qs ?_
          refine c_ret ?_
          refine x_qb_ret ?_
          refine x_qs_ret ?_
          refine x_ql_ret ?_
          refine x_qb_ret ?_
          refine x_qs_ret ?_
          exact x_retR (rs := [.tmp 4]) (vs := [.bool false]) rfl ⟨rfl, trivial⟩ (fun w' hw' => by
              obtain rfl := of_some H
              exact ⟨rfl, hw'.ext⟩)
        · have H := of_if_f hb H
          refine c_skip ?_
          refine x_qb ?_
          refine x_qs ?_
          refine c_reg ?_
          refine ow_batch [.p, .p, .p] rfl ?_
          refine ow_nil ?_
          exact x_ql (RW.at (ihk1 (IntKind.i64.wrap (i36 + 1)) (H)) (fun _ h => St.sel [] rfl rfl h) ⟨rfl, rfl, rfl, trivial⟩)
      · have H := of_if_f hb H
        refine c_exit ?_
        refine x_qs_exit ?_
        refine x_ql_exit ?_
        refine x_qb_here ?_
        refine x_qs ?_
        refine c_seq ?_
        refine c_reg ?_
        refine ow_batch [.p] rfl ?_
        refine ow_nil ?_
        refine x_qs ?_
        refine c_ret ?_
        exact x_retR (rs := [.tmp 4]) (vs := [.bool true]) rfl ⟨rfl, trivial⟩ (fun w' hw' => by
            obtain rfl := of_some H
            exact ⟨rfl, hw'.ext⟩)

set_option maxHeartbeats 4000000 in
set_option maxRecDepth 100000 in
theorem spec_ExOk_ok (w : World) {p0 : Timpl_Schema} {p1 : Timpl_Ex} {cs0 : List Value} {cs1 : List Value} {r : Bool} (H : spec_ExOk p0 p1 = some r)  (g0 : (eTimpl_Schema).rd w [] p0 cs0) (g1 : (eTimpl_Ex).rd w [] p1 cs1) :
    Calls Try.prog 74 #[.agg cs0.toArray, .agg cs1.toArray] w (fun en w' => en = .returned (.bool r) ∧ Ext [] w w') := by
  obtain ⟨c1, c2, rfl, g3, g4⟩ := rdo_Timpl_Schema g0
  obtain ⟨a5, c6, rfl⟩ := rd_sl1 g3
  obtain ⟨a7, c8, rfl⟩ := rd_sl1 g4
  obtain ⟨c9, c10, rfl, g11, g12⟩ := rdo_Timpl_Ex g1
  obtain ⟨a13, c14, rfl⟩ := rd_sl1 g11
  obtain rfl : c10 = [.int .i64 p1.Class_] := g12
  unfold spec_ExOk at H
  refine f_enter (vs := [.agg #[.slice a5 p0.Attrs_.length c6, .slice a7 p0.Classes_.length c8], .agg #[.slice a13 p1.Bins_.length c14, .int .i64 p1.Class_]]) Try.func74 rfl Try.ntmps74 rfl (St.init w []) ?_
  refine c_seq ?_
  refine c_reg ?_
  refine ow_box (cs := [.slice a5 p0.Attrs_.length c6, .slice a7 p0.Classes_.length c8]) rfl rfl rfl rfl rfl rfl (fun _ => kp) (fun b15 => ?_)
  refine ow_box (cs := [.slice a13 p1.Bins_.length c14, .int .i64 p1.Class_]) rfl rfl rfl rfl rfl rfl (fun _ => kp) (fun b16 => ?_)
  refine ow_batch [.p] rfl ?_
  refine ow_nil ?_
  refine x_qs ?_
  refine c_seq ?_
  refine c_seq ?_
  refine c_reg ?_
  refine ow_r rfl (dstOk_lt rfl) (ry_box (off := 0) (ds := [.slice a5 p0.Attrs_.length c6, .slice a7 p0.Classes_.length c8]) rfl rfl ty39 (boxIn (i := 0) rfl) rfl rfl) ?_
  obtain ⟨y17, h18, H⟩ := of_bind H
  refine ow_q rfl rfl (dstOk_lt rfl) (qy_call rfl fn67 rfl (fun w1 hw1 => spec_SchemaOk_ok w1 (cs0 := [.slice a5 p0.Attrs_.length c6, .slice a7 p0.Classes_.length c8]) h18 (rdm_Timpl_Schema (x := p0) (c0 := [.slice a5 p0.Attrs_.length c6]) (c1 := [.slice a7 p0.Classes_.length c8]) (rds_bor g3 w1 hw1) (rds_bor g4 w1 hw1)))) (fun _ _ => trivial) ?_
  refine ow_batch [.p, .p] rfl ?_
  refine ow_cut [(17, .bool ((!y17) || ((p1.Bins_.length : Int) != (p0.Attrs_.length : Int)))), (2, .pointer (some ⟨b15, 0, none⟩)), (3, .pointer (some ⟨b16, 0, none⟩))] 8 ?_ (fun key => OW.sub (R := [(2, .pointer (some ⟨b15, 0, none⟩)), (3, .pointer (some ⟨b16, 0, none⟩)), (9, .bool (!y17))]) ?_ ⟨rfl, rfl, rfl, trivial⟩)
  · refine ow_batch [.p] rfl ?_
    obtain ⟨u21, hu25, H⟩ := of_bind H
    refine ow_cut [(27, .bool u21), (2, .pointer (some ⟨b15, 0, none⟩)), (3, .pointer (some ⟨b16, 0, none⟩))] 9 ?_ (fun key => OW.sub (R := [(2, .pointer (some ⟨b15, 0, none⟩)), (3, .pointer (some ⟨b16, 0, none⟩)), (18, .bool ((!y17) || ((p1.Bins_.length : Int) != (p0.Attrs_.length : Int))))]) ?_ ⟨rfl, rfl, rfl, trivial⟩)
    · refine ow_nil ?_
      refine x_qs ?_
      refine c_if rfl (fun hb => ?_) (fun hb => ?_)
      · have H := of_if_t hb H
        refine c_seq ?_
        refine c_reg ?_
        refine ow_batch [.p] rfl ?_
        refine ow_nil ?_
        refine x_qs ?_
        refine c_ret ?_
        refine x_qs_ret ?_
        exact x_retR (rs := [.tmp 4]) (vs := [.bool false]) rfl ⟨rfl, trivial⟩ (fun w' hw' => by
            obtain rfl := of_some H
            exact ⟨rfl, hw'.ext⟩)
      · have H := of_if_f hb H
        refine c_skip ?_
        refine x_qs ?_
        refine c_seq ?_
        refine c_seq ?_
        refine c_reg ?_
        refine ow_batch [.p] rfl ?_
        refine ow_nil ?_
        refine x_qs ?_
        refine c_block ?_
        refine CW.at (loopI1 (fun (i49 : Int) => St w [] [Res.box b15 39 [.slice a5 p0.Attrs_.length c6, .slice a7 p0.Classes_.length c8], Res.box b16 56 [.slice a13 p1.Bins_.length c14, .int .i64 p1.Class_]]) (fun (i49 : Int) => [(2, .pointer (some ⟨b15, 0, none⟩)), (3, .pointer (some ⟨b16, 0, none⟩)), (5, .int .i64 i49)]) (fun kk => fun (i49 : Int) => spec_ExOk_L1 p1 p0 kk i49 = some r) (fun _ H => ?_) (fun k1 ihk1 i49 H => ?_) Fuel (0) (H)) (fun _ h => St.sel [0, 1] rfl rfl h) ⟨rfl, rfl, rfl,  trivial⟩
        · unfold spec_ExOk_L1 at H
          exact absurd H (by simp)
        · unfold spec_ExOk_L1 at H
          refine c_seq ?_
          refine c_seq ?_
          refine c_reg ?_
          refine ow_batch [.p, .fa 56 0 0 fa56_0] rfl ?_
          refine ow_r rfl (dstOk_lt rfl) (ry_box1 (off := 0) rfl rfl ty22 (boxIn (i := 1) rfl) rfl) ?_
          refine ow_batch [.lenS 22 3 sl22, .p] rfl ?_
          refine ow_nil ?_
          refine x_qs ?_
          refine c_if rfl (fun hb => ?_) (fun hb => ?_)
          · have H := of_if_t hb H
            refine c_skip ?_
            refine x_qs ?_
            refine c_seq ?_
            refine c_block ?_
            refine c_seq ?_
            refine c_regQ mixed (by kernel_rfl) ?_
            refine ow_batch [.fa 56 0 0 fa56_0] rfl ?_
            refine ow_r rfl (dstOk_lt rfl) (ry_box1 (off := 0) rfl rfl ty22 (boxIn (i := 1) rfl) rfl) ?_
            refine ow_batch [.p] rfl ?_
            obtain ⟨e73, h74, H⟩ := of_bind H
            refine ow_ixE (e := eVal (Value.int .i64) (fun _ => rfl)) (xs := p1.Bins_) (j := i49) rfl rfl rfl rfl rfl sl22 ty3 rfl (fun w1 hw1 => rds_bor g11 w1 hw1) h74 (by rw [Nat.mul_one]) ?_
            refine ow_r rfl (dstOk_lt rfl) (ry_load1 rfl rfl ty3 (at_elV (fun w1 hw1 => rds_bor g11 w1 hw1) h74)) ?_
            refine ow_batch [.fa 39 0 0 fa39_0] rfl ?_
            refine ow_r rfl (dstOk_lt rfl) (ry_box1 (off := 0) rfl rfl ty37 (boxIn (i := 0) rfl) rfl) ?_
            refine ow_batch [.p] rfl ?_
            obtain ⟨e75, h76, H⟩ := of_bind H
            refine ow_ixB rfl rfl rfl rfl rfl sl37 ty28 rfl g3 h76 (fun q79 c80 hd77 hA78 => ?_)
            obtain ⟨c81, c82, c83, rfl, g84, g85, g86⟩ := rdo_Timpl_Attr hd77
            obtain rfl : c81 = [vS e75.Name_] := g84
            obtain ⟨a87, c88, rfl⟩ := rd_sl1 g85
            obtain ⟨a89, c90, rfl⟩ := rd_sl1 g86
            refine ow_r rfl (dstOk_lt rfl) (ry_load (cs := [vS e75.Name_, .slice a87 e75.Cuts_.length c88, .slice a89 e75.Values_.length c90]) rfl rfl ty28 (at_bor bor hA78) rfl) ?_
            obtain ⟨y91, h92, H⟩ := of_bind H
            refine ow_q rfl rfl (dstOk_lt rfl) (qy_call rfl fn59 rfl (fun w1 hw1 => spec_Bins_ok w1 (cs0 := [vS e75.Name_, .slice a87 e75.Cuts_.length c88, .slice a89 e75.Values_.length c90]) h92 (rdm_Timpl_Attr (x := e75) (c0 := [vS e75.Name_]) (c1 := [.slice a87 e75.Cuts_.length c88]) (c2 := [.slice a89 e75.Values_.length c90]) rfl (rds_bor g85 w1 hw1) (rds_bor g86 w1 hw1)))) (fun _ _ => trivial) ?_
            refine ow_batch [.p] rfl ?_
            obtain ⟨y93, h94, H⟩ := of_bind H
            refine ow_q rfl rfl (dstOk_lt rfl) (qy_call rfl fn71 rfl (fun w1 hw1 => spec_l1In_ok w1  h94)) (fun _ _ => trivial) ?_
            refine ow_batch [.p] rfl ?_
            refine ow_nilQ ?_
            refine x_qs ?_
            refine c_if rfl (fun hb => ?_) (fun hb => ?_)
            · have H := of_if_t hb H
              refine c_seq ?_
              refine c_reg ?_
              refine ow_batch [.p] rfl ?_
              refine ow_nil ?_
              refine x_qs ?_
              refine c_ret ?_
              refine x_qb_ret ?_
              refine x_qs_ret ?_
              refine x_ql_ret ?_
              refine x_qb_ret ?_
              refine x_qs_ret ?_
              exact x_retR (rs := [.tmp 4]) (vs := [.bool false]) rfl ⟨rfl, trivial⟩ (fun w' hw' => by
                  obtain rfl := of_some H
                  exact ⟨rfl, hw'.ext⟩)
            · have H := of_if_f hb H
              refine c_skip ?_
              refine x_qb ?_
              refine x_qs ?_
              refine c_reg ?_
              refine ow_batch [.p, .p, .p] rfl ?_
              refine ow_nil ?_
              exact x_ql (RW.at (ihk1 (IntKind.i64.wrap (i49 + 1)) (H)) (fun _ h => St.sel [0, 1] rfl rfl h) ⟨rfl, rfl, rfl, trivial⟩)
          · have H := of_if_f hb H
            refine c_exit ?_
            refine x_qs_exit ?_
            refine x_ql_exit ?_
            refine x_qb_here ?_
            refine x_qs ?_
            refine c_seq ?_
            refine c_reg ?_
            refine ow_batch [.p] rfl ?_
            refine ow_nil ?_
            refine x_qs ?_
            refine c_ret ?_
            exact x_retR (rs := [.tmp 4]) (vs := [.bool true]) rfl ⟨rfl, trivial⟩ (fun w' hw' => by
                obtain rfl := of_some H
                exact ⟨rfl, hw'.ext⟩)
    · clear H
      have H := hu25
      clear hu25
      generalize ((!y17) || ((p1.Bins_.length : Int) != (p0.Attrs_.length : Int))) = t24 at H ⊢
      cases t24
      · have H := of_if_f rfl H
        refine ow_batch [.fa 56 1 1 fa56_1] rfl ?_
        refine ow_r rfl (dstOk_lt rfl) (ry_box1 (off := 1) rfl rfl ty3 (boxIn (i := 1) rfl) rfl) ?_
        refine ow_batch [.fa 39 1 1 fa39_1] rfl ?_
        refine ow_r rfl (dstOk_lt rfl) (ry_box1 (off := 1) rfl rfl ty23 (boxIn (i := 0) rfl) rfl) ?_
        refine ow_batch [.lenS 23 9 sl23, .p] rfl ?_
        obtain ⟨y22, h23, H⟩ := of_bind H
        refine ow_q rfl rfl (dstOk_lt rfl) (qy_call rfl fn71 rfl (fun w1 hw1 => spec_l1In_ok w1  h23)) (fun _ _ => trivial) ?_
        refine ow_batch [.p] rfl ?_
        refine ow_batch [.p] rfl ?_
        obtain rfl := of_some H
        exact OW.sub key ⟨rfl, rfl, rfl, trivial⟩
      · have H := of_if_t rfl H
        refine ow_batch [.p, .p, .p, .p, .p, .p, .p, .p, .p] rfl ?_
        obtain rfl := of_some H
        exact OW.sub key ⟨rfl, rfl, rfl, trivial⟩
  · generalize (!y17) = t20 at key ⊢
    cases t20
    · refine ow_batch [.fa 56 0 0 fa56_0] rfl ?_
      refine ow_r rfl (dstOk_lt rfl) (ry_box1 (off := 0) rfl rfl ty22 (boxIn (i := 1) rfl) rfl) ?_
      refine ow_batch [.lenS 22 3 sl22, .fa 39 0 0 fa39_0] rfl ?_
      refine ow_r rfl (dstOk_lt rfl) (ry_box1 (off := 0) rfl rfl ty37 (boxIn (i := 0) rfl) rfl) ?_
      refine ow_batch [.lenS 37 28 sl37, .p] rfl ?_
      refine ow_batch [.p] rfl ?_
      exact OW.sub key ⟨rfl, rfl, rfl, trivial⟩
    · refine ow_batch [.p, .p, .p, .p, .p, .p, .p, .p] rfl ?_
      exact OW.sub key ⟨rfl, rfl, rfl, trivial⟩

end Go.Vk
