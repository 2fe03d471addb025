/- The code does what the functions of data say. Printed by program. -/

import Derived.Test.YtejneofoabmojaaRF

import Derived.Test.YtejneofoabmojaaChecked

namespace Go.Vk

open Go.Proofs Go.RowKit



def eTlaws_Ex : Enc Tlaws_Ex := eIso (ePair (eList (eVal (Value.int .i64) (fun _ => rfl)) 3) (eVal (Value.int .i64) (fun _ => rfl))) (fun x => (x.Bins_, x.Class_))

theorem rdm_Tlaws_Ex {w : World} {X : List Nat} {x : Tlaws_Ex} {c0 c1 : List Value} (h0 : (eList (eVal (Value.int .i64) (fun _ => rfl)) 3).rd w X x.Bins_ c0) (h1 : (eVal (Value.int .i64) (fun _ => rfl)).rd w X x.Class_ c1) : (eTlaws_Ex).rd w X x (c0 ++ c1) := by
  show (ePair (eList (eVal (Value.int .i64) (fun _ => rfl)) 3) (eVal (Value.int .i64) (fun _ => rfl))).rd w X (x.Bins_, x.Class_) _
  exact (ePair_rd h0 h1)

theorem rdo_Tlaws_Ex {w : World} {X : List Nat} {x : Tlaws_Ex} {cs : List Value} (h : (eTlaws_Ex).rd w X x cs) : ∃ c0 c1, cs = (c0 ++ c1) ∧ (eList (eVal (Value.int .i64) (fun _ => rfl)) 3).rd w X x.Bins_ c0 ∧ (eVal (Value.int .i64) (fun _ => rfl)).rd w X x.Class_ c1 := by
  have h : (ePair (eList (eVal (Value.int .i64) (fun _ => rfl)) 3) (eVal (Value.int .i64) (fun _ => rfl))).rd w X (x.Bins_, x.Class_) cs := h
  obtain ⟨c0, c1, rfl, h0, h1⟩ := h
  exact ⟨c0, c1, rfl, h0, h1⟩

def eTlaws_Entry : Enc Tlaws_Entry := eIso (ePair (eTlaws_Ex) (eVal (Value.int .i64) (fun _ => rfl))) (fun x => (x.Ex_, x.Weight_))

theorem rdm_Tlaws_Entry {w : World} {X : List Nat} {x : Tlaws_Entry} {c0 c1 : List Value} (h0 : (eTlaws_Ex).rd w X x.Ex_ c0) (h1 : (eVal (Value.int .i64) (fun _ => rfl)).rd w X x.Weight_ c1) : (eTlaws_Entry).rd w X x (c0 ++ c1) := by
  show (ePair (eTlaws_Ex) (eVal (Value.int .i64) (fun _ => rfl))).rd w X (x.Ex_, x.Weight_) _
  exact (ePair_rd h0 h1)

theorem rdo_Tlaws_Entry {w : World} {X : List Nat} {x : Tlaws_Entry} {cs : List Value} (h : (eTlaws_Entry).rd w X x cs) : ∃ c0 c1, cs = (c0 ++ c1) ∧ (eTlaws_Ex).rd w X x.Ex_ c0 ∧ (eVal (Value.int .i64) (fun _ => rfl)).rd w X x.Weight_ c1 := by
  have h : (ePair (eTlaws_Ex) (eVal (Value.int .i64) (fun _ => rfl))).rd w X (x.Ex_, x.Weight_) cs := h
  obtain ⟨c0, c1, rfl, h0, h1⟩ := h
  exact ⟨c0, c1, rfl, h0, h1⟩

def eTlaws_Past : Enc Tlaws_Past := eIso (ePair (eList (eTlaws_Entry) 109) (ePair (eList (eTlaws_Entry) 109) (eList (eVal (Value.int .i64) (fun _ => rfl)) 3))) (fun x => (x.Tree_, x.Young_, x.Bits_))

theorem rdm_Tlaws_Past {w : World} {X : List Nat} {x : Tlaws_Past} {c0 c1 c2 : List Value} (h0 : (eList (eTlaws_Entry) 109).rd w X x.Tree_ c0) (h1 : (eList (eTlaws_Entry) 109).rd w X x.Young_ c1) (h2 : (eList (eVal (Value.int .i64) (fun _ => rfl)) 3).rd w X x.Bits_ c2) : (eTlaws_Past).rd w X x (c0 ++ (c1 ++ c2)) := by
  show (ePair (eList (eTlaws_Entry) 109) (ePair (eList (eTlaws_Entry) 109) (eList (eVal (Value.int .i64) (fun _ => rfl)) 3))).rd w X (x.Tree_, x.Young_, x.Bits_) _
  exact (ePair_rd h0 (ePair_rd h1 h2))

theorem rdo_Tlaws_Past {w : World} {X : List Nat} {x : Tlaws_Past} {cs : List Value} (h : (eTlaws_Past).rd w X x cs) : ∃ c0 c1 c2, cs = (c0 ++ (c1 ++ c2)) ∧ (eList (eTlaws_Entry) 109).rd w X x.Tree_ c0 ∧ (eList (eTlaws_Entry) 109).rd w X x.Young_ c1 ∧ (eList (eVal (Value.int .i64) (fun _ => rfl)) 3).rd w X x.Bits_ c2 := by
  have h : (ePair (eList (eTlaws_Entry) 109) (ePair (eList (eTlaws_Entry) 109) (eList (eVal (Value.int .i64) (fun _ => rfl)) 3))).rd w X (x.Tree_, x.Young_, x.Bits_) cs := h
  obtain ⟨c0, d0, rfl, h0, r0⟩ := h
  obtain ⟨c1, c2, rfl, h1, h2⟩ := r0
  exact ⟨c0, c1, c2, rfl, h0, h1, h2⟩

def eTlaws_Step : Enc Tlaws_Step := eFlat (fun x => [.int .i64 x.Said_, .int .i64 x.Bit_, .int .i64 x.Weight_, .int .i64 x.Grow_, .int .i64 x.Young_, .int .i64 x.Det_, .bool x.Began_, .bool x.Swapped_]) 8 (fun _ => rfl) (by intro x u hu; simp only [List.mem_cons, List.not_mem_nil, or_false] at hu; rcases hu with rfl | rfl | rfl | rfl | rfl | rfl | rfl | rfl <;> rfl)

def eTimpl_Ex : Enc Timpl_Ex := eIso (ePair (eList (eVal (Value.int .i64) (fun _ => rfl)) 3) (eVal (Value.int .i64) (fun _ => rfl))) (fun x => (x.Bins_, x.Class_))

theorem rdm_Timpl_Ex {w : World} {X : List Nat} {x : Timpl_Ex} {c0 c1 : List Value} (h0 : (eList (eVal (Value.int .i64) (fun _ => rfl)) 3).rd w X x.Bins_ c0) (h1 : (eVal (Value.int .i64) (fun _ => rfl)).rd w X x.Class_ c1) : (eTimpl_Ex).rd w X x (c0 ++ c1) := by
  show (ePair (eList (eVal (Value.int .i64) (fun _ => rfl)) 3) (eVal (Value.int .i64) (fun _ => rfl))).rd w X (x.Bins_, x.Class_) _
  exact (ePair_rd h0 h1)

theorem rdo_Timpl_Ex {w : World} {X : List Nat} {x : Timpl_Ex} {cs : List Value} (h : (eTimpl_Ex).rd w X x cs) : ∃ c0 c1, cs = (c0 ++ c1) ∧ (eList (eVal (Value.int .i64) (fun _ => rfl)) 3).rd w X x.Bins_ c0 ∧ (eVal (Value.int .i64) (fun _ => rfl)).rd w X x.Class_ c1 := by
  have h : (ePair (eList (eVal (Value.int .i64) (fun _ => rfl)) 3) (eVal (Value.int .i64) (fun _ => rfl))).rd w X (x.Bins_, x.Class_) cs := h
  obtain ⟨c0, c1, rfl, h0, h1⟩ := h
  exact ⟨c0, c1, rfl, h0, h1⟩

theorem ownm_Timpl_Ex {w : World} {F0 F1 : List Nat} {x : Timpl_Ex} {c0 c1 : List Value} (h0 : (eList (eVal (Value.int .i64) (fun _ => rfl)) 3).own w F0 x.Bins_ c0) (h1 : (eVal (Value.int .i64) (fun _ => rfl)).own w F1 x.Class_ c1) : (eTimpl_Ex).own w (F0 ++ F1) x (c0 ++ c1) := by
  show (ePair (eList (eVal (Value.int .i64) (fun _ => rfl)) 3) (eVal (Value.int .i64) (fun _ => rfl))).own w _ (x.Bins_, x.Class_) _
  exact (ePair_own h0 h1)

theorem owno_Timpl_Ex {w : World} {F : List Nat} {x : Timpl_Ex} {cs : List Value} (h : (eTimpl_Ex).own w F x cs) : ∃ F0 F1 c0 c1, F = (F0 ++ F1) ∧ cs = (c0 ++ c1) ∧ (eList (eVal (Value.int .i64) (fun _ => rfl)) 3).own w F0 x.Bins_ c0 ∧ (eVal (Value.int .i64) (fun _ => rfl)).own w F1 x.Class_ c1 := by
  have h : (ePair (eList (eVal (Value.int .i64) (fun _ => rfl)) 3) (eVal (Value.int .i64) (fun _ => rfl))).own w F (x.Bins_, x.Class_) cs := h
  obtain ⟨F0, F1, c0, c1, rfl, rfl, h0, h1⟩ := h
  exact ⟨F0, F1, c0, c1, rfl, rfl, h0, h1⟩

def eTimpl_Entry : Enc Timpl_Entry := eIso (ePair (eTimpl_Ex) (eVal (Value.int .i64) (fun _ => rfl))) (fun x => (x.Ex_, x.Weight_))

theorem rdm_Timpl_Entry {w : World} {X : List Nat} {x : Timpl_Entry} {c0 c1 : List Value} (h0 : (eTimpl_Ex).rd w X x.Ex_ c0) (h1 : (eVal (Value.int .i64) (fun _ => rfl)).rd w X x.Weight_ c1) : (eTimpl_Entry).rd w X x (c0 ++ c1) := by
  show (ePair (eTimpl_Ex) (eVal (Value.int .i64) (fun _ => rfl))).rd w X (x.Ex_, x.Weight_) _
  exact (ePair_rd h0 h1)

theorem rdo_Timpl_Entry {w : World} {X : List Nat} {x : Timpl_Entry} {cs : List Value} (h : (eTimpl_Entry).rd w X x cs) : ∃ c0 c1, cs = (c0 ++ c1) ∧ (eTimpl_Ex).rd w X x.Ex_ c0 ∧ (eVal (Value.int .i64) (fun _ => rfl)).rd w X x.Weight_ c1 := by
  have h : (ePair (eTimpl_Ex) (eVal (Value.int .i64) (fun _ => rfl))).rd w X (x.Ex_, x.Weight_) cs := h
  obtain ⟨c0, c1, rfl, h0, h1⟩ := h
  exact ⟨c0, c1, rfl, h0, h1⟩

theorem ownm_Timpl_Entry {w : World} {F0 F1 : List Nat} {x : Timpl_Entry} {c0 c1 : List Value} (h0 : (eTimpl_Ex).own w F0 x.Ex_ c0) (h1 : (eVal (Value.int .i64) (fun _ => rfl)).own w F1 x.Weight_ c1) : (eTimpl_Entry).own w (F0 ++ F1) x (c0 ++ c1) := by
  show (ePair (eTimpl_Ex) (eVal (Value.int .i64) (fun _ => rfl))).own w _ (x.Ex_, x.Weight_) _
  exact (ePair_own h0 h1)

theorem owno_Timpl_Entry {w : World} {F : List Nat} {x : Timpl_Entry} {cs : List Value} (h : (eTimpl_Entry).own w F x cs) : ∃ F0 F1 c0 c1, F = (F0 ++ F1) ∧ cs = (c0 ++ c1) ∧ (eTimpl_Ex).own w F0 x.Ex_ c0 ∧ (eVal (Value.int .i64) (fun _ => rfl)).own w F1 x.Weight_ c1 := by
  have h : (ePair (eTimpl_Ex) (eVal (Value.int .i64) (fun _ => rfl))).own w F (x.Ex_, x.Weight_) cs := h
  obtain ⟨F0, F1, c0, c1, rfl, rfl, h0, h1⟩ := h
  exact ⟨F0, F1, c0, c1, rfl, rfl, h0, h1⟩

theorem opn_Timpl_Entry {w0 : World} {M : List Nat} {L : List Res} {w : World} {F : List Nat} {x : Timpl_Entry} {cs : List Value} {i : Nat} (h : St w0 M L w) (hi : L[i]? = some (Res.own (eTimpl_Entry) F x cs)) :
    ∃ (a_1 : Option Addr) (k_1 : Nat) (F_1 : List Nat), cs = [.slice a_1 (x.Ex_.Bins_).length k_1, .int .i64 x.Ex_.Class_, .int .i64 x.Weight_] ∧ St w0 M (nilAt L [i] ++ [Res.own (eList (eVal (Value.int .i64) (fun _ => rfl)) 3) F_1 x.Ex_.Bins_ [.slice a_1 (x.Ex_.Bins_).length k_1]]) w := by
  obtain ⟨hok, _, _⟩ := h.one hi
  have hok : (eTimpl_Entry).own w F x cs := hok
  obtain ⟨F1_0, F1_1, c1_0, c1_1, rfl, rfl, h1_0, h1_1⟩ := owno_Timpl_Entry hok
  obtain ⟨F2_0, F2_1, c2_0, c2_1, rfl, rfl, h2_0, h2_1⟩ := owno_Timpl_Ex h1_0
  obtain ⟨a3, k3, rfl⟩ := own_sl1 h2_0
  obtain ⟨rfl, rfl⟩ : F2_1 = [] ∧ c2_1 = [.int .i64 x.Ex_.Class_] := h2_1
  obtain ⟨rfl, rfl⟩ : F1_1 = [] ∧ c1_1 = [.int .i64 x.Weight_] := h1_1
  refine ⟨a3, k3, F2_0, rfl, h.re [i] _ rfl ?_ ?_⟩
  · simp [selR_cons, selR_nil, hi, foot, Res.own]
  · intro s hs; simp only [List.mem_cons, List.not_mem_nil, or_false] at hs; rcases hs with rfl
    · exact h2_0

theorem fus_Timpl_Entry {w0 : World} {M : List Nat} {L : List Res} {w : World} {x0 : List Int} {a0 : Option Addr} {n0 k0 : Nat} {G0 : List Nat} {x1 : Int} {x2 : Int} (idx : List Nat) (h : St w0 M L w) (hs : selR L idx = [Res.own (eList (eVal (Value.int .i64) (fun _ => rfl)) 3) G0 x0 [.slice a0 n0 k0]]) (hn : nodB idx = true) :
    ∃ F, St w0 M (nilAt L idx ++ [Res.own (eTimpl_Entry) F (Timpl_Entry.mk (Timpl_Ex.mk x0 x1) x2) [.slice a0 n0 k0, .int .i64 x1, .int .i64 x2]]) w := by
  have o0 : (eList (eVal (Value.int .i64) (fun _ => rfl)) 3).own w G0 x0 [.slice a0 n0 k0] := h.ok' (mem_sel (L := L) (is := idx) (by rw [hs]; simp : Res.own (eList (eVal (Value.int .i64) (fun _ => rfl)) 3) G0 x0 [.slice a0 n0 k0] ∈ selR L idx))
  have ho := (ownm_Timpl_Entry (x := (Timpl_Entry.mk (Timpl_Ex.mk x0 x1) x2)) (ownm_Timpl_Ex (x := (Timpl_Ex.mk x0 x1)) o0 (⟨rfl, rfl⟩ : (eVal (Value.int .i64) (fun _ => rfl)).own w [] _ _)) (⟨rfl, rfl⟩ : (eVal (Value.int .i64) (fun _ => rfl)).own w [] _ _))
  refine ⟨_, h.re idx [Res.own (eTimpl_Entry) _ (Timpl_Entry.mk (Timpl_Ex.mk x0 x1) x2) [.slice a0 n0 k0, .int .i64 x1, .int .i64 x2]] hn ?_ (fun s hs => by rw [List.mem_singleton.1 hs]; exact ho)⟩
  rw [hs]
  simp [foot, Res.own]

def eTimpl_Past : Enc Timpl_Past := eIso (ePair (eList (eTimpl_Entry) 111) (ePair (eList (eTimpl_Entry) 111) (eList (eVal (Value.int .i64) (fun _ => rfl)) 3))) (fun x => (x.Tree_, x.Young_, x.Bits_))

theorem rdm_Timpl_Past {w : World} {X : List Nat} {x : Timpl_Past} {c0 c1 c2 : List Value} (h0 : (eList (eTimpl_Entry) 111).rd w X x.Tree_ c0) (h1 : (eList (eTimpl_Entry) 111).rd w X x.Young_ c1) (h2 : (eList (eVal (Value.int .i64) (fun _ => rfl)) 3).rd w X x.Bits_ c2) : (eTimpl_Past).rd w X x (c0 ++ (c1 ++ c2)) := by
  show (ePair (eList (eTimpl_Entry) 111) (ePair (eList (eTimpl_Entry) 111) (eList (eVal (Value.int .i64) (fun _ => rfl)) 3))).rd w X (x.Tree_, x.Young_, x.Bits_) _
  exact (ePair_rd h0 (ePair_rd h1 h2))

theorem rdo_Timpl_Past {w : World} {X : List Nat} {x : Timpl_Past} {cs : List Value} (h : (eTimpl_Past).rd w X x cs) : ∃ c0 c1 c2, cs = (c0 ++ (c1 ++ c2)) ∧ (eList (eTimpl_Entry) 111).rd w X x.Tree_ c0 ∧ (eList (eTimpl_Entry) 111).rd w X x.Young_ c1 ∧ (eList (eVal (Value.int .i64) (fun _ => rfl)) 3).rd w X x.Bits_ c2 := by
  have h : (ePair (eList (eTimpl_Entry) 111) (ePair (eList (eTimpl_Entry) 111) (eList (eVal (Value.int .i64) (fun _ => rfl)) 3))).rd w X (x.Tree_, x.Young_, x.Bits_) cs := h
  obtain ⟨c0, d0, rfl, h0, r0⟩ := h
  obtain ⟨c1, c2, rfl, h1, h2⟩ := r0
  exact ⟨c0, c1, c2, rfl, h0, h1, h2⟩

theorem ownm_Timpl_Past {w : World} {F0 F1 F2 : List Nat} {x : Timpl_Past} {c0 c1 c2 : List Value} (h0 : (eList (eTimpl_Entry) 111).own w F0 x.Tree_ c0) (h1 : (eList (eTimpl_Entry) 111).own w F1 x.Young_ c1) (h2 : (eList (eVal (Value.int .i64) (fun _ => rfl)) 3).own w F2 x.Bits_ c2) : (eTimpl_Past).own w (F0 ++ (F1 ++ F2)) x (c0 ++ (c1 ++ c2)) := by
  show (ePair (eList (eTimpl_Entry) 111) (ePair (eList (eTimpl_Entry) 111) (eList (eVal (Value.int .i64) (fun _ => rfl)) 3))).own w _ (x.Tree_, x.Young_, x.Bits_) _
  exact (ePair_own h0 (ePair_own h1 h2))

theorem owno_Timpl_Past {w : World} {F : List Nat} {x : Timpl_Past} {cs : List Value} (h : (eTimpl_Past).own w F x cs) : ∃ F0 F1 F2 c0 c1 c2, F = (F0 ++ (F1 ++ F2)) ∧ cs = (c0 ++ (c1 ++ c2)) ∧ (eList (eTimpl_Entry) 111).own w F0 x.Tree_ c0 ∧ (eList (eTimpl_Entry) 111).own w F1 x.Young_ c1 ∧ (eList (eVal (Value.int .i64) (fun _ => rfl)) 3).own w F2 x.Bits_ c2 := by
  have h : (ePair (eList (eTimpl_Entry) 111) (ePair (eList (eTimpl_Entry) 111) (eList (eVal (Value.int .i64) (fun _ => rfl)) 3))).own w F (x.Tree_, x.Young_, x.Bits_) cs := h
  obtain ⟨F0, G0, c0, d0, rfl, rfl, h0, r0⟩ := h
  obtain ⟨F1, F2, c1, c2, rfl, rfl, h1, h2⟩ := r0
  exact ⟨F0, F1, F2, c0, c1, c2, rfl, rfl, h0, h1, h2⟩

theorem opn_Timpl_Past {w0 : World} {M : List Nat} {L : List Res} {w : World} {F : List Nat} {x : Timpl_Past} {cs : List Value} {i : Nat} (h : St w0 M L w) (hi : L[i]? = some (Res.own (eTimpl_Past) F x cs)) :
    ∃ (a_1 : Option Addr) (k_1 : Nat) (F_1 : List Nat), ∃ (a_2 : Option Addr) (k_2 : Nat) (F_2 : List Nat), ∃ (a_3 : Option Addr) (k_3 : Nat) (F_3 : List Nat), cs = [.slice a_1 (x.Tree_).length k_1, .slice a_2 (x.Young_).length k_2, .slice a_3 (x.Bits_).length k_3] ∧ St w0 M (nilAt L [i] ++ [Res.own (eList (eTimpl_Entry) 111) F_1 x.Tree_ [.slice a_1 (x.Tree_).length k_1], Res.own (eList (eTimpl_Entry) 111) F_2 x.Young_ [.slice a_2 (x.Young_).length k_2], Res.own (eList (eVal (Value.int .i64) (fun _ => rfl)) 3) F_3 x.Bits_ [.slice a_3 (x.Bits_).length k_3]]) w := by
  obtain ⟨hok, _, _⟩ := h.one hi
  have hok : (eTimpl_Past).own w F x cs := hok
  obtain ⟨F1_0, F1_1, F1_2, c1_0, c1_1, c1_2, rfl, rfl, h1_0, h1_1, h1_2⟩ := owno_Timpl_Past hok
  obtain ⟨a2, k2, rfl⟩ := own_sl1 h1_0
  obtain ⟨a3, k3, rfl⟩ := own_sl1 h1_1
  obtain ⟨a4, k4, rfl⟩ := own_sl1 h1_2
  refine ⟨a2, k2, F1_0, a3, k3, F1_1, a4, k4, F1_2, rfl, h.re [i] _ rfl ?_ ?_⟩
  · simp [selR_cons, selR_nil, hi, foot, Res.own]
  · intro s hs; simp only [List.mem_cons, List.not_mem_nil, or_false] at hs; rcases hs with rfl | rfl | rfl
    · exact h1_0
    · exact h1_1
    · exact h1_2

theorem fus_Timpl_Past {w0 : World} {M : List Nat} {L : List Res} {w : World} {x0 : List Timpl_Entry} {a0 : Option Addr} {n0 k0 : Nat} {G0 : List Nat} {x1 : List Timpl_Entry} {a1 : Option Addr} {n1 k1 : Nat} {G1 : List Nat} {x2 : List Int} {a2 : Option Addr} {n2 k2 : Nat} {G2 : List Nat} (idx : List Nat) (h : St w0 M L w) (hs : selR L idx = [Res.own (eList (eTimpl_Entry) 111) G0 x0 [.slice a0 n0 k0], Res.own (eList (eTimpl_Entry) 111) G1 x1 [.slice a1 n1 k1], Res.own (eList (eVal (Value.int .i64) (fun _ => rfl)) 3) G2 x2 [.slice a2 n2 k2]]) (hn : nodB idx = true) :
    ∃ F, St w0 M (nilAt L idx ++ [Res.own (eTimpl_Past) F (Timpl_Past.mk x0 x1 x2) [.slice a0 n0 k0, .slice a1 n1 k1, .slice a2 n2 k2]]) w := by
  have o0 : (eList (eTimpl_Entry) 111).own w G0 x0 [.slice a0 n0 k0] := h.ok' (mem_sel (L := L) (is := idx) (by rw [hs]; simp : Res.own (eList (eTimpl_Entry) 111) G0 x0 [.slice a0 n0 k0] ∈ selR L idx))
  have o1 : (eList (eTimpl_Entry) 111).own w G1 x1 [.slice a1 n1 k1] := h.ok' (mem_sel (L := L) (is := idx) (by rw [hs]; simp : Res.own (eList (eTimpl_Entry) 111) G1 x1 [.slice a1 n1 k1] ∈ selR L idx))
  have o2 : (eList (eVal (Value.int .i64) (fun _ => rfl)) 3).own w G2 x2 [.slice a2 n2 k2] := h.ok' (mem_sel (L := L) (is := idx) (by rw [hs]; simp : Res.own (eList (eVal (Value.int .i64) (fun _ => rfl)) 3) G2 x2 [.slice a2 n2 k2] ∈ selR L idx))
  have ho := (ownm_Timpl_Past (x := (Timpl_Past.mk x0 x1 x2)) o0 o1 o2)
  refine ⟨_, h.re idx [Res.own (eTimpl_Past) _ (Timpl_Past.mk x0 x1 x2) [.slice a0 n0 k0, .slice a1 n1 k1, .slice a2 n2 k2]] hn ?_ (fun s hs => by rw [List.mem_singleton.1 hs]; exact ho)⟩
  rw [hs]
  simp [foot, Res.own]

def eTimpl_Step : Enc Timpl_Step := eFlat (fun x => [.int .i64 x.Said_, .int .i64 x.Bit_, .int .i64 x.Weight_, .int .i64 x.Grow_, .int .i64 x.Young_, .int .i64 x.Det_, .bool x.Began_, .bool x.Swapped_]) 8 (fun _ => rfl) (by intro x u hu; simp only [List.mem_cons, List.not_mem_nil, or_false] at hu; rcases hu with rfl | rfl | rfl | rfl | rfl | rfl | rfl | rfl <;> rfl)

theorem sl22 : isSl Try.prog 22 3 := isSl_of (by kernel_rfl)

theorem ty22 : isTy Try.prog 22 false 1 24 [.slice none 0 0] := isTy_of (by kernel_rfl)

theorem fn55 : isFn Try.prog 55 := ⟨Try.f55, Try.func55, rfl, by decide⟩

theorem ty3 : isTy Try.prog 3 false 1 8 [.int .i64 0] := isTy_of (by kernel_rfl)

theorem fn60 : isFn Try.prog 60 := ⟨Try.f60, Try.func60, rfl, by decide⟩

theorem mixed : Try.prog.follows .mixedOrders = true := by kernel_rfl

theorem fn64 : isFn Try.prog 64 := ⟨Try.f64, Try.func64, rfl, by decide⟩

theorem bl4 : isBl Try.prog 4 := isBl_of (by kernel_rfl)

theorem fa53_0 : isFa Try.prog 53 0 0 := isFa_of (by kernel_rfl)

theorem fa109_0 : isFa Try.prog 109 0 0 := isFa_of (by kernel_rfl)

theorem ty53 : isTy Try.prog 53 true 2 32 [.slice none 0 0, .int .i64 0] := isTy_of (by kernel_rfl)

theorem fn28 : isFn Try.prog 28 := ⟨Try.f28, Try.func28, rfl, by decide⟩

theorem sl60 : isSl Try.prog 60 109 := isSl_of (by kernel_rfl)

theorem ty109 : isTy Try.prog 109 true 3 40 [.slice none 0 0, .int .i64 0, .int .i64 0] := isTy_of (by kernel_rfl)

theorem fn76 : isFn Try.prog 76 := ⟨Try.f76, Try.func76, rfl, by decide⟩

theorem fa118_0 : isFa Try.prog 118 0 0 := isFa_of (by kernel_rfl)

theorem ty60 : isTy Try.prog 60 false 1 24 [.slice none 0 0] := isTy_of (by kernel_rfl)

theorem fn33 : isFn Try.prog 33 := ⟨Try.f33, Try.func33, rfl, by decide⟩

theorem fa118_1 : isFa Try.prog 118 1 1 := isFa_of (by kernel_rfl)

theorem fa118_2 : isFa Try.prog 118 2 2 := isFa_of (by kernel_rfl)

theorem sl67 : isSl Try.prog 67 118 := isSl_of (by kernel_rfl)

theorem ty118 : isTy Try.prog 118 true 3 72 [.slice none 0 0, .slice none 0 0, .slice none 0 0] := isTy_of (by kernel_rfl)

theorem fn81 : isFn Try.prog 81 := ⟨Try.f81, Try.func81, rfl, by decide⟩

theorem sl68 : isSl Try.prog 68 128 := isSl_of (by kernel_rfl)

theorem ty56 : isTy Try.prog 56 true 2 32 [.slice none 0 0, .int .i64 0] := isTy_of (by kernel_rfl)

theorem fa56_0 : isFa Try.prog 56 0 0 := isFa_of (by kernel_rfl)

theorem fa53_1 : isFa Try.prog 53 1 1 := isFa_of (by kernel_rfl)

theorem fa56_1 : isFa Try.prog 56 1 1 := isFa_of (by kernel_rfl)

theorem ty111 : isTy Try.prog 111 true 3 40 [.slice none 0 0, .int .i64 0, .int .i64 0] := isTy_of (by kernel_rfl)

theorem fn30 : isFn Try.prog 30 := ⟨Try.f30, Try.func30, rfl, by decide⟩

theorem fa111_0 : isFa Try.prog 111 0 0 := isFa_of (by kernel_rfl)

theorem fa109_1 : isFa Try.prog 109 1 2 := isFa_of (by kernel_rfl)

theorem fa111_1 : isFa Try.prog 111 1 2 := isFa_of (by kernel_rfl)

theorem sl63 : isSl Try.prog 63 111 := isSl_of (by kernel_rfl)

theorem fn77 : isFn Try.prog 77 := ⟨Try.f77, Try.func77, rfl, by decide⟩

theorem ty120 : isTy Try.prog 120 true 3 72 [.slice none 0 0, .slice none 0 0, .slice none 0 0] := isTy_of (by kernel_rfl)

theorem fn35 : isFn Try.prog 35 := ⟨Try.f35, Try.func35, rfl, by decide⟩

theorem fa120_0 : isFa Try.prog 120 0 0 := isFa_of (by kernel_rfl)

theorem ty63 : isTy Try.prog 63 false 1 24 [.slice none 0 0] := isTy_of (by kernel_rfl)

theorem fa120_1 : isFa Try.prog 120 1 1 := isFa_of (by kernel_rfl)

theorem fa120_2 : isFa Try.prog 120 2 2 := isFa_of (by kernel_rfl)

theorem sl71 : isSl Try.prog 71 120 := isSl_of (by kernel_rfl)

theorem fn85 : isFn Try.prog 85 := ⟨Try.f85, Try.func85, rfl, by decide⟩

theorem ty123 : isTy Try.prog 123 true 8 56 [.int .i64 0, .int .i64 0, .int .i64 0, .int .i64 0, .int .i64 0, .int .i64 0, .bool false, .bool false] := isTy_of (by kernel_rfl)

theorem fa128_0 : isFa Try.prog 128 0 0 := isFa_of (by kernel_rfl)

theorem fa123_0 : isFa Try.prog 123 0 0 := isFa_of (by kernel_rfl)

theorem fa128_1 : isFa Try.prog 128 1 1 := isFa_of (by kernel_rfl)

theorem fa123_1 : isFa Try.prog 123 1 1 := isFa_of (by kernel_rfl)

theorem fa128_2 : isFa Try.prog 128 2 2 := isFa_of (by kernel_rfl)

theorem fa123_2 : isFa Try.prog 123 2 2 := isFa_of (by kernel_rfl)

theorem fa128_3 : isFa Try.prog 128 3 3 := isFa_of (by kernel_rfl)

theorem fa123_3 : isFa Try.prog 123 3 3 := isFa_of (by kernel_rfl)

theorem fa128_4 : isFa Try.prog 128 4 4 := isFa_of (by kernel_rfl)

theorem fa123_4 : isFa Try.prog 123 4 4 := isFa_of (by kernel_rfl)

theorem fa128_5 : isFa Try.prog 128 5 5 := isFa_of (by kernel_rfl)

theorem fa123_5 : isFa Try.prog 123 5 5 := isFa_of (by kernel_rfl)

theorem fa128_6 : isFa Try.prog 128 6 6 := isFa_of (by kernel_rfl)

theorem ty4 : isTy Try.prog 4 false 1 1 [.bool false] := isTy_of (by kernel_rfl)

theorem fa123_6 : isFa Try.prog 123 6 6 := isFa_of (by kernel_rfl)

theorem fa128_7 : isFa Try.prog 128 7 7 := isFa_of (by kernel_rfl)

theorem fa123_7 : isFa Try.prog 123 7 7 := isFa_of (by kernel_rfl)

theorem sl74 : isSl Try.prog 74 123 := isSl_of (by kernel_rfl)

theorem ty128 : isTy Try.prog 128 true 8 56 [.int .i64 0, .int .i64 0, .int .i64 0, .int .i64 0, .int .i64 0, .int .i64 0, .bool false, .bool false] := isTy_of (by kernel_rfl)

theorem fn86 : isFn Try.prog 86 := ⟨Try.f86, Try.func86, rfl, by decide⟩

theorem fs56 : isFs Try.prog 56 [(0, 1), (1, 1)] := isFs_of (by kernel_rfl)

theorem fs111 : isFs Try.prog 111 [(0, 2), (2, 1)] := isFs_of (by kernel_rfl)

theorem fn83 : isFn Try.prog 83 := ⟨Try.f83, Try.func83, rfl, by decide⟩

theorem fs120 : isFs Try.prog 120 [(0, 1), (1, 1), (2, 1)] := isFs_of (by kernel_rfl)

theorem fn82 : isFn Try.prog 82 := ⟨Try.f82, Try.func82, rfl, by decide⟩

theorem fn84 : isFn Try.prog 84 := ⟨Try.f84, Try.func84, rfl, by decide⟩

theorem fn88 : isFn Try.prog 88 := ⟨Try.f88, Try.func88, rfl, by decide⟩

theorem fn87 : isFn Try.prog 87 := ⟨Try.f87, Try.func87, rfl, by decide⟩

theorem fn90 : isFn Try.prog 90 := ⟨Try.f90, Try.func90, rfl, by decide⟩

theorem fn89 : isFn Try.prog 89 := ⟨Try.f89, Try.func89, rfl, by decide⟩

theorem fn32 : isFn Try.prog 32 := ⟨Try.f32, Try.func32, rfl, by decide⟩

theorem fn80 : isFn Try.prog 80 := ⟨Try.f80, Try.func80, rfl, by decide⟩

theorem fn37 : isFn Try.prog 37 := ⟨Try.f37, Try.func37, rfl, by decide⟩

theorem fn91 : isFn Try.prog 91 := ⟨Try.f91, Try.func91, rfl, by decide⟩

theorem fn92 : isFn Try.prog 92 := ⟨Try.f92, Try.func92, rfl, by decide⟩

theorem fn94 : isFn Try.prog 94 := ⟨Try.f94, Try.func94, rfl, by decide⟩

theorem fn93 : isFn Try.prog 93 := ⟨Try.f93, Try.func93, rfl, by decide⟩

theorem fn96 : isFn Try.prog 96 := ⟨Try.f96, Try.func96, rfl, by decide⟩

theorem fn95 : isFn Try.prog 95 := ⟨Try.f95, Try.func95, rfl, by decide⟩

theorem fn38 : isFn Try.prog 38 := ⟨Try.f38, Try.func38, rfl, by decide⟩

theorem fn39 : isFn Try.prog 39 := ⟨Try.f39, Try.func39, rfl, by decide⟩

theorem fn41 : isFn Try.prog 41 := ⟨Try.f41, Try.func41, rfl, by decide⟩

theorem fn42 : isFn Try.prog 42 := ⟨Try.f42, Try.func42, rfl, by decide⟩

theorem fn40 : isFn Try.prog 40 := ⟨Try.f40, Try.func40, rfl, by decide⟩

theorem fn43 : isFn Try.prog 43 := ⟨Try.f43, Try.func43, rfl, by decide⟩

theorem fn44 : isFn Try.prog 44 := ⟨Try.f44, Try.func44, rfl, by decide⟩

theorem fn45 : isFn Try.prog 45 := ⟨Try.f45, Try.func45, rfl, by decide⟩

theorem fn46 : isFn Try.prog 46 := ⟨Try.f46, Try.func46, rfl, by decide⟩

theorem fn47 : isFn Try.prog 47 := ⟨Try.f47, Try.func47, rfl, by decide⟩

theorem fn48 : isFn Try.prog 48 := ⟨Try.f48, Try.func48, rfl, by decide⟩

theorem fn49 : isFn Try.prog 49 := ⟨Try.f49, Try.func49, rfl, by decide⟩

set_option maxHeartbeats 4000000 in
set_option maxRecDepth 100000 in
theorem laws_szIntS_ok (w : World) {p0 : List Int} {p1 : Int} {a_0 : Option Addr} {n_0 c_0 : Nat} {r : Int} (H : laws_szIntS p0 p1 = some r)  (g0 : (eList (eVal (Value.int .i64) (fun _ => rfl)) 3).rd w [] p0 [.slice a_0 n_0 c_0]) :
    Calls Try.prog 55 #[.slice a_0 n_0 c_0, .int .i64 p1] w (fun en w' => en = .returned (.int .i64 r) ∧ Ext [] w w') := by
  obtain rfl := rd_n g0
  unfold laws_szIntS at H
  refine f_enter (vs := [.slice a_0 p0.length c_0, .int .i64 p1]) Try.func55 rfl Try.ntmps55 rfl (St.init w []) ?_
  refine c_seq ?_
  refine c_reg ?_
  refine ow_batch [.p] rfl ?_
  refine ow_nil ?_
  refine x_qs ?_
  refine c_seq ?_
  refine c_reg ?_
  refine ow_batch [.p, .p, .lenS 22 3 sl22, .p, .p] rfl ?_
  refine ow_nil ?_
  refine x_qs ?_
  refine c_seq ?_
  refine c_seq ?_
  refine c_reg ?_
  refine ow_batch [.p, .p] rfl ?_
  refine ow_nil ?_
  refine x_qs ?_
  refine c_if rfl (fun hb => ?_) (fun hb => ?_)
  · have H := of_if_t hb H
    refine c_seq ?_
    refine c_reg ?_
    refine ow_batch [.p] rfl ?_
    refine ow_nil ?_
    refine x_qs ?_
    refine c_ret ?_
    refine x_qs_ret ?_
    exact x_retR (rs := [.tmp 4]) (vs := [.int .i64 (-1)]) rfl ⟨rfl, trivial⟩ (fun w' hw' => by
        obtain rfl := of_some H
        exact ⟨rfl, hw'.ext⟩)
  · have H := of_if_f hb H
    refine c_skip ?_
    refine x_qs ?_
    refine c_seq ?_
    refine c_reg ?_
    refine ow_batch [.p, .p] rfl ?_
    refine ow_nil ?_
    refine x_qs ?_
    refine c_ret ?_
    exact x_retR (rs := [.tmp 4]) (vs := [.int .i64 (IntKind.i64.wrap (p1 - (p0.length : Int)))]) rfl ⟨rfl, trivial⟩ (fun w' hw' => by
        obtain rfl := of_some H
        exact ⟨rfl, hw'.ext⟩)

set_option maxHeartbeats 4000000 in
set_option maxRecDepth 100000 in
theorem laws_toIntS_ok (w : World) {M0 : List Nat} {p0 : List Int} {a_0 : Option Addr} {n_0 c_0 : Nat} {r : List Int} (H : laws_toIntS p0 = some r) (HS : St w M0 [] w) (g0 : (eList (eVal (Value.int .i64) (fun _ => rfl)) 3).rd w M0 p0 [.slice a_0 n_0 c_0]) :
    Calls Try.prog 60 #[.slice a_0 n_0 c_0] w (fun en w' => ∃ v, en = .returned v ∧ ∃ (a0 : Option Addr), ∃ (n0 : Nat), ∃ (c0 : Nat), ∃ (F0 : List Nat), v = .slice a0 n0 c0 ∧ St w M0 [Res.own (eList (eVal (Value.int .i64) (fun _ => rfl)) 3) F0 r [.slice a0 n0 c0]] w') := by
  obtain rfl := rd_n g0
  unfold laws_toIntS at H
  refine f_enter (vs := [.slice a_0 p0.length c_0]) Try.func60 rfl Try.ntmps60 rfl (HS) ?_
  refine c_seq ?_
  refine c_reg ?_
  refine ow_batch [.p] rfl ?_
  refine ow_nil ?_
  refine x_qs ?_
  refine c_seq ?_
  refine c_reg ?_
  refine ow_batch [.p, .lenS 22 3 sl22] rfl ?_
  obtain ⟨l1, h2, H⟩ := of_bind H
  refine ow_make (e := eVal (Value.int .i64) (fun _ => rfl)) (zero := (0 : Int)) rfl rfl rfl rfl rfl rfl sl22 ty3 rfl rfl rfl rfl (fun _ => ⟨rfl, rfl⟩) h2 (fun _ => kp) (fun b3 => ?_)
  refine ow_batch [.p] rfl ?_
  refine ow_nil ?_
  refine x_qs ?_
  refine c_seq ?_
  refine c_seq ?_
  refine c_reg ?_
  refine ow_batch [.p] rfl ?_
  refine ow_nil ?_
  refine x_qs ?_
  refine c_block ?_
  refine CW.at (loopI2 (fun (l10 : List Int) (i11 : Int) => St w M0 [Res.own (eList (eVal (Value.int .i64) (fun _ => rfl)) 3) [b3] l10 [.slice (some ⟨b3, 0, none⟩) l1.length l1.length]]) (fun (l10 : List Int) (i11 : Int) => [(0, .slice a_0 p0.length c_0), (3, .slice (some ⟨b3, 0, none⟩) l1.length l1.length), (4, .int .i64 i11)]) (fun kk => fun (l10 : List Int) (i11 : Int) => laws_toIntS_L1 p0 kk l10 i11 = some r) (fun _ _ H => ?_) (fun k1 ihk1 l10 i11 H => ?_) Fuel (l1) (0) (H)) (fun _ h => St.sel [0] rfl rfl h) ⟨rfl, rfl, rfl,  trivial⟩
  · unfold laws_toIntS_L1 at H
    exact absurd H (by simp)
  · unfold laws_toIntS_L1 at H
    refine c_seq ?_
    refine c_seq ?_
    refine c_reg ?_
    refine ow_batch [.p, .p, .lenS 22 3 sl22, .p] rfl ?_
    refine ow_nil ?_
    refine x_qs ?_
    refine c_if rfl (fun hb => ?_) (fun hb => ?_)
    · have H := of_if_t hb H
      refine c_skip ?_
      refine x_qs ?_
      refine c_seq ?_
      refine c_block ?_
      refine c_reg ?_
      refine ow_batch [.p, .p, .p, .p] rfl ?_
      obtain ⟨e18, h19, H⟩ := of_bind H
      refine ow_ixE (e := eVal (Value.int .i64) (fun _ => rfl)) (xs := p0) (j := i11) rfl rfl rfl rfl rfl sl22 ty3 rfl (fun w1 hw1 => rds_bor g0 w1 hw1) h19 (by rw [Nat.mul_one]) ?_
      refine ow_r rfl (dstOk_lt rfl) (ry_load1 rfl rfl ty3 (at_elV (fun w1 hw1 => rds_bor g0 w1 hw1) h19)) ?_
      obtain ⟨e20, h21, H⟩ := of_bind H
      refine ow_ixE (e := eVal (Value.int .i64) (fun _ => rfl)) (xs := l10) (j := i11) rfl rfl rfl rfl rfl sl22 ty3 rfl (fun w1 hw1 => rds_own (r := 0) rfl w1 hw1) h21 (by rw [Nat.mul_one]) ?_
      refine ow_storeV (i := 0) (j := i11) rfl rfl rfl rfl rfl rfl ty3 rfl h21 (fun _ => rfl) kp ?_
      refine ow_nil ?_
      refine x_qb ?_
      refine x_qs ?_
      refine c_reg ?_
      refine ow_batch [.p, .p, .p] rfl ?_
      refine ow_nil ?_
      exact x_ql (RW.at (ihk1 ((l10.set i11.toNat e18)) (IntKind.i64.wrap (i11 + 1)) (H)) (fun _ h => St.sel [0] rfl rfl h) ⟨rfl, rfl, rfl, trivial⟩)
    · have H := of_if_f hb H
      refine c_exit ?_
      refine x_qs_exit ?_
      refine x_ql_exit ?_
      refine x_qb_here ?_
      refine x_qs ?_
      refine c_seq ?_
      refine c_reg ?_
      refine ow_batch [.p, .p] rfl ?_
      refine ow_nil ?_
      refine x_qs ?_
      refine c_ret ?_
      exact x_retR (rs := [.tmp 2]) (vs := [.slice (some ⟨b3, 0, none⟩) l1.length l1.length]) rfl ⟨rfl, trivial⟩ (fun w' hw' => by
          obtain rfl := of_some H
          exact ⟨_, rfl, (some ⟨b3, 0, none⟩), l1.length, l1.length, [b3], rfl, hw'.sel [0] rfl rfl⟩)

set_option maxHeartbeats 4000000 in
set_option maxRecDepth 100000 in
theorem laws_eqIntS_ok (w : World) {p0 : List Int} {p1 : List Int} {a_0 : Option Addr} {n_0 c_0 : Nat} {a_1 : Option Addr} {n_1 c_1 : Nat} {r : Bool} (H : laws_eqIntS p0 p1 = some r)  (g0 : (eList (eVal (Value.int .i64) (fun _ => rfl)) 3).rd w [] p0 [.slice a_0 n_0 c_0]) (g1 : (eList (eVal (Value.int .i64) (fun _ => rfl)) 3).rd w [] p1 [.slice a_1 n_1 c_1]) :
    Calls Try.prog 64 #[.slice a_0 n_0 c_0, .slice a_1 n_1 c_1] w (fun en w' => en = .returned (.bool r) ∧ Ext [] w w') := by
  obtain rfl := rd_n g0
  obtain rfl := rd_n g1
  unfold laws_eqIntS at H
  refine f_enter (vs := [.slice a_0 p0.length c_0, .slice a_1 p1.length c_1]) Try.func64 rfl Try.ntmps64 rfl (St.init w []) ?_
  refine c_seq ?_
  refine c_reg ?_
  refine ow_batch [.p] rfl ?_
  refine ow_nil ?_
  refine x_qs ?_
  refine c_seq ?_
  refine c_seq ?_
  refine c_reg ?_
  refine ow_batch [.p, .lenS 22 3 sl22, .p, .lenS 22 3 sl22, .p] rfl ?_
  refine ow_nil ?_
  refine x_qs ?_
  refine c_if rfl (fun hb => ?_) (fun hb => ?_)
  · have H := of_if_t hb H
    refine c_seq ?_
    refine c_reg ?_
    refine ow_batch [.p] rfl ?_
    refine ow_nil ?_
    refine x_qs ?_
    refine c_ret ?_
    refine x_qs_ret ?_
    exact x_retR (rs := [.tmp 4]) (vs := [.bool false]) rfl ⟨rfl, trivial⟩ (fun w' hw' => by
        obtain rfl := of_some H
        exact ⟨rfl, hw'.ext⟩)
  · have H := of_if_f hb H
    refine c_skip ?_
    refine x_qs ?_
    refine c_seq ?_
    refine c_seq ?_
    refine c_reg ?_
    refine ow_batch [.p] rfl ?_
    refine ow_nil ?_
    refine x_qs ?_
    refine c_block ?_
    refine CW.at (loopI1 (fun (i6 : Int) => St w [] []) (fun (i6 : Int) => [(0, .slice a_0 p0.length c_0), (1, .slice a_1 p1.length c_1), (5, .int .i64 i6)]) (fun kk => fun (i6 : Int) => laws_eqIntS_L1 p0 p1 kk i6 = some r) (fun _ H => ?_) (fun k1 ihk1 i6 H => ?_) Fuel (0) (H)) (fun _ h => St.sel [] rfl rfl h) ⟨rfl, rfl, rfl,  trivial⟩
    · unfold laws_eqIntS_L1 at H
      exact absurd H (by simp)
    · unfold laws_eqIntS_L1 at H
      refine c_seq ?_
      refine c_seq ?_
      refine c_reg ?_
      refine ow_batch [.p, .p, .lenS 22 3 sl22, .p] rfl ?_
      refine ow_nil ?_
      refine x_qs ?_
      refine c_if rfl (fun hb => ?_) (fun hb => ?_)
      · have H := of_if_t hb H
        refine c_skip ?_
        refine x_qs ?_
        refine c_seq ?_
        refine c_block ?_
        refine c_seq ?_
        refine c_regQ mixed (by kernel_rfl) ?_
        refine ow_batch [.p, .p] rfl ?_
        obtain ⟨e12, h13, H⟩ := of_bind H
        refine ow_ixE (e := eVal (Value.int .i64) (fun _ => rfl)) (xs := p0) (j := i6) rfl rfl rfl rfl rfl sl22 ty3 rfl (fun w1 hw1 => rds_bor g0 w1 hw1) h13 (by rw [Nat.mul_one]) ?_
        refine ow_r rfl (dstOk_lt rfl) (ry_load1 rfl rfl ty3 (at_elV (fun w1 hw1 => rds_bor g0 w1 hw1) h13)) ?_
        refine ow_batch [.p, .p] rfl ?_
        obtain ⟨e14, h15, H⟩ := of_bind H
        refine ow_ixE (e := eVal (Value.int .i64) (fun _ => rfl)) (xs := p1) (j := i6) rfl rfl rfl rfl rfl sl22 ty3 rfl (fun w1 hw1 => rds_bor g1 w1 hw1) h15 (by rw [Nat.mul_one]) ?_
        refine ow_r rfl (dstOk_lt rfl) (ry_load1 rfl rfl ty3 (at_elV (fun w1 hw1 => rds_bor g1 w1 hw1) h15)) ?_
        refine ow_batch [.p] rfl ?_
        refine ow_nilQ ?_
        refine x_qs ?_
        refine c_if rfl (fun hb => ?_) (fun hb => ?_)
        · have H := of_if_t hb H
          refine c_seq ?_
          refine c_reg ?_
          refine ow_batch [.p] rfl ?_
          refine ow_nil ?_
          refine x_qs ?_
          refine c_ret ?_
          refine x_qb_ret ?_
          refine x_qs_ret ?_
          refine x_ql_ret ?_
          refine x_qb_ret ?_
          refine x_qs_ret ?_
          exact x_retR (rs := [.tmp 4]) (vs := [.bool false]) rfl ⟨rfl, trivial⟩ (fun w' hw' => by
              obtain rfl := of_some H
              exact ⟨rfl, hw'.ext⟩)
        · have H := of_if_f hb H
          refine c_skip ?_
          refine x_qb ?_
          refine x_qs ?_
          refine c_reg ?_
          refine ow_batch [.p, .p, .p] rfl ?_
          refine ow_nil ?_
          exact x_ql (RW.at (ihk1 (IntKind.i64.wrap (i6 + 1)) (H)) (fun _ h => St.sel [] rfl rfl h) ⟨rfl, rfl, rfl, trivial⟩)
      · have H := of_if_f hb H
        refine c_exit ?_
        refine x_qs_exit ?_
        refine x_ql_exit ?_
        refine x_qb_here ?_
        refine x_qs ?_
        refine c_seq ?_
        refine c_reg ?_
        refine ow_batch [.p] rfl ?_
        refine ow_nil ?_
        refine x_qs ?_
        refine c_ret ?_
        exact x_retR (rs := [.tmp 4]) (vs := [.bool true]) rfl ⟨rfl, trivial⟩ (fun w' hw' => by
            obtain rfl := of_some H
            exact ⟨rfl, hw'.ext⟩)

set_option maxHeartbeats 4000000 in
set_option maxRecDepth 100000 in
theorem laws_szEx_ok (w : World) {p0 : Tlaws_Ex} {p1 : Int} {cs0 : List Value} {r : Int} (H : laws_szEx p0 p1 = some r)  (g0 : (eTlaws_Ex).rd w [] p0 cs0) :
    Calls Try.prog 28 #[.agg cs0.toArray, .int .i64 p1] w (fun en w' => en = .returned (.int .i64 r) ∧ Ext [] w w') := by
  obtain ⟨c1, c2, rfl, g3, g4⟩ := rdo_Tlaws_Ex g0
  obtain ⟨a5, c6, rfl⟩ := rd_sl1 g3
  obtain rfl : c2 = [.int .i64 p0.Class_] := g4
  unfold laws_szEx at H
  refine f_enter (vs := [.agg #[.slice a5 p0.Bins_.length c6, .int .i64 p0.Class_], .int .i64 p1]) Try.func28 rfl Try.ntmps28 rfl (St.init w []) ?_
  refine c_seq ?_
  refine c_reg ?_
  refine ow_box (cs := [.slice a5 p0.Bins_.length c6, .int .i64 p0.Class_]) rfl rfl rfl rfl rfl rfl (fun _ => kp) (fun b7 => ?_)
  refine ow_batch [.p] rfl ?_
  refine ow_nil ?_
  refine x_qs ?_
  refine c_seq ?_
  refine c_reg ?_
  refine ow_batch [.fa 53 0 0 fa53_0] rfl ?_
  refine ow_r rfl (dstOk_lt rfl) (ry_box1 (off := 0) rfl rfl ty22 (boxIn (i := 0) rfl) rfl) ?_
  refine ow_batch [.p] rfl ?_
  obtain ⟨y8, h9, H⟩ := of_bind H
  refine ow_q rfl rfl (dstOk_lt rfl) (qy_call rfl fn55 rfl (fun w1 hw1 => laws_szIntS_ok w1  h9 (rds_bor g3 w1 hw1))) (fun _ _ => trivial) ?_
  refine ow_batch [.p] rfl ?_
  refine ow_nil ?_
  refine x_qs ?_
  refine c_seq ?_
  refine c_seq ?_
  refine c_reg ?_
  refine ow_batch [.p, .p] rfl ?_
  refine ow_nil ?_
  refine x_qs ?_
  refine c_if rfl (fun hb => ?_) (fun hb => ?_)
  · have H := of_if_t hb H
    refine c_seq ?_
    refine c_reg ?_
    refine ow_batch [.p] rfl ?_
    refine ow_nil ?_
    refine x_qs ?_
    refine c_ret ?_
    refine x_qs_ret ?_
    exact x_retR (rs := [.tmp 4]) (vs := [.int .i64 (-1)]) rfl ⟨rfl, trivial⟩ (fun w' hw' => by
        obtain rfl := of_some H
        exact ⟨rfl, hw'.ext⟩)
  · have H := of_if_f hb H
    refine c_skip ?_
    refine x_qs ?_
    refine c_seq ?_
    refine c_reg ?_
    refine ow_batch [.p, .p] rfl ?_
    refine ow_nil ?_
    refine x_qs ?_
    refine c_ret ?_
    exact x_retR (rs := [.tmp 4]) (vs := [.int .i64 y8]) rfl ⟨rfl, trivial⟩ (fun w' hw' => by
        obtain rfl := of_some H
        exact ⟨rfl, hw'.ext⟩)

set_option maxHeartbeats 4000000 in
set_option maxRecDepth 100000 in
theorem laws_szEntry_ok (w : World) {p0 : Tlaws_Entry} {p1 : Int} {cs0 : List Value} {r : Int} (H : laws_szEntry p0 p1 = some r)  (g0 : (eTlaws_Entry).rd w [] p0 cs0) :
    Calls Try.prog 76 #[.agg cs0.toArray, .int .i64 p1] w (fun en w' => en = .returned (.int .i64 r) ∧ Ext [] w w') := by
  obtain ⟨c1, c2, rfl, g3, g4⟩ := rdo_Tlaws_Entry g0
  obtain ⟨c5, c6, rfl, g7, g8⟩ := rdo_Tlaws_Ex g3
  obtain ⟨a9, c10, rfl⟩ := rd_sl1 g7
  obtain rfl : c6 = [.int .i64 p0.Ex_.Class_] := g8
  obtain rfl : c2 = [.int .i64 p0.Weight_] := g4
  unfold laws_szEntry at H
  refine f_enter (vs := [.agg #[.slice a9 p0.Ex_.Bins_.length c10, .int .i64 p0.Ex_.Class_, .int .i64 p0.Weight_], .int .i64 p1]) Try.func76 rfl Try.ntmps76 rfl (St.init w []) ?_
  refine c_seq ?_
  refine c_reg ?_
  refine ow_box (cs := [.slice a9 p0.Ex_.Bins_.length c10, .int .i64 p0.Ex_.Class_, .int .i64 p0.Weight_]) rfl rfl rfl rfl rfl rfl (fun _ => kp) (fun b11 => ?_)
  refine ow_batch [.p] rfl ?_
  refine ow_nil ?_
  refine x_qs ?_
  refine c_seq ?_
  refine c_reg ?_
  refine ow_batch [.fa 109 0 0 fa109_0] rfl ?_
  refine ow_r rfl (dstOk_lt rfl) (ry_box (off := 0) (ds := [.slice a9 p0.Ex_.Bins_.length c10, .int .i64 p0.Ex_.Class_]) rfl rfl ty53 (boxIn (i := 0) rfl) rfl rfl) ?_
  refine ow_batch [.p] rfl ?_
  obtain ⟨y12, h13, H⟩ := of_bind H
  refine ow_q rfl rfl (dstOk_lt rfl) (qy_call rfl fn28 rfl (fun w1 hw1 => laws_szEx_ok w1 (cs0 := [.slice a9 p0.Ex_.Bins_.length c10, .int .i64 p0.Ex_.Class_]) h13 (rdm_Tlaws_Ex (x := p0.Ex_) (c0 := [.slice a9 p0.Ex_.Bins_.length c10]) (c1 := [.int .i64 p0.Ex_.Class_]) (rds_bor g7 w1 hw1) rfl))) (fun _ _ => trivial) ?_
  refine ow_batch [.p] rfl ?_
  refine ow_nil ?_
  refine x_qs ?_
  refine c_seq ?_
  refine c_seq ?_
  refine c_reg ?_
  refine ow_batch [.p, .p] rfl ?_
  refine ow_nil ?_
  refine x_qs ?_
  refine c_if rfl (fun hb => ?_) (fun hb => ?_)
  · have H := of_if_t hb H
    refine c_seq ?_
    refine c_reg ?_
    refine ow_batch [.p] rfl ?_
    refine ow_nil ?_
    refine x_qs ?_
    refine c_ret ?_
    refine x_qs_ret ?_
    exact x_retR (rs := [.tmp 4]) (vs := [.int .i64 (-1)]) rfl ⟨rfl, trivial⟩ (fun w' hw' => by
        obtain rfl := of_some H
        exact ⟨rfl, hw'.ext⟩)
  · have H := of_if_f hb H
    refine c_skip ?_
    refine x_qs ?_
    refine c_seq ?_
    refine c_reg ?_
    refine ow_batch [.p, .p] rfl ?_
    refine ow_nil ?_
    refine x_qs ?_
    refine c_ret ?_
    exact x_retR (rs := [.tmp 4]) (vs := [.int .i64 y12]) rfl ⟨rfl, trivial⟩ (fun w' hw' => by
        obtain rfl := of_some H
        exact ⟨rfl, hw'.ext⟩)

set_option maxHeartbeats 4000000 in
set_option maxRecDepth 100000 in
theorem laws_szEntryS_ok (w : World) {p0 : List Tlaws_Entry} {p1 : Int} {a_0 : Option Addr} {n_0 c_0 : Nat} {r : Int} (H : laws_szEntryS p0 p1 = some r)  (g0 : (eList (eTlaws_Entry) 109).rd w [] p0 [.slice a_0 n_0 c_0]) :
    Calls Try.prog 33 #[.slice a_0 n_0 c_0, .int .i64 p1] w (fun en w' => en = .returned (.int .i64 r) ∧ Ext [] w w') := by
  obtain rfl := rd_n g0
  unfold laws_szEntryS at H
  refine f_enter (vs := [.slice a_0 p0.length c_0, .int .i64 p1]) Try.func33 rfl Try.ntmps33 rfl (St.init w []) ?_
  refine c_seq ?_
  refine c_reg ?_
  refine ow_batch [.p] rfl ?_
  refine ow_nil ?_
  refine x_qs ?_
  refine c_seq ?_
  refine c_reg ?_
  refine ow_batch [.p, .p, .lenS 60 109 sl60, .p, .p] rfl ?_
  refine ow_nil ?_
  refine x_qs ?_
  refine c_seq ?_
  refine c_seq ?_
  refine c_reg ?_
  refine ow_batch [.p, .p] rfl ?_
  refine ow_nil ?_
  refine x_qs ?_
  refine c_if rfl (fun hb => ?_) (fun hb => ?_)
  · have H := of_if_t hb H
    refine c_seq ?_
    refine c_reg ?_
    refine ow_batch [.p] rfl ?_
    refine ow_nil ?_
    refine x_qs ?_
    refine c_ret ?_
    refine x_qs_ret ?_
    exact x_retR (rs := [.tmp 4]) (vs := [.int .i64 (-1)]) rfl ⟨rfl, trivial⟩ (fun w' hw' => by
        obtain rfl := of_some H
        exact ⟨rfl, hw'.ext⟩)
  · have H := of_if_f hb H
    refine c_skip ?_
    refine x_qs ?_
    refine c_seq ?_
    refine c_seq ?_
    refine c_reg ?_
    refine ow_batch [.p] rfl ?_
    refine ow_nil ?_
    refine x_qs ?_
    refine c_block ?_
    refine CW.at (loopI2 (fun (i21 : Int) (i22 : Int) => St w [] []) (fun (i21 : Int) (i22 : Int) => [(0, .slice a_0 p0.length c_0), (1, .int .i64 i21), (5, .int .i64 i22)]) (fun kk => fun (i21 : Int) (i22 : Int) => laws_szEntryS_L1 p0 kk i21 i22 = some r) (fun _ _ H => ?_) (fun k1 ihk1 i21 i22 H => ?_) Fuel (IntKind.i64.wrap (p1 - (p0.length : Int))) (0) (H)) (fun _ h => St.sel [] rfl rfl h) ⟨rfl, rfl, rfl,  trivial⟩
    · unfold laws_szEntryS_L1 at H
      exact absurd H (by simp)
    · unfold laws_szEntryS_L1 at H
      refine c_seq ?_
      refine c_seq ?_
      refine c_reg ?_
      refine ow_batch [.p, .p, .lenS 60 109 sl60, .p] rfl ?_
      refine ow_nil ?_
      refine x_qs ?_
      refine c_if rfl (fun hb => ?_) (fun hb => ?_)
      · have H := of_if_t hb H
        refine c_skip ?_
        refine x_qs ?_
        refine c_seq ?_
        refine c_block ?_
        refine c_seq ?_
        refine c_reg ?_
        refine ow_batch [.p, .p] rfl ?_
        obtain ⟨e43, h44, H⟩ := of_bind H
        refine ow_ixB rfl rfl rfl rfl rfl sl60 ty109 rfl g0 h44 (fun q47 c48 hd45 hA46 => ?_)
        obtain ⟨c49, c50, rfl, g51, g52⟩ := rdo_Tlaws_Entry hd45
        obtain ⟨c53, c54, rfl, g55, g56⟩ := rdo_Tlaws_Ex g51
        obtain ⟨a57, c58, rfl⟩ := rd_sl1 g55
        obtain rfl : c54 = [.int .i64 e43.Ex_.Class_] := g56
        obtain rfl : c50 = [.int .i64 e43.Weight_] := g52
        refine ow_r rfl (dstOk_lt rfl) (ry_load (cs := [.slice a57 e43.Ex_.Bins_.length c58, .int .i64 e43.Ex_.Class_, .int .i64 e43.Weight_]) rfl rfl ty109 (at_bor bor hA46) rfl) ?_
        refine ow_batch [.p] rfl ?_
        obtain ⟨y59, h60, H⟩ := of_bind H
        refine ow_q rfl rfl (dstOk_lt rfl) (qy_call rfl fn76 rfl (fun w1 hw1 => laws_szEntry_ok w1 (cs0 := [.slice a57 e43.Ex_.Bins_.length c58, .int .i64 e43.Ex_.Class_, .int .i64 e43.Weight_]) h60 (rdm_Tlaws_Entry (x := e43) (c0 := [.slice a57 e43.Ex_.Bins_.length c58, .int .i64 e43.Ex_.Class_]) (c1 := [.int .i64 e43.Weight_]) (rdm_Tlaws_Ex (x := e43.Ex_) (c0 := [.slice a57 e43.Ex_.Bins_.length c58]) (c1 := [.int .i64 e43.Ex_.Class_]) (rds_bor g55 w1 hw1) rfl) rfl))) (fun _ _ => trivial) ?_
        refine ow_batch [.p] rfl ?_
        refine ow_nil ?_
        refine x_qs ?_
        refine c_seq ?_
        refine c_reg ?_
        refine ow_batch [.p, .p] rfl ?_
        refine ow_nil ?_
        refine x_qs ?_
        refine c_if rfl (fun hb => ?_) (fun hb => ?_)
        · have H := of_if_t hb H
          refine c_seq ?_
          refine c_reg ?_
          refine ow_batch [.p] rfl ?_
          refine ow_nil ?_
          refine x_qs ?_
          refine c_ret ?_
          refine x_qb_ret ?_
          refine x_qs_ret ?_
          refine x_ql_ret ?_
          refine x_qb_ret ?_
          refine x_qs_ret ?_
          exact x_retR (rs := [.tmp 4]) (vs := [.int .i64 (-1)]) rfl ⟨rfl, trivial⟩ (fun w' hw' => by
              obtain rfl := of_some H
              exact ⟨rfl, hw'.ext⟩)
        · have H := of_if_f hb H
          refine c_skip ?_
          refine x_qb ?_
          refine x_qs ?_
          refine c_reg ?_
          refine ow_batch [.p, .p, .p] rfl ?_
          refine ow_nil ?_
          exact x_ql (RW.at (ihk1 (y59) (IntKind.i64.wrap (i22 + 1)) (H)) (fun _ h => St.sel [] rfl rfl h) ⟨rfl, rfl, rfl, trivial⟩)
      · have H := of_if_f hb H
        refine c_exit ?_
        refine x_qs_exit ?_
        refine x_ql_exit ?_
        refine x_qb_here ?_
        refine x_qs ?_
        refine c_seq ?_
        refine c_reg ?_
        refine ow_batch [.p, .p] rfl ?_
        refine ow_nil ?_
        refine x_qs ?_
        refine c_ret ?_
        exact x_retR (rs := [.tmp 4]) (vs := [.int .i64 i21]) rfl ⟨rfl, trivial⟩ (fun w' hw' => by
            obtain rfl := of_some H
            exact ⟨rfl, hw'.ext⟩)

set_option maxHeartbeats 4000000 in
set_option maxRecDepth 100000 in
theorem laws_szPast_ok (w : World) {p0 : Tlaws_Past} {p1 : Int} {cs0 : List Value} {r : Int} (H : laws_szPast p0 p1 = some r)  (g0 : (eTlaws_Past).rd w [] p0 cs0) :
    Calls Try.prog 81 #[.agg cs0.toArray, .int .i64 p1] w (fun en w' => en = .returned (.int .i64 r) ∧ Ext [] w w') := by
  obtain ⟨c1, c2, c3, rfl, g4, g5, g6⟩ := rdo_Tlaws_Past g0
  obtain ⟨a7, c8, rfl⟩ := rd_sl1 g4
  obtain ⟨a9, c10, rfl⟩ := rd_sl1 g5
  obtain ⟨a11, c12, rfl⟩ := rd_sl1 g6
  unfold laws_szPast at H
  refine f_enter (vs := [.agg #[.slice a7 p0.Tree_.length c8, .slice a9 p0.Young_.length c10, .slice a11 p0.Bits_.length c12], .int .i64 p1]) Try.func81 rfl Try.ntmps81 rfl (St.init w []) ?_
  refine c_seq ?_
  refine c_reg ?_
  refine ow_box (cs := [.slice a7 p0.Tree_.length c8, .slice a9 p0.Young_.length c10, .slice a11 p0.Bits_.length c12]) rfl rfl rfl rfl rfl rfl (fun _ => kp) (fun b13 => ?_)
  refine ow_batch [.p] rfl ?_
  refine ow_nil ?_
  refine x_qs ?_
  refine c_seq ?_
  refine c_reg ?_
  refine ow_batch [.fa 118 0 0 fa118_0] rfl ?_
  refine ow_r rfl (dstOk_lt rfl) (ry_box1 (off := 0) rfl rfl ty60 (boxIn (i := 0) rfl) rfl) ?_
  refine ow_batch [.p] rfl ?_
  obtain ⟨y14, h15, H⟩ := of_bind H
  refine ow_q rfl rfl (dstOk_lt rfl) (qy_call rfl fn33 rfl (fun w1 hw1 => laws_szEntryS_ok w1  h15 (rds_bor g4 w1 hw1))) (fun _ _ => trivial) ?_
  refine ow_batch [.p] rfl ?_
  refine ow_nil ?_
  refine x_qs ?_
  refine c_seq ?_
  refine c_seq ?_
  refine c_reg ?_
  refine ow_batch [.p, .p] rfl ?_
  refine ow_nil ?_
  refine x_qs ?_
  refine c_if rfl (fun hb => ?_) (fun hb => ?_)
  · have H := of_if_t hb H
    refine c_seq ?_
    refine c_reg ?_
    refine ow_batch [.p] rfl ?_
    refine ow_nil ?_
    refine x_qs ?_
    refine c_ret ?_
    refine x_qs_ret ?_
    exact x_retR (rs := [.tmp 4]) (vs := [.int .i64 (-1)]) rfl ⟨rfl, trivial⟩ (fun w' hw' => by
        obtain rfl := of_some H
        exact ⟨rfl, hw'.ext⟩)
  · have H := of_if_f hb H
    refine c_skip ?_
    refine x_qs ?_
    refine c_seq ?_
    refine c_reg ?_
    refine ow_batch [.fa 118 1 1 fa118_1] rfl ?_
    refine ow_r rfl (dstOk_lt rfl) (ry_box1 (off := 1) rfl rfl ty60 (boxIn (i := 0) rfl) rfl) ?_
    refine ow_batch [.p] rfl ?_
    obtain ⟨y16, h17, H⟩ := of_bind H
    refine ow_q rfl rfl (dstOk_lt rfl) (qy_call rfl fn33 rfl (fun w1 hw1 => laws_szEntryS_ok w1  h17 (rds_bor g5 w1 hw1))) (fun _ _ => trivial) ?_
    refine ow_batch [.p] rfl ?_
    refine ow_nil ?_
    refine x_qs ?_
    refine c_seq ?_
    refine c_seq ?_
    refine c_reg ?_
    refine ow_batch [.p, .p] rfl ?_
    refine ow_nil ?_
    refine x_qs ?_
    refine c_if rfl (fun hb => ?_) (fun hb => ?_)
    · have H := of_if_t hb H
      refine c_seq ?_
      refine c_reg ?_
      refine ow_batch [.p] rfl ?_
      refine ow_nil ?_
      refine x_qs ?_
      refine c_ret ?_
      refine x_qs_ret ?_
      exact x_retR (rs := [.tmp 4]) (vs := [.int .i64 (-1)]) rfl ⟨rfl, trivial⟩ (fun w' hw' => by
          obtain rfl := of_some H
          exact ⟨rfl, hw'.ext⟩)
    · have H := of_if_f hb H
      refine c_skip ?_
      refine x_qs ?_
      refine c_seq ?_
      refine c_reg ?_
      refine ow_batch [.fa 118 2 2 fa118_2] rfl ?_
      refine ow_r rfl (dstOk_lt rfl) (ry_box1 (off := 2) rfl rfl ty22 (boxIn (i := 0) rfl) rfl) ?_
      refine ow_batch [.p] rfl ?_
      obtain ⟨y18, h19, H⟩ := of_bind H
      refine ow_q rfl rfl (dstOk_lt rfl) (qy_call rfl fn55 rfl (fun w1 hw1 => laws_szIntS_ok w1  h19 (rds_bor g6 w1 hw1))) (fun _ _ => trivial) ?_
      refine ow_batch [.p] rfl ?_
      refine ow_nil ?_
      refine x_qs ?_
      refine c_seq ?_
      refine c_seq ?_
      refine c_reg ?_
      refine ow_batch [.p, .p] rfl ?_
      refine ow_nil ?_
      refine x_qs ?_
      refine c_if rfl (fun hb => ?_) (fun hb => ?_)
      · have H := of_if_t hb H
        refine c_seq ?_
        refine c_reg ?_
        refine ow_batch [.p] rfl ?_
        refine ow_nil ?_
        refine x_qs ?_
        refine c_ret ?_
        refine x_qs_ret ?_
        exact x_retR (rs := [.tmp 4]) (vs := [.int .i64 (-1)]) rfl ⟨rfl, trivial⟩ (fun w' hw' => by
            obtain rfl := of_some H
            exact ⟨rfl, hw'.ext⟩)
      · have H := of_if_f hb H
        refine c_skip ?_
        refine x_qs ?_
        refine c_seq ?_
        refine c_reg ?_
        refine ow_batch [.p, .p] rfl ?_
        refine ow_nil ?_
        refine x_qs ?_
        refine c_ret ?_
        exact x_retR (rs := [.tmp 4]) (vs := [.int .i64 y18]) rfl ⟨rfl, trivial⟩ (fun w' hw' => by
            obtain rfl := of_some H
            exact ⟨rfl, hw'.ext⟩)

set_option maxHeartbeats 4000000 in
set_option maxRecDepth 100000 in
theorem laws_szPastS_ok (w : World) {p0 : List Tlaws_Past} {p1 : Int} {a_0 : Option Addr} {n_0 c_0 : Nat} {r : Int} (H : laws_szPastS p0 p1 = some r)  (g0 : (eList (eTlaws_Past) 118).rd w [] p0 [.slice a_0 n_0 c_0]) :
    Calls Try.prog 38 #[.slice a_0 n_0 c_0, .int .i64 p1] w (fun en w' => en = .returned (.int .i64 r) ∧ Ext [] w w') := by
  obtain rfl := rd_n g0
  unfold laws_szPastS at H
  refine f_enter (vs := [.slice a_0 p0.length c_0, .int .i64 p1]) Try.func38 rfl Try.ntmps38 rfl (St.init w []) ?_
  refine c_seq ?_
  refine c_reg ?_
  refine ow_batch [.p] rfl ?_
  refine ow_nil ?_
  refine x_qs ?_
  refine c_seq ?_
  refine c_reg ?_
  refine ow_batch [.p, .p, .lenS 67 118 sl67, .p, .p] rfl ?_
  refine ow_nil ?_
  refine x_qs ?_
  refine c_seq ?_
  refine c_seq ?_
  refine c_reg ?_
  refine ow_batch [.p, .p] rfl ?_
  refine ow_nil ?_
  refine x_qs ?_
  refine c_if rfl (fun hb => ?_) (fun hb => ?_)
  · have H := of_if_t hb H
    refine c_seq ?_
    refine c_reg ?_
    refine ow_batch [.p] rfl ?_
    refine ow_nil ?_
    refine x_qs ?_
    refine c_ret ?_
    refine x_qs_ret ?_
    exact x_retR (rs := [.tmp 4]) (vs := [.int .i64 (-1)]) rfl ⟨rfl, trivial⟩ (fun w' hw' => by
        obtain rfl := of_some H
        exact ⟨rfl, hw'.ext⟩)
  · have H := of_if_f hb H
    refine c_skip ?_
    refine x_qs ?_
    refine c_seq ?_
    refine c_seq ?_
    refine c_reg ?_
    refine ow_batch [.p] rfl ?_
    refine ow_nil ?_
    refine x_qs ?_
    refine c_block ?_
    refine CW.at (loopI2 (fun (i23 : Int) (i24 : Int) => St w [] []) (fun (i23 : Int) (i24 : Int) => [(0, .slice a_0 p0.length c_0), (1, .int .i64 i23), (5, .int .i64 i24)]) (fun kk => fun (i23 : Int) (i24 : Int) => laws_szPastS_L1 p0 kk i23 i24 = some r) (fun _ _ H => ?_) (fun k1 ihk1 i23 i24 H => ?_) Fuel (IntKind.i64.wrap (p1 - (p0.length : Int))) (0) (H)) (fun _ h => St.sel [] rfl rfl h) ⟨rfl, rfl, rfl,  trivial⟩
    · unfold laws_szPastS_L1 at H
      exact absurd H (by simp)
    · unfold laws_szPastS_L1 at H
      refine c_seq ?_
      refine c_seq ?_
      refine c_reg ?_
      refine ow_batch [.p, .p, .lenS 67 118 sl67, .p] rfl ?_
      refine ow_nil ?_
      refine x_qs ?_
      refine c_if rfl (fun hb => ?_) (fun hb => ?_)
      · have H := of_if_t hb H
        refine c_skip ?_
        refine x_qs ?_
        refine c_seq ?_
        refine c_block ?_
        refine c_seq ?_
        refine c_reg ?_
        refine ow_batch [.p, .p] rfl ?_
        obtain ⟨e47, h48, H⟩ := of_bind H
        refine ow_ixB rfl rfl rfl rfl rfl sl67 ty118 rfl g0 h48 (fun q51 c52 hd49 hA50 => ?_)
        obtain ⟨c53, c54, c55, rfl, g56, g57, g58⟩ := rdo_Tlaws_Past hd49
        obtain ⟨a59, c60, rfl⟩ := rd_sl1 g56
        obtain ⟨a61, c62, rfl⟩ := rd_sl1 g57
        obtain ⟨a63, c64, rfl⟩ := rd_sl1 g58
        refine ow_r rfl (dstOk_lt rfl) (ry_load (cs := [.slice a59 e47.Tree_.length c60, .slice a61 e47.Young_.length c62, .slice a63 e47.Bits_.length c64]) rfl rfl ty118 (at_bor bor hA50) rfl) ?_
        refine ow_batch [.p] rfl ?_
        obtain ⟨y65, h66, H⟩ := of_bind H
        refine ow_q rfl rfl (dstOk_lt rfl) (qy_call rfl fn81 rfl (fun w1 hw1 => laws_szPast_ok w1 (cs0 := [.slice a59 e47.Tree_.length c60, .slice a61 e47.Young_.length c62, .slice a63 e47.Bits_.length c64]) h66 (rdm_Tlaws_Past (x := e47) (c0 := [.slice a59 e47.Tree_.length c60]) (c1 := [.slice a61 e47.Young_.length c62]) (c2 := [.slice a63 e47.Bits_.length c64]) (rds_bor g56 w1 hw1) (rds_bor g57 w1 hw1) (rds_bor g58 w1 hw1)))) (fun _ _ => trivial) ?_
        refine ow_batch [.p] rfl ?_
        refine ow_nil ?_
        refine x_qs ?_
        refine c_seq ?_
        refine c_reg ?_
        refine ow_batch [.p, .p] rfl ?_
        refine ow_nil ?_
        refine x_qs ?_
        refine c_if rfl (fun hb => ?_) (fun hb => ?_)
        · have H := of_if_t hb H
          refine c_seq ?_
          refine c_reg ?_
          refine ow_batch [.p] rfl ?_
          refine ow_nil ?_
          refine x_qs ?_
          refine c_ret ?_
          refine x_qb_ret ?_
          refine x_qs_ret ?_
          refine x_ql_ret ?_
          refine x_qb_ret ?_
          refine x_qs_ret ?_
          exact x_retR (rs := [.tmp 4]) (vs := [.int .i64 (-1)]) rfl ⟨rfl, trivial⟩ (fun w' hw' => by
              obtain rfl := of_some H
              exact ⟨rfl, hw'.ext⟩)
        · have H := of_if_f hb H
          refine c_skip ?_
          refine x_qb ?_
          refine x_qs ?_
          refine c_reg ?_
          refine ow_batch [.p, .p, .p] rfl ?_
          refine ow_nil ?_
          exact x_ql (RW.at (ihk1 (y65) (IntKind.i64.wrap (i24 + 1)) (H)) (fun _ h => St.sel [] rfl rfl h) ⟨rfl, rfl, rfl, trivial⟩)
      · have H := of_if_f hb H
        refine c_exit ?_
        refine x_qs_exit ?_
        refine x_ql_exit ?_
        refine x_qb_here ?_
        refine x_qs ?_
        refine c_seq ?_
        refine c_reg ?_
        refine ow_batch [.p, .p] rfl ?_
        refine ow_nil ?_
        refine x_qs ?_
        refine c_ret ?_
        exact x_retR (rs := [.tmp 4]) (vs := [.int .i64 i23]) rfl ⟨rfl, trivial⟩ (fun w' hw' => by
            obtain rfl := of_some H
            exact ⟨rfl, hw'.ext⟩)

set_option maxHeartbeats 4000000 in
set_option maxRecDepth 100000 in
theorem laws_szStepS_ok (w : World) {p0 : List Tlaws_Step} {p1 : Int} {a_0 : Option Addr} {n_0 c_0 : Nat} {r : Int} (H : laws_szStepS p0 p1 = some r)  (g0 : (eList (eTlaws_Step) 128).rd w [] p0 [.slice a_0 n_0 c_0]) :
    Calls Try.prog 39 #[.slice a_0 n_0 c_0, .int .i64 p1] w (fun en w' => en = .returned (.int .i64 r) ∧ Ext [] w w') := by
  obtain rfl := rd_n g0
  unfold laws_szStepS at H
  refine f_enter (vs := [.slice a_0 p0.length c_0, .int .i64 p1]) Try.func39 rfl Try.ntmps39 rfl (St.init w []) ?_
  refine c_seq ?_
  refine c_reg ?_
  refine ow_batch [.p] rfl ?_
  refine ow_nil ?_
  refine x_qs ?_
  refine c_seq ?_
  refine c_reg ?_
  refine ow_batch [.p, .p, .lenS 68 128 sl68, .p, .p] rfl ?_
  refine ow_nil ?_
  refine x_qs ?_
  refine c_seq ?_
  refine c_seq ?_
  refine c_reg ?_
  refine ow_batch [.p, .p] rfl ?_
  refine ow_nil ?_
  refine x_qs ?_
  refine c_if rfl (fun hb => ?_) (fun hb => ?_)
  · have H := of_if_t hb H
    refine c_seq ?_
    refine c_reg ?_
    refine ow_batch [.p] rfl ?_
    refine ow_nil ?_
    refine x_qs ?_
    refine c_ret ?_
    refine x_qs_ret ?_
    exact x_retR (rs := [.tmp 4]) (vs := [.int .i64 (-1)]) rfl ⟨rfl, trivial⟩ (fun w' hw' => by
        obtain rfl := of_some H
        exact ⟨rfl, hw'.ext⟩)
  · have H := of_if_f hb H
    refine c_skip ?_
    refine x_qs ?_
    refine c_seq ?_
    refine c_reg ?_
    refine ow_batch [.p, .p] rfl ?_
    refine ow_nil ?_
    refine x_qs ?_
    refine c_ret ?_
    exact x_retR (rs := [.tmp 4]) (vs := [.int .i64 (IntKind.i64.wrap (p1 - (p0.length : Int)))]) rfl ⟨rfl, trivial⟩ (fun w' hw' => by
        obtain rfl := of_some H
        exact ⟨rfl, hw'.ext⟩)

set_option maxHeartbeats 4000000 in
set_option maxRecDepth 100000 in
theorem laws_toEx_ok (w : World) {M0 : List Nat} {p0 : Tlaws_Ex} {cs0 : List Value} {r : Timpl_Ex} (H : laws_toEx p0 = some r) (HS : St w M0 [] w) (g0 : (eTlaws_Ex).rd w M0 p0 cs0) :
    Calls Try.prog 30 #[.agg cs0.toArray] w (fun en w' => ∃ v, en = .returned v ∧ ∃ (a0 : Option Addr), ∃ (n0 : Nat), ∃ (c0 : Nat), ∃ (F0 : List Nat), v = .agg #[.slice a0 n0 c0, .int .i64 r.Class_] ∧ St w M0 [Res.own (eList (eVal (Value.int .i64) (fun _ => rfl)) 3) F0 r.Bins_ [.slice a0 n0 c0]] w') := by
  obtain ⟨c1, c2, rfl, g3, g4⟩ := rdo_Tlaws_Ex g0
  obtain ⟨a5, c6, rfl⟩ := rd_sl1 g3
  obtain rfl : c2 = [.int .i64 p0.Class_] := g4
  unfold laws_toEx at H
  refine f_enter (vs := [.agg #[.slice a5 p0.Bins_.length c6, .int .i64 p0.Class_]]) Try.func30 rfl Try.ntmps30 rfl (HS) ?_
  refine c_seq ?_
  refine c_reg ?_
  refine ow_box (cs := [.slice a5 p0.Bins_.length c6, .int .i64 p0.Class_]) rfl rfl rfl rfl rfl rfl (fun _ => kp) (fun b7 => ?_)
  refine ow_alloc rfl rfl rfl rfl ty56 (fun _ => kp) (fun b8 => ?_)
  refine ow_nil ?_
  refine x_qs ?_
  refine c_seq ?_
  refine c_reg ?_
  refine ow_alloc rfl rfl rfl rfl ty56 (fun _ => kp) (fun b9 => ?_)
  refine ow_nil ?_
  refine x_qs ?_
  refine c_seq ?_
  refine c_reg ?_
  refine ow_batch [.fa 53 0 0 fa53_0] rfl ?_
  refine ow_r rfl (dstOk_lt rfl) (ry_box1 (off := 0) rfl rfl ty22 (boxIn (i := 0) rfl) rfl) ?_
  obtain ⟨y10, h11, H⟩ := of_bind H
  refine ow_callS rfl fn60 rfl rfl rfl rfl (fun w1 hw1 => laws_toIntS_ok w1  h11 (hw1.carve [] rfl rfl) (rds_bor g3 w1 hw1)) (fun v12 w1 w2 hw1 hR14 => ?_)
  obtain ⟨a15, n16, c17, F18, rfl, hS13⟩ := hR14
  obtain rfl := own_nS (i := 0) hS13 rfl
  refine ⟨St w M0 [_, _, _, _], hw1.comp [] rfl rfl hS13, fun _ _ => trivial, ?_⟩
  refine ow_batch [.fa 56 0 0 fa56_0] rfl ?_
  refine ow_storeC (off := 0) [.slice a15 y10.length c17] [_, _] (i := 2) rfl rfl rfl rfl rfl rfl ty22 rfl rfl (by intro u hu; simp only [List.mem_cons, List.not_mem_nil, or_false] at hu; rcases hu with rfl <;> rfl) rfl rfl rfl kp ?_
  refine ow_nil ?_
  refine x_qs ?_
  refine c_seq ?_
  refine c_reg ?_
  refine ow_batch [.fa 53 1 1 fa53_1] rfl ?_
  refine ow_r rfl (dstOk_lt rfl) (ry_box1 (off := 1) rfl rfl ty3 (boxIn (i := 0) rfl) rfl) ?_
  refine ow_batch [.fa 56 1 1 fa56_1] rfl ?_
  refine ow_storeC (off := 1) [.int .i64 p0.Class_] [_, _] (i := 2) rfl rfl rfl rfl rfl rfl ty3 rfl rfl (by intro u hu; simp only [List.mem_cons, List.not_mem_nil, or_false] at hu; rcases hu with rfl <;> rfl) rfl rfl rfl kp ?_
  refine ow_nil ?_
  refine x_qs ?_
  refine c_seq ?_
  refine c_reg ?_
  refine ow_r rfl (dstOk_lt rfl) (ry_box (off := 0) (ds := [.slice a15 y10.length c17, .int .i64 p0.Class_]) rfl rfl ty56 (boxIn (i := 2) rfl) rfl rfl) ?_
  refine ow_storeC (off := 0) [.slice a15 y10.length c17, .int .i64 p0.Class_] [_, _] (i := 1) rfl rfl rfl rfl rfl rfl ty56 rfl rfl (by intro u hu; simp only [List.mem_cons, List.not_mem_nil, or_false] at hu; rcases hu with rfl | rfl <;> rfl) rfl rfl rfl kp ?_
  refine ow_nil ?_
  refine x_qs ?_
  refine c_ret ?_
  exact x_retR (rs := [.cell 2 56]) (vs := [.agg #[.slice a15 y10.length c17, .int .i64 p0.Class_]]) rfl ⟨⟨_, [.slice a15 y10.length c17, .int .i64 p0.Class_], _, _, _, rfl, ty56, (at_box (T := 56) 0 (boxIn (i := 1) rfl) rfl), rfl, rfl⟩, trivial⟩ (fun w' hw' => by
      obtain rfl := of_some H
      exact ⟨_, rfl, a15, y10.length, c17, F18, rfl, hw'.sel [3] rfl rfl⟩)

set_option maxHeartbeats 4000000 in
set_option maxRecDepth 100000 in
theorem laws_toEntry_ok (w : World) {M0 : List Nat} {p0 : Tlaws_Entry} {cs0 : List Value} {r : Timpl_Entry} (H : laws_toEntry p0 = some r) (HS : St w M0 [] w) (g0 : (eTlaws_Entry).rd w M0 p0 cs0) :
    Calls Try.prog 77 #[.agg cs0.toArray] w (fun en w' => ∃ v, en = .returned v ∧ ∃ (a0 : Option Addr), ∃ (n0 : Nat), ∃ (c0 : Nat), ∃ (F0 : List Nat), v = .agg #[.slice a0 n0 c0, .int .i64 r.Ex_.Class_, .int .i64 r.Weight_] ∧ St w M0 [Res.own (eList (eVal (Value.int .i64) (fun _ => rfl)) 3) F0 r.Ex_.Bins_ [.slice a0 n0 c0]] w') := by
  obtain ⟨c1, c2, rfl, g3, g4⟩ := rdo_Tlaws_Entry g0
  obtain ⟨c5, c6, rfl, g7, g8⟩ := rdo_Tlaws_Ex g3
  obtain ⟨a9, c10, rfl⟩ := rd_sl1 g7
  obtain rfl : c6 = [.int .i64 p0.Ex_.Class_] := g8
  obtain rfl : c2 = [.int .i64 p0.Weight_] := g4
  unfold laws_toEntry at H
  refine f_enter (vs := [.agg #[.slice a9 p0.Ex_.Bins_.length c10, .int .i64 p0.Ex_.Class_, .int .i64 p0.Weight_]]) Try.func77 rfl Try.ntmps77 rfl (HS) ?_
  refine c_seq ?_
  refine c_reg ?_
  refine ow_box (cs := [.slice a9 p0.Ex_.Bins_.length c10, .int .i64 p0.Ex_.Class_, .int .i64 p0.Weight_]) rfl rfl rfl rfl rfl rfl (fun _ => kp) (fun b11 => ?_)
  refine ow_alloc rfl rfl rfl rfl ty111 (fun _ => kp) (fun b12 => ?_)
  refine ow_nil ?_
  refine x_qs ?_
  refine c_seq ?_
  refine c_reg ?_
  refine ow_alloc rfl rfl rfl rfl ty111 (fun _ => kp) (fun b13 => ?_)
  refine ow_nil ?_
  refine x_qs ?_
  refine c_seq ?_
  refine c_reg ?_
  refine ow_batch [.fa 109 0 0 fa109_0] rfl ?_
  refine ow_r rfl (dstOk_lt rfl) (ry_box (off := 0) (ds := [.slice a9 p0.Ex_.Bins_.length c10, .int .i64 p0.Ex_.Class_]) rfl rfl ty53 (boxIn (i := 0) rfl) rfl rfl) ?_
  obtain ⟨y14, h15, H⟩ := of_bind H
  refine ow_callS rfl fn30 rfl rfl rfl rfl (fun w1 hw1 => laws_toEx_ok w1 (cs0 := [.slice a9 p0.Ex_.Bins_.length c10, .int .i64 p0.Ex_.Class_]) h15 (hw1.carve [] rfl rfl) (rdm_Tlaws_Ex (x := p0.Ex_) (c0 := [.slice a9 p0.Ex_.Bins_.length c10]) (c1 := [.int .i64 p0.Ex_.Class_]) (rds_bor g7 w1 hw1) rfl)) (fun v16 w1 w2 hw1 hR18 => ?_)
  obtain ⟨a19, n20, c21, F22, rfl, hS17⟩ := hR18
  obtain rfl := own_nS (i := 0) hS17 rfl
  refine ⟨St w M0 [_, _, _, _], hw1.comp [] rfl rfl hS17, fun _ _ => trivial, ?_⟩
  refine ow_batch [.fa 111 0 0 fa111_0] rfl ?_
  refine ow_storeC (off := 0) [.slice a19 y14.Bins_.length c21, .int .i64 y14.Class_] [_, _, _] (i := 2) rfl rfl rfl rfl rfl rfl ty56 rfl rfl (by intro u hu; simp only [List.mem_cons, List.not_mem_nil, or_false] at hu; rcases hu with rfl | rfl <;> rfl) rfl rfl rfl kp ?_
  refine ow_nil ?_
  refine x_qs ?_
  refine c_seq ?_
  refine c_reg ?_
  refine ow_batch [.fa 109 1 2 fa109_1] rfl ?_
  refine ow_r rfl (dstOk_lt rfl) (ry_box1 (off := 2) rfl rfl ty3 (boxIn (i := 0) rfl) rfl) ?_
  refine ow_batch [.fa 111 1 2 fa111_1] rfl ?_
  refine ow_storeC (off := 2) [.int .i64 p0.Weight_] [_, _, _] (i := 2) rfl rfl rfl rfl rfl rfl ty3 rfl rfl (by intro u hu; simp only [List.mem_cons, List.not_mem_nil, or_false] at hu; rcases hu with rfl <;> rfl) rfl rfl rfl kp ?_
  refine ow_nil ?_
  refine x_qs ?_
  refine c_seq ?_
  refine c_reg ?_
  refine ow_r rfl (dstOk_lt rfl) (ry_box (off := 0) (ds := [.slice a19 y14.Bins_.length c21, .int .i64 y14.Class_, .int .i64 p0.Weight_]) rfl rfl ty111 (boxIn (i := 2) rfl) rfl rfl) ?_
  refine ow_storeC (off := 0) [.slice a19 y14.Bins_.length c21, .int .i64 y14.Class_, .int .i64 p0.Weight_] [_, _, _] (i := 1) rfl rfl rfl rfl rfl rfl ty111 rfl rfl (by intro u hu; simp only [List.mem_cons, List.not_mem_nil, or_false] at hu; rcases hu with rfl | rfl | rfl <;> rfl) rfl rfl rfl kp ?_
  refine ow_nil ?_
  refine x_qs ?_
  refine c_ret ?_
  exact x_retR (rs := [.cell 2 111]) (vs := [.agg #[.slice a19 y14.Bins_.length c21, .int .i64 y14.Class_, .int .i64 p0.Weight_]]) rfl ⟨⟨_, [.slice a19 y14.Bins_.length c21, .int .i64 y14.Class_, .int .i64 p0.Weight_], _, _, _, rfl, ty111, (at_box (T := 111) 0 (boxIn (i := 1) rfl) rfl), rfl, rfl⟩, trivial⟩ (fun w' hw' => by
      obtain rfl := of_some H
      exact ⟨_, rfl, a19, y14.Bins_.length, c21, F22, rfl, hw'.sel [3] rfl rfl⟩)

set_option maxHeartbeats 4000000 in
set_option maxRecDepth 100000 in
theorem laws_toEntryS_ok (w : World) {M0 : List Nat} {p0 : List Tlaws_Entry} {a_0 : Option Addr} {n_0 c_0 : Nat} {r : List Timpl_Entry} (H : laws_toEntryS p0 = some r) (HS : St w M0 [] w) (g0 : (eList (eTlaws_Entry) 109).rd w M0 p0 [.slice a_0 n_0 c_0]) :
    Calls Try.prog 35 #[.slice a_0 n_0 c_0] w (fun en w' => ∃ v, en = .returned v ∧ ∃ (a0 : Option Addr), ∃ (n0 : Nat), ∃ (c0 : Nat), ∃ (F0 : List Nat), v = .slice a0 n0 c0 ∧ St w M0 [Res.own (eList (eTimpl_Entry) 111) F0 r [.slice a0 n0 c0]] w') := by
  obtain rfl := rd_n g0
  unfold laws_toEntryS at H
  refine f_enter (vs := [.slice a_0 p0.length c_0]) Try.func35 rfl Try.ntmps35 rfl (HS) ?_
  refine c_seq ?_
  refine c_reg ?_
  refine ow_batch [.p] rfl ?_
  refine ow_nil ?_
  refine x_qs ?_
  refine c_seq ?_
  refine c_reg ?_
  refine ow_batch [.p, .lenS 60 109 sl60] rfl ?_
  obtain ⟨l1, h2, H⟩ := of_bind H
  refine ow_make (e := eTimpl_Entry) (zero := ((Timpl_Entry.mk (Timpl_Ex.mk [] 0) 0) : Timpl_Entry)) rfl rfl rfl rfl rfl rfl sl63 ty111 rfl rfl rfl rfl (fun _ => (ownm_Timpl_Entry (x := (Timpl_Entry.mk (Timpl_Ex.mk [] 0) 0)) ((ownm_Timpl_Ex (x := (Timpl_Ex.mk [] 0)) ((.inl ⟨rfl, rfl, rfl⟩) : (eList (eVal (Value.int .i64) (fun _ => rfl)) 3).own _ [] ([] : List Int) _) (⟨rfl, rfl⟩ : (eVal (Value.int .i64) (fun _ => rfl)).own _ [] (0 : Int) _)) : (eTimpl_Ex).own _ [] ((Timpl_Ex.mk [] 0) : Timpl_Ex) _) (⟨rfl, rfl⟩ : (eVal (Value.int .i64) (fun _ => rfl)).own _ [] (0 : Int) _))) h2 (fun _ => kp) (fun b3 => ?_)
  refine ow_batch [.p] rfl ?_
  refine ow_nil ?_
  refine x_qs ?_
  refine c_seq ?_
  refine c_seq ?_
  refine c_reg ?_
  refine ow_batch [.p] rfl ?_
  refine ow_nil ?_
  refine x_qs ?_
  refine c_block ?_
  refine CW.at (loopI3 (fun (l47 : List Timpl_Entry) (F48 : List Nat) (i49 : Int) => St w M0 [Res.own (eList (eTimpl_Entry) 111) F48 l47 [.slice (some ⟨b3, 0, none⟩) l1.length l1.length]]) (fun (l47 : List Timpl_Entry) (F48 : List Nat) (i49 : Int) => [(0, .slice a_0 p0.length c_0), (3, .slice (some ⟨b3, 0, none⟩) l1.length l1.length), (4, .int .i64 i49)]) (fun kk => fun (l47 : List Timpl_Entry) (F48 : List Nat) (i49 : Int) => laws_toEntryS_L1 p0 kk l47 i49 = some r) (fun _ _ _ H => ?_) (fun k1 ihk1 l47 F48 i49 H => ?_) Fuel (l1) ([b3]) (0) (H)) (fun _ h => St.sel [0] rfl rfl h) ⟨rfl, rfl, rfl,  trivial⟩
  · unfold laws_toEntryS_L1 at H
    exact absurd H (by simp)
  · unfold laws_toEntryS_L1 at H
    refine c_seq ?_
    refine c_seq ?_
    refine c_reg ?_
    refine ow_batch [.p, .p, .lenS 60 109 sl60, .p] rfl ?_
    refine ow_nil ?_
    refine x_qs ?_
    refine c_if rfl (fun hb => ?_) (fun hb => ?_)
    · have H := of_if_t hb H
      refine c_skip ?_
      refine x_qs ?_
      refine c_seq ?_
      refine c_block ?_
      refine c_reg ?_
      refine ow_batch [.p, .p, .p, .p] rfl ?_
      obtain ⟨e93, h94, H⟩ := of_bind H
      refine ow_ixB rfl rfl rfl rfl rfl sl60 ty109 rfl g0 h94 (fun q97 c98 hd95 hA96 => ?_)
      obtain ⟨c99, c100, rfl, g101, g102⟩ := rdo_Tlaws_Entry hd95
      obtain ⟨c103, c104, rfl, g105, g106⟩ := rdo_Tlaws_Ex g101
      obtain ⟨a107, c108, rfl⟩ := rd_sl1 g105
      obtain rfl : c104 = [.int .i64 e93.Ex_.Class_] := g106
      obtain rfl : c100 = [.int .i64 e93.Weight_] := g102
      refine ow_r rfl (dstOk_lt rfl) (ry_load (cs := [.slice a107 e93.Ex_.Bins_.length c108, .int .i64 e93.Ex_.Class_, .int .i64 e93.Weight_]) rfl rfl ty109 (at_bor bor hA96) rfl) ?_
      obtain ⟨y109, h110, H⟩ := of_bind H
      refine ow_callS rfl fn77 rfl rfl rfl rfl (fun w1 hw1 => laws_toEntry_ok w1 (cs0 := [.slice a107 e93.Ex_.Bins_.length c108, .int .i64 e93.Ex_.Class_, .int .i64 e93.Weight_]) h110 (hw1.carve [] rfl rfl) (rdm_Tlaws_Entry (x := e93) (c0 := [.slice a107 e93.Ex_.Bins_.length c108, .int .i64 e93.Ex_.Class_]) (c1 := [.int .i64 e93.Weight_]) (rdm_Tlaws_Ex (x := e93.Ex_) (c0 := [.slice a107 e93.Ex_.Bins_.length c108]) (c1 := [.int .i64 e93.Ex_.Class_]) (rds_bor g105 w1 hw1) rfl) rfl)) (fun v111 w1 w2 hw1 hR113 => ?_)
      obtain ⟨a114, n115, c116, F117, rfl, hS112⟩ := hR113
      obtain rfl := own_nS (i := 0) hS112 rfl
      refine ⟨St w M0 [_, _], hw1.comp [] rfl rfl hS112, fun _ _ => trivial, ?_⟩
      obtain ⟨e118, h119, H⟩ := of_bind H
      refine ow_ex4 rfl (fun w1 hw1 => foc (r := 0) hw1 rfl h119) (fun b121 G122 F123 c124 => ?_)
      refine ow_fact rfl (fun w1 hw1 => hw1.1) (fun q120 => ?_)
      obtain ⟨ha125, hn126⟩ := q120
      refine ow_st (C' := St w M0 [_, _, _, _]) rfl (fun w1 hw1 => hw1.2) ?_
      refine ow_ex3 rfl (fun w1 hw1 => opn_Timpl_Entry (i := 3) hw1 rfl) (fun a128 c129 F130 => ?_)
      refine ow_fact rfl (fun w1 hw1 => hw1.1) (fun q127 => ?_)
      subst q127
      refine ow_st (C' := St w M0 [_, _, _, _, _]) rfl (fun w1 hw1 => hw1.2) ?_
      refine ow_ixH rfl rfl rfl rfl rfl sl63 ty111 rfl (holeIn (p := 2) rfl) hn126 ha125 (idx_some h119).1 ?_
      refine ow_storeH (off := 0) [.slice a114 y109.Ex_.Bins_.length c116, .int .i64 y109.Ex_.Class_, .int .i64 y109.Weight_] (p := 2) (c' := [_, _, _]) rfl rfl rfl rfl rfl (by first | rfl | simp only [add_lit, add_add, add_zero]) rfl ty111 rfl rfl (by intro u hu; simp only [List.mem_cons, List.not_mem_nil, or_false] at hu; rcases hu with rfl | rfl | rfl <;> rfl) rfl rfl rfl kp ?_
      refine ow_nil ?_
      refine x_qb ?_
      refine x_qs ?_
      refine CW.weak (C' := St w M0 [_, _, _]) ?_ (fun _ h => St.sel [1, 2, 4] rfl rfl h)
      refine c_reg ?_
      refine ow_batch [.p, .p, .p] rfl ?_
      refine ow_nil ?_
      refine xw_ex (fun w1 hw1 => fus_Timpl_Entry (x1 := y109.Ex_.Class_) (x2 := y109.Weight_) [0] hw1 rfl rfl) (fun F131 => ?_)
      refine xw_st (C' := St w M0 [_, _, _, _]) (fun _ h => h) ?_
      refine xw_ex (fun w1 hw1 => unf (p := 1) (q := 3) hw1 rfl rfl rfl hn126 ha125) (fun F132 => ?_)
      refine xw_st (C' := St w M0 [_, _, _, _, _]) (fun _ h => h) ?_
      exact x_ql (RW.at (ihk1 ((l47.set i49.toNat y109)) (F132) (IntKind.i64.wrap (i49 + 1)) (H)) (fun _ h => St.sel [4] rfl rfl h) ⟨rfl, rfl, rfl, trivial⟩)
    · have H := of_if_f hb H
      refine c_exit ?_
      refine x_qs_exit ?_
      refine x_ql_exit ?_
      refine x_qb_here ?_
      refine x_qs ?_
      refine c_seq ?_
      refine c_reg ?_
      refine ow_batch [.p, .p] rfl ?_
      refine ow_nil ?_
      refine x_qs ?_
      refine c_ret ?_
      exact x_retR (rs := [.tmp 2]) (vs := [.slice (some ⟨b3, 0, none⟩) l1.length l1.length]) rfl ⟨rfl, trivial⟩ (fun w' hw' => by
          obtain rfl := of_some H
          exact ⟨_, rfl, (some ⟨b3, 0, none⟩), l1.length, l1.length, F48, rfl, hw'.sel [0] rfl rfl⟩)

set_option maxHeartbeats 4000000 in
set_option maxRecDepth 100000 in
theorem laws_toPast_ok (w : World) {M0 : List Nat} {p0 : Tlaws_Past} {cs0 : List Value} {r : Timpl_Past} (H : laws_toPast p0 = some r) (HS : St w M0 [] w) (g0 : (eTlaws_Past).rd w M0 p0 cs0) :
    Calls Try.prog 85 #[.agg cs0.toArray] w (fun en w' => ∃ v, en = .returned v ∧ ∃ (a0 : Option Addr), ∃ (n0 : Nat), ∃ (c0 : Nat), ∃ (F0 : List Nat), ∃ (a1 : Option Addr), ∃ (n1 : Nat), ∃ (c1 : Nat), ∃ (F1 : List Nat), ∃ (a2 : Option Addr), ∃ (n2 : Nat), ∃ (c2 : Nat), ∃ (F2 : List Nat), v = .agg #[.slice a0 n0 c0, .slice a1 n1 c1, .slice a2 n2 c2] ∧ St w M0 [Res.own (eList (eTimpl_Entry) 111) F0 r.Tree_ [.slice a0 n0 c0], Res.own (eList (eTimpl_Entry) 111) F1 r.Young_ [.slice a1 n1 c1], Res.own (eList (eVal (Value.int .i64) (fun _ => rfl)) 3) F2 r.Bits_ [.slice a2 n2 c2]] w') := by
  obtain ⟨c1, c2, c3, rfl, g4, g5, g6⟩ := rdo_Tlaws_Past g0
  obtain ⟨a7, c8, rfl⟩ := rd_sl1 g4
  obtain ⟨a9, c10, rfl⟩ := rd_sl1 g5
  obtain ⟨a11, c12, rfl⟩ := rd_sl1 g6
  unfold laws_toPast at H
  refine f_enter (vs := [.agg #[.slice a7 p0.Tree_.length c8, .slice a9 p0.Young_.length c10, .slice a11 p0.Bits_.length c12]]) Try.func85 rfl Try.ntmps85 rfl (HS) ?_
  refine c_seq ?_
  refine c_reg ?_
  refine ow_box (cs := [.slice a7 p0.Tree_.length c8, .slice a9 p0.Young_.length c10, .slice a11 p0.Bits_.length c12]) rfl rfl rfl rfl rfl rfl (fun _ => kp) (fun b13 => ?_)
  refine ow_alloc rfl rfl rfl rfl ty120 (fun _ => kp) (fun b14 => ?_)
  refine ow_nil ?_
  refine x_qs ?_
  refine c_seq ?_
  refine c_reg ?_
  refine ow_alloc rfl rfl rfl rfl ty120 (fun _ => kp) (fun b15 => ?_)
  refine ow_nil ?_
  refine x_qs ?_
  refine c_seq ?_
  refine c_reg ?_
  refine ow_batch [.fa 118 0 0 fa118_0] rfl ?_
  refine ow_r rfl (dstOk_lt rfl) (ry_box1 (off := 0) rfl rfl ty60 (boxIn (i := 0) rfl) rfl) ?_
  obtain ⟨y16, h17, H⟩ := of_bind H
  refine ow_callS rfl fn35 rfl rfl rfl rfl (fun w1 hw1 => laws_toEntryS_ok w1  h17 (hw1.carve [] rfl rfl) (rds_bor g4 w1 hw1)) (fun v18 w1 w2 hw1 hR20 => ?_)
  obtain ⟨a21, n22, c23, F24, rfl, hS19⟩ := hR20
  obtain rfl := own_nS (i := 0) hS19 rfl
  refine ⟨St w M0 [_, _, _, _], hw1.comp [] rfl rfl hS19, fun _ _ => trivial, ?_⟩
  refine ow_batch [.fa 120 0 0 fa120_0] rfl ?_
  refine ow_storeC (off := 0) [.slice a21 y16.length c23] [_, _, _] (i := 2) rfl rfl rfl rfl rfl rfl ty63 rfl rfl (by intro u hu; simp only [List.mem_cons, List.not_mem_nil, or_false] at hu; rcases hu with rfl <;> rfl) rfl rfl rfl kp ?_
  refine ow_nil ?_
  refine x_qs ?_
  refine c_seq ?_
  refine c_reg ?_
  refine ow_batch [.fa 118 1 1 fa118_1] rfl ?_
  refine ow_r rfl (dstOk_lt rfl) (ry_box1 (off := 1) rfl rfl ty60 (boxIn (i := 0) rfl) rfl) ?_
  obtain ⟨y25, h26, H⟩ := of_bind H
  refine ow_callS rfl fn35 rfl rfl rfl rfl (fun w1 hw1 => laws_toEntryS_ok w1  h26 (hw1.carve [] rfl rfl) (rds_bor g5 w1 hw1)) (fun v27 w1 w2 hw1 hR29 => ?_)
  obtain ⟨a30, n31, c32, F33, rfl, hS28⟩ := hR29
  obtain rfl := own_nS (i := 0) hS28 rfl
  refine ⟨St w M0 [_, _, _, _, _], hw1.comp [] rfl rfl hS28, fun _ _ => trivial, ?_⟩
  refine ow_batch [.fa 120 1 1 fa120_1] rfl ?_
  refine ow_storeC (off := 1) [.slice a30 y25.length c32] [_, _, _] (i := 2) rfl rfl rfl rfl rfl rfl ty63 rfl rfl (by intro u hu; simp only [List.mem_cons, List.not_mem_nil, or_false] at hu; rcases hu with rfl <;> rfl) rfl rfl rfl kp ?_
  refine ow_nil ?_
  refine x_qs ?_
  refine c_seq ?_
  refine c_reg ?_
  refine ow_batch [.fa 118 2 2 fa118_2] rfl ?_
  refine ow_r rfl (dstOk_lt rfl) (ry_box1 (off := 2) rfl rfl ty22 (boxIn (i := 0) rfl) rfl) ?_
  obtain ⟨y34, h35, H⟩ := of_bind H
  refine ow_callS rfl fn60 rfl rfl rfl rfl (fun w1 hw1 => laws_toIntS_ok w1  h35 (hw1.carve [] rfl rfl) (rds_bor g6 w1 hw1)) (fun v36 w1 w2 hw1 hR38 => ?_)
  obtain ⟨a39, n40, c41, F42, rfl, hS37⟩ := hR38
  obtain rfl := own_nS (i := 0) hS37 rfl
  refine ⟨St w M0 [_, _, _, _, _, _], hw1.comp [] rfl rfl hS37, fun _ _ => trivial, ?_⟩
  refine ow_batch [.fa 120 2 2 fa120_2] rfl ?_
  refine ow_storeC (off := 2) [.slice a39 y34.length c41] [_, _, _] (i := 2) rfl rfl rfl rfl rfl rfl ty22 rfl rfl (by intro u hu; simp only [List.mem_cons, List.not_mem_nil, or_false] at hu; rcases hu with rfl <;> rfl) rfl rfl rfl kp ?_
  refine ow_nil ?_
  refine x_qs ?_
  refine c_seq ?_
  refine c_reg ?_
  refine ow_r rfl (dstOk_lt rfl) (ry_box (off := 0) (ds := [.slice a21 y16.length c23, .slice a30 y25.length c32, .slice a39 y34.length c41]) rfl rfl ty120 (boxIn (i := 2) rfl) rfl rfl) ?_
  refine ow_storeC (off := 0) [.slice a21 y16.length c23, .slice a30 y25.length c32, .slice a39 y34.length c41] [_, _, _] (i := 1) rfl rfl rfl rfl rfl rfl ty120 rfl rfl (by intro u hu; simp only [List.mem_cons, List.not_mem_nil, or_false] at hu; rcases hu with rfl | rfl | rfl <;> rfl) rfl rfl rfl kp ?_
  refine ow_nil ?_
  refine x_qs ?_
  refine c_ret ?_
  exact x_retR (rs := [.cell 2 120]) (vs := [.agg #[.slice a21 y16.length c23, .slice a30 y25.length c32, .slice a39 y34.length c41]]) rfl ⟨⟨_, [.slice a21 y16.length c23, .slice a30 y25.length c32, .slice a39 y34.length c41], _, _, _, rfl, ty120, (at_box (T := 120) 0 (boxIn (i := 1) rfl) rfl), rfl, rfl⟩, trivial⟩ (fun w' hw' => by
      obtain rfl := of_some H
      exact ⟨_, rfl, a21, y16.length, c23, F24, a30, y25.length, c32, F33, a39, y34.length, c41, F42, rfl, hw'.sel [3, 4, 5] rfl rfl⟩)

set_option maxHeartbeats 4000000 in
set_option maxRecDepth 100000 in
theorem laws_toPastS_ok (w : World) {M0 : List Nat} {p0 : List Tlaws_Past} {a_0 : Option Addr} {n_0 c_0 : Nat} {r : List Timpl_Past} (H : laws_toPastS p0 = some r) (HS : St w M0 [] w) (g0 : (eList (eTlaws_Past) 118).rd w M0 p0 [.slice a_0 n_0 c_0]) :
    Calls Try.prog 41 #[.slice a_0 n_0 c_0] w (fun en w' => ∃ v, en = .returned v ∧ ∃ (a0 : Option Addr), ∃ (n0 : Nat), ∃ (c0 : Nat), ∃ (F0 : List Nat), v = .slice a0 n0 c0 ∧ St w M0 [Res.own (eList (eTimpl_Past) 120) F0 r [.slice a0 n0 c0]] w') := by
  obtain rfl := rd_n g0
  unfold laws_toPastS at H
  refine f_enter (vs := [.slice a_0 p0.length c_0]) Try.func41 rfl Try.ntmps41 rfl (HS) ?_
  refine c_seq ?_
  refine c_reg ?_
  refine ow_batch [.p] rfl ?_
  refine ow_nil ?_
  refine x_qs ?_
  refine c_seq ?_
  refine c_reg ?_
  refine ow_batch [.p, .lenS 67 118 sl67] rfl ?_
  obtain ⟨l1, h2, H⟩ := of_bind H
  refine ow_make (e := eTimpl_Past) (zero := ((Timpl_Past.mk [] [] []) : Timpl_Past)) rfl rfl rfl rfl rfl rfl sl71 ty120 rfl rfl rfl rfl (fun _ => (ownm_Timpl_Past (x := (Timpl_Past.mk [] [] [])) ((.inl ⟨rfl, rfl, rfl⟩) : (eList (eTimpl_Entry) 111).own _ [] ([] : List Timpl_Entry) _) ((.inl ⟨rfl, rfl, rfl⟩) : (eList (eTimpl_Entry) 111).own _ [] ([] : List Timpl_Entry) _) ((.inl ⟨rfl, rfl, rfl⟩) : (eList (eVal (Value.int .i64) (fun _ => rfl)) 3).own _ [] ([] : List Int) _))) h2 (fun _ => kp) (fun b3 => ?_)
  refine ow_batch [.p] rfl ?_
  refine ow_nil ?_
  refine x_qs ?_
  refine c_seq ?_
  refine c_seq ?_
  refine c_reg ?_
  refine ow_batch [.p] rfl ?_
  refine ow_nil ?_
  refine x_qs ?_
  refine c_block ?_
  refine CW.at (loopI3 (fun (l63 : List Timpl_Past) (F64 : List Nat) (i65 : Int) => St w M0 [Res.own (eList (eTimpl_Past) 120) F64 l63 [.slice (some ⟨b3, 0, none⟩) l1.length l1.length]]) (fun (l63 : List Timpl_Past) (F64 : List Nat) (i65 : Int) => [(0, .slice a_0 p0.length c_0), (3, .slice (some ⟨b3, 0, none⟩) l1.length l1.length), (4, .int .i64 i65)]) (fun kk => fun (l63 : List Timpl_Past) (F64 : List Nat) (i65 : Int) => laws_toPastS_L1 p0 kk l63 i65 = some r) (fun _ _ _ H => ?_) (fun k1 ihk1 l63 F64 i65 H => ?_) Fuel (l1) ([b3]) (0) (H)) (fun _ h => St.sel [0] rfl rfl h) ⟨rfl, rfl, rfl,  trivial⟩
  · unfold laws_toPastS_L1 at H
    exact absurd H (by simp)
  · unfold laws_toPastS_L1 at H
    refine c_seq ?_
    refine c_seq ?_
    refine c_reg ?_
    refine ow_batch [.p, .p, .lenS 67 118 sl67, .p] rfl ?_
    refine ow_nil ?_
    refine x_qs ?_
    refine c_if rfl (fun hb => ?_) (fun hb => ?_)
    · have H := of_if_t hb H
      refine c_skip ?_
      refine x_qs ?_
      refine c_seq ?_
      refine c_block ?_
      refine c_reg ?_
      refine ow_batch [.p, .p, .p, .p] rfl ?_
      obtain ⟨e125, h126, H⟩ := of_bind H
      refine ow_ixB rfl rfl rfl rfl rfl sl67 ty118 rfl g0 h126 (fun q129 c130 hd127 hA128 => ?_)
      obtain ⟨c131, c132, c133, rfl, g134, g135, g136⟩ := rdo_Tlaws_Past hd127
      obtain ⟨a137, c138, rfl⟩ := rd_sl1 g134
      obtain ⟨a139, c140, rfl⟩ := rd_sl1 g135
      obtain ⟨a141, c142, rfl⟩ := rd_sl1 g136
      refine ow_r rfl (dstOk_lt rfl) (ry_load (cs := [.slice a137 e125.Tree_.length c138, .slice a139 e125.Young_.length c140, .slice a141 e125.Bits_.length c142]) rfl rfl ty118 (at_bor bor hA128) rfl) ?_
      obtain ⟨y143, h144, H⟩ := of_bind H
      refine ow_callS rfl fn85 rfl rfl rfl rfl (fun w1 hw1 => laws_toPast_ok w1 (cs0 := [.slice a137 e125.Tree_.length c138, .slice a139 e125.Young_.length c140, .slice a141 e125.Bits_.length c142]) h144 (hw1.carve [] rfl rfl) (rdm_Tlaws_Past (x := e125) (c0 := [.slice a137 e125.Tree_.length c138]) (c1 := [.slice a139 e125.Young_.length c140]) (c2 := [.slice a141 e125.Bits_.length c142]) (rds_bor g134 w1 hw1) (rds_bor g135 w1 hw1) (rds_bor g136 w1 hw1))) (fun v145 w1 w2 hw1 hR147 => ?_)
      obtain ⟨a148, n149, c150, F151, a152, n153, c154, F155, a156, n157, c158, F159, rfl, hS146⟩ := hR147
      obtain rfl := own_nS (i := 0) hS146 rfl
      obtain rfl := own_nS (i := 1) hS146 rfl
      obtain rfl := own_nS (i := 2) hS146 rfl
      refine ⟨St w M0 [_, _, _, _], hw1.comp [] rfl rfl hS146, fun _ _ => trivial, ?_⟩
      obtain ⟨e160, h161, H⟩ := of_bind H
      refine ow_ex4 rfl (fun w1 hw1 => foc (r := 0) hw1 rfl h161) (fun b163 G164 F165 c166 => ?_)
      refine ow_fact rfl (fun w1 hw1 => hw1.1) (fun q162 => ?_)
      obtain ⟨ha167, hn168⟩ := q162
      refine ow_st (C' := St w M0 [_, _, _, _, _, _]) rfl (fun w1 hw1 => hw1.2) ?_
      refine ow_ex3 rfl (fun w1 hw1 => opn_Timpl_Past (i := 5) hw1 rfl) (fun a170 c171 F172 => ?_)
      refine ow_ex3 rfl (fun _ h => h) (fun a173 c174 F175 => ?_)
      refine ow_ex3 rfl (fun _ h => h) (fun a176 c177 F178 => ?_)
      refine ow_fact rfl (fun w1 hw1 => hw1.1) (fun q169 => ?_)
      subst q169
      refine ow_st (C' := St w M0 [_, _, _, _, _, _, _, _, _]) rfl (fun w1 hw1 => hw1.2) ?_
      refine ow_ixH rfl rfl rfl rfl rfl sl71 ty120 rfl (holeIn (p := 4) rfl) hn168 ha167 (idx_some h161).1 ?_
      refine ow_storeH (off := 0) [.slice a148 y143.Tree_.length c150, .slice a152 y143.Young_.length c154, .slice a156 y143.Bits_.length c158] (p := 4) (c' := [_, _, _]) rfl rfl rfl rfl rfl (by first | rfl | simp only [add_lit, add_add, add_zero]) rfl ty120 rfl rfl (by intro u hu; simp only [List.mem_cons, List.not_mem_nil, or_false] at hu; rcases hu with rfl | rfl | rfl <;> rfl) rfl rfl rfl kp ?_
      refine ow_nil ?_
      refine x_qb ?_
      refine x_qs ?_
      refine CW.weak (C' := St w M0 [_, _, _, _, _, _, _]) ?_ (fun _ h => St.sel [1, 2, 3, 4, 6, 7, 8] rfl rfl h)
      refine c_reg ?_
      refine ow_batch [.p, .p, .p] rfl ?_
      refine ow_nil ?_
      refine xw_ex (fun w1 hw1 => fus_Timpl_Past  [0, 1, 2] hw1 rfl rfl) (fun F179 => ?_)
      refine xw_st (C' := St w M0 [_, _, _, _, _, _, _, _]) (fun _ h => h) ?_
      refine xw_ex (fun w1 hw1 => unf (p := 3) (q := 7) hw1 rfl rfl rfl hn168 ha167) (fun F180 => ?_)
      refine xw_st (C' := St w M0 [_, _, _, _, _, _, _, _, _]) (fun _ h => h) ?_
      exact x_ql (RW.at (ihk1 ((l63.set i65.toNat y143)) (F180) (IntKind.i64.wrap (i65 + 1)) (H)) (fun _ h => St.sel [8] rfl rfl h) ⟨rfl, rfl, rfl, trivial⟩)
    · have H := of_if_f hb H
      refine c_exit ?_
      refine x_qs_exit ?_
      refine x_ql_exit ?_
      refine x_qb_here ?_
      refine x_qs ?_
      refine c_seq ?_
      refine c_reg ?_
      refine ow_batch [.p, .p] rfl ?_
      refine ow_nil ?_
      refine x_qs ?_
      refine c_ret ?_
      exact x_retR (rs := [.tmp 2]) (vs := [.slice (some ⟨b3, 0, none⟩) l1.length l1.length]) rfl ⟨rfl, trivial⟩ (fun w' hw' => by
          obtain rfl := of_some H
          exact ⟨_, rfl, (some ⟨b3, 0, none⟩), l1.length, l1.length, F64, rfl, hw'.sel [0] rfl rfl⟩)

set_option maxHeartbeats 4000000 in
set_option maxRecDepth 100000 in
theorem laws_toStep_ok (w : World) {p0 : Tlaws_Step}  {r : Timpl_Step} (H : laws_toStep p0 = some r)   :
    Calls Try.prog 86 #[.agg #[.int .i64 p0.Said_, .int .i64 p0.Bit_, .int .i64 p0.Weight_, .int .i64 p0.Grow_, .int .i64 p0.Young_, .int .i64 p0.Det_, .bool p0.Began_, .bool p0.Swapped_]] w (fun en w' => en = .returned (.agg #[.int .i64 r.Said_, .int .i64 r.Bit_, .int .i64 r.Weight_, .int .i64 r.Grow_, .int .i64 r.Young_, .int .i64 r.Det_, .bool r.Began_, .bool r.Swapped_]) ∧ Ext [] w w') := by
  unfold laws_toStep at H
  refine f_enter (vs := [.agg #[.int .i64 p0.Said_, .int .i64 p0.Bit_, .int .i64 p0.Weight_, .int .i64 p0.Grow_, .int .i64 p0.Young_, .int .i64 p0.Det_, .bool p0.Began_, .bool p0.Swapped_]]) Try.func86 rfl Try.ntmps86 rfl (St.init w []) ?_
  refine c_seq ?_
  refine c_reg ?_
  refine ow_box (cs := [.int .i64 p0.Said_, .int .i64 p0.Bit_, .int .i64 p0.Weight_, .int .i64 p0.Grow_, .int .i64 p0.Young_, .int .i64 p0.Det_, .bool p0.Began_, .bool p0.Swapped_]) rfl rfl rfl rfl rfl rfl (fun _ => kp) (fun b1 => ?_)
  refine ow_alloc rfl rfl rfl rfl ty123 (fun _ => kp) (fun b2 => ?_)
  refine ow_nil ?_
  refine x_qs ?_
  refine c_seq ?_
  refine c_reg ?_
  refine ow_alloc rfl rfl rfl rfl ty123 (fun _ => kp) (fun b3 => ?_)
  refine ow_nil ?_
  refine x_qs ?_
  refine c_seq ?_
  refine c_reg ?_
  refine ow_batch [.fa 128 0 0 fa128_0] rfl ?_
  refine ow_r rfl (dstOk_lt rfl) (ry_box1 (off := 0) rfl rfl ty3 (boxIn (i := 0) rfl) rfl) ?_
  refine ow_batch [.fa 123 0 0 fa123_0] rfl ?_
  refine ow_storeC (off := 0) [.int .i64 p0.Said_] [_, _, _, _, _, _, _, _] (i := 2) rfl rfl rfl rfl rfl rfl ty3 rfl rfl (by intro u hu; simp only [List.mem_cons, List.not_mem_nil, or_false] at hu; rcases hu with rfl <;> rfl) rfl rfl rfl kp ?_
  refine ow_nil ?_
  refine x_qs ?_
  refine c_seq ?_
  refine c_reg ?_
  refine ow_batch [.fa 128 1 1 fa128_1] rfl ?_
  refine ow_r rfl (dstOk_lt rfl) (ry_box1 (off := 1) rfl rfl ty3 (boxIn (i := 0) rfl) rfl) ?_
  refine ow_batch [.fa 123 1 1 fa123_1] rfl ?_
  refine ow_storeC (off := 1) [.int .i64 p0.Bit_] [_, _, _, _, _, _, _, _] (i := 2) rfl rfl rfl rfl rfl rfl ty3 rfl rfl (by intro u hu; simp only [List.mem_cons, List.not_mem_nil, or_false] at hu; rcases hu with rfl <;> rfl) rfl rfl rfl kp ?_
  refine ow_nil ?_
  refine x_qs ?_
  refine c_seq ?_
  refine c_reg ?_
  refine ow_batch [.fa 128 2 2 fa128_2] rfl ?_
  refine ow_r rfl (dstOk_lt rfl) (ry_box1 (off := 2) rfl rfl ty3 (boxIn (i := 0) rfl) rfl) ?_
  refine ow_batch [.fa 123 2 2 fa123_2] rfl ?_
  refine ow_storeC (off := 2) [.int .i64 p0.Weight_] [_, _, _, _, _, _, _, _] (i := 2) rfl rfl rfl rfl rfl rfl ty3 rfl rfl (by intro u hu; simp only [List.mem_cons, List.not_mem_nil, or_false] at hu; rcases hu with rfl <;> rfl) rfl rfl rfl kp ?_
  refine ow_nil ?_
  refine x_qs ?_
  refine c_seq ?_
  refine c_reg ?_
  refine ow_batch [.fa 128 3 3 fa128_3] rfl ?_
  refine ow_r rfl (dstOk_lt rfl) (ry_box1 (off := 3) rfl rfl ty3 (boxIn (i := 0) rfl) rfl) ?_
  refine ow_batch [.fa 123 3 3 fa123_3] rfl ?_
  refine ow_storeC (off := 3) [.int .i64 p0.Grow_] [_, _, _, _, _, _, _, _] (i := 2) rfl rfl rfl rfl rfl rfl ty3 rfl rfl (by intro u hu; simp only [List.mem_cons, List.not_mem_nil, or_false] at hu; rcases hu with rfl <;> rfl) rfl rfl rfl kp ?_
  refine ow_nil ?_
  refine x_qs ?_
  refine c_seq ?_
  refine c_reg ?_
  refine ow_batch [.fa 128 4 4 fa128_4] rfl ?_
  refine ow_r rfl (dstOk_lt rfl) (ry_box1 (off := 4) rfl rfl ty3 (boxIn (i := 0) rfl) rfl) ?_
  refine ow_batch [.fa 123 4 4 fa123_4] rfl ?_
  refine ow_storeC (off := 4) [.int .i64 p0.Young_] [_, _, _, _, _, _, _, _] (i := 2) rfl rfl rfl rfl rfl rfl ty3 rfl rfl (by intro u hu; simp only [List.mem_cons, List.not_mem_nil, or_false] at hu; rcases hu with rfl <;> rfl) rfl rfl rfl kp ?_
  refine ow_nil ?_
  refine x_qs ?_
  refine c_seq ?_
  refine c_reg ?_
  refine ow_batch [.fa 128 5 5 fa128_5] rfl ?_
  refine ow_r rfl (dstOk_lt rfl) (ry_box1 (off := 5) rfl rfl ty3 (boxIn (i := 0) rfl) rfl) ?_
  refine ow_batch [.fa 123 5 5 fa123_5] rfl ?_
  refine ow_storeC (off := 5) [.int .i64 p0.Det_] [_, _, _, _, _, _, _, _] (i := 2) rfl rfl rfl rfl rfl rfl ty3 rfl rfl (by intro u hu; simp only [List.mem_cons, List.not_mem_nil, or_false] at hu; rcases hu with rfl <;> rfl) rfl rfl rfl kp ?_
  refine ow_nil ?_
  refine x_qs ?_
  refine c_seq ?_
  refine CW.weak (C' := St w [] [_, _, _]) ?_ (fun _ h => St.sel [0, 1, 2] rfl rfl h)
  refine c_reg ?_
  refine ow_batch [.fa 128 6 6 fa128_6] rfl ?_
  refine ow_r rfl (dstOk_lt rfl) (ry_box1 (off := 6) rfl rfl ty4 (boxIn (i := 0) rfl) rfl) ?_
  refine ow_batch [.fa 123 6 6 fa123_6] rfl ?_
  refine ow_storeC (off := 6) [.bool p0.Began_] [_, _, _, _, _, _, _, _] (i := 2) rfl rfl rfl rfl rfl rfl ty4 rfl rfl (by intro u hu; simp only [List.mem_cons, List.not_mem_nil, or_false] at hu; rcases hu with rfl <;> rfl) rfl rfl rfl kp ?_
  refine ow_nil ?_
  refine x_qs ?_
  refine c_seq ?_
  refine c_reg ?_
  refine ow_batch [.fa 128 7 7 fa128_7] rfl ?_
  refine ow_r rfl (dstOk_lt rfl) (ry_box1 (off := 7) rfl rfl ty4 (boxIn (i := 0) rfl) rfl) ?_
  refine ow_batch [.fa 123 7 7 fa123_7] rfl ?_
  refine ow_storeC (off := 7) [.bool p0.Swapped_] [_, _, _, _, _, _, _, _] (i := 2) rfl rfl rfl rfl rfl rfl ty4 rfl rfl (by intro u hu; simp only [List.mem_cons, List.not_mem_nil, or_false] at hu; rcases hu with rfl <;> rfl) rfl rfl rfl kp ?_
  refine ow_nil ?_
  refine x_qs ?_
  refine c_seq ?_
  refine c_reg ?_
  refine ow_r rfl (dstOk_lt rfl) (ry_box (off := 0) (ds := [.int .i64 p0.Said_, .int .i64 p0.Bit_, .int .i64 p0.Weight_, .int .i64 p0.Grow_, .int .i64 p0.Young_, .int .i64 p0.Det_, .bool p0.Began_, .bool p0.Swapped_]) rfl rfl ty123 (boxIn (i := 2) rfl) rfl rfl) ?_
  refine ow_storeC (off := 0) [.int .i64 p0.Said_, .int .i64 p0.Bit_, .int .i64 p0.Weight_, .int .i64 p0.Grow_, .int .i64 p0.Young_, .int .i64 p0.Det_, .bool p0.Began_, .bool p0.Swapped_] [_, _, _, _, _, _, _, _] (i := 1) rfl rfl rfl rfl rfl rfl ty123 rfl rfl (by intro u hu; simp only [List.mem_cons, List.not_mem_nil, or_false] at hu; rcases hu with rfl | rfl | rfl | rfl | rfl | rfl | rfl | rfl <;> rfl) rfl rfl rfl kp ?_
  refine ow_nil ?_
  refine x_qs ?_
  refine c_ret ?_
  exact x_retR (rs := [.cell 2 123]) (vs := [.agg #[.int .i64 p0.Said_, .int .i64 p0.Bit_, .int .i64 p0.Weight_, .int .i64 p0.Grow_, .int .i64 p0.Young_, .int .i64 p0.Det_, .bool p0.Began_, .bool p0.Swapped_]]) rfl ⟨⟨_, [.int .i64 p0.Said_, .int .i64 p0.Bit_, .int .i64 p0.Weight_, .int .i64 p0.Grow_, .int .i64 p0.Young_, .int .i64 p0.Det_, .bool p0.Began_, .bool p0.Swapped_], _, _, _, rfl, ty123, (at_box (T := 123) 0 (boxIn (i := 1) rfl) rfl), rfl, rfl⟩, trivial⟩ (fun w' hw' => by
      obtain rfl := of_some H
      exact ⟨rfl, hw'.ext⟩)

set_option maxHeartbeats 4000000 in
set_option maxRecDepth 100000 in
theorem laws_toStepS_ok (w : World) {M0 : List Nat} {p0 : List Tlaws_Step} {a_0 : Option Addr} {n_0 c_0 : Nat} {r : List Timpl_Step} (H : laws_toStepS p0 = some r) (HS : St w M0 [] w) (g0 : (eList (eTlaws_Step) 128).rd w M0 p0 [.slice a_0 n_0 c_0]) :
    Calls Try.prog 42 #[.slice a_0 n_0 c_0] w (fun en w' => ∃ v, en = .returned v ∧ ∃ (a0 : Option Addr), ∃ (n0 : Nat), ∃ (c0 : Nat), ∃ (F0 : List Nat), v = .slice a0 n0 c0 ∧ St w M0 [Res.own (eList (eTimpl_Step) 123) F0 r [.slice a0 n0 c0]] w') := by
  obtain rfl := rd_n g0
  unfold laws_toStepS at H
  refine f_enter (vs := [.slice a_0 p0.length c_0]) Try.func42 rfl Try.ntmps42 rfl (HS) ?_
  refine c_seq ?_
  refine c_reg ?_
  refine ow_batch [.p] rfl ?_
  refine ow_nil ?_
  refine x_qs ?_
  refine c_seq ?_
  refine c_reg ?_
  refine ow_batch [.p, .lenS 68 128 sl68] rfl ?_
  obtain ⟨l1, h2, H⟩ := of_bind H
  refine ow_make (e := eTimpl_Step) (zero := ((Timpl_Step.mk 0 0 0 0 0 0 false false) : Timpl_Step)) rfl rfl rfl rfl rfl rfl sl74 ty123 rfl rfl rfl rfl (fun _ => ⟨rfl, rfl⟩) h2 (fun _ => kp) (fun b3 => ?_)
  refine ow_batch [.p] rfl ?_
  refine ow_nil ?_
  refine x_qs ?_
  refine c_seq ?_
  refine c_seq ?_
  refine c_reg ?_
  refine ow_batch [.p] rfl ?_
  refine ow_nil ?_
  refine x_qs ?_
  refine c_block ?_
  refine CW.at (loopI3 (fun (l21 : List Timpl_Step) (F22 : List Nat) (i23 : Int) => St w M0 [Res.own (eList (eTimpl_Step) 123) F22 l21 [.slice (some ⟨b3, 0, none⟩) l1.length l1.length]]) (fun (l21 : List Timpl_Step) (F22 : List Nat) (i23 : Int) => [(0, .slice a_0 p0.length c_0), (3, .slice (some ⟨b3, 0, none⟩) l1.length l1.length), (4, .int .i64 i23)]) (fun kk => fun (l21 : List Timpl_Step) (F22 : List Nat) (i23 : Int) => laws_toStepS_L1 p0 kk l21 i23 = some r) (fun _ _ _ H => ?_) (fun k1 ihk1 l21 F22 i23 H => ?_) Fuel (l1) ([b3]) (0) (H)) (fun _ h => St.sel [0] rfl rfl h) ⟨rfl, rfl, rfl,  trivial⟩
  · unfold laws_toStepS_L1 at H
    exact absurd H (by simp)
  · unfold laws_toStepS_L1 at H
    refine c_seq ?_
    refine c_seq ?_
    refine c_reg ?_
    refine ow_batch [.p, .p, .lenS 68 128 sl68, .p] rfl ?_
    refine ow_nil ?_
    refine x_qs ?_
    refine c_if rfl (fun hb => ?_) (fun hb => ?_)
    · have H := of_if_t hb H
      refine c_skip ?_
      refine x_qs ?_
      refine c_seq ?_
      refine c_block ?_
      refine c_reg ?_
      refine ow_batch [.p, .p, .p, .p] rfl ?_
      obtain ⟨e41, h42, H⟩ := of_bind H
      refine ow_ixE (e := eTlaws_Step) (xs := p0) (j := i23) rfl rfl rfl rfl rfl sl68 ty128 rfl (fun w1 hw1 => rds_bor g0 w1 hw1) h42 rfl ?_
      refine ow_r rfl (dstOk_lt rfl) (ry_load (cs := [.int .i64 e41.Said_, .int .i64 e41.Bit_, .int .i64 e41.Weight_, .int .i64 e41.Grow_, .int .i64 e41.Young_, .int .i64 e41.Det_, .bool e41.Began_, .bool e41.Swapped_]) rfl rfl ty128 (at_castA (at_eltE (fun w1 hw1 => rds_bor g0 w1 hw1) h42 (fun _ _ h => h)) rfl) rfl) ?_
      obtain ⟨y43, h44, H⟩ := of_bind H
      refine ow_q rfl rfl (dstOk_lt rfl) (qy_call rfl fn86 rfl (fun w1 hw1 => laws_toStep_ok w1 (p0 := e41) h44)) (fun _ _ => trivial) ?_
      obtain ⟨e45, h46, H⟩ := of_bind H
      refine ow_ex4 rfl (fun w1 hw1 => foc (r := 0) hw1 rfl h46) (fun b48 G49 F50 c51 => ?_)
      refine ow_fact rfl (fun w1 hw1 => hw1.1) (fun q47 => ?_)
      obtain ⟨ha52, hn53⟩ := q47
      refine ow_st (C' := St w M0 [_, _, _]) rfl (fun w1 hw1 => hw1.2) ?_
      refine ow_fact rfl (fun w1 hw1 => opn_flat (i := 2) hw1 rfl) (fun q47 => ?_)
      obtain ⟨rfl, rfl⟩ := q47
      refine ow_st (C' := St w M0 [_, _]) rfl (fun w1 hw1 => St.mask [true, true] rfl hw1) ?_
      refine ow_ixH rfl rfl rfl rfl rfl sl74 ty123 rfl (holeIn (p := 1) rfl) hn53 ha52 (idx_some h46).1 ?_
      refine ow_storeH (off := 0) [.int .i64 y43.Said_, .int .i64 y43.Bit_, .int .i64 y43.Weight_, .int .i64 y43.Grow_, .int .i64 y43.Young_, .int .i64 y43.Det_, .bool y43.Began_, .bool y43.Swapped_] (p := 1) (c' := [_, _, _, _, _, _, _, _]) rfl rfl rfl rfl rfl (by first | rfl | simp only [add_lit, add_add, add_zero]) rfl ty123 rfl rfl (by intro u hu; simp only [List.mem_cons, List.not_mem_nil, or_false] at hu; rcases hu with rfl | rfl | rfl | rfl | rfl | rfl | rfl | rfl <;> rfl) rfl rfl rfl kp ?_
      refine ow_nil ?_
      refine x_qb ?_
      refine x_qs ?_
      refine c_reg ?_
      refine ow_batch [.p, .p, .p] rfl ?_
      refine ow_nil ?_
      refine xw_st (fun _ h => St.push0 h (Res.own (eTimpl_Step) [] y43 [.int .i64 y43.Said_, .int .i64 y43.Bit_, .int .i64 y43.Weight_, .int .i64 y43.Grow_, .int .i64 y43.Young_, .int .i64 y43.Det_, .bool y43.Began_, .bool y43.Swapped_]) rfl ⟨rfl, rfl⟩) ?_
      refine xw_ex (fun w1 hw1 => unf (p := 1) (q := 2) hw1 rfl rfl rfl hn53 ha52) (fun F54 => ?_)
      refine xw_st (C' := St w M0 [_, _, _, _]) (fun _ h => h) ?_
      exact x_ql (RW.at (ihk1 ((l21.set i23.toNat y43)) (F54) (IntKind.i64.wrap (i23 + 1)) (H)) (fun _ h => St.sel [3] rfl rfl h) ⟨rfl, rfl, rfl, trivial⟩)
    · have H := of_if_f hb H
      refine c_exit ?_
      refine x_qs_exit ?_
      refine x_ql_exit ?_
      refine x_qb_here ?_
      refine x_qs ?_
      refine c_seq ?_
      refine c_reg ?_
      refine ow_batch [.p, .p] rfl ?_
      refine ow_nil ?_
      refine x_qs ?_
      refine c_ret ?_
      exact x_retR (rs := [.tmp 2]) (vs := [.slice (some ⟨b3, 0, none⟩) l1.length l1.length]) rfl ⟨rfl, trivial⟩ (fun w' hw' => by
          obtain rfl := of_some H
          exact ⟨_, rfl, (some ⟨b3, 0, none⟩), l1.length, l1.length, F22, rfl, hw'.sel [0] rfl rfl⟩)

set_option maxHeartbeats 4000000 in
set_option maxRecDepth 100000 in
theorem spec_l30CopyEntries_ok (w : World) {M0 : List Nat} {p0 : List Timpl_Entry} {a_0 : Option Addr} {n_0 c_0 : Nat} {r : List Timpl_Entry} (H : spec_l30CopyEntries p0 = some r) (HS : St w M0 [] w) (g0 : (eList (eTimpl_Entry) 111).rd w M0 p0 [.slice a_0 n_0 c_0]) :
    Calls Try.prog 83 #[.slice a_0 n_0 c_0] w (fun en w' => ∃ v, en = .returned v ∧ ∃ (a0 : Option Addr), ∃ (n0 : Nat), ∃ (c0 : Nat), ∃ (F0 : List Nat), v = .slice a0 n0 c0 ∧ St w M0 [Res.own (eList (eTimpl_Entry) 111) F0 r [.slice a0 n0 c0]] w') := by
  obtain rfl := rd_n g0
  unfold spec_l30CopyEntries at H
  refine f_enter (vs := [.slice a_0 p0.length c_0]) Try.func83 rfl Try.ntmps83 rfl (HS) ?_
  refine c_seq ?_
  refine c_reg ?_
  refine ow_batch [.p] rfl ?_
  refine ow_nil ?_
  refine x_qs ?_
  refine c_seq ?_
  refine c_reg ?_
  refine ow_blit0 (e := eTimpl_Entry) rfl rfl rfl rfl sl63 ty111 (fun _ => kp) (fun b1 => ?_)
  refine ow_batch [.p] rfl ?_
  refine ow_nil ?_
  refine x_qs ?_
  refine c_seq ?_
  refine c_seq ?_
  refine c_reg ?_
  refine ow_batch [.p] rfl ?_
  refine ow_nil ?_
  refine x_qs ?_
  refine c_block ?_
  refine CW.at (loopI5 (fun (l77 : List Timpl_Entry) (a78 : Option Addr) (c79 : Nat) (F80 : List Nat) (i81 : Int) => St w M0 [Res.own (eList (eTimpl_Entry) 111) F80 l77 [.slice a78 l77.length c79]]) (fun (l77 : List Timpl_Entry) (a78 : Option Addr) (c79 : Nat) (F80 : List Nat) (i81 : Int) => [(0, .slice a_0 p0.length c_0), (3, .slice a78 l77.length c79), (4, .int .i64 i81)]) (fun kk => fun (l77 : List Timpl_Entry) (a78 : Option Addr) (c79 : Nat) (F80 : List Nat) (i81 : Int) => spec_l30CopyEntries_L1 p0 kk l77 i81 = some r) (fun _ _ _ _ _ H => ?_) (fun k1 ihk1 l77 a78 c79 F80 i81 H => ?_) Fuel (([] : List Timpl_Entry)) ((some ⟨b1, 0, none⟩)) (0) ([b1]) (0) (H)) (fun _ h => St.sel [0] rfl rfl h) ⟨rfl, rfl, rfl,  trivial⟩
  · unfold spec_l30CopyEntries_L1 at H
    exact absurd H (by simp)
  · unfold spec_l30CopyEntries_L1 at H
    refine c_seq ?_
    refine c_seq ?_
    refine c_reg ?_
    refine ow_batch [.p, .p, .lenS 63 111 sl63, .p] rfl ?_
    refine ow_nil ?_
    refine x_qs ?_
    refine c_if rfl (fun hb => ?_) (fun hb => ?_)
    · have H := of_if_t hb H
      refine c_skip ?_
      refine x_qs ?_
      refine c_seq ?_
      refine c_block ?_
      refine c_seq ?_
      refine c_reg ?_
      refine ow_batch [.p, .p] rfl ?_
      obtain ⟨e157, h158, H⟩ := of_bind H
      refine ow_ixB rfl rfl rfl rfl rfl sl63 ty111 rfl g0 h158 (fun q161 c162 hd159 hA160 => ?_)
      obtain ⟨c163, c164, rfl, g165, g166⟩ := rdo_Timpl_Entry hd159
      obtain ⟨c167, c168, rfl, g169, g170⟩ := rdo_Timpl_Ex g165
      obtain ⟨a171, c172, rfl⟩ := rd_sl1 g169
      obtain rfl : c168 = [.int .i64 e157.Ex_.Class_] := g170
      obtain rfl : c164 = [.int .i64 e157.Weight_] := g166
      refine ow_batch [.fa 111 0 0 fa111_0] rfl ?_
      refine ow_r rfl (dstOk_lt rfl) (ry_load (cs := [.slice a171 e157.Ex_.Bins_.length c172, .int .i64 e157.Ex_.Class_]) rfl rfl ty56 (at_bor bor (at_K hA160 0 2)) rfl) ?_
      refine ow_alloc rfl rfl rfl rfl ty56 (fun _ => kp) (fun b173 => ?_)
      refine ow_storeC (off := 0) [.slice a171 e157.Ex_.Bins_.length c172, .int .i64 e157.Ex_.Class_] [_, _] (i := 1) rfl rfl rfl rfl rfl rfl ty56 rfl rfl (by intro u hu; simp only [List.mem_cons, List.not_mem_nil, or_false] at hu; rcases hu with rfl | rfl <;> rfl) rfl rfl rfl kp ?_
      refine ow_nil ?_
      refine x_qs ?_
      refine c_regHT 15 [(0, true), (2, true), (3, true), (5, true), (6, true), (8, true), (9, true), (10, true), (11, true), (12, true), (1, false), (4, false), (7, true), (13, true), (14, false)] (St w M0 [Res.own (eList (eTimpl_Entry) 111) F80 l77 [.slice a78 l77.length c79], Res.box b173 56 [.slice a171 e157.Ex_.Bins_.length c172, .int .i64 e157.Ex_.Class_]]) mixed (by kernel_rfl) (panicOk_qb (panicOk_qs (panicOk_ql (panicOk_qb (panicOk_qs panicOk_body))))) (fun _ h => St.mask [true, true] rfl h) ?_
      refine ow_batch [.p, .fa 56 0 0 fa56_0] rfl ?_
      refine ow_rH rfl (dstOk_lt rfl) (ry_box1 (off := 0) rfl rfl ty22 (boxIn (i := 1) rfl) rfl) ?_
      refine ow_batch [.fa 56 1 1 fa56_1] rfl ?_
      refine ow_rH rfl (dstOk_lt rfl) (ry_box1 (off := 1) rfl rfl ty3 (boxIn (i := 1) rfl) rfl) ?_
      refine ow_batch [.p, .p] rfl ?_
      obtain ⟨e198, h199, H⟩ := of_bind H
      refine ow_ixB rfl rfl rfl rfl rfl sl63 ty111 rfl g0 h199 (fun q202 c203 hd200 hA201 => ?_)
      obtain ⟨c204, c205, rfl, g206, g207⟩ := rdo_Timpl_Entry hd200
      obtain ⟨c208, c209, rfl, g210, g211⟩ := rdo_Timpl_Ex g206
      obtain ⟨a212, c213, rfl⟩ := rd_sl1 g210
      obtain rfl : c209 = [.int .i64 e198.Ex_.Class_] := g211
      obtain rfl : c205 = [.int .i64 e198.Weight_] := g207
      refine ow_batch [.fa 111 1 2 fa111_1] rfl ?_
      refine ow_rH rfl (dstOk_lt rfl) (ry_load1 rfl rfl ty3 (at_bor (fun _ h => h.ext) (at_K hA201 2 1))) ?_
      refine ow_blit0 (e := eVal (Value.int .i64) (fun _ => rfl)) rfl rfl rfl rfl sl22 ty3 (fun _ => (fun _ h => St.mask [true, true] rfl h)) (fun b214 => ?_)
      obtain ⟨l215, h216, H⟩ := of_bind H
      refine ow_appR (r := 2) (ys := e157.Ex_.Bins_) rfl rfl rfl rfl rfl rfl sl22 ty3 rfl rfl rfl (fun w1 hw1 => rds_bor g169 w1 hw1) h216 (fun _ _ _ => (fun _ h => St.mask [true, true] rfl h)) (fun a217 c218 F219 => ?_)
      refine ow_rH rfl (dstOk_lt rfl) (ry_build2 [(0, [.slice a217 l215.length c218]), (1, [.int .i64 e157.Ex_.Class_])] [.slice a217 l215.length c218, .int .i64 e157.Ex_.Class_] rfl rfl ty56 fs56 rfl ⟨rfl, rfl, Nat.le_of_ble_eq_true rfl, rfl, rfl, Nat.le_of_ble_eq_true rfl,  trivial⟩ rfl) ?_
      refine ow_rH rfl (dstOk_lt rfl) (ry_build2 [(0, [.slice a217 l215.length c218, .int .i64 e157.Ex_.Class_]), (2, [.int .i64 e198.Weight_])] [.slice a217 l215.length c218, .int .i64 e157.Ex_.Class_, .int .i64 e198.Weight_] rfl rfl ty111 fs111 rfl ⟨rfl, rfl, Nat.le_of_ble_eq_true rfl, rfl, rfl, Nat.le_of_ble_eq_true rfl,  trivial⟩ rfl) ?_
      refine ow_ex rfl (fun w1 hw1 => fus_Timpl_Entry (x1 := e157.Ex_.Class_) (x2 := e198.Weight_) [2] hw1 rfl rfl) (fun F221 => ?_)
      refine ow_st (C' := St w M0 [_, _, _, _]) rfl (fun _ h => h) ?_
      refine ow_bslice [(0, [.slice a217 l215.length c218, .int .i64 e157.Ex_.Class_, .int .i64 e198.Weight_])] rfl rfl rfl rfl rfl sl63 ty111 rfl rfl ⟨rfl, rfl, Nat.le_of_ble_eq_true rfl,  trivial⟩ [.slice a217 l215.length c218, .int .i64 e157.Ex_.Class_, .int .i64 e198.Weight_] rfl (fun _ => (fun _ h => St.mask [true, true] rfl h)) (fun b220 => ?_)
      refine ow_st rfl (fun _ h => lit1 (p := 4) (q := 3) h rfl rfl rfl) ?_
      refine ow_nilH ?_
      refine x_qt ?_
      obtain ⟨l222, h223, H⟩ := of_bind H
      refine ow_appM (r := 0) (j := 5) rfl rfl rfl rfl rfl rfl sl63 ty111 rfl rfl rfl rfl rfl rfl rfl h223 (fun _ _ _ => kp) (fun a224 c225 F226 => ?_)
      refine ow_batch [.p] rfl ?_
      refine ow_nil ?_
      refine x_qb ?_
      refine x_qs ?_
      refine CW.weak (C' := St w M0 [_, _]) ?_ (fun _ h => St.sel [1, 6] rfl rfl h)
      refine c_reg ?_
      refine ow_batch [.p, .p, .p] rfl ?_
      refine ow_nil ?_
      exact x_ql (RW.at (ihk1 (l222) (a224) (c225) (F226) (IntKind.i64.wrap (i81 + 1)) (H)) (fun _ h => St.sel [1] rfl rfl h) ⟨rfl, rfl, rfl, trivial⟩)
    · have H := of_if_f hb H
      refine c_exit ?_
      refine x_qs_exit ?_
      refine x_ql_exit ?_
      refine x_qb_here ?_
      refine x_qs ?_
      refine c_seq ?_
      refine c_reg ?_
      refine ow_batch [.p, .p] rfl ?_
      refine ow_nil ?_
      refine x_qs ?_
      refine c_ret ?_
      exact x_retR (rs := [.tmp 2]) (vs := [.slice a78 l77.length c79]) rfl ⟨rfl, trivial⟩ (fun w' hw' => by
          obtain rfl := of_some H
          exact ⟨_, rfl, a78, l77.length, c79, F80, rfl, hw'.sel [0] rfl rfl⟩)

set_option maxHeartbeats 4000000 in
set_option maxRecDepth 100000 in
theorem spec_l30CopyPast_ok (w : World) {M0 : List Nat} {p0 : Timpl_Past} {cs0 : List Value} {r : Timpl_Past} (H : spec_l30CopyPast p0 = some r) (HS : St w M0 [] w) (g0 : (eTimpl_Past).rd w M0 p0 cs0) :
    Calls Try.prog 82 #[.agg cs0.toArray] w (fun en w' => ∃ v, en = .returned v ∧ ∃ (a0 : Option Addr), ∃ (n0 : Nat), ∃ (c0 : Nat), ∃ (F0 : List Nat), ∃ (a1 : Option Addr), ∃ (n1 : Nat), ∃ (c1 : Nat), ∃ (F1 : List Nat), ∃ (a2 : Option Addr), ∃ (n2 : Nat), ∃ (c2 : Nat), ∃ (F2 : List Nat), v = .agg #[.slice a0 n0 c0, .slice a1 n1 c1, .slice a2 n2 c2] ∧ St w M0 [Res.own (eList (eTimpl_Entry) 111) F0 r.Tree_ [.slice a0 n0 c0], Res.own (eList (eTimpl_Entry) 111) F1 r.Young_ [.slice a1 n1 c1], Res.own (eList (eVal (Value.int .i64) (fun _ => rfl)) 3) F2 r.Bits_ [.slice a2 n2 c2]] w') := by
  obtain ⟨c1, c2, c3, rfl, g4, g5, g6⟩ := rdo_Timpl_Past g0
  obtain ⟨a7, c8, rfl⟩ := rd_sl1 g4
  obtain ⟨a9, c10, rfl⟩ := rd_sl1 g5
  obtain ⟨a11, c12, rfl⟩ := rd_sl1 g6
  unfold spec_l30CopyPast at H
  refine f_enter (vs := [.agg #[.slice a7 p0.Tree_.length c8, .slice a9 p0.Young_.length c10, .slice a11 p0.Bits_.length c12]]) Try.func82 rfl Try.ntmps82 rfl (HS) ?_
  refine c_seq ?_
  refine c_reg ?_
  refine ow_box (cs := [.slice a7 p0.Tree_.length c8, .slice a9 p0.Young_.length c10, .slice a11 p0.Bits_.length c12]) rfl rfl rfl rfl rfl rfl (fun _ => kp) (fun b13 => ?_)
  refine ow_alloc rfl rfl rfl rfl ty120 (fun _ => kp) (fun b14 => ?_)
  refine ow_nil ?_
  refine x_qs ?_
  refine c_seq ?_
  obtain ⟨y34, h35, H⟩ := of_bind H
  obtain ⟨y43, h44, H⟩ := of_bind H
  refine c_regB 9 [(0, true), (1, true), (3, true), (4, true), (7, true), (8, true)] (Br.alt 2 (Br.pre [] (Br.alt 5 (Br.pre [(6, false)] Br.done) (Br.pre [(6, false), (5, false)] Br.done))) (Br.pre [(6, false), (2, false), (5, false)] Br.done)) (St w M0 [Res.box b13 120 [.slice a7 p0.Tree_.length c8, .slice a9 p0.Young_.length c10, .slice a11 p0.Bits_.length c12], Res.box b14 120 [.slice none 0 0, .slice none 0 0, .slice none 0 0]]) mixed (by kernel_rfl) (panicOk_qs panicOk_body) (fun _ h => St.mask [true, true] rfl h) ?_
  refine ow_batch [.fa 120 0 0 fa120_0] rfl ?_
  refine ow_rH rfl (dstOk_lt rfl) (ry_box1 (off := 0) rfl rfl ty63 (boxIn (i := 0) rfl) rfl) ?_
  refine ow_batch [.fa 120 1 1 fa120_1] rfl ?_
  refine ow_rH rfl (dstOk_lt rfl) (ry_box1 (off := 1) rfl rfl ty63 (boxIn (i := 0) rfl) rfl) ?_
  refine ow_batch [.fa 120 2 2 fa120_2] rfl ?_
  refine ow_rH rfl (dstOk_lt rfl) (ry_box1 (off := 2) rfl rfl ty22 (boxIn (i := 0) rfl) rfl) ?_
  refine ow_nilH ?_
  refine x_alt (fun _ h => St.mask [true, true] rfl h) rfl ?_ ?_
  · refine ow_callS rfl fn83 rfl rfl rfl rfl (fun w1 hw1 => spec_l30CopyEntries_ok w1  h35 (hw1.carve [] rfl rfl) (rds_bor g4 w1 hw1)) (fun v36 w1 w2 hw1 hR38 => ?_)
    obtain ⟨a39, n40, c41, F42, rfl, hS37⟩ := hR38
    obtain rfl := own_nS (i := 0) hS37 rfl
    refine ⟨St w M0 [_, _, _], hw1.comp [] rfl rfl hS37, (fun _ h => St.mask [true, true] rfl h), ?_⟩
    refine ow_nilH ?_
    refine x_alt (fun _ h => St.mask [true, true] rfl h) rfl ?_ ?_
    · refine ow_callS rfl fn83 rfl rfl rfl rfl (fun w1 hw1 => spec_l30CopyEntries_ok w1  h44 (hw1.carve [] rfl rfl) (rds_bor g5 w1 hw1)) (fun v45 w1 w2 hw1 hR47 => ?_)
      obtain ⟨a48, n49, c50, F51, rfl, hS46⟩ := hR47
      obtain rfl := own_nS (i := 0) hS46 rfl
      refine ⟨St w M0 [_, _, _, _], hw1.comp [] rfl rfl hS46, (fun _ h => St.mask [true, true] rfl h), ?_⟩
      refine ow_blit0 (e := eVal (Value.int .i64) (fun _ => rfl)) rfl rfl rfl rfl sl22 ty3 (fun _ => (fun _ h => St.mask [true, true] rfl h)) (fun b52 => ?_)
      refine ow_nilH ?_
      refine x_done ?_
      obtain ⟨l53, h54, H⟩ := of_bind H
      refine ow_appR (r := 4) (ys := p0.Bits_) rfl rfl rfl rfl rfl rfl sl22 ty3 rfl rfl rfl (fun w1 hw1 => rds_bor g6 w1 hw1) h54 (fun _ _ _ => kp) (fun a55 c56 F57 => ?_)
      refine ow_r rfl (dstOk_lt rfl) (ry_build2 [(0, [.slice a39 y34.length c41]), (1, [.slice a48 y43.length c50]), (2, [.slice a55 l53.length c56])] [.slice a39 y34.length c41, .slice a48 y43.length c50, .slice a55 l53.length c56] rfl rfl ty120 fs120 rfl ⟨rfl, rfl, Nat.le_of_ble_eq_true rfl, rfl, rfl, Nat.le_of_ble_eq_true rfl, rfl, rfl, Nat.le_of_ble_eq_true rfl,  trivial⟩ rfl) ?_
      refine ow_storeC (off := 0) [.slice a39 y34.length c41, .slice a48 y43.length c50, .slice a55 l53.length c56] [_, _, _] (i := 1) rfl rfl rfl rfl rfl rfl ty120 rfl rfl (by intro u hu; simp only [List.mem_cons, List.not_mem_nil, or_false] at hu; rcases hu with rfl | rfl | rfl <;> rfl) rfl rfl rfl kp ?_
      refine ow_nil ?_
      refine x_qs ?_
      refine c_ret ?_
      exact x_retR (rs := [.cell 2 120]) (vs := [.agg #[.slice a39 y34.length c41, .slice a48 y43.length c50, .slice a55 l53.length c56]]) rfl ⟨⟨_, [.slice a39 y34.length c41, .slice a48 y43.length c50, .slice a55 l53.length c56], _, _, _, rfl, ty120, (at_box (T := 120) 0 (boxIn (i := 1) rfl) rfl), rfl, rfl⟩, trivial⟩ (fun w' hw' => by
          obtain rfl := of_some H
          exact ⟨_, rfl, a39, y34.length, c41, F42, a48, y43.length, c50, F51, a55, l53.length, c56, F57, rfl, hw'.sel [2, 3, 4] rfl rfl⟩)
    refine x_last (fun _ h => St.mask [true, true] rfl h) rfl ?_
    refine ow_blit0 (e := eVal (Value.int .i64) (fun _ => rfl)) rfl rfl rfl rfl sl22 ty3 (fun _ => (fun _ h => St.mask [true, true] rfl h)) (fun b58 => ?_)
    refine ow_callS rfl fn83 rfl rfl rfl rfl (fun w1 hw1 => spec_l30CopyEntries_ok w1  h44 (hw1.carve [] rfl rfl) (rds_bor g5 w1 hw1)) (fun v59 w1 w2 hw1 hR61 => ?_)
    obtain ⟨a62, n63, c64, F65, rfl, hS60⟩ := hR61
    obtain rfl := own_nS (i := 0) hS60 rfl
    refine ⟨St w M0 [_, _, _, _, _], hw1.comp [] rfl rfl hS60, (fun _ h => St.mask [true, true] rfl h), ?_⟩
    refine ow_nilH ?_
    refine x_done ?_
    obtain ⟨l66, h67, H⟩ := of_bind H
    refine ow_appR (r := 3) (ys := p0.Bits_) rfl rfl rfl rfl rfl rfl sl22 ty3 rfl rfl rfl (fun w1 hw1 => rds_bor g6 w1 hw1) h67 (fun _ _ _ => kp) (fun a68 c69 F70 => ?_)
    refine ow_r rfl (dstOk_lt rfl) (ry_build2 [(0, [.slice a39 y34.length c41]), (1, [.slice a62 y43.length c64]), (2, [.slice a68 l66.length c69])] [.slice a39 y34.length c41, .slice a62 y43.length c64, .slice a68 l66.length c69] rfl rfl ty120 fs120 rfl ⟨rfl, rfl, Nat.le_of_ble_eq_true rfl, rfl, rfl, Nat.le_of_ble_eq_true rfl, rfl, rfl, Nat.le_of_ble_eq_true rfl,  trivial⟩ rfl) ?_
    refine ow_storeC (off := 0) [.slice a39 y34.length c41, .slice a62 y43.length c64, .slice a68 l66.length c69] [_, _, _] (i := 1) rfl rfl rfl rfl rfl rfl ty120 rfl rfl (by intro u hu; simp only [List.mem_cons, List.not_mem_nil, or_false] at hu; rcases hu with rfl | rfl | rfl <;> rfl) rfl rfl rfl kp ?_
    refine ow_nil ?_
    refine x_qs ?_
    refine c_ret ?_
    exact x_retR (rs := [.cell 2 120]) (vs := [.agg #[.slice a39 y34.length c41, .slice a62 y43.length c64, .slice a68 l66.length c69]]) rfl ⟨⟨_, [.slice a39 y34.length c41, .slice a62 y43.length c64, .slice a68 l66.length c69], _, _, _, rfl, ty120, (at_box (T := 120) 0 (boxIn (i := 1) rfl) rfl), rfl, rfl⟩, trivial⟩ (fun w' hw' => by
        obtain rfl := of_some H
        exact ⟨_, rfl, a39, y34.length, c41, F42, a62, y43.length, c64, F65, a68, l66.length, c69, F70, rfl, hw'.sel [2, 4, 3] rfl rfl⟩)
  refine x_last (fun _ h => St.mask [true, true] rfl h) rfl ?_
  refine ow_blit0 (e := eVal (Value.int .i64) (fun _ => rfl)) rfl rfl rfl rfl sl22 ty3 (fun _ => (fun _ h => St.mask [true, true] rfl h)) (fun b71 => ?_)
  refine ow_callS rfl fn83 rfl rfl rfl rfl (fun w1 hw1 => spec_l30CopyEntries_ok w1  h35 (hw1.carve [] rfl rfl) (rds_bor g4 w1 hw1)) (fun v72 w1 w2 hw1 hR74 => ?_)
  obtain ⟨a75, n76, c77, F78, rfl, hS73⟩ := hR74
  obtain rfl := own_nS (i := 0) hS73 rfl
  refine ⟨St w M0 [_, _, _, _], hw1.comp [] rfl rfl hS73, (fun _ h => St.mask [true, true] rfl h), ?_⟩
  refine ow_callS rfl fn83 rfl rfl rfl rfl (fun w1 hw1 => spec_l30CopyEntries_ok w1  h44 (hw1.carve [] rfl rfl) (rds_bor g5 w1 hw1)) (fun v79 w1 w2 hw1 hR81 => ?_)
  obtain ⟨a82, n83, c84, F85, rfl, hS80⟩ := hR81
  obtain rfl := own_nS (i := 0) hS80 rfl
  refine ⟨St w M0 [_, _, _, _, _], hw1.comp [] rfl rfl hS80, (fun _ h => St.mask [true, true] rfl h), ?_⟩
  refine ow_nilH ?_
  refine x_done ?_
  obtain ⟨l86, h87, H⟩ := of_bind H
  refine ow_appR (r := 2) (ys := p0.Bits_) rfl rfl rfl rfl rfl rfl sl22 ty3 rfl rfl rfl (fun w1 hw1 => rds_bor g6 w1 hw1) h87 (fun _ _ _ => kp) (fun a88 c89 F90 => ?_)
  refine ow_r rfl (dstOk_lt rfl) (ry_build2 [(0, [.slice a75 y34.length c77]), (1, [.slice a82 y43.length c84]), (2, [.slice a88 l86.length c89])] [.slice a75 y34.length c77, .slice a82 y43.length c84, .slice a88 l86.length c89] rfl rfl ty120 fs120 rfl ⟨rfl, rfl, Nat.le_of_ble_eq_true rfl, rfl, rfl, Nat.le_of_ble_eq_true rfl, rfl, rfl, Nat.le_of_ble_eq_true rfl,  trivial⟩ rfl) ?_
  refine ow_storeC (off := 0) [.slice a75 y34.length c77, .slice a82 y43.length c84, .slice a88 l86.length c89] [_, _, _] (i := 1) rfl rfl rfl rfl rfl rfl ty120 rfl rfl (by intro u hu; simp only [List.mem_cons, List.not_mem_nil, or_false] at hu; rcases hu with rfl | rfl | rfl <;> rfl) rfl rfl rfl kp ?_
  refine ow_nil ?_
  refine x_qs ?_
  refine c_ret ?_
  exact x_retR (rs := [.cell 2 120]) (vs := [.agg #[.slice a75 y34.length c77, .slice a82 y43.length c84, .slice a88 l86.length c89]]) rfl ⟨⟨_, [.slice a75 y34.length c77, .slice a82 y43.length c84, .slice a88 l86.length c89], _, _, _, rfl, ty120, (at_box (T := 120) 0 (boxIn (i := 1) rfl) rfl), rfl, rfl⟩, trivial⟩ (fun w' hw' => by
      obtain rfl := of_some H
      exact ⟨_, rfl, a75, y34.length, c77, F78, a82, y43.length, c84, F85, a88, l86.length, c89, F90, rfl, hw'.sel [3, 4, 2] rfl rfl⟩)

set_option maxHeartbeats 4000000 in
set_option maxRecDepth 100000 in
theorem spec_l30Grew_ok (w : World) {p0 : Int}  {r : Bool} (H : spec_l30Grew p0 = some r)   :
    Calls Try.prog 84 #[.int .i64 p0] w (fun en w' => en = .returned (.bool r) ∧ Ext [] w w') := by
  unfold spec_l30Grew at H
  refine f_enter (vs := [.int .i64 p0]) Try.func84 rfl Try.ntmps84 rfl (St.init w []) ?_
  refine c_seq ?_
  refine c_reg ?_
  refine ow_batch [.p] rfl ?_
  refine ow_nil ?_
  refine x_qs ?_
  refine c_seq ?_
  refine c_reg ?_
  refine ow_batch [.p, .p, .p] rfl ?_
  refine ow_cut [(8, .bool ((p0 == 0) || (p0 == 1))), (2, .bool false)] 3 ?_ (fun key => OW.sub (R := [(0, .int .i64 p0), (2, .bool false), (5, .bool (p0 == 0))]) ?_ ⟨rfl, rfl, rfl, trivial⟩)
  · refine ow_batch [.p] rfl ?_
    refine ow_nil ?_
    refine x_qs ?_
    refine c_ret ?_
    exact x_retR (rs := [.tmp 2]) (vs := [.bool ((p0 == 0) || (p0 == 1))]) rfl ⟨rfl, trivial⟩ (fun w' hw' => by
        obtain rfl := of_some H
        exact ⟨rfl, hw'.ext⟩)
  · generalize (p0 == 0) = t2 at key ⊢
    cases t2
    · refine ow_batch [.p, .p] rfl ?_
      refine ow_batch [.p] rfl ?_
      exact OW.sub key ⟨rfl, rfl, trivial⟩
    · refine ow_batch [.p, .p, .p] rfl ?_
      exact OW.sub key ⟨rfl, rfl, trivial⟩

set_option maxHeartbeats 4000000 in
set_option maxRecDepth 100000 in
theorem spec_Follow_ok (w : World) {M0 : List Nat} {p0 : List Timpl_Past} {p1 : Timpl_Ex} {p2 : List Timpl_Step} {a_0 : Option Addr} {n_0 c_0 : Nat} {cs1 : List Value} {a_2 : Option Addr} {n_2 c_2 : Nat} {r : List Timpl_Past} (H : spec_Follow p0 p1 p2 = some r) (HS : St w M0 [] w) (g0 : (eList (eTimpl_Past) 120).rd w M0 p0 [.slice a_0 n_0 c_0]) (g1 : (eTimpl_Ex).rd w M0 p1 cs1) (g2 : (eList (eTimpl_Step) 123).rd w M0 p2 [.slice a_2 n_2 c_2]) :
    Calls Try.prog 40 #[.slice a_0 n_0 c_0, .agg cs1.toArray, .slice a_2 n_2 c_2] w (fun en w' => ∃ v, en = .returned v ∧ ∃ (a0 : Option Addr), ∃ (n0 : Nat), ∃ (c0 : Nat), ∃ (F0 : List Nat), v = .slice a0 n0 c0 ∧ St w M0 [Res.own (eList (eTimpl_Past) 120) F0 r [.slice a0 n0 c0]] w') := by
  obtain rfl := rd_n g0
  obtain ⟨c1, c2, rfl, g3, g4⟩ := rdo_Timpl_Ex g1
  obtain ⟨a5, c6, rfl⟩ := rd_sl1 g3
  obtain rfl : c2 = [.int .i64 p1.Class_] := g4
  obtain rfl := rd_n g2
  unfold spec_Follow at H
  refine f_enter (vs := [.slice a_0 p0.length c_0, .agg #[.slice a5 p1.Bins_.length c6, .int .i64 p1.Class_], .slice a_2 p2.length c_2]) Try.func40 rfl Try.ntmps40 rfl (HS) ?_
  refine c_seq ?_
  refine c_reg ?_
  refine ow_box (cs := [.slice a5 p1.Bins_.length c6, .int .i64 p1.Class_]) rfl rfl rfl rfl rfl rfl (fun _ => kp) (fun b7 => ?_)
  refine ow_batch [.p] rfl ?_
  refine ow_nil ?_
  refine x_qs ?_
  refine c_seq ?_
  refine c_reg ?_
  refine ow_blit0 (e := eTimpl_Past) rfl rfl rfl rfl sl71 ty120 (fun _ => kp) (fun b8 => ?_)
  refine ow_batch [.p] rfl ?_
  refine ow_nil ?_
  refine x_qs ?_
  refine c_seq ?_
  refine c_seq ?_
  refine c_reg ?_
  refine ow_batch [.p] rfl ?_
  refine ow_nil ?_
  refine x_qs ?_
  refine c_block ?_
  refine CW.at (loopI5 (fun (l279 : List Timpl_Past) (a280 : Option Addr) (c281 : Nat) (F282 : List Nat) (i283 : Int) => St w M0 [Res.box b7 56 [.slice a5 p1.Bins_.length c6, .int .i64 p1.Class_], Res.own (eList (eTimpl_Past) 120) F282 l279 [.slice a280 l279.length c281]]) (fun (l279 : List Timpl_Past) (a280 : Option Addr) (c281 : Nat) (F282 : List Nat) (i283 : Int) => [(0, .slice a_0 p0.length c_0), (2, .slice a_2 p2.length c_2), (4, .pointer (some ⟨b7, 0, none⟩)), (7, .slice a280 l279.length c281), (8, .int .i64 i283)]) (fun kk => fun (l279 : List Timpl_Past) (a280 : Option Addr) (c281 : Nat) (F282 : List Nat) (i283 : Int) => spec_Follow_L1 p0 p2 p1 kk l279 i283 = some r) (fun _ _ _ _ _ H => ?_) (fun k1 ihk1 l279 a280 c281 F282 i283 H => ?_) Fuel (([] : List Timpl_Past)) ((some ⟨b8, 0, none⟩)) (0) ([b8]) (0) (H)) (fun _ h => St.sel [0, 1] rfl rfl h) ⟨rfl, rfl, rfl, rfl, rfl,  trivial⟩
  · unfold spec_Follow_L1 at H
    exact absurd H (by simp)
  · unfold spec_Follow_L1 at H
    refine c_seq ?_
    refine c_seq ?_
    refine c_reg ?_
    refine ow_batch [.p, .p, .lenS 71 120 sl71, .p] rfl ?_
    refine ow_nil ?_
    refine x_qs ?_
    refine c_if rfl (fun hb => ?_) (fun hb => ?_)
    · have H := of_if_t hb H
      refine c_skip ?_
      refine x_qs ?_
      refine c_seq ?_
      refine c_block ?_
      refine c_seq ?_
      refine c_reg ?_
      refine ow_batch [.p, .p] rfl ?_
      obtain ⟨e554, h555, H⟩ := of_bind H
      refine ow_ixB rfl rfl rfl rfl rfl sl71 ty120 rfl g0 h555 (fun q558 c559 hd556 hA557 => ?_)
      obtain ⟨c560, c561, c562, rfl, g563, g564, g565⟩ := rdo_Timpl_Past hd556
      obtain ⟨a566, c567, rfl⟩ := rd_sl1 g563
      obtain ⟨a568, c569, rfl⟩ := rd_sl1 g564
      obtain ⟨a570, c571, rfl⟩ := rd_sl1 g565
      refine ow_r rfl (dstOk_lt rfl) (ry_load (cs := [.slice a566 e554.Tree_.length c567, .slice a568 e554.Young_.length c569, .slice a570 e554.Bits_.length c571]) rfl rfl ty120 (at_bor bor hA557) rfl) ?_
      obtain ⟨y572, h573, H⟩ := of_bind H
      refine ow_callS rfl fn82 rfl rfl rfl rfl (fun w1 hw1 => spec_l30CopyPast_ok w1 (cs0 := [.slice a566 e554.Tree_.length c567, .slice a568 e554.Young_.length c569, .slice a570 e554.Bits_.length c571]) h573 (hw1.carve [] rfl rfl) (rdm_Timpl_Past (x := e554) (c0 := [.slice a566 e554.Tree_.length c567]) (c1 := [.slice a568 e554.Young_.length c569]) (c2 := [.slice a570 e554.Bits_.length c571]) (rds_bor g563 w1 hw1) (rds_bor g564 w1 hw1) (rds_bor g565 w1 hw1))) (fun v574 w1 w2 hw1 hR576 => ?_)
      obtain ⟨a577, n578, c579, F580, a581, n582, c583, F584, a585, n586, c587, F588, rfl, hS575⟩ := hR576
      obtain rfl := own_nS (i := 0) hS575 rfl
      obtain rfl := own_nS (i := 1) hS575 rfl
      obtain rfl := own_nS (i := 2) hS575 rfl
      refine ⟨St w M0 [_, _, _, _, _], hw1.comp [] rfl rfl hS575, fun _ _ => trivial, ?_⟩
      refine ow_alloc rfl rfl rfl rfl ty120 (fun _ => kp) (fun b589 => ?_)
      refine ow_storeC (off := 0) [.slice a577 y572.Tree_.length c579, .slice a581 y572.Young_.length c583, .slice a585 y572.Bits_.length c587] [_, _, _] (i := 5) rfl rfl rfl rfl rfl rfl ty120 rfl rfl (by intro u hu; simp only [List.mem_cons, List.not_mem_nil, or_false] at hu; rcases hu with rfl | rfl | rfl <;> rfl) rfl rfl rfl kp ?_
      refine ow_nil ?_
      refine x_qs ?_
      refine c_join12 (fun (l695 : List Timpl_Entry) (a696 : Option Addr) (c697 : Nat) (F698 : List Nat) (l699 : List Timpl_Entry) (a700 : Option Addr) (c701 : Nat) (F702 : List Nat) (l703 : List Int) (a704 : Option Addr) (c705 : Nat) (F706 : List Nat) => St w M0 [Res.box b7 56 [.slice a5 p1.Bins_.length c6, .int .i64 p1.Class_], Res.own (eList (eTimpl_Past) 120) F282 l279 [.slice a280 l279.length c281], Res.box b589 120 [.slice a696 l695.length c697, .slice a700 l699.length c701, .slice a704 l703.length c705], Res.own (eList (eTimpl_Entry) 111) F698 l695 [.slice a696 l695.length c697], Res.own (eList (eTimpl_Entry) 111) F702 l699 [.slice a700 l699.length c701], Res.own (eList (eVal (Value.int .i64) (fun _ => rfl)) 3) F706 l703 [.slice a704 l703.length c705]]) (fun (l695 : List Timpl_Entry) (a696 : Option Addr) (c697 : Nat) (F698 : List Nat) (l699 : List Timpl_Entry) (a700 : Option Addr) (c701 : Nat) (F702 : List Nat) (l703 : List Int) (a704 : Option Addr) (c705 : Nat) (F706 : List Nat) => [(0, .slice a_0 p0.length c_0), (2, .slice a_2 p2.length c_2), (4, .pointer (some ⟨b7, 0, none⟩)), (7, .slice a280 l279.length c281), (8, .int .i64 i283), (9, .pointer (some ⟨b589, 0, none⟩))]) (fun (l695 : List Timpl_Entry) (a696 : Option Addr) (c697 : Nat) (F698 : List Nat) (l699 : List Timpl_Entry) (a700 : Option Addr) (c701 : Nat) (F702 : List Nat) (l703 : List Int) (a704 : Option Addr) (c705 : Nat) (F706 : List Nat) => spec_Follow_J1 l279 (spec_Follow_L1 p0 p2 p1 k1) i283 l695 l699 l703 = some r) (fun l695 a696 c697 F698 l699 a700 c701 F702 l703 a704 c705 F706 H => ?_) (fun J1 => ?_)
      · unfold spec_Follow_J1 at H
        refine c_reg ?_
        refine ow_batch [.p] rfl ?_
        refine ow_r rfl (dstOk_lt rfl) (ry_box (off := 0) (ds := [.slice a696 l695.length c697, .slice a700 l699.length c701, .slice a704 l703.length c705]) rfl rfl ty120 (boxIn (i := 2) rfl) rfl rfl) ?_
        refine ow_ex rfl (fun w1 hw1 => fus_Timpl_Past  [3, 4, 5] hw1 rfl rfl) (fun F708 => ?_)
        refine ow_st (C' := St w M0 [_, _, _, _, _, _, _]) rfl (fun _ h => h) ?_
        refine ow_bslice [(0, [.slice a696 l695.length c697, .slice a700 l699.length c701, .slice a704 l703.length c705])] rfl rfl rfl rfl rfl sl71 ty120 rfl rfl ⟨rfl, rfl, Nat.le_of_ble_eq_true rfl,  trivial⟩ [.slice a696 l695.length c697, .slice a700 l699.length c701, .slice a704 l703.length c705] rfl (fun _ => kp) (fun b707 => ?_)
        refine ow_st rfl (fun _ h => lit1 (p := 7) (q := 6) h rfl rfl rfl) ?_
        obtain ⟨l709, h710, H⟩ := of_bind H
        refine ow_appM (r := 1) (j := 8) rfl rfl rfl rfl rfl rfl sl71 ty120 rfl rfl rfl rfl rfl rfl rfl h710 (fun _ _ _ => kp) (fun a711 c712 F713 => ?_)
        refine ow_batch [.p] rfl ?_
        refine ow_nil ?_
        refine x_qb ?_
        refine x_qs ?_
        refine CW.weak (C' := St w M0 [_, _, _]) ?_ (fun _ h => St.sel [0, 2, 9] rfl rfl h)
        refine c_reg ?_
        refine ow_batch [.p, .p, .p] rfl ?_
        refine ow_nil ?_
        exact x_ql (RW.at (ihk1 (l709) (a711) (c712) (F713) (IntKind.i64.wrap (i283 + 1)) (H)) (fun _ h => St.sel [0, 2] rfl rfl h) ⟨rfl, rfl, rfl, rfl, rfl, trivial⟩)
      · refine c_seq ?_
        refine c_reg ?_
        refine ow_batch [.p, .lenS 71 120 sl71, .p, .lenS 74 123 sl74, .p] rfl ?_
        refine ow_nil ?_
        refine x_qs ?_
        refine c_if rfl (fun hb => ?_) (fun hb => ?_)
        · have H := of_if_t hb H
          refine c_seq ?_
          refine c_reg ?_
          refine ow_batch [.p, .p] rfl ?_
          obtain ⟨e714, h715, H⟩ := of_bind H
          refine ow_ixE (e := eTimpl_Step) (xs := p2) (j := i283) rfl rfl rfl rfl rfl sl74 ty123 rfl (fun w1 hw1 => rds_bor g2 w1 hw1) h715 rfl ?_
          refine ow_r rfl (dstOk_lt rfl) (ry_load (cs := [.int .i64 e714.Said_, .int .i64 e714.Bit_, .int .i64 e714.Weight_, .int .i64 e714.Grow_, .int .i64 e714.Young_, .int .i64 e714.Det_, .bool e714.Began_, .bool e714.Swapped_]) rfl rfl ty123 (at_castA (at_eltE (fun w1 hw1 => rds_bor g2 w1 hw1) h715 (fun _ _ h => h)) rfl) rfl) ?_
          refine ow_alloc rfl rfl rfl rfl ty123 (fun _ => kp) (fun b716 => ?_)
          refine ow_storeC (off := 0) [.int .i64 e714.Said_, .int .i64 e714.Bit_, .int .i64 e714.Weight_, .int .i64 e714.Grow_, .int .i64 e714.Young_, .int .i64 e714.Det_, .bool e714.Began_, .bool e714.Swapped_] [_, _, _, _, _, _, _, _] (i := 6) rfl rfl rfl rfl rfl rfl ty123 rfl rfl (by intro u hu; simp only [List.mem_cons, List.not_mem_nil, or_false] at hu; rcases hu with rfl | rfl | rfl | rfl | rfl | rfl | rfl | rfl <;> rfl) rfl rfl rfl kp ?_
          refine ow_nil ?_
          refine x_qs ?_
          refine c_seq ?_
          refine c_reg ?_
          refine ow_r rfl (dstOk_lt rfl) (ry_box (off := 0) (ds := [.slice a5 p1.Bins_.length c6, .int .i64 p1.Class_]) rfl rfl ty56 (boxIn (i := 0) rfl) rfl rfl) ?_
          refine ow_batch [.fa 123 2 2 fa123_2] rfl ?_
          refine ow_r rfl (dstOk_lt rfl) (ry_box1 (off := 2) rfl rfl ty3 (boxIn (i := 6) rfl) rfl) ?_
          refine ow_r rfl (dstOk_lt rfl) (ry_build2 [(0, [.slice a5 p1.Bins_.length c6, .int .i64 p1.Class_]), (2, [.int .i64 e714.Weight_])] [.slice a5 p1.Bins_.length c6, .int .i64 p1.Class_, .int .i64 e714.Weight_] rfl rfl ty111 fs111 rfl ⟨rfl, rfl, Nat.le_of_ble_eq_true rfl, rfl, rfl, Nat.le_of_ble_eq_true rfl,  trivial⟩ rfl) ?_
          refine ow_bslice [(0, [.slice a5 p1.Bins_.length c6, .int .i64 p1.Class_, .int .i64 e714.Weight_])] rfl rfl rfl rfl rfl sl63 ty111 rfl rfl ⟨rfl, rfl, Nat.le_of_ble_eq_true rfl,  trivial⟩ [.slice a5 p1.Bins_.length c6, .int .i64 p1.Class_, .int .i64 e714.Weight_] rfl (fun _ => kp) (fun b717 => ?_)
          obtain ⟨y718, h719, H⟩ := of_bind H
          refine ow_callS rfl fn83 rfl rfl rfl rfl (fun w1 hw1 => spec_l30CopyEntries_ok w1  h719 (hw1.carve [] rfl rfl) ((fun w1 hw1 => rds_lit (i := 7) rfl hw1 (rdm_Timpl_Entry (x := (Timpl_Entry.mk p1 e714.Weight_)) (c0 := [.slice a5 p1.Bins_.length c6, .int .i64 p1.Class_]) (c1 := [.int .i64 e714.Weight_]) (rdm_Timpl_Ex (x := p1) (c0 := [.slice a5 p1.Bins_.length c6]) (c1 := [.int .i64 p1.Class_]) (rds_bor g3 w1 hw1) rfl) rfl)) w1 hw1)) (fun v720 w1 w2 hw1 hR722 => ?_)
          obtain ⟨a723, n724, c725, F726, rfl, hS721⟩ := hR722
          obtain rfl := own_nS (i := 0) hS721 rfl
          refine ⟨St w M0 [_, _, _, _, _, _, _, _, _], hw1.comp [] rfl rfl hS721, fun _ _ => trivial, ?_⟩
          refine ow_batch [.p] rfl ?_
          refine ow_nil ?_
          refine x_qs ?_
          refine c_join4 (fun (l734 : List Timpl_Entry) (a735 : Option Addr) (c736 : Nat) (F737 : List Nat) => St w M0 [Res.box b716 123 [.int .i64 e714.Said_, .int .i64 e714.Bit_, .int .i64 e714.Weight_, .int .i64 e714.Grow_, .int .i64 e714.Young_, .int .i64 e714.Det_, .bool e714.Began_, .bool e714.Swapped_], Res.duo (eList (eTimpl_Entry) 111) F737 l734 [.slice a735 l734.length c736] y718 [.slice a723 y718.length c725], Res.box b7 56 [.slice a5 p1.Bins_.length c6, .int .i64 p1.Class_], Res.own (eList (eTimpl_Past) 120) F282 l279 [.slice a280 l279.length c281], Res.box b589 120 [.slice a735 l734.length c736, .slice a581 y572.Young_.length c583, .slice a585 y572.Bits_.length c587], Res.own (eList (eTimpl_Entry) 111) F584 y572.Young_ [.slice a581 y572.Young_.length c583], Res.own (eList (eVal (Value.int .i64) (fun _ => rfl)) 3) F588 y572.Bits_ [.slice a585 y572.Bits_.length c587]]) (fun (l734 : List Timpl_Entry) (a735 : Option Addr) (c736 : Nat) (F737 : List Nat) => [(0, .slice a_0 p0.length c_0), (2, .slice a_2 p2.length c_2), (4, .pointer (some ⟨b7, 0, none⟩)), (7, .slice a280 l279.length c281), (8, .int .i64 i283), (9, .pointer (some ⟨b589, 0, none⟩)), (10, .pointer (some ⟨b716, 0, none⟩)), (11, .slice a723 y718.length c725)]) (fun (l734 : List Timpl_Entry) (a735 : Option Addr) (c736 : Nat) (F737 : List Nat) => spec_Follow_J2 e714 y718 y572 l279 (spec_Follow_L1 p0 p2 p1 k1) i283 l734 = some r) (fun l734 a735 c736 F737 H => ?_) (fun J2 => ?_)
          · unfold spec_Follow_J2 at H
            refine c_join5 (fun (F765 : List Nat) (l766 : List Timpl_Entry) (a767 : Option Addr) (c768 : Nat) (F769 : List Nat) => St w M0 [Res.box b716 123 [.int .i64 e714.Said_, .int .i64 e714.Bit_, .int .i64 e714.Weight_, .int .i64 e714.Grow_, .int .i64 e714.Young_, .int .i64 e714.Det_, .bool e714.Began_, .bool e714.Swapped_], Res.box b7 56 [.slice a5 p1.Bins_.length c6, .int .i64 p1.Class_], Res.own (eList (eTimpl_Past) 120) F282 l279 [.slice a280 l279.length c281], Res.box b589 120 [.slice a735 l734.length c736, .slice a767 l766.length c768, .slice a585 y572.Bits_.length c587], Res.own (eList (eTimpl_Entry) 111) F765 l734 [.slice a735 l734.length c736], Res.own (eList (eTimpl_Entry) 111) F769 l766 [.slice a767 l766.length c768], Res.own (eList (eVal (Value.int .i64) (fun _ => rfl)) 3) F588 y572.Bits_ [.slice a585 y572.Bits_.length c587]]) (fun (F765 : List Nat) (l766 : List Timpl_Entry) (a767 : Option Addr) (c768 : Nat) (F769 : List Nat) => [(0, .slice a_0 p0.length c_0), (2, .slice a_2 p2.length c_2), (4, .pointer (some ⟨b7, 0, none⟩)), (7, .slice a280 l279.length c281), (8, .int .i64 i283), (9, .pointer (some ⟨b589, 0, none⟩)), (10, .pointer (some ⟨b716, 0, none⟩))]) (fun (F765 : List Nat) (l766 : List Timpl_Entry) (a767 : Option Addr) (c768 : Nat) (F769 : List Nat) => spec_Follow_J3 y572 e714 l279 (spec_Follow_L1 p0 p2 p1 k1) i283 l734 l766 = some r) (fun F765 l766 a767 c768 F769 H => ?_) (fun J3 => ?_)
            · unfold spec_Follow_J3 at H
              refine c_seq ?_
              refine c_reg ?_
              refine ow_batch [.fa 120 2 2 fa120_2] rfl ?_
              refine ow_r rfl (dstOk_lt rfl) (ry_box1 (off := 2) rfl rfl ty22 (boxIn (i := 3) rfl) rfl) ?_
              refine ow_batch [.fa 123 1 1 fa123_1] rfl ?_
              refine ow_r rfl (dstOk_lt rfl) (ry_box1 (off := 1) rfl rfl ty3 (boxIn (i := 0) rfl) rfl) ?_
              refine ow_blit (val := Value.int .i64) (h1 := fun _ => rfl) [e714.Bit_] [(0, [.int .i64 e714.Bit_])] rfl rfl rfl rfl rfl sl22 ty3 rfl rfl rfl ⟨rfl, rfl, Nat.le_of_ble_eq_true rfl,  trivial⟩ rfl rfl (fun _ => kp) (fun b770 => ?_)
              obtain ⟨l771, h772, H⟩ := of_bind H
              refine ow_appR (r := 6) (ys := ([e714.Bit_] : List Int)) rfl rfl rfl rfl rfl rfl sl22 ty3 rfl rfl rfl (fun w1 hw1 => rds_own (r := 7) rfl w1 hw1) h772 (fun _ _ _ => kp) (fun a773 c774 F775 => ?_)
              refine ow_fact rfl (fun w1 hw1 => own_nn (i := 6) hw1 rfl (app_ne h772)) (fun hz776 => ?_)
              refine ow_batch [.fa 120 2 2 fa120_2] rfl ?_
              refine ow_storeC (off := 2) [.slice a773 l771.length c774] [_, _, _] (i := 3) rfl rfl rfl rfl rfl rfl ty22 rfl rfl (by intro u hu; simp only [List.mem_cons, List.not_mem_nil, or_false] at hu; rcases hu with rfl <;> rfl) rfl rfl rfl kp ?_
              refine ow_nil ?_
              refine x_qs ?_
              refine c_join4 (fun (l778 : List Timpl_Entry) (a779 : Option Addr) (c780 : Nat) (F781 : List Nat) => St w M0 [Res.box b716 123 [.int .i64 e714.Said_, .int .i64 e714.Bit_, .int .i64 e714.Weight_, .int .i64 e714.Grow_, .int .i64 e714.Young_, .int .i64 e714.Det_, .bool e714.Began_, .bool e714.Swapped_], Res.box b7 56 [.slice a5 p1.Bins_.length c6, .int .i64 p1.Class_], Res.own (eList (eTimpl_Past) 120) F282 l279 [.slice a280 l279.length c281], Res.box b589 120 [.slice a735 l734.length c736, .slice a779 l778.length c780, .slice a773 l771.length c774], Res.own (eList (eTimpl_Entry) 111) F765 l734 [.slice a735 l734.length c736], Res.own (eList (eTimpl_Entry) 111) F781 l778 [.slice a779 l778.length c780], Res.own (eList (eVal (Value.int .i64) (fun _ => rfl)) 3) F775 l771 [.slice a773 l771.length c774]]) (fun (l778 : List Timpl_Entry) (a779 : Option Addr) (c780 : Nat) (F781 : List Nat) => [(0, .slice a_0 p0.length c_0), (2, .slice a_2 p2.length c_2), (4, .pointer (some ⟨b7, 0, none⟩)), (7, .slice a280 l279.length c281), (8, .int .i64 i283), (9, .pointer (some ⟨b589, 0, none⟩)), (10, .pointer (some ⟨b716, 0, none⟩))]) (fun (l778 : List Timpl_Entry) (a779 : Option Addr) (c780 : Nat) (F781 : List Nat) => spec_Follow_J4 e714 l279 (spec_Follow_L1 p0 p2 p1 k1) i283 l734 l771 l778 = some r) (fun l778 a779 c780 F781 H => ?_) (fun J4 => ?_)
              · unfold spec_Follow_J4 at H
                refine c_seq ?_
                refine c_reg ?_
                refine ow_batch [.fa 123 7 7 fa123_7] rfl ?_
                refine ow_r rfl (dstOk_lt rfl) (ry_box1 (off := 7) rfl rfl ty4 (boxIn (i := 0) rfl) rfl) ?_
                refine ow_nil ?_
                refine x_qs ?_
                refine c_if rfl (fun hb => ?_) (fun hb => ?_)
                · have H := of_if_t hb H
                  refine c_seq ?_
                  refine c_reg ?_
                  refine ow_batch [.fa 120 1 1 fa120_1] rfl ?_
                  refine ow_r rfl (dstOk_lt rfl) (ry_box1 (off := 1) rfl rfl ty63 (boxIn (i := 3) rfl) rfl) ?_
                  refine ow_batch [.fa 120 0 0 fa120_0] rfl ?_
                  refine ow_storeC (off := 0) [.slice a779 l778.length c780] [_, _, _] (i := 3) rfl rfl rfl rfl rfl rfl ty63 rfl rfl (by intro u hu; simp only [List.mem_cons, List.not_mem_nil, or_false] at hu; rcases hu with rfl <;> rfl) rfl rfl rfl kp ?_
                  refine ow_nil ?_
                  refine x_qs ?_
                  refine c_seq ?_
                  refine c_reg ?_
                  refine ow_blit0 (e := eTimpl_Entry) rfl rfl rfl rfl sl63 ty111 (fun _ => kp) (fun b782 => ?_)
                  refine ow_batch [.fa 120 1 1 fa120_1] rfl ?_
                  refine ow_storeC (off := 1) [.slice (some ⟨b782, 0, none⟩) 0 0] [_, _, _] (i := 3) rfl rfl rfl rfl rfl rfl ty63 rfl rfl (by intro u hu; simp only [List.mem_cons, List.not_mem_nil, or_false] at hu; rcases hu with rfl <;> rfl) rfl rfl rfl kp ?_
                  refine ow_nil ?_
                  refine x_qs ?_
                  refine c_reg ?_
                  refine ow_blit0 (e := eVal (Value.int .i64) (fun _ => rfl)) rfl rfl rfl rfl sl22 ty3 (fun _ => kp) (fun b783 => ?_)
                  refine ow_batch [.fa 120 2 2 fa120_2] rfl ?_
                  refine ow_storeC (off := 2) [.slice (some ⟨b783, 0, none⟩) 0 0] [_, _, _] (i := 3) rfl rfl rfl rfl rfl rfl ty22 rfl rfl (by intro u hu; simp only [List.mem_cons, List.not_mem_nil, or_false] at hu; rcases hu with rfl <;> rfl) rfl rfl rfl kp ?_
                  refine ow_nil ?_
                  exact XW.at (J1 (l778) (a779) (c780) (F781) (([] : List Timpl_Entry)) ((some ⟨b782, 0, none⟩)) (0) ([b782]) (([] : List Int)) ((some ⟨b783, 0, none⟩)) (0) ([b783]) (H)) (fun _ h => by have h2 : St w M0 [Res.box b7 56 [.slice a5 p1.Bins_.length c6, .int .i64 p1.Class_], Res.own (eList (eTimpl_Past) 120) F282 l279 [.slice a280 l279.length c281], Res.box b589 120 [.slice a779 l778.length c780, .slice (some ⟨b782, 0, none⟩) 0 0, .slice (some ⟨b783, 0, none⟩) 0 0], Res.own (eList (eTimpl_Entry) 111) F781 l778 [.slice a779 l778.length c780], Res.own (eList (eTimpl_Entry) 111) [b782] ([] : List Timpl_Entry) [.slice (some ⟨b782, 0, none⟩) 0 0], Res.own (eList (eVal (Value.int .i64) (fun _ => rfl)) 3) [b783] ([] : List Int) [.slice (some ⟨b783, 0, none⟩) 0 0]] _ := St.sel [1, 2, 3, 5, 7, 8] rfl rfl h; simpa only [List.length_set, List.length_cons, List.length_nil] using h2) (by simp only [Sub, List.length_set, List.length_cons, List.length_nil]; exact ⟨rfl, rfl, rfl, rfl, rfl, rfl,  trivial⟩)
                · have H := of_if_f hb H
                  refine c_skip ?_
                  exact XW.at (J1 (l734) (a735) (c736) (F765) (l778) (a779) (c780) (F781) (l771) (a773) (c774) (F775) (H)) (fun _ h => St.sel [1, 2, 3, 4, 5, 6] rfl rfl h) ⟨rfl, rfl, rfl, rfl, rfl, rfl, trivial⟩
              · refine c_seq ?_
                refine c_reg ?_
                refine ow_batch [.fa 123 6 6 fa123_6] rfl ?_
                refine ow_r rfl (dstOk_lt rfl) (ry_box1 (off := 6) rfl rfl ty4 (boxIn (i := 0) rfl) rfl) ?_
                refine ow_nil ?_
                refine x_qs ?_
                refine c_if rfl (fun hb => ?_) (fun hb => ?_)
                · have H := of_if_t hb H
                  refine c_reg ?_
                  refine ow_blit0 (e := eTimpl_Entry) rfl rfl rfl rfl sl63 ty111 (fun _ => kp) (fun b784 => ?_)
                  refine ow_batch [.fa 120 1 1 fa120_1] rfl ?_
                  refine ow_storeC (off := 1) [.slice (some ⟨b784, 0, none⟩) 0 0] [_, _, _] (i := 3) rfl rfl rfl rfl rfl rfl ty63 rfl rfl (by intro u hu; simp only [List.mem_cons, List.not_mem_nil, or_false] at hu; rcases hu with rfl <;> rfl) rfl rfl rfl kp ?_
                  refine ow_nil ?_
                  exact XW.at (J4 (([] : List Timpl_Entry)) ((some ⟨b784, 0, none⟩)) (0) ([b784]) (H)) (fun _ h => by have h2 : St w M0 [Res.box b716 123 [.int .i64 e714.Said_, .int .i64 e714.Bit_, .int .i64 e714.Weight_, .int .i64 e714.Grow_, .int .i64 e714.Young_, .int .i64 e714.Det_, .bool e714.Began_, .bool e714.Swapped_], Res.box b7 56 [.slice a5 p1.Bins_.length c6, .int .i64 p1.Class_], Res.own (eList (eTimpl_Past) 120) F282 l279 [.slice a280 l279.length c281], Res.box b589 120 [.slice a735 l734.length c736, .slice (some ⟨b784, 0, none⟩) 0 0, .slice a773 l771.length c774], Res.own (eList (eTimpl_Entry) 111) F765 l734 [.slice a735 l734.length c736], Res.own (eList (eTimpl_Entry) 111) [b784] ([] : List Timpl_Entry) [.slice (some ⟨b784, 0, none⟩) 0 0], Res.own (eList (eVal (Value.int .i64) (fun _ => rfl)) 3) F775 l771 [.slice a773 l771.length c774]] _ := St.sel [0, 1, 2, 3, 4, 8, 6] rfl rfl h; simpa only [List.length_set, List.length_cons, List.length_nil] using h2) (by simp only [Sub, List.length_set, List.length_cons, List.length_nil]; exact ⟨rfl, rfl, rfl, rfl, rfl, rfl, rfl,  trivial⟩)
                · have H := of_if_f hb H
                  refine c_skip ?_
                  exact XW.at (J4 (l766) (a767) (c768) (F769) (H)) (fun _ h => St.sel [0, 1, 2, 3, 4, 5, 6] rfl rfl h) ⟨rfl, rfl, rfl, rfl, rfl, rfl, rfl, trivial⟩
            · refine c_seq ?_
              refine c_reg ?_
              refine ow_batch [.fa 123 4 4 fa123_4] rfl ?_
              refine ow_r rfl (dstOk_lt rfl) (ry_box1 (off := 4) rfl rfl ty3 (boxIn (i := 0) rfl) rfl) ?_
              obtain ⟨y785, h786, H⟩ := of_bind H
              refine ow_q rfl rfl (dstOk_lt rfl) (qy_call rfl fn84 rfl (fun w1 hw1 => spec_l30Grew_ok w1  h786)) (fun _ _ => trivial) ?_
              refine ow_nil ?_
              refine x_qs ?_
              refine c_if rfl (fun hb => ?_) (fun hb => ?_)
              · have H := of_if_t hb H
                refine c_regHT 4 [(0, true), (1, true), (2, true), (3, false)] (St w M0 [Res.box b716 123 [.int .i64 e714.Said_, .int .i64 e714.Bit_, .int .i64 e714.Weight_, .int .i64 e714.Grow_, .int .i64 e714.Young_, .int .i64 e714.Det_, .bool e714.Began_, .bool e714.Swapped_], Res.duo (eList (eTimpl_Entry) 111) F737 l734 [.slice a735 l734.length c736] y718 [.slice a723 y718.length c725], Res.box b7 56 [.slice a5 p1.Bins_.length c6, .int .i64 p1.Class_], Res.own (eList (eTimpl_Past) 120) F282 l279 [.slice a280 l279.length c281], Res.box b589 120 [.slice a735 l734.length c736, .slice a581 y572.Young_.length c583, .slice a585 y572.Bits_.length c587], Res.own (eList (eTimpl_Entry) 111) F584 y572.Young_ [.slice a581 y572.Young_.length c583], Res.own (eList (eVal (Value.int .i64) (fun _ => rfl)) 3) F588 y572.Bits_ [.slice a585 y572.Bits_.length c587]]) mixed (by kernel_rfl) (panicOk_qs (panicOk_qs (panicOk_qb (panicOk_qs (panicOk_ql (panicOk_qb (panicOk_qs panicOk_body))))))) (fun _ h => St.mask [true, true, true, true, true, true, true] rfl h) ?_
                refine ow_batch [.fa 120 1 1 fa120_1] rfl ?_
                refine ow_rH rfl (dstOk_lt rfl) (ry_box1 (off := 1) rfl rfl ty63 (boxIn (i := 4) rfl) rfl) ?_
                refine ow_batch [.p] rfl ?_
                obtain ⟨y796, h797, H⟩ := of_bind H
                refine ow_callS rfl fn83 rfl rfl rfl rfl (fun w1 hw1 => spec_l30CopyEntries_ok w1  h797 (hw1.carve [] rfl rfl) ((fun w1 hw1 => rds_duo (r := 1) rfl w1 hw1) w1 hw1)) (fun v798 w1 w2 hw1 hR800 => ?_)
                obtain ⟨a801, n802, c803, F804, rfl, hS799⟩ := hR800
                obtain rfl := own_nS (i := 0) hS799 rfl
                refine ⟨St w M0 [_, _, _, _, _, _, _, _], hw1.comp [] rfl rfl hS799, (fun _ h => St.mask [true, true, true, true, true, true, true] rfl h), ?_⟩
                refine ow_nilH ?_
                refine x_qt ?_
                obtain ⟨l805, h806, H⟩ := of_bind H
                refine ow_appM (r := 5) (j := 7) rfl rfl rfl rfl rfl rfl sl63 ty111 rfl rfl rfl rfl rfl rfl rfl h806 (fun _ _ _ => kp) (fun a807 c808 F809 => ?_)
                refine ow_batch [.fa 120 1 1 fa120_1] rfl ?_
                refine ow_storeC (off := 1) [.slice a807 l805.length c808] [_, _, _] (i := 4) rfl rfl rfl rfl rfl rfl ty63 rfl rfl (by intro u hu; simp only [List.mem_cons, List.not_mem_nil, or_false] at hu; rcases hu with rfl <;> rfl) rfl rfl rfl kp ?_
                refine ow_nil ?_
                refine xw_ex (fun w1 hw1 => St.unduo (i := 1) hw1 rfl) (fun F810 => ?_)
                refine xw_st (C' := St w M0 [_, _, _, _, _, _, _, _, _, _]) (fun _ h => h) ?_
                exact XW.at (J3 (F810) (l805) (a807) (c808) (F809) (H)) (fun _ h => St.sel [0, 2, 3, 4, 9, 8, 6] rfl rfl h) ⟨rfl, rfl, rfl, rfl, rfl, rfl, rfl, trivial⟩
              · have H := of_if_f hb H
                refine c_skip ?_
                refine xw_ex (fun w1 hw1 => St.unduo (i := 1) hw1 rfl) (fun F811 => ?_)
                refine xw_st (C' := St w M0 [_, _, _, _, _, _, _, _]) (fun _ h => h) ?_
                exact XW.at (J3 (F811) (y572.Young_) (a581) (c583) (F584) (H)) (fun _ h => St.sel [0, 2, 3, 4, 7, 5, 6] rfl rfl h) ⟨rfl, rfl, rfl, rfl, rfl, rfl, rfl, trivial⟩
          · refine c_seq ?_
            refine c_reg ?_
            refine ow_batch [.fa 123 3 3 fa123_3] rfl ?_
            refine ow_r rfl (dstOk_lt rfl) (ry_box1 (off := 3) rfl rfl ty3 (boxIn (i := 6) rfl) rfl) ?_
            obtain ⟨y812, h813, H⟩ := of_bind H
            refine ow_q rfl rfl (dstOk_lt rfl) (qy_call rfl fn84 rfl (fun w1 hw1 => spec_l30Grew_ok w1  h813)) (fun _ _ => trivial) ?_
            refine ow_nil ?_
            refine x_qs ?_
            refine c_if rfl (fun hb => ?_) (fun hb => ?_)
            · have H := of_if_t hb H
              refine c_reg ?_
              refine ow_batch [.fa 120 0 0 fa120_0] rfl ?_
              refine ow_r rfl (dstOk_lt rfl) (ry_box1 (off := 0) rfl rfl ty63 (boxIn (i := 5) rfl) rfl) ?_
              refine ow_batch [.p] rfl ?_
              obtain ⟨l814, h815, H⟩ := of_bind H
              refine ow_appD (r := 2) (j := 8) rfl rfl rfl rfl rfl rfl sl63 ty111 rfl rfl rfl rfl rfl rfl rfl h815 (fun _ _ _ => kp) (fun a816 c817 F818 => ?_)
              refine ow_batch [.fa 120 0 0 fa120_0] rfl ?_
              refine ow_storeC (off := 0) [.slice a816 l814.length c817] [_, _, _] (i := 5) rfl rfl rfl rfl rfl rfl ty63 rfl rfl (by intro u hu; simp only [List.mem_cons, List.not_mem_nil, or_false] at hu; rcases hu with rfl <;> rfl) rfl rfl rfl kp ?_
              refine ow_nil ?_
              exact XW.at (J2 (l814) (a816) (c817) (F818) (H)) (fun _ h => St.sel [6, 9, 0, 1, 5, 3, 4] rfl rfl h) ⟨rfl, rfl, rfl, rfl, rfl, rfl, rfl, rfl, trivial⟩
            · have H := of_if_f hb H
              refine c_skip ?_
              refine xw_st (fun _ h => St.duo 2 8 h rfl rfl rfl) ?_
              exact XW.at (J2 (y572.Tree_) (a577) (c579) ((F580 ++ F726)) (H)) (fun _ h => St.sel [6, 9, 0, 1, 5, 3, 4] rfl rfl h) ⟨rfl, rfl, rfl, rfl, rfl, rfl, rfl, rfl, trivial⟩
        · have H := of_if_f hb H
          refine c_skip ?_
          exact XW.at (J1 (y572.Tree_) (a577) (c579) (F580) (y572.Young_) (a581) (c583) (F584) (y572.Bits_) (a585) (c587) (F588) (H)) (fun _ h => St.sel [0, 1, 5, 2, 3, 4] rfl rfl h) ⟨rfl, rfl, rfl, rfl, rfl, rfl, trivial⟩
    · have H := of_if_f hb H
      refine c_exit ?_
      refine x_qs_exit ?_
      refine x_ql_exit ?_
      refine x_qb_here ?_
      refine x_qs ?_
      refine c_seq ?_
      refine c_reg ?_
      refine ow_batch [.p, .p] rfl ?_
      refine ow_nil ?_
      refine x_qs ?_
      refine c_ret ?_
      exact x_retR (rs := [.tmp 6]) (vs := [.slice a280 l279.length c281]) rfl ⟨rfl, trivial⟩ (fun w' hw' => by
          obtain rfl := of_some H
          exact ⟨_, rfl, a280, l279.length, c281, F282, rfl, hw'.sel [1] rfl rfl⟩)

set_option maxHeartbeats 4000000 in
set_option maxRecDepth 100000 in
theorem lib_slices_Clone___int_int__ok (w : World) {M0 : List Nat} {p0 : List Int} {a_0 : Option Addr} {n_0 c_0 : Nat} {r : List Int} (H : lib_slices_Clone___int_int_ p0 = some r) (HS : St w M0 [] w) (g0 : (eList (eVal (Value.int .i64) (fun _ => rfl)) 3).rd w M0 p0 [.slice a_0 n_0 c_0]) :
    Calls Try.prog 88 #[.slice a_0 n_0 c_0] w (fun en w' => ∃ v, en = .returned v ∧ ∃ (a0 : Option Addr), ∃ (n0 : Nat), ∃ (c0 : Nat), ∃ (F0 : List Nat), v = .slice a0 n0 c0 ∧ St w M0 [Res.own (eList (eVal (Value.int .i64) (fun _ => rfl)) 3) F0 r [.slice a0 n0 c0]] w') := by
  obtain rfl := rd_n g0
  unfold lib_slices_Clone___int_int_ at H
  refine f_enter (vs := [.slice a_0 p0.length c_0]) Try.func88 rfl Try.ntmps88 rfl (HS) ?_
  refine c_seq ?_
  refine c_reg ?_
  refine ow_batch [.p] rfl ?_
  refine ow_nil ?_
  refine x_qs ?_
  refine c_seq ?_
  refine c_seq ?_
  refine c_reg ?_
  refine ow_batch [.p] rfl ?_
  refine ow_r rfl (dstOk_lt rfl) (ry_nilB rfl rfl sl22 rfl) ?_
  refine ow_nil ?_
  refine x_qs ?_
  refine c_if rfl (fun hb => ?_) (fun _ => ?_)
  · obtain rfl : p0 = [] := rd_isNone g0 hb
    have H : some ([] : List Int) = some r := by simpa [app] using H
    refine c_seq ?_
    refine c_reg ?_
    refine ow_batch [.p] rfl ?_
    refine ow_nil ?_
    refine x_qs ?_
    refine c_ret ?_
    refine x_qs_ret ?_
    refine xw_st (fun _ h => St.pushNil (e := eVal (Value.int .i64) (fun _ => rfl)) (T := 3) h) ?_
    exact x_retR (rs := [.tmp 2]) (vs := [.slice none 0 0]) rfl ⟨rfl, trivial⟩ (fun w' hw' => by
        obtain rfl := of_some H
        exact ⟨_, rfl, none, 0, 0, [], rfl, hw'.sel [0] rfl rfl⟩)
  · refine c_skip ?_
    refine x_qs ?_
    refine c_seq ?_
    refine c_reg ?_
    refine ow_blit0 (e := eVal (Value.int .i64) (fun _ => rfl)) rfl rfl rfl rfl sl22 ty3 (fun _ => kp) (fun b1 => ?_)
    refine ow_batch [.p] rfl ?_
    obtain ⟨l2, h3, H⟩ := of_bind H
    refine ow_appR (r := 0) (ys := p0) rfl rfl rfl rfl rfl rfl sl22 ty3 rfl rfl rfl (fun w1 hw1 => rds_bor g0 w1 hw1) h3 (fun _ _ _ => kp) (fun a4 c5 F6 => ?_)
    refine ow_batch [.p] rfl ?_
    refine ow_nil ?_
    refine x_qs ?_
    refine c_ret ?_
    exact x_retR (rs := [.tmp 2]) (vs := [.slice a4 l2.length c5]) rfl ⟨rfl, trivial⟩ (fun w' hw' => by
        obtain rfl := of_some H
        exact ⟨_, rfl, a4, l2.length, c5, F6, rfl, hw'.sel [0] rfl rfl⟩)

set_option maxHeartbeats 4000000 in
set_option maxRecDepth 100000 in
theorem impl_cloneEntries_ok (w : World) {M0 : List Nat} {p0 : List Timpl_Entry} {a_0 : Option Addr} {n_0 c_0 : Nat} {r : List Timpl_Entry} (H : impl_cloneEntries p0 = some r) (HS : St w M0 [] w) (g0 : (eList (eTimpl_Entry) 111).rd w M0 p0 [.slice a_0 n_0 c_0]) :
    Calls Try.prog 87 #[.slice a_0 n_0 c_0] w (fun en w' => ∃ v, en = .returned v ∧ ∃ (a0 : Option Addr), ∃ (n0 : Nat), ∃ (c0 : Nat), ∃ (F0 : List Nat), v = .slice a0 n0 c0 ∧ St w M0 [Res.own (eList (eTimpl_Entry) 111) F0 r [.slice a0 n0 c0]] w') := by
  obtain rfl := rd_n g0
  unfold impl_cloneEntries at H
  refine f_enter (vs := [.slice a_0 p0.length c_0]) Try.func87 rfl Try.ntmps87 rfl (HS) ?_
  refine c_seq ?_
  refine c_reg ?_
  refine ow_batch [.p] rfl ?_
  refine ow_nil ?_
  refine x_qs ?_
  refine c_seq ?_
  refine c_reg ?_
  refine ow_batch [.p] rfl ?_
  refine ow_nil ?_
  refine x_qs ?_
  refine c_seq ?_
  refine c_seq ?_
  refine c_reg ?_
  refine ow_batch [.p, .lenS 63 111 sl63, .p] rfl ?_
  refine ow_nil ?_
  refine x_qs ?_
  refine c_block ?_
  refine CW.weak ?_ (fun _ h => St.pushNil (e := eTimpl_Entry) (T := 111) h)
  refine CW.at (loopI5 (fun (l39 : List Timpl_Entry) (a40 : Option Addr) (c41 : Nat) (F42 : List Nat) (i43 : Int) => St w M0 [Res.own (eList (eTimpl_Entry) 111) F42 l39 [.slice a40 l39.length c41]]) (fun (l39 : List Timpl_Entry) (a40 : Option Addr) (c41 : Nat) (F42 : List Nat) (i43 : Int) => [(3, .slice a40 l39.length c41), (6, .slice a_0 p0.length c_0), (7, .int .i64 (p0.length : Int)), (8, .int .i64 i43)]) (fun kk => fun (l39 : List Timpl_Entry) (a40 : Option Addr) (c41 : Nat) (F42 : List Nat) (i43 : Int) => impl_cloneEntries_L1 p0 kk l39 i43 = some r) (fun _ _ _ _ _ H => ?_) (fun k1 ihk1 l39 a40 c41 F42 i43 H => ?_) Fuel (([] : List Timpl_Entry)) (none) (0) ([]) (0) (H)) (fun _ h => St.sel [0] rfl rfl h) ⟨rfl, rfl, rfl, rfl,  trivial⟩
  · unfold impl_cloneEntries_L1 at H
    exact absurd H (by simp)
  · unfold impl_cloneEntries_L1 at H
    refine c_seq ?_
    refine c_reg ?_
    refine ow_batch [.p] rfl ?_
    refine ow_nil ?_
    refine x_qs ?_
    refine c_seq ?_
    refine c_if rfl (fun hb => ?_) (fun hb => ?_)
    · have H := of_if_t hb H
      refine c_skip ?_
      refine x_qs ?_
      refine c_seq ?_
      refine c_block ?_
      refine c_seq ?_
      refine c_reg ?_
      obtain ⟨e82, h83, H⟩ := of_bind H
      refine ow_ixB rfl rfl rfl rfl rfl sl63 ty111 rfl g0 h83 (fun q86 c87 hd84 hA85 => ?_)
      obtain ⟨c88, c89, rfl, g90, g91⟩ := rdo_Timpl_Entry hd84
      obtain ⟨c92, c93, rfl, g94, g95⟩ := rdo_Timpl_Ex g90
      obtain ⟨a96, c97, rfl⟩ := rd_sl1 g94
      obtain rfl : c93 = [.int .i64 e82.Ex_.Class_] := g95
      obtain rfl : c89 = [.int .i64 e82.Weight_] := g91
      refine ow_r rfl (dstOk_lt rfl) (ry_load (cs := [.slice a96 e82.Ex_.Bins_.length c97, .int .i64 e82.Ex_.Class_, .int .i64 e82.Weight_]) rfl rfl ty111 (at_bor bor hA85) rfl) ?_
      refine ow_alloc rfl rfl rfl rfl ty111 (fun _ => kp) (fun b98 => ?_)
      refine ow_storeC (off := 0) [.slice a96 e82.Ex_.Bins_.length c97, .int .i64 e82.Ex_.Class_, .int .i64 e82.Weight_] [_, _, _] (i := 1) rfl rfl rfl rfl rfl rfl ty111 rfl rfl (by intro u hu; simp only [List.mem_cons, List.not_mem_nil, or_false] at hu; rcases hu with rfl | rfl | rfl <;> rfl) rfl rfl rfl kp ?_
      refine ow_nil ?_
      refine x_qs ?_
      refine c_seq ?_
      refine c_reg ?_
      refine ow_batch [.fa 111 0 0 fa111_0, .fa 56 0 0 fa56_0] rfl ?_
      refine ow_r rfl (dstOk_lt rfl) (ry_box1 (off := 0) rfl rfl ty22 (boxIn (i := 1) rfl) rfl) ?_
      obtain ⟨y99, h100, H⟩ := of_bind H
      refine ow_callS rfl fn88 rfl rfl rfl rfl (fun w1 hw1 => lib_slices_Clone___int_int__ok w1  h100 (hw1.carve [] rfl rfl) (rds_bor g94 w1 hw1)) (fun v101 w1 w2 hw1 hR103 => ?_)
      obtain ⟨a104, n105, c106, F107, rfl, hS102⟩ := hR103
      obtain rfl := own_nS (i := 0) hS102 rfl
      refine ⟨St w M0 [_, _, _], hw1.comp [] rfl rfl hS102, fun _ _ => trivial, ?_⟩
      refine ow_batch [.fa 111 0 0 fa111_0, .fa 56 0 0 fa56_0] rfl ?_
      refine ow_storeC (off := 0) [.slice a104 y99.length c106] [_, _, _] (i := 1) rfl rfl rfl rfl rfl rfl ty22 rfl rfl (by intro u hu; simp only [List.mem_cons, List.not_mem_nil, or_false] at hu; rcases hu with rfl <;> rfl) rfl rfl rfl kp ?_
      refine ow_nil ?_
      refine x_qs ?_
      refine c_reg ?_
      refine ow_batch [.p] rfl ?_
      refine ow_r rfl (dstOk_lt rfl) (ry_box (off := 0) (ds := [.slice a104 y99.length c106, .int .i64 e82.Ex_.Class_, .int .i64 e82.Weight_]) rfl rfl ty111 (boxIn (i := 1) rfl) rfl rfl) ?_
      refine ow_ex rfl (fun w1 hw1 => fus_Timpl_Entry (x1 := e82.Ex_.Class_) (x2 := e82.Weight_) [2] hw1 rfl rfl) (fun F109 => ?_)
      refine ow_st (C' := St w M0 [_, _, _, _]) rfl (fun _ h => h) ?_
      refine ow_bslice [(0, [.slice a104 y99.length c106, .int .i64 e82.Ex_.Class_, .int .i64 e82.Weight_])] rfl rfl rfl rfl rfl sl63 ty111 rfl rfl ⟨rfl, rfl, Nat.le_of_ble_eq_true rfl,  trivial⟩ [.slice a104 y99.length c106, .int .i64 e82.Ex_.Class_, .int .i64 e82.Weight_] rfl (fun _ => kp) (fun b108 => ?_)
      refine ow_st rfl (fun _ h => lit1 (p := 4) (q := 3) h rfl rfl rfl) ?_
      obtain ⟨l110, h111, H⟩ := of_bind H
      refine ow_appM (r := 0) (j := 5) rfl rfl rfl rfl rfl rfl sl63 ty111 rfl rfl rfl rfl rfl rfl rfl h111 (fun _ _ _ => kp) (fun a112 c113 F114 => ?_)
      refine ow_batch [.p] rfl ?_
      refine ow_nil ?_
      refine x_qb ?_
      refine x_qs ?_
      refine CW.weak (C' := St w M0 [_, _]) ?_ (fun _ h => St.sel [1, 6] rfl rfl h)
      refine c_reg ?_
      refine ow_batch [.p, .p] rfl ?_
      refine ow_nil ?_
      exact x_ql (RW.at (ihk1 (l110) (a112) (c113) (F114) (IntKind.i64.wrap (i43 + 1)) (H)) (fun _ h => St.sel [1] rfl rfl h) ⟨rfl, rfl, rfl, rfl, trivial⟩)
    · have H := of_if_f hb H
      refine c_exit ?_
      refine x_qs_exit ?_
      refine x_ql_exit ?_
      refine x_qb_here ?_
      refine x_qs ?_
      refine c_seq ?_
      refine c_reg ?_
      refine ow_batch [.p, .p] rfl ?_
      refine ow_nil ?_
      refine x_qs ?_
      refine c_ret ?_
      exact x_retR (rs := [.tmp 2]) (vs := [.slice a40 l39.length c41]) rfl ⟨rfl, trivial⟩ (fun w' hw' => by
          obtain rfl := of_some H
          exact ⟨_, rfl, a40, l39.length, c41, F42, rfl, hw'.sel [0] rfl rfl⟩)

set_option maxHeartbeats 4000000 in
set_option maxRecDepth 100000 in
theorem impl_learned_ok (w : World) {p0 : Int}  {r : Bool} (H : impl_learned p0 = some r)   :
    Calls Try.prog 90 #[.int .i64 p0] w (fun en w' => en = .returned (.bool r) ∧ Ext [] w w') := by
  unfold impl_learned at H
  refine f_enter (vs := [.int .i64 p0]) Try.func90 rfl Try.ntmps90 rfl (St.init w []) ?_
  refine c_seq ?_
  refine c_reg ?_
  refine ow_batch [.p] rfl ?_
  refine ow_nil ?_
  refine x_qs ?_
  refine c_seq ?_
  refine c_reg ?_
  refine ow_batch [.p, .p, .p] rfl ?_
  refine ow_cut [(8, .bool ((p0 == 0) || (p0 == 1))), (2, .bool false)] 3 ?_ (fun key => OW.sub (R := [(0, .int .i64 p0), (2, .bool false), (5, .bool (p0 == 0))]) ?_ ⟨rfl, rfl, rfl, trivial⟩)
  · refine ow_batch [.p] rfl ?_
    refine ow_nil ?_
    refine x_qs ?_
    refine c_ret ?_
    exact x_retR (rs := [.tmp 2]) (vs := [.bool ((p0 == 0) || (p0 == 1))]) rfl ⟨rfl, trivial⟩ (fun w' hw' => by
        obtain rfl := of_some H
        exact ⟨rfl, hw'.ext⟩)
  · generalize (p0 == 0) = t2 at key ⊢
    cases t2
    · refine ow_batch [.p, .p] rfl ?_
      refine ow_batch [.p] rfl ?_
      exact OW.sub key ⟨rfl, rfl, trivial⟩
    · refine ow_batch [.p, .p, .p] rfl ?_
      exact OW.sub key ⟨rfl, rfl, trivial⟩

set_option maxHeartbeats 4000000 in
set_option maxRecDepth 100000 in
theorem impl_Follow_1_ok (w : World) {M0 : List Nat} {p0 : Timpl_Ex} {p1 : Timpl_Step} {q_0 : Addr} {cs_0 : List Value} {q_1 : Addr} {cs_1 : List Value} {r : List Timpl_Entry} (H : impl_Follow_1 p0 p1 = some r) (HS : St w M0 [] w) (g_0 : (eTimpl_Ex).rd w M0 p0 cs_0) (hA_0 : At w M0 q_0 cs_0) (g_1 : (eTimpl_Step).rd w M0 p1 cs_1) (hA_1 : At w M0 q_1 cs_1) :
    Calls Try.prog 89 #[.pointer (some q_0), .pointer (some q_1)] w (fun en w' => ∃ v, en = .returned v ∧ ∃ (a0 : Option Addr), ∃ (n0 : Nat), ∃ (c0 : Nat), ∃ (F0 : List Nat), v = .slice a0 n0 c0 ∧ St w M0 [Res.own (eList (eTimpl_Entry) 111) F0 r [.slice a0 n0 c0]] w') := by
  obtain ⟨c1, c2, rfl, g3, g4⟩ := rdo_Timpl_Ex g_0
  obtain ⟨a5, c6, rfl⟩ := rd_sl1 g3
  obtain rfl : c2 = [.int .i64 p0.Class_] := g4
  obtain rfl : cs_1 = [.int .i64 p1.Said_, .int .i64 p1.Bit_, .int .i64 p1.Weight_, .int .i64 p1.Grow_, .int .i64 p1.Young_, .int .i64 p1.Det_, .bool p1.Began_, .bool p1.Swapped_] := g_1
  unfold impl_Follow_1 at H
  refine f_enter (vs := [.pointer (some q_0), .pointer (some q_1)]) Try.func89 rfl Try.ntmps89 rfl (HS) ?_
  refine c_seq ?_
  refine c_reg ?_
  refine ow_batch [.p] rfl ?_
  refine ow_nil ?_
  refine x_qs ?_
  refine c_seq ?_
  refine c_reg ?_
  refine ow_r rfl (dstOk_lt rfl) (ry_load (cs := [.slice a5 p0.Bins_.length c6, .int .i64 p0.Class_]) rfl rfl ty56 (at_bor bor hA_0) rfl) ?_
  refine ow_batch [.fa 123 2 2 fa123_2] rfl ?_
  refine ow_r rfl (dstOk_lt rfl) (ry_load1 rfl rfl ty3 (at_bor bor (at_K hA_1 2 1))) ?_
  refine ow_r rfl (dstOk_lt rfl) (ry_build2 [(0, [.slice a5 p0.Bins_.length c6, .int .i64 p0.Class_]), (2, [.int .i64 p1.Weight_])] [.slice a5 p0.Bins_.length c6, .int .i64 p0.Class_, .int .i64 p1.Weight_] rfl rfl ty111 fs111 rfl ⟨rfl, rfl, Nat.le_of_ble_eq_true rfl, rfl, rfl, Nat.le_of_ble_eq_true rfl,  trivial⟩ rfl) ?_
  refine ow_bslice [(0, [.slice a5 p0.Bins_.length c6, .int .i64 p0.Class_, .int .i64 p1.Weight_])] rfl rfl rfl rfl rfl sl63 ty111 rfl rfl ⟨rfl, rfl, Nat.le_of_ble_eq_true rfl,  trivial⟩ [.slice a5 p0.Bins_.length c6, .int .i64 p0.Class_, .int .i64 p1.Weight_] rfl (fun _ => kp) (fun b7 => ?_)
  obtain ⟨y8, h9, H⟩ := of_bind H
  refine ow_callS rfl fn87 rfl rfl rfl rfl (fun w1 hw1 => impl_cloneEntries_ok w1  h9 (hw1.carve [] rfl rfl) ((fun w1 hw1 => rds_lit (i := 0) rfl hw1 (rdm_Timpl_Entry (x := (Timpl_Entry.mk p0 p1.Weight_)) (c0 := [.slice a5 p0.Bins_.length c6, .int .i64 p0.Class_]) (c1 := [.int .i64 p1.Weight_]) (rdm_Timpl_Ex (x := p0) (c0 := [.slice a5 p0.Bins_.length c6]) (c1 := [.int .i64 p0.Class_]) (rds_bor g3 w1 hw1) rfl) rfl)) w1 hw1)) (fun v10 w1 w2 hw1 hR12 => ?_)
  obtain ⟨a13, n14, c15, F16, rfl, hS11⟩ := hR12
  obtain rfl := own_nS (i := 0) hS11 rfl
  refine ⟨St w M0 [_, _], hw1.comp [] rfl rfl hS11, fun _ _ => trivial, ?_⟩
  refine ow_batch [.p] rfl ?_
  refine ow_nil ?_
  refine x_qs ?_
  refine c_ret ?_
  exact x_retR (rs := [.tmp 2]) (vs := [.slice a13 y8.length c15]) rfl ⟨rfl, trivial⟩ (fun w' hw' => by
      obtain rfl := of_some H
      exact ⟨_, rfl, a13, y8.length, c15, F16, rfl, hw'.sel [1] rfl rfl⟩)

set_option maxHeartbeats 4000000 in
set_option maxRecDepth 100000 in
theorem impl_Follow_ok (w : World) {M0 : List Nat} {p0 : List Timpl_Past} {p1 : Timpl_Ex} {p2 : List Timpl_Step} {a_0 : Option Addr} {n_0 c_0 : Nat} {cs1 : List Value} {a_2 : Option Addr} {n_2 c_2 : Nat} {r : List Timpl_Past} (H : impl_Follow p0 p1 p2 = some r) (HS : St w M0 [] w) (g0 : (eList (eTimpl_Past) 120).rd w M0 p0 [.slice a_0 n_0 c_0]) (g1 : (eTimpl_Ex).rd w M0 p1 cs1) (g2 : (eList (eTimpl_Step) 123).rd w M0 p2 [.slice a_2 n_2 c_2]) :
    Calls Try.prog 43 #[.slice a_0 n_0 c_0, .agg cs1.toArray, .slice a_2 n_2 c_2] w (fun en w' => ∃ v, en = .returned v ∧ ∃ (a0 : Option Addr), ∃ (n0 : Nat), ∃ (c0 : Nat), ∃ (F0 : List Nat), v = .slice a0 n0 c0 ∧ St w M0 [Res.own (eList (eTimpl_Past) 120) F0 r [.slice a0 n0 c0]] w') := by
  obtain rfl := rd_n g0
  obtain ⟨c1, c2, rfl, g3, g4⟩ := rdo_Timpl_Ex g1
  obtain ⟨a5, c6, rfl⟩ := rd_sl1 g3
  obtain rfl : c2 = [.int .i64 p1.Class_] := g4
  obtain rfl := rd_n g2
  unfold impl_Follow at H
  refine f_enter (vs := [.slice a_0 p0.length c_0, .agg #[.slice a5 p1.Bins_.length c6, .int .i64 p1.Class_], .slice a_2 p2.length c_2]) Try.func43 rfl Try.ntmps43 rfl (HS) ?_
  refine c_seq ?_
  refine c_reg ?_
  refine ow_box (cs := [.slice a5 p1.Bins_.length c6, .int .i64 p1.Class_]) rfl rfl rfl rfl rfl rfl (fun _ => kp) (fun b7 => ?_)
  refine ow_batch [.p] rfl ?_
  refine ow_nil ?_
  refine x_qs ?_
  refine c_seq ?_
  refine c_reg ?_
  refine ow_blit0 (e := eTimpl_Past) rfl rfl rfl rfl sl71 ty120 (fun _ => kp) (fun b8 => ?_)
  refine ow_batch [.p] rfl ?_
  refine ow_nil ?_
  refine x_qs ?_
  refine c_seq ?_
  refine c_seq ?_
  refine c_reg ?_
  refine ow_batch [.p, .lenS 71 120 sl71, .p] rfl ?_
  refine ow_nil ?_
  refine x_qs ?_
  refine c_block ?_
  refine CW.at (loopI5 (fun (i345 : Int) (l346 : List Timpl_Past) (a347 : Option Addr) (c348 : Nat) (F349 : List Nat) => St w M0 [Res.box b7 56 [.slice a5 p1.Bins_.length c6, .int .i64 p1.Class_], Res.own (eList (eTimpl_Past) 120) F349 l346 [.slice a347 l346.length c348]]) (fun (i345 : Int) (l346 : List Timpl_Past) (a347 : Option Addr) (c348 : Nat) (F349 : List Nat) => [(0, .slice a_0 p0.length c_0), (2, .slice a_2 p2.length c_2), (4, .pointer (some ⟨b7, 0, none⟩)), (7, .slice a347 l346.length c348), (13, .slice a_0 p0.length c_0), (14, .int .i64 (p0.length : Int)), (15, .int .i64 i345)]) (fun kk => fun (i345 : Int) (l346 : List Timpl_Past) (a347 : Option Addr) (c348 : Nat) (F349 : List Nat) => impl_Follow_L1 p0 p2 p1 kk i345 l346 = some r) (fun _ _ _ _ _ H => ?_) (fun k1 ihk1 i345 l346 a347 c348 F349 H => ?_) Fuel (0) (([] : List Timpl_Past)) ((some ⟨b8, 0, none⟩)) (0) ([b8]) (H)) (fun _ h => St.sel [0, 1] rfl rfl h) ⟨rfl, rfl, rfl, rfl, rfl, rfl, rfl,  trivial⟩
  · unfold impl_Follow_L1 at H
    exact absurd H (by simp)
  · unfold impl_Follow_L1 at H
    refine c_seq ?_
    refine c_reg ?_
    refine ow_batch [.p] rfl ?_
    refine ow_nil ?_
    refine x_qs ?_
    refine c_seq ?_
    refine c_if rfl (fun hb => ?_) (fun hb => ?_)
    · have H := of_if_t hb H
      refine c_skip ?_
      refine x_qs ?_
      refine c_seq ?_
      refine c_block ?_
      refine c_seq ?_
      refine c_reg ?_
      refine ow_batch [.p] rfl ?_
      obtain ⟨e686, h687, H⟩ := of_bind H
      refine ow_ixB rfl rfl rfl rfl rfl sl71 ty120 rfl g0 h687 (fun q690 c691 hd688 hA689 => ?_)
      obtain ⟨c692, c693, c694, rfl, g695, g696, g697⟩ := rdo_Timpl_Past hd688
      obtain ⟨a698, c699, rfl⟩ := rd_sl1 g695
      obtain ⟨a700, c701, rfl⟩ := rd_sl1 g696
      obtain ⟨a702, c703, rfl⟩ := rd_sl1 g697
      refine ow_r rfl (dstOk_lt rfl) (ry_load (cs := [.slice a698 e686.Tree_.length c699, .slice a700 e686.Young_.length c701, .slice a702 e686.Bits_.length c703]) rfl rfl ty120 (at_bor bor hA689) rfl) ?_
      refine ow_alloc rfl rfl rfl rfl ty120 (fun _ => kp) (fun b704 => ?_)
      refine ow_batch [.p] rfl ?_
      refine ow_storeC (off := 0) [.slice a698 e686.Tree_.length c699, .slice a700 e686.Young_.length c701, .slice a702 e686.Bits_.length c703] [_, _, _] (i := 2) rfl rfl rfl rfl rfl rfl ty120 rfl rfl (by intro u hu; simp only [List.mem_cons, List.not_mem_nil, or_false] at hu; rcases hu with rfl | rfl | rfl <;> rfl) rfl rfl rfl kp ?_
      refine ow_nil ?_
      refine x_qs ?_
      refine c_seq ?_
      refine c_regHT 8 [(0, true), (1, true), (3, true), (4, true), (6, true), (7, true), (2, false), (5, false)] (St w M0 [Res.box b7 56 [.slice a5 p1.Bins_.length c6, .int .i64 p1.Class_], Res.own (eList (eTimpl_Past) 120) F349 l346 [.slice a347 l346.length c348], Res.box b704 120 [.slice a698 e686.Tree_.length c699, .slice a700 e686.Young_.length c701, .slice a702 e686.Bits_.length c703]]) mixed (by kernel_rfl) (panicOk_qs (panicOk_qb (panicOk_qs (panicOk_ql (panicOk_qb (panicOk_qs panicOk_body)))))) (fun _ h => St.mask [true, true, true] rfl h) ?_
      refine ow_batch [.fa 120 0 0 fa120_0] rfl ?_
      refine ow_rH rfl (dstOk_lt rfl) (ry_box1 (off := 0) rfl rfl ty63 (boxIn (i := 2) rfl) rfl) ?_
      refine ow_batch [.fa 120 1 1 fa120_1] rfl ?_
      refine ow_rH rfl (dstOk_lt rfl) (ry_box1 (off := 1) rfl rfl ty63 (boxIn (i := 2) rfl) rfl) ?_
      refine ow_batch [.fa 120 2 2 fa120_2] rfl ?_
      refine ow_rH rfl (dstOk_lt rfl) (ry_box1 (off := 2) rfl rfl ty22 (boxIn (i := 2) rfl) rfl) ?_
      obtain ⟨y723, h724, H⟩ := of_bind H
      refine ow_callS rfl fn87 rfl rfl rfl rfl (fun w1 hw1 => impl_cloneEntries_ok w1  h724 (hw1.carve [] rfl rfl) (rds_bor g695 w1 hw1)) (fun v725 w1 w2 hw1 hR727 => ?_)
      obtain ⟨a728, n729, c730, F731, rfl, hS726⟩ := hR727
      obtain rfl := own_nS (i := 0) hS726 rfl
      refine ⟨St w M0 [_, _, _, _], hw1.comp [] rfl rfl hS726, (fun _ h => St.mask [true, true, true] rfl h), ?_⟩
      obtain ⟨y732, h733, H⟩ := of_bind H
      refine ow_callS rfl fn87 rfl rfl rfl rfl (fun w1 hw1 => impl_cloneEntries_ok w1  h733 (hw1.carve [] rfl rfl) (rds_bor g696 w1 hw1)) (fun v734 w1 w2 hw1 hR736 => ?_)
      obtain ⟨a737, n738, c739, F740, rfl, hS735⟩ := hR736
      obtain rfl := own_nS (i := 0) hS735 rfl
      refine ⟨St w M0 [_, _, _, _, _], hw1.comp [] rfl rfl hS735, (fun _ h => St.mask [true, true, true] rfl h), ?_⟩
      refine ow_nilH ?_
      refine x_qt ?_
      obtain ⟨y741, h742, H⟩ := of_bind H
      refine ow_callS rfl fn88 rfl rfl rfl rfl (fun w1 hw1 => lib_slices_Clone___int_int__ok w1  h742 (hw1.carve [] rfl rfl) (rds_bor g697 w1 hw1)) (fun v743 w1 w2 hw1 hR745 => ?_)
      obtain ⟨a746, n747, c748, F749, rfl, hS744⟩ := hR745
      obtain rfl := own_nS (i := 0) hS744 rfl
      refine ⟨St w M0 [_, _, _, _, _, _], hw1.comp [] rfl rfl hS744, fun _ _ => trivial, ?_⟩
      refine ow_r rfl (dstOk_lt rfl) (ry_build2 [(0, [.slice a728 y723.length c730]), (1, [.slice a737 y732.length c739]), (2, [.slice a746 y741.length c748])] [.slice a728 y723.length c730, .slice a737 y732.length c739, .slice a746 y741.length c748] rfl rfl ty120 fs120 rfl ⟨rfl, rfl, Nat.le_of_ble_eq_true rfl, rfl, rfl, Nat.le_of_ble_eq_true rfl, rfl, rfl, Nat.le_of_ble_eq_true rfl,  trivial⟩ rfl) ?_
      refine ow_storeC (off := 0) [.slice a728 y723.length c730, .slice a737 y732.length c739, .slice a746 y741.length c748] [_, _, _] (i := 2) rfl rfl rfl rfl rfl rfl ty120 rfl rfl (by intro u hu; simp only [List.mem_cons, List.not_mem_nil, or_false] at hu; rcases hu with rfl | rfl | rfl <;> rfl) rfl rfl rfl kp ?_
      refine ow_nil ?_
      refine x_qs ?_
      refine c_join12 (fun (l876 : List Timpl_Entry) (a877 : Option Addr) (c878 : Nat) (F879 : List Nat) (l880 : List Timpl_Entry) (a881 : Option Addr) (c882 : Nat) (F883 : List Nat) (l884 : List Int) (a885 : Option Addr) (c886 : Nat) (F887 : List Nat) => St w M0 [Res.box b7 56 [.slice a5 p1.Bins_.length c6, .int .i64 p1.Class_], Res.own (eList (eTimpl_Past) 120) F349 l346 [.slice a347 l346.length c348], Res.box b704 120 [.slice a877 l876.length c878, .slice a881 l880.length c882, .slice a885 l884.length c886], Res.own (eList (eTimpl_Entry) 111) F879 l876 [.slice a877 l876.length c878], Res.own (eList (eTimpl_Entry) 111) F883 l880 [.slice a881 l880.length c882], Res.own (eList (eVal (Value.int .i64) (fun _ => rfl)) 3) F887 l884 [.slice a885 l884.length c886]]) (fun (l876 : List Timpl_Entry) (a877 : Option Addr) (c878 : Nat) (F879 : List Nat) (l880 : List Timpl_Entry) (a881 : Option Addr) (c882 : Nat) (F883 : List Nat) (l884 : List Int) (a885 : Option Addr) (c886 : Nat) (F887 : List Nat) => [(0, .slice a_0 p0.length c_0), (2, .slice a_2 p2.length c_2), (4, .pointer (some ⟨b7, 0, none⟩)), (7, .slice a347 l346.length c348), (9, .pointer (some ⟨b704, 0, none⟩)), (13, .slice a_0 p0.length c_0), (14, .int .i64 (p0.length : Int)), (15, .int .i64 i345)]) (fun (l876 : List Timpl_Entry) (a877 : Option Addr) (c878 : Nat) (F879 : List Nat) (l880 : List Timpl_Entry) (a881 : Option Addr) (c882 : Nat) (F883 : List Nat) (l884 : List Int) (a885 : Option Addr) (c886 : Nat) (F887 : List Nat) => impl_Follow_J1 l346 (impl_Follow_L1 p0 p2 p1 k1) i345 l876 l880 l884 = some r) (fun l876 a877 c878 F879 l880 a881 c882 F883 l884 a885 c886 F887 H => ?_) (fun J1 => ?_)
      · unfold impl_Follow_J1 at H
        refine c_reg ?_
        refine ow_batch [.p] rfl ?_
        refine ow_r rfl (dstOk_lt rfl) (ry_box (off := 0) (ds := [.slice a877 l876.length c878, .slice a881 l880.length c882, .slice a885 l884.length c886]) rfl rfl ty120 (boxIn (i := 2) rfl) rfl rfl) ?_
        refine ow_ex rfl (fun w1 hw1 => fus_Timpl_Past  [3, 4, 5] hw1 rfl rfl) (fun F889 => ?_)
        refine ow_st (C' := St w M0 [_, _, _, _, _, _, _]) rfl (fun _ h => h) ?_
        refine ow_bslice [(0, [.slice a877 l876.length c878, .slice a881 l880.length c882, .slice a885 l884.length c886])] rfl rfl rfl rfl rfl sl71 ty120 rfl rfl ⟨rfl, rfl, Nat.le_of_ble_eq_true rfl,  trivial⟩ [.slice a877 l876.length c878, .slice a881 l880.length c882, .slice a885 l884.length c886] rfl (fun _ => kp) (fun b888 => ?_)
        refine ow_st rfl (fun _ h => lit1 (p := 7) (q := 6) h rfl rfl rfl) ?_
        obtain ⟨l890, h891, H⟩ := of_bind H
        refine ow_appM (r := 1) (j := 8) rfl rfl rfl rfl rfl rfl sl71 ty120 rfl rfl rfl rfl rfl rfl rfl h891 (fun _ _ _ => kp) (fun a892 c893 F894 => ?_)
        refine ow_batch [.p] rfl ?_
        refine ow_nil ?_
        refine x_qb ?_
        refine x_qs ?_
        refine CW.weak (C' := St w M0 [_, _, _]) ?_ (fun _ h => St.sel [0, 2, 9] rfl rfl h)
        refine c_reg ?_
        refine ow_batch [.p, .p] rfl ?_
        refine ow_nil ?_
        exact x_ql (RW.at (ihk1 (IntKind.i64.wrap (i345 + 1)) (l890) (a892) (c893) (F894) (H)) (fun _ h => St.sel [0, 2] rfl rfl h) ⟨rfl, rfl, rfl, rfl, rfl, rfl, rfl, trivial⟩)
      · refine c_seq ?_
        refine c_reg ?_
        refine ow_batch [.p, .lenS 71 120 sl71, .p, .lenS 74 123 sl74, .p] rfl ?_
        refine ow_nil ?_
        refine x_qs ?_
        refine c_if rfl (fun hb => ?_) (fun hb => ?_)
        · have H := of_if_t hb H
          refine c_seq ?_
          refine c_reg ?_
          refine ow_batch [.p, .p] rfl ?_
          obtain ⟨e895, h896, H⟩ := of_bind H
          refine ow_ixE (e := eTimpl_Step) (xs := p2) (j := i345) rfl rfl rfl rfl rfl sl74 ty123 rfl (fun w1 hw1 => rds_bor g2 w1 hw1) h896 rfl ?_
          refine ow_r rfl (dstOk_lt rfl) (ry_load (cs := [.int .i64 e895.Said_, .int .i64 e895.Bit_, .int .i64 e895.Weight_, .int .i64 e895.Grow_, .int .i64 e895.Young_, .int .i64 e895.Det_, .bool e895.Began_, .bool e895.Swapped_]) rfl rfl ty123 (at_castA (at_eltE (fun w1 hw1 => rds_bor g2 w1 hw1) h896 (fun _ _ h => h)) rfl) rfl) ?_
          refine ow_alloc rfl rfl rfl rfl ty123 (fun _ => kp) (fun b897 => ?_)
          refine ow_storeC (off := 0) [.int .i64 e895.Said_, .int .i64 e895.Bit_, .int .i64 e895.Weight_, .int .i64 e895.Grow_, .int .i64 e895.Young_, .int .i64 e895.Det_, .bool e895.Began_, .bool e895.Swapped_] [_, _, _, _, _, _, _, _] (i := 6) rfl rfl rfl rfl rfl rfl ty123 rfl rfl (by intro u hu; simp only [List.mem_cons, List.not_mem_nil, or_false] at hu; rcases hu with rfl | rfl | rfl | rfl | rfl | rfl | rfl | rfl <;> rfl) rfl rfl rfl kp ?_
          refine ow_nil ?_
          refine x_qs ?_
          refine c_seq ?_
          refine c_reg ?_
          refine ow_r rfl (dstOk_lt rfl) (ry_makeFunc rfl rfl) ?_
          refine ow_batch [.p] rfl ?_
          refine ow_nil ?_
          refine x_qs ?_
          refine c_join4 (fun (l923 : List Timpl_Entry) (a924 : Option Addr) (c925 : Nat) (F926 : List Nat) => St w M0 [Res.box b897 123 [.int .i64 e895.Said_, .int .i64 e895.Bit_, .int .i64 e895.Weight_, .int .i64 e895.Grow_, .int .i64 e895.Young_, .int .i64 e895.Det_, .bool e895.Began_, .bool e895.Swapped_], Res.box b7 56 [.slice a5 p1.Bins_.length c6, .int .i64 p1.Class_], Res.own (eList (eTimpl_Past) 120) F349 l346 [.slice a347 l346.length c348], Res.box b704 120 [.slice a924 l923.length c925, .slice a737 y732.length c739, .slice a746 y741.length c748], Res.own (eList (eTimpl_Entry) 111) F926 l923 [.slice a924 l923.length c925], Res.own (eList (eTimpl_Entry) 111) F740 y732 [.slice a737 y732.length c739], Res.own (eList (eVal (Value.int .i64) (fun _ => rfl)) 3) F749 y741 [.slice a746 y741.length c748]]) (fun (l923 : List Timpl_Entry) (a924 : Option Addr) (c925 : Nat) (F926 : List Nat) => [(0, .slice a_0 p0.length c_0), (2, .slice a_2 p2.length c_2), (4, .pointer (some ⟨b7, 0, none⟩)), (7, .slice a347 l346.length c348), (9, .pointer (some ⟨b704, 0, none⟩)), (10, .pointer (some ⟨b897, 0, none⟩)), (11, .func (.func 89) #[] #[.pointer (some ⟨b7, 0, none⟩), .pointer (some ⟨b897, 0, none⟩)]), (13, .slice a_0 p0.length c_0), (14, .int .i64 (p0.length : Int)), (15, .int .i64 i345)]) (fun (l923 : List Timpl_Entry) (a924 : Option Addr) (c925 : Nat) (F926 : List Nat) => impl_Follow_J2 e895 p1 y732 y741 l346 (impl_Follow_L1 p0 p2 p1 k1) i345 l923 = some r) (fun l923 a924 c925 F926 H => ?_) (fun J2 => ?_)
          · unfold impl_Follow_J2 at H
            refine c_join4 (fun (l952 : List Timpl_Entry) (a953 : Option Addr) (c954 : Nat) (F955 : List Nat) => St w M0 [Res.box b897 123 [.int .i64 e895.Said_, .int .i64 e895.Bit_, .int .i64 e895.Weight_, .int .i64 e895.Grow_, .int .i64 e895.Young_, .int .i64 e895.Det_, .bool e895.Began_, .bool e895.Swapped_], Res.box b7 56 [.slice a5 p1.Bins_.length c6, .int .i64 p1.Class_], Res.own (eList (eTimpl_Past) 120) F349 l346 [.slice a347 l346.length c348], Res.box b704 120 [.slice a924 l923.length c925, .slice a953 l952.length c954, .slice a746 y741.length c748], Res.own (eList (eTimpl_Entry) 111) F926 l923 [.slice a924 l923.length c925], Res.own (eList (eTimpl_Entry) 111) F955 l952 [.slice a953 l952.length c954], Res.own (eList (eVal (Value.int .i64) (fun _ => rfl)) 3) F749 y741 [.slice a746 y741.length c748]]) (fun (l952 : List Timpl_Entry) (a953 : Option Addr) (c954 : Nat) (F955 : List Nat) => [(0, .slice a_0 p0.length c_0), (2, .slice a_2 p2.length c_2), (4, .pointer (some ⟨b7, 0, none⟩)), (7, .slice a347 l346.length c348), (9, .pointer (some ⟨b704, 0, none⟩)), (10, .pointer (some ⟨b897, 0, none⟩)), (13, .slice a_0 p0.length c_0), (14, .int .i64 (p0.length : Int)), (15, .int .i64 i345)]) (fun (l952 : List Timpl_Entry) (a953 : Option Addr) (c954 : Nat) (F955 : List Nat) => impl_Follow_J3 y741 e895 l346 (impl_Follow_L1 p0 p2 p1 k1) i345 l923 l952 = some r) (fun l952 a953 c954 F955 H => ?_) (fun J3 => ?_)
            · unfold impl_Follow_J3 at H
              refine c_seq ?_
              refine c_reg ?_
              refine ow_batch [.fa 120 2 2 fa120_2] rfl ?_
              refine ow_r rfl (dstOk_lt rfl) (ry_box1 (off := 2) rfl rfl ty22 (boxIn (i := 3) rfl) rfl) ?_
              refine ow_batch [.fa 123 1 1 fa123_1] rfl ?_
              refine ow_r rfl (dstOk_lt rfl) (ry_box1 (off := 1) rfl rfl ty3 (boxIn (i := 0) rfl) rfl) ?_
              refine ow_blit (val := Value.int .i64) (h1 := fun _ => rfl) [e895.Bit_] [(0, [.int .i64 e895.Bit_])] rfl rfl rfl rfl rfl sl22 ty3 rfl rfl rfl ⟨rfl, rfl, Nat.le_of_ble_eq_true rfl,  trivial⟩ rfl rfl (fun _ => kp) (fun b956 => ?_)
              obtain ⟨l957, h958, H⟩ := of_bind H
              refine ow_appR (r := 6) (ys := ([e895.Bit_] : List Int)) rfl rfl rfl rfl rfl rfl sl22 ty3 rfl rfl rfl (fun w1 hw1 => rds_own (r := 7) rfl w1 hw1) h958 (fun _ _ _ => kp) (fun a959 c960 F961 => ?_)
              refine ow_fact rfl (fun w1 hw1 => own_nn (i := 6) hw1 rfl (app_ne h958)) (fun hz962 => ?_)
              refine ow_batch [.fa 120 2 2 fa120_2] rfl ?_
              refine ow_storeC (off := 2) [.slice a959 l957.length c960] [_, _, _] (i := 3) rfl rfl rfl rfl rfl rfl ty22 rfl rfl (by intro u hu; simp only [List.mem_cons, List.not_mem_nil, or_false] at hu; rcases hu with rfl <;> rfl) rfl rfl rfl kp ?_
              refine ow_nil ?_
              refine x_qs ?_
              refine c_join4 (fun (l963 : List Timpl_Entry) (a964 : Option Addr) (c965 : Nat) (F966 : List Nat) => St w M0 [Res.box b897 123 [.int .i64 e895.Said_, .int .i64 e895.Bit_, .int .i64 e895.Weight_, .int .i64 e895.Grow_, .int .i64 e895.Young_, .int .i64 e895.Det_, .bool e895.Began_, .bool e895.Swapped_], Res.box b7 56 [.slice a5 p1.Bins_.length c6, .int .i64 p1.Class_], Res.own (eList (eTimpl_Past) 120) F349 l346 [.slice a347 l346.length c348], Res.box b704 120 [.slice a924 l923.length c925, .slice a964 l963.length c965, .slice a959 l957.length c960], Res.own (eList (eTimpl_Entry) 111) F926 l923 [.slice a924 l923.length c925], Res.own (eList (eTimpl_Entry) 111) F966 l963 [.slice a964 l963.length c965], Res.own (eList (eVal (Value.int .i64) (fun _ => rfl)) 3) F961 l957 [.slice a959 l957.length c960]]) (fun (l963 : List Timpl_Entry) (a964 : Option Addr) (c965 : Nat) (F966 : List Nat) => [(0, .slice a_0 p0.length c_0), (2, .slice a_2 p2.length c_2), (4, .pointer (some ⟨b7, 0, none⟩)), (7, .slice a347 l346.length c348), (9, .pointer (some ⟨b704, 0, none⟩)), (10, .pointer (some ⟨b897, 0, none⟩)), (13, .slice a_0 p0.length c_0), (14, .int .i64 (p0.length : Int)), (15, .int .i64 i345)]) (fun (l963 : List Timpl_Entry) (a964 : Option Addr) (c965 : Nat) (F966 : List Nat) => impl_Follow_J4 e895 l346 (impl_Follow_L1 p0 p2 p1 k1) i345 l923 l957 l963 = some r) (fun l963 a964 c965 F966 H => ?_) (fun J4 => ?_)
              · unfold impl_Follow_J4 at H
                refine c_seq ?_
                refine c_reg ?_
                refine ow_batch [.fa 123 7 7 fa123_7] rfl ?_
                refine ow_r rfl (dstOk_lt rfl) (ry_box1 (off := 7) rfl rfl ty4 (boxIn (i := 0) rfl) rfl) ?_
                refine ow_nil ?_
                refine x_qs ?_
                refine c_if rfl (fun hb => ?_) (fun hb => ?_)
                · have H := of_if_t hb H
                  refine c_reg ?_
                  refine ow_batch [.fa 120 1 1 fa120_1] rfl ?_
                  refine ow_r rfl (dstOk_lt rfl) (ry_box1 (off := 1) rfl rfl ty63 (boxIn (i := 3) rfl) rfl) ?_
                  refine ow_r rfl (dstOk_lt rfl) (ry_build2 [(0, [.slice a964 l963.length c965])] [.slice a964 l963.length c965, .slice none 0 0, .slice none 0 0] rfl rfl ty120 fs120 rfl ⟨rfl, rfl, Nat.le_of_ble_eq_true rfl,  trivial⟩ rfl) ?_
                  refine ow_storeC (off := 0) [.slice a964 l963.length c965, .slice none 0 0, .slice none 0 0] [_, _, _] (i := 3) rfl rfl rfl rfl rfl rfl ty120 rfl rfl (by intro u hu; simp only [List.mem_cons, List.not_mem_nil, or_false] at hu; rcases hu with rfl | rfl | rfl <;> rfl) rfl rfl rfl kp ?_
                  refine ow_nil ?_
                  refine xw_st (fun _ h => St.pushNil (e := eTimpl_Entry) (T := 111) h) ?_
                  refine xw_st (fun _ h => St.pushNil (e := eVal (Value.int .i64) (fun _ => rfl)) (T := 3) h) ?_
                  exact XW.at (J1 (l963) (a964) (c965) (F966) (([] : List Timpl_Entry)) (none) (0) ([]) (([] : List Int)) (none) (0) ([]) (H)) (fun _ h => by have h2 : St w M0 [Res.box b7 56 [.slice a5 p1.Bins_.length c6, .int .i64 p1.Class_], Res.own (eList (eTimpl_Past) 120) F349 l346 [.slice a347 l346.length c348], Res.box b704 120 [.slice a964 l963.length c965, .slice none 0 0, .slice none 0 0], Res.own (eList (eTimpl_Entry) 111) F966 l963 [.slice a964 l963.length c965], Res.own (eList (eTimpl_Entry) 111) [] ([] : List Timpl_Entry) [.slice none 0 0], Res.own (eList (eVal (Value.int .i64) (fun _ => rfl)) 3) [] ([] : List Int) [.slice none 0 0]] _ := St.sel [1, 2, 3, 5, 7, 8] rfl rfl h; simpa only [List.length_set, List.length_cons, List.length_nil] using h2) (by simp only [Sub, List.length_set, List.length_cons, List.length_nil]; exact ⟨rfl, rfl, rfl, rfl, rfl, rfl, rfl, rfl,  trivial⟩)
                · have H := of_if_f hb H
                  refine c_skip ?_
                  exact XW.at (J1 (l923) (a924) (c925) (F926) (l963) (a964) (c965) (F966) (l957) (a959) (c960) (F961) (H)) (fun _ h => St.sel [1, 2, 3, 4, 5, 6] rfl rfl h) ⟨rfl, rfl, rfl, rfl, rfl, rfl, rfl, rfl, trivial⟩
              · refine c_seq ?_
                refine c_reg ?_
                refine ow_batch [.fa 123 6 6 fa123_6] rfl ?_
                refine ow_r rfl (dstOk_lt rfl) (ry_box1 (off := 6) rfl rfl ty4 (boxIn (i := 0) rfl) rfl) ?_
                refine ow_nil ?_
                refine x_qs ?_
                refine c_if rfl (fun hb => ?_) (fun hb => ?_)
                · have H := of_if_t hb H
                  refine c_reg ?_
                  refine ow_batch [.fa 120 1 1 fa120_1] rfl ?_
                  refine ow_storeC (off := 1) [.slice none 0 0] [_, _, _] (i := 3) rfl rfl rfl rfl rfl rfl ty63 rfl rfl (by intro u hu; simp only [List.mem_cons, List.not_mem_nil, or_false] at hu; rcases hu with rfl <;> rfl) rfl rfl rfl kp ?_
                  refine ow_nil ?_
                  refine xw_st (fun _ h => St.pushNil (e := eTimpl_Entry) (T := 111) h) ?_
                  exact XW.at (J4 (([] : List Timpl_Entry)) (none) (0) ([]) (H)) (fun _ h => by have h2 : St w M0 [Res.box b897 123 [.int .i64 e895.Said_, .int .i64 e895.Bit_, .int .i64 e895.Weight_, .int .i64 e895.Grow_, .int .i64 e895.Young_, .int .i64 e895.Det_, .bool e895.Began_, .bool e895.Swapped_], Res.box b7 56 [.slice a5 p1.Bins_.length c6, .int .i64 p1.Class_], Res.own (eList (eTimpl_Past) 120) F349 l346 [.slice a347 l346.length c348], Res.box b704 120 [.slice a924 l923.length c925, .slice none 0 0, .slice a959 l957.length c960], Res.own (eList (eTimpl_Entry) 111) F926 l923 [.slice a924 l923.length c925], Res.own (eList (eTimpl_Entry) 111) [] ([] : List Timpl_Entry) [.slice none 0 0], Res.own (eList (eVal (Value.int .i64) (fun _ => rfl)) 3) F961 l957 [.slice a959 l957.length c960]] _ := St.sel [0, 1, 2, 3, 4, 8, 6] rfl rfl h; simpa only [List.length_set, List.length_cons, List.length_nil] using h2) (by simp only [Sub, List.length_set, List.length_cons, List.length_nil]; exact ⟨rfl, rfl, rfl, rfl, rfl, rfl, rfl, rfl, rfl,  trivial⟩)
                · have H := of_if_f hb H
                  refine c_skip ?_
                  exact XW.at (J4 (l952) (a953) (c954) (F955) (H)) (fun _ h => St.sel [0, 1, 2, 3, 4, 5, 6] rfl rfl h) ⟨rfl, rfl, rfl, rfl, rfl, rfl, rfl, rfl, rfl, trivial⟩
            · refine c_seq ?_
              refine c_reg ?_
              refine ow_batch [.fa 123 4 4 fa123_4] rfl ?_
              refine ow_r rfl (dstOk_lt rfl) (ry_box1 (off := 4) rfl rfl ty3 (boxIn (i := 0) rfl) rfl) ?_
              obtain ⟨y967, h968, H⟩ := of_bind H
              refine ow_q rfl rfl (dstOk_lt rfl) (qy_call rfl fn90 rfl (fun w1 hw1 => impl_learned_ok w1  h968)) (fun _ _ => trivial) ?_
              refine ow_nil ?_
              refine x_qs ?_
              refine c_if rfl (fun hb => ?_) (fun hb => ?_)
              · have H := of_if_t hb H
                refine c_regHT 4 [(0, true), (1, true), (2, true), (3, false)] (St w M0 [Res.box b897 123 [.int .i64 e895.Said_, .int .i64 e895.Bit_, .int .i64 e895.Weight_, .int .i64 e895.Grow_, .int .i64 e895.Young_, .int .i64 e895.Det_, .bool e895.Began_, .bool e895.Swapped_], Res.box b7 56 [.slice a5 p1.Bins_.length c6, .int .i64 p1.Class_], Res.own (eList (eTimpl_Past) 120) F349 l346 [.slice a347 l346.length c348], Res.box b704 120 [.slice a924 l923.length c925, .slice a737 y732.length c739, .slice a746 y741.length c748], Res.own (eList (eTimpl_Entry) 111) F926 l923 [.slice a924 l923.length c925], Res.own (eList (eTimpl_Entry) 111) F740 y732 [.slice a737 y732.length c739], Res.own (eList (eVal (Value.int .i64) (fun _ => rfl)) 3) F749 y741 [.slice a746 y741.length c748]]) mixed (by kernel_rfl) (panicOk_qs (panicOk_qs (panicOk_qb (panicOk_qs (panicOk_ql (panicOk_qb (panicOk_qs panicOk_body))))))) (fun _ h => St.mask [true, true, true, true, true, true, true] rfl h) ?_
                refine ow_batch [.fa 120 1 1 fa120_1] rfl ?_
                refine ow_rH rfl (dstOk_lt rfl) (ry_box1 (off := 1) rfl rfl ty63 (boxIn (i := 3) rfl) rfl) ?_
                refine ow_batch [.p] rfl ?_
                obtain ⟨y978, h979, H⟩ := of_bind H
                refine ow_callSV (cap := [.pointer (some ⟨b7, 0, none⟩), .pointer (some ⟨b897, 0, none⟩)]) rfl fn89 rfl rfl rfl rfl rfl (fun w1 hw1 => impl_Follow_1_ok w1 (cs_0 := [.slice a5 p1.Bins_.length c6, .int .i64 p1.Class_]) (cs_1 := [.int .i64 e895.Said_, .int .i64 e895.Bit_, .int .i64 e895.Weight_, .int .i64 e895.Grow_, .int .i64 e895.Young_, .int .i64 e895.Det_, .bool e895.Began_, .bool e895.Swapped_]) h979 (hw1.carve [] rfl rfl) (rdm_Timpl_Ex (x := p1) (c0 := [.slice a5 p1.Bins_.length c6]) (c1 := [.int .i64 p1.Class_]) (rds_bor g3 w1 hw1) rfl) (at_box (T := 56) 0 (boxIn (i := 1) rfl) rfl w1 hw1) rfl (at_box (T := 123) 0 (boxIn (i := 0) rfl) rfl w1 hw1)) (fun v980 w1 w2 hw1 hR982 => ?_)
                obtain ⟨a983, n984, c985, F986, rfl, hS981⟩ := hR982
                obtain rfl := own_nS (i := 0) hS981 rfl
                refine ⟨St w M0 [_, _, _, _, _, _, _, _], hw1.comp [] rfl rfl hS981, (fun _ h => St.mask [true, true, true, true, true, true, true] rfl h), ?_⟩
                refine ow_nilH ?_
                refine x_qt ?_
                obtain ⟨l987, h988, H⟩ := of_bind H
                refine ow_appM (r := 5) (j := 7) rfl rfl rfl rfl rfl rfl sl63 ty111 rfl rfl rfl rfl rfl rfl rfl h988 (fun _ _ _ => kp) (fun a989 c990 F991 => ?_)
                refine ow_batch [.fa 120 1 1 fa120_1] rfl ?_
                refine ow_storeC (off := 1) [.slice a989 l987.length c990] [_, _, _] (i := 3) rfl rfl rfl rfl rfl rfl ty63 rfl rfl (by intro u hu; simp only [List.mem_cons, List.not_mem_nil, or_false] at hu; rcases hu with rfl <;> rfl) rfl rfl rfl kp ?_
                refine ow_nil ?_
                exact XW.at (J3 (l987) (a989) (c990) (F991) (H)) (fun _ h => St.sel [0, 1, 2, 3, 4, 8, 6] rfl rfl h) ⟨rfl, rfl, rfl, rfl, rfl, rfl, rfl, rfl, rfl, trivial⟩
              · have H := of_if_f hb H
                refine c_skip ?_
                exact XW.at (J3 (y732) (a737) (c739) (F740) (H)) (fun _ h => St.sel [0, 1, 2, 3, 4, 5, 6] rfl rfl h) ⟨rfl, rfl, rfl, rfl, rfl, rfl, rfl, rfl, rfl, trivial⟩
          · refine c_seq ?_
            refine c_reg ?_
            refine ow_batch [.fa 123 3 3 fa123_3] rfl ?_
            refine ow_r rfl (dstOk_lt rfl) (ry_box1 (off := 3) rfl rfl ty3 (boxIn (i := 6) rfl) rfl) ?_
            obtain ⟨y992, h993, H⟩ := of_bind H
            refine ow_q rfl rfl (dstOk_lt rfl) (qy_call rfl fn90 rfl (fun w1 hw1 => impl_learned_ok w1  h993)) (fun _ _ => trivial) ?_
            refine ow_nil ?_
            refine x_qs ?_
            refine c_if rfl (fun hb => ?_) (fun hb => ?_)
            · have H := of_if_t hb H
              refine c_regHT 4 [(0, true), (1, true), (2, true), (3, false)] (St w M0 [Res.box b7 56 [.slice a5 p1.Bins_.length c6, .int .i64 p1.Class_], Res.own (eList (eTimpl_Past) 120) F349 l346 [.slice a347 l346.length c348], Res.box b704 120 [.slice a728 y723.length c730, .slice a737 y732.length c739, .slice a746 y741.length c748], Res.own (eList (eTimpl_Entry) 111) F731 y723 [.slice a728 y723.length c730], Res.own (eList (eTimpl_Entry) 111) F740 y732 [.slice a737 y732.length c739], Res.own (eList (eVal (Value.int .i64) (fun _ => rfl)) 3) F749 y741 [.slice a746 y741.length c748], Res.box b897 123 [.int .i64 e895.Said_, .int .i64 e895.Bit_, .int .i64 e895.Weight_, .int .i64 e895.Grow_, .int .i64 e895.Young_, .int .i64 e895.Det_, .bool e895.Began_, .bool e895.Swapped_]]) mixed (by kernel_rfl) (panicOk_qs (panicOk_qs (panicOk_qb (panicOk_qs (panicOk_ql (panicOk_qb (panicOk_qs panicOk_body))))))) (fun _ h => St.mask [true, true, true, true, true, true, true] rfl h) ?_
              refine ow_batch [.fa 120 0 0 fa120_0] rfl ?_
              refine ow_rH rfl (dstOk_lt rfl) (ry_box1 (off := 0) rfl rfl ty63 (boxIn (i := 2) rfl) rfl) ?_
              refine ow_batch [.p] rfl ?_
              obtain ⟨y1003, h1004, H⟩ := of_bind H
              refine ow_callSV (cap := [.pointer (some ⟨b7, 0, none⟩), .pointer (some ⟨b897, 0, none⟩)]) rfl fn89 rfl rfl rfl rfl rfl (fun w1 hw1 => impl_Follow_1_ok w1 (cs_0 := [.slice a5 p1.Bins_.length c6, .int .i64 p1.Class_]) (cs_1 := [.int .i64 e895.Said_, .int .i64 e895.Bit_, .int .i64 e895.Weight_, .int .i64 e895.Grow_, .int .i64 e895.Young_, .int .i64 e895.Det_, .bool e895.Began_, .bool e895.Swapped_]) h1004 (hw1.carve [] rfl rfl) (rdm_Timpl_Ex (x := p1) (c0 := [.slice a5 p1.Bins_.length c6]) (c1 := [.int .i64 p1.Class_]) (rds_bor g3 w1 hw1) rfl) (at_box (T := 56) 0 (boxIn (i := 0) rfl) rfl w1 hw1) rfl (at_box (T := 123) 0 (boxIn (i := 6) rfl) rfl w1 hw1)) (fun v1005 w1 w2 hw1 hR1007 => ?_)
              obtain ⟨a1008, n1009, c1010, F1011, rfl, hS1006⟩ := hR1007
              obtain rfl := own_nS (i := 0) hS1006 rfl
              refine ⟨St w M0 [_, _, _, _, _, _, _, _], hw1.comp [] rfl rfl hS1006, (fun _ h => St.mask [true, true, true, true, true, true, true] rfl h), ?_⟩
              refine ow_nilH ?_
              refine x_qt ?_
              obtain ⟨l1012, h1013, H⟩ := of_bind H
              refine ow_appM (r := 3) (j := 7) rfl rfl rfl rfl rfl rfl sl63 ty111 rfl rfl rfl rfl rfl rfl rfl h1013 (fun _ _ _ => kp) (fun a1014 c1015 F1016 => ?_)
              refine ow_batch [.fa 120 0 0 fa120_0] rfl ?_
              refine ow_storeC (off := 0) [.slice a1014 l1012.length c1015] [_, _, _] (i := 2) rfl rfl rfl rfl rfl rfl ty63 rfl rfl (by intro u hu; simp only [List.mem_cons, List.not_mem_nil, or_false] at hu; rcases hu with rfl <;> rfl) rfl rfl rfl kp ?_
              refine ow_nil ?_
              exact XW.at (J2 (l1012) (a1014) (c1015) (F1016) (H)) (fun _ h => St.sel [6, 0, 1, 2, 8, 4, 5] rfl rfl h) ⟨rfl, rfl, rfl, rfl, rfl, rfl, rfl, rfl, rfl, rfl, trivial⟩
            · have H := of_if_f hb H
              refine c_skip ?_
              exact XW.at (J2 (y723) (a728) (c730) (F731) (H)) (fun _ h => St.sel [6, 0, 1, 2, 3, 4, 5] rfl rfl h) ⟨rfl, rfl, rfl, rfl, rfl, rfl, rfl, rfl, rfl, rfl, trivial⟩
        · have H := of_if_f hb H
          refine c_skip ?_
          exact XW.at (J1 (y723) (a728) (c730) (F731) (y732) (a737) (c739) (F740) (y741) (a746) (c748) (F749) (H)) (fun _ h => St.sel [0, 1, 2, 3, 4, 5] rfl rfl h) ⟨rfl, rfl, rfl, rfl, rfl, rfl, rfl, rfl, trivial⟩
    · have H := of_if_f hb H
      refine c_exit ?_
      refine x_qs_exit ?_
      refine x_ql_exit ?_
      refine x_qb_here ?_
      refine x_qs ?_
      refine c_seq ?_
      refine c_reg ?_
      refine ow_batch [.p, .p] rfl ?_
      refine ow_nil ?_
      refine x_qs ?_
      refine c_ret ?_
      exact x_retR (rs := [.tmp 6]) (vs := [.slice a347 l346.length c348]) rfl ⟨rfl, trivial⟩ (fun w' hw' => by
          obtain rfl := of_some H
          exact ⟨_, rfl, a347, l346.length, c348, F349, rfl, hw'.sel [1] rfl rfl⟩)

set_option maxHeartbeats 4000000 in
set_option maxRecDepth 100000 in
theorem laws_eqEx_ok (w : World) {p0 : Timpl_Ex} {p1 : Timpl_Ex} {cs0 : List Value} {cs1 : List Value} {r : Bool} (H : laws_eqEx p0 p1 = some r)  (g0 : (eTimpl_Ex).rd w [] p0 cs0) (g1 : (eTimpl_Ex).rd w [] p1 cs1) :
    Calls Try.prog 32 #[.agg cs0.toArray, .agg cs1.toArray] w (fun en w' => en = .returned (.bool r) ∧ Ext [] w w') := by
  obtain ⟨c1, c2, rfl, g3, g4⟩ := rdo_Timpl_Ex g0
  obtain ⟨a5, c6, rfl⟩ := rd_sl1 g3
  obtain rfl : c2 = [.int .i64 p0.Class_] := g4
  obtain ⟨c7, c8, rfl, g9, g10⟩ := rdo_Timpl_Ex g1
  obtain ⟨a11, c12, rfl⟩ := rd_sl1 g9
  obtain rfl : c8 = [.int .i64 p1.Class_] := g10
  unfold laws_eqEx at H
  refine f_enter (vs := [.agg #[.slice a5 p0.Bins_.length c6, .int .i64 p0.Class_], .agg #[.slice a11 p1.Bins_.length c12, .int .i64 p1.Class_]]) Try.func32 rfl Try.ntmps32 rfl (St.init w []) ?_
  refine c_seq ?_
  refine c_reg ?_
  refine ow_box (cs := [.slice a5 p0.Bins_.length c6, .int .i64 p0.Class_]) rfl rfl rfl rfl rfl rfl (fun _ => kp) (fun b13 => ?_)
  refine ow_box (cs := [.slice a11 p1.Bins_.length c12, .int .i64 p1.Class_]) rfl rfl rfl rfl rfl rfl (fun _ => kp) (fun b14 => ?_)
  refine ow_batch [.p] rfl ?_
  refine ow_nil ?_
  refine x_qs ?_
  refine c_seq ?_
  refine c_seq ?_
  refine c_reg ?_
  refine ow_batch [.fa 56 0 0 fa56_0] rfl ?_
  refine ow_r rfl (dstOk_lt rfl) (ry_box1 (off := 0) rfl rfl ty22 (boxIn (i := 0) rfl) rfl) ?_
  refine ow_batch [.fa 56 0 0 fa56_0] rfl ?_
  refine ow_r rfl (dstOk_lt rfl) (ry_box1 (off := 0) rfl rfl ty22 (boxIn (i := 1) rfl) rfl) ?_
  obtain ⟨y15, h16, H⟩ := of_bind H
  refine ow_q rfl rfl (dstOk_lt rfl) (qy_call rfl fn64 rfl (fun w1 hw1 => laws_eqIntS_ok w1  h16 (rds_bor g3 w1 hw1) (rds_bor g9 w1 hw1))) (fun _ _ => trivial) ?_
  refine ow_batch [.p] rfl ?_
  refine ow_nil ?_
  refine x_qs ?_
  refine c_if rfl (fun hb => ?_) (fun hb => ?_)
  · have H := of_if_t hb H
    refine c_seq ?_
    refine c_reg ?_
    refine ow_batch [.p] rfl ?_
    refine ow_nil ?_
    refine x_qs ?_
    refine c_ret ?_
    refine x_qs_ret ?_
    exact x_retR (rs := [.tmp 4]) (vs := [.bool false]) rfl ⟨rfl, trivial⟩ (fun w' hw' => by
        obtain rfl := of_some H
        exact ⟨rfl, hw'.ext⟩)
  · have H := of_if_f hb H
    refine c_skip ?_
    refine x_qs ?_
    refine c_seq ?_
    refine c_seq ?_
    refine c_reg ?_
    refine ow_batch [.fa 56 1 1 fa56_1] rfl ?_
    refine ow_r rfl (dstOk_lt rfl) (ry_box1 (off := 1) rfl rfl ty3 (boxIn (i := 0) rfl) rfl) ?_
    refine ow_batch [.fa 56 1 1 fa56_1] rfl ?_
    refine ow_r rfl (dstOk_lt rfl) (ry_box1 (off := 1) rfl rfl ty3 (boxIn (i := 1) rfl) rfl) ?_
    refine ow_batch [.p] rfl ?_
    refine ow_nil ?_
    refine x_qs ?_
    refine c_if rfl (fun hb => ?_) (fun hb => ?_)
    · have H := of_if_t hb H
      refine c_seq ?_
      refine c_reg ?_
      refine ow_batch [.p] rfl ?_
      refine ow_nil ?_
      refine x_qs ?_
      refine c_ret ?_
      refine x_qs_ret ?_
      exact x_retR (rs := [.tmp 4]) (vs := [.bool false]) rfl ⟨rfl, trivial⟩ (fun w' hw' => by
          obtain rfl := of_some H
          exact ⟨rfl, hw'.ext⟩)
    · have H := of_if_f hb H
      refine c_skip ?_
      refine x_qs ?_
      refine c_seq ?_
      refine c_reg ?_
      refine ow_batch [.p] rfl ?_
      refine ow_nil ?_
      refine x_qs ?_
      refine c_ret ?_
      exact x_retR (rs := [.tmp 4]) (vs := [.bool true]) rfl ⟨rfl, trivial⟩ (fun w' hw' => by
          obtain rfl := of_some H
          exact ⟨rfl, hw'.ext⟩)

set_option maxHeartbeats 4000000 in
set_option maxRecDepth 100000 in
theorem laws_eqEntry_ok (w : World) {p0 : Timpl_Entry} {p1 : Timpl_Entry} {cs0 : List Value} {cs1 : List Value} {r : Bool} (H : laws_eqEntry p0 p1 = some r)  (g0 : (eTimpl_Entry).rd w [] p0 cs0) (g1 : (eTimpl_Entry).rd w [] p1 cs1) :
    Calls Try.prog 80 #[.agg cs0.toArray, .agg cs1.toArray] w (fun en w' => en = .returned (.bool r) ∧ Ext [] w w') := by
  obtain ⟨c1, c2, rfl, g3, g4⟩ := rdo_Timpl_Entry g0
  obtain ⟨c5, c6, rfl, g7, g8⟩ := rdo_Timpl_Ex g3
  obtain ⟨a9, c10, rfl⟩ := rd_sl1 g7
  obtain rfl : c6 = [.int .i64 p0.Ex_.Class_] := g8
  obtain rfl : c2 = [.int .i64 p0.Weight_] := g4
  obtain ⟨c11, c12, rfl, g13, g14⟩ := rdo_Timpl_Entry g1
  obtain ⟨c15, c16, rfl, g17, g18⟩ := rdo_Timpl_Ex g13
  obtain ⟨a19, c20, rfl⟩ := rd_sl1 g17
  obtain rfl : c16 = [.int .i64 p1.Ex_.Class_] := g18
  obtain rfl : c12 = [.int .i64 p1.Weight_] := g14
  unfold laws_eqEntry at H
  refine f_enter (vs := [.agg #[.slice a9 p0.Ex_.Bins_.length c10, .int .i64 p0.Ex_.Class_, .int .i64 p0.Weight_], .agg #[.slice a19 p1.Ex_.Bins_.length c20, .int .i64 p1.Ex_.Class_, .int .i64 p1.Weight_]]) Try.func80 rfl Try.ntmps80 rfl (St.init w []) ?_
  refine c_seq ?_
  refine c_reg ?_
  refine ow_box (cs := [.slice a9 p0.Ex_.Bins_.length c10, .int .i64 p0.Ex_.Class_, .int .i64 p0.Weight_]) rfl rfl rfl rfl rfl rfl (fun _ => kp) (fun b21 => ?_)
  refine ow_box (cs := [.slice a19 p1.Ex_.Bins_.length c20, .int .i64 p1.Ex_.Class_, .int .i64 p1.Weight_]) rfl rfl rfl rfl rfl rfl (fun _ => kp) (fun b22 => ?_)
  refine ow_batch [.p] rfl ?_
  refine ow_nil ?_
  refine x_qs ?_
  refine c_seq ?_
  refine c_seq ?_
  refine c_reg ?_
  refine ow_batch [.fa 111 0 0 fa111_0] rfl ?_
  refine ow_r rfl (dstOk_lt rfl) (ry_box (off := 0) (ds := [.slice a9 p0.Ex_.Bins_.length c10, .int .i64 p0.Ex_.Class_]) rfl rfl ty56 (boxIn (i := 0) rfl) rfl rfl) ?_
  refine ow_batch [.fa 111 0 0 fa111_0] rfl ?_
  refine ow_r rfl (dstOk_lt rfl) (ry_box (off := 0) (ds := [.slice a19 p1.Ex_.Bins_.length c20, .int .i64 p1.Ex_.Class_]) rfl rfl ty56 (boxIn (i := 1) rfl) rfl rfl) ?_
  obtain ⟨y23, h24, H⟩ := of_bind H
  refine ow_q rfl rfl (dstOk_lt rfl) (qy_call rfl fn32 rfl (fun w1 hw1 => laws_eqEx_ok w1 (cs0 := [.slice a9 p0.Ex_.Bins_.length c10, .int .i64 p0.Ex_.Class_]) (cs1 := [.slice a19 p1.Ex_.Bins_.length c20, .int .i64 p1.Ex_.Class_]) h24 (rdm_Timpl_Ex (x := p0.Ex_) (c0 := [.slice a9 p0.Ex_.Bins_.length c10]) (c1 := [.int .i64 p0.Ex_.Class_]) (rds_bor g7 w1 hw1) rfl) (rdm_Timpl_Ex (x := p1.Ex_) (c0 := [.slice a19 p1.Ex_.Bins_.length c20]) (c1 := [.int .i64 p1.Ex_.Class_]) (rds_bor g17 w1 hw1) rfl))) (fun _ _ => trivial) ?_
  refine ow_batch [.p] rfl ?_
  refine ow_nil ?_
  refine x_qs ?_
  refine c_if rfl (fun hb => ?_) (fun hb => ?_)
  · have H := of_if_t hb H
    refine c_seq ?_
    refine c_reg ?_
    refine ow_batch [.p] rfl ?_
    refine ow_nil ?_
    refine x_qs ?_
    refine c_ret ?_
    refine x_qs_ret ?_
    exact x_retR (rs := [.tmp 4]) (vs := [.bool false]) rfl ⟨rfl, trivial⟩ (fun w' hw' => by
        obtain rfl := of_some H
        exact ⟨rfl, hw'.ext⟩)
  · have H := of_if_f hb H
    refine c_skip ?_
    refine x_qs ?_
    refine c_seq ?_
    refine c_seq ?_
    refine c_reg ?_
    refine ow_batch [.fa 111 1 2 fa111_1] rfl ?_
    refine ow_r rfl (dstOk_lt rfl) (ry_box1 (off := 2) rfl rfl ty3 (boxIn (i := 0) rfl) rfl) ?_
    refine ow_batch [.fa 111 1 2 fa111_1] rfl ?_
    refine ow_r rfl (dstOk_lt rfl) (ry_box1 (off := 2) rfl rfl ty3 (boxIn (i := 1) rfl) rfl) ?_
    refine ow_batch [.p] rfl ?_
    refine ow_nil ?_
    refine x_qs ?_
    refine c_if rfl (fun hb => ?_) (fun hb => ?_)
    · have H := of_if_t hb H
      refine c_seq ?_
      refine c_reg ?_
      refine ow_batch [.p] rfl ?_
      refine ow_nil ?_
      refine x_qs ?_
      refine c_ret ?_
      refine x_qs_ret ?_
      exact x_retR (rs := [.tmp 4]) (vs := [.bool false]) rfl ⟨rfl, trivial⟩ (fun w' hw' => by
          obtain rfl := of_some H
          exact ⟨rfl, hw'.ext⟩)
    · have H := of_if_f hb H
      refine c_skip ?_
      refine x_qs ?_
      refine c_seq ?_
      refine c_reg ?_
      refine ow_batch [.p] rfl ?_
      refine ow_nil ?_
      refine x_qs ?_
      refine c_ret ?_
      exact x_retR (rs := [.tmp 4]) (vs := [.bool true]) rfl ⟨rfl, trivial⟩ (fun w' hw' => by
          obtain rfl := of_some H
          exact ⟨rfl, hw'.ext⟩)

set_option maxHeartbeats 4000000 in
set_option maxRecDepth 100000 in
theorem laws_eqEntryS_ok (w : World) {p0 : List Timpl_Entry} {p1 : List Timpl_Entry} {a_0 : Option Addr} {n_0 c_0 : Nat} {a_1 : Option Addr} {n_1 c_1 : Nat} {r : Bool} (H : laws_eqEntryS p0 p1 = some r)  (g0 : (eList (eTimpl_Entry) 111).rd w [] p0 [.slice a_0 n_0 c_0]) (g1 : (eList (eTimpl_Entry) 111).rd w [] p1 [.slice a_1 n_1 c_1]) :
    Calls Try.prog 37 #[.slice a_0 n_0 c_0, .slice a_1 n_1 c_1] w (fun en w' => en = .returned (.bool r) ∧ Ext [] w w') := by
  obtain rfl := rd_n g0
  obtain rfl := rd_n g1
  unfold laws_eqEntryS at H
  refine f_enter (vs := [.slice a_0 p0.length c_0, .slice a_1 p1.length c_1]) Try.func37 rfl Try.ntmps37 rfl (St.init w []) ?_
  refine c_seq ?_
  refine c_reg ?_
  refine ow_batch [.p] rfl ?_
  refine ow_nil ?_
  refine x_qs ?_
  refine c_seq ?_
  refine c_seq ?_
  refine c_reg ?_
  refine ow_batch [.p, .lenS 63 111 sl63, .p, .lenS 63 111 sl63, .p] rfl ?_
  refine ow_nil ?_
  refine x_qs ?_
  refine c_if rfl (fun hb => ?_) (fun hb => ?_)
  · have H := of_if_t hb H
    refine c_seq ?_
    refine c_reg ?_
    refine ow_batch [.p] rfl ?_
    refine ow_nil ?_
    refine x_qs ?_
    refine c_ret ?_
    refine x_qs_ret ?_
    exact x_retR (rs := [.tmp 4]) (vs := [.bool false]) rfl ⟨rfl, trivial⟩ (fun w' hw' => by
        obtain rfl := of_some H
        exact ⟨rfl, hw'.ext⟩)
  · have H := of_if_f hb H
    refine c_skip ?_
    refine x_qs ?_
    refine c_seq ?_
    refine c_seq ?_
    refine c_reg ?_
    refine ow_batch [.p] rfl ?_
    refine ow_nil ?_
    refine x_qs ?_
    refine c_block ?_
    refine CW.at (loopI1 (fun (i36 : Int) => St w [] []) (fun (i36 : Int) => [(0, .slice a_0 p0.length c_0), (1, .slice a_1 p1.length c_1), (5, .int .i64 i36)]) (fun kk => fun (i36 : Int) => laws_eqEntryS_L1 p0 p1 kk i36 = some r) (fun _ H => ?_) (fun k1 ihk1 i36 H => ?_) Fuel (0) (H)) (fun _ h => St.sel [] rfl rfl h) ⟨rfl, rfl, rfl,  trivial⟩
    · unfold laws_eqEntryS_L1 at H
      exact absurd H (by simp)
    · unfold laws_eqEntryS_L1 at H
      refine c_seq ?_
      refine c_seq ?_
      refine c_reg ?_
      refine ow_batch [.p, .p, .lenS 63 111 sl63, .p] rfl ?_
      refine ow_nil ?_
      refine x_qs ?_
      refine c_if rfl (fun hb => ?_) (fun hb => ?_)
      · have H := of_if_t hb H
        refine c_skip ?_
        refine x_qs ?_
        refine c_seq ?_
        refine c_block ?_
        refine c_seq ?_
        refine c_regQ mixed (by kernel_rfl) ?_
        refine ow_batch [.p, .p] rfl ?_
        obtain ⟨e72, h73, H⟩ := of_bind H
        refine ow_ixB rfl rfl rfl rfl rfl sl63 ty111 rfl g0 h73 (fun q76 c77 hd74 hA75 => ?_)
        obtain ⟨c78, c79, rfl, g80, g81⟩ := rdo_Timpl_Entry hd74
        obtain ⟨c82, c83, rfl, g84, g85⟩ := rdo_Timpl_Ex g80
        obtain ⟨a86, c87, rfl⟩ := rd_sl1 g84
        obtain rfl : c83 = [.int .i64 e72.Ex_.Class_] := g85
        obtain rfl : c79 = [.int .i64 e72.Weight_] := g81
        refine ow_r rfl (dstOk_lt rfl) (ry_load (cs := [.slice a86 e72.Ex_.Bins_.length c87, .int .i64 e72.Ex_.Class_, .int .i64 e72.Weight_]) rfl rfl ty111 (at_bor bor hA75) rfl) ?_
        refine ow_batch [.p, .p] rfl ?_
        obtain ⟨e88, h89, H⟩ := of_bind H
        refine ow_ixB rfl rfl rfl rfl rfl sl63 ty111 rfl g1 h89 (fun q92 c93 hd90 hA91 => ?_)
        obtain ⟨c94, c95, rfl, g96, g97⟩ := rdo_Timpl_Entry hd90
        obtain ⟨c98, c99, rfl, g100, g101⟩ := rdo_Timpl_Ex g96
        obtain ⟨a102, c103, rfl⟩ := rd_sl1 g100
        obtain rfl : c99 = [.int .i64 e88.Ex_.Class_] := g101
        obtain rfl : c95 = [.int .i64 e88.Weight_] := g97
        refine ow_r rfl (dstOk_lt rfl) (ry_load (cs := [.slice a102 e88.Ex_.Bins_.length c103, .int .i64 e88.Ex_.Class_, .int .i64 e88.Weight_]) rfl rfl ty111 (at_bor bor hA91) rfl) ?_
        obtain ⟨y104, h105, H⟩ := of_bind H
        refine ow_q rfl rfl (dstOk_lt rfl) (qy_call rfl fn80 rfl (fun w1 hw1 => laws_eqEntry_ok w1 (cs0 := [.slice a86 e72.Ex_.Bins_.length c87, .int .i64 e72.Ex_.Class_, .int .i64 e72.Weight_]) (cs1 := [.slice a102 e88.Ex_.Bins_.length c103, .int .i64 e88.Ex_.Class_, .int .i64 e88.Weight_]) h105 (rdm_Timpl_Entry (x := e72) (c0 := [.slice a86 e72.Ex_.Bins_.length c87, .int .i64 e72.Ex_.Class_]) (c1 := [.int .i64 e72.Weight_]) (rdm_Timpl_Ex (x := e72.Ex_) (c0 := [.slice a86 e72.Ex_.Bins_.length c87]) (c1 := [.int .i64 e72.Ex_.Class_]) (rds_bor g84 w1 hw1) rfl) rfl) (rdm_Timpl_Entry (x := e88) (c0 := [.slice a102 e88.Ex_.Bins_.length c103, .int .i64 e88.Ex_.Class_]) (c1 := [.int .i64 e88.Weight_]) (rdm_Timpl_Ex (x := e88.Ex_) (c0 := [.slice a102 e88.Ex_.Bins_.length c103]) (c1 := [.int .i64 e88.Ex_.Class_]) (rds_bor g100 w1 hw1) rfl) rfl))) (fun _ _ => trivial) ?_
        refine ow_batch [.p] rfl ?_
        refine ow_nilQ ?_
        refine x_qs ?_
        refine c_if rfl (fun hb => ?_) (fun hb => ?_)
        · have H := of_if_t hb H
          refine c_seq ?_
          refine c_reg ?_
          refine ow_batch [.p] rfl ?_
          refine ow_nil ?_
          refine x_qs ?_
          refine c_ret ?_
          refine x_qb_ret ?_
          refine x_qs_ret ?_
          refine x_ql_ret ?_
          refine x_qb_ret ?_
          refine x_qs_ret ?_
          exact x_retR (rs := [.tmp 4]) (vs := [.bool false]) rfl ⟨rfl, trivial⟩ (fun w' hw' => by
              obtain rfl := of_some H
              exact ⟨rfl, hw'.ext⟩)
        · have H := of_if_f hb H
          refine c_skip ?_
          refine x_qb ?_
          refine x_qs ?_
          refine c_reg ?_
          refine ow_batch [.p, .p, .p] rfl ?_
          refine ow_nil ?_
          exact x_ql (RW.at (ihk1 (IntKind.i64.wrap (i36 + 1)) (H)) (fun _ h => St.sel [] rfl rfl h) ⟨rfl, rfl, rfl, trivial⟩)
      · have H := of_if_f hb H
        refine c_exit ?_
        refine x_qs_exit ?_
        refine x_ql_exit ?_
        refine x_qb_here ?_
        refine x_qs ?_
        refine c_seq ?_
        refine c_reg ?_
        refine ow_batch [.p] rfl ?_
        refine ow_nil ?_
        refine x_qs ?_
        refine c_ret ?_
        exact x_retR (rs := [.tmp 4]) (vs := [.bool true]) rfl ⟨rfl, trivial⟩ (fun w' hw' => by
            obtain rfl := of_some H
            exact ⟨rfl, hw'.ext⟩)

set_option maxHeartbeats 4000000 in
set_option maxRecDepth 100000 in
theorem laws_eqPast_ok (w : World) {p0 : Timpl_Past} {p1 : Timpl_Past} {cs0 : List Value} {cs1 : List Value} {r : Bool} (H : laws_eqPast p0 p1 = some r)  (g0 : (eTimpl_Past).rd w [] p0 cs0) (g1 : (eTimpl_Past).rd w [] p1 cs1) :
    Calls Try.prog 91 #[.agg cs0.toArray, .agg cs1.toArray] w (fun en w' => en = .returned (.bool r) ∧ Ext [] w w') := by
  obtain ⟨c1, c2, c3, rfl, g4, g5, g6⟩ := rdo_Timpl_Past g0
  obtain ⟨a7, c8, rfl⟩ := rd_sl1 g4
  obtain ⟨a9, c10, rfl⟩ := rd_sl1 g5
  obtain ⟨a11, c12, rfl⟩ := rd_sl1 g6
  obtain ⟨c13, c14, c15, rfl, g16, g17, g18⟩ := rdo_Timpl_Past g1
  obtain ⟨a19, c20, rfl⟩ := rd_sl1 g16
  obtain ⟨a21, c22, rfl⟩ := rd_sl1 g17
  obtain ⟨a23, c24, rfl⟩ := rd_sl1 g18
  unfold laws_eqPast at H
  refine f_enter (vs := [.agg #[.slice a7 p0.Tree_.length c8, .slice a9 p0.Young_.length c10, .slice a11 p0.Bits_.length c12], .agg #[.slice a19 p1.Tree_.length c20, .slice a21 p1.Young_.length c22, .slice a23 p1.Bits_.length c24]]) Try.func91 rfl Try.ntmps91 rfl (St.init w []) ?_
  refine c_seq ?_
  refine c_reg ?_
  refine ow_box (cs := [.slice a7 p0.Tree_.length c8, .slice a9 p0.Young_.length c10, .slice a11 p0.Bits_.length c12]) rfl rfl rfl rfl rfl rfl (fun _ => kp) (fun b25 => ?_)
  refine ow_box (cs := [.slice a19 p1.Tree_.length c20, .slice a21 p1.Young_.length c22, .slice a23 p1.Bits_.length c24]) rfl rfl rfl rfl rfl rfl (fun _ => kp) (fun b26 => ?_)
  refine ow_batch [.p] rfl ?_
  refine ow_nil ?_
  refine x_qs ?_
  refine c_seq ?_
  refine c_seq ?_
  refine c_reg ?_
  refine ow_batch [.fa 120 0 0 fa120_0] rfl ?_
  refine ow_r rfl (dstOk_lt rfl) (ry_box1 (off := 0) rfl rfl ty63 (boxIn (i := 0) rfl) rfl) ?_
  refine ow_batch [.fa 120 0 0 fa120_0] rfl ?_
  refine ow_r rfl (dstOk_lt rfl) (ry_box1 (off := 0) rfl rfl ty63 (boxIn (i := 1) rfl) rfl) ?_
  obtain ⟨y27, h28, H⟩ := of_bind H
  refine ow_q rfl rfl (dstOk_lt rfl) (qy_call rfl fn37 rfl (fun w1 hw1 => laws_eqEntryS_ok w1  h28 (rds_bor g4 w1 hw1) (rds_bor g16 w1 hw1))) (fun _ _ => trivial) ?_
  refine ow_batch [.p] rfl ?_
  refine ow_nil ?_
  refine x_qs ?_
  refine c_if rfl (fun hb => ?_) (fun hb => ?_)
  · have H := of_if_t hb H
    refine c_seq ?_
    refine c_reg ?_
    refine ow_batch [.p] rfl ?_
    refine ow_nil ?_
    refine x_qs ?_
    refine c_ret ?_
    refine x_qs_ret ?_
    exact x_retR (rs := [.tmp 4]) (vs := [.bool false]) rfl ⟨rfl, trivial⟩ (fun w' hw' => by
        obtain rfl := of_some H
        exact ⟨rfl, hw'.ext⟩)
  · have H := of_if_f hb H
    refine c_skip ?_
    refine x_qs ?_
    refine c_seq ?_
    refine c_seq ?_
    refine c_reg ?_
    refine ow_batch [.fa 120 1 1 fa120_1] rfl ?_
    refine ow_r rfl (dstOk_lt rfl) (ry_box1 (off := 1) rfl rfl ty63 (boxIn (i := 0) rfl) rfl) ?_
    refine ow_batch [.fa 120 1 1 fa120_1] rfl ?_
    refine ow_r rfl (dstOk_lt rfl) (ry_box1 (off := 1) rfl rfl ty63 (boxIn (i := 1) rfl) rfl) ?_
    obtain ⟨y29, h30, H⟩ := of_bind H
    refine ow_q rfl rfl (dstOk_lt rfl) (qy_call rfl fn37 rfl (fun w1 hw1 => laws_eqEntryS_ok w1  h30 (rds_bor g5 w1 hw1) (rds_bor g17 w1 hw1))) (fun _ _ => trivial) ?_
    refine ow_batch [.p] rfl ?_
    refine ow_nil ?_
    refine x_qs ?_
    refine c_if rfl (fun hb => ?_) (fun hb => ?_)
    · have H := of_if_t hb H
      refine c_seq ?_
      refine c_reg ?_
      refine ow_batch [.p] rfl ?_
      refine ow_nil ?_
      refine x_qs ?_
      refine c_ret ?_
      refine x_qs_ret ?_
      exact x_retR (rs := [.tmp 4]) (vs := [.bool false]) rfl ⟨rfl, trivial⟩ (fun w' hw' => by
          obtain rfl := of_some H
          exact ⟨rfl, hw'.ext⟩)
    · have H := of_if_f hb H
      refine c_skip ?_
      refine x_qs ?_
      refine c_seq ?_
      refine c_seq ?_
      refine c_reg ?_
      refine ow_batch [.fa 120 2 2 fa120_2] rfl ?_
      refine ow_r rfl (dstOk_lt rfl) (ry_box1 (off := 2) rfl rfl ty22 (boxIn (i := 0) rfl) rfl) ?_
      refine ow_batch [.fa 120 2 2 fa120_2] rfl ?_
      refine ow_r rfl (dstOk_lt rfl) (ry_box1 (off := 2) rfl rfl ty22 (boxIn (i := 1) rfl) rfl) ?_
      obtain ⟨y31, h32, H⟩ := of_bind H
      refine ow_q rfl rfl (dstOk_lt rfl) (qy_call rfl fn64 rfl (fun w1 hw1 => laws_eqIntS_ok w1  h32 (rds_bor g6 w1 hw1) (rds_bor g18 w1 hw1))) (fun _ _ => trivial) ?_
      refine ow_batch [.p] rfl ?_
      refine ow_nil ?_
      refine x_qs ?_
      refine c_if rfl (fun hb => ?_) (fun hb => ?_)
      · have H := of_if_t hb H
        refine c_seq ?_
        refine c_reg ?_
        refine ow_batch [.p] rfl ?_
        refine ow_nil ?_
        refine x_qs ?_
        refine c_ret ?_
        refine x_qs_ret ?_
        exact x_retR (rs := [.tmp 4]) (vs := [.bool false]) rfl ⟨rfl, trivial⟩ (fun w' hw' => by
            obtain rfl := of_some H
            exact ⟨rfl, hw'.ext⟩)
      · have H := of_if_f hb H
        refine c_skip ?_
        refine x_qs ?_
        refine c_seq ?_
        refine c_reg ?_
        refine ow_batch [.p] rfl ?_
        refine ow_nil ?_
        refine x_qs ?_
        refine c_ret ?_
        exact x_retR (rs := [.tmp 4]) (vs := [.bool true]) rfl ⟨rfl, trivial⟩ (fun w' hw' => by
            obtain rfl := of_some H
            exact ⟨rfl, hw'.ext⟩)

set_option maxHeartbeats 4000000 in
set_option maxRecDepth 100000 in
theorem laws_eqPastS_ok (w : World) {p0 : List Timpl_Past} {p1 : List Timpl_Past} {a_0 : Option Addr} {n_0 c_0 : Nat} {a_1 : Option Addr} {n_1 c_1 : Nat} {r : Bool} (H : laws_eqPastS p0 p1 = some r)  (g0 : (eList (eTimpl_Past) 120).rd w [] p0 [.slice a_0 n_0 c_0]) (g1 : (eList (eTimpl_Past) 120).rd w [] p1 [.slice a_1 n_1 c_1]) :
    Calls Try.prog 44 #[.slice a_0 n_0 c_0, .slice a_1 n_1 c_1] w (fun en w' => en = .returned (.bool r) ∧ Ext [] w w') := by
  obtain rfl := rd_n g0
  obtain rfl := rd_n g1
  unfold laws_eqPastS at H
  refine f_enter (vs := [.slice a_0 p0.length c_0, .slice a_1 p1.length c_1]) Try.func44 rfl Try.ntmps44 rfl (St.init w []) ?_
  refine c_seq ?_
  refine c_reg ?_
  refine ow_batch [.p] rfl ?_
  refine ow_nil ?_
  refine x_qs ?_
  refine c_seq ?_
  refine c_seq ?_
  refine c_reg ?_
  refine ow_batch [.p, .lenS 71 120 sl71, .p, .lenS 71 120 sl71, .p] rfl ?_
  refine ow_nil ?_
  refine x_qs ?_
  refine c_if rfl (fun hb => ?_) (fun hb => ?_)
  · have H := of_if_t hb H
    refine c_seq ?_
    refine c_reg ?_
    refine ow_batch [.p] rfl ?_
    refine ow_nil ?_
    refine x_qs ?_
    refine c_ret ?_
    refine x_qs_ret ?_
    exact x_retR (rs := [.tmp 4]) (vs := [.bool false]) rfl ⟨rfl, trivial⟩ (fun w' hw' => by
        obtain rfl := of_some H
        exact ⟨rfl, hw'.ext⟩)
  · have H := of_if_f hb H
    refine c_skip ?_
    refine x_qs ?_
    refine c_seq ?_
    refine c_seq ?_
    refine c_reg ?_
    refine ow_batch [.p] rfl ?_
    refine ow_nil ?_
    refine x_qs ?_
    refine c_block ?_
    refine CW.at (loopI1 (fun (i40 : Int) => St w [] []) (fun (i40 : Int) => [(0, .slice a_0 p0.length c_0), (1, .slice a_1 p1.length c_1), (5, .int .i64 i40)]) (fun kk => fun (i40 : Int) => laws_eqPastS_L1 p0 p1 kk i40 = some r) (fun _ H => ?_) (fun k1 ihk1 i40 H => ?_) Fuel (0) (H)) (fun _ h => St.sel [] rfl rfl h) ⟨rfl, rfl, rfl,  trivial⟩
    · unfold laws_eqPastS_L1 at H
      exact absurd H (by simp)
    · unfold laws_eqPastS_L1 at H
      refine c_seq ?_
      refine c_seq ?_
      refine c_reg ?_
      refine ow_batch [.p, .p, .lenS 71 120 sl71, .p] rfl ?_
      refine ow_nil ?_
      refine x_qs ?_
      refine c_if rfl (fun hb => ?_) (fun hb => ?_)
      · have H := of_if_t hb H
        refine c_skip ?_
        refine x_qs ?_
        refine c_seq ?_
        refine c_block ?_
        refine c_seq ?_
        refine c_regQ mixed (by kernel_rfl) ?_
        refine ow_batch [.p, .p] rfl ?_
        obtain ⟨e80, h81, H⟩ := of_bind H
        refine ow_ixB rfl rfl rfl rfl rfl sl71 ty120 rfl g0 h81 (fun q84 c85 hd82 hA83 => ?_)
        obtain ⟨c86, c87, c88, rfl, g89, g90, g91⟩ := rdo_Timpl_Past hd82
        obtain ⟨a92, c93, rfl⟩ := rd_sl1 g89
        obtain ⟨a94, c95, rfl⟩ := rd_sl1 g90
        obtain ⟨a96, c97, rfl⟩ := rd_sl1 g91
        refine ow_r rfl (dstOk_lt rfl) (ry_load (cs := [.slice a92 e80.Tree_.length c93, .slice a94 e80.Young_.length c95, .slice a96 e80.Bits_.length c97]) rfl rfl ty120 (at_bor bor hA83) rfl) ?_
        refine ow_batch [.p, .p] rfl ?_
        obtain ⟨e98, h99, H⟩ := of_bind H
        refine ow_ixB rfl rfl rfl rfl rfl sl71 ty120 rfl g1 h99 (fun q102 c103 hd100 hA101 => ?_)
        obtain ⟨c104, c105, c106, rfl, g107, g108, g109⟩ := rdo_Timpl_Past hd100
        obtain ⟨a110, c111, rfl⟩ := rd_sl1 g107
        obtain ⟨a112, c113, rfl⟩ := rd_sl1 g108
        obtain ⟨a114, c115, rfl⟩ := rd_sl1 g109
        refine ow_r rfl (dstOk_lt rfl) (ry_load (cs := [.slice a110 e98.Tree_.length c111, .slice a112 e98.Young_.length c113, .slice a114 e98.Bits_.length c115]) rfl rfl ty120 (at_bor bor hA101) rfl) ?_
        obtain ⟨y116, h117, H⟩ := of_bind H
        refine ow_q rfl rfl (dstOk_lt rfl) (qy_call rfl fn91 rfl (fun w1 hw1 => laws_eqPast_ok w1 (cs0 := [.slice a92 e80.Tree_.length c93, .slice a94 e80.Young_.length c95, .slice a96 e80.Bits_.length c97]) (cs1 := [.slice a110 e98.Tree_.length c111, .slice a112 e98.Young_.length c113, .slice a114 e98.Bits_.length c115]) h117 (rdm_Timpl_Past (x := e80) (c0 := [.slice a92 e80.Tree_.length c93]) (c1 := [.slice a94 e80.Young_.length c95]) (c2 := [.slice a96 e80.Bits_.length c97]) (rds_bor g89 w1 hw1) (rds_bor g90 w1 hw1) (rds_bor g91 w1 hw1)) (rdm_Timpl_Past (x := e98) (c0 := [.slice a110 e98.Tree_.length c111]) (c1 := [.slice a112 e98.Young_.length c113]) (c2 := [.slice a114 e98.Bits_.length c115]) (rds_bor g107 w1 hw1) (rds_bor g108 w1 hw1) (rds_bor g109 w1 hw1)))) (fun _ _ => trivial) ?_
        refine ow_batch [.p] rfl ?_
        refine ow_nilQ ?_
        refine x_qs ?_
        refine c_if rfl (fun hb => ?_) (fun hb => ?_)
        · have H := of_if_t hb H
          refine c_seq ?_
          refine c_reg ?_
          refine ow_batch [.p] rfl ?_
          refine ow_nil ?_
          refine x_qs ?_
          refine c_ret ?_
          refine x_qb_ret ?_
          refine x_qs_ret ?_
          refine x_ql_ret ?_
          refine x_qb_ret ?_
          refine x_qs_ret ?_
          exact x_retR (rs := [.tmp 4]) (vs := [.bool false]) rfl ⟨rfl, trivial⟩ (fun w' hw' => by
              obtain rfl := of_some H
              exact ⟨rfl, hw'.ext⟩)
        · have H := of_if_f hb H
          refine c_skip ?_
          refine x_qb ?_
          refine x_qs ?_
          refine c_reg ?_
          refine ow_batch [.p, .p, .p] rfl ?_
          refine ow_nil ?_
          exact x_ql (RW.at (ihk1 (IntKind.i64.wrap (i40 + 1)) (H)) (fun _ h => St.sel [] rfl rfl h) ⟨rfl, rfl, rfl, trivial⟩)
      · have H := of_if_f hb H
        refine c_exit ?_
        refine x_qs_exit ?_
        refine x_ql_exit ?_
        refine x_qb_here ?_
        refine x_qs ?_
        refine c_seq ?_
        refine c_reg ?_
        refine ow_batch [.p] rfl ?_
        refine ow_nil ?_
        refine x_qs ?_
        refine c_ret ?_
        exact x_retR (rs := [.tmp 4]) (vs := [.bool true]) rfl ⟨rfl, trivial⟩ (fun w' hw' => by
            obtain rfl := of_some H
            exact ⟨rfl, hw'.ext⟩)

set_option maxHeartbeats 4000000 in
set_option maxRecDepth 100000 in
theorem laws_eqStep_ok (w : World) {p0 : Timpl_Step} {p1 : Timpl_Step}  {r : Bool} (H : laws_eqStep p0 p1 = some r)   :
    Calls Try.prog 92 #[.agg #[.int .i64 p0.Said_, .int .i64 p0.Bit_, .int .i64 p0.Weight_, .int .i64 p0.Grow_, .int .i64 p0.Young_, .int .i64 p0.Det_, .bool p0.Began_, .bool p0.Swapped_], .agg #[.int .i64 p1.Said_, .int .i64 p1.Bit_, .int .i64 p1.Weight_, .int .i64 p1.Grow_, .int .i64 p1.Young_, .int .i64 p1.Det_, .bool p1.Began_, .bool p1.Swapped_]] w (fun en w' => en = .returned (.bool r) ∧ Ext [] w w') := by
  unfold laws_eqStep at H
  refine f_enter (vs := [.agg #[.int .i64 p0.Said_, .int .i64 p0.Bit_, .int .i64 p0.Weight_, .int .i64 p0.Grow_, .int .i64 p0.Young_, .int .i64 p0.Det_, .bool p0.Began_, .bool p0.Swapped_], .agg #[.int .i64 p1.Said_, .int .i64 p1.Bit_, .int .i64 p1.Weight_, .int .i64 p1.Grow_, .int .i64 p1.Young_, .int .i64 p1.Det_, .bool p1.Began_, .bool p1.Swapped_]]) Try.func92 rfl Try.ntmps92 rfl (St.init w []) ?_
  refine c_seq ?_
  refine c_reg ?_
  refine ow_box (cs := [.int .i64 p0.Said_, .int .i64 p0.Bit_, .int .i64 p0.Weight_, .int .i64 p0.Grow_, .int .i64 p0.Young_, .int .i64 p0.Det_, .bool p0.Began_, .bool p0.Swapped_]) rfl rfl rfl rfl rfl rfl (fun _ => kp) (fun b1 => ?_)
  refine ow_box (cs := [.int .i64 p1.Said_, .int .i64 p1.Bit_, .int .i64 p1.Weight_, .int .i64 p1.Grow_, .int .i64 p1.Young_, .int .i64 p1.Det_, .bool p1.Began_, .bool p1.Swapped_]) rfl rfl rfl rfl rfl rfl (fun _ => kp) (fun b2 => ?_)
  refine ow_batch [.p] rfl ?_
  refine ow_nil ?_
  refine x_qs ?_
  refine c_seq ?_
  refine c_seq ?_
  refine c_reg ?_
  refine ow_batch [.fa 123 0 0 fa123_0] rfl ?_
  refine ow_r rfl (dstOk_lt rfl) (ry_box1 (off := 0) rfl rfl ty3 (boxIn (i := 0) rfl) rfl) ?_
  refine ow_batch [.fa 123 0 0 fa123_0] rfl ?_
  refine ow_r rfl (dstOk_lt rfl) (ry_box1 (off := 0) rfl rfl ty3 (boxIn (i := 1) rfl) rfl) ?_
  refine ow_batch [.p] rfl ?_
  refine ow_nil ?_
  refine x_qs ?_
  refine c_if rfl (fun hb => ?_) (fun hb => ?_)
  · have H := of_if_t hb H
    refine c_seq ?_
    refine c_reg ?_
    refine ow_batch [.p] rfl ?_
    refine ow_nil ?_
    refine x_qs ?_
    refine c_ret ?_
    refine x_qs_ret ?_
    exact x_retR (rs := [.tmp 4]) (vs := [.bool false]) rfl ⟨rfl, trivial⟩ (fun w' hw' => by
        obtain rfl := of_some H
        exact ⟨rfl, hw'.ext⟩)
  · have H := of_if_f hb H
    refine c_skip ?_
    refine x_qs ?_
    refine c_seq ?_
    refine c_seq ?_
    refine c_reg ?_
    refine ow_batch [.fa 123 1 1 fa123_1] rfl ?_
    refine ow_r rfl (dstOk_lt rfl) (ry_box1 (off := 1) rfl rfl ty3 (boxIn (i := 0) rfl) rfl) ?_
    refine ow_batch [.fa 123 1 1 fa123_1] rfl ?_
    refine ow_r rfl (dstOk_lt rfl) (ry_box1 (off := 1) rfl rfl ty3 (boxIn (i := 1) rfl) rfl) ?_
    refine ow_batch [.p] rfl ?_
    refine ow_nil ?_
    refine x_qs ?_
    refine c_if rfl (fun hb => ?_) (fun hb => ?_)
    · have H := of_if_t hb H
      refine c_seq ?_
      refine c_reg ?_
      refine ow_batch [.p] rfl ?_
      refine ow_nil ?_
      refine x_qs ?_
      refine c_ret ?_
      refine x_qs_ret ?_
      exact x_retR (rs := [.tmp 4]) (vs := [.bool false]) rfl ⟨rfl, trivial⟩ (fun w' hw' => by
          obtain rfl := of_some H
          exact ⟨rfl, hw'.ext⟩)
    · have H := of_if_f hb H
      refine c_skip ?_
      refine x_qs ?_
      refine c_seq ?_
      refine c_seq ?_
      refine c_reg ?_
      refine ow_batch [.fa 123 2 2 fa123_2] rfl ?_
      refine ow_r rfl (dstOk_lt rfl) (ry_box1 (off := 2) rfl rfl ty3 (boxIn (i := 0) rfl) rfl) ?_
      refine ow_batch [.fa 123 2 2 fa123_2] rfl ?_
      refine ow_r rfl (dstOk_lt rfl) (ry_box1 (off := 2) rfl rfl ty3 (boxIn (i := 1) rfl) rfl) ?_
      refine ow_batch [.p] rfl ?_
      refine ow_nil ?_
      refine x_qs ?_
      refine c_if rfl (fun hb => ?_) (fun hb => ?_)
      · have H := of_if_t hb H
        refine c_seq ?_
        refine c_reg ?_
        refine ow_batch [.p] rfl ?_
        refine ow_nil ?_
        refine x_qs ?_
        refine c_ret ?_
        refine x_qs_ret ?_
        exact x_retR (rs := [.tmp 4]) (vs := [.bool false]) rfl ⟨rfl, trivial⟩ (fun w' hw' => by
            obtain rfl := of_some H
            exact ⟨rfl, hw'.ext⟩)
      · have H := of_if_f hb H
        refine c_skip ?_
        refine x_qs ?_
        refine c_seq ?_
        refine c_seq ?_
        refine c_reg ?_
        refine ow_batch [.fa 123 3 3 fa123_3] rfl ?_
        refine ow_r rfl (dstOk_lt rfl) (ry_box1 (off := 3) rfl rfl ty3 (boxIn (i := 0) rfl) rfl) ?_
        refine ow_batch [.fa 123 3 3 fa123_3] rfl ?_
        refine ow_r rfl (dstOk_lt rfl) (ry_box1 (off := 3) rfl rfl ty3 (boxIn (i := 1) rfl) rfl) ?_
        refine ow_batch [.p] rfl ?_
        refine ow_nil ?_
        refine x_qs ?_
        refine c_if rfl (fun hb => ?_) (fun hb => ?_)
        · have H := of_if_t hb H
          refine c_seq ?_
          refine c_reg ?_
          refine ow_batch [.p] rfl ?_
          refine ow_nil ?_
          refine x_qs ?_
          refine c_ret ?_
          refine x_qs_ret ?_
          exact x_retR (rs := [.tmp 4]) (vs := [.bool false]) rfl ⟨rfl, trivial⟩ (fun w' hw' => by
              obtain rfl := of_some H
              exact ⟨rfl, hw'.ext⟩)
        · have H := of_if_f hb H
          refine c_skip ?_
          refine x_qs ?_
          refine c_seq ?_
          refine c_seq ?_
          refine c_reg ?_
          refine ow_batch [.fa 123 4 4 fa123_4] rfl ?_
          refine ow_r rfl (dstOk_lt rfl) (ry_box1 (off := 4) rfl rfl ty3 (boxIn (i := 0) rfl) rfl) ?_
          refine ow_batch [.fa 123 4 4 fa123_4] rfl ?_
          refine ow_r rfl (dstOk_lt rfl) (ry_box1 (off := 4) rfl rfl ty3 (boxIn (i := 1) rfl) rfl) ?_
          refine ow_batch [.p] rfl ?_
          refine ow_nil ?_
          refine x_qs ?_
          refine c_if rfl (fun hb => ?_) (fun hb => ?_)
          · have H := of_if_t hb H
            refine c_seq ?_
            refine c_reg ?_
            refine ow_batch [.p] rfl ?_
            refine ow_nil ?_
            refine x_qs ?_
            refine c_ret ?_
            refine x_qs_ret ?_
            exact x_retR (rs := [.tmp 4]) (vs := [.bool false]) rfl ⟨rfl, trivial⟩ (fun w' hw' => by
                obtain rfl := of_some H
                exact ⟨rfl, hw'.ext⟩)
          · have H := of_if_f hb H
            refine c_skip ?_
            refine x_qs ?_
            refine c_seq ?_
            refine c_seq ?_
            refine c_reg ?_
            refine ow_batch [.fa 123 5 5 fa123_5] rfl ?_
            refine ow_r rfl (dstOk_lt rfl) (ry_box1 (off := 5) rfl rfl ty3 (boxIn (i := 0) rfl) rfl) ?_
            refine ow_batch [.fa 123 5 5 fa123_5] rfl ?_
            refine ow_r rfl (dstOk_lt rfl) (ry_box1 (off := 5) rfl rfl ty3 (boxIn (i := 1) rfl) rfl) ?_
            refine ow_batch [.p] rfl ?_
            refine ow_nil ?_
            refine x_qs ?_
            refine c_if rfl (fun hb => ?_) (fun hb => ?_)
            · have H := of_if_t hb H
              refine c_seq ?_
              refine c_reg ?_
              refine ow_batch [.p] rfl ?_
              refine ow_nil ?_
              refine x_qs ?_
              refine c_ret ?_
              refine x_qs_ret ?_
              exact x_retR (rs := [.tmp 4]) (vs := [.bool false]) rfl ⟨rfl, trivial⟩ (fun w' hw' => by
                  obtain rfl := of_some H
                  exact ⟨rfl, hw'.ext⟩)
            · have H := of_if_f hb H
              refine c_skip ?_
              refine x_qs ?_
              refine c_seq ?_
              refine c_seq ?_
              refine c_reg ?_
              refine ow_batch [.fa 123 6 6 fa123_6] rfl ?_
              refine ow_r rfl (dstOk_lt rfl) (ry_box1 (off := 6) rfl rfl ty4 (boxIn (i := 0) rfl) rfl) ?_
              refine ow_batch [.fa 123 6 6 fa123_6] rfl ?_
              refine ow_r rfl (dstOk_lt rfl) (ry_box1 (off := 6) rfl rfl ty4 (boxIn (i := 1) rfl) rfl) ?_
              refine ow_r rfl (dstOk_lt rfl) (ry_bneq rfl rfl rfl bl4) ?_
              refine ow_nil ?_
              refine x_qs ?_
              refine c_if rfl (fun hb => ?_) (fun hb => ?_)
              · have H := of_if_t hb H
                refine c_seq ?_
                refine c_reg ?_
                refine ow_batch [.p] rfl ?_
                refine ow_nil ?_
                refine x_qs ?_
                refine c_ret ?_
                refine x_qs_ret ?_
                exact x_retR (rs := [.tmp 4]) (vs := [.bool false]) rfl ⟨rfl, trivial⟩ (fun w' hw' => by
                    obtain rfl := of_some H
                    exact ⟨rfl, hw'.ext⟩)
              · have H := of_if_f hb H
                refine c_skip ?_
                refine x_qs ?_
                refine c_seq ?_
                refine c_seq ?_
                refine c_reg ?_
                refine ow_batch [.fa 123 7 7 fa123_7] rfl ?_
                refine ow_r rfl (dstOk_lt rfl) (ry_box1 (off := 7) rfl rfl ty4 (boxIn (i := 0) rfl) rfl) ?_
                refine ow_batch [.fa 123 7 7 fa123_7] rfl ?_
                refine ow_r rfl (dstOk_lt rfl) (ry_box1 (off := 7) rfl rfl ty4 (boxIn (i := 1) rfl) rfl) ?_
                refine ow_r rfl (dstOk_lt rfl) (ry_bneq rfl rfl rfl bl4) ?_
                refine ow_nil ?_
                refine x_qs ?_
                refine c_if rfl (fun hb => ?_) (fun hb => ?_)
                · have H := of_if_t hb H
                  refine c_seq ?_
                  refine c_reg ?_
                  refine ow_batch [.p] rfl ?_
                  refine ow_nil ?_
                  refine x_qs ?_
                  refine c_ret ?_
                  refine x_qs_ret ?_
                  exact x_retR (rs := [.tmp 4]) (vs := [.bool false]) rfl ⟨rfl, trivial⟩ (fun w' hw' => by
                      obtain rfl := of_some H
                      exact ⟨rfl, hw'.ext⟩)
                · have H := of_if_f hb H
                  refine c_skip ?_
                  refine x_qs ?_
                  refine c_seq ?_
                  refine c_reg ?_
                  refine ow_batch [.p] rfl ?_
                  refine ow_nil ?_
                  refine x_qs ?_
                  refine c_ret ?_
                  exact x_retR (rs := [.tmp 4]) (vs := [.bool true]) rfl ⟨rfl, trivial⟩ (fun w' hw' => by
                      obtain rfl := of_some H
                      exact ⟨rfl, hw'.ext⟩)

set_option maxHeartbeats 4000000 in
set_option maxRecDepth 100000 in
theorem laws_eqStepS_ok (w : World) {p0 : List Timpl_Step} {p1 : List Timpl_Step} {a_0 : Option Addr} {n_0 c_0 : Nat} {a_1 : Option Addr} {n_1 c_1 : Nat} {r : Bool} (H : laws_eqStepS p0 p1 = some r)  (g0 : (eList (eTimpl_Step) 123).rd w [] p0 [.slice a_0 n_0 c_0]) (g1 : (eList (eTimpl_Step) 123).rd w [] p1 [.slice a_1 n_1 c_1]) :
    Calls Try.prog 45 #[.slice a_0 n_0 c_0, .slice a_1 n_1 c_1] w (fun en w' => en = .returned (.bool r) ∧ Ext [] w w') := by
  obtain rfl := rd_n g0
  obtain rfl := rd_n g1
  unfold laws_eqStepS at H
  refine f_enter (vs := [.slice a_0 p0.length c_0, .slice a_1 p1.length c_1]) Try.func45 rfl Try.ntmps45 rfl (St.init w []) ?_
  refine c_seq ?_
  refine c_reg ?_
  refine ow_batch [.p] rfl ?_
  refine ow_nil ?_
  refine x_qs ?_
  refine c_seq ?_
  refine c_seq ?_
  refine c_reg ?_
  refine ow_batch [.p, .lenS 74 123 sl74, .p, .lenS 74 123 sl74, .p] rfl ?_
  refine ow_nil ?_
  refine x_qs ?_
  refine c_if rfl (fun hb => ?_) (fun hb => ?_)
  · have H := of_if_t hb H
    refine c_seq ?_
    refine c_reg ?_
    refine ow_batch [.p] rfl ?_
    refine ow_nil ?_
    refine x_qs ?_
    refine c_ret ?_
    refine x_qs_ret ?_
    exact x_retR (rs := [.tmp 4]) (vs := [.bool false]) rfl ⟨rfl, trivial⟩ (fun w' hw' => by
        obtain rfl := of_some H
        exact ⟨rfl, hw'.ext⟩)
  · have H := of_if_f hb H
    refine c_skip ?_
    refine x_qs ?_
    refine c_seq ?_
    refine c_seq ?_
    refine c_reg ?_
    refine ow_batch [.p] rfl ?_
    refine ow_nil ?_
    refine x_qs ?_
    refine c_block ?_
    refine CW.at (loopI1 (fun (i9 : Int) => St w [] []) (fun (i9 : Int) => [(0, .slice a_0 p0.length c_0), (1, .slice a_1 p1.length c_1), (5, .int .i64 i9)]) (fun kk => fun (i9 : Int) => laws_eqStepS_L1 p0 p1 kk i9 = some r) (fun _ H => ?_) (fun k1 ihk1 i9 H => ?_) Fuel (0) (H)) (fun _ h => St.sel [] rfl rfl h) ⟨rfl, rfl, rfl,  trivial⟩
    · unfold laws_eqStepS_L1 at H
      exact absurd H (by simp)
    · unfold laws_eqStepS_L1 at H
      refine c_seq ?_
      refine c_seq ?_
      refine c_reg ?_
      refine ow_batch [.p, .p, .lenS 74 123 sl74, .p] rfl ?_
      refine ow_nil ?_
      refine x_qs ?_
      refine c_if rfl (fun hb => ?_) (fun hb => ?_)
      · have H := of_if_t hb H
        refine c_skip ?_
        refine x_qs ?_
        refine c_seq ?_
        refine c_block ?_
        refine c_seq ?_
        refine c_regQ mixed (by kernel_rfl) ?_
        refine ow_batch [.p, .p] rfl ?_
        obtain ⟨e18, h19, H⟩ := of_bind H
        refine ow_ixE (e := eTimpl_Step) (xs := p0) (j := i9) rfl rfl rfl rfl rfl sl74 ty123 rfl (fun w1 hw1 => rds_bor g0 w1 hw1) h19 rfl ?_
        refine ow_r rfl (dstOk_lt rfl) (ry_load (cs := [.int .i64 e18.Said_, .int .i64 e18.Bit_, .int .i64 e18.Weight_, .int .i64 e18.Grow_, .int .i64 e18.Young_, .int .i64 e18.Det_, .bool e18.Began_, .bool e18.Swapped_]) rfl rfl ty123 (at_castA (at_eltE (fun w1 hw1 => rds_bor g0 w1 hw1) h19 (fun _ _ h => h)) rfl) rfl) ?_
        refine ow_batch [.p, .p] rfl ?_
        obtain ⟨e20, h21, H⟩ := of_bind H
        refine ow_ixE (e := eTimpl_Step) (xs := p1) (j := i9) rfl rfl rfl rfl rfl sl74 ty123 rfl (fun w1 hw1 => rds_bor g1 w1 hw1) h21 rfl ?_
        refine ow_r rfl (dstOk_lt rfl) (ry_load (cs := [.int .i64 e20.Said_, .int .i64 e20.Bit_, .int .i64 e20.Weight_, .int .i64 e20.Grow_, .int .i64 e20.Young_, .int .i64 e20.Det_, .bool e20.Began_, .bool e20.Swapped_]) rfl rfl ty123 (at_castA (at_eltE (fun w1 hw1 => rds_bor g1 w1 hw1) h21 (fun _ _ h => h)) rfl) rfl) ?_
        obtain ⟨y22, h23, H⟩ := of_bind H
        refine ow_q rfl rfl (dstOk_lt rfl) (qy_call rfl fn92 rfl (fun w1 hw1 => laws_eqStep_ok w1 (p0 := e18) (p1 := e20) h23)) (fun _ _ => trivial) ?_
        refine ow_batch [.p] rfl ?_
        refine ow_nilQ ?_
        refine x_qs ?_
        refine c_if rfl (fun hb => ?_) (fun hb => ?_)
        · have H := of_if_t hb H
          refine c_seq ?_
          refine c_reg ?_
          refine ow_batch [.p] rfl ?_
          refine ow_nil ?_
          refine x_qs ?_
          refine c_ret ?_
          refine x_qb_ret ?_
          refine x_qs_ret ?_
          refine x_ql_ret ?_
          refine x_qb_ret ?_
          refine x_qs_ret ?_
          exact x_retR (rs := [.tmp 4]) (vs := [.bool false]) rfl ⟨rfl, trivial⟩ (fun w' hw' => by
              obtain rfl := of_some H
              exact ⟨rfl, hw'.ext⟩)
        · have H := of_if_f hb H
          refine c_skip ?_
          refine x_qb ?_
          refine x_qs ?_
          refine c_reg ?_
          refine ow_batch [.p, .p, .p] rfl ?_
          refine ow_nil ?_
          exact x_ql (RW.at (ihk1 (IntKind.i64.wrap (i9 + 1)) (H)) (fun _ h => St.sel [] rfl rfl h) ⟨rfl, rfl, rfl, trivial⟩)
      · have H := of_if_f hb H
        refine c_exit ?_
        refine x_qs_exit ?_
        refine x_ql_exit ?_
        refine x_qb_here ?_
        refine x_qs ?_
        refine c_seq ?_
        refine c_reg ?_
        refine ow_batch [.p] rfl ?_
        refine ow_nil ?_
        refine x_qs ?_
        refine c_ret ?_
        exact x_retR (rs := [.tmp 4]) (vs := [.bool true]) rfl ⟨rfl, trivial⟩ (fun w' hw' => by
            obtain rfl := of_some H
            exact ⟨rfl, hw'.ext⟩)

set_option maxHeartbeats 4000000 in
set_option maxRecDepth 100000 in
theorem laws_markIntS_ok (w : World) {M0 : List Nat} {p0 : List Int} {p1 : Int} {a_0_0 : Option Addr} {n_0_0 c_0_0 : Nat} {F_0_0 : List Nat} {r : Int × (List Int)} (H : laws_markIntS p0 p1 = some r) (HS : St w M0 [Res.own (eList (eVal (Value.int .i64) (fun _ => rfl)) 3) F_0_0 p0 [.slice a_0_0 n_0_0 c_0_0]] w)  :
    Calls Try.prog 94 #[.slice a_0_0 n_0_0 c_0_0, .int .i64 p1] w (fun en w' => ∃ v, en = .returned v ∧ ∃ (F0 : List Nat), v = .int .i64 r.1 ∧ St w M0 [Res.own (eList (eVal (Value.int .i64) (fun _ => rfl)) 3) F0 r.2 [.slice a_0_0 n_0_0 c_0_0]] w') := by
  obtain rfl := own_nS (i := 0) HS rfl
  unfold laws_markIntS at H
  refine f_enter (vs := [.slice a_0_0 p0.length c_0_0, .int .i64 p1]) Try.func94 rfl Try.ntmps94 rfl (HS) ?_
  refine c_seq ?_
  refine c_reg ?_
  refine ow_batch [.p] rfl ?_
  refine ow_nil ?_
  refine x_qs ?_
  refine c_seq ?_
  refine c_seq ?_
  refine c_reg ?_
  refine ow_batch [.p] rfl ?_
  refine ow_nil ?_
  refine x_qs ?_
  refine c_block ?_
  refine CW.at (loopI3 (fun (l6 : List Int) (i7 : Int) (i9 : Int) => St w M0 [Res.own (eList (eVal (Value.int .i64) (fun _ => rfl)) 3) F_0_0 l6 [.slice a_0_0 p0.length c_0_0]]) (fun (l6 : List Int) (i7 : Int) (i9 : Int) => [(0, .slice a_0_0 p0.length c_0_0), (1, .int .i64 i7), (5, .int .i64 i9)]) (fun kk => fun (l6 : List Int) (i7 : Int) (i9 : Int) => laws_markIntS_L1 p0 kk l6 i7 i9 = some r) (fun _ _ _ H => ?_) (fun k1 ihk1 l6 i7 i9 H => ?_) Fuel (p0) (p1) (0) (H)) (fun _ h => St.sel [0] rfl rfl h) ⟨rfl, rfl, rfl,  trivial⟩
  · unfold laws_markIntS_L1 at H
    exact absurd H (by simp)
  · unfold laws_markIntS_L1 at H
    refine c_seq ?_
    refine c_seq ?_
    refine c_reg ?_
    refine ow_batch [.p, .p, .lenS 22 3 sl22, .p] rfl ?_
    refine ow_nil ?_
    refine x_qs ?_
    refine c_if rfl (fun hb => ?_) (fun hb => ?_)
    · have H := of_if_t hb H
      refine c_skip ?_
      refine x_qs ?_
      refine c_seq ?_
      refine c_block ?_
      refine c_seq ?_
      refine c_reg ?_
      refine ow_batch [.p, .p, .p] rfl ?_
      obtain ⟨e15, h16, H⟩ := of_bind H
      refine ow_ixE (e := eVal (Value.int .i64) (fun _ => rfl)) (xs := l6) (j := i9) rfl rfl rfl rfl rfl sl22 ty3 rfl (fun w1 hw1 => rds_own (r := 0) rfl w1 hw1) h16 (by rw [Nat.mul_one]) ?_
      refine ow_storeV (i := 0) (j := i9) rfl rfl rfl rfl rfl rfl ty3 rfl h16 (fun _ => rfl) kp ?_
      refine ow_nil ?_
      refine x_qs ?_
      refine c_reg ?_
      refine ow_batch [.p, .p, .p] rfl ?_
      refine ow_nil ?_
      refine x_qb ?_
      refine x_qs ?_
      refine c_reg ?_
      refine ow_batch [.p, .p, .p] rfl ?_
      refine ow_nil ?_
      exact x_ql (RW.at (ihk1 ((l6.set i9.toNat i7)) (IntKind.i64.wrap (i7 + 1)) (IntKind.i64.wrap (i9 + 1)) (H)) (fun _ h => St.sel [0] rfl rfl h) ⟨rfl, rfl, rfl, trivial⟩)
    · have H := of_if_f hb H
      refine c_exit ?_
      refine x_qs_exit ?_
      refine x_ql_exit ?_
      refine x_qb_here ?_
      refine x_qs ?_
      refine c_seq ?_
      refine c_reg ?_
      refine ow_batch [.p, .p] rfl ?_
      refine ow_nil ?_
      refine x_qs ?_
      refine c_ret ?_
      exact x_retR (rs := [.tmp 4]) (vs := [.int .i64 i7]) rfl ⟨rfl, trivial⟩ (fun w' hw' => by
          obtain rfl := of_some H
          exact ⟨_, rfl, F_0_0, rfl, hw'.sel [0] rfl rfl⟩)

set_option maxHeartbeats 4000000 in
set_option maxRecDepth 100000 in
theorem laws_markEntryS_ok (w : World) {M0 : List Nat} {p0 : List Timpl_Entry} {p1 : Int} {a_0_0 : Option Addr} {n_0_0 c_0_0 : Nat} {F_0_0 : List Nat} {r : Int × (List Timpl_Entry)} (H : laws_markEntryS p0 p1 = some r) (HS : St w M0 [Res.own (eList (eTimpl_Entry) 111) F_0_0 p0 [.slice a_0_0 n_0_0 c_0_0]] w)  :
    Calls Try.prog 93 #[.slice a_0_0 n_0_0 c_0_0, .int .i64 p1] w (fun en w' => ∃ v, en = .returned v ∧ ∃ (F0 : List Nat), v = .int .i64 r.1 ∧ St w M0 [Res.own (eList (eTimpl_Entry) 111) F0 r.2 [.slice a_0_0 n_0_0 c_0_0]] w') := by
  obtain rfl := own_nS (i := 0) HS rfl
  unfold laws_markEntryS at H
  refine f_enter (vs := [.slice a_0_0 p0.length c_0_0, .int .i64 p1]) Try.func93 rfl Try.ntmps93 rfl (HS) ?_
  refine c_seq ?_
  refine c_reg ?_
  refine ow_batch [.p] rfl ?_
  refine ow_nil ?_
  refine x_qs ?_
  refine c_seq ?_
  refine c_seq ?_
  refine c_reg ?_
  refine ow_batch [.p] rfl ?_
  refine ow_nil ?_
  refine x_qs ?_
  refine c_block ?_
  refine CW.at (loopI4 (fun (l26 : List Timpl_Entry) (F27 : List Nat) (i28 : Int) (i29 : Int) => St w M0 [Res.own (eList (eTimpl_Entry) 111) F27 l26 [.slice a_0_0 p0.length c_0_0]]) (fun (l26 : List Timpl_Entry) (F27 : List Nat) (i28 : Int) (i29 : Int) => [(0, .slice a_0_0 p0.length c_0_0), (1, .int .i64 i28), (5, .int .i64 i29)]) (fun kk => fun (l26 : List Timpl_Entry) (F27 : List Nat) (i28 : Int) (i29 : Int) => laws_markEntryS_L1 p0 kk l26 i28 i29 = some r) (fun _ _ _ _ H => ?_) (fun k1 ihk1 l26 F27 i28 i29 H => ?_) Fuel (p0) (F_0_0) (p1) (0) (H)) (fun _ h => St.sel [0] rfl rfl h) ⟨rfl, rfl, rfl,  trivial⟩
  · unfold laws_markEntryS_L1 at H
    exact absurd H (by simp)
  · unfold laws_markEntryS_L1 at H
    refine c_seq ?_
    refine c_seq ?_
    refine c_reg ?_
    refine ow_batch [.p, .p, .lenS 63 111 sl63, .p] rfl ?_
    refine ow_nil ?_
    refine x_qs ?_
    refine c_if rfl (fun hb => ?_) (fun hb => ?_)
    · have H := of_if_t hb H
      refine c_skip ?_
      refine x_qs ?_
      refine c_seq ?_
      refine c_block ?_
      refine c_seq ?_
      refine c_reg ?_
      refine ow_batch [.p, .p] rfl ?_
      obtain ⟨e55, h56, H⟩ := of_bind H
      refine ow_ex4 rfl (fun w1 hw1 => foc (r := 0) hw1 rfl h56) (fun b58 G59 F60 c61 => ?_)
      refine ow_fact rfl (fun w1 hw1 => hw1.1) (fun q57 => ?_)
      obtain ⟨ha62, hn63⟩ := q57
      refine ow_st (C' := St w M0 [_, _, _]) rfl (fun w1 hw1 => hw1.2) ?_
      refine ow_ex3 rfl (fun w1 hw1 => opn_Timpl_Entry (i := 2) hw1 rfl) (fun a65 c66 F67 => ?_)
      refine ow_fact rfl (fun w1 hw1 => hw1.1) (fun q64 => ?_)
      subst q64
      refine ow_st (C' := St w M0 [_, _, _, _]) rfl (fun w1 hw1 => hw1.2) ?_
      refine ow_ixH rfl rfl rfl rfl rfl sl63 ty111 rfl (holeIn (p := 1) rfl) hn63 ha62 (idx_some h56).1 ?_
      refine ow_batch [.fa 111 0 0 fa111_0, .fa 56 0 0 fa56_0] rfl ?_
      refine ow_r rfl (dstOk_lt rfl) (ry_hole1 1 0 rfl rfl rfl ty22 (by first | rfl | simp only [add_lit, add_add, add_zero]) rfl) ?_
      refine ow_batch [.p] rfl ?_
      obtain ⟨y68, h69, H⟩ := of_bind H
      refine ow_callS rfl fn94 rfl rfl rfl rfl (fun w1 hw1 => laws_markIntS_ok w1  h69 (hw1.carve [3] rfl rfl)) (fun v70 w1 w2 hw1 hR72 => ?_)
      obtain ⟨F73, rfl, hS71⟩ := hR72
      refine ⟨St w M0 [_, _, _, _, _], hw1.comp [3] rfl rfl hS71, fun _ _ => trivial, ?_⟩
      refine ow_batch [.p] rfl ?_
      refine ow_nil ?_
      refine x_qs ?_
      refine c_seq ?_
      refine CW.weak (C' := St w M0 [_, _]) ?_ (fun _ h => St.sel [1, 4] rfl rfl h)
      refine c_reg ?_
      refine ow_batch [.p, .p, .p] rfl ?_
      refine ow_ixH rfl rfl rfl rfl rfl sl63 ty111 rfl (holeIn (p := 0) rfl) hn63 ha62 (idx_some h56).1 ?_
      refine ow_batch [.fa 111 0 0 fa111_0, .fa 56 1 1 fa56_1] rfl ?_
      refine ow_storeH (off := 1) [.int .i64 y68.1] (p := 0) (c' := [_, _, _]) rfl rfl rfl rfl rfl (by first | rfl | simp only [add_lit, add_add, add_zero]) rfl ty3 rfl rfl (by intro u hu; simp only [List.mem_cons, List.not_mem_nil, or_false] at hu; rcases hu with rfl <;> rfl) rfl rfl rfl kp ?_
      refine ow_nil ?_
      refine x_qs ?_
      refine c_seq ?_
      refine c_reg ?_
      refine ow_batch [.p, .p, .p] rfl ?_
      refine ow_nil ?_
      refine x_qs ?_
      refine c_seq ?_
      refine c_reg ?_
      refine ow_batch [.p, .p, .p] rfl ?_
      refine ow_ixH rfl rfl rfl rfl rfl sl63 ty111 rfl (holeIn (p := 0) rfl) hn63 ha62 (idx_some h56).1 ?_
      refine ow_batch [.fa 111 1 2 fa111_1] rfl ?_
      refine ow_storeH (off := 2) [.int .i64 (IntKind.i64.wrap (y68.1 + 1))] (p := 0) (c' := [_, _, _]) rfl rfl rfl rfl rfl (by first | rfl | simp only [add_lit, add_add, add_zero]) rfl ty3 rfl rfl (by intro u hu; simp only [List.mem_cons, List.not_mem_nil, or_false] at hu; rcases hu with rfl <;> rfl) rfl rfl rfl kp ?_
      refine ow_nil ?_
      refine x_qs ?_
      refine c_reg ?_
      refine ow_batch [.p, .p, .p] rfl ?_
      refine ow_nil ?_
      refine x_qb ?_
      refine x_qs ?_
      refine c_reg ?_
      refine ow_batch [.p, .p, .p] rfl ?_
      refine ow_nil ?_
      refine xw_ex (fun w1 hw1 => fus_Timpl_Entry (x1 := y68.1) (x2 := IntKind.i64.wrap (y68.1 + 1)) [1] hw1 rfl rfl) (fun F74 => ?_)
      refine xw_st (C' := St w M0 [_, _, _]) (fun _ h => h) ?_
      refine xw_ex (fun w1 hw1 => unf (p := 0) (q := 2) hw1 rfl rfl rfl hn63 ha62) (fun F75 => ?_)
      refine xw_st (C' := St w M0 [_, _, _, _]) (fun _ h => h) ?_
      exact x_ql (RW.at (ihk1 ((l26.set i29.toNat (Timpl_Entry.mk (Timpl_Ex.mk y68.2 y68.1) (IntKind.i64.wrap (y68.1 + 1))))) (F75) (IntKind.i64.wrap ((IntKind.i64.wrap (y68.1 + 1)) + 1)) (IntKind.i64.wrap (i29 + 1)) (H)) (fun _ h => St.sel [3] rfl rfl h) ⟨rfl, rfl, rfl, trivial⟩)
    · have H := of_if_f hb H
      refine c_exit ?_
      refine x_qs_exit ?_
      refine x_ql_exit ?_
      refine x_qb_here ?_
      refine x_qs ?_
      refine c_seq ?_
      refine c_reg ?_
      refine ow_batch [.p, .p] rfl ?_
      refine ow_nil ?_
      refine x_qs ?_
      refine c_ret ?_
      exact x_retR (rs := [.tmp 4]) (vs := [.int .i64 i28]) rfl ⟨rfl, trivial⟩ (fun w' hw' => by
          obtain rfl := of_some H
          exact ⟨_, rfl, F27, rfl, hw'.sel [0] rfl rfl⟩)

end Go.Vk
