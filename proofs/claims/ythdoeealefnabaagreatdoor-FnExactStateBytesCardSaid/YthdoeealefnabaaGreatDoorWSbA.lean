/- The code does what the functions of data say. Printed by program. -/
import Derived.Test.YthdoeealefnabaaGreatDoorRF
import Derived.Test.YthdoeealefnabaaGreatDoorChecked
import Derived.Test.YthdoeealefnabaaGreatDoorShelf
namespace Go.Vk
open Value renaming int → I, slice → S, pointer → O, bool → B
open IntKind renaming i64 → J, u8 → K
open Bool renaming true → y, false → n
open Option renaming some → U, none → N
open Res renaming box → b, own → W
open Go.Proofs Go.RowKit
set_option maxHeartbeats 4000000
set_option maxRecDepth 100000
def fJ : Enc ch := ql (aH (cy) (aH (ae eI 3) (ae (cy) 9))) (fun x => (x.E_, x.z_, x.I_))
theorem uq {w : World} {X : List Nat} {x : ch} {c0 c1 c2 : List Value} (a : (cy).rd w X x.E_ c0) (h1 : (ae eI 3).rd w X x.z_ c1) (c : (ae (cy) 9).rd w X x.I_ c2) : (fJ).rd w X x (c0 ++ (c1 ++ c2)) := by
  show (aH (cy) (aH (ae eI 3) (ae (cy) 9))).rd w X (x.E_, x.z_, x.I_) _
  exact (bH a (bH h1 c))
theorem nX {w : World} {X : List Nat} {x : ch} {cs : List Value} (h : (fJ).rd w X x cs) : ∃ c0 c1 c2, cs = (c0 ++ (c1 ++ c2)) ∧ (cy).rd w X x.E_ c0 ∧ (ae eI 3).rd w X x.z_ c1 ∧ (ae (cy) 9).rd w X x.I_ c2 := by
  have h : (aH (cy) (aH (ae eI 3) (ae (cy) 9))).rd w X (x.E_, x.z_, x.I_) cs := h
  obtain ⟨c0, e, rfl, a, c⟩ := h
  obtain ⟨c1, c2, rfl, h1, d⟩ := c
  exact ⟨c0, c1, c2, z, a, h1, d⟩
def fX : Enc db := ql (aH (ae (fJ) 188) (ae (cy) 9)) (fun x => (x.d_, x.m_))
theorem fc {w : World} {X : List Nat} {x : db} {c0 c1 : List Value} (a : (ae (fJ) 188).rd w X x.d_ c0) (h1 : (ae (cy) 9).rd w X x.m_ c1) : (fX).rd w X x (c0 ++ c1) := by
  show (aH (ae (fJ) 188) (ae (cy) 9)).rd w X (x.d_, x.m_) _
  exact (bH a h1)
theorem gp {w : World} {X : List Nat} {x : db} {cs : List Value} (h : (fX).rd w X x cs) : ∃ c0 c1, cs = (c0 ++ c1) ∧ (ae (fJ) 188).rd w X x.d_ c0 ∧ (ae (cy) 9).rd w X x.m_ c1 := by
  have h : (aH (ae (fJ) 188) (ae (cy) 9)).rd w X (x.d_, x.m_) cs := h
  obtain ⟨c0, c1, rfl, a, h1⟩ := h
  exact ⟨c0, c1, z, a, h1⟩
def nj : Enc ii := zV (fun x => [I J x.L_, I J x.K_, I J x.M_, I J x.f_, I J x.b_, I J x.G_, B x.P_]) 7 (fun _ => z) (by intro x u hu; simp only [List.mem_cons, List.not_mem_nil, or_false] at hu; rcases hu with rfl | rfl | rfl | rfl | rfl | rfl | rfl <;> rfl)
def iC : Enc eG := ql (aH (fX) (aH (nj) (aH eI (aH eI (aH eI (aH eI eI)))))) (fun x => (x.p_, x.c_, x.j_, x.N_, x.O_, x.s_, x.t_))
theorem iM {w : World} {X : List Nat} {x : eG} {c0 c1 c2 c3 c4 c5 c6 : List Value} (a : (fX).rd w X x.p_ c0) (h1 : (nj).rd w X x.c_ c1) (c : eI.rd w X x.j_ c2) (d : eI.rd w X x.N_ c3) (e : eI.rd w X x.O_ c4) (f : eI.rd w X x.s_ c5) (g : eI.rd w X x.t_ c6) : (iC).rd w X x (c0 ++ (c1 ++ (c2 ++ (c3 ++ (c4 ++ (c5 ++ c6)))))) := by
  show (aH (fX) (aH (nj) (aH eI (aH eI (aH eI (aH eI eI)))))).rd w X (x.p_, x.c_, x.j_, x.N_, x.O_, x.s_, x.t_) _
  exact (bH a (bH h1 (bH c (bH d (bH e (bH f g))))))
theorem lA {w : World} {X : List Nat} {x : eG} {cs : List Value} (h : (iC).rd w X x cs) : ∃ c0 c1 c2 c3 c4 c5 c6, cs = (c0 ++ (c1 ++ (c2 ++ (c3 ++ (c4 ++ (c5 ++ c6)))))) ∧ (fX).rd w X x.p_ c0 ∧ (nj).rd w X x.c_ c1 ∧ eI.rd w X x.j_ c2 ∧ eI.rd w X x.N_ c3 ∧ eI.rd w X x.O_ c4 ∧ eI.rd w X x.s_ c5 ∧ eI.rd w X x.t_ c6 := by
  have h : (aH (fX) (aH (nj) (aH eI (aH eI (aH eI (aH eI eI)))))).rd w X (x.p_, x.c_, x.j_, x.N_, x.O_, x.s_, x.t_) cs := h
  obtain ⟨c0, m, rfl, a, c⟩ := h
  obtain ⟨c1, o, rfl, h1, r1⟩ := c
  obtain ⟨c2, p, rfl, d, e⟩ := r1
  obtain ⟨c3, q, rfl, f, g⟩ := e
  obtain ⟨c4, r, rfl, i, j⟩ := g
  obtain ⟨c5, c6, rfl, k, l⟩ := j
  exact ⟨c0, c1, c2, c3, c4, c5, c6, z, a, h1, d, f, i, k, l⟩
def gA : Enc cr := ql (aH (ae eI 3) (ae (ae eI 3) 69)) (fun x => (x.k_, x.h_))
theorem mT {w : World} {X : List Nat} {x : cr} {c0 c1 : List Value} (a : (ae eI 3).rd w X x.k_ c0) (h1 : (ae (ae eI 3) 69).rd w X x.h_ c1) : (gA).rd w X x (c0 ++ c1) := by
  show (aH (ae eI 3) (ae (ae eI 3) 69)).rd w X (x.k_, x.h_) _
  exact (bH a h1)
theorem ji {w : World} {X : List Nat} {x : cr} {cs : List Value} (h : (gA).rd w X x cs) : ∃ c0 c1, cs = (c0 ++ c1) ∧ (ae eI 3).rd w X x.k_ c0 ∧ (ae (ae eI 3) 69).rd w X x.h_ c1 := by
  have h : (aH (ae eI 3) (ae (ae eI 3) 69)).rd w X (x.k_, x.h_) cs := h
  obtain ⟨c0, c1, rfl, a, h1⟩ := h
  exact ⟨c0, c1, z, a, h1⟩
def ns : Enc dD := zV (fun x => [I J x.q_, I J x.u_]) 2 (fun _ => z) (by intro x u hu; simp only [List.mem_cons, List.not_mem_nil, or_false] at hu; rcases hu with rfl | rfl <;> rfl)
def fN : Enc bN := ql (aH (gN) (aH (ns) (aH (ae eI 3) (aH eI (aH (gA) (aH eI (aH (ae eI 3) (aH eI (aH eI eI))))))))) (fun x => (x.y_, x.g_, x.r_, x.C_, x.i_, x.D_, x.d_, x.f_, x.x_, x.B_))
theorem uh {w : World} {X : List Nat} {x : bN} {c0 c1 c2 c3 c4 c5 c6 a c d : List Value} (e : (gN).rd w X x.y_ c0) (h1 : (ns).rd w X x.g_ c1) (f : (ae eI 3).rd w X x.r_ c2) (g : eI.rd w X x.C_ c3) (h : (gA).rd w X x.i_ c4) (i : eI.rd w X x.D_ c5) (j : (ae eI 3).rd w X x.d_ c6) (k : eI.rd w X x.f_ a) (l : eI.rd w X x.x_ c) (m : eI.rd w X x.B_ d) : (fN).rd w X x (c0 ++ (c1 ++ (c2 ++ (c3 ++ (c4 ++ (c5 ++ (c6 ++ (a ++ (c ++ d))))))))) := by
  show (aH (gN) (aH (ns) (aH (ae eI 3) (aH eI (aH (gA) (aH eI (aH (ae eI 3) (aH eI (aH eI eI))))))))).rd w X (x.y_, x.g_, x.r_, x.C_, x.i_, x.D_, x.d_, x.f_, x.x_, x.B_) _
  exact (bH e (bH h1 (bH f (bH g (bH h (bH i (bH j (bH k (bH l m)))))))))
theorem ou {w : World} {X : List Nat} {x : bN} {cs : List Value} (h : (fN).rd w X x cs) : ∃ c0 c1 c2 c3 c4 c5 c6 a c d, cs = (c0 ++ (c1 ++ (c2 ++ (c3 ++ (c4 ++ (c5 ++ (c6 ++ (a ++ (c ++ d))))))))) ∧ (gN).rd w X x.y_ c0 ∧ (ns).rd w X x.g_ c1 ∧ (ae eI 3).rd w X x.r_ c2 ∧ eI.rd w X x.C_ c3 ∧ (gA).rd w X x.i_ c4 ∧ eI.rd w X x.D_ c5 ∧ (ae eI 3).rd w X x.d_ c6 ∧ eI.rd w X x.f_ a ∧ eI.rd w X x.x_ c ∧ eI.rd w X x.B_ d := by
  have h : (aH (gN) (aH (ns) (aH (ae eI 3) (aH eI (aH (gA) (aH eI (aH (ae eI 3) (aH eI (aH eI eI))))))))).rd w X (x.y_, x.g_, x.r_, x.C_, x.i_, x.D_, x.d_, x.f_, x.x_, x.B_) cs := h
  obtain ⟨c0, A, rfl, e, f⟩ := h
  obtain ⟨c1, C, rfl, h1, r1⟩ := f
  obtain ⟨c2, D, rfl, g, i⟩ := r1
  obtain ⟨c3, E, rfl, j, k⟩ := i
  obtain ⟨c4, F, rfl, l, m⟩ := k
  obtain ⟨c5, G, rfl, o, p⟩ := m
  obtain ⟨c6, H, rfl, q, r⟩ := p
  obtain ⟨a, L, rfl, s, t⟩ := r
  obtain ⟨c, d, rfl, u, v⟩ := t
  exact ⟨c0, c1, c2, c3, c4, c5, c6, a, c, d, z, e, h1, g, j, l, o, q, s, u, v⟩
def eT : Enc cW := ql (aH (ae (fN) 225) eI) (fun x => (x.b_, x.A_))
theorem gM {w : World} {X : List Nat} {x : cW} {c0 c1 : List Value} (a : (ae (fN) 225).rd w X x.b_ c0) (h1 : eI.rd w X x.A_ c1) : (eT).rd w X x (c0 ++ c1) := by
  show (aH (ae (fN) 225) eI).rd w X (x.b_, x.A_) _
  exact (bH a h1)
theorem fA {w : World} {X : List Nat} {x : cW} {cs : List Value} (h : (eT).rd w X x cs) : ∃ c0 c1, cs = (c0 ++ c1) ∧ (ae (fN) 225).rd w X x.b_ c0 ∧ eI.rd w X x.A_ c1 := by
  have h : (aH (ae (fN) 225) eI).rd w X (x.b_, x.A_) cs := h
  obtain ⟨c0, c1, rfl, a, h1⟩ := h
  exact ⟨c0, c1, z, a, h1⟩
def dC : Enc cc := ql (ae (ae eI 3) 69) (fun x => x.o_)
theorem dx {w : World} {X : List Nat} {x : cc} {c0 : List Value} (a : (ae (ae eI 3) 69).rd w X x.o_ c0) : (dC).rd w X x c0 := by
  show (ae (ae eI 3) 69).rd w X x.o_ _
  exact a
theorem cT {w : World} {X : List Nat} {x : cc} {cs : List Value} (h : (dC).rd w X x cs) : ∃ c0, cs = c0 ∧ (ae (ae eI 3) 69).rd w X x.o_ c0 := by
  have h : (ae (ae eI 3) 69).rd w X x.o_ cs := h
  exact ⟨cs, z, h⟩
def jG : Enc eM := ql (aH (dC) (dC)) (fun x => (x.s_, x.t_))
theorem pt {w : World} {X : List Nat} {x : eM} {c0 c1 : List Value} (a : (dC).rd w X x.s_ c0) (h1 : (dC).rd w X x.t_ c1) : (jG).rd w X x (c0 ++ c1) := by
  show (aH (dC) (dC)).rd w X (x.s_, x.t_) _
  exact (bH a h1)
theorem ld {w : World} {X : List Nat} {x : eM} {cs : List Value} (h : (jG).rd w X x cs) : ∃ c0 c1, cs = (c0 ++ c1) ∧ (dC).rd w X x.s_ c0 ∧ (dC).rd w X x.t_ c1 := by
  have h : (aH (dC) (dC)).rd w X (x.s_, x.t_) cs := h
  obtain ⟨c0, c1, rfl, a, h1⟩ := h
  exact ⟨c0, c1, z, a, h1⟩
def eu : Enc bJ := ql (aH (eT) (aH (gN) (aH (eT) (jG)))) (fun x => (x.F_, x.S_, x.w_, x.H_))
theorem sn {w : World} {X : List Nat} {x : bJ} {c0 c1 c2 c3 : List Value} (a : (eT).rd w X x.F_ c0) (h1 : (gN).rd w X x.S_ c1) (c : (eT).rd w X x.w_ c2) (d : (jG).rd w X x.H_ c3) : (eu).rd w X x (c0 ++ (c1 ++ (c2 ++ c3))) := by
  show (aH (eT) (aH (gN) (aH (eT) (jG)))).rd w X (x.F_, x.S_, x.w_, x.H_) _
  exact (bH a (bH h1 (bH c d)))
theorem ma {w : World} {X : List Nat} {x : bJ} {cs : List Value} (h : (eu).rd w X x cs) : ∃ c0 c1 c2 c3, cs = (c0 ++ (c1 ++ (c2 ++ c3))) ∧ (eT).rd w X x.F_ c0 ∧ (gN).rd w X x.S_ c1 ∧ (eT).rd w X x.w_ c2 ∧ (jG).rd w X x.H_ c3 := by
  have h : (aH (eT) (aH (gN) (aH (eT) (jG)))).rd w X (x.F_, x.S_, x.w_, x.H_) cs := h
  obtain ⟨c0, f, rfl, a, c⟩ := h
  obtain ⟨c1, g, rfl, h1, r1⟩ := c
  obtain ⟨c2, c3, rfl, d, e⟩ := r1
  exact ⟨c0, c1, c2, c3, z, a, h1, d, e⟩
def fV : Enc dj := ql (ae (eu) 149) (fun x => x.j_)
theorem gx {w : World} {X : List Nat} {x : dj} {c0 : List Value} (a : (ae (eu) 149).rd w X x.j_ c0) : (fV).rd w X x c0 := by
  show (ae (eu) 149).rd w X x.j_ _
  exact a
theorem kh {w : World} {X : List Nat} {x : dj} {cs : List Value} (h : (fV).rd w X x cs) : ∃ c0, cs = c0 ∧ (ae (eu) 149).rd w X x.j_ c0 := by
  have h : (ae (eu) 149).rd w X x.j_ cs := h
  exact ⟨cs, z, h⟩
def ix : Enc cY := zV (fun x => [I J x.Q_, I J x.R_]) 2 (fun _ => z) (by intro x u hu; simp only [List.mem_cons, List.not_mem_nil, or_false] at hu; rcases hu with rfl | rfl <;> rfl)
def gD : Enc dM := ql (aH (ae (ae eI 3) 69) (ae (ix) 163)) (fun x => (x.n_, x.l_))
theorem ib {w : World} {X : List Nat} {x : dM} {c0 c1 : List Value} (a : (ae (ae eI 3) 69).rd w X x.n_ c0) (h1 : (ae (ix) 163).rd w X x.l_ c1) : (gD).rd w X x (c0 ++ c1) := by
  show (aH (ae (ae eI 3) 69) (ae (ix) 163)).rd w X (x.n_, x.l_) _
  exact (bH a h1)
theorem kO {w : World} {X : List Nat} {x : dM} {cs : List Value} (h : (gD).rd w X x cs) : ∃ c0 c1, cs = (c0 ++ c1) ∧ (ae (ae eI 3) 69).rd w X x.n_ c0 ∧ (ae (ix) 163).rd w X x.l_ c1 := by
  have h : (aH (ae (ae eI 3) 69) (ae (ix) 163)).rd w X (x.n_, x.l_) cs := h
  obtain ⟨c0, c1, rfl, a, h1⟩ := h
  exact ⟨c0, c1, z, a, h1⟩
def lZ : Enc dz := ql (aH (iC) (aH (fV) (gD))) (fun x => (x.a_, x.J_, x.v_))
theorem kP {w : World} {X : List Nat} {x : dz} {c0 c1 c2 : List Value} (a : (iC).rd w X x.a_ c0) (h1 : (fV).rd w X x.J_ c1) (c : (gD).rd w X x.v_ c2) : (lZ).rd w X x (c0 ++ (c1 ++ c2)) := by
  show (aH (iC) (aH (fV) (gD))).rd w X (x.a_, x.J_, x.v_) _
  exact (bH a (bH h1 c))
theorem qk {w : World} {X : List Nat} {x : dz} {cs : List Value} (h : (lZ).rd w X x cs) : ∃ c0 c1 c2, cs = (c0 ++ (c1 ++ c2)) ∧ (iC).rd w X x.a_ c0 ∧ (fV).rd w X x.J_ c1 ∧ (gD).rd w X x.v_ c2 := by
  have h : (aH (iC) (aH (fV) (gD))).rd w X (x.a_, x.J_, x.v_) cs := h
  obtain ⟨c0, e, rfl, a, c⟩ := h
  obtain ⟨c1, c2, rfl, h1, d⟩ := c
  exact ⟨c0, c1, c2, z, a, h1, d⟩
def bj : Enc aB := ql (aH (cy) (aH (ae eI 3) (ae (cy) 9))) (fun x => (x.E_, x.z_, x.I_))
theorem cZ {w : World} {X : List Nat} {x : aB} {c0 c1 c2 : List Value} (a : (cy).rd w X x.E_ c0) (h1 : (ae eI 3).rd w X x.z_ c1) (c : (ae (cy) 9).rd w X x.I_ c2) : (bj).rd w X x (c0 ++ (c1 ++ c2)) := by
  show (aH (cy) (aH (ae eI 3) (ae (cy) 9))).rd w X (x.E_, x.z_, x.I_) _
  exact (bH a (bH h1 c))
theorem bV {w : World} {X : List Nat} {x : aB} {cs : List Value} (h : (bj).rd w X x cs) : ∃ c0 c1 c2, cs = (c0 ++ (c1 ++ c2)) ∧ (cy).rd w X x.E_ c0 ∧ (ae eI 3).rd w X x.z_ c1 ∧ (ae (cy) 9).rd w X x.I_ c2 := by
  have h : (aH (cy) (aH (ae eI 3) (ae (cy) 9))).rd w X (x.E_, x.z_, x.I_) cs := h
  obtain ⟨c0, e, rfl, a, c⟩ := h
  obtain ⟨c1, c2, rfl, h1, d⟩ := c
  exact ⟨c0, c1, c2, z, a, h1, d⟩
theorem tI {w : World} {a c d : List Nat} {x : aB} {c0 c1 c2 : List Value} (e : (cy).own w a x.E_ c0) (h1 : (ae eI 3).own w c x.z_ c1) (f : (ae (cy) 9).own w d x.I_ c2) : (bj).own w (a ++ (c ++ d)) x (c0 ++ (c1 ++ c2)) := by
  show (aH (cy) (aH (ae eI 3) (ae (cy) 9))).own w _ (x.E_, x.z_, x.I_) _
  exact (fO e (fO h1 f))
theorem zo {w : World} {F : List Nat} {x : aB} {cs : List Value} (h : (bj).own w F x cs) : ∃ a c d c0 c1 c2, F = (a ++ (c ++ d)) ∧ cs = (c0 ++ (c1 ++ c2)) ∧ (cy).own w a x.E_ c0 ∧ (ae eI 3).own w c x.z_ c1 ∧ (ae (cy) 9).own w d x.I_ c2 := by
  have h : (aH (cy) (aH (ae eI 3) (ae (cy) 9))).own w F (x.E_, x.z_, x.I_) cs := h
  obtain ⟨a, i, c0, j, rfl, rfl, e, f⟩ := h
  obtain ⟨c, d, c1, c2, rfl, rfl, h1, g⟩ := f
  exact ⟨a, c, d, c0, c1, c2, z, z, e, h1, g⟩
theorem ux {w0 : World} {M : List Nat} {L : List Res} {w : World} {F : List Nat} {x : aB} {cs : List Value} {i : Nat} (h : St w0 M L w) (hi : L[i]? = U (W (bj) F x cs)) :
    ∃ (a_1 : Option Addr) (k_1 : Nat) (F_1 : List Nat), ∃ (a_2 : Option Addr) (k_2 : Nat) (F_2 : List Nat), cs = [vS x.E_, S a_1 (x.z_).length k_1, S a_2 (x.I_).length k_2] ∧ St w0 M (pC L [i] ++ [W (ae eI 3) F_1 x.z_ [S a_1 (x.z_).length k_1], W (ae (cy) 9) F_2 x.I_ [S a_2 (x.I_).length k_2]]) w := by
  obtain ⟨hok, _, _⟩ := h.one hi
  have hok : (bj).own w F x cs := hok
  obtain ⟨F1_0, F1_1, F1_2, c1_0, c1_1, c1_2, rfl, rfl, h1_0, h1_1, h1_2⟩ := zo hok
  obtain ⟨rfl, rfl⟩ : F1_0 = [] ∧ c1_0 = [vS x.E_] := h1_0
  obtain ⟨a, c, rfl⟩ := mU h1_1
  obtain ⟨d, e, rfl⟩ := mU h1_2
  refine ⟨a, c, F1_1, d, e, F1_2, z, h.re [i] _ z ?_ ?_⟩
  · simp [kS, sG, hi, dF, W]
  · intro s hs; simp only [List.mem_cons, List.not_mem_nil, or_false] at hs; rcases hs with rfl | rfl
    · exact h1_1
    · exact h1_2
theorem ud {w0 : World} {M : List Nat} {L : List Res} {w : World} {x0 : List UInt8} {x1 : List Int} {a : Option Addr} {c d : Nat} {i : List Nat} {x2 : List (List UInt8)} {e : Option Addr} {f g : Nat} {j : List Nat} (idx : List Nat) (h : St w0 M L w) (hs : kx L idx = [W (ae eI 3) i x1 [S a c d], W (ae (cy) 9) j x2 [S e f g]]) (hn : xR idx = y) :
    ∃ F, St w0 M (pC L idx ++ [W (bj) F (aB.mk x0 x1 x2) [vS x0, S a c d, S e f g]]) w := by
  have k : (ae eI 3).own w i x1 [S a c d] := h.ok' (mV (L := L) (is := idx) (by rw [hs]; simp : W (ae eI 3) i x1 [S a c d] ∈ kx L idx))
  have o1 : (ae (cy) 9).own w j x2 [S e f g] := h.ok' (mV (L := L) (is := idx) (by rw [hs]; simp : W (ae (cy) 9) j x2 [S e f g] ∈ kx L idx))
  have ho := (tI (x := (aB.mk x0 x1 x2)) (⟨z, z⟩ : (cy).own w [] _ _) k o1)
  refine ⟨_, h.re idx [W (bj) _ (aB.mk x0 x1 x2) [vS x0, S a c d, S e f g]] hn ?_ (fun s hs => by rw [List.mem_singleton.1 hs]; exact ho)⟩
  rw [hs]
  simp [dF, W]
def gG : Enc bC := zV (fun x => [I J x.q_, I J x.u_]) 2 (fun _ => z) (by intro x u hu; simp only [List.mem_cons, List.not_mem_nil, or_false] at hu; rcases hu with rfl | rfl <;> rfl)
def cL : Enc aV := ql (aH (ae eI 3) (ae (ae eI 3) 69)) (fun x => (x.k_, x.h_))
theorem ct {w : World} {X : List Nat} {x : aV} {c0 c1 : List Value} (a : (ae eI 3).rd w X x.k_ c0) (h1 : (ae (ae eI 3) 69).rd w X x.h_ c1) : (cL).rd w X x (c0 ++ c1) := by
  show (aH (ae eI 3) (ae (ae eI 3) 69)).rd w X (x.k_, x.h_) _
  exact (bH a h1)
theorem aX {w : World} {X : List Nat} {x : aV} {cs : List Value} (h : (cL).rd w X x cs) : ∃ c0 c1, cs = (c0 ++ c1) ∧ (ae eI 3).rd w X x.k_ c0 ∧ (ae (ae eI 3) 69).rd w X x.h_ c1 := by
  have h : (aH (ae eI 3) (ae (ae eI 3) 69)).rd w X (x.k_, x.h_) cs := h
  obtain ⟨c0, c1, rfl, a, h1⟩ := h
  exact ⟨c0, c1, z, a, h1⟩
theorem sq {w : World} {a c : List Nat} {x : aV} {c0 c1 : List Value} (d : (ae eI 3).own w a x.k_ c0) (h1 : (ae (ae eI 3) 69).own w c x.h_ c1) : (cL).own w (a ++ c) x (c0 ++ c1) := by
  show (aH (ae eI 3) (ae (ae eI 3) 69)).own w _ (x.k_, x.h_) _
  exact (fO d h1)
theorem yd {w : World} {F : List Nat} {x : aV} {cs : List Value} (h : (cL).own w F x cs) : ∃ a c c0 c1, F = (a ++ c) ∧ cs = (c0 ++ c1) ∧ (ae eI 3).own w a x.k_ c0 ∧ (ae (ae eI 3) 69).own w c x.h_ c1 := by
  have h : (aH (ae eI 3) (ae (ae eI 3) 69)).own w F (x.k_, x.h_) cs := h
  obtain ⟨a, c, c0, c1, rfl, rfl, d, h1⟩ := h
  exact ⟨a, c, c0, c1, z, z, d, h1⟩
def bc : Enc au := ql (aH (gN) (aH (gG) (aH (ae eI 3) (aH eI (aH (cL) (aH eI (aH (ae eI 3) (aH eI (aH eI eI))))))))) (fun x => (x.y_, x.g_, x.r_, x.C_, x.i_, x.D_, x.d_, x.f_, x.x_, x.B_))
theorem ga {w : World} {X : List Nat} {x : au} {c0 c1 c2 c3 c4 c5 c6 a c d : List Value} (e : (gN).rd w X x.y_ c0) (h1 : (gG).rd w X x.g_ c1) (f : (ae eI 3).rd w X x.r_ c2) (g : eI.rd w X x.C_ c3) (h : (cL).rd w X x.i_ c4) (i : eI.rd w X x.D_ c5) (j : (ae eI 3).rd w X x.d_ c6) (k : eI.rd w X x.f_ a) (l : eI.rd w X x.x_ c) (m : eI.rd w X x.B_ d) : (bc).rd w X x (c0 ++ (c1 ++ (c2 ++ (c3 ++ (c4 ++ (c5 ++ (c6 ++ (a ++ (c ++ d))))))))) := by
  show (aH (gN) (aH (gG) (aH (ae eI 3) (aH eI (aH (cL) (aH eI (aH (ae eI 3) (aH eI (aH eI eI))))))))).rd w X (x.y_, x.g_, x.r_, x.C_, x.i_, x.D_, x.d_, x.f_, x.x_, x.B_) _
  exact (bH e (bH h1 (bH f (bH g (bH h (bH i (bH j (bH k (bH l m)))))))))
theorem bA {w : World} {X : List Nat} {x : au} {cs : List Value} (h : (bc).rd w X x cs) : ∃ c0 c1 c2 c3 c4 c5 c6 a c d, cs = (c0 ++ (c1 ++ (c2 ++ (c3 ++ (c4 ++ (c5 ++ (c6 ++ (a ++ (c ++ d))))))))) ∧ (gN).rd w X x.y_ c0 ∧ (gG).rd w X x.g_ c1 ∧ (ae eI 3).rd w X x.r_ c2 ∧ eI.rd w X x.C_ c3 ∧ (cL).rd w X x.i_ c4 ∧ eI.rd w X x.D_ c5 ∧ (ae eI 3).rd w X x.d_ c6 ∧ eI.rd w X x.f_ a ∧ eI.rd w X x.x_ c ∧ eI.rd w X x.B_ d := by
  have h : (aH (gN) (aH (gG) (aH (ae eI 3) (aH eI (aH (cL) (aH eI (aH (ae eI 3) (aH eI (aH eI eI))))))))).rd w X (x.y_, x.g_, x.r_, x.C_, x.i_, x.D_, x.d_, x.f_, x.x_, x.B_) cs := h
  obtain ⟨c0, A, rfl, e, f⟩ := h
  obtain ⟨c1, C, rfl, h1, r1⟩ := f
  obtain ⟨c2, D, rfl, g, i⟩ := r1
  obtain ⟨c3, E, rfl, j, k⟩ := i
  obtain ⟨c4, F, rfl, l, m⟩ := k
  obtain ⟨c5, G, rfl, o, p⟩ := m
  obtain ⟨c6, H, rfl, q, r⟩ := p
  obtain ⟨a, L, rfl, s, t⟩ := r
  obtain ⟨c, d, rfl, u, v⟩ := t
  exact ⟨c0, c1, c2, c3, c4, c5, c6, a, c, d, z, e, h1, g, j, l, o, q, s, u, v⟩
theorem tH {w : World} {a c d e f g h i j k : List Nat} {x : au} {c0 c1 c2 c3 c4 c5 c6 l m o : List Value} (p : (gN).own w a x.y_ c0) (h1 : (gG).own w c x.g_ c1) (q : (ae eI 3).own w d x.r_ c2) (r : eI.own w e x.C_ c3) (s : (cL).own w f x.i_ c4) (t : eI.own w g x.D_ c5) (u : (ae eI 3).own w h x.d_ c6) (v : eI.own w i x.f_ l) (A : eI.own w j x.x_ m) (C : eI.own w k x.B_ o) : (bc).own w (a ++ (c ++ (d ++ (e ++ (f ++ (g ++ (h ++ (i ++ (j ++ k))))))))) x (c0 ++ (c1 ++ (c2 ++ (c3 ++ (c4 ++ (c5 ++ (c6 ++ (l ++ (m ++ o))))))))) := by
  show (aH (gN) (aH (gG) (aH (ae eI 3) (aH eI (aH (cL) (aH eI (aH (ae eI 3) (aH eI (aH eI eI))))))))).own w _ (x.y_, x.g_, x.r_, x.C_, x.i_, x.D_, x.d_, x.f_, x.x_, x.B_) _
  exact (fO p (fO h1 (fO q (fO r (fO s (fO t (fO u (fO v (fO A C)))))))))
theorem yA {w : World} {F : List Nat} {x : au} {cs : List Value} (h : (bc).own w F x cs) : ∃ a c d e f g i j k l c0 c1 c2 c3 c4 c5 c6 m o p, F = (a ++ (c ++ (d ++ (e ++ (f ++ (g ++ (i ++ (j ++ (k ++ l))))))))) ∧ cs = (c0 ++ (c1 ++ (c2 ++ (c3 ++ (c4 ++ (c5 ++ (c6 ++ (m ++ (o ++ p))))))))) ∧ (gN).own w a x.y_ c0 ∧ (gG).own w c x.g_ c1 ∧ (ae eI 3).own w d x.r_ c2 ∧ eI.own w e x.C_ c3 ∧ (cL).own w f x.i_ c4 ∧ eI.own w g x.D_ c5 ∧ (ae eI 3).own w i x.d_ c6 ∧ eI.own w j x.f_ m ∧ eI.own w k x.x_ o ∧ eI.own w l x.B_ p := by
  have h : (aH (gN) (aH (gG) (aH (ae eI 3) (aH eI (aH (cL) (aH eI (aH (ae eI 3) (aH eI (aH eI eI))))))))).own w F (x.y_, x.g_, x.r_, x.C_, x.i_, x.D_, x.d_, x.f_, x.x_, x.B_) cs := h
  obtain ⟨a, R, c0, T, rfl, rfl, q, r⟩ := h
  obtain ⟨c, V, c1, X, rfl, rfl, h1, r1⟩ := r
  obtain ⟨d, Z, c2, d2, rfl, rfl, s, t⟩ := r1
  obtain ⟨e, G3, c3, d3, rfl, rfl, u, v⟩ := t
  obtain ⟨f, G4, c4, d4, rfl, rfl, A, C⟩ := v
  obtain ⟨g, G5, c5, d5, rfl, rfl, D, E⟩ := C
  obtain ⟨i, G6, c6, d6, rfl, rfl, G, H⟩ := E
  obtain ⟨j, G7, m, d7, rfl, rfl, L, M⟩ := H
  obtain ⟨k, l, o, p, rfl, rfl, P, Q⟩ := M
  exact ⟨a, c, d, e, f, g, i, j, k, l, c0, c1, c2, c3, c4, c5, c6, m, o, p, z, z, q, h1, s, u, A, D, G, L, P, Q⟩
theorem uy {w0 : World} {M : List Nat} {L : List Res} {w : World} {F : List Nat} {x : au} {cs : List Value} {i : Nat} (h : St w0 M L w) (hi : L[i]? = U (W (bc) F x cs)) :
    ∃ (a_1 : Option Addr) (k_1 : Nat) (F_1 : List Nat), ∃ (a_2 : Option Addr) (k_2 : Nat) (F_2 : List Nat), ∃ (a_3 : Option Addr) (k_3 : Nat) (F_3 : List Nat), ∃ (a_4 : Option Addr) (k_4 : Nat) (F_4 : List Nat), cs = [B x.y_, I J x.g_.q_, I J x.g_.u_, S a_1 (x.r_).length k_1, I J x.C_, S a_2 (x.i_.k_).length k_2, S a_3 (x.i_.h_).length k_3, I J x.D_, S a_4 (x.d_).length k_4, I J x.f_, I J x.x_, I J x.B_] ∧ St w0 M (pC L [i] ++ [W (ae eI 3) F_1 x.r_ [S a_1 (x.r_).length k_1], W (ae eI 3) F_2 x.i_.k_ [S a_2 (x.i_.k_).length k_2], W (ae (ae eI 3) 69) F_3 x.i_.h_ [S a_3 (x.i_.h_).length k_3], W (ae eI 3) F_4 x.d_ [S a_4 (x.d_).length k_4]]) w := by
  obtain ⟨hok, _, _⟩ := h.one hi
  have hok : (bc).own w F x cs := hok
  obtain ⟨F1_0, F1_1, F1_2, F1_3, F1_4, F1_5, F1_6, F1_7, F1_8, F1_9, c1_0, c1_1, c1_2, c1_3, c1_4, c1_5, c1_6, c1_7, c1_8, c1_9, rfl, rfl, h1_0, h1_1, h1_2, h1_3, h1_4, h1_5, h1_6, h1_7, h1_8, h1_9⟩ := yA hok
  obtain ⟨rfl, rfl⟩ : F1_0 = [] ∧ c1_0 = [B x.y_] := h1_0
  obtain ⟨rfl, rfl⟩ : F1_1 = [] ∧ c1_1 = [I J x.g_.q_, I J x.g_.u_] := h1_1
  obtain ⟨a, c, rfl⟩ := mU h1_2
  obtain ⟨rfl, rfl⟩ : F1_3 = [] ∧ c1_3 = [I J x.C_] := h1_3
  obtain ⟨F3_0, F3_1, c3_0, c3_1, rfl, rfl, h3_0, h3_1⟩ := yd h1_4
  obtain ⟨d, e, rfl⟩ := mU h3_0
  obtain ⟨f, g, rfl⟩ := mU h3_1
  obtain ⟨rfl, rfl⟩ : F1_5 = [] ∧ c1_5 = [I J x.D_] := h1_5
  obtain ⟨j, k, rfl⟩ := mU h1_6
  obtain ⟨rfl, rfl⟩ : F1_7 = [] ∧ c1_7 = [I J x.f_] := h1_7
  obtain ⟨rfl, rfl⟩ : F1_8 = [] ∧ c1_8 = [I J x.x_] := h1_8
  obtain ⟨rfl, rfl⟩ : F1_9 = [] ∧ c1_9 = [I J x.B_] := h1_9
  refine ⟨a, c, F1_2, d, e, F3_0, f, g, F3_1, j, k, F1_6, z, h.re [i] _ z ?_ ?_⟩
  · simp [kS, sG, hi, dF, W]
  · intro s hs; simp only [List.mem_cons, List.not_mem_nil, or_false] at hs; rcases hs with rfl | rfl | rfl | rfl
    · exact h1_2
    · exact h3_0
    · exact h3_1
    · exact h1_6
theorem uc {w0 : World} {M : List Nat} {L : List Res} {w : World} {x0 : Bool} {x1 : Int} {x2 : Int} {d : List Int} {f : Option Addr} {g i : Nat} {u : List Nat} {x4 : Int} {a : List Int} {j : Option Addr} {k l : Nat} {v : List Nat} {c : List (List Int)} {m : Option Addr} {o p : Nat} {A : List Nat} {x7 : Int} {e : List Int} {q : Option Addr} {r t : Nat} {C : List Nat} {x9 : Int} {x10 : Int} {x11 : Int} (idx : List Nat) (h : St w0 M L w) (hs : kx L idx = [W (ae eI 3) u d [S f g i], W (ae eI 3) v a [S j k l], W (ae (ae eI 3) 69) A c [S m o p], W (ae eI 3) C e [S q r t]]) (hn : xR idx = y) :
    ∃ F, St w0 M (pC L idx ++ [W (bc) F (au.mk x0 (bC.mk x1 x2) d x4 (aV.mk a c) x7 e x9 x10 x11) [B x0, I J x1, I J x2, S f g i, I J x4, S j k l, S m o p, I J x7, S q r t, I J x9, I J x10, I J x11]]) w := by
  have D : (ae eI 3).own w u d [S f g i] := h.ok' (mV (L := L) (is := idx) (by rw [hs]; simp : W (ae eI 3) u d [S f g i] ∈ kx L idx))
  have o1 : (ae eI 3).own w v a [S j k l] := h.ok' (mV (L := L) (is := idx) (by rw [hs]; simp : W (ae eI 3) v a [S j k l] ∈ kx L idx))
  have E : (ae (ae eI 3) 69).own w A c [S m o p] := h.ok' (mV (L := L) (is := idx) (by rw [hs]; simp : W (ae (ae eI 3) 69) A c [S m o p] ∈ kx L idx))
  have G : (ae eI 3).own w C e [S q r t] := h.ok' (mV (L := L) (is := idx) (by rw [hs]; simp : W (ae eI 3) C e [S q r t] ∈ kx L idx))
  have ho := (tH (x := (au.mk x0 (bC.mk x1 x2) d x4 (aV.mk a c) x7 e x9 x10 x11)) (⟨z, z⟩ : (gN).own w [] _ _) (⟨z, z⟩ : (gG).own w [] _ _) D (⟨z, z⟩ : eI.own w [] _ _) (sq (x := (aV.mk a c)) o1 E) (⟨z, z⟩ : eI.own w [] _ _) G (⟨z, z⟩ : eI.own w [] _ _) (⟨z, z⟩ : eI.own w [] _ _) (⟨z, z⟩ : eI.own w [] _ _))
  refine ⟨_, h.re idx [W (bc) _ (au.mk x0 (bC.mk x1 x2) d x4 (aV.mk a c) x7 e x9 x10 x11) [B x0, I J x1, I J x2, S f g i, I J x4, S j k l, S m o p, I J x7, S q r t, I J x9, I J x10, I J x11]] hn ?_ (fun s hs => by rw [List.mem_singleton.1 hs]; exact ho)⟩
  rw [hs]
  simp [dF, W]
def bp : Enc ap := ql (aH (ae (bc) 121) eI) (fun x => (x.b_, x.A_))
theorem bh {w : World} {X : List Nat} {x : ap} {c0 c1 : List Value} (a : (ae (bc) 121).rd w X x.b_ c0) (h1 : eI.rd w X x.A_ c1) : (bp).rd w X x (c0 ++ c1) := by
  show (aH (ae (bc) 121) eI).rd w X (x.b_, x.A_) _
  exact (bH a h1)
theorem aW {w : World} {X : List Nat} {x : ap} {cs : List Value} (h : (bp).rd w X x cs) : ∃ c0 c1, cs = (c0 ++ c1) ∧ (ae (bc) 121).rd w X x.b_ c0 ∧ eI.rd w X x.A_ c1 := by
  have h : (aH (ae (bc) 121) eI).rd w X (x.b_, x.A_) cs := h
  obtain ⟨c0, c1, rfl, a, h1⟩ := h
  exact ⟨c0, c1, z, a, h1⟩
theorem mR {w : World} {a c : List Nat} {x : ap} {c0 c1 : List Value} (d : (ae (bc) 121).own w a x.b_ c0) (h1 : eI.own w c x.A_ c1) : (bp).own w (a ++ c) x (c0 ++ c1) := by
  show (aH (ae (bc) 121) eI).own w _ (x.b_, x.A_) _
  exact (fO d h1)
theorem tC {w : World} {F : List Nat} {x : ap} {cs : List Value} (h : (bp).own w F x cs) : ∃ a c c0 c1, F = (a ++ c) ∧ cs = (c0 ++ c1) ∧ (ae (bc) 121).own w a x.b_ c0 ∧ eI.own w c x.A_ c1 := by
  have h : (aH (ae (bc) 121) eI).own w F (x.b_, x.A_) cs := h
  obtain ⟨a, c, c0, c1, rfl, rfl, d, h1⟩ := h
  exact ⟨a, c, c0, c1, z, z, d, h1⟩
def bI : Enc aA := ql (ae (ae eI 3) 69) (fun x => x.o_)
theorem bg {w : World} {X : List Nat} {x : aA} {c0 : List Value} (a : (ae (ae eI 3) 69).rd w X x.o_ c0) : (bI).rd w X x c0 := by
  show (ae (ae eI 3) 69).rd w X x.o_ _
  exact a
theorem aT {w : World} {X : List Nat} {x : aA} {cs : List Value} (h : (bI).rd w X x cs) : ∃ c0, cs = c0 ∧ (ae (ae eI 3) 69).rd w X x.o_ c0 := by
  have h : (ae (ae eI 3) 69).rd w X x.o_ cs := h
  exact ⟨cs, z, h⟩
theorem lm {w : World} {a : List Nat} {x : aA} {c0 : List Value} (c : (ae (ae eI 3) 69).own w a x.o_ c0) : (bI).own w a x c0 := by
  show (ae (ae eI 3) 69).own w _ x.o_ _
  exact c
def eE : Enc cf := ql (aH (bI) (bI)) (fun x => (x.s_, x.t_))
theorem gF {w : World} {X : List Nat} {x : cf} {c0 c1 : List Value} (a : (bI).rd w X x.s_ c0) (h1 : (bI).rd w X x.t_ c1) : (eE).rd w X x (c0 ++ c1) := by
  show (aH (bI) (bI)).rd w X (x.s_, x.t_) _
  exact (bH a h1)
theorem dE {w : World} {X : List Nat} {x : cf} {cs : List Value} (h : (eE).rd w X x cs) : ∃ c0 c1, cs = (c0 ++ c1) ∧ (bI).rd w X x.s_ c0 ∧ (bI).rd w X x.t_ c1 := by
  have h : (aH (bI) (bI)).rd w X (x.s_, x.t_) cs := h
  obtain ⟨c0, c1, rfl, a, h1⟩ := h
  exact ⟨c0, c1, z, a, h1⟩
theorem ue {w : World} {a c : List Nat} {x : cf} {c0 c1 : List Value} (d : (bI).own w a x.s_ c0) (h1 : (bI).own w c x.t_ c1) : (eE).own w (a ++ c) x (c0 ++ c1) := by
  show (aH (bI) (bI)).own w _ (x.s_, x.t_) _
  exact (fO d h1)
theorem AF {w : World} {F : List Nat} {x : cf} {cs : List Value} (h : (eE).own w F x cs) : ∃ a c c0 c1, F = (a ++ c) ∧ cs = (c0 ++ c1) ∧ (bI).own w a x.s_ c0 ∧ (bI).own w c x.t_ c1 := by
  have h : (aH (bI) (bI)).own w F (x.s_, x.t_) cs := h
  obtain ⟨a, c, c0, c1, rfl, rfl, d, h1⟩ := h
  exact ⟨a, c, c0, c1, z, z, d, h1⟩
def ba : Enc az := ql (aH (bp) (aH (gN) (aH (bp) (eE)))) (fun x => (x.F_, x.S_, x.w_, x.H_))
theorem kg {w : World} {X : List Nat} {x : az} {c0 c1 c2 c3 : List Value} (a : (bp).rd w X x.F_ c0) (h1 : (gN).rd w X x.S_ c1) (c : (bp).rd w X x.w_ c2) (d : (eE).rd w X x.H_ c3) : (ba).rd w X x (c0 ++ (c1 ++ (c2 ++ c3))) := by
  show (aH (bp) (aH (gN) (aH (bp) (eE)))).rd w X (x.F_, x.S_, x.w_, x.H_) _
  exact (bH a (bH h1 (bH c d)))
theorem dX {w : World} {X : List Nat} {x : az} {cs : List Value} (h : (ba).rd w X x cs) : ∃ c0 c1 c2 c3, cs = (c0 ++ (c1 ++ (c2 ++ c3))) ∧ (bp).rd w X x.F_ c0 ∧ (gN).rd w X x.S_ c1 ∧ (bp).rd w X x.w_ c2 ∧ (eE).rd w X x.H_ c3 := by
  have h : (aH (bp) (aH (gN) (aH (bp) (eE)))).rd w X (x.F_, x.S_, x.w_, x.H_) cs := h
  obtain ⟨c0, f, rfl, a, c⟩ := h
  obtain ⟨c1, g, rfl, h1, r1⟩ := c
  obtain ⟨c2, c3, rfl, d, e⟩ := r1
  exact ⟨c0, c1, c2, c3, z, a, h1, d, e⟩
theorem rS {w : World} {a c d e : List Nat} {x : az} {c0 c1 c2 c3 : List Value} (f : (bp).own w a x.F_ c0) (h1 : (gN).own w c x.S_ c1) (g : (bp).own w d x.w_ c2) (h : (eE).own w e x.H_ c3) : (ba).own w (a ++ (c ++ (d ++ e))) x (c0 ++ (c1 ++ (c2 ++ c3))) := by
  show (aH (bp) (aH (gN) (aH (bp) (eE)))).own w _ (x.F_, x.S_, x.w_, x.H_) _
  exact (fO f (fO h1 (fO g h)))
theorem wz {w : World} {F : List Nat} {x : az} {cs : List Value} (h : (ba).own w F x cs) : ∃ a c d e c0 c1 c2 c3, F = (a ++ (c ++ (d ++ e))) ∧ cs = (c0 ++ (c1 ++ (c2 ++ c3))) ∧ (bp).own w a x.F_ c0 ∧ (gN).own w c x.S_ c1 ∧ (bp).own w d x.w_ c2 ∧ (eE).own w e x.H_ c3 := by
  have h : (aH (bp) (aH (gN) (aH (bp) (eE)))).own w F (x.F_, x.S_, x.w_, x.H_) cs := h
  obtain ⟨a, k, c0, l, rfl, rfl, f, g⟩ := h
  obtain ⟨c, m, c1, o, rfl, rfl, h1, r1⟩ := g
  obtain ⟨d, e, c2, c3, rfl, rfl, i, j⟩ := r1
  exact ⟨a, c, d, e, c0, c1, c2, c3, z, z, f, h1, i, j⟩
theorem sB {w0 : World} {M : List Nat} {L : List Res} {w : World} {F : List Nat} {x : az} {cs : List Value} {i : Nat} (h : St w0 M L w) (hi : L[i]? = U (W (ba) F x cs)) :
    ∃ (a_1 : Option Addr) (k_1 : Nat) (F_1 : List Nat), ∃ (a_2 : Option Addr) (k_2 : Nat) (F_2 : List Nat), ∃ (a_3 : Option Addr) (k_3 : Nat) (F_3 : List Nat), ∃ (a_4 : Option Addr) (k_4 : Nat) (F_4 : List Nat), cs = [S a_1 (x.F_.b_).length k_1, I J x.F_.A_, B x.S_, S a_2 (x.w_.b_).length k_2, I J x.w_.A_, S a_3 (x.H_.s_.o_).length k_3, S a_4 (x.H_.t_.o_).length k_4] ∧ St w0 M (pC L [i] ++ [W (ae (bc) 121) F_1 x.F_.b_ [S a_1 (x.F_.b_).length k_1], W (ae (bc) 121) F_2 x.w_.b_ [S a_2 (x.w_.b_).length k_2], W (ae (ae eI 3) 69) F_3 x.H_.s_.o_ [S a_3 (x.H_.s_.o_).length k_3], W (ae (ae eI 3) 69) F_4 x.H_.t_.o_ [S a_4 (x.H_.t_.o_).length k_4]]) w := by
  obtain ⟨hok, _, _⟩ := h.one hi
  have hok : (ba).own w F x cs := hok
  obtain ⟨F1_0, F1_1, F1_2, F1_3, c1_0, c1_1, c1_2, c1_3, rfl, rfl, h1_0, h1_1, h1_2, h1_3⟩ := wz hok
  obtain ⟨F2_0, F2_1, c2_0, c2_1, rfl, rfl, h2_0, h2_1⟩ := tC h1_0
  obtain ⟨d, e, rfl⟩ := mU h2_0
  obtain ⟨rfl, rfl⟩ : F2_1 = [] ∧ c2_1 = [I J x.F_.A_] := h2_1
  obtain ⟨rfl, rfl⟩ : F1_1 = [] ∧ c1_1 = [B x.S_] := h1_1
  obtain ⟨F4_0, F4_1, c4_0, c4_1, rfl, rfl, h4_0, h4_1⟩ := tC h1_2
  obtain ⟨f, g, rfl⟩ := mU h4_0
  obtain ⟨rfl, rfl⟩ : F4_1 = [] ∧ c4_1 = [I J x.w_.A_] := h4_1
  obtain ⟨F6_0, F6_1, c6_0, c6_1, rfl, rfl, h6_0, h6_1⟩ := AF h1_3
  have h7_0 : (ae (ae eI 3) 69).own w F6_0 (x.H_.s_.o_) c6_0 := h6_0
  obtain ⟨j, k, rfl⟩ := mU h7_0
  have h9_0 : (ae (ae eI 3) 69).own w F6_1 (x.H_.t_.o_) c6_1 := h6_1
  obtain ⟨a, c, rfl⟩ := mU h9_0
  refine ⟨d, e, F2_0, f, g, F4_0, j, k, F6_0, a, c, F6_1, z, h.re [i] _ z ?_ ?_⟩
  · simp [kS, sG, hi, dF, W]
  · intro s hs; simp only [List.mem_cons, List.not_mem_nil, or_false] at hs; rcases hs with rfl | rfl | rfl | rfl
    · exact h2_0
    · exact h4_0
    · exact h7_0
    · exact h9_0
theorem sv {w0 : World} {M : List Nat} {L : List Res} {w : World} {x0 : List au} {e : Option Addr} {f g : Nat} {t : List Nat} {x1 : Int} {x2 : Bool} {d : List au} {i : Option Addr} {j k : Nat} {u : List Nat} {x4 : Int} {a : List (List Int)} {l : Option Addr} {m o : Nat} {v : List Nat} {c : List (List Int)} {p : Option Addr} {q r : Nat} {A : List Nat} (idx : List Nat) (h : St w0 M L w) (hs : kx L idx = [W (ae (bc) 121) t x0 [S e f g], W (ae (bc) 121) u d [S i j k], W (ae (ae eI 3) 69) v a [S l m o], W (ae (ae eI 3) 69) A c [S p q r]]) (hn : xR idx = y) :
    ∃ F, St w0 M (pC L idx ++ [W (ba) F (az.mk (ap.mk x0 x1) x2 (ap.mk d x4) (cf.mk (aA.mk a) (aA.mk c))) [S e f g, I J x1, B x2, S i j k, I J x4, S l m o, S p q r]]) w := by
  have C : (ae (bc) 121).own w t x0 [S e f g] := h.ok' (mV (L := L) (is := idx) (by rw [hs]; simp : W (ae (bc) 121) t x0 [S e f g] ∈ kx L idx))
  have o1 : (ae (bc) 121).own w u d [S i j k] := h.ok' (mV (L := L) (is := idx) (by rw [hs]; simp : W (ae (bc) 121) u d [S i j k] ∈ kx L idx))
  have D : (ae (ae eI 3) 69).own w v a [S l m o] := h.ok' (mV (L := L) (is := idx) (by rw [hs]; simp : W (ae (ae eI 3) 69) v a [S l m o] ∈ kx L idx))
  have E : (ae (ae eI 3) 69).own w A c [S p q r] := h.ok' (mV (L := L) (is := idx) (by rw [hs]; simp : W (ae (ae eI 3) 69) A c [S p q r] ∈ kx L idx))
  have ho := (rS (x := (az.mk (ap.mk x0 x1) x2 (ap.mk d x4) (cf.mk (aA.mk a) (aA.mk c)))) (mR (x := (ap.mk x0 x1)) C (⟨z, z⟩ : eI.own w [] _ _)) (⟨z, z⟩ : (gN).own w [] _ _) (mR (x := (ap.mk d x4)) o1 (⟨z, z⟩ : eI.own w [] _ _)) (ue (x := (cf.mk (aA.mk a) (aA.mk c))) (lm (x := (aA.mk a)) D) (lm (x := (aA.mk c)) E)))
  refine ⟨_, h.re idx [W (ba) _ (az.mk (ap.mk x0 x1) x2 (ap.mk d x4) (cf.mk (aA.mk a) (aA.mk c))) [S e f g, I J x1, B x2, S i j k, I J x4, S l m o, S p q r]] hn ?_ (fun s hs => by rw [List.mem_singleton.1 hs]; exact ho)⟩
  rw [hs]
  simp [dF, W]
def bD : Enc aM := zV (fun x => [I J x.Q_, I J x.R_]) 2 (fun _ => z) (by intro x u hu; simp only [List.mem_cons, List.not_mem_nil, or_false] at hu; rcases hu with rfl | rfl <;> rfl)
def bK : Enc am := ql (aH (ae (bj) 111) (ae (cy) 9)) (fun x => (x.d_, x.m_))
theorem av {w : World} {X : List Nat} {x : am} {c0 c1 : List Value} (a : (ae (bj) 111).rd w X x.d_ c0) (h1 : (ae (cy) 9).rd w X x.m_ c1) : (bK).rd w X x (c0 ++ c1) := by
  show (aH (ae (bj) 111) (ae (cy) 9)).rd w X (x.d_, x.m_) _
  exact (bH a h1)
theorem aO {w : World} {X : List Nat} {x : am} {cs : List Value} (h : (bK).rd w X x cs) : ∃ c0 c1, cs = (c0 ++ c1) ∧ (ae (bj) 111).rd w X x.d_ c0 ∧ (ae (cy) 9).rd w X x.m_ c1 := by
  have h : (aH (ae (bj) 111) (ae (cy) 9)).rd w X (x.d_, x.m_) cs := h
  obtain ⟨c0, c1, rfl, a, h1⟩ := h
  exact ⟨c0, c1, z, a, h1⟩
def pK : Enc cO := zV (fun x => [I J x.L_, I J x.K_, I J x.M_, I J x.f_, I J x.b_, I J x.G_, B x.P_]) 7 (fun _ => z) (by intro x u hu; simp only [List.mem_cons, List.not_mem_nil, or_false] at hu; rcases hu with rfl | rfl | rfl | rfl | rfl | rfl | rfl <;> rfl)
def dL : Enc bi := ql (aH (bK) (aH (pK) (aH eI (aH eI (aH eI (aH eI eI)))))) (fun x => (x.p_, x.c_, x.j_, x.N_, x.O_, x.s_, x.t_))
theorem cl {w : World} {X : List Nat} {x : bi} {c0 c1 c2 c3 c4 c5 c6 : List Value} (a : (bK).rd w X x.p_ c0) (h1 : (pK).rd w X x.c_ c1) (c : eI.rd w X x.j_ c2) (d : eI.rd w X x.N_ c3) (e : eI.rd w X x.O_ c4) (f : eI.rd w X x.s_ c5) (g : eI.rd w X x.t_ c6) : (dL).rd w X x (c0 ++ (c1 ++ (c2 ++ (c3 ++ (c4 ++ (c5 ++ c6)))))) := by
  show (aH (bK) (aH (pK) (aH eI (aH eI (aH eI (aH eI eI)))))).rd w X (x.p_, x.c_, x.j_, x.N_, x.O_, x.s_, x.t_) _
  exact (bH a (bH h1 (bH c (bH d (bH e (bH f g))))))
theorem cP {w : World} {X : List Nat} {x : bi} {cs : List Value} (h : (dL).rd w X x cs) : ∃ c0 c1 c2 c3 c4 c5 c6, cs = (c0 ++ (c1 ++ (c2 ++ (c3 ++ (c4 ++ (c5 ++ c6)))))) ∧ (bK).rd w X x.p_ c0 ∧ (pK).rd w X x.c_ c1 ∧ eI.rd w X x.j_ c2 ∧ eI.rd w X x.N_ c3 ∧ eI.rd w X x.O_ c4 ∧ eI.rd w X x.s_ c5 ∧ eI.rd w X x.t_ c6 := by
  have h : (aH (bK) (aH (pK) (aH eI (aH eI (aH eI (aH eI eI)))))).rd w X (x.p_, x.c_, x.j_, x.N_, x.O_, x.s_, x.t_) cs := h
  obtain ⟨c0, m, rfl, a, c⟩ := h
  obtain ⟨c1, o, rfl, h1, r1⟩ := c
  obtain ⟨c2, p, rfl, d, e⟩ := r1
  obtain ⟨c3, q, rfl, f, g⟩ := e
  obtain ⟨c4, r, rfl, i, j⟩ := g
  obtain ⟨c5, c6, rfl, k, l⟩ := j
  exact ⟨c0, c1, c2, c3, c4, c5, c6, z, a, h1, d, f, i, k, l⟩
def fy : Enc bP := ql (ae (ba) 79) (fun x => x.j_)
theorem dV {w : World} {X : List Nat} {x : bP} {c0 : List Value} (a : (ae (ba) 79).rd w X x.j_ c0) : (fy).rd w X x c0 := by
  show (ae (ba) 79).rd w X x.j_ _
  exact a
theorem er {w : World} {X : List Nat} {x : bP} {cs : List Value} (h : (fy).rd w X x cs) : ∃ c0, cs = c0 ∧ (ae (ba) 79).rd w X x.j_ c0 := by
  have h : (ae (ba) 79).rd w X x.j_ cs := h
  exact ⟨cs, z, h⟩
def fZ : Enc bo := ql (aH (ae (ae eI 3) 69) (ae (bD) 84)) (fun x => (x.n_, x.l_))
theorem ei {w : World} {X : List Nat} {x : bo} {c0 c1 : List Value} (a : (ae (ae eI 3) 69).rd w X x.n_ c0) (h1 : (ae (bD) 84).rd w X x.l_ c1) : (fZ).rd w X x (c0 ++ c1) := by
  show (aH (ae (ae eI 3) 69) (ae (bD) 84)).rd w X (x.n_, x.l_) _
  exact (bH a h1)
theorem eU {w : World} {X : List Nat} {x : bo} {cs : List Value} (h : (fZ).rd w X x cs) : ∃ c0 c1, cs = (c0 ++ c1) ∧ (ae (ae eI 3) 69).rd w X x.n_ c0 ∧ (ae (bD) 84).rd w X x.l_ c1 := by
  have h : (aH (ae (ae eI 3) 69) (ae (bD) 84)).rd w X (x.n_, x.l_) cs := h
  obtain ⟨c0, c1, rfl, a, h1⟩ := h
  exact ⟨c0, c1, z, a, h1⟩
def jx : Enc aP := ql (aH (dL) (aH (fy) (fZ))) (fun x => (x.a_, x.J_, x.v_))
theorem ij {w : World} {X : List Nat} {x : aP} {c0 c1 c2 : List Value} (a : (dL).rd w X x.a_ c0) (h1 : (fy).rd w X x.J_ c1) (c : (fZ).rd w X x.v_ c2) : (jx).rd w X x (c0 ++ (c1 ++ c2)) := by
  show (aH (dL) (aH (fy) (fZ))).rd w X (x.a_, x.J_, x.v_) _
  exact (bH a (bH h1 c))
theorem jc {w : World} {X : List Nat} {x : aP} {cs : List Value} (h : (jx).rd w X x cs) : ∃ c0 c1 c2, cs = (c0 ++ (c1 ++ c2)) ∧ (dL).rd w X x.a_ c0 ∧ (fy).rd w X x.J_ c1 ∧ (fZ).rd w X x.v_ c2 := by
  have h : (aH (dL) (aH (fy) (fZ))).rd w X (x.a_, x.J_, x.v_) cs := h
  obtain ⟨c0, e, rfl, a, c⟩ := h
  obtain ⟨c1, c2, rfl, h1, d⟩ := c
  exact ⟨c0, c1, c2, z, a, h1, d⟩
def fY (x : aM) : List Value := [I J x.Q_, I J x.R_]
theorem Qm : ∀ a b : aM, CS Tryz.prog 84 (fY a) (fY b) = U (a.Q_ == b.Q_ && (a.R_ == b.R_ && y)) := by
  intro a b
  kernel_rfl
theorem MQ : Ck Tryz.prog 84 fY := JN Qm (by intro a b; cases a; cases b; rw [Bool.eq_iff_iff]; simp) (by intro a; simp [fY, Instr.sameBits]) (by kernel_rfl)
theorem ce : isSl Tryz.prog 69 3 := iu (by kernel_rfl)
theorem gm : isSl Tryz.prog 23 9 := iu (by kernel_rfl)
theorem ty9 : ee Tryz.prog 9 n 1 16 [vS []] := cw (by kernel_rfl)
theorem st9 : yq Tryz.prog 9 := Es (by kernel_rfl)
theorem GP : cS Tryz.prog 188 0 0 := aU (by kernel_rfl)
theorem Hl : cS Tryz.prog 188 1 1 := aU (by kernel_rfl)
theorem bW : ee Tryz.prog 69 n 1 24 [S N 0 0] := cw (by kernel_rfl)
theorem Jw : bl Tryz.prog 84 := ⟨Tryz.f84, Tryz.func84, z, by decide⟩
theorem Gt : cS Tryz.prog 188 2 2 := aU (by kernel_rfl)
theorem lr : ee Tryz.prog 23 n 1 24 [S N 0 0] := cw (by kernel_rfl)
theorem Oi : bl Tryz.prog 82 := ⟨Tryz.f82, Tryz.func82, z, by decide⟩
theorem Ih : isSl Tryz.prog 22 188 := iu (by kernel_rfl)
theorem GJ : ee Tryz.prog 188 y 3 64 [vS [], S N 0 0, S N 0 0] := cw (by kernel_rfl)
theorem On : bl Tryz.prog 120 := ⟨Tryz.f120, Tryz.func120, z, by decide⟩
theorem JG : cS Tryz.prog 25 0 0 := aU (by kernel_rfl)
theorem NR : ee Tryz.prog 22 n 1 24 [S N 0 0] := cw (by kernel_rfl)
theorem Pu : bl Tryz.prog 81 := ⟨Tryz.f81, Tryz.func81, z, by decide⟩
theorem IE : cS Tryz.prog 25 1 1 := aU (by kernel_rfl)
theorem JQ : cS Tryz.prog 29 0 0 := aU (by kernel_rfl)
theorem OB : ee Tryz.prog 25 y 2 48 [S N 0 0, S N 0 0] := cw (by kernel_rfl)
theorem PC : bl Tryz.prog 43 := ⟨Tryz.f43, Tryz.func43, z, by decide⟩
theorem eK : isSl Tryz.prog 33 69 := iu (by kernel_rfl)
theorem Hb : cS Tryz.prog 223 0 0 := aU (by kernel_rfl)
theorem GN : cS Tryz.prog 223 1 1 := aU (by kernel_rfl)
theorem fw : ee Tryz.prog 33 n 1 24 [S N 0 0] := cw (by kernel_rfl)
theorem My : bl Tryz.prog 45 := ⟨Tryz.f45, Tryz.func45, z, by decide⟩
theorem Hg : cS Tryz.prog 225 2 3 := aU (by kernel_rfl)
theorem GR : cS Tryz.prog 225 4 5 := aU (by kernel_rfl)
theorem LS : ee Tryz.prog 223 y 2 48 [S N 0 0, S N 0 0] := cw (by kernel_rfl)
theorem OZ : bl Tryz.prog 187 := ⟨Tryz.f187, Tryz.func187, z, by decide⟩
theorem Gx : cS Tryz.prog 225 6 8 := aU (by kernel_rfl)
theorem BQ : isSl Tryz.prog 142 225 := iu (by kernel_rfl)
theorem GY : ee Tryz.prog 225 y 12 160 [B n, I J 0, I J 0, S N 0 0, I J 0, S N 0 0, S N 0 0, I J 0, S N 0 0, I J 0, I J 0, I J 0] := cw (by kernel_rfl)
theorem NX : bl Tryz.prog 172 := ⟨Tryz.f172, Tryz.func172, z, by decide⟩
theorem GA : cS Tryz.prog 144 0 0 := aU (by kernel_rfl)
theorem Lt : ee Tryz.prog 142 n 1 24 [S N 0 0] := cw (by kernel_rfl)
theorem Pa : bl Tryz.prog 149 := ⟨Tryz.f149, Tryz.func149, z, by decide⟩
theorem Hk : cS Tryz.prog 145 0 0 := aU (by kernel_rfl)
theorem GS : cS Tryz.prog 147 0 0 := aU (by kernel_rfl)
theorem Gz : ee Tryz.prog 145 y 1 24 [S N 0 0] := cw (by kernel_rfl)
theorem Lx : bl Tryz.prog 150 := ⟨Tryz.f150, Tryz.func150, z, by decide⟩
theorem GG : cS Tryz.prog 147 1 1 := aU (by kernel_rfl)
theorem Hh : cS Tryz.prog 149 0 0 := aU (by kernel_rfl)
theorem GB : ee Tryz.prog 144 y 2 32 [S N 0 0, I J 0] := cw (by kernel_rfl)
theorem Lz : bl Tryz.prog 121 := ⟨Tryz.f121, Tryz.func121, z, by decide⟩
theorem Hi : cS Tryz.prog 149 2 3 := aU (by kernel_rfl)
theorem Gw : cS Tryz.prog 149 3 5 := aU (by kernel_rfl)
theorem Ly : ee Tryz.prog 147 y 2 48 [S N 0 0, S N 0 0] := cw (by kernel_rfl)
theorem ON : bl Tryz.prog 122 := ⟨Tryz.f122, Tryz.func122, z, by decide⟩
theorem Ir : isSl Tryz.prog 30 149 := iu (by kernel_rfl)
theorem Ha : ee Tryz.prog 149 y 7 120 [S N 0 0, I J 0, B n, S N 0 0, I J 0, S N 0 0, S N 0 0] := cw (by kernel_rfl)
theorem Qd : bl Tryz.prog 83 := ⟨Tryz.f83, Tryz.func83, z, by decide⟩
theorem IY : cS Tryz.prog 32 0 0 := aU (by kernel_rfl)
theorem Nt : ee Tryz.prog 30 n 1 24 [S N 0 0] := cw (by kernel_rfl)
theorem Py : bl Tryz.prog 44 := ⟨Tryz.f44, Tryz.func44, z, by decide⟩
theorem KR : isSl Tryz.prog 34 163 := iu (by kernel_rfl)
theorem Iy : cS Tryz.prog 36 0 0 := aU (by kernel_rfl)
theorem IJ : cS Tryz.prog 36 1 1 := aU (by kernel_rfl)
theorem Nm : ee Tryz.prog 34 n 1 24 [S N 0 0] := cw (by kernel_rfl)
theorem Qt : bl Tryz.prog 46 := ⟨Tryz.f46, Tryz.func46, z, by decide⟩
theorem JS : cS Tryz.prog 38 0 0 := aU (by kernel_rfl)
theorem NF : ee Tryz.prog 29 y 14 144 [S N 0 0, S N 0 0, I J 0, I J 0, I J 0, I J 0, I J 0, I J 0, B n, I J 0, I J 0, I J 0, I J 0, I J 0] := cw (by kernel_rfl)
theorem PM : bl Tryz.prog 13 := ⟨Tryz.f13, Tryz.func13, z, by decide⟩
theorem Jy : cS Tryz.prog 38 1 14 := aU (by kernel_rfl)
theorem NN : ee Tryz.prog 32 y 1 24 [S N 0 0] := cw (by kernel_rfl)
theorem Pz : bl Tryz.prog 14 := ⟨Tryz.f14, Tryz.func14, z, by decide⟩
theorem JF : cS Tryz.prog 38 2 15 := aU (by kernel_rfl)
theorem Nq : ee Tryz.prog 36 y 2 48 [S N 0 0, S N 0 0] := cw (by kernel_rfl)
theorem Ql : bl Tryz.prog 15 := ⟨Tryz.f15, Tryz.func15, z, by decide⟩
theorem ty3 : ee Tryz.prog 3 n 1 8 [I J 0] := cw (by kernel_rfl)
theorem ed : ee Tryz.prog 111 y 3 64 [vS [], S N 0 0, S N 0 0] := cw (by kernel_rfl)
theorem me : cS Tryz.prog 111 0 0 := aU (by kernel_rfl)
theorem IQ : bl Tryz.prog 95 := ⟨Tryz.f95, Tryz.func95, z, by decide⟩
theorem gn : cS Tryz.prog 111 1 1 := aU (by kernel_rfl)
theorem Nx : bl Tryz.prog 93 := ⟨Tryz.f93, Tryz.func93, z, by decide⟩
theorem ks : cS Tryz.prog 111 2 2 := aU (by kernel_rfl)
theorem kr : isSl Tryz.prog 42 111 := iu (by kernel_rfl)
theorem OX : bl Tryz.prog 128 := ⟨Tryz.f128, Tryz.func128, z, by decide⟩
theorem ja : ee Tryz.prog 44 y 2 48 [S N 0 0, S N 0 0] := cw (by kernel_rfl)
theorem Qh : bl Tryz.prog 92 := ⟨Tryz.f92, Tryz.func92, z, by decide⟩
theorem fS : cS Tryz.prog 44 0 0 := aU (by kernel_rfl)
theorem nP : ee Tryz.prog 42 n 1 24 [S N 0 0] := cw (by kernel_rfl)
theorem lN : cS Tryz.prog 44 1 1 := aU (by kernel_rfl)
theorem ry : ee Tryz.prog 45 y 7 56 [I J 0, I J 0, I J 0, I J 0, I J 0, I J 0, B n] := cw (by kernel_rfl)
theorem Mu : cS Tryz.prog 27 0 0 := aU (by kernel_rfl)
theorem vt : cS Tryz.prog 45 0 0 := aU (by kernel_rfl)
theorem MK : cS Tryz.prog 27 1 1 := aU (by kernel_rfl)
theorem vE : cS Tryz.prog 45 1 1 := aU (by kernel_rfl)
theorem LU : cS Tryz.prog 27 2 2 := aU (by kernel_rfl)
theorem vw : cS Tryz.prog 45 2 2 := aU (by kernel_rfl)
theorem MI : cS Tryz.prog 27 3 3 := aU (by kernel_rfl)
theorem tu : cS Tryz.prog 45 3 3 := aU (by kernel_rfl)
theorem LX : cS Tryz.prog 27 4 4 := aU (by kernel_rfl)
theorem tx : cS Tryz.prog 45 4 4 := aU (by kernel_rfl)
theorem Mc : cS Tryz.prog 27 5 5 := aU (by kernel_rfl)
theorem tl : cS Tryz.prog 45 5 5 := aU (by kernel_rfl)
theorem MT : cS Tryz.prog 27 6 6 := aU (by kernel_rfl)
theorem ty4 : ee Tryz.prog 4 n 1 1 [B n] := cw (by kernel_rfl)
theorem Aw : cS Tryz.prog 45 6 6 := aU (by kernel_rfl)
theorem sx : ee Tryz.prog 47 y 14 144 [S N 0 0, S N 0 0, I J 0, I J 0, I J 0, I J 0, I J 0, I J 0, B n, I J 0, I J 0, I J 0, I J 0, I J 0] := cw (by kernel_rfl)
theorem PJ : bl Tryz.prog 59 := ⟨Tryz.f59, Tryz.func59, z, by decide⟩
theorem mr : cS Tryz.prog 47 0 0 := aU (by kernel_rfl)
theorem MB : cS Tryz.prog 29 1 2 := aU (by kernel_rfl)
theorem Qk : ee Tryz.prog 27 y 7 56 [I J 0, I J 0, I J 0, I J 0, I J 0, I J 0, B n] := cw (by kernel_rfl)
theorem Px : bl Tryz.prog 60 := ⟨Tryz.f60, Tryz.func60, z, by decide⟩
theorem ru : cS Tryz.prog 47 1 2 := aU (by kernel_rfl)
theorem MM : cS Tryz.prog 29 2 9 := aU (by kernel_rfl)
theorem ta : cS Tryz.prog 47 2 9 := aU (by kernel_rfl)
theorem MU : cS Tryz.prog 29 3 10 := aU (by kernel_rfl)
theorem vJ : cS Tryz.prog 47 3 10 := aU (by kernel_rfl)
theorem MR : cS Tryz.prog 29 4 11 := aU (by kernel_rfl)
theorem vR : cS Tryz.prog 47 4 11 := aU (by kernel_rfl)
theorem ML : cS Tryz.prog 29 5 12 := aU (by kernel_rfl)
theorem tr : cS Tryz.prog 47 5 12 := aU (by kernel_rfl)
theorem Mt : cS Tryz.prog 29 6 13 := aU (by kernel_rfl)
theorem sP : cS Tryz.prog 47 6 13 := aU (by kernel_rfl)
theorem oI : ee Tryz.prog 117 y 2 16 [I J 0, I J 0] := cw (by kernel_rfl)
theorem KP : cS Tryz.prog 222 0 0 := aU (by kernel_rfl)
theorem ky : cS Tryz.prog 117 0 0 := aU (by kernel_rfl)
theorem Ky : cS Tryz.prog 222 1 1 := aU (by kernel_rfl)
theorem mb : cS Tryz.prog 117 1 1 := aU (by kernel_rfl)
theorem rr : ee Tryz.prog 119 y 2 48 [S N 0 0, S N 0 0] := cw (by kernel_rfl)
theorem gS : cS Tryz.prog 119 0 0 := aU (by kernel_rfl)
theorem MV : bl Tryz.prog 62 := ⟨Tryz.f62, Tryz.func62, z, by decide⟩
theorem fm : cS Tryz.prog 119 1 1 := aU (by kernel_rfl)
theorem co : ee Tryz.prog 121 y 12 160 [B n, I J 0, I J 0, S N 0 0, I J 0, S N 0 0, S N 0 0, I J 0, S N 0 0, I J 0, I J 0, I J 0] := cw (by kernel_rfl)
theorem Kd : cS Tryz.prog 225 0 0 := aU (by kernel_rfl)
theorem kz : cS Tryz.prog 121 0 0 := aU (by kernel_rfl)
theorem Kw : cS Tryz.prog 225 1 1 := aU (by kernel_rfl)
theorem NE : ee Tryz.prog 222 y 2 16 [I J 0, I J 0] := cw (by kernel_rfl)
theorem NS : bl Tryz.prog 193 := ⟨Tryz.f193, Tryz.func193, z, by decide⟩
theorem iW : cS Tryz.prog 121 1 1 := aU (by kernel_rfl)
theorem gf : cS Tryz.prog 121 2 3 := aU (by kernel_rfl)
theorem Ks : cS Tryz.prog 225 3 4 := aU (by kernel_rfl)
theorem mc : cS Tryz.prog 121 3 4 := aU (by kernel_rfl)
theorem OR : bl Tryz.prog 194 := ⟨Tryz.f194, Tryz.func194, z, by decide⟩
theorem eY : cS Tryz.prog 121 4 5 := aU (by kernel_rfl)
theorem Le : cS Tryz.prog 225 5 7 := aU (by kernel_rfl)
theorem ln : cS Tryz.prog 121 5 7 := aU (by kernel_rfl)
theorem mX : cS Tryz.prog 121 6 8 := aU (by kernel_rfl)
theorem Ka : cS Tryz.prog 225 7 9 := aU (by kernel_rfl)
theorem gB : cS Tryz.prog 121 7 9 := aU (by kernel_rfl)
theorem Ko : cS Tryz.prog 225 8 10 := aU (by kernel_rfl)
theorem jF : cS Tryz.prog 121 8 10 := aU (by kernel_rfl)
theorem KY : cS Tryz.prog 225 9 11 := aU (by kernel_rfl)
theorem jy : cS Tryz.prog 121 9 11 := aU (by kernel_rfl)
theorem fT : isSl Tryz.prog 71 121 := iu (by kernel_rfl)
theorem NJ : bl Tryz.prog 178 := ⟨Tryz.f178, Tryz.func178, z, by decide⟩
theorem ol : ee Tryz.prog 73 y 2 32 [S N 0 0, I J 0] := cw (by kernel_rfl)
theorem NI : bl Tryz.prog 155 := ⟨Tryz.f155, Tryz.func155, z, by decide⟩
theorem eg : cS Tryz.prog 73 0 0 := aU (by kernel_rfl)
theorem kN : ee Tryz.prog 71 n 1 24 [S N 0 0] := cw (by kernel_rfl)
theorem KO : cS Tryz.prog 144 1 1 := aU (by kernel_rfl)
theorem nf : cS Tryz.prog 73 1 1 := aU (by kernel_rfl)
theorem sM : ee Tryz.prog 75 y 1 24 [S N 0 0] := cw (by kernel_rfl)
theorem lu : cS Tryz.prog 75 0 0 := aU (by kernel_rfl)
theorem Bd : ee Tryz.prog 77 y 2 48 [S N 0 0, S N 0 0] := cw (by kernel_rfl)
theorem LH : bl Tryz.prog 156 := ⟨Tryz.f156, Tryz.func156, z, by decide⟩
theorem un : cS Tryz.prog 77 0 0 := aU (by kernel_rfl)
theorem tX : cS Tryz.prog 77 1 1 := aU (by kernel_rfl)
theorem mC : ee Tryz.prog 79 y 7 120 [S N 0 0, I J 0, B n, S N 0 0, I J 0, S N 0 0, S N 0 0] := cw (by kernel_rfl)
theorem LC : bl Tryz.prog 129 := ⟨Tryz.f129, Tryz.func129, z, by decide⟩
theorem sX : cS Tryz.prog 79 0 0 := aU (by kernel_rfl)
theorem Ke : cS Tryz.prog 149 1 2 := aU (by kernel_rfl)
theorem tO : cS Tryz.prog 79 1 2 := aU (by kernel_rfl)
theorem qh : cS Tryz.prog 79 2 3 := aU (by kernel_rfl)
theorem OG : bl Tryz.prog 130 := ⟨Tryz.f130, Tryz.func130, z, by decide⟩
theorem rf : cS Tryz.prog 79 3 5 := aU (by kernel_rfl)
theorem qi : isSl Tryz.prog 48 79 := iu (by kernel_rfl)
theorem PL : bl Tryz.prog 94 := ⟨Tryz.f94, Tryz.func94, z, by decide⟩
theorem zO : ee Tryz.prog 50 y 1 24 [S N 0 0] := cw (by kernel_rfl)
theorem PE : bl Tryz.prog 61 := ⟨Tryz.f61, Tryz.func61, z, by decide⟩
theorem qo : cS Tryz.prog 50 0 0 := aU (by kernel_rfl)
theorem yI : ee Tryz.prog 48 n 1 24 [S N 0 0] := cw (by kernel_rfl)
theorem nN : ee Tryz.prog 84 y 2 16 [I J 0, I J 0] := cw (by kernel_rfl)
theorem Kf : cS Tryz.prog 163 0 0 := aU (by kernel_rfl)
theorem rY : cS Tryz.prog 84 0 0 := aU (by kernel_rfl)
theorem Kv : cS Tryz.prog 163 1 1 := aU (by kernel_rfl)
theorem sc : cS Tryz.prog 84 1 1 := aU (by kernel_rfl)
theorem pi : isSl Tryz.prog 51 84 := iu (by kernel_rfl)
theorem LN : ee Tryz.prog 163 y 2 16 [I J 0, I J 0] := cw (by kernel_rfl)
theorem Pv : bl Tryz.prog 96 := ⟨Tryz.f96, Tryz.func96, z, by decide⟩
theorem zW : ee Tryz.prog 53 y 2 48 [S N 0 0, S N 0 0] := cw (by kernel_rfl)
theorem mp : cS Tryz.prog 53 0 0 := aU (by kernel_rfl)
theorem PR : bl Tryz.prog 63 := ⟨Tryz.f63, Tryz.func63, z, by decide⟩
theorem lO : cS Tryz.prog 53 1 1 := aU (by kernel_rfl)
theorem ug : ee Tryz.prog 51 n 1 24 [S N 0 0] := cw (by kernel_rfl)
theorem yH : ee Tryz.prog 55 y 17 216 [S N 0 0, S N 0 0, I J 0, I J 0, I J 0, I J 0, I J 0, I J 0, B n, I J 0, I J 0, I J 0, I J 0, I J 0, S N 0 0, S N 0 0, S N 0 0] := cw (by kernel_rfl)
theorem PW : bl Tryz.prog 25 := ⟨Tryz.f25, Tryz.func25, z, by decide⟩
theorem mq : cS Tryz.prog 55 0 0 := aU (by kernel_rfl)
theorem PY : bl Tryz.prog 26 := ⟨Tryz.f26, Tryz.func26, z, by decide⟩
theorem sU : cS Tryz.prog 55 1 14 := aU (by kernel_rfl)
theorem Pq : bl Tryz.prog 27 := ⟨Tryz.f27, Tryz.func27, z, by decide⟩
theorem ni : cS Tryz.prog 55 2 15 := aU (by kernel_rfl)
theorem kH : bl Tryz.prog 53 := ⟨Tryz.f53, Tryz.func53, z, by decide⟩
theorem LD : bl Tryz.prog 127 := ⟨Tryz.f127, Tryz.func127, z, by decide⟩
theorem eR : Tryz.prog.follows .mixedOrders = y := by kernel_rfl
theorem Nn : bl Tryz.prog 89 := ⟨Tryz.f89, Tryz.func89, z, by decide⟩
theorem MD : bl Tryz.prog 90 := ⟨Tryz.f90, Tryz.func90, z, by decide⟩
theorem HV : bl Tryz.prog 50 := ⟨Tryz.f50, Tryz.func50, z, by decide⟩
theorem LF : bl Tryz.prog 123 := ⟨Tryz.f123, Tryz.func123, z, by decide⟩
theorem NZ : bl Tryz.prog 124 := ⟨Tryz.f124, Tryz.func124, z, by decide⟩
theorem GI : bl Tryz.prog 204 := ⟨Tryz.f204, Tryz.func204, z, by decide⟩
theorem JT : bl Tryz.prog 188 := ⟨Tryz.f188, Tryz.func188, z, by decide⟩
theorem Lv : Is Tryz.prog 117 [(0, 1), (1, 1)] := CG (by kernel_rfl)
theorem IR (a c : Int) (d e : Int) : CS Tryz.prog 117 [I J a, I J d] [I J c, I J e] = U (a == c && (d == e && y)) := by kernel_rfl
theorem LG : bl Tryz.prog 189 := ⟨Tryz.f189, Tryz.func189, z, by decide⟩
theorem Nr : bl Tryz.prog 190 := ⟨Tryz.f190, Tryz.func190, z, by decide⟩
theorem LB : bl Tryz.prog 191 := ⟨Tryz.f191, Tryz.func191, z, by decide⟩
theorem OQ : bl Tryz.prog 192 := ⟨Tryz.f192, Tryz.func192, z, by decide⟩
theorem Oh : bl Tryz.prog 173 := ⟨Tryz.f173, Tryz.func173, z, by decide⟩
theorem Ob : bl Tryz.prog 174 := ⟨Tryz.f174, Tryz.func174, z, by decide⟩
theorem Od : bl Tryz.prog 175 := ⟨Tryz.f175, Tryz.func175, z, by decide⟩
theorem OA : bl Tryz.prog 176 := ⟨Tryz.f176, Tryz.func176, z, by decide⟩
theorem Ov : bl Tryz.prog 151 := ⟨Tryz.f151, Tryz.func151, z, by decide⟩
theorem NH : bl Tryz.prog 152 := ⟨Tryz.f152, Tryz.func152, z, by decide⟩
theorem Pc : bl Tryz.prog 153 := ⟨Tryz.f153, Tryz.func153, z, by decide⟩
theorem OF : bl Tryz.prog 177 := ⟨Tryz.f177, Tryz.func177, z, by decide⟩
theorem LQ : bl Tryz.prog 154 := ⟨Tryz.f154, Tryz.func154, z, by decide⟩
theorem OM : bl Tryz.prog 85 := ⟨Tryz.f85, Tryz.func85, z, by decide⟩
theorem LK : bl Tryz.prog 125 := ⟨Tryz.f125, Tryz.func125, z, by decide⟩
theorem Om : bl Tryz.prog 126 := ⟨Tryz.f126, Tryz.func126, z, by decide⟩
theorem Pr : bl Tryz.prog 86 := ⟨Tryz.f86, Tryz.func86, z, by decide⟩
theorem PD : bl Tryz.prog 87 := ⟨Tryz.f87, Tryz.func87, z, by decide⟩
theorem PK : bl Tryz.prog 88 := ⟨Tryz.f88, Tryz.func88, z, by decide⟩
theorem PN : bl Tryz.prog 47 := ⟨Tryz.f47, Tryz.func47, z, by decide⟩
theorem PP : bl Tryz.prog 48 := ⟨Tryz.f48, Tryz.func48, z, by decide⟩
theorem us3 : (Tryz.prog.underlying 3).isSome = y := by kernel_rfl
theorem in5 : vk Tryz.prog 5 K := zX (by kernel_rfl)
theorem eH : isSl Tryz.prog 40 5 := iu (by kernel_rfl)
theorem ty5 : ee Tryz.prog 5 n 1 1 [I K 0] := cw (by kernel_rfl)
theorem KI : bl Tryz.prog 52 := ⟨Tryz.f52, Tryz.func52, z, by decide⟩
theorem PZ : bl Tryz.prog 91 := ⟨Tryz.f91, Tryz.func91, z, by decide⟩
theorem QE : bl Tryz.prog 51 := ⟨Tryz.f51, Tryz.func51, z, by decide⟩
theorem Mw : bl Tryz.prog 49 := ⟨Tryz.f49, Tryz.func49, z, by decide⟩
theorem EW : bl Tryz.prog 54 := ⟨Tryz.f54, Tryz.func54, z, by decide⟩
theorem tJ : bl Tryz.prog 20 := ⟨Tryz.f20, Tryz.func20, z, by decide⟩
theorem Ju : bl Tryz.prog 23 := ⟨Tryz.f23, Tryz.func23, z, by decide⟩
theorem Mx : bl Tryz.prog 19 := ⟨Tryz.f19, Tryz.func19, z, by decide⟩
theorem OL : bl Tryz.prog 57 := ⟨Tryz.f57, Tryz.func57, z, by decide⟩
theorem QG : bl Tryz.prog 55 := ⟨Tryz.f55, Tryz.func55, z, by decide⟩
theorem QF : bl Tryz.prog 56 := ⟨Tryz.f56, Tryz.func56, z, by decide⟩
theorem us5 : (Tryz.prog.underlying 5).isSome = y := by kernel_rfl
theorem in3 : vk Tryz.prog 3 J := zX (by kernel_rfl)
theorem PO : bl Tryz.prog 58 := ⟨Tryz.f58, Tryz.func58, z, by decide⟩
theorem Qi : bl Tryz.prog 16 := ⟨Tryz.f16, Tryz.func16, z, by decide⟩
theorem Qz : bl Tryz.prog 18 := ⟨Tryz.f18, Tryz.func18, z, by decide⟩
theorem Ph : bl Tryz.prog 17 := ⟨Tryz.f17, Tryz.func17, z, by decide⟩
theorem OH : bl Tryz.prog 21 := ⟨Tryz.f21, Tryz.func21, z, by decide⟩
theorem Oz : bl Tryz.prog 22 := ⟨Tryz.f22, Tryz.func22, z, by decide⟩
theorem Pk : bl Tryz.prog 24 := ⟨Tryz.f24, Tryz.func24, z, by decide⟩
theorem gy : bl Tryz.prog 101 := ⟨Tryz.f101, Tryz.func101, z, by decide⟩
theorem NP : bl Tryz.prog 163 := ⟨Tryz.f163, Tryz.func163, z, by decide⟩
theorem LE : bl Tryz.prog 139 := ⟨Tryz.f139, Tryz.func139, z, by decide⟩
theorem Oq : bl Tryz.prog 140 := ⟨Tryz.f140, Tryz.func140, z, by decide⟩
theorem Pe : bl Tryz.prog 166 := ⟨Tryz.f166, Tryz.func166, z, by decide⟩
theorem Js : bl Tryz.prog 164 := ⟨Tryz.f164, Tryz.func164, z, by decide⟩
theorem Pf : bl Tryz.prog 165 := ⟨Tryz.f165, Tryz.func165, z, by decide⟩
theorem Er : bl Tryz.prog 137 := ⟨Tryz.f137, Tryz.func137, z, by decide⟩
theorem EB : bl Tryz.prog 102 := ⟨Tryz.f102, Tryz.func102, z, by decide⟩
theorem JL : bl Tryz.prog 105 := ⟨Tryz.f105, Tryz.func105, z, by decide⟩
theorem Nc : bl Tryz.prog 141 := ⟨Tryz.f141, Tryz.func141, z, by decide⟩
theorem LI : bl Tryz.prog 106 := ⟨Tryz.f106, Tryz.func106, z, by decide⟩
theorem HZ : bl Tryz.prog 67 := ⟨Tryz.f67, Tryz.func67, z, by decide⟩
theorem Lo : bl Tryz.prog 131 := ⟨Tryz.f131, Tryz.func131, z, by decide⟩
theorem Nz : bl Tryz.prog 132 := ⟨Tryz.f132, Tryz.func132, z, by decide⟩
theorem OT : bl Tryz.prog 215 := ⟨Tryz.f215, Tryz.func215, z, by decide⟩
theorem Lw : bl Tryz.prog 205 := ⟨Tryz.f205, Tryz.func205, z, by decide⟩
theorem JE : bl Tryz.prog 138 := ⟨Tryz.f138, Tryz.func138, z, by decide⟩
theorem Jx : bl Tryz.prog 206 := ⟨Tryz.f206, Tryz.func206, z, by decide⟩
theorem Ox : bl Tryz.prog 207 := ⟨Tryz.f207, Tryz.func207, z, by decide⟩
theorem Ou : bl Tryz.prog 208 := ⟨Tryz.f208, Tryz.func208, z, by decide⟩
theorem OV : bl Tryz.prog 195 := ⟨Tryz.f195, Tryz.func195, z, by decide⟩
theorem NK : bl Tryz.prog 196 := ⟨Tryz.f196, Tryz.func196, z, by decide⟩
theorem Np : bl Tryz.prog 197 := ⟨Tryz.f197, Tryz.func197, z, by decide⟩
theorem OJ : bl Tryz.prog 198 := ⟨Tryz.f198, Tryz.func198, z, by decide⟩
theorem NC : bl Tryz.prog 199 := ⟨Tryz.f199, Tryz.func199, z, by decide⟩
theorem Ow : bl Tryz.prog 179 := ⟨Tryz.f179, Tryz.func179, z, by decide⟩
theorem Oj : bl Tryz.prog 180 := ⟨Tryz.f180, Tryz.func180, z, by decide⟩
theorem Og : bl Tryz.prog 181 := ⟨Tryz.f181, Tryz.func181, z, by decide⟩
theorem Nv : bl Tryz.prog 157 := ⟨Tryz.f157, Tryz.func157, z, by decide⟩
theorem OE : bl Tryz.prog 158 := ⟨Tryz.f158, Tryz.func158, z, by decide⟩
theorem Ot : bl Tryz.prog 159 := ⟨Tryz.f159, Tryz.func159, z, by decide⟩
theorem MZ : bl Tryz.prog 182 := ⟨Tryz.f182, Tryz.func182, z, by decide⟩
theorem LP : bl Tryz.prog 160 := ⟨Tryz.f160, Tryz.func160, z, by decide⟩
theorem GC : bl Tryz.prog 183 := ⟨Tryz.f183, Tryz.func183, z, by decide⟩
theorem OU : bl Tryz.prog 210 := ⟨Tryz.f210, Tryz.func210, z, by decide⟩
theorem NU : bl Tryz.prog 209 := ⟨Tryz.f209, Tryz.func209, z, by decide⟩
theorem Nl : bl Tryz.prog 200 := ⟨Tryz.f200, Tryz.func200, z, by decide⟩
theorem bl4 : JZ Tryz.prog 4 := KZ (by kernel_rfl)
theorem OK : bl Tryz.prog 184 := ⟨Tryz.f184, Tryz.func184, z, by decide⟩
theorem Nj : bl Tryz.prog 162 := ⟨Tryz.f162, Tryz.func162, z, by decide⟩
theorem Nk : bl Tryz.prog 161 := ⟨Tryz.f161, Tryz.func161, z, by decide⟩
theorem Nu : bl Tryz.prog 97 := ⟨Tryz.f97, Tryz.func97, z, by decide⟩
theorem Lr : bl Tryz.prog 134 := ⟨Tryz.f134, Tryz.func134, z, by decide⟩
theorem OI : bl Tryz.prog 135 := ⟨Tryz.f135, Tryz.func135, z, by decide⟩
theorem Qr : Is Tryz.prog 73 [(0, 1), (1, 1)] := CG (by kernel_rfl)
theorem Ni : bl Tryz.prog 136 := ⟨Tryz.f136, Tryz.func136, z, by decide⟩
theorem OC : bl Tryz.prog 100 := ⟨Tryz.f100, Tryz.func100, z, by decide⟩
theorem Pm : bl Tryz.prog 99 := ⟨Tryz.f99, Tryz.func99, z, by decide⟩
theorem NA : bl Tryz.prog 133 := ⟨Tryz.f133, Tryz.func133, z, by decide⟩
theorem Qj : bl Tryz.prog 98 := ⟨Tryz.f98, Tryz.func98, z, by decide⟩
theorem Ng : bl Tryz.prog 103 := ⟨Tryz.f103, Tryz.func103, z, by decide⟩
theorem OP : bl Tryz.prog 104 := ⟨Tryz.f104, Tryz.func104, z, by decide⟩
theorem iz3 : Kq Tryz.prog 3 := Lk (by kernel_rfl)
theorem JJ : Iw Tryz.prog 169 84 3 := (by kernel_rfl : Tryz.prog.underlying 169 = U (.map 84 3))
theorem Pj : bl Tryz.prog 64 := ⟨Tryz.f64, Tryz.func64, z, by decide⟩
theorem PX : bl Tryz.prog 65 := ⟨Tryz.f65, Tryz.func65, z, by decide⟩
theorem Pb : bl Tryz.prog 167 := ⟨Tryz.f167, Tryz.func167, z, by decide⟩
theorem NT : bl Tryz.prog 142 := ⟨Tryz.f142, Tryz.func142, z, by decide⟩
theorem KF : bl Tryz.prog 69 := ⟨Tryz.f69, Tryz.func69, z, by decide⟩
theorem Of : bl Tryz.prog 107 := ⟨Tryz.f107, Tryz.func107, z, by decide⟩
theorem Pn : bl Tryz.prog 68 := ⟨Tryz.f68, Tryz.func68, z, by decide⟩
theorem Mh : bl Tryz.prog 66 := ⟨Tryz.f66, Tryz.func66, z, by decide⟩
theorem PV : MW Tryz.prog 5 := KS (by kernel_rfl)
theorem Qw : bl Tryz.prog 70 := ⟨Tryz.f70, Tryz.func70, z, by decide⟩
theorem JX : cS Tryz.prog 91 1 1 := aU (by kernel_rfl)
theorem xX : cS Tryz.prog 91 0 0 := aU (by kernel_rfl)
theorem HJ : ee Tryz.prog 40 n 1 24 [S N 0 0] := cw (by kernel_rfl)
theorem wN : bl Tryz.prog 31 := ⟨Tryz.f31, Tryz.func31, z, by decide⟩
theorem Me : bl Tryz.prog 32 := ⟨Tryz.f32, Tryz.func32, z, by decide⟩
theorem HR : bl Tryz.prog 35 := ⟨Tryz.f35, Tryz.func35, z, by decide⟩
theorem PF : bl Tryz.prog 71 := ⟨Tryz.f71, Tryz.func71, z, by decide⟩
theorem Qe : bl Tryz.prog 28 := ⟨Tryz.f28, Tryz.func28, z, by decide⟩
theorem Qq : ee Tryz.prog 91 y 2 32 [S N 0 0, B n] := cw (by kernel_rfl)
theorem Qs : Is Tryz.prog 91 [(0, 1), (1, 1)] := CG (by kernel_rfl)
theorem Qf : bl Tryz.prog 30 := ⟨Tryz.f30, Tryz.func30, z, by decide⟩
theorem Qa : bl Tryz.prog 29 := ⟨Tryz.f29, Tryz.func29, z, by decide⟩
theorem Nh : bl Tryz.prog 33 := ⟨Tryz.f33, Tryz.func33, z, by decide⟩
theorem OO : bl Tryz.prog 34 := ⟨Tryz.f34, Tryz.func34, z, by decide⟩
theorem QH : bl Tryz.prog 36 := ⟨Tryz.f36, Tryz.func36, z, by decide⟩
theorem EE : bl Tryz.prog 114 := ⟨Tryz.f114, Tryz.func114, z, by decide⟩
theorem Lu : bl Tryz.prog 112 := ⟨Tryz.f112, Tryz.func112, z, by decide⟩
theorem Oa : bl Tryz.prog 145 := ⟨Tryz.f145, Tryz.func145, z, by decide⟩
theorem Oc : bl Tryz.prog 111 := ⟨Tryz.f111, Tryz.func111, z, by decide⟩
theorem Qo : bl Tryz.prog 72 := ⟨Tryz.f72, Tryz.func72, z, by decide⟩
theorem PG : bl Tryz.prog 73 := ⟨Tryz.f73, Tryz.func73, z, by decide⟩
theorem Mz : bl Tryz.prog 75 := ⟨Tryz.f75, Tryz.func75, z, by decide⟩
theorem NW : bl Tryz.prog 202 := ⟨Tryz.f202, Tryz.func202, z, by decide⟩
theorem OS : bl Tryz.prog 203 := ⟨Tryz.f203, Tryz.func203, z, by decide⟩
theorem Nb : bl Tryz.prog 186 := ⟨Tryz.f186, Tryz.func186, z, by decide⟩
theorem Oe : bl Tryz.prog 170 := ⟨Tryz.f170, Tryz.func170, z, by decide⟩
theorem LL : bl Tryz.prog 171 := ⟨Tryz.f171, Tryz.func171, z, by decide⟩
theorem Ln : bl Tryz.prog 146 := ⟨Tryz.f146, Tryz.func146, z, by decide⟩
theorem Ol : bl Tryz.prog 147 := ⟨Tryz.f147, Tryz.func147, z, by decide⟩
theorem Nw : bl Tryz.prog 113 := ⟨Tryz.f113, Tryz.func113, z, by decide⟩
theorem Qx : bl Tryz.prog 74 := ⟨Tryz.f74, Tryz.func74, z, by decide⟩
theorem NM : bl Tryz.prog 115 := ⟨Tryz.f115, Tryz.func115, z, by decide⟩
theorem Qv : bl Tryz.prog 76 := ⟨Tryz.f76, Tryz.func76, z, by decide⟩
theorem Qn : bl Tryz.prog 37 := ⟨Tryz.f37, Tryz.func37, z, by decide⟩
theorem Pt : bl Tryz.prog 38 := ⟨Tryz.f38, Tryz.func38, z, by decide⟩
theorem Qg : bl Tryz.prog 39 := ⟨Tryz.f39, Tryz.func39, z, by decide⟩
theorem Ls : bl Tryz.prog 148 := ⟨Tryz.f148, Tryz.func148, z, by decide⟩
theorem ED : bl Tryz.prog 119 := ⟨Tryz.f119, Tryz.func119, z, by decide⟩
theorem LM : bl Tryz.prog 117 := ⟨Tryz.f117, Tryz.func117, z, by decide⟩
theorem Oy : bl Tryz.prog 116 := ⟨Tryz.f116, Tryz.func116, z, by decide⟩
theorem Qb : bl Tryz.prog 77 := ⟨Tryz.f77, Tryz.func77, z, by decide⟩
theorem JY : bl Tryz.prog 79 := ⟨Tryz.f79, Tryz.func79, z, by decide⟩
theorem LR : bl Tryz.prog 118 := ⟨Tryz.f118, Tryz.func118, z, by decide⟩
theorem PU : bl Tryz.prog 78 := ⟨Tryz.f78, Tryz.func78, z, by decide⟩
theorem Pp : bl Tryz.prog 80 := ⟨Tryz.f80, Tryz.func80, z, by decide⟩
theorem PS : bl Tryz.prog 40 := ⟨Tryz.f40, Tryz.func40, z, by decide⟩
theorem PI : bl Tryz.prog 41 := ⟨Tryz.f41, Tryz.func41, z, by decide⟩
theorem Pw : bl Tryz.prog 42 := ⟨Tryz.f42, Tryz.func42, z, by decide⟩
theorem JW : ee Tryz.prog 38 y 17 216 [S N 0 0, S N 0 0, I J 0, I J 0, I J 0, I J 0, I J 0, I J 0, B n, I J 0, I J 0, I J 0, I J 0, I J 0, S N 0 0, S N 0 0, S N 0 0] := cw (by kernel_rfl)
theorem fn4 : bl Tryz.prog 4 := ⟨Tryz.f4, Tryz.func4, z, by decide⟩
theorem fn6 : bl Tryz.prog 6 := ⟨Tryz.f6, Tryz.func6, z, by decide⟩
theorem fn5 : bl Tryz.prog 5 := ⟨Tryz.f5, Tryz.func5, z, by decide⟩
theorem fn7 : bl Tryz.prog 7 := ⟨Tryz.f7, Tryz.func7, z, by decide⟩
theorem fn8 : bl Tryz.prog 8 := ⟨Tryz.f8, Tryz.func8, z, by decide⟩
theorem fn9 : bl Tryz.prog 9 := ⟨Tryz.f9, Tryz.func9, z, by decide⟩
theorem Po : bl Tryz.prog 10 := ⟨Tryz.f10, Tryz.func10, z, by decide⟩
theorem Ps : bl Tryz.prog 11 := ⟨Tryz.f11, Tryz.func11, z, by decide⟩
theorem Na : bl Tryz.prog 12 := ⟨Tryz.f12, Tryz.func12, z, by decide⟩
theorem lK (w : World) {p0 : List Int} {p1 : Int} {a_0 : Option Addr} {n_0 c_0 : Nat} {r : Int} (H : jC p0 p1 = U r) (a : (ae eI 3).rd w [] p0 [S a_0 n_0 c_0]) :
    Calls Tryz.prog 84 #[S a_0 n_0 c_0, I J p1] w (fun en w' => en = .returned (I J r) ∧ Ext [] w w') := by
 obtain rfl := eb a
 unfold jC at H
 refine aq Tryz.func84 z Tryz.ntmps84 z (St.init w []) <| sR <| oP z <| nR <| aa [.p, .p, .lenS 69 3 ce, .p, .p] z <| nQ <| ai <| sR <| oPP z <| nQ <| cI H z (fun H => ?_) (fun H => ?_)
 ·exact sR <| oP z <| nT <| af <| xr 4 z (by cases H; exact q1)
 ·exact aj <| ao <| sR <| oPP z <| nT <| xr 4 z (by cases H; exact q1)
theorem rB (w : World) {p0 : List (List UInt8)} {p1 : Int} {a_0 : Option Addr} {n_0 c_0 : Nat} {r : Int} (H : ka p0 p1 = U r) (f : (ae (cy) 9).rd w [] p0 [S a_0 n_0 c_0]) :
    Calls Tryz.prog 82 #[S a_0 n_0 c_0, I J p1] w (fun en w' => en = .returned (I J r) ∧ Ext [] w w') := by
 obtain rfl := eb f
 unfold ka at H
 refine aq Tryz.func82 z Tryz.ntmps82 z (St.init w []) <| sR <| oP z <| nR <| aa [.p, .p, .lenS 23 9 gm, .p, .p] z <| nQ <| ai <| sR <| oPP z <| nQ <| cI H z (fun H => ?_) (fun H => ?_)
 ·exact sR <| oP z <| nT <| af <| xr 4 z (by cases H; exact q1)
 ·refine aj <| ao <| ai <| sR <| oP z <| nQ <| an <| CW.at (fx (fun (c : Int) (a : Int) => St w [] []) (fun c a => [(0, S a_0 p0.length c_0), (1, I J c), (5, I J a)]) (fun kk => fun c a => gR p0 kk c a = U r) (fun _ _ H => ?_) (fun i g c a H => ?_) aK (J.wrap (p1 - (p0.length : Int))) (0) (H)) (ss [] z z) (sb z)
  ·unfold gR at H
   exact absurd H (by simp)
  ·unfold gR at H
   refine ai <| sR <| aa [.p, .p, .lenS 23 9 gm, .p] z <| nQ <| cI H z (fun H => ?_) (fun H => ?_)
   ·refine aj <| ao <| ai <| an <| sR <| aa [.p, .p, .p] z <| bE H fun h d H => bO (e := cy) (xs := p0) (j := a) z z z z z gm ty9 z (ab f) d (by rw [Nat.mul_one]) <| o1 z (aF z z ty9 (cq (ab f) d)) <| aa [.lenT 9 st9, .p, .p] z <| nR <| oPP z <| nQ <| cI H z (fun H => ?_) (fun H => ?_)
    ·exact sR <| oP z <| nT <| ar <| af <| bd <| ar <| af <| xr 4 z (by cases H; exact q1)
    ·exact aj <| cx <| ao <| aJ <| aa [.p, .p, .p] z <| aE <| cz (RW.at (g (J.wrap (c - (h.length : Int))) (J.wrap (a + 1)) (H)) (ss [] z z) (sb z))
   ·exact bb <| aw <| ay <| ax <| ao <| sR <| oPP z <| nT <| xr 4 z (by cases H; exact q1)
theorem AQ (w : World) {p0 : ch} {p1 : Int} {d : List Value} {r : Int} (H : nC p0 p1 = U r) (j : (fJ).rd w [] p0 d) :
    Calls Tryz.prog 120 #[.agg d.toArray, I J p1] w (fun en w' => en = .returned (I J r) ∧ Ext [] w w') := by
 obtain ⟨k, l, m, rfl, g, e, f⟩ := nX j
 obtain rfl := g
 obtain ⟨o, q, rfl⟩ := ah e
 obtain ⟨s, t, rfl⟩ := ah f
 unfold nC at H
 refine aq Tryz.func120 z Tryz.ntmps120 z (St.init w []) <| sR <| ob _ z fun u => oP z <| nR <| aa [.p, .fa 188 0 0 GP] z <| o1 z (r1 0 0 z ty9 z) <| aa [.lenT 9 st9, .p, .p] z <| nQ <| ai <| sR <| oPP z <| nQ <| cI H z (fun H => ?_) (fun H => ?_)
 ·exact sR <| oP z <| nT <| af <| xr 4 z (by cases H; exact q1)
 ·refine aj <| ao <| sR <| aa [.fa 188 1 1 Hl] z <| o1 z (r1 1 0 z bW z) <| oP z <| bE H fun v h H => oq z (qc z Jw (fun a c => lK a h (ab e a c))) tt2 <| oP z <| nQ <| ai <| sR <| oPP z <| nQ <| cI H z (fun H => ?_) (fun H => ?_)
  ·exact sR <| oP z <| nT <| af <| xr 4 z (by cases H; exact q1)
  ·refine aj <| ao <| sR <| aa [.fa 188 2 2 Gt] z <| o1 z (r1 2 0 z lr z) <| oP z <| bE H fun x i H => oq z (qc z Oi (fun a c => rB a i (ab f a c))) tt2 <| oP z <| nQ <| ai <| sR <| oPP z <| nQ <| cI H z (fun H => ?_) (fun H => ?_)
   ·exact sR <| oP z <| nT <| af <| xr 4 z (by cases H; exact q1)
   ·exact aj <| ao <| sR <| oPP z <| nT <| xr 4 z (by cases H; exact q1)
theorem ze (w : World) {p0 : List ch} {p1 : Int} {a_0 : Option Addr} {n_0 c_0 : Nat} {r : Int} (H : oC p0 p1 = U r) (l : (ae (fJ) 188).rd w [] p0 [S a_0 n_0 c_0]) :
    Calls Tryz.prog 81 #[S a_0 n_0 c_0, I J p1] w (fun en w' => en = .returned (I J r) ∧ Ext [] w w') := by
 obtain rfl := eb l
 unfold oC at H
 refine aq Tryz.func81 z Tryz.ntmps81 z (St.init w []) <| sR <| oP z <| nR <| aa [.p, .p, .lenS 22 188 Ih, .p, .p] z <| nQ <| ai <| sR <| oPP z <| nQ <| cI H z (fun H => ?_) (fun H => ?_)
 ·exact sR <| oP z <| nT <| af <| xr 4 z (by cases H; exact q1)
 ·refine aj <| ao <| ai <| sR <| oP z <| nQ <| an <| CW.at (fx (fun (c : Int) (a : Int) => St w [] []) (fun c a => [(0, S a_0 p0.length c_0), (1, I J c), (5, I J a)]) (fun kk => fun c a => jt p0 kk c a = U r) (fun _ _ H => ?_) (fun G h c a H => ?_) aK (J.wrap (p1 - (p0.length : Int))) (0) (H)) (ss [] z z) (sb z)
  ·unfold jt at H
   exact absurd H (by simp)
  ·unfold jt at H
   refine ai <| sR <| aa [.p, .p, .lenS 22 188 Ih, .p] z <| nQ <| cI H z (fun H => ?_) (fun H => ?_)
   ·refine aj <| ao <| ai <| an <| sR <| oPP z <| bE H fun d m H => bQ z z z z z Ih GJ z l m fun A C i j => ?_
    obtain ⟨D, E, F, rfl, o, e, f⟩ := nX i
    obtain rfl := o
    obtain ⟨q, s, rfl⟩ := ah e
    obtain ⟨t, u, rfl⟩ := ah f
    refine o1 z (cu (cs := [vS d.E_, S q d.z_.length s, S t d.I_.length u]) z z GJ (bB bor j) z) <| oP z <| bE H fun v x H => oq z (qc z On (fun k g => AQ k x (uq z (ab e k g) (ab f k g)))) tt2 <| oP z <| nR <| oPP z <| nQ <| cI H z (fun H => ?_) (fun H => ?_)
    ·exact sR <| oP z <| nT <| ar <| af <| bd <| ar <| af <| xr 4 z (by cases H; exact q1)
    ·exact aj <| cx <| ao <| aJ <| aa [.p, .p, .p] z <| aE <| cz (RW.at (h (v) (J.wrap (a + 1)) (H)) (ss [] z z) (sb z))
   ·exact bb <| aw <| ay <| ax <| ao <| sR <| oPP z <| nT <| xr 4 z (by cases H; exact q1)
theorem xo (w : World) {p0 : db} {p1 : Int} {d : List Value} {r : Int} (H : mI p0 p1 = U r) (i : (fX).rd w [] p0 d) :
    Calls Tryz.prog 43 #[.agg d.toArray, I J p1] w (fun en w' => en = .returned (I J r) ∧ Ext [] w w') := by
 obtain ⟨j, k, rfl, e, f⟩ := gp i
 obtain ⟨l, m, rfl⟩ := ah e
 obtain ⟨o, p, rfl⟩ := ah f
 unfold mI at H
 refine aq Tryz.func43 z Tryz.ntmps43 z (St.init w []) <| sR <| ob _ z fun q => oP z <| nR <| aa [.fa 25 0 0 JG] z <| o1 z (r1 0 0 z NR z) <| oP z <| bE H fun s g H => oq z (qc z Pu (fun a c => ze a g (ab e a c))) tt2 <| oP z <| nQ <| ai <| sR <| oPP z <| nQ <| cI H z (fun H => ?_) (fun H => ?_)
 ·exact sR <| oP z <| nT <| af <| xr 4 z (by cases H; exact q1)
 ·refine aj <| ao <| sR <| aa [.fa 25 1 1 IE] z <| o1 z (r1 1 0 z lr z) <| oP z <| bE H fun t h H => oq z (qc z Oi (fun a c => rB a h (ab f a c))) tt2 <| oP z <| nQ <| ai <| sR <| oPP z <| nQ <| cI H z (fun H => ?_) (fun H => ?_)
  ·exact sR <| oP z <| nT <| af <| xr 4 z (by cases H; exact q1)
  ·exact aj <| ao <| sR <| oPP z <| nT <| xr 4 z (by cases H; exact q1)
theorem zS (w : World) {p0 : eG} {p1 : Int} {a : List Value} {r : Int} (H : qb p0 p1 = U r) (p : (iC).rd w [] p0 a) :
    Calls Tryz.prog 13 #[.agg a.toArray, I J p1] w (fun en w' => en = .returned (I J r) ∧ Ext [] w w') := by
 obtain ⟨q, s, t, u, v, x, A, rfl, g, h, i, j, k, l, m⟩ := lA p
 obtain ⟨C, D, rfl, c, d⟩ := gp g
 obtain ⟨E, F, rfl⟩ := ah c
 obtain ⟨G, L, rfl⟩ := ah d
 obtain rfl := h
 obtain rfl := i
 obtain rfl := j
 obtain rfl := k
 obtain rfl := l
 obtain rfl := m
 unfold qb at H
 refine aq Tryz.func13 z Tryz.ntmps13 z (St.init w []) <| sR <| ob _ z fun M => oP z <| nR <| aa [.fa 29 0 0 JQ] z <| o1 z (rx 0 0 _ z OB z) <| oP z <| bE H fun P o H => oq z (qc z PC (fun f e => xo f o (fc (ab c f e) (ab d f e)))) tt2 <| oP z <| nQ <| ai <| sR <| oPP z <| nQ <| cI H z (fun H => ?_) (fun H => ?_)
 ·exact sR <| oP z <| nT <| af <| xr 4 z (by cases H; exact q1)
 ·exact aj <| ao <| sR <| oPP z <| nT <| xr 4 z (by cases H; exact q1)
theorem qf (w : World) {p0 : List (List Int)} {p1 : Int} {a_0 : Option Addr} {n_0 c_0 : Nat} {r : Int} (H : kq p0 p1 = U r) (g : (ae (ae eI 3) 69).rd w [] p0 [S a_0 n_0 c_0]) :
    Calls Tryz.prog 45 #[S a_0 n_0 c_0, I J p1] w (fun en w' => en = .returned (I J r) ∧ Ext [] w w') := by
 obtain rfl := eb g
 unfold kq at H
 refine aq Tryz.func45 z Tryz.ntmps45 z (St.init w []) <| sR <| oP z <| nR <| aa [.p, .p, .lenS 33 69 eK, .p, .p] z <| nQ <| ai <| sR <| oPP z <| nQ <| cI H z (fun H => ?_) (fun H => ?_)
 ·exact sR <| oP z <| nT <| af <| xr 4 z (by cases H; exact q1)
 ·refine aj <| ao <| ai <| sR <| oP z <| nQ <| an <| CW.at (fx (fun (c : Int) (a : Int) => St w [] []) (fun c a => [(0, S a_0 p0.length c_0), (1, I J c), (5, I J a)]) (fun kk => fun c a => je p0 kk c a = U r) (fun _ _ H => ?_) (fun u e c a H => ?_) aK (J.wrap (p1 - (p0.length : Int))) (0) (H)) (ss [] z z) (sb z)
  ·unfold je at H
   exact absurd H (by simp)
  ·unfold je at H
   refine ai <| sR <| aa [.p, .p, .lenS 33 69 eK, .p] z <| nQ <| cI H z (fun H => ?_) (fun H => ?_)
   ·refine aj <| ao <| ai <| an <| sR <| oPP z <| bE H fun m h H => bQ z z z z z eK bW z g h fun o q d f => ?_
    obtain ⟨s, t, rfl⟩ := ah d
    refine o1 z (aF z z bW (bB bor f)) <| oP z <| bE H fun i j H => oq z (qc z Jw (fun k l => lK k j (ab d k l))) tt2 <| oP z <| nR <| oPP z <| nQ <| cI H z (fun H => ?_) (fun H => ?_)
    ·exact sR <| oP z <| nT <| ar <| af <| bd <| ar <| af <| xr 4 z (by cases H; exact q1)
    ·exact aj <| cx <| ao <| aJ <| aa [.p, .p, .p] z <| aE <| cz (RW.at (e (i) (J.wrap (a + 1)) (H)) (ss [] z z) (sb z))
   ·exact bb <| aw <| ay <| ax <| ao <| sR <| oPP z <| nT <| xr 4 z (by cases H; exact q1)
theorem yZ (w : World) {p0 : cr} {p1 : Int} {d : List Value} {r : Int} (H : oe p0 p1 = U r) (i : (gA).rd w [] p0 d) :
    Calls Tryz.prog 187 #[.agg d.toArray, I J p1] w (fun en w' => en = .returned (I J r) ∧ Ext [] w w') := by
 obtain ⟨j, k, rfl, e, f⟩ := ji i
 obtain ⟨l, m, rfl⟩ := ah e
 obtain ⟨o, p, rfl⟩ := ah f
 unfold oe at H
 refine aq Tryz.func187 z Tryz.ntmps187 z (St.init w []) <| sR <| ob _ z fun q => oP z <| nR <| aa [.fa 223 0 0 Hb] z <| o1 z (r1 0 0 z bW z) <| oP z <| bE H fun s g H => oq z (qc z Jw (fun a c => lK a g (ab e a c))) tt2 <| oP z <| nQ <| ai <| sR <| oPP z <| nQ <| cI H z (fun H => ?_) (fun H => ?_)
 ·exact sR <| oP z <| nT <| af <| xr 4 z (by cases H; exact q1)
 ·refine aj <| ao <| sR <| aa [.fa 223 1 1 GN] z <| o1 z (r1 1 0 z fw z) <| oP z <| bE H fun t h H => oq z (qc z My (fun a c => qf a h (ab f a c))) tt2 <| oP z <| nQ <| ai <| sR <| oPP z <| nQ <| cI H z (fun H => ?_) (fun H => ?_)
  ·exact sR <| oP z <| nT <| af <| xr 4 z (by cases H; exact q1)
  ·exact aj <| ao <| sR <| oPP z <| nT <| xr 4 z (by cases H; exact q1)
theorem Ar (w : World) {p0 : bN} {p1 : Int} {d : List Value} {r : Int} (H : nA p0 p1 = U r) (v : (fN).rd w [] p0 d) :
    Calls Tryz.prog 172 #[.agg d.toArray, I J p1] w (fun en w' => en = .returned (I J r) ∧ Ext [] w w') := by
 obtain ⟨x, A, C, D, E, F, G, L, M, P, rfl, i, j, e, k, l, m, f, o, p, q⟩ := ou v
 obtain rfl := i
 obtain rfl := j
 obtain ⟨Q, R, rfl⟩ := ah e
 obtain rfl := k
 obtain ⟨T, V, rfl, g, h⟩ := ji l
 obtain ⟨X, Z, rfl⟩ := ah g
 obtain ⟨a0, a1, rfl⟩ := ah h
 obtain rfl := m
 obtain ⟨a2, a3, rfl⟩ := ah f
 obtain rfl := o
 obtain rfl := p
 obtain rfl := q
 unfold nA at H
 refine aq Tryz.func172 z Tryz.ntmps172 z (St.init w []) <| sR <| ob _ z fun a4 => oP z <| nR <| aa [.fa 225 2 3 Hg] z <| o1 z (r1 3 0 z bW z) <| oP z <| bE H fun a5 s H => oq z (qc z Jw (fun c a => lK c s (ab e c a))) tt2 <| oP z <| nQ <| ai <| sR <| oPP z <| nQ <| cI H z (fun H => ?_) (fun H => ?_)
 ·exact sR <| oP z <| nT <| af <| xr 4 z (by cases H; exact q1)
 ·refine aj <| ao <| sR <| aa [.fa 225 4 5 GR] z <| o1 z (rx 5 0 _ z LS z) <| oP z <| bE H fun a6 t H => oq z (qc z OZ (fun c a => yZ c t (mT (ab g c a) (ab h c a)))) tt2 <| oP z <| nQ <| ai <| sR <| oPP z <| nQ <| cI H z (fun H => ?_) (fun H => ?_)
  ·exact sR <| oP z <| nT <| af <| xr 4 z (by cases H; exact q1)
  ·refine aj <| ao <| sR <| aa [.fa 225 6 8 Gx] z <| o1 z (r1 8 0 z bW z) <| oP z <| bE H fun a7 u H => oq z (qc z Jw (fun c a => lK c u (ab f c a))) tt2 <| oP z <| nQ <| ai <| sR <| oPP z <| nQ <| cI H z (fun H => ?_) (fun H => ?_)
   ·exact sR <| oP z <| nT <| af <| xr 4 z (by cases H; exact q1)
   ·exact aj <| ao <| sR <| oPP z <| nT <| xr 4 z (by cases H; exact q1)
theorem yM (w : World) {p0 : List bN} {p1 : Int} {a_0 : Option Addr} {n_0 c_0 : Nat} {r : Int} (H : oJ p0 p1 = U r) (T : (ae (fN) 225).rd w [] p0 [S a_0 n_0 c_0]) :
    Calls Tryz.prog 149 #[S a_0 n_0 c_0, I J p1] w (fun en w' => en = .returned (I J r) ∧ Ext [] w w') := by
 obtain rfl := eb T
 unfold oJ at H
 refine aq Tryz.func149 z Tryz.ntmps149 z (St.init w []) <| sR <| oP z <| nR <| aa [.p, .p, .lenS 142 225 BQ, .p, .p] z <| nQ <| ai <| sR <| oPP z <| nQ <| cI H z (fun H => ?_) (fun H => ?_)
 ·exact sR <| oP z <| nT <| af <| xr 4 z (by cases H; exact q1)
 ·refine aj <| ao <| ai <| sR <| oP z <| nQ <| an <| CW.at (fx (fun (d : Int) (c : Int) => St w [] []) (fun d c => [(0, S a_0 p0.length c_0), (1, I J d), (5, I J c)]) (fun kk => fun d c => jr p0 kk d c = U r) (fun _ _ H => ?_) (fun k1 k d c H => ?_) aK (J.wrap (p1 - (p0.length : Int))) (0) (H)) (ss [] z z) (sb z)
  ·unfold jr at H
   exact absurd H (by simp)
  ·unfold jr at H
   refine ai <| sR <| aa [.p, .p, .lenS 142 225 BQ, .p] z <| nQ <| cI H z (fun H => ?_) (fun H => ?_)
   ·refine aj <| ao <| ai <| an <| sR <| oPP z <| bE H fun a V H => bQ z z z z z BQ GY z T V fun X Z l m => ?_
    obtain ⟨a0, a1, a2, a3, a4, a5, a6, a7, a8, a9, rfl, o, q, f, s, t, u, g, v, x, A⟩ := ou l
    obtain rfl := o
    obtain rfl := q
    obtain ⟨C, D, rfl⟩ := ah f
    obtain rfl := s
    obtain ⟨b0, b1, rfl, h, i⟩ := ji t
    obtain ⟨E, F, rfl⟩ := ah h
    obtain ⟨G, L, rfl⟩ := ah i
    obtain rfl := u
    obtain ⟨M, P, rfl⟩ := ah g
    obtain rfl := v
    obtain rfl := x
    obtain rfl := A
    refine o1 z (cu (cs := [B a.y_, I J a.g_.q_, I J a.g_.u_, S C a.r_.length D, I J a.C_, S E a.i_.k_.length F, S G a.i_.h_.length L, I J a.D_, S M a.d_.length P, I J a.f_, I J a.x_, I J a.B_]) z z GY (bB bor m) z) <| oP z <| bE H fun Q R H => oq z (qc z NX (fun j e => Ar j R (uh z z (ab f j e) z (mT (ab h j e) (ab i j e)) z (ab g j e) z z z))) tt2 <| oP z <| nR <| oPP z <| nQ <| cI H z (fun H => ?_) (fun H => ?_)
    ·exact sR <| oP z <| nT <| ar <| af <| bd <| ar <| af <| xr 4 z (by cases H; exact q1)
    ·exact aj <| cx <| ao <| aJ <| aa [.p, .p, .p] z <| aE <| cz (RW.at (k (Q) (J.wrap (c + 1)) (H)) (ss [] z z) (sb z))
   ·exact bb <| aw <| ay <| ax <| ao <| sR <| oPP z <| nT <| xr 4 z (by cases H; exact q1)
theorem uo (w : World) {p0 : cW} {p1 : Int} {a : List Value} {r : Int} (H : ny p0 p1 = U r) (h : (eT).rd w [] p0 a) :
    Calls Tryz.prog 121 #[.agg a.toArray, I J p1] w (fun en w' => en = .returned (I J r) ∧ Ext [] w w') := by
 obtain ⟨i, j, rfl, c, d⟩ := fA h
 obtain ⟨k, l, rfl⟩ := ah c
 obtain rfl := d
 unfold ny at H
 refine aq Tryz.func121 z Tryz.ntmps121 z (St.init w []) <| sR <| ob _ z fun m => oP z <| nR <| aa [.fa 144 0 0 GA] z <| o1 z (r1 0 0 z Lt z) <| oP z <| bE H fun o e H => oq z (qc z Pa (fun f g => yM f e (ab c f g))) tt2 <| oP z <| nQ <| ai <| sR <| oPP z <| nQ <| cI H z (fun H => ?_) (fun H => ?_)
 ·exact sR <| oP z <| nT <| af <| xr 4 z (by cases H; exact q1)
 ·exact aj <| ao <| sR <| oPP z <| nT <| xr 4 z (by cases H; exact q1)
theorem sA (w : World) {p0 : cc} {p1 : Int} {a : List Value} {r : Int} (H : kV p0 p1 = U r) (g : (dC).rd w [] p0 a) :
    Calls Tryz.prog 150 #[.agg a.toArray, I J p1] w (fun en w' => en = .returned (I J r) ∧ Ext [] w w') := by
 obtain ⟨h, rfl, c⟩ := cT g
 obtain ⟨i, j, rfl⟩ := ah c
 unfold kV at H
 refine aq Tryz.func150 z Tryz.ntmps150 z (St.init w []) <| sR <| ob _ z fun k => oP z <| nR <| aa [.fa 145 0 0 Hk] z <| o1 z (r1 0 0 z fw z) <| oP z <| bE H fun l d H => oq z (qc z My (fun e f => qf e d (ab c e f))) tt2 <| oP z <| nQ <| ai <| sR <| oPP z <| nQ <| cI H z (fun H => ?_) (fun H => ?_)
 ·exact sR <| oP z <| nT <| af <| xr 4 z (by cases H; exact q1)
 ·exact aj <| ao <| sR <| oPP z <| nT <| xr 4 z (by cases H; exact q1)
theorem Bm (w : World) {p0 : eM} {p1 : Int} {d : List Value} {r : Int} (H : rn p0 p1 = U r) (k : (jG).rd w [] p0 d) :
    Calls Tryz.prog 122 #[.agg d.toArray, I J p1] w (fun en w' => en = .returned (I J r) ∧ Ext [] w w') := by
 obtain ⟨l, m, rfl, g, h⟩ := ld k
 obtain ⟨o, rfl, e⟩ := cT g
 obtain ⟨p, q, rfl⟩ := ah e
 obtain ⟨s, rfl, f⟩ := cT h
 obtain ⟨t, u, rfl⟩ := ah f
 unfold rn at H
 refine aq Tryz.func122 z Tryz.ntmps122 z (St.init w []) <| sR <| ob _ z fun v => oP z <| nR <| aa [.fa 147 0 0 GS] z <| o1 z (rx 0 0 _ z Gz z) <| oP z <| bE H fun x i H => oq z (qc z Lx (fun a c => sA a i (dx (ab e a c)))) tt2 <| oP z <| nQ <| ai <| sR <| oPP z <| nQ <| cI H z (fun H => ?_) (fun H => ?_)
 ·exact sR <| oP z <| nT <| af <| xr 4 z (by cases H; exact q1)
 ·refine aj <| ao <| sR <| aa [.fa 147 1 1 GG] z <| o1 z (rx 1 0 _ z Gz z) <| oP z <| bE H fun A j H => oq z (qc z Lx (fun a c => sA a j (dx (ab f a c)))) tt2 <| oP z <| nQ <| ai <| sR <| oPP z <| nQ <| cI H z (fun H => ?_) (fun H => ?_)
  ·exact sR <| oP z <| nT <| af <| xr 4 z (by cases H; exact q1)
  ·exact aj <| ao <| sR <| oPP z <| nT <| xr 4 z (by cases H; exact q1)
theorem xB (w : World) {p0 : bJ} {p1 : Int} {d : List Value} {r : Int} (H : la p0 p1 = U r) (v : (eu).rd w [] p0 d) :
    Calls Tryz.prog 83 #[.agg d.toArray, I J p1] w (fun en w' => en = .returned (I J r) ∧ Ext [] w w') := by
 obtain ⟨x, A, C, D, rfl, i, j, k, l⟩ := ma v
 obtain ⟨E, F, rfl, e, m⟩ := fA i
 obtain ⟨G, L, rfl⟩ := ah e
 obtain rfl := m
 obtain rfl := j
 obtain ⟨M, P, rfl, f, o⟩ := fA k
 obtain ⟨Q, R, rfl⟩ := ah f
 obtain rfl := o
 obtain ⟨T, V, rfl, p, q⟩ := ld l
 obtain ⟨X, rfl, g⟩ := cT p
 obtain ⟨Z, a0, rfl⟩ := ah g
 obtain ⟨a1, rfl, h⟩ := cT q
 obtain ⟨a2, a3, rfl⟩ := ah h
 unfold la at H
 refine aq Tryz.func83 z Tryz.ntmps83 z (St.init w []) <| sR <| ob _ z fun a4 => oP z <| nR <| aa [.fa 149 0 0 Hh] z <| o1 z (rx 0 0 _ z GB z) <| oP z <| bE H fun a5 s H => oq z (qc z Lz (fun c a => uo c s (gM (ab e c a) z))) tt2 <| oP z <| nQ <| ai <| sR <| oPP z <| nQ <| cI H z (fun H => ?_) (fun H => ?_)
 ·exact sR <| oP z <| nT <| af <| xr 4 z (by cases H; exact q1)
 ·refine aj <| ao <| sR <| aa [.fa 149 2 3 Hi] z <| o1 z (rx 3 0 _ z GB z) <| oP z <| bE H fun a6 t H => oq z (qc z Lz (fun c a => uo c t (gM (ab f c a) z))) tt2 <| oP z <| nQ <| ai <| sR <| oPP z <| nQ <| cI H z (fun H => ?_) (fun H => ?_)
  ·exact sR <| oP z <| nT <| af <| xr 4 z (by cases H; exact q1)
  ·refine aj <| ao <| sR <| aa [.fa 149 3 5 Gw] z <| o1 z (rx 5 0 _ z Ly z) <| oP z <| bE H fun a7 u H => oq z (qc z ON (fun c a => Bm c u (pt (dx (ab g c a)) (dx (ab h c a))))) tt2 <| oP z <| nQ <| ai <| sR <| oPP z <| nQ <| cI H z (fun H => ?_) (fun H => ?_)
   ·exact sR <| oP z <| nT <| af <| xr 4 z (by cases H; exact q1)
   ·exact aj <| ao <| sR <| oPP z <| nT <| xr 4 z (by cases H; exact q1)
theorem we (w : World) {p0 : List bJ} {p1 : Int} {a_0 : Option Addr} {n_0 c_0 : Nat} {r : Int} (H : ly p0 p1 = U r) (T : (ae (eu) 149).rd w [] p0 [S a_0 n_0 c_0]) :
    Calls Tryz.prog 44 #[S a_0 n_0 c_0, I J p1] w (fun en w' => en = .returned (I J r) ∧ Ext [] w w') := by
 obtain rfl := eb T
 unfold ly at H
 refine aq Tryz.func44 z Tryz.ntmps44 z (St.init w []) <| sR <| oP z <| nR <| aa [.p, .p, .lenS 30 149 Ir, .p, .p] z <| nQ <| ai <| sR <| oPP z <| nQ <| cI H z (fun H => ?_) (fun H => ?_)
 ·exact sR <| oP z <| nT <| af <| xr 4 z (by cases H; exact q1)
 ·refine aj <| ao <| ai <| sR <| oP z <| nQ <| an <| CW.at (fx (fun (d : Int) (c : Int) => St w [] []) (fun d c => [(0, S a_0 p0.length c_0), (1, I J d), (5, I J c)]) (fun kk => fun d c => gU p0 kk d c = U r) (fun _ _ H => ?_) (fun k1 k d c H => ?_) aK (J.wrap (p1 - (p0.length : Int))) (0) (H)) (ss [] z z) (sb z)
  ·unfold gU at H
   exact absurd H (by simp)
  ·unfold gU at H
   refine ai <| sR <| aa [.p, .p, .lenS 30 149 Ir, .p] z <| nQ <| cI H z (fun H => ?_) (fun H => ?_)
   ·refine aj <| ao <| ai <| an <| sR <| oPP z <| bE H fun a V H => bQ z z z z z Ir Ha z T V fun X Z l m => ?_
    obtain ⟨a0, a1, a2, a3, rfl, o, q, s, t⟩ := ma l
    obtain ⟨a4, a5, rfl, f, u⟩ := fA o
    obtain ⟨v, x, rfl⟩ := ah f
    obtain rfl := u
    obtain rfl := q
    obtain ⟨a6, a7, rfl, g, A⟩ := fA s
    obtain ⟨C, D, rfl⟩ := ah g
    obtain rfl := A
    obtain ⟨a8, a9, rfl, E, F⟩ := ld t
    obtain ⟨b0, rfl, h⟩ := cT E
    obtain ⟨G, L, rfl⟩ := ah h
    obtain ⟨b1, rfl, i⟩ := cT F
    obtain ⟨M, P, rfl⟩ := ah i
    refine o1 z (cu (cs := [S v a.F_.b_.length x, I J a.F_.A_, B a.S_, S C a.w_.b_.length D, I J a.w_.A_, S G a.H_.s_.o_.length L, S M a.H_.t_.o_.length P]) z z Ha (bB bor m) z) <| oP z <| bE H fun Q R H => oq z (qc z Qd (fun j e => xB j R (sn (gM (ab f j e) z) z (gM (ab g j e) z) (pt (dx (ab h j e)) (dx (ab i j e)))))) tt2 <| oP z <| nR <| oPP z <| nQ <| cI H z (fun H => ?_) (fun H => ?_)
    ·exact sR <| oP z <| nT <| ar <| af <| bd <| ar <| af <| xr 4 z (by cases H; exact q1)
    ·exact aj <| cx <| ao <| aJ <| aa [.p, .p, .p] z <| aE <| cz (RW.at (k (Q) (J.wrap (c + 1)) (H)) (ss [] z z) (sb z))
   ·exact bb <| aw <| ay <| ax <| ao <| sR <| oPP z <| nT <| xr 4 z (by cases H; exact q1)
theorem xb (w : World) {p0 : dj} {p1 : Int} {a : List Value} {r : Int} (H : mH p0 p1 = U r) (g : (fV).rd w [] p0 a) :
    Calls Tryz.prog 14 #[.agg a.toArray, I J p1] w (fun en w' => en = .returned (I J r) ∧ Ext [] w w') := by
 obtain ⟨h, rfl, c⟩ := kh g
 obtain ⟨i, j, rfl⟩ := ah c
 unfold mH at H
 refine aq Tryz.func14 z Tryz.ntmps14 z (St.init w []) <| sR <| ob _ z fun k => oP z <| nR <| aa [.fa 32 0 0 IY] z <| o1 z (r1 0 0 z Nt z) <| oP z <| bE H fun l d H => oq z (qc z Py (fun e f => we e d (ab c e f))) tt2 <| oP z <| nQ <| ai <| sR <| oPP z <| nQ <| cI H z (fun H => ?_) (fun H => ?_)
 ·exact sR <| oP z <| nT <| af <| xr 4 z (by cases H; exact q1)
 ·exact aj <| ao <| sR <| oPP z <| nT <| xr 4 z (by cases H; exact q1)
theorem yD (w : World) {p0 : List cY} {p1 : Int} {a_0 : Option Addr} {n_0 c_0 : Nat} {r : Int} (H : qx p0 p1 = U r) (a : (ae (ix) 163).rd w [] p0 [S a_0 n_0 c_0]) :
    Calls Tryz.prog 46 #[S a_0 n_0 c_0, I J p1] w (fun en w' => en = .returned (I J r) ∧ Ext [] w w') := by
 obtain rfl := eb a
 unfold qx at H
 refine aq Tryz.func46 z Tryz.ntmps46 z (St.init w []) <| sR <| oP z <| nR <| aa [.p, .p, .lenS 34 163 KR, .p, .p] z <| nQ <| ai <| sR <| oPP z <| nQ <| cI H z (fun H => ?_) (fun H => ?_)
 ·exact sR <| oP z <| nT <| af <| xr 4 z (by cases H; exact q1)
 ·exact aj <| ao <| sR <| oPP z <| nT <| xr 4 z (by cases H; exact q1)
theorem yL (w : World) {p0 : dM} {p1 : Int} {d : List Value} {r : Int} (H : oD p0 p1 = U r) (i : (gD).rd w [] p0 d) :
    Calls Tryz.prog 15 #[.agg d.toArray, I J p1] w (fun en w' => en = .returned (I J r) ∧ Ext [] w w') := by
 obtain ⟨j, k, rfl, e, f⟩ := kO i
 obtain ⟨l, m, rfl⟩ := ah e
 obtain ⟨o, p, rfl⟩ := ah f
 unfold oD at H
 refine aq Tryz.func15 z Tryz.ntmps15 z (St.init w []) <| sR <| ob _ z fun q => oP z <| nR <| aa [.fa 36 0 0 Iy] z <| o1 z (r1 0 0 z fw z) <| oP z <| bE H fun s g H => oq z (qc z My (fun a c => qf a g (ab e a c))) tt2 <| oP z <| nQ <| ai <| sR <| oPP z <| nQ <| cI H z (fun H => ?_) (fun H => ?_)
 ·exact sR <| oP z <| nT <| af <| xr 4 z (by cases H; exact q1)
 ·refine aj <| ao <| sR <| aa [.fa 36 1 1 IJ] z <| o1 z (r1 1 0 z Nm z) <| oP z <| bE H fun t h H => oq z (qc z Qt (fun a c => yD a h (ab f a c))) tt2 <| oP z <| nQ <| ai <| sR <| oPP z <| nQ <| cI H z (fun H => ?_) (fun H => ?_)
  ·exact sR <| oP z <| nT <| af <| xr 4 z (by cases H; exact q1)
  ·exact aj <| ao <| sR <| oPP z <| nT <| xr 4 z (by cases H; exact q1)
theorem yW (w : World) {p0 : dz} {p1 : Int} {d : List Value} {r : Int} (H : lY p0 p1 = U r) (C : (lZ).rd w [] p0 d) :
    Calls Tryz.prog 4 #[.agg d.toArray, I J p1] w (fun en w' => en = .returned (I J r) ∧ Ext [] w w') := by
 obtain ⟨D, E, F, rfl, j, k, l⟩ := qk C
 obtain ⟨G, L, M, P, Q, R, T, rfl, m, o, p, q, s, t, u⟩ := lA j
 obtain ⟨V, X, rfl, e, f⟩ := gp m
 obtain ⟨Z, a0, rfl⟩ := ah e
 obtain ⟨a1, a2, rfl⟩ := ah f
 obtain rfl := o
 obtain rfl := p
 obtain rfl := q
 obtain rfl := s
 obtain rfl := t
 obtain rfl := u
 obtain ⟨a3, rfl, g⟩ := kh k
 obtain ⟨a4, a5, rfl⟩ := ah g
 obtain ⟨a6, a7, rfl, h, i⟩ := kO l
 obtain ⟨a8, a9, rfl⟩ := ah h
 obtain ⟨b0, b1, rfl⟩ := ah i
 unfold lY at H
 refine aq Tryz.func4 z Tryz.ntmps4 z (St.init w []) <| sR <| ob _ z fun b2 => oP z <| nR <| aa [.fa 38 0 0 JS] z <| o1 z (rx 0 0 _ z NF z) <| oP z <| bE H fun b3 v H => oq z (qc z PM (fun c a => zS c v (iM (fc (ab e c a) (ab f c a)) z z z z z z))) tt2 <| oP z <| nQ <| ai <| sR <| oPP z <| nQ <| cI H z (fun H => ?_) (fun H => ?_)
 ·exact sR <| oP z <| nT <| af <| xr 4 z (by cases H; exact q1)
 ·refine aj <| ao <| sR <| aa [.fa 38 1 14 Jy] z <| o1 z (rx 14 0 _ z NN z) <| oP z <| bE H fun b4 x H => oq z (qc z Pz (fun c a => xb c x (gx (ab g c a)))) tt2 <| oP z <| nQ <| ai <| sR <| oPP z <| nQ <| cI H z (fun H => ?_) (fun H => ?_)
  ·exact sR <| oP z <| nT <| af <| xr 4 z (by cases H; exact q1)
  ·refine aj <| ao <| sR <| aa [.fa 38 2 15 JF] z <| o1 z (rx 15 0 _ z Nq z) <| oP z <| bE H fun b5 A H => oq z (qc z Ql (fun c a => yL c A (ib (ab h c a) (ab i c a)))) tt2 <| oP z <| nQ <| ai <| sR <| oPP z <| nQ <| cI H z (fun H => ?_) (fun H => ?_)
   ·exact sR <| oP z <| nT <| af <| xr 4 z (by cases H; exact q1)
   ·exact aj <| ao <| sR <| oPP z <| nT <| xr 4 z (by cases H; exact q1)
theorem lE (w : World) {g : List Nat} {p0 : List Int} {a_0 : Option Addr} {n_0 c_0 : Nat} {r : List Int} (H : iy p0 = U r) (HS : St w g [] w) (l : (ae eI 3).rd w g p0 [S a_0 n_0 c_0]) :
    Calls Tryz.prog 95 #[S a_0 n_0 c_0] w (fun en w' => ∃ v, en = .returned v ∧ ∃ (o : Option Addr), ∃ (q : Nat), ∃ (c0 : Nat), ∃ (u : List Nat), v = S o q c0 ∧ St w g [W (ae eI 3) u r [S o q c0]] w') := by
 obtain rfl := eb l
 unfold iy at H
 refine aq Tryz.func95 z Tryz.ntmps95 z (HS) <| sR <| oP z <| nR <| aa [.p, .lenS 69 3 ce] z <| bE H fun c s H => rP (e := eI) (zero := (0 : Int)) z z z z z z ce ty3 z z z z (fun _ => ⟨z, z⟩) s (fun _ => kp) fun f => oP z <| nQ <| ai <| sR <| oP z <| nQ <| an <| CW.at (fx (fun (d : List Int) (a : Int) => St w g [W (ae eI 3) [f] d [S (U ⟨f, 0, N⟩) c.length c.length]]) (fun d a => [(0, S a_0 p0.length c_0), (3, S (U ⟨f, 0, N⟩) c.length c.length), (4, I J a)]) (fun kk => fun d a => jY p0 kk d a = U r) (fun _ _ H => ?_) (fun A m d a H => ?_) aK (c) (0) (H)) (ss [0] z z) (sb z)
 ·unfold jY at H
  exact absurd H (by simp)
 ·unfold jY at H
  refine ai <| sR <| aa [.p, .p, .lenS 69 3 ce, .p] z <| nQ <| cI H z (fun H => ?_) (fun H => ?_)
  ·exact aj <| ao <| ai <| an <| aJ <| aa [.p, .p, .p, .p] z <| bE H fun t h H => bO (e := eI) (xs := p0) (j := a) z z z z z ce ty3 z (ab l) h (by rw [Nat.mul_one]) <| o1 z (aF z z ty3 (cq (ab l) h)) <| bE H fun x k H => bO (e := eI) (xs := d) (j := a) z z z z z ce ty3 z (aY (e := ae eI 3) (r := 0) z) k (by rw [Nat.mul_one]) <| qI (i := 0) (j := a) z z z z z z ty3 z k (fun _ => z) kp <| aE <| cx <| ao <| aJ <| aa [.p, .p, .p] z <| aE <| cz (RW.at (m ((d.set a.toNat t)) (J.wrap (a + 1)) (H)) (ss [0] z z) (sb z))
  ·exact bb <| aw <| ay <| ax <| ao <| sR <| oPP z <| nT <| ca (rs := [.tmp 2]) (vs := [S (U ⟨f, 0, N⟩) c.length c.length]) z ⟨z, Y⟩ (fun w' hw' => by
    obtain rfl := ak H
    exact ⟨_, z, (U ⟨f, 0, N⟩), c.length, c.length, [f], z, hw'.sel [0] z z⟩)
theorem rJ (w : World) {g : List Nat} {p0 : List (List UInt8)} {a_0 : Option Addr} {n_0 c_0 : Nat} {r : List (List UInt8)} (H : jZ p0 = U r) (HS : St w g [] w) (l : (ae (cy) 9).rd w g p0 [S a_0 n_0 c_0]) :
    Calls Tryz.prog 93 #[S a_0 n_0 c_0] w (fun en w' => ∃ v, en = .returned v ∧ ∃ (o : Option Addr), ∃ (q : Nat), ∃ (c0 : Nat), ∃ (x : List Nat), v = S o q c0 ∧ St w g [W (ae (cy) 9) x r [S o q c0]] w') := by
 obtain rfl := eb l
 unfold jZ at H
 refine aq Tryz.func93 z Tryz.ntmps93 z (HS) <| sR <| oP z <| nR <| aa [.p, .lenS 23 9 gm] z <| bE H fun c s H => rP (e := cy) (zero := ([] : List UInt8)) z z z z z z gm ty9 z z z z (fun _ => ⟨z, z⟩) s (fun _ => kp) fun f => oP z <| nQ <| ai <| sR <| oP z <| nQ <| an <| CW.at (fx (fun (d : List (List UInt8)) (a : Int) => St w g [W (ae (cy) 9) [f] d [S (U ⟨f, 0, N⟩) c.length c.length]]) (fun d a => [(0, S a_0 p0.length c_0), (3, S (U ⟨f, 0, N⟩) c.length c.length), (4, I J a)]) (fun kk => fun d a => gW p0 kk d a = U r) (fun _ _ H => ?_) (fun D m d a H => ?_) aK (c) (0) (H)) (ss [0] z z) (sb z)
 ·unfold gW at H
  exact absurd H (by simp)
 ·unfold gW at H
  refine ai <| sR <| aa [.p, .p, .lenS 23 9 gm, .p] z <| nQ <| cI H z (fun H => ?_) (fun H => ?_)
  ·exact aj <| ao <| ai <| an <| aJ <| aa [.p, .p, .p, .p] z <| bE H fun t h H => bO (e := cy) (xs := p0) (j := a) z z z z z gm ty9 z (ab l) h (by rw [Nat.mul_one]) <| o1 z (aF z z ty9 (cq (ab l) h)) <| bE H fun C k H => bO (e := cy) (xs := d) (j := a) z z z z z gm ty9 z (fun A u => aY (e := ae (cy) 9) (r := 0) z A u) k (by rw [Nat.mul_one]) <| qI (i := 0) (j := a) z z z z z z ty9 z k (fun _ => z) kp <| aE <| cx <| ao <| aJ <| aa [.p, .p, .p] z <| aE <| cz (RW.at (m ((d.set a.toNat t)) (J.wrap (a + 1)) (H)) (ss [0] z z) (sb z))
  ·exact bb <| aw <| ay <| ax <| ao <| sR <| oPP z <| nT <| ca (rs := [.tmp 2]) (vs := [S (U ⟨f, 0, N⟩) c.length c.length]) z ⟨z, Y⟩ (fun w' hw' => by
    obtain rfl := ak H
    exact ⟨_, z, (U ⟨f, 0, N⟩), c.length, c.length, [f], z, hw'.sel [0] z z⟩)
theorem zT (w : World) {k : List Nat} {p0 : ch} {o : List Value} {r : aB} (H : nk p0 = U r) (HS : St w k [] w) (M : (fJ).rd w k p0 o) :
    Calls Tryz.prog 128 #[.agg o.toArray] w (fun en w' => ∃ v, en = .returned v ∧ ∃ (u : Option Addr), ∃ (x : Nat), ∃ (c0 : Nat), ∃ (P : List Nat), ∃ (A : Option Addr), ∃ (C : Nat), ∃ (c1 : Nat), ∃ (Q : List Nat), v = .agg #[vS r.E_, S u x c0, S A C c1] ∧ St w k [W (ae eI 3) P r.z_ [S u x c0], W (ae (cy) 9) Q r.I_ [S A C c1]] w') := by
 obtain ⟨V, X, Z, rfl, D, p, q⟩ := nX M
 obtain rfl := D
 obtain ⟨a2, a3, rfl⟩ := ah p
 obtain ⟨a4, a5, rfl⟩ := ah q
 unfold nk at H
 refine aq Tryz.func128 z Tryz.ntmps128 z (HS) <| sR <| ob _ z fun a6 => bL z z z z ed (fun _ => kp) fun a7 => nR <| bL z z z z ed (fun _ => kp) fun a8 => nR <| aa [.fa 188 0 0 GP] z <| o1 z (r1 0 0 z ty9 z) <| aa [.fa 111 0 0 me] z <| sC 0 [vS p0.E_] [_, _, _] 2 z ty9 z <| nR <| aa [.fa 188 1 1 Hl] z <| o1 z (r1 1 0 z bW z) <| bE H fun c E H => aC z IQ z z z z (fun j a => lE j E (a.carve [] z z) (ab p j a)) fun a9 j R a s => ?_
 obtain ⟨d, b0, e, F, rfl, l⟩ := s
 obtain rfl := aI (i := 0) l z
 refine ⟨St w k [_, _, _, _], a.comp [] z z l, fun _ _ => Y, ?_⟩
 refine aa [.fa 111 1 1 gn] z <| sC 1 [S d c.length e] [_, _, _] 2 z bW z <| nR <| aa [.fa 188 2 2 Gt] z <| o1 z (r1 2 0 z lr z) <| bE H fun f G H => aC z Nx z z z z (fun j a => rJ j G (a.carve [] z z) (ab q j a)) fun b1 j R a t => ?_
 obtain ⟨g, b2, h, L, rfl, m⟩ := t
 obtain rfl := aI (i := 0) m z
 refine ⟨St w k [_, _, _, _, _], a.comp [] z z m, fun _ _ => Y, ?_⟩
 exact aa [.fa 111 2 2 ks] z <| sC 2 [S g f.length h] [_, _, _] 2 z lr z <| nR <| o1 z (rx 0 2 _ z ed z) <| sC 0 [vS p0.E_, S d c.length e, S g f.length h] [_, _, _] 1 z ed z <| nT <| ca (rs := [.cell 2 111]) (vs := [.agg #[vS p0.E_, S d c.length e, S g f.length h]]) z ⟨⟨_, [vS p0.E_, S d c.length e, S g f.length h], _, _, _, z, ed, (jI (T := 111) 0 (mt (i := 1) z) z), z, z⟩, Y⟩ (fun w' hw' => by
  obtain rfl := ak H
  exact ⟨_, z, d, c.length, e, F, g, f.length, h, L, z, hw'.sel [3, 4] z z⟩)
theorem zl (w : World) {j : List Nat} {p0 : List ch} {a_0 : Option Addr} {n_0 c_0 : Nat} {r : List aB} (H : oN p0 = U r) (HS : St w j [] w) (g0 : (ae (fJ) 188).rd w j p0 [S a_0 n_0 c_0]) :
    Calls Tryz.prog 92 #[S a_0 n_0 c_0] w (fun en w' => ∃ v, en = .returned v ∧ ∃ (a0 : Option Addr), ∃ (n0 : Nat), ∃ (c0 : Nat), ∃ (F0 : List Nat), v = S a0 n0 c0 ∧ St w j [W (ae (bj) 111) F0 r [S a0 n0 c0]] w') := by
 obtain rfl := eb g0
 unfold oN at H
 refine aq Tryz.func92 z Tryz.ntmps92 z (HS) <| sR <| oP z <| nR <| aa [.p, .lenS 22 188 Ih] z <| bE H fun c b0 H => rP (e := bj) (zero := ((aB.mk [] [] []) : aB)) z z z z z z kr ed z z z z (fun _ => (tI (x := (aB.mk [] [] [])) (⟨z, z⟩ : (cy).own _ [] ([] : List UInt8) _) ((.inl ⟨z, z, z⟩) : (ae eI 3).own _ [] ([] : List Int) _) ((.inl ⟨z, z, z⟩) : (ae (cy) 9).own _ [] ([] : List (List UInt8)) _))) b0 (fun _ => kp) fun m => oP z <| nQ <| ai <| sR <| oP z <| nQ <| an <| CW.at (uj (fun (k : List aB) (o : List Nat) (f : Int) => St w j [W (ae (bj) 111) o k [S (U ⟨m, 0, N⟩) c.length c.length]]) (fun k o f => [(0, S a_0 p0.length c_0), (3, S (U ⟨m, 0, N⟩) c.length c.length), (4, I J f)]) (fun kk => fun k o f => jp p0 kk k f = U r) (fun _ _ _ H => ?_) (fun k1 L k o f H => ?_) aK (c) ([m]) (0) (H)) (ss [0] z z) (sb z)
 ·unfold jp at H
  exact absurd H (by simp)
 ·unfold jp at H
  refine ai <| sR <| aa [.p, .p, .lenS 22 188 Ih, .p] z <| nQ <| cI H z (fun H => ?_) (fun H => ?_)
  ·refine aj <| ao <| ai <| an <| aJ <| aa [.p, .p, .p, .p] z <| bE H fun s M H => bQ z z z z z Ih GJ z g0 M fun b2 b3 E F => ?_
   obtain ⟨b4, b5, b6, rfl, P, A, C⟩ := nX E
   obtain rfl := P
   obtain ⟨Q, R, rfl⟩ := ah A
   obtain ⟨T, V, rfl⟩ := ah C
   refine o1 z (cu (cs := [vS s.E_, S Q s.z_.length R, S T s.I_.length V]) z z GJ (bB bor F) z) <| bE H fun g X H => aC z OX z z z z (fun d a => zT d X (a.carve [] z z) (uq z (ab A d a) (ab C d a))) fun b7 d w2 a G => ?_
   obtain ⟨Z, b8, a1, b9, a2, c1, a3, c2, rfl, l⟩ := G
   obtain rfl := aI (i := 0) l z
   obtain rfl := aI (i := 1) l z
   refine ⟨St w j [_, _, _], a.comp [] z z l, fun _ _ => Y, ?_⟩
   refine bE H fun c3 D H => sd z (fun d a => foc (r := 0) a z D) fun c4 c5 c6 c7 => el z (fun d a => a.1) fun a4 => ?_
   obtain ⟨t, u⟩ := a4
   refine mo (C' := St w j [_, _, _, _, _]) z (fun d a => a.2) <| jW z (fun d a => ux (i := 4) a z) fun c8 c9 d0 => jW z (fun _ h => h) fun d1 d2 d3 => el z (fun d a => a.1) fun a5 => ?_
   subst a5
   refine mo (C' := St w j [_, _, _, _, _, _, _]) z (fun d a => a.2) <| fR z z z z z kr ed z (fG (p := 3) z) u t (cE D).1 <| ff (off := 0) [vS g.E_, S Z g.z_.length a1, S a2 g.I_.length a3] (p := 3) (c' := [_, _, _]) z z z z z (by first | rfl | simp only [dd, dK, cR]) z ed z z (al z) z z z kp <| aE <| cx <| ao <| CW.weak (C' := St w j [_, _, _, _, _]) ?_ (ss [1, 2, 3, 5, 6] z z)
   exact aJ <| aa [.p, .p, .p] z <| aE <| qq (fun d a => ud (x0 := g.E_) [0, 1] a z z) fun d4 => ml (C' := St w j [_, _, _, _, _, _]) (fun _ h => h) <| qq (fun d a => unf (p := 2) (q := 5) a z z z u t) fun a6 => ml (C' := St w j [_, _, _, _, _, _, _]) (fun _ h => h) <| cz (RW.at (L ((k.set f.toNat g)) (a6) (J.wrap (f + 1)) (H)) (ss [6] z z) (sb z))
  ·exact bb <| aw <| ay <| ax <| ao <| sR <| oPP z <| nT <| ca (rs := [.tmp 2]) (vs := [S (U ⟨m, 0, N⟩) c.length c.length]) z ⟨z, Y⟩ (fun w' hw' => by
    obtain rfl := ak H
    exact ⟨_, z, (U ⟨m, 0, N⟩), c.length, c.length, o, z, hw'.sel [0] z z⟩)
theorem ya (w : World) {k : List Nat} {p0 : db} {o : List Value} {r : am} (H : mx p0 = U r) (HS : St w k [] w) (L : (fX).rd w k p0 o) :
    Calls Tryz.prog 59 #[.agg o.toArray] w (fun en w' => ∃ v, en = .returned v ∧ ∃ (u : Option Addr), ∃ (x : Nat), ∃ (c0 : Nat), ∃ (M : List Nat), ∃ (A : Option Addr), ∃ (C : Nat), ∃ (c1 : Nat), ∃ (P : List Nat), v = .agg #[S u x c0, S A C c1] ∧ St w k [W (ae (bj) 111) M r.d_ [S u x c0], W (ae (cy) 9) P r.m_ [S A C c1]] w') := by
 obtain ⟨R, V, rfl, p, q⟩ := gp L
 obtain ⟨X, Z, rfl⟩ := ah p
 obtain ⟨a2, a3, rfl⟩ := ah q
 unfold mx at H
 refine aq Tryz.func59 z Tryz.ntmps59 z (HS) <| sR <| ob _ z fun a4 => bL z z z z ja (fun _ => kp) fun a5 => nR <| bL z z z z ja (fun _ => kp) fun a6 => nR <| aa [.fa 25 0 0 JG] z <| o1 z (r1 0 0 z NR z) <| bE H fun c D H => aC z Qh z z z z (fun j a => zl j D (a.carve [] z z) (ab p j a)) fun a7 j Q a s => ?_
 obtain ⟨d, a8, e, E, rfl, l⟩ := s
 obtain rfl := aI (i := 0) l z
 refine ⟨St w k [_, _, _, _], a.comp [] z z l, fun _ _ => Y, ?_⟩
 refine aa [.fa 44 0 0 fS] z <| sC 0 [S d c.length e] [_, _] 2 z nP z <| nR <| aa [.fa 25 1 1 IE] z <| o1 z (r1 1 0 z lr z) <| bE H fun f F H => aC z Nx z z z z (fun j a => rJ j F (a.carve [] z z) (ab q j a)) fun a9 j Q a t => ?_
 obtain ⟨g, b0, h, G, rfl, m⟩ := t
 obtain rfl := aI (i := 0) m z
 refine ⟨St w k [_, _, _, _, _], a.comp [] z z m, fun _ _ => Y, ?_⟩
 exact aa [.fa 44 1 1 lN] z <| sC 1 [S g f.length h] [_, _] 2 z lr z <| nR <| o1 z (rx 0 2 _ z ja z) <| sC 0 [S d c.length e, S g f.length h] [_, _] 1 z ja z <| nT <| ca (rs := [.cell 2 44]) (vs := [.agg #[S d c.length e, S g f.length h]]) z ⟨⟨_, [S d c.length e, S g f.length h], _, _, _, z, ja, (jI (T := 44) 0 (mt (i := 1) z) z), z, z⟩, Y⟩ (fun w' hw' => by
  obtain rfl := ak H
  exact ⟨_, z, d, c.length, e, E, g, f.length, h, G, z, hw'.sel [3, 4] z z⟩)
theorem zY (w : World) {p0 : ii} {r : cO} (H : pE p0 = U r)   :
    Calls Tryz.prog 60 #[.agg #[I J p0.L_, I J p0.K_, I J p0.M_, I J p0.f_, I J p0.b_, I J p0.G_, B p0.P_]] w (fun en w' => en = .returned (.agg #[I J r.L_, I J r.K_, I J r.M_, I J r.f_, I J r.b_, I J r.G_, B r.P_]) ∧ Ext [] w w') := by
 unfold pE at H
 refine aq Tryz.func60 z Tryz.ntmps60 z (St.init w []) <| sR <| ob _ z fun a => bL z z z z ry (fun _ => kp) fun c => nR <| bL z z z z ry (fun _ => kp) fun d => nR <| aa [.fa 27 0 0 Mu] z <| o1 z (r1 0 0 z ty3 z) <| aa [.fa 45 0 0 vt] z <| sC 0 [I J p0.L_] [_, _, _, _, _, _, _] 2 z ty3 z <| nR <| aa [.fa 27 1 1 MK] z <| o1 z (r1 1 0 z ty3 z) <| aa [.fa 45 1 1 vE] z <| sC 1 [I J p0.K_] [_, _, _, _, _, _, _] 2 z ty3 z <| nR <| aa [.fa 27 2 2 LU] z <| o1 z (r1 2 0 z ty3 z) <| aa [.fa 45 2 2 vw] z <| sC 2 [I J p0.M_] [_, _, _, _, _, _, _] 2 z ty3 z <| nR <| aa [.fa 27 3 3 MI] z <| o1 z (r1 3 0 z ty3 z) <| ?_
 refine aa [.fa 45 3 3 tu] z <| sC 3 [I J p0.f_] [_, _, _, _, _, _, _] 2 z ty3 z <| nR <| aa [.fa 27 4 4 LX] z <| o1 z (r1 4 0 z ty3 z) <| aa [.fa 45 4 4 tx] z <| sC 4 [I J p0.b_] [_, _, _, _, _, _, _] 2 z ty3 z <| nR <| aa [.fa 27 5 5 Mc] z <| o1 z (r1 5 0 z ty3 z) <| aa [.fa 45 5 5 tl] z <| sC 5 [I J p0.G_] [_, _, _, _, _, _, _] 2 z ty3 z <| nQ <| ai <| CW.weak (C' := St w [] [_, _, _]) ?_ (ss [0, 1, 2] z z)
 exact aJ <| aa [.fa 27 6 6 MT] z <| o1 z (r1 6 0 z ty4 z) <| aa [.fa 45 6 6 Aw] z <| sC 6 [B p0.P_] [_, _, _, _, _, _, _] 2 z ty4 z <| nR <| o1 z (rx 0 2 _ z ry z) <| sC 0 [I J p0.L_, I J p0.K_, I J p0.M_, I J p0.f_, I J p0.b_, I J p0.G_, B p0.P_] [_, _, _, _, _, _, _] 1 z ry z <| nT <| ca (rs := [.cell 2 45]) (vs := [.agg #[I J p0.L_, I J p0.K_, I J p0.M_, I J p0.f_, I J p0.b_, I J p0.G_, B p0.P_]]) z ⟨⟨_, [I J p0.L_, I J p0.K_, I J p0.M_, I J p0.f_, I J p0.b_, I J p0.G_, B p0.P_], _, _, _, z, ry, (jI (T := 45) 0 (mt (i := 1) z) z), z, z⟩, Y⟩ (fun w' hw' => by
  obtain rfl := ak H
  exact ⟨z, hw'.ext⟩)
theorem Ap (w : World) {l : List Nat} {p0 : eG} {m : List Value} {r : bi} (H : pQ p0 = U r) (HS : St w l [] w) (V : (iC).rd w l p0 m) :
    Calls Tryz.prog 25 #[.agg m.toArray] w (fun en w' => ∃ v, en = .returned v ∧ ∃ (s : Option Addr), ∃ (t : Nat), ∃ (c0 : Nat), ∃ (X : List Nat), ∃ (u : Option Addr), ∃ (x : Nat), ∃ (c1 : Nat), ∃ (Z : List Nat), v = .agg #[S s t c0, S u x c1, I J r.c_.L_, I J r.c_.K_, I J r.c_.M_, I J r.c_.f_, I J r.c_.b_, I J r.c_.G_, B r.c_.P_, I J r.j_, I J r.N_, I J r.O_, I J r.s_, I J r.t_] ∧ St w l [W (ae (bj) 111) X r.p_.d_ [S s t c0], W (ae (cy) 9) Z r.p_.m_ [S u x c1]] w') := by
 obtain ⟨a2, a3, a4, a5, a6, a7, a8, rfl, A, C, D, E, F, G, L⟩ := lA V
 obtain ⟨a9, b0, rfl, o, p⟩ := gp A
 obtain ⟨b1, b2, rfl⟩ := ah o
 obtain ⟨b3, b4, rfl⟩ := ah p
 obtain rfl := C
 obtain rfl := D
 obtain rfl := E
 obtain rfl := F
 obtain rfl := G
 obtain rfl := L
 unfold pQ at H
 refine aq Tryz.func25 z Tryz.ntmps25 z (HS) <| sR <| ob _ z fun b5 => bL z z z z sx (fun _ => kp) fun b6 => nR <| bL z z z z sx (fun _ => kp) fun b7 => nR <| aa [.fa 29 0 0 JQ] z <| o1 z (rx 0 0 _ z OB z) <| bE H fun c M H => aC z PJ z z z z (fun k d => ya k M (d.carve [] z z) (fc (ab o k d) (ab p k d))) fun b8 k w2 d q => ?_
 obtain ⟨e, b9, f, P, g, c2, h, Q, rfl, j⟩ := q
 obtain rfl := aI (i := 0) j z
 obtain rfl := aI (i := 1) j z
 refine ⟨St w l [_, _, _, _, _], d.comp [] z z j, fun _ _ => Y, ?_⟩
 refine aa [.fa 47 0 0 mr] z <| sC 0 [S e c.d_.length f, S g c.m_.length h] [_, _, _, _, _, _, _, _, _, _, _, _, _, _] 2 z ja z <| nR <| aa [.fa 29 1 2 MB] z <| o1 z (rx 2 0 _ z Qk z) <| bE H fun a R H => oq z (qc z Px (fun k d => zY k (p0 := p0.c_) R)) tt2 <| aa [.fa 47 1 2 ru] z <| sC 2 [I J a.L_, I J a.K_, I J a.M_, I J a.f_, I J a.b_, I J a.G_, B a.P_] [_, _, _, _, _, _, _, _, _, _, _, _, _, _] 2 z ry z <| nR <| aa [.fa 29 2 9 MM] z <| o1 z (r1 9 0 z ty3 z) <| aa [.fa 47 2 9 ta] z <| sC 9 [I J p0.j_] [_, _, _, _, _, _, _, _, _, _, _, _, _, _] 2 z ty3 z <| nR <| aa [.fa 29 3 10 MU] z <| o1 z (r1 10 0 z ty3 z) <| aa [.fa 47 3 10 vJ] z <| sC 10 [I J p0.N_] [_, _, _, _, _, _, _, _, _, _, _, _, _, _] 2 z ty3 z <| nR <| aa [.fa 29 4 11 MR] z <| o1 z (r1 11 0 z ty3 z) <| aa [.fa 47 4 11 vR] z <| sC 11 [I J p0.O_] [_, _, _, _, _, _, _, _, _, _, _, _, _, _] 2 z ty3 z <| nR <| ?_
 refine aa [.fa 29 5 12 ML] z <| o1 z (r1 12 0 z ty3 z) <| aa [.fa 47 5 12 tr] z <| sC 12 [I J p0.s_] [_, _, _, _, _, _, _, _, _, _, _, _, _, _] 2 z ty3 z <| nQ <| ai <| CW.weak (C' := St w l [_, _, _, _, _]) ?_ (ss [0, 1, 2, 3, 4] z z)
 exact aJ <| aa [.fa 29 6 13 Mt] z <| o1 z (r1 13 0 z ty3 z) <| aa [.fa 47 6 13 sP] z <| sC 13 [I J p0.t_] [_, _, _, _, _, _, _, _, _, _, _, _, _, _] 2 z ty3 z <| nR <| o1 z (rx 0 2 _ z sx z) <| sC 0 [S e c.d_.length f, S g c.m_.length h, I J a.L_, I J a.K_, I J a.M_, I J a.f_, I J a.b_, I J a.G_, B a.P_, I J p0.j_, I J p0.N_, I J p0.O_, I J p0.s_, I J p0.t_] [_, _, _, _, _, _, _, _, _, _, _, _, _, _] 1 z sx z <| nT <| ca (rs := [.cell 2 47]) (vs := [.agg #[S e c.d_.length f, S g c.m_.length h, I J a.L_, I J a.K_, I J a.M_, I J a.f_, I J a.b_, I J a.G_, B a.P_, I J p0.j_, I J p0.N_, I J p0.O_, I J p0.s_, I J p0.t_]]) z ⟨⟨_, [S e c.d_.length f, S g c.m_.length h, I J a.L_, I J a.K_, I J a.M_, I J a.f_, I J a.b_, I J a.G_, B a.P_, I J p0.j_, I J p0.N_, I J p0.O_, I J p0.s_, I J p0.t_], _, _, _, z, sx, (jI (T := 47) 0 (mt (i := 1) z) z), z, z⟩, Y⟩ (fun w' hw' => by
  obtain rfl := ak H
  exact ⟨_, z, e, c.d_.length, f, P, g, c.m_.length, h, Q, z, hw'.sel [3, 4] z z⟩)
theorem AC (w : World) {p0 : dD} {r : bC} (H : pT p0 = U r)   :
    Calls Tryz.prog 193 #[.agg #[I J p0.q_, I J p0.u_]] w (fun en w' => en = .returned (.agg #[I J r.q_, I J r.u_]) ∧ Ext [] w w') := by
 unfold pT at H
 exact aq Tryz.func193 z Tryz.ntmps193 z (St.init w []) <| sR <| ob _ z fun a => bL z z z z oI (fun _ => kp) fun c => nR <| bL z z z z oI (fun _ => kp) fun d => nR <| aa [.fa 222 0 0 KP] z <| o1 z (r1 0 0 z ty3 z) <| aa [.fa 117 0 0 ky] z <| sC 0 [I J p0.q_] [_, _] 2 z ty3 z <| nR <| aa [.fa 222 1 1 Ky] z <| o1 z (r1 1 0 z ty3 z) <| aa [.fa 117 1 1 mb] z <| sC 1 [I J p0.u_] [_, _] 2 z ty3 z <| nR <| o1 z (rx 0 2 _ z oI z) <| sC 0 [I J p0.q_, I J p0.u_] [_, _] 1 z oI z <| nT <| ca (rs := [.cell 2 117]) (vs := [.agg #[I J p0.q_, I J p0.u_]]) z ⟨⟨_, [I J p0.q_, I J p0.u_], _, _, _, z, oI, (jI (T := 117) 0 (mt (i := 1) z) z), z, z⟩, Y⟩ (fun w' hw' => by
  obtain rfl := ak H
  exact ⟨z, hw'.ext⟩)
theorem qe (w : World) {j : List Nat} {p0 : List (List Int)} {a_0 : Option Addr} {n_0 c_0 : Nat} {r : List (List Int)} (H : kv p0 = U r) (HS : St w j [] w) (L : (ae (ae eI 3) 69).rd w j p0 [S a_0 n_0 c_0]) :
    Calls Tryz.prog 62 #[S a_0 n_0 c_0] w (fun en w' => ∃ v, en = .returned v ∧ ∃ (M : Option Addr), ∃ (P : Nat), ∃ (c0 : Nat), ∃ (Z : List Nat), v = S M P c0 ∧ St w j [W (ae (ae eI 3) 69) Z r [S M P c0]] w') := by
 obtain rfl := eb L
 unfold kv at H
 refine aq Tryz.func62 z Tryz.ntmps62 z (HS) <| sR <| oP z <| nR <| aa [.p, .lenS 33 69 eK] z <| bE H fun c Q H => rP (e := ae eI 3) (zero := ([] : List Int)) z z z z z z eK bW z z z z (fun _ => (.inl ⟨z, z, z⟩)) Q (fun _ => kp) fun k => oP z <| nQ <| ai <| sR <| oP z <| nQ <| an <| CW.at (uj (fun (g : List (List Int)) (l : List Nat) (d : Int) => St w j [W (ae (ae eI 3) 69) l g [S (U ⟨k, 0, N⟩) c.length c.length]]) (fun g l d => [(0, S a_0 p0.length c_0), (3, S (U ⟨k, 0, N⟩) c.length c.length), (4, I J d)]) (fun kk => fun g l d => jn p0 kk g d = U r) (fun _ _ _ H => ?_) (fun k1 A g l d H => ?_) aK (c) ([k]) (0) (H)) (ss [0] z z) (sb z)
 ·unfold jn at H
  exact absurd H (by simp)
 ·unfold jn at H
  refine ai <| sR <| aa [.p, .p, .lenS 33 69 eK, .p] z <| nQ <| cI H z (fun H => ?_) (fun H => ?_)
  ·refine aj <| ao <| ai <| an <| aJ <| aa [.p, .p, .p, .p] z <| bE H fun a7 R H => bQ z z z z z eK bW z L R fun a8 a9 s C => ?_
   obtain ⟨b0, b1, rfl⟩ := ah s
   refine o1 z (aF z z bW (bB bor C)) <| bE H fun x T H => aC z IQ z z z z (fun f a => lE f T (a.carve [] z z) (ab s f a)) fun b2 f w2 a D => ?_
   obtain ⟨V, b3, X, b4, rfl, t⟩ := D
   obtain rfl := aI (i := 0) t z
   refine ⟨St w j [_, _], a.comp [] z z t, fun _ _ => Y, ?_⟩
   refine bE H fun b5 u H => sd z (fun f a => foc (r := 0) a z u) fun a1 a2 a3 a4 => el z (fun f a => a.1) fun E => ?_
   obtain ⟨m, o⟩ := E
   refine mo (C' := St w j [_, _, _, _]) z (fun f a => a.2) <| IK z (fun f a => Jh (i := 3) a z) fun a5 a6 => el z (fun f a => a.1) fun F => ?_
   subst F
   exact mo (C' := St w j [_, _, _, _]) z (fun f a => a.2) <| fR z z z z z eK bW z (fG (p := 2) z) o m (cE u).1 <| ff (off := 0) [S V x.length X] (p := 2) (c' := [_]) z z z z z (by first | rfl | simp only [dd, dK, cR]) z bW z z (al z) z z z kp <| aE <| cx <| ao <| aJ <| aa [.p, .p, .p] z <| aE <| qq (fun f a => unf (p := 2) (q := 1) a z z z o m) fun G => ml (C' := St w j [_, _, _, _, _]) (fun _ h => h) <| cz (RW.at (A ((g.set d.toNat x)) (G) (J.wrap (d + 1)) (H)) (ss [4] z z) (sb z))
  ·exact bb <| aw <| ay <| ax <| ao <| sR <| oPP z <| nT <| ca (rs := [.tmp 2]) (vs := [S (U ⟨k, 0, N⟩) c.length c.length]) z ⟨z, Y⟩ (fun w' hw' => by
    obtain rfl := ak H
    exact ⟨_, z, (U ⟨k, 0, N⟩), c.length, c.length, l, z, hw'.sel [0] z z⟩)
theorem zd (w : World) {k : List Nat} {p0 : cr} {o : List Value} {r : aV} (H : oT p0 = U r) (HS : St w k [] w) (L : (gA).rd w k p0 o) :
    Calls Tryz.prog 194 #[.agg o.toArray] w (fun en w' => ∃ v, en = .returned v ∧ ∃ (u : Option Addr), ∃ (x : Nat), ∃ (c0 : Nat), ∃ (M : List Nat), ∃ (A : Option Addr), ∃ (C : Nat), ∃ (c1 : Nat), ∃ (P : List Nat), v = .agg #[S u x c0, S A C c1] ∧ St w k [W (ae eI 3) M r.k_ [S u x c0], W (ae (ae eI 3) 69) P r.h_ [S A C c1]] w') := by
 obtain ⟨R, V, rfl, p, q⟩ := ji L
 obtain ⟨X, Z, rfl⟩ := ah p
 obtain ⟨a2, a3, rfl⟩ := ah q
 unfold oT at H
 refine aq Tryz.func194 z Tryz.ntmps194 z (HS) <| sR <| ob _ z fun a4 => bL z z z z rr (fun _ => kp) fun a5 => nR <| bL z z z z rr (fun _ => kp) fun a6 => nR <| aa [.fa 223 0 0 Hb] z <| o1 z (r1 0 0 z bW z) <| bE H fun c D H => aC z IQ z z z z (fun j a => lE j D (a.carve [] z z) (ab p j a)) fun a7 j Q a s => ?_
 obtain ⟨d, a8, e, E, rfl, l⟩ := s
 obtain rfl := aI (i := 0) l z
 refine ⟨St w k [_, _, _, _], a.comp [] z z l, fun _ _ => Y, ?_⟩
 refine aa [.fa 119 0 0 gS] z <| sC 0 [S d c.length e] [_, _] 2 z bW z <| nR <| aa [.fa 223 1 1 GN] z <| o1 z (r1 1 0 z fw z) <| bE H fun f F H => aC z MV z z z z (fun j a => qe j F (a.carve [] z z) (ab q j a)) fun a9 j Q a t => ?_
 obtain ⟨g, b0, h, G, rfl, m⟩ := t
 obtain rfl := aI (i := 0) m z
 refine ⟨St w k [_, _, _, _, _], a.comp [] z z m, fun _ _ => Y, ?_⟩
 exact aa [.fa 119 1 1 fm] z <| sC 1 [S g f.length h] [_, _] 2 z fw z <| nR <| o1 z (rx 0 2 _ z rr z) <| sC 0 [S d c.length e, S g f.length h] [_, _] 1 z rr z <| nT <| ca (rs := [.cell 2 119]) (vs := [.agg #[S d c.length e, S g f.length h]]) z ⟨⟨_, [S d c.length e, S g f.length h], _, _, _, z, rr, (jI (T := 119) 0 (mt (i := 1) z) z), z, z⟩, Y⟩ (fun w' hw' => by
  obtain rfl := ak H
  exact ⟨_, z, d, c.length, e, E, g, f.length, h, G, z, hw'.sel [3, 4] z z⟩)
theorem Au (w : World) {s : List Nat} {p0 : bN} {A : List Value} {r : au} (H : nB p0 = U r) (HS : St w s [] w) (g0 : (fN).rd w s p0 A) :
    Calls Tryz.prog 178 #[.agg A.toArray] w (fun en w' => ∃ v, en = .returned v ∧ ∃ (P : Option Addr), ∃ (Q : Nat), ∃ (c0 : Nat), ∃ (F0 : List Nat), ∃ (R : Option Addr), ∃ (V : Nat), ∃ (c1 : Nat), ∃ (F1 : List Nat), ∃ (X : Option Addr), ∃ (Z : Nat), ∃ (c2 : Nat), ∃ (F2 : List Nat), ∃ (a3 : Option Addr), ∃ (n3 : Nat), ∃ (c3 : Nat), ∃ (F3 : List Nat), v = .agg #[B r.y_, I J r.g_.q_, I J r.g_.u_, S P Q c0, I J r.C_, S R V c1, S X Z c2, I J r.D_, S a3 n3 c3, I J r.f_, I J r.x_, I J r.B_] ∧ St w s [W (ae eI 3) F0 r.r_ [S P Q c0], W (ae eI 3) F1 r.i_.k_ [S R V c1], W (ae (ae eI 3) 69) F2 r.i_.h_ [S X Z c2], W (ae eI 3) F3 r.d_ [S a3 n3 c3]] w') := by
 obtain ⟨d2, d3, d4, d5, d6, d7, d8, d9, e0, e1, rfl, a6, a7, C, a8, a9, b0, D, b1, b2, b3⟩ := ou g0
 obtain rfl := a6
 obtain rfl := a7
 obtain ⟨e2, e3, rfl⟩ := ah C
 obtain rfl := a8
 obtain ⟨e4, e5, rfl, E, F⟩ := ji a9
 obtain ⟨e6, e7, rfl⟩ := ah E
 obtain ⟨e9, f0, rfl⟩ := ah F
 obtain rfl := b0
 obtain ⟨f1, f2, rfl⟩ := ah D
 obtain rfl := b1
 obtain rfl := b2
 obtain rfl := b3
 unfold nB at H
 refine aq Tryz.func178 z Tryz.ntmps178 z (HS) <| sR <| ob _ z fun f3 => bL z z z z co (fun _ => kp) fun f4 => nR <| bL z z z z co (fun _ => kp) fun f5 => nR <| aa [.fa 225 0 0 Kd] z <| o1 z (r1 0 0 z ty4 z) <| aa [.fa 121 0 0 kz] z <| sC 0 [B p0.y_] [_, _, _, _, _, _, _, _, _, _, _, _] 2 z ty4 z <| nR <| aa [.fa 225 1 1 Kw] z <| o1 z (rx 1 0 _ z NE z) <| bE H fun e b4 H => oq z (qc z NS (fun d a => AC d (p0 := p0.g_) b4)) tt2 <| aa [.fa 121 1 1 iW] z <| sC 1 [I J e.q_, I J e.u_] [_, _, _, _, _, _, _, _, _, _, _, _] 2 z oI z <| nR <| aa [.fa 225 2 3 Hg] z <| o1 z (r1 3 0 z bW z) <| bE H fun f b5 H => aC z IQ z z z z (fun d a => lE d b5 (a.carve [] z z) (ab C d a)) fun f6 d w2 a G => ?_
 obtain ⟨g, f7, h, b7, rfl, u⟩ := G
 obtain rfl := aI (i := 0) u z
 refine ⟨St w s [_, _, _, _], a.comp [] z z u, fun _ _ => Y, ?_⟩
 refine aa [.fa 121 2 3 gf] z <| sC 3 [S g f.length h] [_, _, _, _, _, _, _, _, _, _, _, _] 2 z bW z <| nR <| aa [.fa 225 3 4 Ks] z <| o1 z (r1 4 0 z ty3 z) <| aa [.fa 121 3 4 mc] z <| sC 4 [I J p0.C_] [_, _, _, _, _, _, _, _, _, _, _, _] 2 z ty3 z <| nR <| aa [.fa 225 4 5 GR] z <| o1 z (rx 5 0 _ z LS z) <| bE H fun c b8 H => aC z OR z z z z (fun d a => zd d b8 (a.carve [] z z) (mT (ab E d a) (ab F d a))) fun f8 d w2 a L => ?_
 obtain ⟨j, f9, k, b9, l, g1, m, c4, rfl, t⟩ := L
 obtain rfl := aI (i := 0) t z
 obtain rfl := aI (i := 1) t z
 refine ⟨St w s [_, _, _, _, _, _], a.comp [] z z t, fun _ _ => Y, ?_⟩
 refine aa [.fa 121 4 5 eY] z <| sC 5 [S j c.k_.length k, S l c.h_.length m] [_, _, _, _, _, _, _, _, _, _, _, _] 2 z rr z <| nR <| aa [.fa 225 5 7 Le] z <| o1 z (r1 7 0 z ty3 z) <| aa [.fa 121 5 7 ln] z <| sC 7 [I J p0.D_] [_, _, _, _, _, _, _, _, _, _, _, _] 2 z ty3 z <| nQ <| ai <| CW.weak (C' := St w s [_, _, _, _, _, _]) ?_ (ss [0, 1, 2, 3, 4, 5] z z)
 refine aJ <| aa [.fa 225 6 8 Gx] z <| o1 z (r1 8 0 z bW z) <| bE H fun o c5 H => aC z IQ z z z z (fun d a => lE d c5 (a.carve [] z z) (ab D d a)) fun g2 d w2 a M => ?_
 obtain ⟨p, g3, q, c6, rfl, x⟩ := M
 obtain rfl := aI (i := 0) x z
 refine ⟨St w s [_, _, _, _, _, _, _], a.comp [] z z x, fun _ _ => Y, ?_⟩
 exact aa [.fa 121 6 8 mX] z <| sC 8 [S p o.length q] [_, _, _, _, _, _, _, _, _, _, _, _] 2 z bW z <| nR <| aa [.fa 225 7 9 Ka] z <| o1 z (r1 9 0 z ty3 z) <| aa [.fa 121 7 9 gB] z <| sC 9 [I J p0.f_] [_, _, _, _, _, _, _, _, _, _, _, _] 2 z ty3 z <| nR <| aa [.fa 225 8 10 Ko] z <| o1 z (r1 10 0 z ty3 z) <| aa [.fa 121 8 10 jF] z <| sC 10 [I J p0.x_] [_, _, _, _, _, _, _, _, _, _, _, _] 2 z ty3 z <| nR <| aa [.fa 225 9 11 KY] z <| o1 z (r1 11 0 z ty3 z) <| aa [.fa 121 9 11 jy] z <| sC 11 [I J p0.B_] [_, _, _, _, _, _, _, _, _, _, _, _] 2 z ty3 z <| nR <| o1 z (rx 0 2 _ z co z) <| sC 0 [B p0.y_, I J e.q_, I J e.u_, S g f.length h, I J p0.C_, S j c.k_.length k, S l c.h_.length m, I J p0.D_, S p o.length q, I J p0.f_, I J p0.x_, I J p0.B_] [_, _, _, _, _, _, _, _, _, _, _, _] 1 z co z <| nT <| ca (rs := [.cell 2 121]) (vs := [.agg #[B p0.y_, I J e.q_, I J e.u_, S g f.length h, I J p0.C_, S j c.k_.length k, S l c.h_.length m, I J p0.D_, S p o.length q, I J p0.f_, I J p0.x_, I J p0.B_]]) z ⟨⟨_, [B p0.y_, I J e.q_, I J e.u_, S g f.length h, I J p0.C_, S j c.k_.length k, S l c.h_.length m, I J p0.D_, S p o.length q, I J p0.f_, I J p0.x_, I J p0.B_], _, _, _, z, co, (jI (T := 121) 0 (mt (i := 1) z) z), z, z⟩, Y⟩ (fun w' hw' => by
  obtain rfl := ak H
  exact ⟨_, z, g, f.length, h, b7, j, c.k_.length, k, b9, l, c.h_.length, m, c4, p, o.length, q, c6, z, hw'.sel [3, 4, 5, 6] z z⟩)
theorem zf (w : World) {m : List Nat} {p0 : List bN} {a_0 : Option Addr} {n_0 c_0 : Nat} {r : List au} (H : oK p0 = U r) (HS : St w m [] w) (g0 : (ae (fN) 225).rd w m p0 [S a_0 n_0 c_0]) :
    Calls Tryz.prog 155 #[S a_0 n_0 c_0] w (fun en w' => ∃ v, en = .returned v ∧ ∃ (a0 : Option Addr), ∃ (n0 : Nat), ∃ (c0 : Nat), ∃ (F0 : List Nat), v = S a0 n0 c0 ∧ St w m [W (ae (bc) 121) F0 r [S a0 n0 c0]] w') := by
 obtain rfl := eb g0
 unfold oK at H
 refine aq Tryz.func155 z Tryz.ntmps155 z (HS) <| sR <| oP z <| nR <| aa [.p, .lenS 142 225 BQ] z <| bE H fun g c8 H => rP (e := bc) (zero := ((au.mk n (bC.mk 0 0) [] 0 (aV.mk [] []) 0 [] 0 0 0) : au)) z z z z z z fT co z z z z (fun _ => (tH (x := (au.mk n (bC.mk 0 0) [] 0 (aV.mk [] []) 0 [] 0 0 0)) (⟨z, z⟩ : (gN).own _ [] (n : Bool) _) (⟨z, z⟩ : (gG).own _ [] ((bC.mk 0 0) : bC) _) ((.inl ⟨z, z, z⟩) : (ae eI 3).own _ [] ([] : List Int) _) (⟨z, z⟩ : eI.own _ [] (0 : Int) _) ((sq (x := (aV.mk [] [])) ((.inl ⟨z, z, z⟩) : (ae eI 3).own _ [] ([] : List Int) _) ((.inl ⟨z, z, z⟩) : (ae (ae eI 3) 69).own _ [] ([] : List (List Int)) _)) : (cL).own _ [] ((aV.mk [] []) : aV) _) (⟨z, z⟩ : eI.own _ [] (0 : Int) _) ((.inl ⟨z, z, z⟩) : (ae eI 3).own _ [] ([] : List Int) _) (⟨z, z⟩ : eI.own _ [] (0 : Int) _) (⟨z, z⟩ : eI.own _ [] (0 : Int) _) (⟨z, z⟩ : eI.own _ [] (0 : Int) _))) c8 (fun _ => kp) fun s => oP z <| nQ <| ai <| sR <| oP z <| nQ <| an <| CW.at (uj (fun (o : List au) (l : List Nat) (f : Int) => St w m [W (ae (bc) 121) l o [S (U ⟨s, 0, N⟩) g.length g.length]]) (fun o l f => [(0, S a_0 p0.length c_0), (3, S (U ⟨s, 0, N⟩) g.length g.length), (4, I J f)]) (fun kk => fun o l f => jo p0 kk o f = U r) (fun _ _ _ H => ?_) (fun k1 P o l f H => ?_) aK (g) ([s]) (0) (H)) (ss [0] z z) (sb z)
 ·unfold jo at H
  exact absurd H (by simp)
 ·unfold jo at H
  refine ai <| sR <| aa [.p, .p, .lenS 142 225 BQ, .p] z <| nQ <| cI H z (fun H => ?_) (fun H => ?_)
  ·refine aj <| ao <| ai <| an <| aJ <| aa [.p, .p, .p, .p] z <| bE H fun d Q H => bQ z z z z z BQ GY z g0 Q fun d0 d1 G L => ?_
   obtain ⟨d2, d3, d4, d5, d6, d7, d8, d9, e0, e1, rfl, R, T, A, V, X, Z, C, a1, a2, a3⟩ := ou G
   obtain rfl := R
   obtain rfl := T
   obtain ⟨a4, a5, rfl⟩ := ah A
   obtain rfl := V
   obtain ⟨e2, e3, rfl, D, E⟩ := ji X
   obtain ⟨a6, a7, rfl⟩ := ah D
   obtain ⟨a8, a9, rfl⟩ := ah E
   obtain rfl := Z
   obtain ⟨b0, b1, rfl⟩ := ah C
   obtain rfl := a1
   obtain rfl := a2
   obtain rfl := a3
   refine o1 z (cu (cs := [B d.y_, I J d.g_.q_, I J d.g_.u_, S a4 d.r_.length a5, I J d.C_, S a6 d.i_.k_.length a7, S a8 d.i_.h_.length a9, I J d.D_, S b0 d.d_.length b1, I J d.f_, I J d.x_, I J d.B_]) z z GY (bB bor L) z) <| bE H fun a b2 H => aC z NJ z z z z (fun j c => Au j b2 (c.carve [] z z) (uh z z (ab A j c) z (mT (ab D j c) (ab E j c)) z (ab C j c) z z z)) fun e4 j w2 c M => ?_
   obtain ⟨b3, e5, b4, e6, b5, e7, b6, e9, b7, f0, b8, f1, b9, f2, c1, f3, rfl, k⟩ := M
   obtain rfl := aI (i := 0) k z
   obtain rfl := aI (i := 1) k z
   obtain rfl := aI (i := 2) k z
   obtain rfl := aI (i := 3) k z
   refine ⟨St w m [_, _, _, _, _], c.comp [] z z k, fun _ _ => Y, ?_⟩
   refine bE H fun f4 F H => sd z (fun j c => foc (r := 0) c z F) fun f5 f6 f7 f8 => el z (fun j c => c.1) fun c2 => ?_
   obtain ⟨t, u⟩ := c2
   refine mo (C' := St w m [_, _, _, _, _, _, _]) z (fun j c => c.2) <| jW z (fun j c => uy (i := 6) c z) fun f9 g1 g2 => jW z (fun _ h => h) fun g3 g4 g5 => jW z (fun _ h => h) fun g6 g7 g8 => jW z (fun _ h => h) fun g9 h0 h1 => el z (fun j c => c.1) fun c3 => ?_
   subst c3
   refine mo (C' := St w m [_, _, _, _, _, _, _, _, _, _, _]) z (fun j c => c.2) <| fR z z z z z fT co z (fG (p := 5) z) u t (cE F).1 <| ff (off := 0) [B a.y_, I J a.g_.q_, I J a.g_.u_, S b3 a.r_.length b4, I J a.C_, S b5 a.i_.k_.length b6, S b7 a.i_.h_.length b8, I J a.D_, S b9 a.d_.length c1, I J a.f_, I J a.x_, I J a.B_] (p := 5) (c' := [_, _, _, _, _, _, _, _, _, _, _, _]) z z z z z (by first | rfl | simp only [dd, dK, cR]) z co z z (al z) z z z kp <| aE <| cx <| ao <| CW.weak (C' := St w m [_, _, _, _, _, _, _, _, _]) ?_ (ss [1, 2, 3, 4, 5, 7, 8, 9, 10] z z)
   exact aJ <| aa [.p, .p, .p] z <| aE <| qq (fun j c => uc (x0 := a.y_) (x1 := a.g_.q_) (x2 := a.g_.u_) (x4 := a.C_) (x7 := a.D_) (x9 := a.f_) (x10 := a.x_) (x11 := a.B_) [0, 1, 2, 3] c z z) fun h2 => ml (C' := St w m [_, _, _, _, _, _, _, _, _, _]) (fun _ h => h) <| qq (fun j c => unf (p := 4) (q := 9) c z z z u t) fun c4 => ml (C' := St w m [_, _, _, _, _, _, _, _, _, _, _]) (fun _ h => h) <| cz (RW.at (P ((o.set f.toNat a)) (c4) (J.wrap (f + 1)) (H)) (ss [10] z z) (sb z))
  ·exact bb <| aw <| ay <| ax <| ao <| sR <| oPP z <| nT <| ca (rs := [.tmp 2]) (vs := [S (U ⟨s, 0, N⟩) g.length g.length]) z ⟨z, Y⟩ (fun w' hw' => by
    obtain rfl := ak H
    exact ⟨_, z, (U ⟨s, 0, N⟩), g.length, g.length, l, z, hw'.sel [0] z z⟩)
theorem ur (w : World) {g : List Nat} {p0 : cW} {h : List Value} {r : ap} (H : nD p0 = U r) (HS : St w g [] w) (t : (eT).rd w g p0 h) :
    Calls Tryz.prog 129 #[.agg h.toArray] w (fun en w' => ∃ v, en = .returned v ∧ ∃ (m : Option Addr), ∃ (o : Nat), ∃ (c0 : Nat), ∃ (u : List Nat), v = .agg #[S m o c0, I J r.A_] ∧ St w g [W (ae (bc) 121) u r.b_ [S m o c0]] w') := by
 obtain ⟨x, A, rfl, j, p⟩ := fA t
 obtain ⟨C, D, rfl⟩ := ah j
 obtain rfl := p
 unfold nD at H
 refine aq Tryz.func129 z Tryz.ntmps129 z (HS) <| sR <| ob _ z fun E => bL z z z z ol (fun _ => kp) fun F => nR <| bL z z z z ol (fun _ => kp) fun G => nR <| aa [.fa 144 0 0 GA] z <| o1 z (r1 0 0 z Lt z) <| bE H fun a q H => aC z NI z z z z (fun k e => zf k q (e.carve [] z z) (ab j k e)) fun L k P e l => ?_
 obtain ⟨c, M, d, s, rfl, f⟩ := l
 obtain rfl := aI (i := 0) f z
 refine ⟨St w g [_, _, _, _], e.comp [] z z f, fun _ _ => Y, ?_⟩
 exact aa [.fa 73 0 0 eg] z <| sC 0 [S c a.length d] [_, _] 2 z kN z <| nR <| aa [.fa 144 1 1 KO] z <| o1 z (r1 1 0 z ty3 z) <| aa [.fa 73 1 1 nf] z <| sC 1 [I J p0.A_] [_, _] 2 z ty3 z <| nR <| o1 z (rx 0 2 _ z ol z) <| sC 0 [S c a.length d, I J p0.A_] [_, _] 1 z ol z <| nT <| ca (rs := [.cell 2 73]) (vs := [.agg #[S c a.length d, I J p0.A_]]) z ⟨⟨_, [S c a.length d, I J p0.A_], _, _, _, z, ol, (jI (T := 73) 0 (mt (i := 1) z) z), z, z⟩, Y⟩ (fun w' hw' => by
  obtain rfl := ak H
  exact ⟨_, z, c, a.length, d, s, z, hw'.sel [3] z z⟩)
theorem sk (w : World) {g : List Nat} {p0 : cc} {h : List Value} {r : aA} (H : kX p0 = U r) (HS : St w g [] w) (s : (dC).rd w g p0 h) :
    Calls Tryz.prog 156 #[.agg h.toArray] w (fun en w' => ∃ v, en = .returned v ∧ ∃ (m : Option Addr), ∃ (o : Nat), ∃ (c0 : Nat), ∃ (t : List Nat), v = .agg #[S m o c0] ∧ St w g [W (ae (ae eI 3) 69) t r.o_ [S m o c0]] w') := by
 obtain ⟨u, rfl, j⟩ := cT s
 obtain ⟨x, A, rfl⟩ := ah j
 unfold kX at H
 refine aq Tryz.func156 z Tryz.ntmps156 z (HS) <| sR <| ob _ z fun C => bL z z z z sM (fun _ => kp) fun D => nR <| bL z z z z sM (fun _ => kp) fun E => nR <| aa [.fa 145 0 0 Hk] z <| o1 z (r1 0 0 z fw z) <| bE H fun a p H => aC z MV z z z z (fun k e => qe k p (e.carve [] z z) (ab j k e)) fun F k L e l => ?_
 obtain ⟨c, G, d, q, rfl, f⟩ := l
 obtain rfl := aI (i := 0) f z
 refine ⟨St w g [_, _, _, _], e.comp [] z z f, fun _ _ => Y, ?_⟩
 exact aa [.fa 75 0 0 lu] z <| sC 0 [S c a.length d] [_] 2 z fw z <| nR <| o1 z (rx 0 2 _ z sM z) <| sC 0 [S c a.length d] [_] 1 z sM z <| nT <| ca (rs := [.cell 2 75]) (vs := [.agg #[S c a.length d]]) z ⟨⟨_, [S c a.length d], _, _, _, z, sM, (jI (T := 75) 0 (mt (i := 1) z) z), z, z⟩, Y⟩ (fun w' hw' => by
  obtain rfl := ak H
  exact ⟨_, z, c, a.length, d, q, z, hw'.sel [3] z z⟩)
theorem AZ (w : World) {k : List Nat} {p0 : eM} {o : List Value} {r : cf} (H : qT p0 = U r) (HS : St w k [] w) (P : (jG).rd w k p0 o) :
    Calls Tryz.prog 130 #[.agg o.toArray] w (fun en w' => ∃ v, en = .returned v ∧ ∃ (u : Option Addr), ∃ (x : Nat), ∃ (c0 : Nat), ∃ (Q : List Nat), ∃ (A : Option Addr), ∃ (C : Nat), ∃ (c1 : Nat), ∃ (R : List Nat), v = .agg #[S u x c0, S A C c1] ∧ St w k [W (ae (ae eI 3) 69) Q r.s_.o_ [S u x c0], W (ae (ae eI 3) 69) R r.t_.o_ [S A C c1]] w') := by
 obtain ⟨X, Z, rfl, D, E⟩ := ld P
 obtain ⟨a2, rfl, p⟩ := cT D
 obtain ⟨a3, a4, rfl⟩ := ah p
 obtain ⟨a5, rfl, q⟩ := cT E
 obtain ⟨a6, a7, rfl⟩ := ah q
 unfold qT at H
 refine aq Tryz.func130 z Tryz.ntmps130 z (HS) <| sR <| ob _ z fun a8 => bL z z z z Bd (fun _ => kp) fun a9 => nR <| bL z z z z Bd (fun _ => kp) fun b0 => nR <| aa [.fa 147 0 0 GS] z <| o1 z (rx 0 0 _ z Gz z) <| bE H fun c F H => aC z LH z z z z (fun j a => sk j F (a.carve [] z z) (dx (ab p j a))) fun b1 j V a s => ?_
 obtain ⟨d, b2, e, G, rfl, l⟩ := s
 obtain rfl := aI (i := 0) l z
 refine ⟨St w k [_, _, _, _], a.comp [] z z l, fun _ _ => Y, ?_⟩
 refine aa [.fa 77 0 0 un] z <| sC 0 [S d c.o_.length e] [_, _] 2 z sM z <| nR <| aa [.fa 147 1 1 GG] z <| o1 z (rx 1 0 _ z Gz z) <| bE H fun f L H => aC z LH z z z z (fun j a => sk j L (a.carve [] z z) (dx (ab q j a))) fun b3 j V a t => ?_
 obtain ⟨g, b4, h, M, rfl, m⟩ := t
 obtain rfl := aI (i := 0) m z
 refine ⟨St w k [_, _, _, _, _], a.comp [] z z m, fun _ _ => Y, ?_⟩
 exact aa [.fa 77 1 1 tX] z <| sC 1 [S g f.o_.length h] [_, _] 2 z sM z <| nR <| o1 z (rx 0 2 _ z Bd z) <| sC 0 [S d c.o_.length e, S g f.o_.length h] [_, _] 1 z Bd z <| nT <| ca (rs := [.cell 2 77]) (vs := [.agg #[S d c.o_.length e, S g f.o_.length h]]) z ⟨⟨_, [S d c.o_.length e, S g f.o_.length h], _, _, _, z, Bd, (jI (T := 77) 0 (mt (i := 1) z) z), z, z⟩, Y⟩ (fun w' hw' => by
  obtain rfl := ak H
  exact ⟨_, z, d, c.o_.length, e, G, g, f.o_.length, h, M, z, hw'.sel [3, 4] z z⟩)
theorem xE (w : World) {s : List Nat} {p0 : bJ} {x : List Value} {r : az} (H : kW p0 = U r) (HS : St w s [] w) (g0 : (eu).rd w s p0 x) :
    Calls Tryz.prog 94 #[.agg x.toArray] w (fun en w' => ∃ v, en = .returned v ∧ ∃ (M : Option Addr), ∃ (P : Nat), ∃ (c0 : Nat), ∃ (F0 : List Nat), ∃ (Q : Option Addr), ∃ (R : Nat), ∃ (c1 : Nat), ∃ (F1 : List Nat), ∃ (V : Option Addr), ∃ (X : Nat), ∃ (c2 : Nat), ∃ (F2 : List Nat), ∃ (Z : Option Addr), ∃ (n3 : Nat), ∃ (c3 : Nat), ∃ (F3 : List Nat), v = .agg #[S M P c0, I J r.F_.A_, B r.S_, S Q R c1, I J r.w_.A_, S V X c2, S Z n3 c3] ∧ St w s [W (ae (bc) 121) F0 r.F_.b_ [S M P c0], W (ae (bc) 121) F1 r.w_.b_ [S Q R c1], W (ae (ae eI 3) 69) F2 r.H_.s_.o_ [S V X c2], W (ae (ae eI 3) 69) F3 r.H_.t_.o_ [S Z n3 c3]] w') := by
 obtain ⟨d0, d1, d2, d3, rfl, a5, a6, a7, a8⟩ := ma g0
 obtain ⟨d4, d5, rfl, A, a9⟩ := fA a5
 obtain ⟨d6, d7, rfl⟩ := ah A
 obtain rfl := a9
 obtain rfl := a6
 obtain ⟨d8, d9, rfl, C, b0⟩ := fA a7
 obtain ⟨e0, e1, rfl⟩ := ah C
 obtain rfl := b0
 obtain ⟨e2, e3, rfl, b1, b2⟩ := ld a8
 obtain ⟨e4, rfl, D⟩ := cT b1
 obtain ⟨e5, e6, rfl⟩ := ah D
 obtain ⟨e7, rfl, E⟩ := cT b2
 obtain ⟨e9, f0, rfl⟩ := ah E
 unfold kW at H
 refine aq Tryz.func94 z Tryz.ntmps94 z (HS) <| sR <| ob _ z fun f1 => bL z z z z mC (fun _ => kp) fun f2 => nR <| bL z z z z mC (fun _ => kp) fun f3 => nR <| aa [.fa 149 0 0 Hh] z <| o1 z (rx 0 0 _ z GB z) <| bE H fun d b3 H => aC z LC z z z z (fun f a => ur f b3 (a.carve [] z z) (gM (ab A f a) z)) fun f4 f w2 a F => ?_
 obtain ⟨g, f5, h, b5, rfl, t⟩ := F
 obtain rfl := aI (i := 0) t z
 refine ⟨St w s [_, _, _, _], a.comp [] z z t, fun _ _ => Y, ?_⟩
 refine aa [.fa 79 0 0 sX] z <| sC 0 [S g d.b_.length h, I J d.A_] [_, _, _, _, _, _, _] 2 z ol z <| nR <| aa [.fa 149 1 2 Ke] z <| o1 z (r1 2 0 z ty4 z) <| aa [.fa 79 1 2 tO] z <| sC 2 [B p0.S_] [_, _, _, _, _, _, _] 2 z ty4 z <| nR <| aa [.fa 149 2 3 Hi] z <| o1 z (rx 3 0 _ z GB z) <| bE H fun e b6 H => aC z LC z z z z (fun f a => ur f b6 (a.carve [] z z) (gM (ab C f a) z)) fun f6 f w2 a G => ?_
 obtain ⟨j, f7, k, b7, rfl, u⟩ := G
 obtain rfl := aI (i := 0) u z
 refine ⟨St w s [_, _, _, _, _], a.comp [] z z u, fun _ _ => Y, ?_⟩
 refine aa [.fa 79 2 3 qh] z <| sC 3 [S j e.b_.length k, I J e.A_] [_, _, _, _, _, _, _] 2 z ol z <| nR <| aa [.fa 149 3 5 Gw] z <| o1 z (rx 5 0 _ z Ly z) <| bE H fun c b8 H => aC z OG z z z z (fun f a => AZ f b8 (a.carve [] z z) (pt (dx (ab D f a)) (dx (ab E f a)))) fun f8 f w2 a L => ?_
 obtain ⟨l, f9, m, b9, o, g1, p, c4, rfl, q⟩ := L
 obtain rfl := aI (i := 0) q z
 obtain rfl := aI (i := 1) q z
 refine ⟨St w s [_, _, _, _, _, _, _], a.comp [] z z q, fun _ _ => Y, ?_⟩
 exact aa [.fa 79 3 5 rf] z <| sC 5 [S l c.s_.o_.length m, S o c.t_.o_.length p] [_, _, _, _, _, _, _] 2 z Bd z <| nR <| o1 z (rx 0 2 _ z mC z) <| sC 0 [S g d.b_.length h, I J d.A_, B p0.S_, S j e.b_.length k, I J e.A_, S l c.s_.o_.length m, S o c.t_.o_.length p] [_, _, _, _, _, _, _] 1 z mC z <| nT <| ca (rs := [.cell 2 79]) (vs := [.agg #[S g d.b_.length h, I J d.A_, B p0.S_, S j e.b_.length k, I J e.A_, S l c.s_.o_.length m, S o c.t_.o_.length p]]) z ⟨⟨_, [S g d.b_.length h, I J d.A_, B p0.S_, S j e.b_.length k, I J e.A_, S l c.s_.o_.length m, S o c.t_.o_.length p], _, _, _, z, mC, (jI (T := 79) 0 (mt (i := 1) z) z), z, z⟩, Y⟩ (fun w' hw' => by
  obtain rfl := ak H
  exact ⟨_, z, g, d.b_.length, h, b5, j, e.b_.length, k, b7, l, c.s_.o_.length, m, b9, o, c.t_.o_.length, p, c4, z, hw'.sel [3, 4, 5, 6] z z⟩)
theorem wB (w : World) {m : List Nat} {p0 : List bJ} {a_0 : Option Addr} {n_0 c_0 : Nat} {r : List az} (H : lT p0 = U r) (HS : St w m [] w) (g0 : (ae (eu) 149).rd w m p0 [S a_0 n_0 c_0]) :
    Calls Tryz.prog 61 #[S a_0 n_0 c_0] w (fun en w' => ∃ v, en = .returned v ∧ ∃ (a0 : Option Addr), ∃ (n0 : Nat), ∃ (c0 : Nat), ∃ (F0 : List Nat), v = S a0 n0 c0 ∧ St w m [W (ae (ba) 79) F0 r [S a0 n0 c0]] w') := by
 obtain rfl := eb g0
 unfold lT at H
 refine aq Tryz.func61 z Tryz.ntmps61 z (HS) <| sR <| oP z <| nR <| aa [.p, .lenS 30 149 Ir] z <| bE H fun g c8 H => rP (e := ba) (zero := ((az.mk (ap.mk [] 0) n (ap.mk [] 0) (cf.mk (aA.mk []) (aA.mk []))) : az)) z z z z z z qi mC z z z z (fun _ => (rS (x := (az.mk (ap.mk [] 0) n (ap.mk [] 0) (cf.mk (aA.mk []) (aA.mk [])))) ((mR (x := (ap.mk [] 0)) ((.inl ⟨z, z, z⟩) : (ae (bc) 121).own _ [] ([] : List au) _) (⟨z, z⟩ : eI.own _ [] (0 : Int) _)) : (bp).own _ [] ((ap.mk [] 0) : ap) _) (⟨z, z⟩ : (gN).own _ [] (n : Bool) _) ((mR (x := (ap.mk [] 0)) ((.inl ⟨z, z, z⟩) : (ae (bc) 121).own _ [] ([] : List au) _) (⟨z, z⟩ : eI.own _ [] (0 : Int) _)) : (bp).own _ [] ((ap.mk [] 0) : ap) _) ((ue (x := (cf.mk (aA.mk []) (aA.mk []))) ((lm (x := (aA.mk [])) ((.inl ⟨z, z, z⟩) : (ae (ae eI 3) 69).own _ [] ([] : List (List Int)) _)) : (bI).own _ [] ((aA.mk []) : aA) _) ((lm (x := (aA.mk [])) ((.inl ⟨z, z, z⟩) : (ae (ae eI 3) 69).own _ [] ([] : List (List Int)) _)) : (bI).own _ [] ((aA.mk []) : aA) _)) : (eE).own _ [] ((cf.mk (aA.mk []) (aA.mk [])) : cf) _))) c8 (fun _ => kp) fun s => oP z <| nQ <| ai <| sR <| oP z <| nQ <| an <| CW.at (uj (fun (o : List az) (l : List Nat) (d : Int) => St w m [W (ae (ba) 79) l o [S (U ⟨s, 0, N⟩) g.length g.length]]) (fun o l d => [(0, S a_0 p0.length c_0), (3, S (U ⟨s, 0, N⟩) g.length g.length), (4, I J d)]) (fun kk => fun o l d => hH p0 kk o d = U r) (fun _ _ _ H => ?_) (fun k1 P o l d H => ?_) aK (g) ([s]) (0) (H)) (ss [0] z z) (sb z)
 ·unfold hH at H
  exact absurd H (by simp)
 ·unfold hH at H
  refine ai <| sR <| aa [.p, .p, .lenS 30 149 Ir, .p] z <| nQ <| cI H z (fun H => ?_) (fun H => ?_)
  ·refine aj <| ao <| ai <| an <| aJ <| aa [.p, .p, .p, .p] z <| bE H fun f Q H => bQ z z z z z Ir Ha z g0 Q fun d0 d1 G L => ?_
   obtain ⟨d2, d3, d4, d5, rfl, R, T, V, X⟩ := ma G
   obtain ⟨d6, d7, rfl, A, Z⟩ := fA R
   obtain ⟨a1, a2, rfl⟩ := ah A
   obtain rfl := Z
   obtain rfl := T
   obtain ⟨d8, d9, rfl, C, a3⟩ := fA V
   obtain ⟨a4, a5, rfl⟩ := ah C
   obtain rfl := a3
   obtain ⟨e0, e1, rfl, a6, a7⟩ := ld X
   obtain ⟨e2, rfl, D⟩ := cT a6
   obtain ⟨a8, a9, rfl⟩ := ah D
   obtain ⟨e3, rfl, E⟩ := cT a7
   obtain ⟨b0, b1, rfl⟩ := ah E
   refine o1 z (cu (cs := [S a1 f.F_.b_.length a2, I J f.F_.A_, B f.S_, S a4 f.w_.b_.length a5, I J f.w_.A_, S a8 f.H_.s_.o_.length a9, S b0 f.H_.t_.o_.length b1]) z z Ha (bB bor L) z) <| bE H fun c b2 H => aC z PL z z z z (fun j a => xE j b2 (a.carve [] z z) (sn (gM (ab A j a) z) z (gM (ab C j a) z) (pt (dx (ab D j a)) (dx (ab E j a))))) fun e4 j w2 a M => ?_
   obtain ⟨b3, e5, b4, e6, b5, e7, b6, e9, b7, f0, b8, f1, b9, f2, c1, f3, rfl, k⟩ := M
   obtain rfl := aI (i := 0) k z
   obtain rfl := aI (i := 1) k z
   obtain rfl := aI (i := 2) k z
   obtain rfl := aI (i := 3) k z
   refine ⟨St w m [_, _, _, _, _], a.comp [] z z k, fun _ _ => Y, ?_⟩
   refine bE H fun f4 F H => sd z (fun j a => foc (r := 0) a z F) fun f5 f6 f7 f8 => el z (fun j a => a.1) fun c2 => ?_
   obtain ⟨t, u⟩ := c2
   refine mo (C' := St w m [_, _, _, _, _, _, _]) z (fun j a => a.2) <| jW z (fun j a => sB (i := 6) a z) fun f9 g1 g2 => jW z (fun _ h => h) fun g3 g4 g5 => jW z (fun _ h => h) fun g6 g7 g8 => jW z (fun _ h => h) fun g9 h0 h1 => el z (fun j a => a.1) fun c3 => ?_
   subst c3
   refine mo (C' := St w m [_, _, _, _, _, _, _, _, _, _, _]) z (fun j a => a.2) <| fR z z z z z qi mC z (fG (p := 5) z) u t (cE F).1 <| ff (off := 0) [S b3 c.F_.b_.length b4, I J c.F_.A_, B c.S_, S b5 c.w_.b_.length b6, I J c.w_.A_, S b7 c.H_.s_.o_.length b8, S b9 c.H_.t_.o_.length c1] (p := 5) (c' := [_, _, _, _, _, _, _]) z z z z z (by first | rfl | simp only [dd, dK, cR]) z mC z z (al z) z z z kp <| aE <| cx <| ao <| CW.weak (C' := St w m [_, _, _, _, _, _, _, _, _]) ?_ (ss [1, 2, 3, 4, 5, 7, 8, 9, 10] z z)
   exact aJ <| aa [.p, .p, .p] z <| aE <| qq (fun j a => sv (x1 := c.F_.A_) (x2 := c.S_) (x4 := c.w_.A_) [0, 1, 2, 3] a z z) fun h2 => ml (C' := St w m [_, _, _, _, _, _, _, _, _, _]) (fun _ h => h) <| qq (fun j a => unf (p := 4) (q := 9) a z z z u t) fun c4 => ml (C' := St w m [_, _, _, _, _, _, _, _, _, _, _]) (fun _ h => h) <| cz (RW.at (P ((o.set d.toNat c)) (c4) (J.wrap (d + 1)) (H)) (ss [10] z z) (sb z))
  ·exact bb <| aw <| ay <| ax <| ao <| sR <| oPP z <| nT <| ca (rs := [.tmp 2]) (vs := [S (U ⟨s, 0, N⟩) g.length g.length]) z ⟨z, Y⟩ (fun w' hw' => by
    obtain rfl := ak H
    exact ⟨_, z, (U ⟨s, 0, N⟩), g.length, g.length, l, z, hw'.sel [0] z z⟩)
theorem xU (w : World) {g : List Nat} {p0 : dj} {h : List Value} {r : bP} (H : mL p0 = U r) (HS : St w g [] w) (s : (fV).rd w g p0 h) :
    Calls Tryz.prog 26 #[.agg h.toArray] w (fun en w' => ∃ v, en = .returned v ∧ ∃ (m : Option Addr), ∃ (o : Nat), ∃ (c0 : Nat), ∃ (t : List Nat), v = .agg #[S m o c0] ∧ St w g [W (ae (ba) 79) t r.j_ [S m o c0]] w') := by
 obtain ⟨u, rfl, j⟩ := kh s
 obtain ⟨x, A, rfl⟩ := ah j
 unfold mL at H
 refine aq Tryz.func26 z Tryz.ntmps26 z (HS) <| sR <| ob _ z fun C => bL z z z z zO (fun _ => kp) fun D => nR <| bL z z z z zO (fun _ => kp) fun E => nR <| aa [.fa 32 0 0 IY] z <| o1 z (r1 0 0 z Nt z) <| bE H fun a p H => aC z PE z z z z (fun k e => wB k p (e.carve [] z z) (ab j k e)) fun F k L e l => ?_
 obtain ⟨c, G, d, q, rfl, f⟩ := l
 obtain rfl := aI (i := 0) f z
 refine ⟨St w g [_, _, _, _], e.comp [] z z f, fun _ _ => Y, ?_⟩
 exact aa [.fa 50 0 0 qo] z <| sC 0 [S c a.length d] [_] 2 z yI z <| nR <| o1 z (rx 0 2 _ z zO z) <| sC 0 [S c a.length d] [_] 1 z zO z <| nT <| ca (rs := [.cell 2 50]) (vs := [.agg #[S c a.length d]]) z ⟨⟨_, [S c a.length d], _, _, _, z, zO, (jI (T := 50) 0 (mt (i := 1) z) z), z, z⟩, Y⟩ (fun w' hw' => by
  obtain rfl := ak H
  exact ⟨_, z, c, a.length, d, q, z, hw'.sel [3] z z⟩)
theorem AU (w : World) {p0 : cY} {r : aM} (H : nz p0 = U r)   :
    Calls Tryz.prog 96 #[.agg #[I J p0.Q_, I J p0.R_]] w (fun en w' => en = .returned (.agg #[I J r.Q_, I J r.R_]) ∧ Ext [] w w') := by
 unfold nz at H
 exact aq Tryz.func96 z Tryz.ntmps96 z (St.init w []) <| sR <| ob _ z fun a => bL z z z z nN (fun _ => kp) fun c => nR <| bL z z z z nN (fun _ => kp) fun d => nR <| aa [.fa 163 0 0 Kf] z <| o1 z (r1 0 0 z ty3 z) <| aa [.fa 84 0 0 rY] z <| sC 0 [I J p0.Q_] [_, _] 2 z ty3 z <| nR <| aa [.fa 163 1 1 Kv] z <| o1 z (r1 1 0 z ty3 z) <| aa [.fa 84 1 1 sc] z <| sC 1 [I J p0.R_] [_, _] 2 z ty3 z <| nR <| o1 z (rx 0 2 _ z nN z) <| sC 0 [I J p0.Q_, I J p0.R_] [_, _] 1 z nN z <| nT <| ca (rs := [.cell 2 84]) (vs := [.agg #[I J p0.Q_, I J p0.R_]]) z ⟨⟨_, [I J p0.Q_, I J p0.R_], _, _, _, z, nN, (jI (T := 84) 0 (mt (i := 1) z) z), z, z⟩, Y⟩ (fun w' hw' => by
  obtain rfl := ak H
  exact ⟨z, hw'.ext⟩)
theorem yQ (w : World) {m : List Nat} {p0 : List cY} {a_0 : Option Addr} {n_0 c_0 : Nat} {r : List aM} (H : oM p0 = U r) (HS : St w m [] w) (D : (ae (ix) 163).rd w m p0 [S a_0 n_0 c_0]) :
    Calls Tryz.prog 63 #[S a_0 n_0 c_0] w (fun en w' => ∃ v, en = .returned v ∧ ∃ (F : Option Addr), ∃ (G : Nat), ∃ (c0 : Nat), ∃ (Q : List Nat), v = S F G c0 ∧ St w m [W (ae (bD) 84) Q r [S F G c0]] w') := by
 obtain rfl := eb D
 unfold oM at H
 refine aq Tryz.func63 z Tryz.ntmps63 z (HS) <| sR <| oP z <| nR <| aa [.p, .lenS 34 163 KR] z <| bE H fun c L H => rP (e := bD) (zero := ((aM.mk 0 0) : aM)) z z z z z z pi nN z z z z (fun _ => ⟨z, z⟩) L (fun _ => kp) fun k => oP z <| nQ <| ai <| sR <| oP z <| nQ <| an <| CW.at (uj (fun (f : List aM) (l : List Nat) (d : Int) => St w m [W (ae (bD) 84) l f [S (U ⟨k, 0, N⟩) c.length c.length]]) (fun f l d => [(0, S a_0 p0.length c_0), (3, S (U ⟨k, 0, N⟩) c.length c.length), (4, I J d)]) (fun kk => fun f l d => js p0 kk f d = U r) (fun _ _ _ H => ?_) (fun k1 E f l d H => ?_) aK (c) ([k]) (0) (H)) (ss [0] z z) (sb z)
 ·unfold js at H
  exact absurd H (by simp)
 ·unfold js at H
  refine ai <| sR <| aa [.p, .p, .lenS 34 163 KR, .p] z <| nQ <| cI H z (fun H => ?_) (fun H => ?_)
  ·refine aj <| ao <| ai <| an <| aJ <| aa [.p, .p, .p, .p] z <| bE H fun s A H => bO (e := ix) (xs := p0) (j := d) z z z z z KR LN z (ab D) A z <| o1 z (cu (cs := [I J s.Q_, I J s.R_]) z z LN (ls (mS (ab D) A (fun _ _ h => h)) z) z) <| bE H fun g M H => oq z (qc z Pv (fun o a => AU o (p0 := s) M)) tt2 <| bE H fun R C H => sd z (fun o a => foc (r := 0) a z C) fun T V X Z => el z (fun o a => a.1) fun t => ?_
   obtain ⟨u, x⟩ := t
   refine mo (C' := St w m [_, _, _]) z (fun o a => a.2) <| el z (fun o a => EN (i := 2) a z) fun t => ?_
   obtain ⟨rfl, rfl⟩ := t
   exact mo (C' := St w m [_, _]) z (fun o a => St.mask [y, y] z a) <| fR z z z z z pi nN z (fG (p := 1) z) x u (cE C).1 <| ff (off := 0) [I J g.Q_, I J g.R_] (p := 1) (c' := [_, _]) z z z z z (by first | rfl | simp only [dd, dK, cR]) z nN z z (al z) z z z kp <| aE <| cx <| ao <| aJ <| aa [.p, .p, .p] z <| aE <| ml (fun _ h => St.push0 h (W (bD) [] g [I J g.Q_, I J g.R_]) z ⟨z, z⟩) <| qq (fun o a => unf (p := 1) (q := 2) a z z z x u) fun P => ml (C' := St w m [_, _, _, _]) (fun _ h => h) <| cz (RW.at (E ((f.set d.toNat g)) (P) (J.wrap (d + 1)) (H)) (ss [3] z z) (sb z))
  ·exact bb <| aw <| ay <| ax <| ao <| sR <| oPP z <| nT <| ca (rs := [.tmp 2]) (vs := [S (U ⟨k, 0, N⟩) c.length c.length]) z ⟨z, Y⟩ (fun w' hw' => by
    obtain rfl := ak H
    exact ⟨_, z, (U ⟨k, 0, N⟩), c.length, c.length, l, z, hw'.sel [0] z z⟩)
end Go.Vk
