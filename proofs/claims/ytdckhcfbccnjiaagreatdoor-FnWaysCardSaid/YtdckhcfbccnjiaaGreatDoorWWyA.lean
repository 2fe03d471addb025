/- The code does what the functions of data say. Printed by program. -/
import Derived.Test.YtdckhcfbccnjiaaGreatDoorRF
import Derived.Test.YtdckhcfbccnjiaaGreatDoorChecked
import Derived.Test.YtdckhcfbccnjiaaGreatDoorShelf
namespace Go.Vk
open Value renaming int → I, slice → S, pointer → O, bool → B
open IntKind renaming i64 → J, u8 → K
open Bool renaming true → y, false → n
open Option renaming some → U, none → N
open Res renaming box → b, own → W
open Go.Proofs Go.RowKit
set_option maxHeartbeats 4000000
set_option maxRecDepth 100000
def cb : Enc bc := wW (cG (dF) (cG (ae eI 3) (ae (dF) 9))) (fun x => (x.B_, x.u_, x.A_))
theorem bO {w : World} {X : List Nat} {x : bc} {c0 c1 c2 : List Value} (a : (dF).rd w X x.B_ c0) (h1 : (ae eI 3).rd w X x.u_ c1) (c : (ae (dF) 9).rd w X x.A_ c2) : (cb).rd w X x (c0 ++ (c1 ++ c2)) := by
  show (cG (dF) (cG (ae eI 3) (ae (dF) 9))).rd w X (x.B_, x.u_, x.A_) _
  exact (gX a (gX h1 c))
theorem bA {w : World} {X : List Nat} {x : bc} {cs : List Value} (h : (cb).rd w X x cs) : ∃ c0 c1 c2, cs = (c0 ++ (c1 ++ c2)) ∧ (dF).rd w X x.B_ c0 ∧ (ae eI 3).rd w X x.u_ c1 ∧ (ae (dF) 9).rd w X x.A_ c2 := by
  have h : (cG (dF) (cG (ae eI 3) (ae (dF) 9))).rd w X (x.B_, x.u_, x.A_) cs := h
  obtain ⟨c0, e, rfl, a, c⟩ := h
  obtain ⟨c1, c2, rfl, h1, d⟩ := c
  exact ⟨c0, c1, c2, z, a, h1, d⟩
theorem tu {w : World} {a c d : List Nat} {x : bc} {c0 c1 c2 : List Value} (e : (dF).own w a x.B_ c0) (h1 : (ae eI 3).own w c x.u_ c1) (f : (ae (dF) 9).own w d x.A_ c2) : (cb).own w (a ++ (c ++ d)) x (c0 ++ (c1 ++ c2)) := by
  show (cG (dF) (cG (ae eI 3) (ae (dF) 9))).own w _ (x.B_, x.u_, x.A_) _
  exact (hG e (hG h1 f))
theorem ue {w0 : World} {M : List Nat} {L : List Res} {w : World} {x0 : List UInt8} {x1 : List Int} {a : Option Addr} {c d : Nat} {i : List Nat} {x2 : List (List UInt8)} {e : Option Addr} {f g : Nat} {j : List Nat} (idx : List Nat) (h : St w0 M L w) (hs : jP L idx = [W (ae eI 3) i x1 [S a c d], W (ae (dF) 9) j x2 [S e f g]]) (hn : pW idx = y) :
    ∃ F, St w0 M (lh L idx ++ [W (cb) F (bc.mk x0 x1 x2) [vS x0, S a c d, S e f g]]) w := by
  have k : (ae eI 3).own w i x1 [S a c d] := h.ok' (mV (L := L) (is := idx) (by rw [hs]; simp : W (ae eI 3) i x1 [S a c d] ∈ jP L idx))
  have o1 : (ae (dF) 9).own w j x2 [S e f g] := h.ok' (mV (L := L) (is := idx) (by rw [hs]; simp : W (ae (dF) 9) j x2 [S e f g] ∈ jP L idx))
  have ho := (tu (x := (bc.mk x0 x1 x2)) (⟨z, z⟩ : (dF).own w [] _ _) k o1)
  refine ⟨_, h.re idx [W (cb) _ (bc.mk x0 x1 x2) [vS x0, S a c d, S e f g]] hn ?_ (fun s hs => by rw [List.mem_singleton.1 hs]; exact ho)⟩
  rw [hs]
  simp [dy, W]
def aJ : Enc ab := wW (cG (ae (cb) 63) (ae (dF) 9)) (fun x => (x.b_, x.l_))
theorem af {w : World} {X : List Nat} {x : ab} {c0 c1 : List Value} (a : (ae (cb) 63).rd w X x.b_ c0) (h1 : (ae (dF) 9).rd w X x.l_ c1) : (aJ).rd w X x (c0 ++ c1) := by
  show (cG (ae (cb) 63) (ae (dF) 9)).rd w X (x.b_, x.l_) _
  exact (gX a h1)
theorem aB {w : World} {X : List Nat} {x : ab} {cs : List Value} (h : (aJ).rd w X x cs) : ∃ c0 c1, cs = (c0 ++ c1) ∧ (ae (cb) 63).rd w X x.b_ c0 ∧ (ae (dF) 9).rd w X x.l_ c1 := by
  have h : (cG (ae (cb) 63) (ae (dF) 9)).rd w X (x.b_, x.l_) cs := h
  obtain ⟨c0, c1, rfl, a, h1⟩ := h
  exact ⟨c0, c1, z, a, h1⟩
def bH : Enc aq := lN (fun x => [I J x.j_, I J x.c_]) 2 (fun _ => z) (by intro x u hu; simp only [List.mem_cons, List.not_mem_nil, or_false] at hu; rcases hu with rfl | rfl <;> rfl)
def cu : Enc av := wW (cG (ae eI 3) (ae (ae eI 3) 31)) (fun x => (x.e_, x.d_))
theorem aF {w : World} {X : List Nat} {x : av} {c0 c1 : List Value} (a : (ae eI 3).rd w X x.e_ c0) (h1 : (ae (ae eI 3) 31).rd w X x.d_ c1) : (cu).rd w X x (c0 ++ c1) := by
  show (cG (ae eI 3) (ae (ae eI 3) 31)).rd w X (x.e_, x.d_) _
  exact (gX a h1)
theorem aK {w : World} {X : List Nat} {x : av} {cs : List Value} (h : (cu).rd w X x cs) : ∃ c0 c1, cs = (c0 ++ c1) ∧ (ae eI 3).rd w X x.e_ c0 ∧ (ae (ae eI 3) 31).rd w X x.d_ c1 := by
  have h : (cG (ae eI 3) (ae (ae eI 3) 31)).rd w X (x.e_, x.d_) cs := h
  obtain ⟨c0, c1, rfl, a, h1⟩ := h
  exact ⟨c0, c1, z, a, h1⟩
theorem sN {w : World} {a c : List Nat} {x : av} {c0 c1 : List Value} (d : (ae eI 3).own w a x.e_ c0) (h1 : (ae (ae eI 3) 31).own w c x.d_ c1) : (cu).own w (a ++ c) x (c0 ++ c1) := by
  show (cG (ae eI 3) (ae (ae eI 3) 31)).own w _ (x.e_, x.d_) _
  exact (hG d h1)
theorem sP {w : World} {F : List Nat} {x : av} {cs : List Value} (h : (cu).own w F x cs) : ∃ a c c0 c1, F = (a ++ c) ∧ cs = (c0 ++ c1) ∧ (ae eI 3).own w a x.e_ c0 ∧ (ae (ae eI 3) 31).own w c x.d_ c1 := by
  have h : (cG (ae eI 3) (ae (ae eI 3) 31)).own w F (x.e_, x.d_) cs := h
  obtain ⟨a, c, c0, c1, rfl, rfl, d, h1⟩ := h
  exact ⟨a, c, c0, c1, z, z, d, h1⟩
def aC : Enc aT := wW (cG (qV) (cG (bH) (cG (ae eI 3) (cG eI (cG (cu) (cG eI (cG (ae eI 3) (cG eI (cG eI eI))))))))) (fun x => (x.q_, x.g_, x.r_, x.w_, x.n_, x.x_, x.b_, x.m_, x.p_, x.s_))
theorem iQ {w : World} {X : List Nat} {x : aT} {c0 c1 c2 c3 c4 c5 c6 c7 c8 c9 : List Value} (a : (qV).rd w X x.q_ c0) (h1 : (bH).rd w X x.g_ c1) (c : (ae eI 3).rd w X x.r_ c2) (d : eI.rd w X x.w_ c3) (e : (cu).rd w X x.n_ c4) (f : eI.rd w X x.x_ c5) (g : (ae eI 3).rd w X x.b_ c6) (h : eI.rd w X x.m_ c7) (i : eI.rd w X x.p_ c8) (j : eI.rd w X x.s_ c9) : (aC).rd w X x (c0 ++ (c1 ++ (c2 ++ (c3 ++ (c4 ++ (c5 ++ (c6 ++ (c7 ++ (c8 ++ c9))))))))) := by
  show (cG (qV) (cG (bH) (cG (ae eI 3) (cG eI (cG (cu) (cG eI (cG (ae eI 3) (cG eI (cG eI eI))))))))).rd w X (x.q_, x.g_, x.r_, x.w_, x.n_, x.x_, x.b_, x.m_, x.p_, x.s_) _
  exact (gX a (gX h1 (gX c (gX d (gX e (gX f (gX g (gX h (gX i j)))))))))
theorem bj {w : World} {X : List Nat} {x : aT} {cs : List Value} (h : (aC).rd w X x cs) : ∃ c0 c1 c2 c3 c4 c5 c6 c7 c8 c9, cs = (c0 ++ (c1 ++ (c2 ++ (c3 ++ (c4 ++ (c5 ++ (c6 ++ (c7 ++ (c8 ++ c9))))))))) ∧ (qV).rd w X x.q_ c0 ∧ (bH).rd w X x.g_ c1 ∧ (ae eI 3).rd w X x.r_ c2 ∧ eI.rd w X x.w_ c3 ∧ (cu).rd w X x.n_ c4 ∧ eI.rd w X x.x_ c5 ∧ (ae eI 3).rd w X x.b_ c6 ∧ eI.rd w X x.m_ c7 ∧ eI.rd w X x.p_ c8 ∧ eI.rd w X x.s_ c9 := by
  have h : (cG (qV) (cG (bH) (cG (ae eI 3) (cG eI (cG (cu) (cG eI (cG (ae eI 3) (cG eI (cG eI eI))))))))).rd w X (x.q_, x.g_, x.r_, x.w_, x.n_, x.x_, x.b_, x.m_, x.p_, x.s_) cs := h
  obtain ⟨c0, t, rfl, a, c⟩ := h
  obtain ⟨c1, u, rfl, h1, r1⟩ := c
  obtain ⟨c2, v, rfl, d, e⟩ := r1
  obtain ⟨c3, A, rfl, f, g⟩ := e
  obtain ⟨c4, C, rfl, i, j⟩ := g
  obtain ⟨c5, D, rfl, k, l⟩ := j
  obtain ⟨c6, E, rfl, m, o⟩ := l
  obtain ⟨c7, F, rfl, p, q⟩ := o
  obtain ⟨c8, c9, rfl, r, s⟩ := q
  exact ⟨c0, c1, c2, c3, c4, c5, c6, c7, c8, c9, z, a, h1, d, f, i, k, m, p, r, s⟩
theorem tA {w : World} {a c d e f g h i j k : List Nat} {x : aT} {c0 c1 c2 c3 c4 c5 c6 c7 c8 c9 : List Value} (l : (qV).own w a x.q_ c0) (h1 : (bH).own w c x.g_ c1) (m : (ae eI 3).own w d x.r_ c2) (o : eI.own w e x.w_ c3) (p : (cu).own w f x.n_ c4) (q : eI.own w g x.x_ c5) (r : (ae eI 3).own w h x.b_ c6) (s : eI.own w i x.m_ c7) (t : eI.own w j x.p_ c8) (u : eI.own w k x.s_ c9) : (aC).own w (a ++ (c ++ (d ++ (e ++ (f ++ (g ++ (h ++ (i ++ (j ++ k))))))))) x (c0 ++ (c1 ++ (c2 ++ (c3 ++ (c4 ++ (c5 ++ (c6 ++ (c7 ++ (c8 ++ c9))))))))) := by
  show (cG (qV) (cG (bH) (cG (ae eI 3) (cG eI (cG (cu) (cG eI (cG (ae eI 3) (cG eI (cG eI eI))))))))).own w _ (x.q_, x.g_, x.r_, x.w_, x.n_, x.x_, x.b_, x.m_, x.p_, x.s_) _
  exact (hG l (hG h1 (hG m (hG o (hG p (hG q (hG r (hG s (hG t u)))))))))
theorem tK {w : World} {F : List Nat} {x : aT} {cs : List Value} (h : (aC).own w F x cs) : ∃ a c d e f g i j k l c0 c1 c2 c3 c4 c5 c6 c7 c8 c9, F = (a ++ (c ++ (d ++ (e ++ (f ++ (g ++ (i ++ (j ++ (k ++ l))))))))) ∧ cs = (c0 ++ (c1 ++ (c2 ++ (c3 ++ (c4 ++ (c5 ++ (c6 ++ (c7 ++ (c8 ++ c9))))))))) ∧ (qV).own w a x.q_ c0 ∧ (bH).own w c x.g_ c1 ∧ (ae eI 3).own w d x.r_ c2 ∧ eI.own w e x.w_ c3 ∧ (cu).own w f x.n_ c4 ∧ eI.own w g x.x_ c5 ∧ (ae eI 3).own w i x.b_ c6 ∧ eI.own w j x.m_ c7 ∧ eI.own w k x.p_ c8 ∧ eI.own w l x.s_ c9 := by
  have h : (cG (qV) (cG (bH) (cG (ae eI 3) (cG eI (cG (cu) (cG eI (cG (ae eI 3) (cG eI (cG eI eI))))))))).own w F (x.q_, x.g_, x.r_, x.w_, x.n_, x.x_, x.b_, x.m_, x.p_, x.s_) cs := h
  obtain ⟨a, M, c0, P, rfl, rfl, m, o⟩ := h
  obtain ⟨c, Q, c1, R, rfl, rfl, h1, r1⟩ := o
  obtain ⟨d, X, c2, Z, rfl, rfl, p, q⟩ := r1
  obtain ⟨e, G3, c3, d3, rfl, rfl, r, s⟩ := q
  obtain ⟨f, G4, c4, d4, rfl, rfl, t, u⟩ := s
  obtain ⟨g, G5, c5, d5, rfl, rfl, v, A⟩ := u
  obtain ⟨i, G6, c6, d6, rfl, rfl, C, D⟩ := A
  obtain ⟨j, G7, c7, d7, rfl, rfl, E, G⟩ := D
  obtain ⟨k, l, c8, c9, rfl, rfl, H, L⟩ := G
  exact ⟨a, c, d, e, f, g, i, j, k, l, c0, c1, c2, c3, c4, c5, c6, c7, c8, c9, z, z, m, h1, p, r, t, v, C, E, H, L⟩
theorem dN {w0 : World} {M : List Nat} {L : List Res} {w : World} {F : List Nat} {x : aT} {cs : List Value} {i : Nat} (h : St w0 M L w) (hi : L[i]? = U (W (aC) F x cs)) :
    ∃ (a_1 : Option Addr) (k_1 : Nat) (F_1 : List Nat), ∃ (a_2 : Option Addr) (k_2 : Nat) (F_2 : List Nat), ∃ (a_3 : Option Addr) (k_3 : Nat) (F_3 : List Nat), ∃ (a_4 : Option Addr) (k_4 : Nat) (F_4 : List Nat), cs = [B x.q_, I J x.g_.j_, I J x.g_.c_, S a_1 (x.r_).length k_1, I J x.w_, S a_2 (x.n_.e_).length k_2, S a_3 (x.n_.d_).length k_3, I J x.x_, S a_4 (x.b_).length k_4, I J x.m_, I J x.p_, I J x.s_] ∧ St w0 M (lh L [i] ++ [W (ae eI 3) F_1 x.r_ [S a_1 (x.r_).length k_1], W (ae eI 3) F_2 x.n_.e_ [S a_2 (x.n_.e_).length k_2], W (ae (ae eI 3) 31) F_3 x.n_.d_ [S a_3 (x.n_.d_).length k_3], W (ae eI 3) F_4 x.b_ [S a_4 (x.b_).length k_4]]) w := by
  obtain ⟨hok, _, _⟩ := h.one hi
  have hok : (aC).own w F x cs := hok
  obtain ⟨F1_0, F1_1, F1_2, F1_3, F1_4, F1_5, F1_6, F1_7, F1_8, F1_9, c1_0, c1_1, c1_2, c1_3, c1_4, c1_5, c1_6, c1_7, c1_8, c1_9, rfl, rfl, h1_0, h1_1, h1_2, h1_3, h1_4, h1_5, h1_6, h1_7, h1_8, h1_9⟩ := tK hok
  obtain ⟨rfl, rfl⟩ : F1_0 = [] ∧ c1_0 = [B x.q_] := h1_0
  obtain ⟨rfl, rfl⟩ : F1_1 = [] ∧ c1_1 = [I J x.g_.j_, I J x.g_.c_] := h1_1
  obtain ⟨a, c, rfl⟩ := oE h1_2
  obtain ⟨rfl, rfl⟩ : F1_3 = [] ∧ c1_3 = [I J x.w_] := h1_3
  obtain ⟨F3_0, F3_1, c3_0, c3_1, rfl, rfl, h3_0, h3_1⟩ := sP h1_4
  obtain ⟨d, e, rfl⟩ := oE h3_0
  obtain ⟨f, g, rfl⟩ := oE h3_1
  obtain ⟨rfl, rfl⟩ : F1_5 = [] ∧ c1_5 = [I J x.x_] := h1_5
  obtain ⟨j, k, rfl⟩ := oE h1_6
  obtain ⟨rfl, rfl⟩ : F1_7 = [] ∧ c1_7 = [I J x.m_] := h1_7
  obtain ⟨rfl, rfl⟩ : F1_8 = [] ∧ c1_8 = [I J x.p_] := h1_8
  obtain ⟨rfl, rfl⟩ : F1_9 = [] ∧ c1_9 = [I J x.s_] := h1_9
  refine ⟨a, c, F1_2, d, e, F3_0, f, g, F3_1, j, k, F1_6, z, h.re [i] _ z ?_ ?_⟩
  · simp [jf, ni, hi, dy, W]
  · intro s hs; simp only [List.mem_cons, List.not_mem_nil, or_false] at hs; rcases hs with rfl | rfl | rfl | rfl
    · exact h1_2
    · exact h3_0
    · exact h3_1
    · exact h1_6
theorem cE {w0 : World} {M : List Nat} {L : List Res} {w : World} {x0 : Bool} {x1 : Int} {x2 : Int} {d : List Int} {f : Option Addr} {g i : Nat} {u : List Nat} {x4 : Int} {a : List Int} {j : Option Addr} {k l : Nat} {v : List Nat} {c : List (List Int)} {m : Option Addr} {o p : Nat} {A : List Nat} {x7 : Int} {e : List Int} {q : Option Addr} {r t : Nat} {C : List Nat} {x9 : Int} {x10 : Int} {x11 : Int} (idx : List Nat) (h : St w0 M L w) (hs : jP L idx = [W (ae eI 3) u d [S f g i], W (ae eI 3) v a [S j k l], W (ae (ae eI 3) 31) A c [S m o p], W (ae eI 3) C e [S q r t]]) (hn : pW idx = y) :
    ∃ F, St w0 M (lh L idx ++ [W (aC) F (aT.mk x0 (aq.mk x1 x2) d x4 (av.mk a c) x7 e x9 x10 x11) [B x0, I J x1, I J x2, S f g i, I J x4, S j k l, S m o p, I J x7, S q r t, I J x9, I J x10, I J x11]]) w := by
  have D : (ae eI 3).own w u d [S f g i] := h.ok' (mV (L := L) (is := idx) (by rw [hs]; simp : W (ae eI 3) u d [S f g i] ∈ jP L idx))
  have o1 : (ae eI 3).own w v a [S j k l] := h.ok' (mV (L := L) (is := idx) (by rw [hs]; simp : W (ae eI 3) v a [S j k l] ∈ jP L idx))
  have E : (ae (ae eI 3) 31).own w A c [S m o p] := h.ok' (mV (L := L) (is := idx) (by rw [hs]; simp : W (ae (ae eI 3) 31) A c [S m o p] ∈ jP L idx))
  have G : (ae eI 3).own w C e [S q r t] := h.ok' (mV (L := L) (is := idx) (by rw [hs]; simp : W (ae eI 3) C e [S q r t] ∈ jP L idx))
  have ho := (tA (x := (aT.mk x0 (aq.mk x1 x2) d x4 (av.mk a c) x7 e x9 x10 x11)) (⟨z, z⟩ : (qV).own w [] _ _) (⟨z, z⟩ : (bH).own w [] _ _) D (⟨z, z⟩ : eI.own w [] _ _) (sN (x := (av.mk a c)) o1 E) (⟨z, z⟩ : eI.own w [] _ _) G (⟨z, z⟩ : eI.own w [] _ _) (⟨z, z⟩ : eI.own w [] _ _) (⟨z, z⟩ : eI.own w [] _ _))
  refine ⟨_, h.re idx [W (aC) _ (aT.mk x0 (aq.mk x1 x2) d x4 (av.mk a c) x7 e x9 x10 x11) [B x0, I J x1, I J x2, S f g i, I J x4, S j k l, S m o p, I J x7, S q r t, I J x9, I J x10, I J x11]] hn ?_ (fun s hs => by rw [List.mem_singleton.1 hs]; exact ho)⟩
  rw [hs]
  simp [dy, W]
def cz : Enc ah := wW (cG (ae (aC) 71) eI) (fun x => (x.a_, x.k_))
theorem aM {w : World} {X : List Nat} {x : ah} {c0 c1 : List Value} (a : (ae (aC) 71).rd w X x.a_ c0) (h1 : eI.rd w X x.k_ c1) : (cz).rd w X x (c0 ++ c1) := by
  show (cG (ae (aC) 71) eI).rd w X (x.a_, x.k_) _
  exact (gX a h1)
theorem bZ {w : World} {X : List Nat} {x : ah} {cs : List Value} (h : (cz).rd w X x cs) : ∃ c0 c1, cs = (c0 ++ c1) ∧ (ae (aC) 71).rd w X x.a_ c0 ∧ eI.rd w X x.k_ c1 := by
  have h : (cG (ae (aC) 71) eI).rd w X (x.a_, x.k_) cs := h
  obtain ⟨c0, c1, rfl, a, h1⟩ := h
  exact ⟨c0, c1, z, a, h1⟩
def ew : Enc aY := wW (cG (ae eI 3) eI) (fun x => (x.o_, x.v_))
theorem bM {w : World} {X : List Nat} {x : aY} {c0 c1 : List Value} (a : (ae eI 3).rd w X x.o_ c0) (h1 : eI.rd w X x.v_ c1) : (ew).rd w X x (c0 ++ c1) := by
  show (cG (ae eI 3) eI).rd w X (x.o_, x.v_) _
  exact (gX a h1)
theorem fT {w : World} {X : List Nat} {x : aY} {cs : List Value} (h : (ew).rd w X x cs) : ∃ c0 c1, cs = (c0 ++ c1) ∧ (ae eI 3).rd w X x.o_ c0 ∧ eI.rd w X x.v_ c1 := by
  have h : (cG (ae eI 3) eI).rd w X (x.o_, x.v_) cs := h
  obtain ⟨c0, c1, rfl, a, h1⟩ := h
  exact ⟨c0, c1, z, a, h1⟩
theorem vk {w : World} {a c : List Nat} {x : aY} {c0 c1 : List Value} (d : (ae eI 3).own w a x.o_ c0) (h1 : eI.own w c x.v_ c1) : (ew).own w (a ++ c) x (c0 ++ c1) := by
  show (cG (ae eI 3) eI).own w _ (x.o_, x.v_) _
  exact (hG d h1)
theorem wH {w0 : World} {M : List Nat} {L : List Res} {w : World} {x0 : List Int} {a : Option Addr} {c d : Nat} {e : List Nat} {x1 : Int} (idx : List Nat) (h : St w0 M L w) (hs : jP L idx = [W (ae eI 3) e x0 [S a c d]]) (hn : pW idx = y) :
    ∃ F, St w0 M (lh L idx ++ [W (ew) F (aY.mk x0 x1) [S a c d, I J x1]]) w := by
  have f : (ae eI 3).own w e x0 [S a c d] := h.ok' (mV (L := L) (is := idx) (by rw [hs]; simp : W (ae eI 3) e x0 [S a c d] ∈ jP L idx))
  have ho := (vk (x := (aY.mk x0 x1)) f (⟨z, z⟩ : eI.own w [] _ _))
  refine ⟨_, h.re idx [W (ew) _ (aY.mk x0 x1) [S a c d, I J x1]] hn ?_ (fun s hs => by rw [List.mem_singleton.1 hs]; exact ho)⟩
  rw [hs]
  simp [dy, W]
def jn : Enc bh := wW (cG (ae e8 5) eI) (fun x => (x.t_, x.c_))
theorem bt {w : World} {X : List Nat} {x : bh} {c0 c1 : List Value} (a : (ae e8 5).rd w X x.t_ c0) (h1 : eI.rd w X x.c_ c1) : (jn).rd w X x (c0 ++ c1) := by
  show (cG (ae e8 5) eI).rd w X (x.t_, x.c_) _
  exact (gX a h1)
theorem iK {w : World} {X : List Nat} {x : bh} {cs : List Value} (h : (jn).rd w X x cs) : ∃ c0 c1, cs = (c0 ++ c1) ∧ (ae e8 5).rd w X x.t_ c0 ∧ eI.rd w X x.c_ c1 := by
  have h : (cG (ae e8 5) eI).rd w X (x.t_, x.c_) cs := h
  obtain ⟨c0, c1, rfl, a, h1⟩ := h
  exact ⟨c0, c1, z, a, h1⟩
def bT : Enc bw := lN (fun x => [I J x.g_.j_, I J x.g_.c_, I J x.z_.D_, I J x.z_.C_]) 4 (fun _ => z) (by intro x u hu; simp only [List.mem_cons, List.not_mem_nil, or_false] at hu; rcases hu with rfl | rfl | rfl | rfl <;> rfl)
def dA : Enc bf := wW (cG eI (ae eI 3)) (fun x => (x.q_, x.y_))
theorem jv {w : World} {X : List Nat} {x : bf} {c0 c1 : List Value} (a : eI.rd w X x.q_ c0) (h1 : (ae eI 3).rd w X x.y_ c1) : (dA).rd w X x (c0 ++ c1) := by
  show (cG eI (ae eI 3)).rd w X (x.q_, x.y_) _
  exact (gX a h1)
theorem mU {w : World} {X : List Nat} {x : bf} {cs : List Value} (h : (dA).rd w X x cs) : ∃ c0 c1, cs = (c0 ++ c1) ∧ eI.rd w X x.q_ c0 ∧ (ae eI 3).rd w X x.y_ c1 := by
  have h : (cG eI (ae eI 3)).rd w X (x.q_, x.y_) cs := h
  obtain ⟨c0, c1, rfl, a, h1⟩ := h
  exact ⟨c0, c1, z, a, h1⟩
theorem uO {w : World} {a c : List Nat} {x : bf} {c0 c1 : List Value} (d : eI.own w a x.q_ c0) (h1 : (ae eI 3).own w c x.y_ c1) : (dA).own w (a ++ c) x (c0 ++ c1) := by
  show (cG eI (ae eI 3)).own w _ (x.q_, x.y_) _
  exact (hG d h1)
theorem uV {w : World} {F : List Nat} {x : bf} {cs : List Value} (h : (dA).own w F x cs) : ∃ a c c0 c1, F = (a ++ c) ∧ cs = (c0 ++ c1) ∧ eI.own w a x.q_ c0 ∧ (ae eI 3).own w c x.y_ c1 := by
  have h : (cG eI (ae eI 3)).own w F (x.q_, x.y_) cs := h
  obtain ⟨a, c, c0, c1, rfl, rfl, d, h1⟩ := h
  exact ⟨a, c, c0, c1, z, z, d, h1⟩
theorem va {w0 : World} {M : List Nat} {L : List Res} {w : World} {F : List Nat} {x : bf} {cs : List Value} {i : Nat} (h : St w0 M L w) (hi : L[i]? = U (W (dA) F x cs)) :
    ∃ (a_1 : Option Addr) (k_1 : Nat) (F_1 : List Nat), cs = [I J x.q_, S a_1 (x.y_).length k_1] ∧ St w0 M (lh L [i] ++ [W (ae eI 3) F_1 x.y_ [S a_1 (x.y_).length k_1]]) w := by
  obtain ⟨hok, _, _⟩ := h.one hi
  have hok : (dA).own w F x cs := hok
  obtain ⟨F1_0, F1_1, c1_0, c1_1, rfl, rfl, h1_0, h1_1⟩ := uV hok
  obtain ⟨rfl, rfl⟩ : F1_0 = [] ∧ c1_0 = [I J x.q_] := h1_0
  obtain ⟨a, c, rfl⟩ := oE h1_1
  refine ⟨a, c, F1_1, z, h.re [i] _ z ?_ ?_⟩
  · simp [jf, ni, hi, dy, W]
  · intro s hs; simp only [List.mem_cons, List.not_mem_nil, or_false] at hs; rcases hs with rfl
    · exact h1_1
theorem oQ {w0 : World} {M : List Nat} {L : List Res} {w : World} {x0 : Int} {x1 : List Int} {a : Option Addr} {c d : Nat} {e : List Nat} (idx : List Nat) (h : St w0 M L w) (hs : jP L idx = [W (ae eI 3) e x1 [S a c d]]) (hn : pW idx = y) :
    ∃ F, St w0 M (lh L idx ++ [W (dA) F (bf.mk x0 x1) [I J x0, S a c d]]) w := by
  have f : (ae eI 3).own w e x1 [S a c d] := h.ok' (mV (L := L) (is := idx) (by rw [hs]; simp : W (ae eI 3) e x1 [S a c d] ∈ jP L idx))
  have ho := (uO (x := (bf.mk x0 x1)) (⟨z, z⟩ : eI.own w [] _ _) f)
  refine ⟨_, h.re idx [W (dA) _ (bf.mk x0 x1) [I J x0, S a c d]] hn ?_ (fun s hs => by rw [List.mem_singleton.1 hs]; exact ho)⟩
  rw [hs]
  simp [dy, W]
theorem qN : isSl Tryz.prog 22 5 := lC (by kernel_rfl)
theorem ty5 : fL Tryz.prog 5 n 1 1 [I K 0] := fV (by kernel_rfl)
theorem us5 : (Tryz.prog.underlying 5).isSome = y := by kernel_rfl
theorem in3 : sT Tryz.prog 3 J := rQ (by kernel_rfl)
theorem GL : fL Tryz.prog 91 y 3 40 [S N 0 0, I J 0, I J 0] := fV (by kernel_rfl)
theorem GE : qQ Tryz.prog 91 [(0, 1), (1, 1), (2, 1)] := kS (by kernel_rfl)
theorem wb : jh Tryz.prog 91 2 2 := cV (by kernel_rfl)
theorem ty3 : fL Tryz.prog 3 n 1 8 [I J 0] := fV (by kernel_rfl)
theorem cj : Tryz.prog.follows .mixedOrders = y := by kernel_rfl
theorem wd : jh Tryz.prog 91 1 1 := cV (by kernel_rfl)
theorem BR : jh Tryz.prog 91 0 0 := cV (by kernel_rfl)
theorem xa : fL Tryz.prog 22 n 1 24 [S N 0 0] := fV (by kernel_rfl)
theorem zU : bV Tryz.prog 94 := ⟨Tryz.f94, Tryz.func94, z, by decide⟩
theorem qq : bV Tryz.prog 55 := ⟨Tryz.f55, Tryz.func55, z, by decide⟩
theorem aP : isSl Tryz.prog 31 3 := lC (by kernel_rfl)
theorem dD : fL Tryz.prog 63 y 3 64 [vS [], S N 0 0, S N 0 0] := fV (by kernel_rfl)
theorem go : isSl Tryz.prog 25 9 := lC (by kernel_rfl)
theorem ty9 : fL Tryz.prog 9 n 1 16 [vS []] := fV (by kernel_rfl)
theorem GF : qQ Tryz.prog 63 [(0, 1), (1, 1), (2, 1)] := kS (by kernel_rfl)
theorem xD : bV Tryz.prog 54 := ⟨Tryz.f54, Tryz.func54, z, by decide⟩
theorem jY : bV Tryz.prog 58 := ⟨Tryz.f58, Tryz.func58, z, by decide⟩
theorem iY : jh Tryz.prog 63 1 1 := cV (by kernel_rfl)
theorem cq : fL Tryz.prog 31 n 1 24 [S N 0 0] := fV (by kernel_rfl)
theorem ny : jh Tryz.prog 63 2 2 := cV (by kernel_rfl)
theorem kV : fL Tryz.prog 25 n 1 24 [S N 0 0] := fV (by kernel_rfl)
theorem cg : fL Tryz.prog 27 y 2 48 [S N 0 0, S N 0 0] := fV (by kernel_rfl)
theorem GH : qQ Tryz.prog 27 [(0, 1), (1, 1)] := kS (by kernel_rfl)
theorem iW : jh Tryz.prog 27 1 1 := cV (by kernel_rfl)
theorem cY : jh Tryz.prog 27 0 0 := cV (by kernel_rfl)
theorem hZ : fL Tryz.prog 24 n 1 24 [S N 0 0] := fV (by kernel_rfl)
theorem GN : bV Tryz.prog 56 := ⟨Tryz.f56, Tryz.func56, z, by decide⟩
theorem gD : isSl Tryz.prog 24 63 := lC (by kernel_rfl)
theorem sg : jh Tryz.prog 63 0 0 := cV (by kernel_rfl)
theorem Gy : bV Tryz.prog 25 := ⟨Tryz.f25, Tryz.func25, z, by decide⟩
theorem nU : fL Tryz.prog 130 y 7 56 [I J 0, I J 0, I J 0, I J 0, I J 0, I J 0, B n] := fV (by kernel_rfl)
theorem ER : qQ Tryz.prog 130 [(0, 1), (1, 1), (2, 1), (3, 1), (4, 1), (5, 1), (6, 1)] := kS (by kernel_rfl)
theorem st9 : yq Tryz.prog 9 := AO (by kernel_rfl)
theorem iF : bV Tryz.prog 33 := ⟨Tryz.f33, Tryz.func33, z, by decide⟩
theorem Dz : bV Tryz.prog 108 := ⟨Tryz.f108, Tryz.func108, z, by decide⟩
theorem FY : bV Tryz.prog 67 := ⟨Tryz.f67, Tryz.func67, z, by decide⟩
theorem Fp : bV Tryz.prog 68 := ⟨Tryz.f68, Tryz.func68, z, by decide⟩
theorem xY : bV Tryz.prog 32 := ⟨Tryz.f32, Tryz.func32, z, by decide⟩
theorem cT : fL Tryz.prog 69 y 2 48 [S N 0 0, S N 0 0] := fV (by kernel_rfl)
theorem CX : qQ Tryz.prog 69 [(0, 1), (1, 1)] := kS (by kernel_rfl)
theorem eE : jh Tryz.prog 69 1 1 := cV (by kernel_rfl)
theorem kq : fL Tryz.prog 67 n 1 24 [S N 0 0] := fV (by kernel_rfl)
theorem vi : bV Tryz.prog 44 := ⟨Tryz.f44, Tryz.func44, z, by decide⟩
theorem iR : isSl Tryz.prog 67 31 := lC (by kernel_rfl)
theorem bx : fL Tryz.prog 30 y 2 32 [S N 0 0, I J 0] := fV (by kernel_rfl)
theorem zA : bV Tryz.prog 70 := ⟨Tryz.f70, Tryz.func70, z, by decide⟩
theorem Ex : qQ Tryz.prog 30 [(0, 1), (1, 1)] := kS (by kernel_rfl)
theorem yW : bV Tryz.prog 126 := ⟨Tryz.f126, Tryz.func126, z, by decide⟩
theorem ca : fL Tryz.prog 71 y 12 160 [B n, I J 0, I J 0, S N 0 0, I J 0, S N 0 0, S N 0 0, I J 0, S N 0 0, I J 0, I J 0, I J 0] := fV (by kernel_rfl)
theorem pN : qQ Tryz.prog 71 [(0, 1), (1, 2), (3, 1), (4, 1), (5, 2), (7, 1), (8, 1), (9, 1), (10, 1), (11, 1)] := kS (by kernel_rfl)
theorem dX : isSl Tryz.prog 28 71 := lC (by kernel_rfl)
theorem gm : fL Tryz.prog 33 y 2 32 [S N 0 0, I J 0] := fV (by kernel_rfl)
theorem GM : qQ Tryz.prog 33 [(0, 1), (1, 1)] := kS (by kernel_rfl)
theorem jW : jh Tryz.prog 33 0 0 := cV (by kernel_rfl)
theorem oR : jh Tryz.prog 33 1 1 := cV (by kernel_rfl)
theorem us3 : (Tryz.prog.underlying 3).isSome = y := by kernel_rfl
theorem in5 : sT Tryz.prog 5 K := rQ (by kernel_rfl)
theorem jz : jh Tryz.prog 69 0 0 := cV (by kernel_rfl)
theorem vR : bV Tryz.prog 69 := ⟨Tryz.f69, Tryz.func69, z, by decide⟩
theorem mf : jh Tryz.prog 71 1 1 := cV (by kernel_rfl)
theorem cM : fL Tryz.prog 66 y 2 16 [I J 0, I J 0] := fV (by kernel_rfl)
theorem wE : qQ Tryz.prog 66 [(0, 1), (1, 1)] := kS (by kernel_rfl)
theorem Fe (a c : Int) (d e : Int) : BK Tryz.prog 66 [I J a, I J d] [I J c, I J e] = U (a == c && (d == e && y)) := by kernel_rfl
theorem ik : jh Tryz.prog 71 2 3 := cV (by kernel_rfl)
theorem pR : jh Tryz.prog 71 3 4 := cV (by kernel_rfl)
theorem gk : jh Tryz.prog 71 4 5 := cV (by kernel_rfl)
theorem qo : jh Tryz.prog 71 6 8 := cV (by kernel_rfl)
theorem nV : jh Tryz.prog 71 5 7 := cV (by kernel_rfl)
theorem AR : bV Tryz.prog 71 := ⟨Tryz.f71, Tryz.func71, z, by decide⟩
theorem jI : jh Tryz.prog 66 0 0 := cV (by kernel_rfl)
theorem mR : jh Tryz.prog 66 1 1 := cV (by kernel_rfl)
theorem xE : bV Tryz.prog 72 := ⟨Tryz.f72, Tryz.func72, z, by decide⟩
theorem cc : jh Tryz.prog 30 0 0 := cV (by kernel_rfl)
theorem eC : fL Tryz.prog 28 n 1 24 [S N 0 0] := fV (by kernel_rfl)
theorem yi : bV Tryz.prog 73 := ⟨Tryz.f73, Tryz.func73, z, by decide⟩
theorem nz : jh Tryz.prog 71 8 10 := cV (by kernel_rfl)
theorem nt : jh Tryz.prog 30 1 1 := cV (by kernel_rfl)
theorem lE : jh Tryz.prog 71 7 9 := cV (by kernel_rfl)
theorem oT : jh Tryz.prog 71 9 11 := cV (by kernel_rfl)
theorem mg : jh Tryz.prog 71 0 0 := cV (by kernel_rfl)
theorem ty4 : fL Tryz.prog 4 n 1 1 [B n] := fV (by kernel_rfl)
theorem GD : bV Tryz.prog 34 := ⟨Tryz.f34, Tryz.func34, z, by decide⟩
theorem Gs : bV Tryz.prog 35 := ⟨Tryz.f35, Tryz.func35, z, by decide⟩
theorem Gt : bV Tryz.prog 36 := ⟨Tryz.f36, Tryz.func36, z, by decide⟩
theorem vT : jh Tryz.prog 130 0 0 := cV (by kernel_rfl)
theorem wD : jh Tryz.prog 130 1 1 := cV (by kernel_rfl)
theorem yV : jh Tryz.prog 130 2 2 := cV (by kernel_rfl)
theorem vP : jh Tryz.prog 130 3 3 := cV (by kernel_rfl)
theorem wv : jh Tryz.prog 130 4 4 := cV (by kernel_rfl)
theorem rA : jh Tryz.prog 130 5 5 := cV (by kernel_rfl)
theorem FG : bV Tryz.prog 168 := ⟨Tryz.f168, Tryz.func168, z, by decide⟩
theorem fn8 : bV Tryz.prog 8 := ⟨Tryz.f8, Tryz.func8, z, by decide⟩
theorem Am : bV Tryz.prog 152 := ⟨Tryz.f152, Tryz.func152, z, by decide⟩
theorem Fk : bV Tryz.prog 153 := ⟨Tryz.f153, Tryz.func153, z, by decide⟩
theorem DG : bV Tryz.prog 154 := ⟨Tryz.f154, Tryz.func154, z, by decide⟩
theorem qG : jh Tryz.prog 152 0 0 := cV (by kernel_rfl)
theorem pB : jh Tryz.prog 152 1 1 := cV (by kernel_rfl)
theorem Dm : bV Tryz.prog 147 := ⟨Tryz.f147, Tryz.func147, z, by decide⟩
theorem Dq : bV Tryz.prog 142 := ⟨Tryz.f142, Tryz.func142, z, by decide⟩
theorem bR : fL Tryz.prog 152 y 2 32 [S N 0 0, I J 0] := fV (by kernel_rfl)
theorem DE : qQ Tryz.prog 152 [(0, 1), (1, 1)] := kS (by kernel_rfl)
theorem Dw : bV Tryz.prog 193 := ⟨Tryz.f193, Tryz.func193, z, by decide⟩
theorem DK : bV Tryz.prog 183 := ⟨Tryz.f183, Tryz.func183, z, by decide⟩
theorem Ca : bV Tryz.prog 16 := ⟨Tryz.f16, Tryz.func16, z, by decide⟩
theorem Fm : bV Tryz.prog 169 := ⟨Tryz.f169, Tryz.func169, z, by decide⟩
theorem FK : bV Tryz.prog 155 := ⟨Tryz.f155, Tryz.func155, z, by decide⟩
theorem nW : isSl Tryz.prog 155 66 := lC (by kernel_rfl)
theorem nD : jh Tryz.prog 186 0 0 := cV (by kernel_rfl)
theorem mS : jh Tryz.prog 186 1 1 := cV (by kernel_rfl)
theorem cx : fL Tryz.prog 186 y 2 16 [I J 0, I J 0] := fV (by kernel_rfl)
theorem vI : bV Tryz.prog 186 := ⟨Tryz.f186, Tryz.func186, z, by decide⟩
theorem sW : qQ Tryz.prog 186 [(0, 1), (1, 1)] := kS (by kernel_rfl)
theorem Ff : bV Tryz.prog 204 := ⟨Tryz.f204, Tryz.func204, z, by decide⟩
theorem DD : bV Tryz.prog 176 := ⟨Tryz.f176, Tryz.func176, z, by decide⟩
theorem yE : bV Tryz.prog 177 := ⟨Tryz.f177, Tryz.func177, z, by decide⟩
theorem DI : bV Tryz.prog 202 := ⟨Tryz.f202, Tryz.func202, z, by decide⟩
theorem EU : bV Tryz.prog 203 := ⟨Tryz.f203, Tryz.func203, z, by decide⟩
theorem vF : bV Tryz.prog 196 := ⟨Tryz.f196, Tryz.func196, z, by decide⟩
theorem Do : bV Tryz.prog 201 := ⟨Tryz.f201, Tryz.func201, z, by decide⟩
theorem Dr : bV Tryz.prog 199 := ⟨Tryz.f199, Tryz.func199, z, by decide⟩
theorem xb : bV Tryz.prog 190 := ⟨Tryz.f190, Tryz.func190, z, by decide⟩
theorem FL : bV Tryz.prog 197 := ⟨Tryz.f197, Tryz.func197, z, by decide⟩
theorem BI : bV Tryz.prog 198 := ⟨Tryz.f198, Tryz.func198, z, by decide⟩
theorem ui : bV Tryz.prog 188 := ⟨Tryz.f188, Tryz.func188, z, by decide⟩
theorem Bm : bV Tryz.prog 187 := ⟨Tryz.f187, Tryz.func187, z, by decide⟩
theorem EJ : bV Tryz.prog 194 := ⟨Tryz.f194, Tryz.func194, z, by decide⟩
theorem AN : bV Tryz.prog 195 := ⟨Tryz.f195, Tryz.func195, z, by decide⟩
theorem wU : bV Tryz.prog 172 := ⟨Tryz.f172, Tryz.func172, z, by decide⟩
theorem tQ : jh Tryz.prog 188 1 2 := cV (by kernel_rfl)
theorem oJ : isSl Tryz.prog 203 188 := lC (by kernel_rfl)
theorem jR : fL Tryz.prog 188 y 4 32 [I J 0, I J 0, I J 0, I J 0] := fV (by kernel_rfl)
theorem xz : bV Tryz.prog 184 := ⟨Tryz.f184, Tryz.func184, z, by decide⟩
theorem DB : qQ Tryz.prog 188 [(0, 2), (2, 2)] := kS (by kernel_rfl)
theorem FB : bV Tryz.prog 185 := ⟨Tryz.f185, Tryz.func185, z, by decide⟩
theorem EI : bV Tryz.prog 170 := ⟨Tryz.f170, Tryz.func170, z, by decide⟩
theorem FR : bV Tryz.prog 200 := ⟨Tryz.f200, Tryz.func200, z, by decide⟩
theorem yy : bV Tryz.prog 171 := ⟨Tryz.f171, Tryz.func171, z, by decide⟩
theorem Fu : bV Tryz.prog 189 := ⟨Tryz.f189, Tryz.func189, z, by decide⟩
theorem Dy : bV Tryz.prog 191 := ⟨Tryz.f191, Tryz.func191, z, by decide⟩
theorem FH : bV Tryz.prog 173 := ⟨Tryz.f173, Tryz.func173, z, by decide⟩
theorem EC : bV Tryz.prog 174 := ⟨Tryz.f174, Tryz.func174, z, by decide⟩
theorem CN : jh Tryz.prog 130 6 6 := cV (by kernel_rfl)
theorem Fl : bV Tryz.prog 156 := ⟨Tryz.f156, Tryz.func156, z, by decide⟩
theorem EG : bV Tryz.prog 157 := ⟨Tryz.f157, Tryz.func157, z, by decide⟩
theorem CF : jh Tryz.prog 188 0 0 := cV (by kernel_rfl)
theorem DF : bV Tryz.prog 138 := ⟨Tryz.f138, Tryz.func138, z, by decide⟩
theorem rR : bV Tryz.prog 140 := ⟨Tryz.f140, Tryz.func140, z, by decide⟩
theorem Fg : bV Tryz.prog 192 := ⟨Tryz.f192, Tryz.func192, z, by decide⟩
theorem EK : bV Tryz.prog 175 := ⟨Tryz.f175, Tryz.func175, z, by decide⟩
theorem yT : bV Tryz.prog 159 := ⟨Tryz.f159, Tryz.func159, z, by decide⟩
theorem Bg : bV Tryz.prog 158 := ⟨Tryz.f158, Tryz.func158, z, by decide⟩
theorem Fq : bV Tryz.prog 160 := ⟨Tryz.f160, Tryz.func160, z, by decide⟩
theorem Ds : bV Tryz.prog 178 := ⟨Tryz.f178, Tryz.func178, z, by decide⟩
theorem vw : bV Tryz.prog 139 := ⟨Tryz.f139, Tryz.func139, z, by decide⟩
theorem xj : bV Tryz.prog 161 := ⟨Tryz.f161, Tryz.func161, z, by decide⟩
theorem pk : bV Tryz.prog 128 := ⟨Tryz.f128, Tryz.func128, z, by decide⟩
theorem ES : bV Tryz.prog 179 := ⟨Tryz.f179, Tryz.func179, z, by decide⟩
theorem Dt : bV Tryz.prog 180 := ⟨Tryz.f180, Tryz.func180, z, by decide⟩
theorem Dn : bV Tryz.prog 162 := ⟨Tryz.f162, Tryz.func162, z, by decide⟩
theorem FI : bV Tryz.prog 137 := ⟨Tryz.f137, Tryz.func137, z, by decide⟩
theorem FD : bV Tryz.prog 141 := ⟨Tryz.f141, Tryz.func141, z, by decide⟩
theorem yM : bV Tryz.prog 127 := ⟨Tryz.f127, Tryz.func127, z, by decide⟩
theorem FJ : bV Tryz.prog 143 := ⟨Tryz.f143, Tryz.func143, z, by decide⟩
theorem FP : bV Tryz.prog 144 := ⟨Tryz.f144, Tryz.func144, z, by decide⟩
theorem Fv : bV Tryz.prog 145 := ⟨Tryz.f145, Tryz.func145, z, by decide⟩
theorem EO : bV Tryz.prog 146 := ⟨Tryz.f146, Tryz.func146, z, by decide⟩
theorem EL : bV Tryz.prog 98 := ⟨Tryz.f98, Tryz.func98, z, by decide⟩
theorem FW : bV Tryz.prog 124 := ⟨Tryz.f124, Tryz.func124, z, by decide⟩
theorem By : isSl Tryz.prog 132 33 := lC (by kernel_rfl)
theorem Er : bV Tryz.prog 62 := ⟨Tryz.f62, Tryz.func62, z, by decide⟩
theorem Gk : bV Tryz.prog 82 := ⟨Tryz.f82, Tryz.func82, z, by decide⟩
theorem mC : bV Tryz.prog 125 := ⟨Tryz.f125, Tryz.func125, z, by decide⟩
theorem Gf : bV Tryz.prog 95 := ⟨Tryz.f95, Tryz.func95, z, by decide⟩
theorem Ck : bV Tryz.prog 96 := ⟨Tryz.f96, Tryz.func96, z, by decide⟩
theorem Gu : bV Tryz.prog 97 := ⟨Tryz.f97, Tryz.func97, z, by decide⟩
theorem Gg : bV Tryz.prog 99 := ⟨Tryz.f99, Tryz.func99, z, by decide⟩
theorem Gz : bV Tryz.prog 57 := ⟨Tryz.f57, Tryz.func57, z, by decide⟩
theorem Gl : bV Tryz.prog 59 := ⟨Tryz.f59, Tryz.func59, z, by decide⟩
theorem Gc : bV Tryz.prog 60 := ⟨Tryz.f60, Tryz.func60, z, by decide⟩
theorem Gr : bV Tryz.prog 61 := ⟨Tryz.f61, Tryz.func61, z, by decide⟩
theorem Gd : bV Tryz.prog 24 := ⟨Tryz.f24, Tryz.func24, z, by decide⟩
theorem Gq : bV Tryz.prog 26 := ⟨Tryz.f26, Tryz.func26, z, by decide⟩
theorem nP : bV Tryz.prog 39 := ⟨Tryz.f39, Tryz.func39, z, by decide⟩
theorem FA : bV Tryz.prog 132 := ⟨Tryz.f132, Tryz.func132, z, by decide⟩
theorem Dv : bV Tryz.prog 106 := ⟨Tryz.f106, Tryz.func106, z, by decide⟩
theorem EY : bV Tryz.prog 109 := ⟨Tryz.f109, Tryz.func109, z, by decide⟩
theorem FM : bV Tryz.prog 131 := ⟨Tryz.f131, Tryz.func131, z, by decide⟩
theorem BD : bV Tryz.prog 103 := ⟨Tryz.f103, Tryz.func103, z, by decide⟩
theorem FZ : bV Tryz.prog 130 := ⟨Tryz.f130, Tryz.func130, z, by decide⟩
theorem AL : bV Tryz.prog 129 := ⟨Tryz.f129, Tryz.func129, z, by decide⟩
theorem AF : bV Tryz.prog 104 := ⟨Tryz.f104, Tryz.func104, z, by decide⟩
theorem Ez : bV Tryz.prog 76 := ⟨Tryz.f76, Tryz.func76, z, by decide⟩
theorem EP : bV Tryz.prog 107 := ⟨Tryz.f107, Tryz.func107, z, by decide⟩
theorem DS : bV Tryz.prog 65 := ⟨Tryz.f65, Tryz.func65, z, by decide⟩
theorem Fx : bV Tryz.prog 136 := ⟨Tryz.f136, Tryz.func136, z, by decide⟩
theorem ya : bV Tryz.prog 38 := ⟨Tryz.f38, Tryz.func38, z, by decide⟩
theorem DC : bV Tryz.prog 118 := ⟨Tryz.f118, Tryz.func118, z, by decide⟩
theorem Dx : bV Tryz.prog 101 := ⟨Tryz.f101, Tryz.func101, z, by decide⟩
theorem vf : bV Tryz.prog 40 := ⟨Tryz.f40, Tryz.func40, z, by decide⟩
theorem EM : bV Tryz.prog 119 := ⟨Tryz.f119, Tryz.func119, z, by decide⟩
theorem EV : bV Tryz.prog 91 := ⟨Tryz.f91, Tryz.func91, z, by decide⟩
theorem Gv : bV Tryz.prog 87 := ⟨Tryz.f87, Tryz.func87, z, by decide⟩
theorem EE : bV Tryz.prog 100 := ⟨Tryz.f100, Tryz.func100, z, by decide⟩
theorem EW : bV Tryz.prog 102 := ⟨Tryz.f102, Tryz.func102, z, by decide⟩
theorem EX : bV Tryz.prog 105 := ⟨Tryz.f105, Tryz.func105, z, by decide⟩
theorem EZ : bV Tryz.prog 31 := ⟨Tryz.f31, Tryz.func31, z, by decide⟩
theorem GA : bV Tryz.prog 63 := ⟨Tryz.f63, Tryz.func63, z, by decide⟩
theorem GI : bV Tryz.prog 64 := ⟨Tryz.f64, Tryz.func64, z, by decide⟩
theorem Gi : bV Tryz.prog 86 := ⟨Tryz.f86, Tryz.func86, z, by decide⟩
theorem EH : bV Tryz.prog 51 := ⟨Tryz.f51, Tryz.func51, z, by decide⟩
theorem ED : bV Tryz.prog 42 := ⟨Tryz.f42, Tryz.func42, z, by decide⟩
theorem Fz : bV Tryz.prog 28 := ⟨Tryz.f28, Tryz.func28, z, by decide⟩
theorem fn5 : bV Tryz.prog 5 := ⟨Tryz.f5, Tryz.func5, z, by decide⟩
theorem GQ : bV Tryz.prog 27 := ⟨Tryz.f27, Tryz.func27, z, by decide⟩
theorem GP : bV Tryz.prog 46 := ⟨Tryz.f46, Tryz.func46, z, by decide⟩
theorem GO : bV Tryz.prog 45 := ⟨Tryz.f45, Tryz.func45, z, by decide⟩
theorem EQ : bV Tryz.prog 66 := ⟨Tryz.f66, Tryz.func66, z, by decide⟩
theorem uh : isSl Tryz.prog 36 41 := lC (by kernel_rfl)
theorem pA : fL Tryz.prog 41 y 2 32 [I J 0, S N 0 0] := fV (by kernel_rfl)
theorem FF : bV Tryz.prog 14 := ⟨Tryz.f14, Tryz.func14, z, by decide⟩
theorem Gh : qQ Tryz.prog 41 [(0, 1), (1, 1)] := kS (by kernel_rfl)
theorem pZ : jh Tryz.prog 41 1 1 := cV (by kernel_rfl)
theorem DW : bV Tryz.prog 29 := ⟨Tryz.f29, Tryz.func29, z, by decide⟩
theorem Gx : bV Tryz.prog 30 := ⟨Tryz.f30, Tryz.func30, z, by decide⟩
theorem Bz : jh Tryz.prog 41 0 0 := cV (by kernel_rfl)
theorem Fs9 : (Tryz.prog.underlying 110).isSome = y := by kernel_rfl
theorem GG : bV Tryz.prog 75 := ⟨Tryz.f75, Tryz.func75, z, by decide⟩
theorem CM : bV Tryz.prog 10 := ⟨Tryz.f10, Tryz.func10, z, by decide⟩
theorem GB : sT Tryz.prog 80 .u64 := rQ (by kernel_rfl)
theorem Gn : bV Tryz.prog 37 := ⟨Tryz.f37, Tryz.func37, z, by decide⟩
theorem Gp : bV Tryz.prog 41 := ⟨Tryz.f41, Tryz.func41, z, by decide⟩
theorem FE : bV Tryz.prog 43 := ⟨Tryz.f43, Tryz.func43, z, by decide⟩
theorem Gw : bV Tryz.prog 80 := ⟨Tryz.f80, Tryz.func80, z, by decide⟩
theorem Ge : bV Tryz.prog 47 := ⟨Tryz.f47, Tryz.func47, z, by decide⟩
theorem fn6 : bV Tryz.prog 6 := ⟨Tryz.f6, Tryz.func6, z, by decide⟩
theorem fn7 : bV Tryz.prog 7 := ⟨Tryz.f7, Tryz.func7, z, by decide⟩
theorem fn9 : bV Tryz.prog 9 := ⟨Tryz.f9, Tryz.func9, z, by decide⟩
theorem Gm : bV Tryz.prog 11 := ⟨Tryz.f11, Tryz.func11, z, by decide⟩
theorem GC : bV Tryz.prog 12 := ⟨Tryz.f12, Tryz.func12, z, by decide⟩
theorem GJ : bV Tryz.prog 13 := ⟨Tryz.f13, Tryz.func13, z, by decide⟩
theorem GR : bV Tryz.prog 15 := ⟨Tryz.f15, Tryz.func15, z, by decide⟩
theorem Gb : bV Tryz.prog 17 := ⟨Tryz.f17, Tryz.func17, z, by decide⟩
theorem wS (w : World) {p0 : List Int} {a_0 : Option Addr} {n_0 c_0 : Nat} {r : Bool} (H : ry p0 = U r) (a : (ae e8 5).rd w [] p0 [S a_0 n_0 c_0]) :
    Calls Tryz.prog 5 #[S a_0 n_0 c_0] w (fun en w' => en = .returned (B r) ∧ Ext [] w w') := by
 obtain rfl := fM a
 unfold ry at H
 exact aH Tryz.func5 z Tryz.ntmps5 z (St.init w []) <| sR <| oP z <| nR <| aa [.p, .lenS 22 5 qN, .p, .p] z <| nT <| xr 2 z (by cases H; exact q1)
theorem vn (w : World) {d : List Nat} {p0 : List Int} {a_0 : Option Addr} {n_0 c_0 : Nat} {r : ao} (H : ox p0 = U r) (HS : St w d [] w) (h : (ae e8 5).rd w d p0 [S a_0 n_0 c_0]) :
    Calls Tryz.prog 24 #[S a_0 n_0 c_0] w (fun en w' => ∃ v, en = .returned v ∧ ∃ (k : Nat), v = O (U ⟨k, 0, N⟩) ∧ St w d [b k 91 [S a_0 n_0 c_0, I J r.i_, I J r.h_]] w') := by
 obtain rfl := fM h
 unfold ox at H
 refine aH Tryz.func24 z Tryz.ntmps24 z (HS) <| sR <| oP z <| nR <| aa [.p, .lenS 22 5 qN, .p, .p] z <| nQ <| ak <| sR <| oP z <| nQ <| az <| CW.at (hI (fun (c : Int) (a : Int) => St w d []) (fun c a => [(0, S a_0 p0.length c_0), (3, I J c), (4, I J a)]) (fun kk => fun c a => iC p0 kk c a = U r) (fun _ _ H => ?_) (fun o i c a H => ?_) be (J.wrap (26583 + (p0.length : Int))) (0) (H)) (ss [] z z) (sb z)
 ·unfold iC at H
  exact absurd H (by simp)
 ·unfold iC at H
  refine ak <| sR <| aa [.p, .p, .lenS 22 5 qN, .p, .p] z <| aS [(15, B ((decide (a < (p0.length : Int))) && (decide (a < 4000)))), (0, S a_0 p0.length c_0), (3, I J c), (4, I J a)] 3 ?_ (fun key => OW.sub (R := [(0, S a_0 p0.length c_0), (3, I J c), (4, I J a), (12, B (decide (a < (p0.length : Int))))]) ?_ (sb z))
  ·refine nQ <| cI H z (fun H => ?_) (fun H => ?_)
   ·exact ar <| ax <| ak <| az <| aW <| aa [.p, .p, .p, .p] z <| bE H fun l f H => bo (e := e8) (xs := p0) (j := a) z z z z z qN ty5 z (ad h) f (by rw [Nat.mul_one]) <| o1 z (aD z z ty5 (bD (ad h) f)) <| aa [.cv 5 3 J us5 in3, .p, .p, .p, .p] z <| ay <| cd <| ax <| aW <| aa [.p, .p, .p] z <| ay <| cD (RW.at (i (bi .and J (J.wrap ((J.wrap ((J.wrap (c * 131)) + (J.wrap l))) + 7)) 1073741823) (J.wrap (a + 1)) (H)) (ss [] z z) (sb z))
   ·exact bF <| aN <| aR <| aO <| ax <| sR <| oPP z <| o1 z (bL [(0, [S a_0 p0.length c_0]), (2, [I J c])] [S a_0 p0.length c_0, I J 0, I J c] z z GL GE z ⟨z, z, nl z, z, z, nl z, Y⟩ z) <| ob _ z fun g => oP z <| nT <| bg (rs := [.tmp 2]) (vs := [O (U ⟨g, 0, N⟩)]) z ⟨z, Y⟩ (fun w' hw' => by
     obtain rfl := ai H
     exact ⟨_, z, g, z, hw'.sel [0] z z⟩)
  ·generalize (decide (a < (p0.length : Int))) = m at key ⊢
   cases m
   ·exact aa [.p, .p, .p] z <| OW.sub key (sb z)
   ·exact oPP z <| oP z <| OW.sub key (sb z)
theorem jD (w : World) {c : List Nat} {p0b : List Int} {p0 : ao} {b_0 : Nat} {a_p0b : Option Addr} {n_p0b c_p0b : Nat} {r : Int × ao} (H : iw p0b p0 = U r) (HS : St w c [b b_0 91 [S a_p0b p0b.length c_p0b, I J p0.i_, I J p0.h_]] w) (g_p0b : (ae e8 5).rd w c p0b [S a_p0b n_p0b c_p0b]) :
    Calls Tryz.prog 94 #[O (U ⟨b_0, 0, N⟩)] w (fun en w' => ∃ v, en = .returned v ∧ v = I J r.1 ∧ St w c [b b_0 91 [S a_p0b n_p0b c_p0b, I J r.2.i_, I J r.2.h_]] w') := by
 obtain rfl := fM g_p0b
 unfold iw at H
 refine aH Tryz.func94 z Tryz.ntmps94 z (HS) <| sR <| oP z <| nR <| aa [.p, .p, .p, .fa 91 2 2 wb] z <| o1 z (r1 2 0 z ty3 z) <| aa [.p, .p, .p, .fa 91 2 2 wb] z <| sC 2 [I J (J.wrap ((J.wrap (p0.h_ * 6364136223846793005)) + 1442695040888963407))] [_, _, _] 0 z ty3 z <| nQ <| ak <| dW cj (by kernel_rfl) <| aa [.p, .p, .fa 91 2 2 wb] z <| o1 z (r1 2 0 z ty3 z) <| aa [.p, .p, .p, .fa 91 2 2 wb] z <| o1 z (r1 2 0 z ty3 z) <| aa [.p, .p, .p, .p] z <| cC <| ax <| ak <| ak <| dW cj (by kernel_rfl) <| aa [.p, .p, .fa 91 1 1 wd] z <| o1 z (r1 1 0 z ty3 z) <| aa [.p, .p, .fa 91 0 0 BR] z <| o1 z (r1 0 0 z xa z) <| aa [.lenS 22 5 qN, .p] z <| cC <| ax <| cI H z (fun H => ?_) (fun H => ?_)
 ·exact ak <| dW cj (by kernel_rfl) <| aa [.p, .p, .p, .fa 91 0 0 BR] z <| o1 z (r1 0 0 z xa z) <| aa [.p, .p, .fa 91 1 1 wd] z <| o1 z (r1 1 0 z ty3 z) <| bE H fun d a H => bo (e := e8) (xs := p0b) (j := p0.i_) z z z z z qN ty5 z (ad g_p0b) a (by rw [Nat.mul_one]) <| o1 z (aD z z ty5 (bD (ad g_p0b) a)) <| aa [.cv 5 3 J us5 in3, .p, .p, .p] z <| cC <| ax <| aW <| aa [.p, .p, .p, .fa 91 1 1 wd] z <| o1 z (r1 1 0 z ty3 z) <| aa [.p, .p, .fa 91 1 1 wd] z <| sC 1 [I J (J.wrap (p0.i_ + 1))] [_, _, _] 0 z ty3 z <| nR <| oPP z <| nT <| bg (rs := [.tmp 2]) (vs := [I J (bi .and J (J.wrap ((bi .and J (bi .xor J (eA J (J.wrap ((J.wrap (p0.h_ * 6364136223846793005)) + 1442695040888963407)) 33) (eA J (J.wrap ((J.wrap (p0.h_ * 6364136223846793005)) + 1442695040888963407)) 45)) 255) + (J.wrap d))) 255)]) z ⟨z, Y⟩ (fun w' hw' => by
   obtain rfl := ai H
   exact ⟨_, z, z, hw'.sel [0] z z⟩)
 ·exact ar <| ax <| sR <| oPP z <| nT <| bg (rs := [.tmp 2]) (vs := [I J (bi .and J (bi .xor J (eA J (J.wrap ((J.wrap (p0.h_ * 6364136223846793005)) + 1442695040888963407)) 33) (eA J (J.wrap ((J.wrap (p0.h_ * 6364136223846793005)) + 1442695040888963407)) 45)) 255)]) z ⟨z, Y⟩ (fun w' hw' => by
   obtain rfl := ai H
   exact ⟨_, z, z, hw'.sel [0] z z⟩)
theorem cJ (w : World) {d : List Nat} {p0b : List Int} {p0 : ao} {p1 : Int} {b_0 : Nat} {a_p0b : Option Addr} {n_p0b c_p0b : Nat} {r : Int × ao} (H : cP p0b p0 p1 = U r) (HS : St w d [b b_0 91 [S a_p0b p0b.length c_p0b, I J p0.i_, I J p0.h_]] w) (g_p0b : (ae e8 5).rd w d p0b [S a_p0b n_p0b c_p0b]) :
    Calls Tryz.prog 55 #[O (U ⟨b_0, 0, N⟩), I J p1] w (fun en w' => ∃ v, en = .returned v ∧ v = I J r.1 ∧ St w d [b b_0 91 [S a_p0b n_p0b c_p0b, I J r.2.i_, I J r.2.h_]] w') := by
 obtain rfl := fM g_p0b
 unfold cP at H
 refine aH Tryz.func55 z Tryz.ntmps55 z (HS) <| sR <| oP z <| nQ <| ak <| sR <| oPP z <| nQ <| cI H z (fun H => ?_) (fun H => ?_)
 ·exact sR <| oP z <| nT <| am <| bg (rs := [.tmp 4]) (vs := [I J 0]) z ⟨z, Y⟩ (fun w' hw' => by
   obtain rfl := ai H
   exact ⟨_, z, z, hw'.sel [0] z z⟩)
 ·refine ar <| ax <| ak <| sR <| oPP z <| nQ <| cI H z (fun H => ?_) (fun H => ?_)
  ·refine sR <| oP z <| bE H fun G s H => au z zU z z z z (fun c a => jD c s (a.carve [0] z z) (rdB [0] z z a g_p0b)) fun L c e a f => ?_
   obtain ⟨rfl, g⟩ := f
   refine ⟨St w d [_, _], a.comp [0] z z g, fun _ _ => Y, ?_⟩
   exact oP z <| bE H fun t u H => o1 z (pY z z z u) <| oP z <| nT <| am <| bg (rs := [.tmp 4]) (vs := [I J t]) z ⟨z, Y⟩ (fun w' hw' => by
    obtain rfl := ai H
    exact ⟨_, z, z, hw'.sel [1] z z⟩)
  ·refine ar <| ax <| sR <| oP z <| bE H fun M x H => au z zU z z z z (fun c a => jD c x (a.carve [0] z z) (rdB [0] z z a g_p0b)) fun P c e a h => ?_
   obtain ⟨rfl, i⟩ := h
   refine ⟨St w d [_, _], a.comp [0] z z i, fun _ _ => Y, ?_⟩
   refine oP z <| nR <| oP z <| bE H fun Q A H => au z zU z z z z (fun c a => jD c A (a.carve [1] z z) (rdB [1] z z a g_p0b)) fun R c e a j => ?_
   obtain ⟨rfl, k⟩ := j
   refine ⟨St w d [_, _, _], a.comp [1] z z k, fun _ _ => Y, ?_⟩
   refine oP z <| nQ <| ak <| CW.weak (C' := St w d [_]) ?_ (ss [2] z z)
   refine aW <| oP z <| bE H fun X C H => au z zU z z z z (fun c a => jD c C (a.carve [0] z z) (rdB [0] z z a g_p0b)) fun Z c e a l => ?_
   obtain ⟨rfl, m⟩ := l
   refine ⟨St w d [_, _], a.comp [0] z z m, fun _ _ => Y, ?_⟩
   refine oP z <| nR <| oP z <| bE H fun a0 D H => au z zU z z z z (fun c a => jD c D (a.carve [1] z z) (rdB [1] z z a g_p0b)) fun a1 c e a o => ?_
   obtain ⟨rfl, q⟩ := o
   refine ⟨St w d [_, _, _], a.comp [1] z z q, fun _ _ => Y, ?_⟩
   refine oP z <| nQ <| ak <| CW.weak (C' := St w d [_]) ?_ (ss [2] z z)
   exact aW <| aa [.p, .p, .p, .p, .p, .p, .p, .p, .p, .p, .p] z <| bE H fun E F H => o1 z (pY z z z F) <| oP z <| nT <| bg (rs := [.tmp 4]) (vs := [I J E]) z ⟨z, Y⟩ (fun w' hw' => by
    obtain rfl := ai H
    exact ⟨_, z, z, hw'.sel [0] z z⟩)
theorem gL (w : World) {c : List Nat} {p0b : List Int} {p0 : ao} {p1 : Int} {b_0 : Nat} {a_p0b : Option Addr} {n_p0b c_p0b : Nat} {r : Bool × ao} (H : gi p0b p0 p1 = U r) (HS : St w c [b b_0 91 [S a_p0b p0b.length c_p0b, I J p0.i_, I J p0.h_]] w) (g_p0b : (ae e8 5).rd w c p0b [S a_p0b n_p0b c_p0b]) :
    Calls Tryz.prog 54 #[O (U ⟨b_0, 0, N⟩), I J p1] w (fun en w' => ∃ v, en = .returned v ∧ v = B r.1 ∧ St w c [b b_0 91 [S a_p0b n_p0b c_p0b, I J r.2.i_, I J r.2.h_]] w') := by
 obtain rfl := fM g_p0b
 unfold gi at H
 refine aH Tryz.func54 z Tryz.ntmps54 z (HS) <| sR <| oP z <| nR <| oPP z <| bE H fun f g H => au z qq z z z z (fun h a => cJ h g (a.carve [0] z z) (rdB [0] z z a g_p0b)) fun i h j a d => ?_
 obtain ⟨rfl, e⟩ := d
 refine ⟨St w c [_, _], a.comp [0] z z e, fun _ _ => Y, ?_⟩
 exact oPP z <| nT <| bg (rs := [.tmp 4]) (vs := [B (f.1 == 0)]) z ⟨z, Y⟩ (fun w' hw' => by
  obtain rfl := ai H
  exact ⟨_, z, z, hw'.sel [1] z z⟩)
theorem bb (w : World) {c : List Nat} {p0b : List Int} {p0 : ao} {p1 : List Int} {b_0 : Nat} {a_p0b : Option Addr} {n_p0b c_p0b : Nat} {a_1 : Option Addr} {n_1 c_1 : Nat} {r : Int × ao} (H : bP p0b p0 p1 = U r) (HS : St w c [b b_0 91 [S a_p0b p0b.length c_p0b, I J p0.i_, I J p0.h_]] w) (g_p0b : (ae e8 5).rd w c p0b [S a_p0b n_p0b c_p0b]) (f : (ae eI 3).rd w c p1 [S a_1 n_1 c_1]) :
    Calls Tryz.prog 58 #[O (U ⟨b_0, 0, N⟩), S a_1 n_1 c_1] w (fun en w' => ∃ v, en = .returned v ∧ v = I J r.1 ∧ St w c [b b_0 91 [S a_p0b n_p0b c_p0b, I J r.2.i_, I J r.2.h_]] w') := by
 obtain rfl := fM g_p0b
 obtain rfl := fM f
 unfold bP at H
 refine aH Tryz.func58 z Tryz.ntmps58 z (HS) <| sR <| oP z <| nR <| aa [.p, .p, .p, .lenS 31 3 aP] z <| bE H fun i k H => au z qq z z z z (fun l a => cJ l k (a.carve [0] z z) (rdB [0] z z a g_p0b)) fun o l q a g => ?_
 obtain ⟨rfl, h⟩ := g
 refine ⟨St w c [_, _], a.comp [0] z z h, fun _ _ => Y, ?_⟩
 exact bE H fun m d H => bo (e := eI) (xs := p1) (j := i.1) z z z z z aP ty3 z (ad f) d (by rw [Nat.mul_one]) <| o1 z (aD z z ty3 (bD (ad f) d)) <| oP z <| nT <| bg (rs := [.tmp 4]) (vs := [I J m]) z ⟨z, Y⟩ (fun w' hw' => by
  obtain rfl := ai H
  exact ⟨_, z, z, hw'.sel [1] z z⟩)
theorem qO (w : World) {t : List Nat} {p0b : List Int} {p0 : ao} {p1 : Int} {b_0 : Nat} {a_p0b : Option Addr} {n_p0b c_p0b : Nat} {r : bc × ao} (H : jE p0b p0 p1 = U r) (HS : St w t [b b_0 91 [S a_p0b p0b.length c_p0b, I J p0.i_, I J p0.h_]] w) (g_p0b : (ae e8 5).rd w t p0b [S a_p0b n_p0b c_p0b]) :
    Calls Tryz.prog 56 #[O (U ⟨b_0, 0, N⟩), I J p1] w (fun en w' => ∃ v, en = .returned v ∧ ∃ (a0 : Option Addr), ∃ (n0 : Nat), ∃ (c0 : Nat), ∃ (F0 : List Nat), ∃ (a1 : Option Addr), ∃ (n1 : Nat), ∃ (c1 : Nat), ∃ (F1 : List Nat), v = .agg #[vS r.1.B_, S a0 n0 c0, S a1 n1 c1] ∧ St w t [W (ae eI 3) F0 r.1.u_ [S a0 n0 c0], W (ae (dF) 9) F1 r.1.A_ [S a1 n1 c1], b b_0 91 [S a_p0b n_p0b c_p0b, I J r.2.i_, I J r.2.h_]] w') := by
 obtain rfl := fM g_p0b
 unfold jE at H
 refine aH Tryz.func56 z Tryz.ntmps56 z (HS) <| sR <| aA z z z z dD (fun _ => kp) fun C => nR <| bQ (val := vS) (h1 := fun _ => z) [([97, 103, 101] : List UInt8), ([115, 105, 122, 101] : List UInt8), ([99, 111, 108, 111, 117, 114] : List UInt8), ([107] : List UInt8), ([108, 111, 110, 103, 110, 97, 109, 101] : List UInt8)] [(0, [vS ([97, 103, 101] : List UInt8)]), (1, [vS ([115, 105, 122, 101] : List UInt8)]), (2, [vS ([99, 111, 108, 111, 117, 114] : List UInt8)]), (3, [vS ([107] : List UInt8)]), (4, [vS ([108, 111, 110, 103, 110, 97, 109, 101] : List UInt8)])] z z z z z go ty9 z z z ⟨z, z, nl z, z, z, nl z, z, z, nl z, z, z, nl z, z, z, nl z, Y⟩ z z (fun _ => kp) fun e1 => oPP z <| bE H fun k a4 H => bo (e := dF) (xs := ([([97, 103, 101] : List UInt8), ([115, 105, 122, 101] : List UInt8), ([99, 111, 108, 111, 117, 114] : List UInt8), ([107] : List UInt8), ([108, 111, 110, 103, 110, 97, 109, 101] : List UInt8)] : List (List UInt8))) (j := Int.tmod p1 5) z z z z z go ty9 z (fun d a => ap (e := ae (dF) 9) (r := 2) z d a) a4 (by rw [Nat.mul_one]) <| o1 z (aD z z ty9 (bD (fun d a => ap (e := ae (dF) 9) (r := 2) z d a) a4)) <| o1 z (bL [(0, [vS k])] [vS k, S N 0 0, S N 0 0] z z dD GF z ⟨z, z, nl z, Y⟩ z) <| aA z z z z dD (fun _ => kp) fun D => sC 0 [vS k, S N 0 0, S N 0 0] [_, _, _] 3 z dD z <| nQ <| ak <| sR <| oP z <| bE H fun e2 c9 H => au z xD z z z z (fun d a => gL d c9 (a.carve [0] z z) (rdB [0] z z a g_p0b)) fun e3 d w2 a b0 => ?_
 obtain ⟨rfl, b1⟩ := b0
 refine ⟨St w t [_, _, _, _, _], a.comp [0] z z b1, fun _ _ => Y, ?_⟩
 refine nQ <| cI H z (fun H => ?_) (fun H => ?_)
 ·refine sR <| oP z <| bE H fun a5 d0 H => au z qq z z z z (fun d a => cJ d d0 (a.carve [4] z z) (rdB [4] z z a g_p0b)) fun e4 d w2 a b2 => ?_
  obtain ⟨rfl, b3⟩ := b2
  refine ⟨St w t [_, _, _, _, _, _], a.comp [4] z z b3, fun _ _ => Y, ?_⟩
  refine oPP z <| nQ <| ak <| CW.weak (C' := St w t [_, _, _, _]) ?_ (ss [1, 2, 3, 5] z z)
  refine aW <| oP z <| bQ (val := I J) (h1 := fun _ => z) [(-9999), (-7), 0, 3, 20] [(0, [I J (-9999)]), (1, [I J (-7)]), (2, [I J 0]), (3, [I J 3]), (4, [I J 20])] z z z z z aP ty3 z z z ⟨z, z, nl z, z, z, nl z, z, z, nl z, z, z, nl z, z, z, nl z, Y⟩ z z (fun _ => kp) fun e5 => bE H fun M d1 H => au z jY z z z z (fun d a => bb d d1 (a.carve [3] z z) (rdB [3] z z a g_p0b) (rdO 4 [3] z a z z)) fun e6 d w2 a b4 => ?_
  obtain ⟨rfl, b5⟩ := b4
  refine ⟨St w t [_, _, _, _, _, _], a.comp [3] z z b5, fun _ _ => Y, ?_⟩
  refine oP z <| nQ <| ak <| sR <| oP z <| nQ <| az <| CW.weak ?_ (fun _ h => St.pushNil (e := eI) (T := 3) h)
  refine CW.at (Ew (fun (E : Int) (F : Int) (l : List Int) (o : Option Addr) (q : Nat) (G : List Nat) (s : Int) (x : Int) => St w t [b b_0 91 [S a_p0b p0b.length c_p0b, I J E, I J F], b C 63 [vS ([] : List UInt8), S N 0 0, S N 0 0], b D 63 [vS k, S o l.length q, S N 0 0], W (ae eI 3) G l [S o l.length q]]) (fun E F l o q G s x => [(0, O (U ⟨b_0, 0, N⟩)), (4, O (U ⟨C, 0, N⟩)), (5, O (U ⟨D, 0, N⟩)), (6, I J (J.wrap (1 + a5.1))), (7, I J s), (8, I J x)]) (fun kk => fun E F l o q G s x => dn a5 p0b k kk E F l s x = U r) (fun _ _ _ _ _ _ _ _ H => ?_) (fun k1 b6 E F l o q G s x H => ?_) be (M.2.i_) (M.2.h_) (([] : List Int)) (N) (0) ([]) (M.1) (0) (H)) (ss [5, 0, 2, 6] z z) (sb z)
  ·unfold dn at H
   exact absurd H (by simp)
  ·unfold dn at H
   refine ak <| sR <| aa [.p, .p, .p] z <| nQ <| cI H z (fun H => ?_) (fun H => ?_)
   ·refine ar <| ax <| ak <| az <| sR <| aa [.fa 63 1 1 iY] z <| o1 z (r1 1 2 z cq z) <| oP z <| bQ (val := I J) (h1 := fun _ => z) [s] [(0, [I J s])] z z z z z aP ty3 z z z ⟨z, z, nl z, Y⟩ z z (fun _ => kp) fun e7 => bE H fun a6 a7 H => cm (r := 3) (ys := ([s] : List Int)) z z z z z z aP ty3 z z z (ap (e := ae eI 3) (r := 4) z) a7 (fun _ _ _ => kp) fun a8 a9 d2 => ct z (fun d a => fh (i := 3) a z (ff a7)) fun d8 => aa [.fa 63 1 1 iY] z <| sC 1 [S a8 a6.length a9] [_, _, _] 2 z cq z <| nQ <| aW <| aa [.p, .p, .p] z <| bE H fun P d3 H => au z qq z z z z (fun d a => cJ d d3 (a.carve [0] z z) (rdB [0] z z a g_p0b)) fun e9 d w2 a b7 => ?_
    obtain ⟨rfl, b8⟩ := b7
    refine ⟨St w t [_, _, _, _, _, _], a.comp [0] z z b8, fun _ _ => Y, ?_⟩
    exact oPP z <| ay <| cd <| ax <| aW <| aa [.p, .p, .p] z <| ay <| cD (RW.at (b6 (P.2.i_) (P.2.h_) (a6) (a8) (a9) (d2) (J.wrap ((J.wrap (s + 1)) + P.1)) (J.wrap (x + 1)) (H)) (ss [5, 1, 2, 3] z z) (sb z))
   ·exact bF <| aN <| aR <| aO <| ax <| sR <| o1 z (rx 0 2 _ z dD z) <| sC 0 [vS k, S o l.length q, S N 0 0] [_, _, _] 1 z dD z <| nT <| am <| fq (fun _ h => St.pushNil (e := dF) (T := 9) h) <| bg (rs := [.cell 4 63]) (vs := [.agg #[vS k, S o l.length q, S N 0 0]]) z ⟨⟨_, [vS k, S o l.length q, S N 0 0], _, _, _, z, dD, (bB (T := 63) 0 (bX (i := 1) z) z), z, z⟩, Y⟩ (fun w' hw' => by
     obtain rfl := ai H
     exact ⟨_, z, o, l.length, q, G, N, 0, 0, [], z, hw'.sel [3, 4, 0] z z⟩)
 ·refine ar <| ax <| sR <| oP z <| bE H fun A d4 H => au z qq z z z z (fun d a => cJ d d4 (a.carve [4] z z) (rdB [4] z z a g_p0b)) fun f0 d w2 a b9 => ?_
  obtain ⟨rfl, c2⟩ := b9
  refine ⟨St w t [_, _, _, _, _, _], a.comp [4] z z c2, fun _ _ => Y, ?_⟩
  refine oPP z <| nQ <| ak <| ak <| CW.weak (C' := St w t [_, _, _, _]) ?_ (ss [1, 2, 3, 5] z z)
  refine aW <| oP z <| nQ <| az <| CW.weak ?_ (fun _ h => St.pushNil (e := dF) (T := 9) h)
  refine CW.at (iX (fun (m : Int) (c : List (List UInt8)) (f : Option Addr) (g : Nat) (u : List Nat) => St w t [b b_0 91 [S a_p0b p0b.length c_p0b, I J A.2.i_, I J A.2.h_], b C 63 [vS ([] : List UInt8), S N 0 0, S N 0 0], b D 63 [vS k, S N 0 0, S f c.length g], W (ae (dF) 9) u c [S f c.length g]]) (fun m c f g u => [(0, O (U ⟨b_0, 0, N⟩)), (4, O (U ⟨C, 0, N⟩)), (5, O (U ⟨D, 0, N⟩)), (9, I J (J.wrap (2 + A.1))), (10, I J m)]) (fun kk => fun m c f g u => dp A k kk m c = U r) (fun _ _ _ _ _ H => ?_) (fun k2 c3 m c f g u H => ?_) be (0) (([] : List (List UInt8))) (N) (0) ([]) (H)) (ss [3, 0, 2, 4] z z) (sb z)
  ·unfold dp at H
   exact absurd H (by simp)
  ·unfold dp at H
   refine ak <| sR <| aa [.p, .p, .p] z <| nQ <| cI H z (fun H => ?_) (fun H => ?_)
   ·exact ar <| ax <| ak <| az <| bE H fun L Q H => qw 7 [(0, y), (1, y), (3, y), (2, n), (4, n), (5, n), (6, n)] Br.done (St w t [b b_0 91 [S a_p0b p0b.length c_p0b, I J A.2.i_, I J A.2.h_], b C 63 [vS ([] : List UInt8), S N 0 0, S N 0 0], b D 63 [vS k, S N 0 0, S f c.length g], W (ae (dF) 9) u c [S f c.length g]]) cj (by kernel_rfl) (bv (aX (dI (bv (aX bn))))) (tk 4 z) <| aa [.fa 63 2 2 ny] z <| bu z (aw z) (r1 2 2 z kV z) <| oP z <| bQ (val := vS) (h1 := fun _ => z) [([114, 101, 100] : List UInt8), ([98, 108, 117, 101] : List UInt8), ([120] : List UInt8), ([103, 114, 101, 101, 110] : List UInt8)] [(0, [vS ([114, 101, 100] : List UInt8)]), (1, [vS ([98, 108, 117, 101] : List UInt8)]), (2, [vS ([120] : List UInt8)]), (3, [vS ([103, 114, 101, 101, 110] : List UInt8)])] z z z z z go ty9 z z z ⟨z, z, nl z, z, z, nl z, z, z, nl z, z, z, nl z, Y⟩ z z (fun _ => (tk 4 z)) fun d9 => Cr (e := dF) (xs := ([([114, 101, 100] : List UInt8), ([98, 108, 117, 101] : List UInt8), ([120] : List UInt8), ([103, 114, 101, 101, 110] : List UInt8)] : List (List UInt8))) (j := m) z z z z z z go ty9 z (fun d a => ap (e := ae (dF) 9) (r := 4) z d a) Q (by rw [Nat.mul_one]) <| xw z z (aw z) (aD z z ty9 (bD (fun d a => ap (e := ae (dF) 9) (r := 4) z d a) Q)) <| bQ (val := vS) (h1 := fun _ => z) [L] [(0, [vS L])] z z z z z go ty9 z z z ⟨z, z, nl z, Y⟩ z z (fun _ => (tk 4 z)) fun e0 => aQ <| cR <| bE H fun R X H => cm (r := 3) (ys := ([L] : List (List UInt8))) z z z z z z go ty9 z z z (fun d a => ap (e := ae (dF) 9) (r := 5) z d a) X (fun _ _ _ => kp) fun Z a2 c4 => ct z (fun d a => fh (i := 3) a z (ff X)) fun d5 => aa [.fa 63 2 2 ny] z <| sC 2 [S Z R.length a2] [_, _, _] 2 z kV z <| ay <| cd <| ax <| aW <| aa [.p, .p, .p] z <| ay <| cD (RW.at (c3 (J.wrap (m + 1)) (R) (Z) (a2) (c4) (H)) (ss [0, 1, 2, 3] z z) (sb z))
   ·exact bF <| aN <| aR <| aO <| ax <| sR <| o1 z (rx 0 2 _ z dD z) <| sC 0 [vS k, S N 0 0, S f c.length g] [_, _, _] 1 z dD z <| nT <| fq (fun _ h => St.pushNil (e := eI) (T := 3) h) <| bg (rs := [.cell 4 63]) (vs := [.agg #[vS k, S N 0 0, S f c.length g]]) z ⟨⟨_, [vS k, S N 0 0, S f c.length g], _, _, _, z, dD, (bB (T := 63) 0 (bX (i := 1) z) z), z, z⟩, Y⟩ (fun w' hw' => by
     obtain rfl := ai H
     exact ⟨_, z, N, 0, 0, [], f, c.length, g, u, z, hw'.sel [4, 3, 0] z z⟩)
theorem tG (w : World) {s : List Nat} {p0b : List Int} {p0 : ao} {b_0 : Nat} {a_p0b : Option Addr} {n_p0b c_p0b : Nat} {r : ab × ao} (H : mu p0b p0 = U r) (HS : St w s [b b_0 91 [S a_p0b p0b.length c_p0b, I J p0.i_, I J p0.h_]] w) (g_p0b : (ae e8 5).rd w s p0b [S a_p0b n_p0b c_p0b]) :
    Calls Tryz.prog 25 #[O (U ⟨b_0, 0, N⟩)] w (fun en w' => ∃ v, en = .returned v ∧ ∃ (a0 : Option Addr), ∃ (n0 : Nat), ∃ (c0 : Nat), ∃ (F0 : List Nat), ∃ (a1 : Option Addr), ∃ (n1 : Nat), ∃ (c1 : Nat), ∃ (F1 : List Nat), v = .agg #[S a0 n0 c0, S a1 n1 c1] ∧ St w s [W (ae (cb) 63) F0 r.1.b_ [S a0 n0 c0], W (ae (dF) 9) F1 r.1.l_ [S a1 n1 c1], b b_0 91 [S a_p0b n_p0b c_p0b, I J r.2.i_, I J r.2.h_]] w') := by
 obtain rfl := fM g_p0b
 unfold mu at H
 refine aH Tryz.func25 z Tryz.ntmps25 z (HS) <| sR <| aA z z z z cg (fun _ => kp) fun D => nR <| bQ (val := vS) (h1 := fun _ => z) [([110, 111] : List UInt8), ([121, 101, 115] : List UInt8)] [(0, [vS ([110, 111] : List UInt8)]), (1, [vS ([121, 101, 115] : List UInt8)])] z z z z z go ty9 z z z ⟨z, z, nl z, z, z, nl z, Y⟩ z z (fun _ => kp) fun E => o1 z (bL [(1, [S (U ⟨E, 0, N⟩) (([([110, 111] : List UInt8), ([121, 101, 115] : List UInt8)] : List (List UInt8)).length) 2])] [S N 0 0, S (U ⟨E, 0, N⟩) (([([110, 111] : List UInt8), ([121, 101, 115] : List UInt8)] : List (List UInt8)).length) 2] z z cg GH z ⟨z, z, nl z, Y⟩ z) <| aA z z z z cg (fun _ => kp) fun F => sC 0 [S N 0 0, S (U ⟨E, 0, N⟩) (([([110, 111] : List UInt8), ([121, 101, 115] : List UInt8)] : List (List UInt8)).length) 2] [_, _] 3 z cg z <| nQ <| yJ (fun (G : Int) (L : Int) (c : List (List UInt8)) (d : Option Addr) (g : Nat) (t : List Nat) => St w s [b b_0 91 [S a_p0b p0b.length c_p0b, I J G, I J L], b D 27 [S N 0 0, S N 0 0], b F 27 [S N 0 0, S d c.length g], W (ae (dF) 9) t c [S d c.length g]]) (fun G L c d g t => [(0, O (U ⟨b_0, 0, N⟩)), (2, O (U ⟨D, 0, N⟩)), (3, O (U ⟨F, 0, N⟩))]) (fun G L c d g t => d.isNone = n ∧ jd p0b G L c = U r) (fun G L c d g t ⟨d3, H⟩ => ?_) (fun J1 => ?_)
 ·unfold jd at H
  refine sR <| oP z <| bE H fun Q c9 H => au z qq z z z z (fun o a => cJ o c9 (a.carve [0] z z) (rdB [0] z z a g_p0b)) fun e3 o w2 a b4 => ?_
  obtain ⟨rfl, b5⟩ := b4
  refine ⟨St w s [_, _, _, _, _], a.comp [0] z z b5, fun _ _ => Y, ?_⟩
  refine oPP z <| nQ <| ak <| sR <| oP z <| nQ <| az <| CW.weak ?_ (fun _ h => St.pushNil (e := cb) (T := 63) h)
  refine CW.at (vY (fun (M : Int) (P : Int) (f : List bc) (l : Option Addr) (m : Nat) (u : List Nat) (x : Int) => St w s [b b_0 91 [S a_p0b p0b.length c_p0b, I J M, I J P], b D 27 [S N 0 0, S N 0 0], b F 27 [S l f.length m, S d c.length g], W (ae (cb) 63) u f [S l f.length m], W (ae (dF) 9) t c [S d c.length g]]) (fun M P f l m u x => [(0, O (U ⟨b_0, 0, N⟩)), (2, O (U ⟨D, 0, N⟩)), (3, O (U ⟨F, 0, N⟩)), (4, I J (J.wrap (1 + Q.1))), (5, I J x)]) (fun kk => fun M P f l m u x => eQ Q p0b c kk M P f x = U r) (fun _ _ _ _ _ _ _ H => ?_) (fun k1 b6 M P f l m u x H => ?_) be (Q.2.i_) (Q.2.h_) (([] : List bc)) (N) (0) ([]) (0) (H)) (ss [4, 1, 2, 5, 3] z z) (sb z)
  ·unfold eQ at H
   exact absurd H (by simp)
  ·unfold eQ at H
   refine ak <| sR <| aa [.p, .p, .p] z <| nQ <| cI H z (fun H => ?_) (fun H => ?_)
   ·refine ar <| ax <| ak <| az <| dj 6 [(0, y), (1, y), (2, y), (3, y), (4, n), (5, n)] (St w s [Res.nil, b D 27 [S N 0 0, S N 0 0], b F 27 [S l f.length m, S d c.length g], W (ae (cb) 63) u f [S l f.length m], W (ae (dF) 9) t c [S d c.length g]]) cj (by kernel_rfl) (bv (aX (dI (bv (aX bn))))) (sm [n, y, y, y, y] z) <| aa [.fa 27 0 0 cY] z <| bu z (aw z) (r1 0 2 z hZ z) <| oPP z <| bE H fun k b7 H => au z GN z z z z (fun o a => qO o b7 (a.carve [0] z z) (rdB [0] z z a g_p0b)) fun d4 o w2 a b0 => ?_
    obtain ⟨R, d5, X, d6, Z, d7, a2, d8, rfl, A⟩ := b0
    obtain rfl := aI (i := 0) A z
    obtain rfl := aI (i := 1) A z
    refine ⟨St w s [_, _, _, _, _, _, _, _], a.comp [0] z z A, (sm [n, y, y, y, y] z), ?_⟩
    refine sX z (fun o a => ue (x0 := k.1.B_) [5, 6] a z z) fun d9 => fp (C' := St w s [_, _, _, _, _, _, _, _, _]) z (fun _ h => h) <| iZ [(0, [vS k.1.B_, S R k.1.u_.length X, S Z k.1.A_.length a2])] z z z z z gD dD z z ⟨z, z, nl z, Y⟩ [vS k.1.B_, S R k.1.u_.length X, S Z k.1.A_.length a2] z (fun _ => (sm [n, y, y, y, y] z)) fun e0 => fp z (fun _ h => vc (p := 9) (q := 8) h z z z) <| aQ <| kd <| bE H fun a3 b8 H => nC (r := 3) (j := 10) z z z z z z gD dD z z z z z z z b8 (fun _ _ _ => kp) fun a4 a5 b9 => aa [.fa 27 0 0 cY] z <| sC 0 [S a4 a3.length a5] [_, _] 2 z hZ z <| ay <| cd <| ax <| CW.weak (C' := St w s [_, _, _, _, _]) ?_ (ss [1, 2, 4, 7, 11] z z)
    exact aW <| aa [.p, .p, .p] z <| ay <| cD (RW.at (b6 (k.2.i_) (k.2.h_) (a3) (a4) (a5) (b9) (J.wrap (x + 1)) (H)) (ss [3, 0, 1, 4, 2] z z) (sb z))
   ·exact bF <| aN <| aR <| aO <| ax <| sR <| o1 z (rx 0 2 _ z cg z) <| sC 0 [S l f.length m, S d c.length g] [_, _] 1 z cg z <| nT <| bg (rs := [.cell 2 27]) (vs := [.agg #[S l f.length m, S d c.length g]]) z ⟨⟨_, [S l f.length m, S d c.length g], _, _, _, z, cg, (bB (T := 27) 0 (bX (i := 1) z) z), z, z⟩, Y⟩ (fun w' hw' => by
     obtain rfl := ai H
     exact ⟨_, z, l, f.length, m, u, d, c.length, g, t, z, hw'.sel [3, 4, 0] z z⟩)
 ·refine sR <| oP z <| bE H fun C c2 H => au z xD z z z z (fun o a => gL o c2 (a.carve [0] z z) (rdB [0] z z a g_p0b)) fun e1 o w2 a b1 => ?_
  obtain ⟨rfl, b2⟩ := b1
  refine ⟨St w s [_, _, _, _, _], a.comp [0] z z b2, fun _ _ => Y, ?_⟩
  refine nQ <| cI H z (fun H => ?_) (fun H => ?_)
  ·exact aW <| aa [.fa 27 1 1 iW] z <| o1 z (r1 1 3 z kV z) <| bQ (val := vS) (h1 := fun _ => z) [([112, 101, 114, 104, 97, 112, 115] : List UInt8)] [(0, [vS ([112, 101, 114, 104, 97, 112, 115] : List UInt8)])] z z z z z go ty9 z z z ⟨z, z, nl z, Y⟩ z z (fun _ => kp) fun e2 => bE H fun a6 a7 H => cm (r := 2) (ys := ([([112, 101, 114, 104, 97, 112, 115] : List UInt8)] : List (List UInt8))) z z z z z z go ty9 z z z (fun o a => ap (e := ae (dF) 9) (r := 5) z o a) a7 (fun _ _ _ => kp) fun a8 a9 c3 => ct z (fun o a => fh (i := 2) a z (ff a7)) fun b3 => aa [.fa 27 1 1 iW] z <| sC 1 [S a8 a6.length a9] [_, _] 3 z kV z <| ay <| XW.at (J1 (C.2.i_) (C.2.h_) (a6) (a8) (a9) (c3) (⟨b3, H⟩)) (ss [4, 1, 3, 2] z z) (sb z)
  ·exact ar <| XW.at (J1 (C.2.i_) (C.2.h_) (([([110, 111] : List UInt8), ([121, 101, 115] : List UInt8)] : List (List UInt8))) ((U ⟨E, 0, N⟩)) (2) ([E]) (⟨z, H⟩)) (ss [4, 1, 3, 2] z z) (sb z)
theorem sO (w : World) {d : List Nat} {p0b : List Int} {p0 : ao} {b_0 : Nat} {a_p0b : Option Addr} {n_p0b c_p0b : Nat} {r : cB × ao} (H : lx p0b p0 = U r) (HS : St w d [b b_0 91 [S a_p0b p0b.length c_p0b, I J p0.i_, I J p0.h_]] w) (g_p0b : (ae e8 5).rd w d p0b [S a_p0b n_p0b c_p0b]) :
    Calls Tryz.prog 95 #[O (U ⟨b_0, 0, N⟩)] w (fun en w' => ∃ v, en = .returned v ∧ v = .agg #[I J r.1.G_, I J r.1.H_, I J r.1.I_, I J r.1.m_, I J r.1.a_, I J r.1.E_, B r.1.F_] ∧ St w d [b b_0 91 [S a_p0b n_p0b c_p0b, I J r.2.i_, I J r.2.h_]] w') := by
 obtain rfl := fM g_p0b
 unfold lx at H
 refine aH Tryz.func95 z Tryz.ntmps95 z (HS) <| sR <| aA z z z z nU (fun _ => kp) fun a1 => nR <| oP z <| bQ (val := I J) (h1 := fun _ => z) [1, 1, 2, 3, 9] [(0, [I J 1]), (1, [I J 1]), (2, [I J 2]), (3, [I J 3]), (4, [I J 9])] z z z z z aP ty3 z z z ⟨z, z, nl z, z, z, nl z, z, z, nl z, z, z, nl z, z, z, nl z, Y⟩ z z (fun _ => kp) fun a2 => bE H fun e M H => au z jY z z z z (fun c a => bb c M (a.carve [0] z z) (rdB [0] z z a g_p0b) (rdO 2 [0] z a z z)) fun a3 c m a o => ?_
 obtain ⟨rfl, p⟩ := o
 refine ⟨St w d [_, _, _, _], a.comp [0] z z p, fun _ _ => Y, ?_⟩
 refine oP z <| bQ (val := I J) (h1 := fun _ => z) [0, 50, 200, 500, 999] [(0, [I J 0]), (1, [I J 50]), (2, [I J 200]), (3, [I J 500]), (4, [I J 999])] z z z z z aP ty3 z z z ⟨z, z, nl z, z, z, nl z, z, z, nl z, z, z, nl z, z, z, nl z, Y⟩ z z (fun _ => kp) fun a4 => bE H fun f P H => au z jY z z z z (fun c a => bb c P (a.carve [3] z z) (rdB [3] z z a g_p0b) (rdO 4 [3] z a z z)) fun a5 c m a q => ?_
 obtain ⟨rfl, s⟩ := q
 refine ⟨St w d [_, _, _, _, _, _], a.comp [3] z z s, fun _ _ => Y, ?_⟩
 refine oP z <| bQ (val := I J) (h1 := fun _ => z) [1, 4, 10, 25, 200] [(0, [I J 1]), (1, [I J 4]), (2, [I J 10]), (3, [I J 25]), (4, [I J 200])] z z z z z aP ty3 z z z ⟨z, z, nl z, z, z, nl z, z, z, nl z, z, z, nl z, z, z, nl z, Y⟩ z z (fun _ => kp) fun a6 => bE H fun g Q H => au z jY z z z z (fun c a => bb c Q (a.carve [5] z z) (rdB [5] z z a g_p0b) (rdO 6 [5] z a z z)) fun a7 c m a t => ?_
 obtain ⟨rfl, u⟩ := t
 refine ⟨St w d [_, _, _, _, _, _, _, _], a.comp [5] z z u, fun _ _ => Y, ?_⟩
 refine oP z <| bQ (val := I J) (h1 := fun _ => z) [0, 1, 2, 4, 6, 6] [(0, [I J 0]), (1, [I J 1]), (2, [I J 2]), (3, [I J 4]), (4, [I J 6]), (5, [I J 6])] z z z z z aP ty3 z z z ⟨z, z, nl z, z, z, nl z, z, z, nl z, z, z, nl z, z, z, nl z, z, z, nl z, Y⟩ z z (fun _ => kp) fun a8 => bE H fun h R H => au z jY z z z z (fun c a => bb c R (a.carve [7] z z) (rdB [7] z z a g_p0b) (rdO 8 [7] z a z z)) fun a9 c m a x => ?_
 obtain ⟨rfl, A⟩ := x
 refine ⟨St w d [_, _, _, _, _, _, _, _, _, _], a.comp [7] z z A, fun _ _ => Y, ?_⟩
 refine oP z <| bQ (val := I J) (h1 := fun _ => z) [1, 3, 7, 15, 31, 31] [(0, [I J 1]), (1, [I J 3]), (2, [I J 7]), (3, [I J 15]), (4, [I J 31]), (5, [I J 31])] z z z z z aP ty3 z z z ⟨z, z, nl z, z, z, nl z, z, z, nl z, z, z, nl z, z, z, nl z, z, z, nl z, Y⟩ z z (fun _ => kp) fun b0 => bE H fun j X H => au z jY z z z z (fun c a => bb c X (a.carve [9] z z) (rdB [9] z z a g_p0b) (rdO 10 [9] z a z z)) fun b1 c m a C => ?_
 obtain ⟨rfl, D⟩ := C
 refine ⟨St w d [_, _, _, _, _, _, _, _, _, _, _, _], a.comp [9] z z D, fun _ _ => Y, ?_⟩
 refine oP z <| bQ (val := I J) (h1 := fun _ => z) [62, 63, 80, 100, 150, 2000] [(0, [I J 62]), (1, [I J 63]), (2, [I J 80]), (3, [I J 100]), (4, [I J 150]), (5, [I J 2000])] z z z z z aP ty3 z z z ⟨z, z, nl z, z, z, nl z, z, z, nl z, z, z, nl z, z, z, nl z, z, z, nl z, Y⟩ z z (fun _ => kp) fun b2 => bE H fun k Z H => au z jY z z z z (fun c a => bb c Z (a.carve [11] z z) (rdB [11] z z a g_p0b) (rdO 12 [11] z a z z)) fun b3 c m a E => ?_
 obtain ⟨rfl, F⟩ := E
 refine ⟨St w d [_, _, _, _, _, _, _, _, _, _, _, _, _, _], a.comp [11] z z F, fun _ _ => Y, ?_⟩
 refine oP z <| bE H fun l a0 H => au z xD z z z z (fun c a => gL c a0 (a.carve [13] z z) (rdB [13] z z a g_p0b)) fun b4 c m a G => ?_
 obtain ⟨rfl, L⟩ := G
 refine ⟨St w d [_, _, _, _, _, _, _, _, _, _, _, _, _, _, _], a.comp [13] z z L, fun _ _ => Y, ?_⟩
 exact o1 z (bL [(0, [I J e.1]), (1, [I J f.1]), (2, [I J g.1]), (3, [I J h.1]), (4, [I J j.1]), (5, [I J k.1]), (6, [B l.1])] [I J e.1, I J f.1, I J g.1, I J h.1, I J j.1, I J k.1, B l.1] z z nU ER z ⟨z, z, nl z, z, z, nl z, z, z, nl z, z, z, nl z, z, z, nl z, z, z, nl z, z, z, nl z, Y⟩ z) <| sC 0 [I J e.1, I J f.1, I J g.1, I J h.1, I J j.1, I J k.1, B l.1] [_, _, _, _, _, _, _] 1 z nU z <| nT <| bg (rs := [.cell 2 130]) (vs := [.agg #[I J e.1, I J f.1, I J g.1, I J h.1, I J j.1, I J k.1, B l.1]]) z ⟨⟨_, [I J e.1, I J f.1, I J g.1, I J h.1, I J j.1, I J k.1, B l.1], _, _, _, z, nU, (bB (T := 130) 0 (bX (i := 1) z) z), z, z⟩, Y⟩ (fun w' hw' => by
  obtain rfl := ai H
  exact ⟨_, z, z, hw'.sel [14] z z⟩)
theorem nm (w : World) {m : List Nat} {p0b : List Int} {p0 : ao} {p1 : ab} {b_0 : Nat} {a_p0b : Option Addr} {n_p0b c_p0b : Nat} {s : List Value} {r : (List Int) × ao} (H : hH p0b p0 p1 = U r) (HS : St w m [b b_0 91 [S a_p0b p0b.length c_p0b, I J p0.i_, I J p0.h_]] w) (g_p0b : (ae e8 5).rd w m p0b [S a_p0b n_p0b c_p0b]) (g1 : (aJ).rd w m p1 s) :
    Calls Tryz.prog 98 #[O (U ⟨b_0, 0, N⟩), .agg s.toArray] w (fun en w' => ∃ v, en = .returned v ∧ ∃ (G : Option Addr), ∃ (L : Nat), ∃ (c0 : Nat), ∃ (F0 : List Nat), v = S G L c0 ∧ St w m [W (ae eI 3) F0 r.1 [S G L c0], b b_0 91 [S a_p0b n_p0b c_p0b, I J r.2.i_, I J r.2.h_]] w') := by
 obtain rfl := fM g_p0b
 obtain ⟨a8, a9, rfl, M, P⟩ := aB g1
 obtain ⟨Q, R, rfl⟩ := aj M
 obtain ⟨X, Z, rfl⟩ := aj P
 unfold hH at H
 refine aH Tryz.func98 z Tryz.ntmps98 z (HS) <| sR <| ob _ z fun t => oP z <| nR <| ce (e := eI) z z z z aP ty3 (fun _ => kp) fun u => oP z <| nQ <| ak <| sR <| oP z <| nQ <| az <| CW.at (vY (fun (j : Int) (k : Int) (a : List Int) (d : Option Addr) (f : Nat) (g : List Nat) (c : Int) => St w m [b b_0 91 [S a_p0b p0b.length c_p0b, I J j, I J k], b t 27 [S Q p1.b_.length R, S X p1.l_.length Z], W (ae eI 3) g a [S d a.length f]]) (fun j k a d f g c => [(0, O (U ⟨b_0, 0, N⟩)), (3, O (U ⟨t, 0, N⟩)), (5, S d a.length f), (6, I J c)]) (fun kk => fun j k a d f g c => d.isNone = n ∧ cS p1 p0b kk j k a c = U r) (fun _ _ _ _ _ _ _ H => ?_) (fun k1 o j k a d f g c ⟨A, H⟩ => ?_) be (p0.i_) (p0.h_) (([] : List Int)) ((U ⟨u, 0, N⟩)) (0) ([u]) (0) (⟨z, H⟩)) (ss [0, 1, 2] z z) (sb z)
 ·unfold cS at H
  exact absurd H (by simp)
 ·unfold cS at H
  refine ak <| sR <| aa [.p, .fa 27 0 0 cY] z <| o1 z (r1 0 1 z hZ z) <| aa [.lenS 24 63 gD, .p] z <| nQ <| cI H z (fun H => ?_) (fun H => ?_)
  ·refine ar <| ax <| ak <| az <| sR <| oP z <| bE H fun l a1 H => au z xD z z z z (fun C h => gL C a1 (h.carve [0] z z) (rdB [0] z z h g_p0b)) fun b0 C w2 h D => ?_
   obtain ⟨rfl, E⟩ := D
   refine ⟨St w m [_, _, _, _], h.comp [0] z z E, fun _ _ => Y, ?_⟩
   refine oP z <| nQ <| cI H z (fun H => ?_) (fun H => ?_)
   ·exact aW <| oPP z <| bQ (val := I J) (h1 := fun _ => z) [c] [(0, [I J c])] z z z z z aP ty3 z z z ⟨z, z, nl z, Y⟩ z z (fun _ => kp) fun b1 => bE H fun a2 x H => cm (r := 2) (ys := ([c] : List Int)) z z z z z z aP ty3 z z z (ap (e := ae eI 3) (r := 4) z) x (fun _ _ _ => kp) fun a3 a4 a5 => ct z (fun C h => fh (i := 2) h z (ff x)) fun F => oP z <| ay <| cd <| ax <| aW <| aa [.p, .p, .p] z <| ay <| cD (RW.at (o (l.2.i_) (l.2.h_) (a2) (a3) (a4) (a5) (J.wrap (c + 1)) (⟨F, H⟩)) (ss [3, 1, 2] z z) (sb z))
   ·exact ar <| cd <| ax <| aW <| aa [.p, .p, .p] z <| ay <| cD (RW.at (o (l.2.i_) (l.2.h_) (a) (d) (f) (g) (J.wrap (c + 1)) (⟨A, H⟩)) (ss [3, 1, 2] z z) (sb z))
  ·refine bF <| aN <| aR <| aO <| ax <| ak <| sR <| aa [.p, .lenS 31 3 aP, .p] z <| nQ <| cI H z (fun H => ?_) (fun H => ?_)
   ·exact sR <| bQ (val := I J) (h1 := fun _ => z) [0] [(0, [I J 0])] z z z z z aP ty3 z z z ⟨z, z, nl z, Y⟩ z z (fun _ => kp) fun q => oP z <| nT <| am <| bg (rs := [.tmp 4]) (vs := [S (U ⟨q, 0, N⟩) (([0] : List Int).length) 1]) z ⟨z, Y⟩ (fun w' hw' => by
     obtain rfl := ai H
     exact ⟨_, z, (U ⟨q, 0, N⟩), (([0] : List Int).length), 1, [q], z, hw'.sel [3, 0] z z⟩)
   ·exact ar <| ax <| sR <| oPP z <| nT <| bg (rs := [.tmp 4]) (vs := [S d a.length f]) z ⟨z, Y⟩ (fun w' hw' => by
     obtain rfl := ai H
     exact ⟨_, z, d, a.length, f, g, z, hw'.sel [2, 0] z z⟩)
theorem bl (w : World) {p0 : Int} {p1 : Int} {p2 : Int} {r : Bool} (H : bm p0 p1 p2 = U r)   :
    Calls Tryz.prog 33 #[I J p0, I J p1, I J p2] w (fun en w' => en = .returned (B r) ∧ Ext [] w w') := by
 unfold bm at H
 refine aH Tryz.func33 z Tryz.ntmps33 z (St.init w []) <| sR <| oP z <| nR <| aa [.p, .p, .p, .p] z <| aS [(14, B ((decide (p0 ≥ p1)) && (decide (p0 ≤ p2)))), (6, B n)] 4 ?_ (fun key => OW.sub (R := [(0, I J p0), (2, I J p2), (6, B n), (10, B (decide (p0 ≥ p1)))]) ?_ (sb z))
 ·exact oP z <| nT <| xr 6 z (by cases H; exact q1)
 ·generalize (decide (p0 ≥ p1)) = a at key ⊢
  cases a
  ·exact aa [.p, .p, .p, .p] z <| OW.sub key (sb z)
  ·exact aa [.p, .p, .p] z <| oP z <| OW.sub key (sb z)
theorem pV (w : World) {p0 : List UInt8} {r : Bool} (H : lL p0 = U r)   :
    Calls Tryz.prog 108 #[vS p0] w (fun en w' => en = .returned (B r) ∧ Ext [] w w') := by
 unfold lL at H
 refine aH Tryz.func108 z Tryz.ntmps108 z (St.init w []) <| sR <| oP z <| nQ <| ak <| sR <| aa [.p, .lenT 9 st9] z <| bE H fun l f H => oq z (qc z iF (fun k m => bl k f)) tt2 <| oP z <| nQ <| cI H z (fun H => ?_) (fun H => ?_)
 ·exact sR <| oP z <| nT <| am <| xr 2 z (by cases H; exact q1)
 ·refine ar <| ax <| ak <| sR <| oP z <| nQ <| az <| CW.at (fG (fun (a : Int) => St w [] []) (fun a => [(0, vS p0), (3, I J a)]) (fun kk => fun a => iJ p0 kk a = U r) (fun _ H => ?_) (fun q e a H => ?_) be (0) (H)) (ss [] z z) (sb z)
  ·unfold iJ at H
   exact absurd H (by simp)
  ·unfold iJ at H
   refine ak <| sR <| aa [.p, .p, .lenT 9 st9, .p] z <| nQ <| cI H z (fun H => ?_) (fun H => ?_)
   ·refine ar <| ax <| ak <| az <| sR <| oPP z <| bE H fun d g H => o1 z (tU (s := p0) z z z st9 g) <| oPP z <| bE H fun h c H => aS [(23, B h), (0, vS p0), (3, I J a)] 5 ?_ (fun key => OW.sub (R := [(0, vS p0), (3, I J a), (18, B (decide ((d.toNat : Int) < 97)))]) ?_ (sb z))
    ·refine nQ <| cI H z (fun H => ?_) (fun H => ?_)
     ·exact sR <| oP z <| nT <| aL <| am <| bU <| aL <| am <| xr 2 z (by cases H; exact q1)
     ·exact ar <| cd <| ax <| aW <| aa [.p, .p, .p] z <| ay <| cD (RW.at (e (J.wrap (a + 1)) (H)) (ss [] z z) (sb z))
    ·clear H
     have H := c
     clear c
     generalize (decide ((d.toNat : Int) < 97)) = i at H key ⊢
     cases i
     ·have H := ba z H
      refine oPP z <| bE H fun o j H => o1 z (tU (s := p0) z z z st9 j) <| oP z <| oP z <| ?_
      obtain rfl := ai H
      exact OW.sub key (sb z)
     ·have H := aZ z H
      refine aa [.p, .p, .p, .p, .p] z ?_
      obtain rfl := ai H
      exact OW.sub key (sb z)
   ·exact bF <| aN <| aR <| aO <| ax <| sR <| oP z <| nT <| xr 2 z (by cases H; exact q1)
theorem pH (w : World) {p0 : List (List UInt8)} {a_0 : Option Addr} {n_0 c_0 : Nat} {r : Bool} (H : lf p0 = U r) (d : (ae (dF) 9).rd w [] p0 [S a_0 n_0 c_0]) :
    Calls Tryz.prog 67 #[S a_0 n_0 c_0] w (fun en w' => en = .returned (B r) ∧ Ext [] w w') := by
 obtain rfl := fM d
 unfold lf at H
 refine aH Tryz.func67 z Tryz.ntmps67 z (St.init w []) <| sR <| oP z <| nQ <| ak <| sR <| oP z <| nQ <| az <| CW.at (fG (fun (a : Int) => St w [] []) (fun a => [(0, S a_0 p0.length c_0), (3, I J a)]) (fun kk => fun a => eh p0 kk a = U r) (fun _ H => ?_) (fun m i a H => ?_) be (0) (H)) (ss [] z z) (sb z)
 ·unfold eh at H
  exact absurd H (by simp)
 ·unfold eh at H
  refine ak <| sR <| aa [.p, .p, .lenS 25 9 go, .p] z <| nQ <| cI H z (fun H => ?_) (fun H => ?_)
  ·refine ar <| ax <| ak <| az <| ak <| sR <| oPP z <| bE H fun q f H => bo (e := dF) (xs := p0) (j := a) z z z z z go ty9 z (ad d) f (by rw [Nat.mul_one]) <| o1 z (aD z z ty9 (bD (ad d) f)) <| bE H fun s l H => oq z (qc z Dz (fun o t => pV o l)) tt2 <| oP z <| nQ <| cI H z (fun H => ?_) (fun H => ?_)
   ·exact sR <| oP z <| nT <| am <| aL <| am <| bU <| aL <| am <| xr 2 z (by cases H; exact q1)
   ·refine ar <| ax <| sR <| oP z <| nQ <| az <| CW.at (fG (fun (c : Int) => St w [] []) (fun c => [(0, S a_0 p0.length c_0), (3, I J a), (4, I J c)]) (fun kk => fun c => fC a p0 (eh p0 m) kk c = U r) (fun _ H => ?_) (fun x k c H => ?_) be (0) (H)) (ss [] z z) (sb z)
    ·unfold fC at H
     exact absurd H (by simp)
    ·unfold fC at H
     refine ak <| sR <| aa [.p, .p, .p] z <| nQ <| cI H z (fun H => ?_) (fun H => ?_)
     ·refine ar <| ax <| ak <| az <| ak <| dW cj (by kernel_rfl) <| oPP z <| bE H fun u g H => bo (e := dF) (xs := p0) (j := a) z z z z z go ty9 z (ad d) g (by rw [Nat.mul_one]) <| o1 z (aD z z ty9 (bD (ad d) g)) <| oPP z <| bE H fun v h H => bo (e := dF) (xs := p0) (j := c) z z z z z go ty9 z (ad d) h (by rw [Nat.mul_one]) <| o1 z (aD z z ty9 (bD (ad d) h)) <| oP z <| cC <| ax <| cI H z (fun H => ?_) (fun H => ?_)
      ·exact sR <| oP z <| nT <| aL <| am <| bU <| aL <| aL <| am <| bU <| aL <| am <| xr 2 z (by cases H; exact q1)
      ·exact ar <| cd <| ax <| aW <| aa [.p, .p, .p] z <| ay <| cD (RW.at (k (J.wrap (c + 1)) (H)) (ss [] z z) (sb z))
     ·exact bF <| aN <| aR <| aO <| cd <| ax <| aW <| aa [.p, .p, .p] z <| ay <| cD (RW.at (i (J.wrap (a + 1)) (H)) (ss [] z z) (sb z))
  ·exact bF <| aN <| aR <| aO <| ax <| sR <| oP z <| nT <| xr 2 z (by cases H; exact q1)
theorem ql (w : World) {p0 : bc} {l : List Value} {r : Bool} (H : jQ p0 = U r) (g0 : (cb).rd w [] p0 l) :
    Calls Tryz.prog 68 #[.agg l.toArray] w (fun en w' => en = .returned (B r) ∧ Ext [] w w') := by
 obtain ⟨a4, a5, a6, rfl, x, d, m⟩ := bA g0
 obtain rfl := x
 obtain ⟨A, C, rfl⟩ := aj d
 obtain ⟨D, E, rfl⟩ := aj m
 unfold jQ at H
 refine aH Tryz.func68 z Tryz.ntmps68 z (St.init w []) <| sR <| ob _ z fun c => oP z <| nQ <| ak <| sR <| aa [.fa 63 0 0 sg] z <| o1 z (r1 0 0 z ty9 z) <| bE H fun a7 F H => oq z (qc z Dz (fun f g => pV f F)) tt2 <| oP z <| nQ <| cI H z (fun H => ?_) (fun H => ?_)
 ·exact sR <| oP z <| nT <| am <| xr 2 z (by cases H; exact q1)
 ·refine ar <| ax <| ak <| sR <| aa [.fa 63 1 1 iY] z <| o1 z (r1 1 0 z cq z) <| aa [.lenS 31 3 aP, .p] z <| nQ <| cI H z (fun H => ?_) (fun H => ?_)
  ·refine sR <| aa [.fa 63 2 2 ny] z <| o1 z (r1 2 0 z kV z) <| aa [.lenS 25 9 go] z <| bE H fun o G H => oq z (qc z iF (fun f g => bl f G)) tt2 <| oP z <| bE H fun L h H => aS [(20, B L), (2, B n)] 4 ?_ (fun key => OW.sub (R := [(1, O (U ⟨c, 0, N⟩)), (2, B n), (16, B o)]) ?_ (sb z))
   ·exact oP z <| nT <| am <| xr 2 z (by cases H; exact q1)
   ·clear H
    have H := h
    clear h
    generalize o = M at H key ⊢
    cases M
    ·have H := ba z H
     refine aa [.p, .p, .p, .p] z ?_
     obtain rfl := ai H
     exact OW.sub key (sb z)
    ·have H := aZ z H
     refine aa [.fa 63 2 2 ny] z <| o1 z (r1 2 0 z kV z) <| bE H fun a8 P H => oq z (qc z FY (fun f g => pH f P (ad m f g))) tt2 <| oP z <| ?_
     obtain rfl := ai H
     exact OW.sub key (sb z)
  ·refine ar <| ax <| ak <| sR <| aa [.fa 63 2 2 ny] z <| o1 z (r1 2 0 z kV z) <| aa [.lenS 25 9 go, .p, .p] z <| aS [(30, B ((decide ((p0.A_.length : Int) > 0)) || (decide ((p0.u_.length : Int) > 3)))), (1, O (U ⟨c, 0, N⟩))] 5 ?_ (fun key => OW.sub (R := [(1, O (U ⟨c, 0, N⟩)), (25, B (decide ((p0.A_.length : Int) > 0)))]) ?_ (sb z))
   ·refine nQ <| cI H z (fun H => ?_) (fun H => ?_)
    ·exact sR <| oP z <| nT <| am <| xr 2 z (by cases H; exact q1)
    ·refine ar <| ax <| ak <| sR <| oP z <| nQ <| az <| CW.at (fG (fun (a : Int) => St w [] [b c 63 [vS p0.B_, S A p0.u_.length C, S D p0.A_.length E]]) (fun a => [(1, O (U ⟨c, 0, N⟩)), (3, I J a)]) (fun kk => fun a => gY p0 kk a = U r) (fun _ H => ?_) (fun k1 v a H => ?_) be (0) (H)) (ss [0] z z) (sb z)
     ·unfold gY at H
      exact absurd H (by simp)
     ·unfold gY at H
      refine ak <| sR <| aa [.p, .fa 63 1 1 iY] z <| o1 z (r1 1 0 z cq z) <| aa [.lenS 31 3 aP, .p] z <| nQ <| cI H z (fun H => ?_) (fun H => ?_)
      ·refine ar <| ax <| ak <| az <| ak <| dW cj (by kernel_rfl) <| aa [.fa 63 1 1 iY] z <| o1 z (r1 1 0 z cq z) <| oP z <| bE H fun a9 q H => bo (e := eI) (xs := p0.u_) (j := a) z z z z z aP ty3 z (ad d) q (by rw [Nat.mul_one]) <| o1 z (aD z z ty3 (bD (ad d) q)) <| bE H fun s Q H => oq z (qc z iF (fun f g => bl f Q)) tt2 <| oPP z <| bE H fun X i H => aS [(62, B X), (1, O (U ⟨c, 0, N⟩)), (3, I J a)] 17 ?_ (fun key => OW.sub (R := [(1, O (U ⟨c, 0, N⟩)), (3, I J a), (45, B (!s))]) ?_ (sb z))
       ·refine cC <| ax <| cI H z (fun H => ?_) (fun H => ?_)
        ·exact sR <| oP z <| nT <| aL <| am <| bU <| aL <| am <| xr 2 z (by cases H; exact q1)
        ·exact ar <| cd <| ax <| aW <| aa [.p, .p, .p] z <| ay <| cD (RW.at (v (J.wrap (a + 1)) (H)) (ss [0] z z) (sb z))
       ·clear H
        have H := i
        clear i
        generalize (!s) = Z at H key ⊢
        cases Z
        ·have H := ba z H
         refine aa [.p, .p, .p] z <| bE H fun a0 k H => aS [(61, B a0), (1, O (U ⟨c, 0, N⟩)), (3, I J a), (45, B n)] 13 ?_ (fun key => OW.sub (R := [(1, O (U ⟨c, 0, N⟩)), (3, I J a), (45, B n), (48, B (decide (a > 0)))]) ?_ (sb z))
         ·refine aa [.p] z ?_
          obtain rfl := ai H
          exact OW.sub key (sb z)
         ·clear H
          have H := k
          clear k
          generalize (decide (a > 0)) = a1 at H key ⊢
          cases a1
          ·have H := ba z H
           refine aa [.p, .p, .p, .p, .p, .p, .p, .p, .p, .p, .p, .p, .p] z ?_
           obtain rfl := ai H
           exact OW.sub key (sb z)
          ·have H := aZ z H
           refine aa [.fa 63 1 1 iY] z <| o1 z (r1 1 0 z cq z) <| oP z <| bE H fun b0 t H => bo (e := eI) (xs := p0.u_) (j := a) z z z z z aP ty3 z (ad d) t (by rw [Nat.mul_one]) <| o1 z (aD z z ty3 (bD (ad d) t)) <| aa [.fa 63 1 1 iY] z <| o1 z (r1 1 0 z cq z) <| oPP z <| bE H fun b1 u H => bo (e := eI) (xs := p0.u_) (j := J.wrap (a - 1)) z z z z z aP ty3 z (ad d) u (by rw [Nat.mul_one]) <| o1 z (aD z z ty3 (bD (ad d) u)) <| oP z <| oP z <| ?_
           obtain rfl := ai H
           exact OW.sub key (sb z)
        ·have H := aZ z H
         refine aa [.p, .p, .p, .p, .p, .p, .p, .p, .p, .p, .p, .p, .p, .p, .p, .p, .p] z ?_
         obtain rfl := ai H
         exact OW.sub key (sb z)
      ·exact bF <| aN <| aR <| aO <| ax <| sR <| oP z <| nT <| xr 2 z (by cases H; exact q1)
   ·generalize (decide ((p0.A_.length : Int) > 0)) = a2 at key ⊢
    cases a2
    ·exact aa [.fa 63 1 1 iY] z <| o1 z (r1 1 0 z cq z) <| aa [.lenS 31 3 aP, .p] z <| oP z <| OW.sub key (sb z)
    ·exact aa [.p, .p, .p, .p, .p] z <| OW.sub key (sb z)
theorem gB (w : World) {p0 : ab} {x : List Value} {r : Bool} (H : eS p0 = U r) (g0 : (aJ).rd w [] p0 x) :
    Calls Tryz.prog 32 #[.agg x.toArray] w (fun en w' => en = .returned (B r) ∧ Ext [] w w') := by
 obtain ⟨e5, e6, rfl, h, A⟩ := aB g0
 obtain ⟨C, D, rfl⟩ := aj h
 obtain ⟨E, F, rfl⟩ := aj A
 unfold eS at H
 refine aH Tryz.func32 z Tryz.ntmps32 z (St.init w []) <| sR <| ob _ z fun d => oP z <| nQ <| ak <| sR <| aa [.fa 27 0 0 cY] z <| o1 z (r1 0 0 z hZ z) <| aa [.lenS 24 63 gD] z <| bE H fun G b1 H => oq z (qc z iF (fun e f => bl e b1)) tt2 <| oPP z <| bE H fun i j H => aS [(16, B i), (1, O (U ⟨d, 0, N⟩))] 6 ?_ (fun key => OW.sub (R := [(1, O (U ⟨d, 0, N⟩)), (10, B (!G))]) ?_ (sb z))
 ·refine oP z <| bE H fun b2 k H => aS [(22, B b2), (1, O (U ⟨d, 0, N⟩))] 5 ?_ (fun key => OW.sub (R := [(1, O (U ⟨d, 0, N⟩)), (17, B i)]) ?_ (sb z))
  ·refine nQ <| cI H z (fun H => ?_) (fun H => ?_)
   ·exact sR <| oP z <| nT <| am <| xr 2 z (by cases H; exact q1)
   ·refine ar <| ax <| ak <| sR <| oP z <| nQ <| az <| CW.at (fG (fun (a : Int) => St w [] [b d 27 [S C p0.b_.length D, S E p0.l_.length F]]) (fun a => [(1, O (U ⟨d, 0, N⟩)), (3, I J a)]) (fun kk => fun a => dq p0 kk a = U r) (fun _ H => ?_) (fun k1 L a H => ?_) be (0) (H)) (ss [0] z z) (sb z)
    ·unfold dq at H
     exact absurd H (by simp)
    ·unfold dq at H
     refine ak <| sR <| aa [.p, .fa 27 0 0 cY] z <| o1 z (r1 0 0 z hZ z) <| aa [.lenS 24 63 gD, .p] z <| nQ <| cI H z (fun H => ?_) (fun H => ?_)
     ·refine ar <| ax <| ak <| az <| ak <| sR <| aa [.fa 27 0 0 cY] z <| o1 z (r1 0 0 z hZ z) <| oP z <| bE H fun g M H => cn z z z z z gD dD z h M fun b9 c0 o q => ?_
      obtain ⟨c1, c2, c3, rfl, P, l, m⟩ := bA o
      obtain rfl := P
      obtain ⟨Q, X, rfl⟩ := aj l
      obtain ⟨Z, a0, rfl⟩ := aj m
      refine o1 z (cA (cs := [vS g.B_, S Q g.u_.length X, S Z g.A_.length a0]) z z dD (bW bor q) z) <| bE H fun c4 a1 H => oq z (qc z Fp (fun e f => ql e a1 (bO z (ad l e f) (ad m e f)))) tt2 <| oP z <| nQ <| cI H z (fun H => ?_) (fun H => ?_)
      ·exact sR <| oP z <| nT <| am <| aL <| am <| bU <| aL <| am <| xr 2 z (by cases H; exact q1)
      ·refine ar <| ax <| sR <| oP z <| nQ <| az <| CW.at (fG (fun (c : Int) => St w [] [b d 27 [S C p0.b_.length D, S E p0.l_.length F]]) (fun c => [(1, O (U ⟨d, 0, N⟩)), (3, I J a), (4, I J c)]) (fun kk => fun c => fc a p0 (dq p0 k1) kk c = U r) (fun _ H => ?_) (fun k2 a2 c H => ?_) be (0) (H)) (ss [0] z z) (sb z)
       ·unfold fc at H
        exact absurd H (by simp)
       ·unfold fc at H
        refine ak <| sR <| aa [.p, .p, .p] z <| nQ <| cI H z (fun H => ?_) (fun H => ?_)
        ·refine ar <| ax <| ak <| az <| ak <| dW cj (by kernel_rfl) <| aa [.fa 27 0 0 cY] z <| o1 z (r1 0 0 z hZ z) <| oP z <| bE H fun c5 a3 H => cn z z z z z gD dD z h a3 fun c6 c7 s t => ?_
         obtain ⟨c8, c9, d0, rfl, a4, a5, a6⟩ := bA s
         obtain rfl := a4
         obtain ⟨d1, d2, rfl⟩ := aj a5
         obtain ⟨d3, d4, rfl⟩ := aj a6
         refine aa [.fa 63 0 0 sg] z <| o1 z (aD z z ty9 (bW bor (lz t 0 1))) <| aa [.fa 27 0 0 cY] z <| o1 z (r1 0 0 z hZ z) <| oP z <| bE H fun d5 a7 H => cn z z z z z gD dD z h a7 fun d6 d7 u v => ?_
         obtain ⟨d8, d9, e0, rfl, a8, a9, b0⟩ := bA u
         obtain rfl := a8
         obtain ⟨e1, e2, rfl⟩ := aj a9
         obtain ⟨e3, e4, rfl⟩ := aj b0
         refine aa [.fa 63 0 0 sg] z <| o1 z (aD z z ty9 (bW bor (lz v 0 1))) <| oP z <| cC <| ax <| cI H z (fun H => ?_) (fun H => ?_)
         ·exact sR <| oP z <| nT <| aL <| am <| bU <| aL <| aL <| am <| bU <| aL <| am <| xr 2 z (by cases H; exact q1)
         ·exact ar <| cd <| ax <| aW <| aa [.p, .p, .p] z <| ay <| cD (RW.at (a2 (J.wrap (c + 1)) (H)) (ss [0] z z) (sb z))
        ·exact bF <| aN <| aR <| aO <| cd <| ax <| aW <| aa [.p, .p, .p] z <| ay <| cD (RW.at (L (J.wrap (a + 1)) (H)) (ss [0] z z) (sb z))
     ·exact bF <| aN <| aR <| aO <| ax <| sR <| oP z <| nT <| xr 2 z (by cases H; exact q1)
  ·clear H
   have H := k
   clear k
   generalize i = b3 at H key ⊢
   cases b3
   ·have H := ba z H
    refine aa [.fa 27 1 1 iW] z <| o1 z (r1 1 0 z kV z) <| bE H fun e7 b4 H => oq z (qc z FY (fun e f => pH e b4 (ad A e f))) tt2 <| oP z <| oP z <| ?_
    obtain rfl := ai H
    exact OW.sub key (sb z)
   ·have H := aZ z H
    refine aa [.p, .p, .p, .p, .p] z ?_
    obtain rfl := ai H
    exact OW.sub key (sb z)
 ·clear H
  have H := j
  clear j
  generalize (!G) = b5 at H key ⊢
  cases b5
  ·have H := ba z H
   refine aa [.fa 27 1 1 iW] z <| o1 z (r1 1 0 z kV z) <| aa [.lenS 25 9 go] z <| bE H fun e9 b6 H => oq z (qc z iF (fun e f => bl e b6)) tt2 <| oP z <| oP z <| ?_
   obtain rfl := ai H
   exact OW.sub key (sb z)
  ·have H := aZ z H
   refine aa [.p, .p, .p, .p, .p, .p] z ?_
   obtain rfl := ai H
   exact OW.sub key (sb z)
theorem jb (w : World) {p0 : ab} {p1 : List Int} {l : List Value} {a_1 : Option Addr} {n_1 c_1 : Nat} {r : Bool} (H : gH p0 p1 = U r) (X : (aJ).rd w [] p0 l) (d : (ae eI 3).rd w [] p1 [S a_1 n_1 c_1]) :
    Calls Tryz.prog 70 #[.agg l.toArray, S a_1 n_1 c_1] w (fun en w' => en = .returned (B r) ∧ Ext [] w w') := by
 obtain ⟨Z, a0, rfl, m, o⟩ := aB X
 obtain ⟨x, A, rfl⟩ := aj m
 obtain ⟨C, D, rfl⟩ := aj o
 obtain rfl := fM d
 unfold gH at H
 refine aH Tryz.func70 z Tryz.ntmps70 z (St.init w []) <| sR <| ob _ z fun c => oP z <| nQ <| ak <| sR <| o1 z (rx 0 0 _ z cg z) <| bE H fun f E H => oq z (qc z xY (fun g h => gB g E (af (ad m g h) (ad o g h)))) tt2 <| oPP z <| aS [(13, B ((!f) || ((p1.length : Int) == 0))), (1, S a_1 p1.length c_1), (2, O (U ⟨c, 0, N⟩))] 4 ?_ (fun key => OW.sub (R := [(1, S a_1 p1.length c_1), (2, O (U ⟨c, 0, N⟩)), (9, B (!f))]) ?_ (sb z))
 ·refine nQ <| cI H z (fun H => ?_) (fun H => ?_)
  ·exact sR <| oP z <| nT <| am <| xr 4 z (by cases H; exact q1)
  ·refine ar <| ax <| ak <| sR <| oP z <| nQ <| az <| CW.at (fG (fun (a : Int) => St w [] [b c 27 [S x p0.b_.length A, S C p0.l_.length D]]) (fun a => [(1, S a_1 p1.length c_1), (2, O (U ⟨c, 0, N⟩)), (5, I J a)]) (fun kk => fun a => ib p1 p0 kk a = U r) (fun _ H => ?_) (fun k1 v a H => ?_) be (0) (H)) (ss [0] z z) (sb z)
   ·unfold ib at H
    exact absurd H (by simp)
   ·unfold ib at H
    refine ak <| sR <| aa [.p, .p, .lenS 31 3 aP, .p] z <| nQ <| cI H z (fun H => ?_) (fun H => ?_)
    ·refine ar <| ax <| ak <| az <| ak <| dW cj (by kernel_rfl) <| oPP z <| bE H fun a1 q H => bo (e := eI) (xs := p1) (j := a) z z z z z aP ty3 z (ad d) q (by rw [Nat.mul_one]) <| o1 z (aD z z ty3 (bD (ad d) q)) <| aa [.fa 27 0 0 cY] z <| o1 z (r1 0 0 z hZ z) <| aa [.lenS 24 63 gD, .p] z <| bE H fun s F H => oq z (qc z iF (fun g h => bl g F)) tt2 <| oPP z <| bE H fun G i H => aS [(45, B G), (1, S a_1 p1.length c_1), (2, O (U ⟨c, 0, N⟩)), (5, I J a)] 15 ?_ (fun key => OW.sub (R := [(1, S a_1 p1.length c_1), (2, O (U ⟨c, 0, N⟩)), (5, I J a), (30, B (!s))]) ?_ (sb z))
     ·refine cC <| ax <| cI H z (fun H => ?_) (fun H => ?_)
      ·exact sR <| oP z <| nT <| aL <| am <| bU <| aL <| am <| xr 4 z (by cases H; exact q1)
      ·exact ar <| cd <| ax <| aW <| aa [.p, .p, .p] z <| ay <| cD (RW.at (v (J.wrap (a + 1)) (H)) (ss [0] z z) (sb z))
     ·clear H
      have H := i
      clear i
      generalize (!s) = L at H key ⊢
      cases L
      ·have H := ba z H
       refine aa [.p, .p, .p] z <| bE H fun M k H => aS [(44, B M), (1, S a_1 p1.length c_1), (2, O (U ⟨c, 0, N⟩)), (5, I J a), (30, B n)] 11 ?_ (fun key => OW.sub (R := [(1, S a_1 p1.length c_1), (2, O (U ⟨c, 0, N⟩)), (5, I J a), (30, B n), (33, B (decide (a > 0)))]) ?_ (sb z))
       ·refine aa [.p] z ?_
        obtain rfl := ai H
        exact OW.sub key (sb z)
       ·clear H
        have H := k
        clear k
        generalize (decide (a > 0)) = P at H key ⊢
        cases P
        ·have H := ba z H
         refine aa [.p, .p, .p, .p, .p, .p, .p, .p, .p, .p, .p] z ?_
         obtain rfl := ai H
         exact OW.sub key (sb z)
        ·have H := aZ z H
         refine oPP z <| bE H fun a2 t H => bo (e := eI) (xs := p1) (j := a) z z z z z aP ty3 z (ad d) t (by rw [Nat.mul_one]) <| o1 z (aD z z ty3 (bD (ad d) t)) <| aa [.p, .p, .p] z <| bE H fun a3 u H => bo (e := eI) (xs := p1) (j := J.wrap (a - 1)) z z z z z aP ty3 z (ad d) u (by rw [Nat.mul_one]) <| o1 z (aD z z ty3 (bD (ad d) u)) <| oP z <| oP z <| ?_
         obtain rfl := ai H
         exact OW.sub key (sb z)
      ·have H := aZ z H
       refine aa [.p, .p, .p, .p, .p, .p, .p, .p, .p, .p, .p, .p, .p, .p, .p] z ?_
       obtain rfl := ai H
       exact OW.sub key (sb z)
    ·exact bF <| aN <| aR <| aO <| ax <| sR <| oP z <| nT <| xr 4 z (by cases H; exact q1)
 ·generalize (!f) = Q at key ⊢
  cases Q
  ·exact aa [.p, .lenS 31 3 aP, .p] z <| oP z <| OW.sub key (sb z)
  ·exact aa [.p, .p, .p, .p] z <| OW.sub key (sb z)
theorem gF (w : World) {p0 : bc} {a : List Value} {r : Int} (H : dV p0 = U r) (i : (cb).rd w [] p0 a) :
    Calls Tryz.prog 44 #[.agg a.toArray] w (fun en w' => en = .returned (I J r) ∧ Ext [] w w') := by
 obtain ⟨j, k, l, rfl, g, c, d⟩ := bA i
 obtain rfl := g
 obtain ⟨m, o, rfl⟩ := aj c
 obtain ⟨q, s, rfl⟩ := aj d
 unfold dV at H
 refine aH Tryz.func44 z Tryz.ntmps44 z (St.init w []) <| sR <| ob _ z fun t => oP z <| nQ <| ak <| sR <| o1 z (rx 0 0 _ z dD z) <| bE H fun u h H => oq z (qc z Fp (fun f e => ql f h (bO z (ad c f e) (ad d f e)))) tt2 <| oP z <| nQ <| cI H z (fun H => ?_) (fun H => ?_)
 ·exact sR <| oP z <| nT <| am <| xr 2 z (by cases H; exact q1)
 ·refine ar <| ax <| ak <| sR <| aa [.fa 63 1 1 iY] z <| o1 z (r1 1 0 z cq z) <| aa [.lenS 31 3 aP, .p] z <| nQ <| cI H z (fun H => ?_) (fun H => ?_)
  ·exact sR <| aa [.fa 63 1 1 iY] z <| o1 z (r1 1 0 z cq z) <| aa [.lenS 31 3 aP, .p, .p] z <| nT <| am <| xr 2 z (by cases H; exact q1)
  ·exact ar <| ax <| sR <| aa [.fa 63 2 2 ny] z <| o1 z (r1 2 0 z kV z) <| aa [.lenS 25 9 go, .p] z <| nT <| xr 2 z (by cases H; exact q1)
theorem kZ (w : World) {u : List Nat} {p0 : ab} {X : List Value} {r : av} (H : gG p0 = U r) (HS : St w u [] w) (g0 : (aJ).rd w u p0 X) :
    Calls Tryz.prog 126 #[.agg X.toArray] w (fun en w' => ∃ v, en = .returned v ∧ ∃ (a0 : Option Addr), ∃ (n0 : Nat), ∃ (c0 : Nat), ∃ (F0 : List Nat), ∃ (a1 : Option Addr), ∃ (n1 : Nat), ∃ (c1 : Nat), ∃ (F1 : List Nat), v = .agg #[S a0 n0 c0, S a1 n1 c1] ∧ St w u [W (ae eI 3) F0 r.e_ [S a0 n0 c0], W (ae (ae eI 3) 31) F1 r.d_ [S a1 n1 c1]] w') := by
 obtain ⟨d5, d6, rfl, x, Z⟩ := aB g0
 obtain ⟨a2, a3, rfl⟩ := aj x
 obtain ⟨a4, a5, rfl⟩ := aj Z
 unfold gG at H
 refine aH Tryz.func126 z Tryz.ntmps126 z (HS) <| sR <| ob _ z fun A => aA z z z z cT (fun _ => kp) fun C => nQ <| ak <| sR <| o1 z (rx 0 0 _ z cg z) <| bE H fun d7 c3 H => oq z (qc z xY (fun s o => gB s c3 (af (ad x s o) (ad Z s o)))) tt2 <| oP z <| nQ <| cI H z (fun H => ?_) (fun H => ?_)
 ·exact sR <| o1 z (bL [] [S N 0 0, S N 0 0] z z cT CX z Y z) <| sC 0 [S N 0 0, S N 0 0] [_, _] 1 z cT z <| nT <| am <| fq (fun _ h => St.pushNil (e := eI) (T := 3) h) <| fq (fun _ h => St.pushNil (e := ae eI 3) (T := 31) h) <| bg (rs := [.cell 2 69]) (vs := [.agg #[S N 0 0, S N 0 0]]) z ⟨⟨_, [S N 0 0, S N 0 0], _, _, _, z, cT, (bB (T := 69) 0 (bX (i := 1) z) z), z, z⟩, Y⟩ (fun w' hw' => by
   obtain rfl := ai H
   exact ⟨_, z, N, 0, 0, [], N, 0, 0, [], z, hw'.sel [2, 3] z z⟩)
 ·refine ar <| ax <| sR <| aa [.fa 27 1 1 iW] z <| o1 z (r1 1 0 z kV z) <| aa [.lenS 25 9 go] z <| bE H fun a c4 H => qI (e := eI) (zero := (0 : Int)) z z z z z z aP ty3 z z z z (fun _ => ⟨z, z⟩) c4 (fun _ => kp) fun c => o1 z (bL [(0, [S (U ⟨c, 0, N⟩) a.length a.length])] [S (U ⟨c, 0, N⟩) a.length a.length, S N 0 0] z z cT CX z ⟨z, z, nl z, Y⟩ z) <| aA z z z z cT (fun _ => kp) fun D => sC 0 [S (U ⟨c, 0, N⟩) a.length a.length, S N 0 0] [_, _] 3 z cT z <| nQ <| ak <| sR <| oP z <| nQ <| az <| CW.weak ?_ (fun _ h => St.pushNil (e := ae eI 3) (T := 31) h)
  refine CW.at (iX (fun (d : List (List Int)) (f : Option Addr) (g : Nat) (k : List Nat) (l : Int) => St w u [b A 27 [S a2 p0.b_.length a3, S a4 p0.l_.length a5], b C 69 [S N 0 0, S N 0 0], b D 69 [S (U ⟨c, 0, N⟩) a.length a.length, S f d.length g], W (ae eI 3) [c] a [S (U ⟨c, 0, N⟩) a.length a.length], W (ae (ae eI 3) 31) k d [S f d.length g]]) (fun d f g k l => [(1, O (U ⟨A, 0, N⟩)), (2, O (U ⟨C, 0, N⟩)), (3, O (U ⟨D, 0, N⟩)), (4, I J l)]) (fun kk => fun d f g k l => fH p0 a kk d l = U r) (fun _ _ _ _ _ H => ?_) (fun k1 a6 d f g k l H => ?_) be (([] : List (List Int))) (N) (0) ([]) (0) (H)) (ss [0, 1, 3, 2, 4] z z) (sb z)
  ·unfold fH at H
   exact absurd H (by simp)
  ·unfold fH at H
   refine ak <| sR <| aa [.p, .fa 27 0 0 cY] z <| o1 z (r1 0 0 z hZ z) <| aa [.lenS 24 63 gD, .p] z <| nQ <| cI H z (fun H => ?_) (fun H => ?_)
   ·refine ar <| ax <| ak <| az <| dj 14 [(0, y), (1, y), (2, y), (3, y), (4, y), (5, y), (6, y), (8, y), (9, y), (10, y), (7, n), (11, y), (12, n), (13, n)] (St w u [b A 27 [S a2 p0.b_.length a3, S a4 p0.l_.length a5], b C 69 [S N 0 0, S N 0 0], b D 69 [S (U ⟨c, 0, N⟩) a.length a.length, S f d.length g], W (ae eI 3) [c] a [S (U ⟨c, 0, N⟩) a.length a.length], W (ae (ae eI 3) 31) k d [S f d.length g]]) cj (by kernel_rfl) (bv (aX (dI (bv (aX bn))))) (tk 5 z) <| aa [.fa 69 1 1 eE] z <| bu z (aw z) (r1 1 2 z kq z) <| aa [.fa 27 0 0 cY] z <| bu z (aw z) (r1 0 0 z hZ z) <| oP z <| bE H fun t a7 H => cn z z z z z gD dD z x a7 fun c8 c9 Q R => ?_
    obtain ⟨d0, d1, d2, rfl, a8, E, F⟩ := bA Q
    obtain rfl := a8
    obtain ⟨a9, b0, rfl⟩ := aj E
    obtain ⟨b1, b2, rfl⟩ := aj F
    refine bu z (aw z) (cA (cs := [vS t.B_, S a9 t.u_.length b0, S b1 t.A_.length b2]) z z dD (bW (fun _ h => h.ext) R) z) <| aa [.fa 27 1 1 iW] z <| bu z (aw z) (r1 1 0 z kV z) <| aa [.lenS 25 9 go] z <| bE H fun d3 b3 H => oq z (qc z vi (fun s o => gF s b3 (bO z (ad E s o) (ad F s o)))) (tk 5 z) <| oP z <| bE H fun m b4 H => qI (e := eI) (zero := (0 : Int)) z z z z z z aP ty3 z z z z (fun _ => ⟨z, z⟩) b4 (fun _ => (tk 5 z)) fun G => iZ [(0, [S (U ⟨G, 0, N⟩) m.length m.length])] z z z z z iR cq z z ⟨z, z, nl z, Y⟩ [S (U ⟨G, 0, N⟩) m.length m.length] z (fun _ => (tk 5 z)) fun d4 => fp z (fun _ h => vc (p := 6) (q := 5) h z z z) <| aQ <| kd <| bE H fun L b5 H => nC (r := 4) (j := 7) z z z z z z iR cq z z z z z z z b5 (fun _ _ _ => kp) fun M P b6 => aa [.fa 69 1 1 eE] z <| sC 1 [S M L.length P] [_, _] 2 z kq z <| ay <| cd <| ax <| CW.weak (C' := St w u [_, _, _, _, _]) ?_ (ss [0, 1, 2, 3, 8] z z)
    exact aW <| aa [.p, .p, .p] z <| ay <| cD (RW.at (a6 (L) (M) (P) (b6) (J.wrap (l + 1)) (H)) (ss [0, 1, 2, 3, 4] z z) (sb z))
   ·exact bF <| aN <| aR <| aO <| ax <| sR <| o1 z (rx 0 2 _ z cT z) <| sC 0 [S (U ⟨c, 0, N⟩) a.length a.length, S f d.length g] [_, _] 1 z cT z <| nT <| bg (rs := [.cell 2 69]) (vs := [.agg #[S (U ⟨c, 0, N⟩) a.length a.length, S f d.length g]]) z ⟨⟨_, [S (U ⟨c, 0, N⟩) a.length a.length, S f d.length g], _, _, _, z, cT, (bB (T := 69) 0 (bX (i := 1) z) z), z, z⟩, Y⟩ (fun w' hw' => by
     obtain rfl := ai H
     exact ⟨_, z, (U ⟨c, 0, N⟩), a.length, a.length, [c], f, d.length, g, k, z, hw'.sel [3, 4] z z⟩)
theorem tH (w : World) {u : List Nat} {p0 : ab} {p1 : List Int} {C : List Value} {a_1 : Option Addr} {n_1 c_1 : Nat} {r : ah} (H : lX p0 p1 = U r) (HS : St w u [] w) (R : (aJ).rd w u p0 C) (D : (ae eI 3).rd w u p1 [S a_1 n_1 c_1]) :
    Calls Tryz.prog 124 #[.agg C.toArray, S a_1 n_1 c_1] w (fun en w' => ∃ v, en = .returned v ∧ ∃ (F : Option Addr), ∃ (G : Nat), ∃ (c0 : Nat), ∃ (X : List Nat), v = .agg #[S F G c0, I J r.k_] ∧ St w u [W (ae (aC) 71) X r.a_ [S F G c0]] w') := by
 obtain ⟨Z, a1, rfl, x, A⟩ := aB R
 obtain ⟨a2, a3, rfl⟩ := aj x
 obtain ⟨a4, a5, rfl⟩ := aj A
 obtain rfl := fM D
 unfold lX at H
 refine aH Tryz.func124 z Tryz.ntmps124 z (HS) <| sR <| ob _ z fun a6 => aA z z z z bx (fun _ => kp) fun a7 => nQ <| ak <| sR <| o1 z (rx 0 0 _ z cg z) <| oP z <| bE H fun a8 L H => oq z (qc z zA (fun f a => jb f L (af (ad x f a) (ad A f a)) (ad D f a))) tt2 <| oP z <| nQ <| cI H z (fun H => ?_) (fun H => ?_)
 ·exact sR <| o1 z (bL [] [S N 0 0, I J 0] z z bx Ex z Y z) <| sC 0 [S N 0 0, I J 0] [_, _] 1 z bx z <| nT <| am <| fq (fun _ h => St.pushNil (e := aC) (T := 71) h) <| bg (rs := [.cell 4 30]) (vs := [.agg #[S N 0 0, I J 0]]) z ⟨⟨_, [S N 0 0, I J 0], _, _, _, z, bx, (bB (T := 30) 0 (bX (i := 1) z) z), z, z⟩, Y⟩ (fun w' hw' => by
   obtain rfl := ai H
   exact ⟨_, z, N, 0, 0, [], z, hw'.sel [2] z z⟩)
 ·refine ar <| ax <| sR <| o1 z (rx 0 0 _ z cg z) <| bE H fun c M H => au z yW z z z z (fun f a => kZ f M (a.carve [] z z) (af (ad x f a) (ad A f a))) fun a9 f w2 a E => ?_
  obtain ⟨j, b0, k, b1, l, b2, m, b3, rfl, g⟩ := E
  obtain rfl := aI (i := 0) g z
  obtain rfl := aI (i := 1) g z
  refine ⟨St w u [_, _, _, _], a.comp [] z z g, fun _ _ => Y, ?_⟩
  exact ce (e := eI) z z z z aP ty3 (fun _ => kp) fun b4 => oP z <| bE H fun o P H => cm (r := 4) (ys := p1) z z z z z z aP ty3 z z z (ad D) P (fun _ _ _ => kp) fun s t b5 => o1 z (bL [(0, [B y]), (5, [S j c.e_.length k, S l c.d_.length m]), (8, [S s o.length t]), (10, [I J (-1)])] [B y, I J 0, I J 0, S N 0 0, I J 0, S j c.e_.length k, S l c.d_.length m, I J 0, S s o.length t, I J 0, I J (-1), I J 0] z z ca pN z ⟨z, z, nl z, z, z, nl z, z, z, nl z, z, z, nl z, Y⟩ z) <| fp z (fun _ h => St.pushNil (e := eI) (T := 3) h) <| sX z (fun f a => cE (x0 := y) (x1 := 0) (x2 := 0) (x4 := 0) (x7 := 0) (x9 := 0) (x10 := (-1)) (x11 := 0) [5, 2, 3, 4] a z z) fun Q => fp (C' := St w u [_, _, _, _, _, _, _]) z (fun _ h => h) <| iZ [(0, [B y, I J 0, I J 0, S N 0 0, I J 0, S j c.e_.length k, S l c.d_.length m, I J 0, S s o.length t, I J 0, I J (-1), I J 0])] z z z z z dX ca z z ⟨z, z, nl z, Y⟩ [B y, I J 0, I J 0, S N 0 0, I J 0, S j c.e_.length k, S l c.d_.length m, I J 0, S s o.length t, I J 0, I J (-1), I J 0] z (fun _ => kp) fun d => fp z (fun _ h => vc (p := 7) (q := 6) h z z z) <| o1 z (bL [(0, [S (U ⟨d, 0, N⟩) 1 1])] [S (U ⟨d, 0, N⟩) 1 1, I J 0] z z bx Ex z ⟨z, z, nl z, Y⟩ z) <| sC 0 [S (U ⟨d, 0, N⟩) 1 1, I J 0] [_, _] 1 z bx z <| nT <| bg (rs := [.cell 4 30]) (vs := [.agg #[S (U ⟨d, 0, N⟩) 1 1, I J 0]]) z ⟨⟨_, [S (U ⟨d, 0, N⟩) 1 1, I J 0], _, _, _, z, bx, (bB (T := 30) 0 (bX (i := 1) z) z), z, z⟩, Y⟩ (fun w' hw' => by
   obtain rfl := ai H
   exact ⟨_, z, (U ⟨d, 0, N⟩), 1, 1, (d :: Q), z, hw'.sel [8] z z⟩)
theorem nv (w : World) {q : List Nat} {p0b : List Int} {p0 : ao} {p1 : ab} {b_0 : Nat} {a_p0b : Option Addr} {n_p0b c_p0b : Nat} {b8 : List Value} {r : aY × ao} (H : jZ p0b p0 p1 = U r) (HS : St w q [b b_0 91 [S a_p0b p0b.length c_p0b, I J p0.i_, I J p0.h_]] w) (g_p0b : (ae e8 5).rd w q p0b [S a_p0b n_p0b c_p0b]) (g1 : (aJ).rd w q p1 b8) :
    Calls Tryz.prog 62 #[O (U ⟨b_0, 0, N⟩), .agg b8.toArray] w (fun en w' => ∃ v, en = .returned v ∧ ∃ (a0 : Option Addr), ∃ (n0 : Nat), ∃ (c0 : Nat), ∃ (F0 : List Nat), v = .agg #[S a0 n0 c0, I J r.1.v_] ∧ St w q [W (ae eI 3) F0 r.1.o_ [S a0 n0 c0], b b_0 91 [S a_p0b n_p0b c_p0b, I J r.2.i_, I J r.2.h_]] w') := by
 obtain rfl := fM g_p0b
 obtain ⟨g2, g3, rfl, b9, e1⟩ := aB g1
 obtain ⟨P, Q, rfl⟩ := aj b9
 obtain ⟨X, Z, rfl⟩ := aj e1
 unfold jZ at H
 refine aH Tryz.func62 z Tryz.ntmps62 z (HS) <| sR <| ob _ z fun l => aA z z z z gm (fun _ => kp) fun m => nR <| o1 z (bL [] [S N 0 0, I J 0] z z gm GM z Y z) <| aA z z z z gm (fun _ => kp) fun o => sC 0 [S N 0 0, I J 0] [_, _] 3 z gm z <| nQ <| ak <| sR <| oP z <| nQ <| az <| CW.weak ?_ (fun _ h => St.pushNil (e := eI) (T := 3) h)
 refine CW.at (vY (fun (F : Int) (G : Int) (a : List Int) (d : Option Addr) (f : Nat) (x : List Nat) (A : Int) => St w q [b b_0 91 [S a_p0b p0b.length c_p0b, I J F, I J G], b l 27 [S P p1.b_.length Q, S X p1.l_.length Z], b m 33 [S N 0 0, I J 0], b o 33 [S d a.length f, I J 0], W (ae eI 3) x a [S d a.length f]]) (fun F G a d f x A => [(0, O (U ⟨b_0, 0, N⟩)), (3, O (U ⟨l, 0, N⟩)), (4, O (U ⟨m, 0, N⟩)), (5, O (U ⟨o, 0, N⟩)), (6, I J A)]) (fun kk => fun F G a d f x A => dr p1 p0b kk F G a A = U r) (fun _ _ _ _ _ _ _ H => ?_) (fun k1 c1 F G a d f x A H => ?_) be (p0.i_) (p0.h_) (([] : List Int)) (N) (0) ([]) (0) (H)) (ss [0, 1, 2, 3, 4] z z) (sb z)
 ·unfold dr at H
  exact absurd H (by simp)
 ·unfold dr at H
  refine ak <| sR <| aa [.p, .fa 27 0 0 cY] z <| o1 z (r1 0 1 z hZ z) <| aa [.lenS 24 63 gD, .p] z <| nQ <| cI H z (fun H => ?_) (fun H => ?_)
  ·refine ar <| ax <| ak <| az <| sR <| aa [.p, .fa 27 0 0 cY] z <| o1 z (r1 0 1 z hZ z) <| oP z <| bE H fun L c2 H => cn z z z z z gD dD z b9 c2 fun e7 e9 a8 a9 => ?_
   obtain ⟨f0, f1, f2, rfl, c3, a1, a2⟩ := bA a8
   obtain rfl := c3
   obtain ⟨c4, c5, rfl⟩ := aj a1
   obtain ⟨c6, c7, rfl⟩ := aj a2
   refine o1 z (cA (cs := [vS L.B_, S c4 L.u_.length c5, S c6 L.A_.length c7]) z z dD (bW bor a9) z) <| bE H fun f3 c8 H => oq z (qc z vi (fun k c => gF k c8 (bO z (ad a1 k c) (ad a2 k c)))) tt2 <| bE H fun c9 d0 H => au z qq z z z z (fun k c => cJ k d0 (c.carve [0] z z) (rdB [0] z z c g_p0b)) fun f4 k w2 c b0 => ?_
   obtain ⟨rfl, b1⟩ := b0
   refine ⟨St w q [_, _, _, _, _, _], c.comp [0] z z b1, fun _ _ => Y, ?_⟩
   refine oP z <| nQ <| wx (fun (s : Int) (t : Int) (g : Int) => St w q [b b_0 91 [S a_p0b p0b.length c_p0b, I J s, I J t], b l 27 [S P p1.b_.length Q, S X p1.l_.length Z], b m 33 [S N 0 0, I J 0], b o 33 [S d a.length f, I J 0], W (ae eI 3) x a [S d a.length f]]) (fun s t g => [(0, O (U ⟨b_0, 0, N⟩)), (3, O (U ⟨l, 0, N⟩)), (4, O (U ⟨m, 0, N⟩)), (5, O (U ⟨o, 0, N⟩)), (6, I J A), (7, I J g)]) (fun s t g => ja a (dr p1 p0b k1) A s t g = U r) (fun s t g H => ?_) (fun J1 => ?_)
   ·unfold ja at H
    exact aW <| aa [.fa 33 0 0 jW] z <| o1 z (r1 0 3 z cq z) <| oP z <| bQ (val := I J) (h1 := fun _ => z) [g] [(0, [I J g])] z z z z z aP ty3 z z z ⟨z, z, nl z, Y⟩ z z (fun _ => kp) fun f5 => bE H fun a3 a4 H => cm (r := 4) (ys := ([g] : List Int)) z z z z z z aP ty3 z z z (ap (e := ae eI 3) (r := 5) z) a4 (fun _ _ _ => kp) fun a5 a6 d2 => ct z (fun k c => fh (i := 4) c z (ff a4)) fun e3 => aa [.fa 33 0 0 jW] z <| sC 0 [S a5 a3.length a6] [_, _] 3 z cq z <| ay <| cd <| ax <| aW <| aa [.p, .p, .p] z <| ay <| cD (RW.at (c1 (s) (t) (a3) (a5) (a6) (d2) (J.wrap (A + 1)) (H)) (ss [0, 1, 2, 3, 4] z z) (sb z))
   ·refine sR <| oP z <| bE H fun D d3 H => au z xD z z z z (fun k c => gL k d3 (c.carve [5] z z) (rdB [5] z z c g_p0b)) fun f6 k w2 c b2 => ?_
    obtain ⟨rfl, b3⟩ := b2
    refine ⟨St w q [_, _, _, _, _, _, _], c.comp [5] z z b3, fun _ _ => Y, ?_⟩
    refine nQ <| cI H z (fun H => ?_) (fun H => ?_)
    ·refine CW.weak (C' := St w q [_, _, _, _, _]) ?_ (ss [1, 2, 3, 4, 6] z z)
     exact aW <| oP z <| ay <| XW.at (J1 (D.2.i_) (D.2.h_) ((-1)) (H)) (ss [4, 0, 1, 2, 3] z z) (sb z)
    ·exact ar <| XW.at (J1 (D.2.i_) (D.2.h_) (c9.1) (H)) (ss [6, 1, 2, 3, 4] z z) (sb z)
  ·refine bF <| aN <| aR <| aO <| ax <| sR <| aa [.p, .fa 27 1 1 iW] z <| o1 z (r1 1 1 z kV z) <| aa [.lenS 25 9 go] z <| bE H fun C d4 H => au z qq z z z z (fun k c => cJ k d4 (c.carve [0] z z) (rdB [0] z z c g_p0b)) fun f7 k w2 c b4 => ?_
   obtain ⟨rfl, b5⟩ := b4
   refine ⟨St w q [_, _, _, _, _, _], c.comp [0] z z b5, fun _ _ => Y, ?_⟩
   refine aa [.fa 33 1 1 oR] z <| sC 1 [I J C.1] [_, _] 3 z ty3 z <| nQ <| ak <| sR <| aa [.fa 33 0 0 jW] z <| o1 z (r1 0 3 z cq z) <| aa [.lenS 31 3 aP, .p, .p] z <| bE H fun u M H => CZ (St w q [Res.nil, b l 27 [S P p1.b_.length Q, S X p1.l_.length Z], b m 33 [S N 0 0, I J 0], b o 33 [S d a.length f, I J C.1], W (ae eI 3) x a [S d a.length f], b b_0 91 [S a_p0b p0b.length c_p0b, I J u.2.1, I J u.2.2]]) [(46, B u.1), (0, O (U ⟨b_0, 0, N⟩)), (3, O (U ⟨l, 0, N⟩)), (4, O (U ⟨m, 0, N⟩)), (5, O (U ⟨o, 0, N⟩))] 4 ?_ (fun key => OW.sub (R := [(0, O (U ⟨b_0, 0, N⟩)), (3, O (U ⟨l, 0, N⟩)), (4, O (U ⟨m, 0, N⟩)), (5, O (U ⟨o, 0, N⟩)), (42, B (decide ((a.length : Int) > 0)))]) ?_ ⟨z, z, z, z, z, Y⟩)
   ·refine oP z <| aS [(52, B (u.1 && (decide ((p1.l_.length : Int) > 0)))), (0, O (U ⟨b_0, 0, N⟩)), (3, O (U ⟨l, 0, N⟩)), (4, O (U ⟨m, 0, N⟩)), (5, O (U ⟨o, 0, N⟩))] 5 ?_ (fun key => OW.sub (R := [(0, O (U ⟨b_0, 0, N⟩)), (3, O (U ⟨l, 0, N⟩)), (4, O (U ⟨m, 0, N⟩)), (5, O (U ⟨o, 0, N⟩)), (47, B u.1)]) ?_ (sb z))
    ·refine nQ <| cI H z (fun H => ?_) (fun H => ?_)
     ·exact qA 10 cj (by kernel_rfl) <| aa [.fa 33 0 0 jW] z <| o1 z (r1 0 3 z cq z) <| bE H fun f8 a7 H => bo (e := eI) (xs := a) (j := 0) z z z z z aP ty3 z (ap (e := ae eI 3) (r := 4) z) a7 (by rw [Nat.mul_one]) <| o1 z (aD z z ty3 (bD (ap (e := ae eI 3) (r := 4) z) a7)) <| aa [.p, .fa 27 1 1 iW] z <| o1 z (r1 1 1 z kV z) <| aa [.lenS 25 9 go] z <| bE H fun E d5 H => o1 z (pY z z z d5) <| aa [.fa 33 1 1 oR] z <| cC <| sC 1 [I J E] [_, _] 3 z ty3 z <| nR <| o1 z (rx 0 3 _ z gm z) <| sC 0 [S d a.length f, I J E] [_, _] 2 z gm z <| nT <| bg (rs := [.cell 4 33]) (vs := [.agg #[S d a.length f, I J E]]) z ⟨⟨_, [S d a.length f, I J E], _, _, _, z, gm, (bB (T := 33) 0 (bX (i := 2) z) z), z, z⟩, Y⟩ (fun w' hw' => by
       obtain rfl := ai H
       exact ⟨_, z, d, a.length, f, x, z, hw'.sel [4, 5] z z⟩)
     ·exact ar <| ax <| sR <| o1 z (rx 0 3 _ z gm z) <| sC 0 [S d a.length f, I J C.1] [_, _] 2 z gm z <| nT <| bg (rs := [.cell 4 33]) (vs := [.agg #[S d a.length f, I J C.1]]) z ⟨⟨_, [S d a.length f, I J C.1], _, _, _, z, gm, (bB (T := 33) 0 (bX (i := 2) z) z), z, z⟩, Y⟩ (fun w' hw' => by
       obtain rfl := ai H
       exact ⟨_, z, d, a.length, f, x, z, hw'.sel [4, 5] z z⟩)
    ·generalize u.1 = d6 at key ⊢
     cases d6
     ·exact aa [.p, .p, .p, .p, .p] z <| OW.sub key (sb z)
     ·exact aa [.fa 27 1 1 iW] z <| o1 z (r1 1 1 z kV z) <| aa [.lenS 25 9 go, .p] z <| oP z <| OW.sub key (sb z)
   ·clear H
    have H := M
    clear M
    generalize (decide ((a.length : Int) > 0)) = d7 at H key ⊢
    cases d7
    ·have H := ba z H
     refine aa [.p, .p, .p, .p] z ?_
     obtain rfl := ai H
     exact OW.sub key (sb z)
    ·have H := aZ z H
     refine oP z <| bE H fun f9 d8 H => au z xD z z z z (fun k c => gL k d8 (c.carve [5] z z) (rdB [5] z z c g_p0b)) fun g0 k w2 c b6 => ?_
     obtain ⟨rfl, b7⟩ := b6
     refine ⟨St w q [_, _, _, _, _, _, _], c.comp [5] z z b7, fun _ _ => Y, ?_⟩
     refine oP z <| fp z (C' := St w q [_, _, _, _, _, _]) (ss [0, 1, 2, 3, 4, 6] z z) <| oP z <| ?_
     obtain rfl := ai H
     exact OW.sub key (sb z)
theorem sJ (w : World) {m : List Nat} {p0b : List Int} {p0 : ao} {p1 : Int} {b_0 : Nat} {a_p0b : Option Addr} {n_p0b c_p0b : Nat} {r : (List Int) × ao} (H : ly p0b p0 p1 = U r) (HS : St w m [b b_0 91 [S a_p0b p0b.length c_p0b, I J p0.i_, I J p0.h_]] w) (g_p0b : (ae e8 5).rd w m p0b [S a_p0b n_p0b c_p0b]) :
    Calls Tryz.prog 82 #[O (U ⟨b_0, 0, N⟩), I J p1] w (fun en w' => ∃ v, en = .returned v ∧ ∃ (C : Option Addr), ∃ (D : Nat), ∃ (c0 : Nat), ∃ (P : List Nat), v = S C D c0 ∧ St w m [W (ae e8 5) P r.1 [S C D c0], b b_0 91 [S a_p0b n_p0b c_p0b, I J r.2.i_, I J r.2.h_]] w') := by
 obtain rfl := fM g_p0b
 unfold ly at H
 refine aH Tryz.func82 z Tryz.ntmps82 z (HS) <| sR <| oP z <| nR <| ce (e := e8) z z z z qN ty5 (fun _ => kp) fun o => oP z <| nQ <| ak <| sR <| oP z <| nQ <| az <| CW.at (vY (fun (h : Int) (j : Int) (a : List Int) (c : Option Addr) (d : Nat) (k : List Nat) (f : Int) => St w m [b b_0 91 [S a_p0b p0b.length c_p0b, I J h, I J j], W (ae e8 5) k a [S c a.length d]]) (fun h j a c d k f => [(0, O (U ⟨b_0, 0, N⟩)), (1, I J p1), (5, S c a.length d), (6, I J f)]) (fun kk => fun h j a c d k f => c.isNone = n ∧ eo p1 p0b kk h j a f = U r) (fun _ _ _ _ _ _ _ H => ?_) (fun Z s h j a c d k f ⟨Q, H⟩ => ?_) be (p0.i_) (p0.h_) (([] : List Int)) ((U ⟨o, 0, N⟩)) (0) ([o]) (0) (⟨z, H⟩)) (ss [0, 1] z z) (sb z)
 ·unfold eo at H
  exact absurd H (by simp)
 ·unfold eo at H
  refine ak <| sR <| aa [.p, .p, .p] z <| nQ <| cI H z (fun H => ?_) (fun H => ?_)
  ·refine ar <| ax <| ak <| az <| aW <| oPP z <| bE H fun l E H => au z zU z z z z (fun t g => jD t E (g.carve [0] z z) (rdB [0] z z g g_p0b)) fun R t w2 g u => ?_
   obtain ⟨rfl, x⟩ := u
   refine ⟨St w m [_, _, _], g.comp [0] z z x, fun _ _ => Y, ?_⟩
   exact aa [.cv 3 5 K us3 in5] z <| bQ (val := I K) (h1 := fun _ => z) [K.wrap l.1] [(0, [I K (K.wrap l.1)])] z z z z z qN ty5 z z z ⟨z, z, nl z, Y⟩ z z (fun _ => kp) fun X => bE H fun F q H => cm (r := 1) (ys := ([K.wrap l.1] : List Int)) z z z z z z qN ty5 z z z (ap (e := ae e8 5) (r := 3) z) q (fun _ _ _ => kp) fun G L M => ct z (fun t g => fh (i := 1) g z (ff q)) fun A => oP z <| ay <| cd <| ax <| aW <| aa [.p, .p, .p] z <| ay <| cD (RW.at (s (l.2.i_) (l.2.h_) (F) (G) (L) (M) (J.wrap (f + 1)) (⟨A, H⟩)) (ss [2, 1] z z) (sb z))
  ·exact bF <| aN <| aR <| aO <| ax <| sR <| oPP z <| nT <| bg (rs := [.tmp 4]) (vs := [S c a.length d]) z ⟨z, Y⟩ (fun w' hw' => by
    obtain rfl := ai H
    exact ⟨_, z, c, a.length, d, k, z, hw'.sel [1, 0] z z⟩)
theorem fB (w : World) {p0 : ab} {p1 : av} {a5 : List Value} {a6 : List Value} {r : Bool} (H : eZ p0 p1 = U r) (g0 : (aJ).rd w [] p0 a5) (g1 : (cu).rd w [] p1 a6) :
    Calls Tryz.prog 69 #[.agg a5.toArray, .agg a6.toArray] w (fun en w' => en = .returned (B r) ∧ Ext [] w w') := by
 obtain ⟨f1, f2, rfl, G, a7⟩ := aB g0
 obtain ⟨u, v, rfl⟩ := aj G
 obtain ⟨x, A, rfl⟩ := aj a7
 obtain ⟨f3, f4, rfl, k, L⟩ := aK g1
 obtain ⟨C, D, rfl⟩ := aj k
 obtain ⟨E, F, rfl⟩ := aj L
 unfold eZ at H
 refine aH Tryz.func69 z Tryz.ntmps69 z (St.init w []) <| sR <| ob _ z fun d => ob _ z fun f => oP z <| nQ <| ak <| sR <| o1 z (rx 0 0 _ z cg z) <| bE H fun M c6 H => oq z (qc z xY (fun l m => gB l c6 (af (ad G l m) (ad a7 l m)))) tt2 <| oPP z <| aS [(24, B ((!M) || ((p1.e_.length : Int) != (p0.l_.length : Int)))), (2, O (U ⟨d, 0, N⟩)), (3, O (U ⟨f, 0, N⟩))] 8 ?_ (fun key => OW.sub (R := [(2, O (U ⟨d, 0, N⟩)), (3, O (U ⟨f, 0, N⟩)), (16, B (!M))]) ?_ (sb z))
 ·refine nQ <| cI H z (fun H => ?_) (fun H => ?_)
  ·exact sR <| oP z <| nT <| am <| xr 4 z (by cases H; exact q1)
  ·refine ar <| ax <| sR <| oP z <| nQ <| ak <| sR <| oP z <| nQ <| az <| CW.at (hI (fun (q : Int) (i : Int) => St w [] [b d 27 [S u p0.b_.length v, S x p0.l_.length A], b f 69 [S C p1.e_.length D, S E p1.d_.length F]]) (fun q i => [(2, O (U ⟨d, 0, N⟩)), (3, O (U ⟨f, 0, N⟩)), (5, I J q), (6, I J i)]) (fun kk => fun q i => dH p1 p0 kk q i = U r) (fun _ _ H => ?_) (fun k1 b0 q i H => ?_) be (0) (0) (H)) (ss [0, 1] z z) (sb z)
   ·unfold dH at H
    exact absurd H (by simp)
   ·unfold dH at H
    refine ak <| sR <| aa [.p, .fa 69 0 0 jz] z <| o1 z (r1 0 1 z cq z) <| aa [.lenS 31 3 aP, .p] z <| nQ <| cI H z (fun H => ?_) (fun H => ?_)
    ·refine ar <| ax <| ak <| az <| ak <| sR <| aa [.fa 69 0 0 jz] z <| o1 z (r1 0 1 z cq z) <| oP z <| bE H fun f5 a8 H => bo (e := eI) (xs := p1.e_) (j := i) z z z z z aP ty3 z (ad k) a8 (by rw [Nat.mul_one]) <| o1 z (aD z z ty3 (bD (ad k) a8)) <| bE H fun f6 c7 H => oq z (qc z iF (fun l m => bl l c7)) tt2 <| oP z <| nQ <| cI H z (fun H => ?_) (fun H => ?_)
     ·exact sR <| oP z <| nT <| am <| aL <| am <| bU <| aL <| am <| xr 4 z (by cases H; exact q1)
     ·exact ar <| ax <| aW <| aa [.p, .fa 69 0 0 jz] z <| o1 z (r1 0 1 z cq z) <| oP z <| bE H fun c8 a9 H => bo (e := eI) (xs := p1.e_) (j := i) z z z z z aP ty3 z (ad k) a9 (by rw [Nat.mul_one]) <| o1 z (aD z z ty3 (bD (ad k) a9)) <| oPP z <| ay <| cd <| ax <| aW <| aa [.p, .p, .p] z <| ay <| cD (RW.at (b0 (J.wrap (q + c8)) (J.wrap (i + 1)) (H)) (ss [0, 1] z z) (sb z))
    ·refine bF <| aN <| aR <| aO <| ax <| ak <| sR <| oPP z <| nQ <| cI H z (fun H => ?_) (fun H => ?_)
     ·exact sR <| oP z <| nT <| am <| xr 4 z (by cases H; exact q1)
     ·refine ar <| ax <| ak <| sR <| aa [.fa 69 1 1 eE] z <| o1 z (r1 1 1 z kq z) <| aa [.lenS 67 31 iR, .p] z <| nQ <| cI H z (fun H => ?_) (fun H => ?_)
      ·exact sR <| oP z <| nT <| am <| xr 4 z (by cases H; exact q1)
      ·refine ar <| ax <| ak <| sR <| aa [.fa 69 1 1 eE] z <| o1 z (r1 1 1 z kq z) <| aa [.lenS 67 31 iR, .fa 27 0 0 cY] z <| o1 z (r1 0 0 z hZ z) <| aa [.lenS 24 63 gD, .p] z <| nQ <| cI H z (fun H => ?_) (fun H => ?_)
       ·exact sR <| oP z <| nT <| am <| xr 4 z (by cases H; exact q1)
       ·refine ar <| ax <| ak <| sR <| oP z <| nQ <| az <| CW.at (fG (fun (a : Int) => St w [] [b d 27 [S u p0.b_.length v, S x p0.l_.length A], b f 69 [S C p1.e_.length D, S E p1.d_.length F]]) (fun a => [(2, O (U ⟨d, 0, N⟩)), (3, O (U ⟨f, 0, N⟩)), (7, I J a)]) (fun kk => fun a => cN p1 p0 kk a = U r) (fun _ H => ?_) (fun k2 b1 a H => ?_) be (0) (H)) (ss [0, 1] z z) (sb z)
        ·unfold cN at H
         exact absurd H (by simp)
        ·unfold cN at H
         refine ak <| sR <| aa [.p, .fa 69 1 1 eE] z <| o1 z (r1 1 1 z kq z) <| aa [.lenS 67 31 iR, .p] z <| nQ <| cI H z (fun H => ?_) (fun H => ?_)
         ·refine ar <| ax <| ak <| az <| sR <| aa [.fa 27 0 0 cY] z <| o1 z (r1 0 0 z hZ z) <| oP z <| bE H fun t b2 H => cn z z z z z gD dD z G b2 fun d3 d4 a0 a1 => ?_
          obtain ⟨d5, d6, d7, rfl, b3, P, Q⟩ := bA a0
          obtain rfl := b3
          obtain ⟨b4, b5, rfl⟩ := aj P
          obtain ⟨b6, b7, rfl⟩ := aj Q
          refine o1 z (cA (cs := [vS t.B_, S b4 t.u_.length b5, S b6 t.A_.length b7]) z z dD (bW bor a1) z) <| bE H fun o b8 H => oq z (qc z vi (fun l m => gF l b8 (bO z (ad P l m) (ad Q l m)))) tt2 <| oP z <| nQ <| ak <| ak <| dW cj (by kernel_rfl) <| aa [.fa 69 1 1 eE] z <| o1 z (r1 1 1 z kq z) <| oP z <| bE H fun d8 b9 H => cn z z z z z iR cq z L b9 fun d9 e0 a2 a3 => ?_
          obtain ⟨e1, e2, rfl⟩ := aj a2
          refine o1 z (aD z z cq (bW bor a3)) <| aa [.lenS 31 3 aP, .p, .fa 27 1 1 iW] z <| o1 z (r1 1 0 z kV z) <| aa [.lenS 25 9 go, .p, .p] z <| cC <| ax <| cI H z (fun H => ?_) (fun H => ?_)
          ·exact sR <| oP z <| nT <| am <| aL <| am <| bU <| aL <| am <| xr 4 z (by cases H; exact q1)
          ·refine ar <| ax <| sR <| oP z <| nQ <| az <| CW.at (fG (fun (c : Int) => St w [] [b d 27 [S u p0.b_.length v, S x p0.l_.length A], b f 69 [S C p1.e_.length D, S E p1.d_.length F]]) (fun c => [(2, O (U ⟨d, 0, N⟩)), (3, O (U ⟨f, 0, N⟩)), (7, I J a), (8, I J o), (9, I J c)]) (fun kk => fun c => bY p0 o p1 a (cN p1 p0 k2) kk c = U r) (fun _ H => ?_) (fun k3 c0 c H => ?_) be (0) (H)) (ss [0, 1] z z) (sb z)
           ·unfold bY at H
            exact absurd H (by simp)
           ·unfold bY at H
            refine ak <| sR <| aa [.p, .fa 27 1 1 iW] z <| o1 z (r1 1 0 z kV z) <| aa [.lenS 25 9 go, .p] z <| nQ <| cI H z (fun H => ?_) (fun H => ?_)
            ·refine ar <| ax <| ak <| az <| sR <| oP z <| nQ <| ak <| sR <| oP z <| nQ <| az <| CW.at (hI (fun (h : Int) (g : Int) => St w [] [b d 27 [S u p0.b_.length v, S x p0.l_.length A], b f 69 [S C p1.e_.length D, S E p1.d_.length F]]) (fun h g => [(2, O (U ⟨d, 0, N⟩)), (3, O (U ⟨f, 0, N⟩)), (7, I J a), (8, I J o), (9, I J c), (10, I J h), (11, I J g)]) (fun kk => fun h g => dg o p1 a p0 c (bY p0 o p1 a (cN p1 p0 k2) k3) kk h g = U r) (fun _ _ H => ?_) (fun k4 c1 h g H => ?_) be (0) (0) (H)) (ss [0, 1] z z) (sb z)
             ·unfold dg at H
              exact absurd H (by simp)
             ·unfold dg at H
              refine ak <| sR <| aa [.p, .p, .p] z <| nQ <| cI H z (fun H => ?_) (fun H => ?_)
              ·refine ar <| ax <| ak <| az <| ak <| dW cj (by kernel_rfl) <| aa [.fa 69 1 1 eE] z <| o1 z (r1 1 1 z kq z) <| oP z <| bE H fun c2 c3 H => cn z z z z z iR cq z L c3 fun e4 e5 s a4 => ?_
               obtain ⟨e6, e7, rfl⟩ := aj s
               refine o1 z (aD z z cq (bW bor a4)) <| aa [.p, .fa 27 1 1 iW] z <| o1 z (r1 1 0 z kV z) <| aa [.lenS 25 9 go, .p, .p, .p] z <| bE H fun c4 X H => bo (e := eI) (xs := c2) (j := J.wrap ((J.wrap (g * (p0.l_.length : Int))) + c)) z z z z z aP ty3 z (ad s) X (by rw [Nat.mul_one]) <| o1 z (aD z z ty3 (bD (ad s) X)) <| oP z <| cC <| ax <| ak <| sR <| oP z <| bE H fun e9 c5 H => oq z (qc z iF (fun l m => bl l c5)) tt2 <| oP z <| nQ <| cI H z (fun H => ?_) (fun H => ?_)
               ·exact sR <| oP z <| nT <| am <| aL <| am <| bU <| aL <| am <| aL <| am <| bU <| aL <| aL <| am <| bU <| aL <| am <| xr 4 z (by cases H; exact q1)
               ·exact ar <| ax <| aW <| aa [.p, .p, .p, .p] z <| ay <| cd <| ax <| aW <| aa [.p, .p, .p] z <| ay <| cD (RW.at (c1 (J.wrap (h + c4)) (J.wrap (g + 1)) (H)) (ss [0, 1] z z) (sb z))
              ·refine bF <| aN <| aR <| aO <| ax <| sR <| aa [.p, .fa 69 0 0 jz] z <| o1 z (r1 0 1 z cq z) <| oP z <| bE H fun f0 Z H => bo (e := eI) (xs := p1.e_) (j := c) z z z z z aP ty3 z (ad k) Z (by rw [Nat.mul_one]) <| o1 z (aD z z ty3 (bD (ad k) Z)) <| oP z <| nQ <| cI H z (fun H => ?_) (fun H => ?_)
               ·exact sR <| oP z <| nT <| aL <| am <| bU <| aL <| aL <| am <| bU <| aL <| am <| xr 4 z (by cases H; exact q1)
               ·exact ar <| cd <| ax <| aW <| aa [.p, .p, .p] z <| ay <| cD (RW.at (c0 (J.wrap (c + 1)) (H)) (ss [0, 1] z z) (sb z))
            ·exact bF <| aN <| aR <| aO <| cd <| ax <| aW <| aa [.p, .p, .p] z <| ay <| cD (RW.at (b1 (J.wrap (a + 1)) (H)) (ss [0, 1] z z) (sb z))
         ·exact bF <| aN <| aR <| aO <| ax <| sR <| oP z <| nT <| xr 4 z (by cases H; exact q1)
 ·generalize (!M) = d0 at key ⊢
  cases d0
  ·exact aa [.fa 69 0 0 jz] z <| o1 z (r1 0 1 z cq z) <| aa [.lenS 31 3 aP, .fa 27 1 1 iW] z <| o1 z (r1 1 0 z kV z) <| aa [.lenS 25 9 go, .p] z <| oP z <| OW.sub key (sb z)
  ·exact aa [.p, .p, .p, .p, .p, .p, .p, .p] z <| OW.sub key (sb z)
theorem iM (w : World) {p0 : ab} {p1 : av} {h : List Value} {i : List Value} {r : Int} (H : dZ p0 p1 = U r) (D : (aJ).rd w [] p0 h) (E : (cu).rd w [] p1 i) :
    Calls Tryz.prog 71 #[.agg h.toArray, .agg i.toArray] w (fun en w' => en = .returned (I J r) ∧ Ext [] w w') := by
 obtain ⟨F, G, rfl, k, l⟩ := aB D
 obtain ⟨L, M, rfl⟩ := aj k
 obtain ⟨P, Q, rfl⟩ := aj l
 obtain ⟨R, X, rfl, d, m⟩ := aK E
 obtain ⟨t, u, rfl⟩ := aj d
 obtain ⟨v, x, rfl⟩ := aj m
 unfold dZ at H
 refine aH Tryz.func71 z Tryz.ntmps71 z (St.init w []) <| sR <| ob _ z fun Z => ob _ z fun o => oP z <| nQ <| ak <| sR <| o1 z (rx 0 0 _ z cg z) <| o1 z (rx 0 1 _ z cT z) <| bE H fun a0 A H => oq z (qc z vR (fun g f => fB g A (af (ad k g f) (ad l g f)) (aF (ad d g f) (ad m g f)))) tt2 <| oP z <| nQ <| cI H z (fun H => ?_) (fun H => ?_)
 ·exact sR <| oP z <| nT <| am <| xr 4 z (by cases H; exact q1)
 ·refine ar <| ax <| sR <| oP z <| nQ <| ak <| sR <| oP z <| nQ <| az <| CW.at (hI (fun (c : Int) (a : Int) => St w [] [b o 69 [S t p1.e_.length u, S v p1.d_.length x]]) (fun c a => [(3, O (U ⟨o, 0, N⟩)), (5, I J c), (6, I J a)]) (fun kk => fun c a => fF p1 kk c a = U r) (fun _ _ H => ?_) (fun k1 s c a H => ?_) be (0) (0) (H)) (ss [1] z z) (sb z)
  ·unfold fF at H
   exact absurd H (by simp)
  ·unfold fF at H
   refine ak <| sR <| aa [.p, .fa 69 0 0 jz] z <| o1 z (r1 0 0 z cq z) <| aa [.lenS 31 3 aP, .p] z <| nQ <| cI H z (fun H => ?_) (fun H => ?_)
   ·exact ar <| ax <| ak <| az <| aW <| aa [.p, .fa 69 0 0 jz] z <| o1 z (r1 0 0 z cq z) <| oP z <| bE H fun C q H => bo (e := eI) (xs := p1.e_) (j := a) z z z z z aP ty3 z (ad d) q (by rw [Nat.mul_one]) <| o1 z (aD z z ty3 (bD (ad d) q)) <| oPP z <| ay <| cd <| ax <| aW <| aa [.p, .p, .p] z <| ay <| cD (RW.at (s (J.wrap (c + C)) (J.wrap (a + 1)) (H)) (ss [0] z z) (sb z))
   ·exact bF <| aN <| aR <| aO <| ax <| sR <| oPP z <| nT <| xr 4 z (by cases H; exact q1)
theorem tn (w : World) {p0 : ab} {p1 : aT} {m : List Value} {o : List Value} {r : Bool} (H : jV p0 p1 = U r) (g0 : (aJ).rd w [] p0 m) (g1 : (aC).rd w [] p1 o) :
    Calls Tryz.prog 34 #[.agg m.toArray, .agg o.toArray] w (fun en w' => en = .returned (B r) ∧ Ext [] w w') := by
 obtain ⟨a3, a4, rfl, f, g⟩ := aB g0
 obtain ⟨a5, a6, rfl⟩ := aj f
 obtain ⟨a7, a8, rfl⟩ := aj g
 obtain ⟨a9, b0, b1, b2, b3, b4, b5, b6, b7, b8, rfl, s, t, u, v, x, A, q, C, D, E⟩ := bj g1
 obtain rfl := s
 obtain rfl := t
 obtain ⟨b9, c0, rfl⟩ := aj u
 obtain rfl := v
 obtain ⟨c1, c2, rfl, h, i⟩ := aK x
 obtain ⟨c3, c4, rfl⟩ := aj h
 obtain ⟨c5, c6, rfl⟩ := aj i
 obtain rfl := A
 obtain ⟨c7, c8, rfl⟩ := aj q
 obtain rfl := C
 obtain rfl := D
 obtain rfl := E
 unfold jV at H
 refine aH Tryz.func34 z Tryz.ntmps34 z (St.init w []) <| sR <| ob _ z fun d => ob _ z fun e => oP z <| nQ <| ak <| sR <| aa [.fa 71 1 1 mf] z <| o1 z (rx 1 1 _ z cM z) <| o1 z (bL [] [I J 0, I J 0] z z cM wE z Y z) <| o1 z (Cn (xs := [I J p1.g_.j_, I J p1.g_.c_]) (ys := [I J 0, I J 0]) z z z (Fe p1.g_.j_ 0 p1.g_.c_ 0)) <| oP z <| aS [(14, B ((!(p1.g_.j_ == 0 && (p1.g_.c_ == 0 && y))) || (decide ((p1.r_.length : Int) > 0)))), (2, O (U ⟨d, 0, N⟩)), (3, O (U ⟨e, 0, N⟩))] 5 ?_ (fun key => OW.sub (R := [(2, O (U ⟨d, 0, N⟩)), (3, O (U ⟨e, 0, N⟩)), (9, B (!(p1.g_.j_ == 0 && (p1.g_.c_ == 0 && y))))]) ?_ (sb z))
 ·refine oP z <| aS [(19, B (((!(p1.g_.j_ == 0 && (p1.g_.c_ == 0 && y))) || (decide ((p1.r_.length : Int) > 0))) || (p1.w_ != 0))), (2, O (U ⟨d, 0, N⟩)), (3, O (U ⟨e, 0, N⟩))] 4 ?_ (fun key => OW.sub (R := [(2, O (U ⟨d, 0, N⟩)), (3, O (U ⟨e, 0, N⟩)), (15, B ((!(p1.g_.j_ == 0 && (p1.g_.c_ == 0 && y))) || (decide ((p1.r_.length : Int) > 0))))]) ?_ (sb z))
  ·refine oP z <| bE H fun j k H => aS [(26, B j), (2, O (U ⟨d, 0, N⟩)), (3, O (U ⟨e, 0, N⟩))] 6 ?_ (fun key => OW.sub (R := [(2, O (U ⟨d, 0, N⟩)), (3, O (U ⟨e, 0, N⟩)), (20, B (((!(p1.g_.j_ == 0 && (p1.g_.c_ == 0 && y))) || (decide ((p1.r_.length : Int) > 0))) || (p1.w_ != 0)))]) ?_ (sb z))
   ·refine oP z <| bE H fun F l H => aS [(33, B F), (2, O (U ⟨d, 0, N⟩)), (3, O (U ⟨e, 0, N⟩))] 6 ?_ (fun key => OW.sub (R := [(2, O (U ⟨d, 0, N⟩)), (3, O (U ⟨e, 0, N⟩)), (27, B j)]) ?_ (sb z))
    ·refine nQ <| cI H z (fun H => ?_) (fun H => ?_)
     ·exact sR <| oP z <| nT <| am <| xr 4 z (by cases H; exact q1)
     ·refine ar <| ax <| ak <| sR <| aa [.fa 71 4 5 gk, .fa 69 1 1 eE] z <| o1 z (r1 6 1 z kq z) <| aa [.lenS 67 31 iR, .p] z <| nQ <| cI H z (fun H => ?_) (fun H => ?_)
      ·exact sR <| aa [.fa 71 5 7 nV] z <| o1 z (r1 7 1 z ty3 z) <| oPP z <| nT <| am <| xr 4 z (by cases H; exact q1)
      ·exact ar <| ax <| ak <| dW cj (by kernel_rfl) <| aa [.fa 71 5 7 nV] z <| o1 z (r1 7 1 z ty3 z) <| o1 z (rx 0 0 _ z cg z) <| aa [.fa 71 4 5 gk] z <| o1 z (rx 5 1 _ z cT z) <| bE H fun c9 G H => oq z (qc z AR (fun c a => iM c G (af (ad f c a) (ad g c a)) (aF (ad h c a) (ad i c a)))) tt2 <| bE H fun d0 L H => oq z (qc z iF (fun c a => bl c L)) tt2 <| oP z <| cC <| ax <| qT <| xr 4 z (by cases H; exact q1)
    ·clear H
     have H := l
     clear l
     generalize j = M at H key ⊢
     cases M
     ·have H := ba z H
      refine o1 z (rx 0 0 _ z cg z) <| aa [.fa 71 6 8 qo] z <| o1 z (r1 8 1 z cq z) <| bE H fun d1 P H => oq z (qc z zA (fun c a => jb c P (af (ad f c a) (ad g c a)) (ad q c a))) tt2 <| oP z <| oP z <| ?_
      obtain rfl := ai H
      exact OW.sub key (sb z)
     ·have H := aZ z H
      refine aa [.p, .p, .p, .p, .p, .p] z ?_
      obtain rfl := ai H
      exact OW.sub key (sb z)
   ·clear H
    have H := k
    clear k
    generalize (((!(p1.g_.j_ == 0 && (p1.g_.c_ == 0 && y))) || (decide ((p1.r_.length : Int) > 0))) || (p1.w_ != 0)) = Q at H key ⊢
    cases Q
    ·have H := ba z H
     refine o1 z (rx 0 0 _ z cg z) <| aa [.fa 71 4 5 gk] z <| o1 z (rx 5 1 _ z cT z) <| bE H fun d2 X H => oq z (qc z vR (fun c a => fB c X (af (ad f c a) (ad g c a)) (aF (ad h c a) (ad i c a)))) tt2 <| oP z <| oP z <| ?_
     obtain rfl := ai H
     exact OW.sub key (sb z)
    ·have H := aZ z H
     refine aa [.p, .p, .p, .p, .p, .p] z ?_
     obtain rfl := ai H
     exact OW.sub key (sb z)
  ·generalize ((!(p1.g_.j_ == 0 && (p1.g_.c_ == 0 && y))) || (decide ((p1.r_.length : Int) > 0))) = Z at key ⊢
   cases Z
   ·exact aa [.fa 71 3 4 pR] z <| o1 z (r1 4 1 z ty3 z) <| oP z <| oP z <| OW.sub key (sb z)
   ·exact aa [.p, .p, .p, .p] z <| OW.sub key (sb z)
 ·generalize (!(p1.g_.j_ == 0 && (p1.g_.c_ == 0 && y))) = a0 at key ⊢
  cases a0
  ·exact aa [.fa 71 2 3 ik] z <| o1 z (r1 3 1 z cq z) <| aa [.lenS 31 3 aP, .p] z <| oP z <| OW.sub key (sb z)
  ·exact aa [.p, .p, .p, .p, .p] z <| OW.sub key (sb z)
theorem gK (w : World) {p0 : ab} {p1 : aq} {h : List Value} {r : Bool} (H : ga p0 p1 = U r) (g0 : (aJ).rd w [] p0 h) :
    Calls Tryz.prog 72 #[.agg h.toArray, .agg #[I J p1.j_, I J p1.c_]] w (fun en w' => en = .returned (B r) ∧ Ext [] w w') := by
 obtain ⟨b5, b6, rfl, d, i⟩ := aB g0
 obtain ⟨b7, b8, rfl⟩ := aj d
 obtain ⟨b9, c0, rfl⟩ := aj i
 unfold ga at H
 refine aH Tryz.func72 z Tryz.ntmps72 z (St.init w []) <| sR <| ob _ z fun j => ob _ z fun k => oP z <| nQ <| ak <| sR <| o1 z (rx 0 0 _ z cg z) <| bE H fun l D H => oq z (qc z xY (fun a c => gB a D (af (ad d a c) (ad i a c)))) tt2 <| oPP z <| bE H fun E e H => aS [(17, B E), (2, O (U ⟨j, 0, N⟩)), (3, O (U ⟨k, 0, N⟩))] 9 ?_ (fun key => OW.sub (R := [(2, O (U ⟨j, 0, N⟩)), (3, O (U ⟨k, 0, N⟩)), (8, B (!l))]) ?_ (sb z))
 ·refine nQ <| cI H z (fun H => ?_) (fun H => ?_)
  ·exact sR <| oP z <| nT <| am <| xr 4 z (by cases H; exact q1)
  ·refine ar <| ax <| ak <| sR <| aa [.fa 27 0 0 cY] z <| o1 z (r1 0 0 z hZ z) <| aa [.fa 66 0 0 jI] z <| o1 z (r1 0 1 z ty3 z) <| bE H fun c1 F H => cn z z z z z gD dD z d F fun c2 c3 t u => ?_
   obtain ⟨c4, c5, c6, rfl, G, L, M⟩ := bA t
   obtain rfl := G
   obtain ⟨c7, c8, rfl⟩ := aj L
   obtain ⟨c9, d0, rfl⟩ := aj M
   refine aa [.fa 63 1 1 iY] z <| o1 z (aD z z cq (bW bor (lz u 1 1))) <| aa [.lenS 31 3 aP, .p] z <| nQ <| cI H z (fun H => ?_) (fun H => ?_)
   ·refine ak <| dW cj (by kernel_rfl) <| aa [.fa 66 1 1 mR] z <| o1 z (r1 1 1 z ty3 z) <| aa [.fa 27 0 0 cY] z <| o1 z (r1 0 0 z hZ z) <| aa [.fa 66 0 0 jI] z <| o1 z (r1 0 1 z ty3 z) <| bE H fun f P H => cn z z z z z gD dD z d P fun d1 d2 v x => ?_
    obtain ⟨d3, d4, d5, rfl, Q, m, o⟩ := bA v
    obtain rfl := Q
    obtain ⟨X, Z, rfl⟩ := aj m
    obtain ⟨a0, a1, rfl⟩ := aj o
    exact o1 z (cA (cs := [vS f.B_, S X f.u_.length Z, S a0 f.A_.length a1]) z z dD (bW bor x) z) <| bE H fun d6 a2 H => oq z (qc z vi (fun a c => gF a a2 (bO z (ad m a c) (ad o a c)))) tt2 <| oP z <| bE H fun d7 a3 H => oq z (qc z iF (fun a c => bl a a3)) tt2 <| oP z <| cC <| ax <| qT <| am <| xr 4 z (by cases H; exact q1)
   ·refine ar <| ax <| ak <| dW cj (by kernel_rfl) <| aa [.fa 66 1 1 mR] z <| o1 z (r1 1 1 z ty3 z) <| aa [.fa 27 0 0 cY] z <| o1 z (r1 0 0 z hZ z) <| aa [.fa 66 0 0 jI] z <| o1 z (r1 0 1 z ty3 z) <| bE H fun g a4 H => cn z z z z z gD dD z d a4 fun d8 d9 A C => ?_
    obtain ⟨e0, e1, e2, rfl, a5, q, s⟩ := bA A
    obtain rfl := a5
    obtain ⟨a6, a7, rfl⟩ := aj q
    obtain ⟨a8, a9, rfl⟩ := aj s
    exact o1 z (cA (cs := [vS g.B_, S a6 g.u_.length a7, S a8 g.A_.length a9]) z z dD (bW bor C) z) <| bE H fun e3 b0 H => oq z (qc z vi (fun a c => gF a b0 (bO z (ad q a c) (ad s a c)))) tt2 <| oP z <| bE H fun e4 b1 H => oq z (qc z iF (fun a c => bl a b1)) tt2 <| oP z <| cC <| ax <| qT <| xr 4 z (by cases H; exact q1)
 ·clear H
  have H := e
  clear e
  generalize (!l) = b2 at H key ⊢
  cases b2
  ·have H := ba z H
   refine aa [.fa 66 0 0 jI] z <| o1 z (r1 0 1 z ty3 z) <| aa [.fa 27 0 0 cY] z <| o1 z (r1 0 0 z hZ z) <| aa [.lenS 24 63 gD, .p] z <| bE H fun e5 b3 H => oq z (qc z iF (fun a c => bl a b3)) tt2 <| oP z <| oP z <| ?_
   obtain rfl := ai H
   exact OW.sub key (sb z)
  ·have H := aZ z H
   refine aa [.p, .p, .p, .p, .p, .p, .p, .p, .p] z ?_
   obtain rfl := ai H
   exact OW.sub key (sb z)
theorem gv (w : World) {p0 : ab} {p1 : aq} {f : List Value} {r : Int} (H : dR p0 p1 = U r) (v : (aJ).rd w [] p0 f) :
    Calls Tryz.prog 73 #[.agg f.toArray, .agg #[I J p1.j_, I J p1.c_]] w (fun en w' => en = .returned (I J r) ∧ Ext [] w w') := by
 obtain ⟨x, A, rfl, d, g⟩ := aB v
 obtain ⟨C, D, rfl⟩ := aj d
 obtain ⟨E, F, rfl⟩ := aj g
 unfold dR at H
 refine aH Tryz.func73 z Tryz.ntmps73 z (St.init w []) <| sR <| ob _ z fun G => ob _ z fun L => oP z <| nQ <| ak <| sR <| o1 z (rx 0 0 _ z cg z) <| o1 z (rx 0 1 _ z cM z) <| bE H fun M l H => oq z (qc z xE (fun c a => gK c (p1 := p1) l (af (ad d c a) (ad g c a)))) tt2 <| oP z <| nQ <| cI H z (fun H => ?_) (fun H => ?_)
 ·exact sR <| oP z <| nT <| am <| xr 4 z (by cases H; exact q1)
 ·refine ar <| ax <| ak <| sR <| aa [.fa 66 1 1 mR] z <| o1 z (r1 1 1 z ty3 z) <| oP z <| nQ <| cI H z (fun H => ?_) (fun H => ?_)
  ·refine sR <| aa [.fa 27 0 0 cY] z <| o1 z (r1 0 0 z hZ z) <| aa [.fa 66 0 0 jI] z <| o1 z (r1 0 1 z ty3 z) <| bE H fun e m H => cn z z z z z gD dD z d m fun P Q j k => ?_
   obtain ⟨R, X, Z, rfl, o, h, i⟩ := bA j
   obtain rfl := o
   obtain ⟨p, q, rfl⟩ := aj h
   obtain ⟨s, t, rfl⟩ := aj i
   exact o1 z (cA (cs := [vS e.B_, S p e.u_.length q, S s e.A_.length t]) z z dD (bW bor k) z) <| bE H fun a0 u H => oq z (qc z vi (fun c a => gF c u (bO z (ad h c a) (ad i c a)))) tt2 <| oP z <| nT <| am <| xr 4 z (by cases H; exact q1)
  ·exact ar <| ax <| sR <| oP z <| nT <| xr 4 z (by cases H; exact q1)
theorem sw (w : World) {p0 : ab} {p1 : ah} {p2 : Int} {a8 : List Value} {a9 : List Value} {r : Bool} (H : ju p0 p1 p2 = U r) (g0 : (aJ).rd w [] p0 a8) (g1 : (cz).rd w [] p1 a9) :
    Calls Tryz.prog 35 #[.agg a8.toArray, .agg a9.toArray, I J p2] w (fun en w' => en = .returned (B r) ∧ Ext [] w w') := by
 obtain ⟨j2, j3, rfl, m, o⟩ := aB g0
 obtain ⟨j4, j5, rfl⟩ := aj m
 obtain ⟨j6, j7, rfl⟩ := aj o
 obtain ⟨j8, j9, rfl, v, d6⟩ := bZ g1
 obtain ⟨d7, d8, rfl⟩ := aj v
 obtain rfl := d6
 unfold ju at H
 refine aH Tryz.func35 z Tryz.ntmps35 z (St.init w []) <| sR <| ob _ z fun i => ob _ z fun d => oP z <| nR <| aa [.fa 30 0 0 cc] z <| o1 z (r1 0 1 z eC z) <| oP z <| bE H fun a d9 H => cn z z z z z dX ca z v d9 fun k0 k2 b4 b5 => ?_
 obtain ⟨k3, k4, k5, k6, k7, k8, k9, l0, l1, l2, rfl, e0, e1, k, e2, e3, e4, b0, e5, e6, e7⟩ := bj b4
 obtain rfl := e0
 obtain rfl := e1
 obtain ⟨x, A, rfl⟩ := aj k
 obtain rfl := e2
 obtain ⟨l3, l4, rfl, b1, b2⟩ := aK e3
 obtain ⟨C, D, rfl⟩ := aj b1
 obtain ⟨E, F, rfl⟩ := aj b2
 obtain rfl := e4
 obtain ⟨G, L, rfl⟩ := aj b0
 obtain rfl := e5
 obtain rfl := e6
 obtain rfl := e7
 refine o1 z (cA (cs := [B a.q_, I J a.g_.j_, I J a.g_.c_, S x a.r_.length A, I J a.w_, S C a.n_.e_.length D, S E a.n_.d_.length F, I J a.x_, S G a.b_.length L, I J a.m_, I J a.p_, I J a.s_]) z z ca (bW bor b5) z) <| aA z z z z ca (fun _ => kp) fun f => sC 0 [B a.q_, I J a.g_.j_, I J a.g_.c_, S x a.r_.length A, I J a.w_, S C a.n_.e_.length D, S E a.n_.d_.length F, I J a.x_, S G a.b_.length L, I J a.m_, I J a.p_, I J a.s_] [_, _, _, _, _, _, _, _, _, _, _, _] 2 z ca z <| nQ <| ak <| ak <| dW cj (by kernel_rfl) <| o1 z (rx 0 0 _ z cg z) <| aa [.fa 71 1 1 mf] z <| o1 z (rx 1 2 _ z cM z) <| bE H fun b3 e9 H => oq z (qc z xE (fun h g => gK h (p1 := a.g_) e9 (af (ad m h g) (ad o h g)))) tt2 <| oPP z <| bE H fun M P H => aS [(28, B M), (2, I J p2), (3, O (U ⟨i, 0, N⟩)), (4, O (U ⟨d, 0, N⟩)), (7, O (U ⟨f, 0, N⟩))] 9 ?_ (fun key => OW.sub (R := [(2, I J p2), (3, O (U ⟨i, 0, N⟩)), (4, O (U ⟨d, 0, N⟩)), (7, O (U ⟨f, 0, N⟩)), (19, B (!b3))]) ?_ (sb z))
 ·refine oP z <| bE H fun Q X H => aS [(38, B Q), (2, I J p2), (3, O (U ⟨i, 0, N⟩)), (4, O (U ⟨d, 0, N⟩)), (7, O (U ⟨f, 0, N⟩))] 9 ?_ (fun key => OW.sub (R := [(2, I J p2), (3, O (U ⟨i, 0, N⟩)), (4, O (U ⟨d, 0, N⟩)), (7, O (U ⟨f, 0, N⟩)), (29, B M)]) ?_ (sb z))
  ·refine oP z <| bE H fun l Z H => aS [(45, B l), (2, I J p2), (3, O (U ⟨i, 0, N⟩)), (4, O (U ⟨d, 0, N⟩)), (7, O (U ⟨f, 0, N⟩))] 6 ?_ (fun key => OW.sub (R := [(2, I J p2), (3, O (U ⟨i, 0, N⟩)), (4, O (U ⟨d, 0, N⟩)), (7, O (U ⟨f, 0, N⟩)), (39, B Q)]) ?_ (sb z))
   ·refine oP z <| aS [(52, B (l || (decide ((a.n_.d_.length : Int) > 0)))), (2, I J p2), (3, O (U ⟨i, 0, N⟩)), (4, O (U ⟨d, 0, N⟩)), (7, O (U ⟨f, 0, N⟩))] 6 ?_ (fun key => OW.sub (R := [(2, I J p2), (3, O (U ⟨i, 0, N⟩)), (4, O (U ⟨d, 0, N⟩)), (7, O (U ⟨f, 0, N⟩)), (46, B l)]) ?_ (sb z))
    ·refine oP z <| aS [(57, B ((l || (decide ((a.n_.d_.length : Int) > 0))) || (a.x_ != 0))), (2, I J p2), (3, O (U ⟨i, 0, N⟩)), (4, O (U ⟨d, 0, N⟩)), (7, O (U ⟨f, 0, N⟩))] 4 ?_ (fun key => OW.sub (R := [(2, I J p2), (3, O (U ⟨i, 0, N⟩)), (4, O (U ⟨d, 0, N⟩)), (7, O (U ⟨f, 0, N⟩)), (53, B (l || (decide ((a.n_.d_.length : Int) > 0))))]) ?_ (sb z))
     ·refine oP z <| bE H fun f0 a0 H => aS [(64, B f0), (2, I J p2), (4, O (U ⟨d, 0, N⟩)), (7, O (U ⟨f, 0, N⟩))] 6 ?_ (fun key => OW.sub (R := [(2, I J p2), (3, O (U ⟨i, 0, N⟩)), (4, O (U ⟨d, 0, N⟩)), (7, O (U ⟨f, 0, N⟩)), (58, B ((l || (decide ((a.n_.d_.length : Int) > 0))) || (a.x_ != 0)))]) ?_ (sb z))
      ·refine cC <| ax <| cI H z (fun H => ?_) (fun H => ?_)
       ·exact sR <| oP z <| nT <| am <| xr 6 z (by cases H; exact q1)
       ·refine ar <| ax <| ak <| sR <| oP z <| nQ <| az <| CW.at (fG (fun (c : Int) => St w [] [b d 30 [S d7 p1.a_.length d8, I J p1.k_], b f 71 [B a.q_, I J a.g_.j_, I J a.g_.c_, S x a.r_.length A, I J a.w_, S C a.n_.e_.length D, S E a.n_.d_.length F, I J a.x_, S G a.b_.length L, I J a.m_, I J a.p_, I J a.s_]]) (fun c => [(2, I J p2), (4, O (U ⟨d, 0, N⟩)), (7, O (U ⟨f, 0, N⟩)), (8, I J c)]) (fun kk => fun c => gA a p2 p1 kk c = U r) (fun _ H => ?_) (fun k1 b6 c H => ?_) be (0) (H)) (ss [1, 2] z z) (sb z)
        ·unfold gA at H
         exact absurd H (by simp)
        ·unfold gA at H
         refine ak <| sR <| aa [.p, .fa 71 2 3 ik] z <| o1 z (r1 3 1 z cq z) <| aa [.lenS 31 3 aP, .p] z <| nQ <| cI H z (fun H => ?_) (fun H => ?_)
         ·refine ar <| ax <| ak <| az <| ak <| dW cj (by kernel_rfl) <| aa [.fa 71 2 3 ik] z <| o1 z (r1 3 1 z cq z) <| oP z <| bE H fun g5 a1 H => bo (e := eI) (xs := a.r_) (j := c) z z z z z aP ty3 z (ad k) a1 (by rw [Nat.mul_one]) <| o1 z (aD z z ty3 (bD (ad k) a1)) <| aa [.p, .p, .fa 30 0 0 cc] z <| o1 z (r1 0 0 z eC z) <| aa [.lenS 28 71 dX, .p] z <| bE H fun a2 b7 H => oq z (qc z iF (fun h g => bl h b7)) tt2 <| oPP z <| bE H fun q s H => aS [(98, B q), (2, I J p2), (4, O (U ⟨d, 0, N⟩)), (7, O (U ⟨f, 0, N⟩)), (8, I J c)] 13 ?_ (fun key => OW.sub (R := [(2, I J p2), (4, O (U ⟨d, 0, N⟩)), (7, O (U ⟨f, 0, N⟩)), (8, I J c), (85, B (!a2))]) ?_ (sb z))
          ·refine oP z <| bE H fun b8 t H => aS [(116, B b8), (2, I J p2), (4, O (U ⟨d, 0, N⟩)), (7, O (U ⟨f, 0, N⟩)), (8, I J c)] 17 ?_ (fun key => OW.sub (R := [(2, I J p2), (4, O (U ⟨d, 0, N⟩)), (7, O (U ⟨f, 0, N⟩)), (8, I J c), (99, B q)]) ?_ (sb z))
           ·refine cC <| ax <| cI H z (fun H => ?_) (fun H => ?_)
            ·exact sR <| oP z <| nT <| aL <| am <| bU <| aL <| am <| xr 6 z (by cases H; exact q1)
            ·exact ar <| cd <| ax <| aW <| aa [.p, .p, .p] z <| ay <| cD (RW.at (b6 (J.wrap (c + 1)) (H)) (ss [0, 1] z z) (sb z))
           ·clear H
            have H := t
            clear t
            generalize q = b9 at H key ⊢
            cases b9
            ·have H := ba z H
             refine aa [.p, .p, .p] z <| bE H fun c0 u H => aS [(115, B c0), (2, I J p2), (4, O (U ⟨d, 0, N⟩)), (7, O (U ⟨f, 0, N⟩)), (8, I J c), (99, B n)] 13 ?_ (fun key => OW.sub (R := [(2, I J p2), (4, O (U ⟨d, 0, N⟩)), (7, O (U ⟨f, 0, N⟩)), (8, I J c), (99, B n), (102, B (decide (c > 0)))]) ?_ (sb z))
             ·refine aa [.p] z ?_
              obtain rfl := ai H
              exact OW.sub key (sb z)
             ·clear H
              have H := u
              clear u
              generalize (decide (c > 0)) = c1 at H key ⊢
              cases c1
              ·have H := ba z H
               refine aa [.p, .p, .p, .p, .p, .p, .p, .p, .p, .p, .p, .p, .p] z ?_
               obtain rfl := ai H
               exact OW.sub key (sb z)
              ·have H := aZ z H
               refine aa [.fa 71 2 3 ik] z <| o1 z (r1 3 1 z cq z) <| oP z <| bE H fun g6 a3 H => bo (e := eI) (xs := a.r_) (j := c) z z z z z aP ty3 z (ad k) a3 (by rw [Nat.mul_one]) <| o1 z (aD z z ty3 (bD (ad k) a3)) <| aa [.fa 71 2 3 ik] z <| o1 z (r1 3 1 z cq z) <| oPP z <| bE H fun g7 a4 H => bo (e := eI) (xs := a.r_) (j := J.wrap (c - 1)) z z z z z aP ty3 z (ad k) a4 (by rw [Nat.mul_one]) <| o1 z (aD z z ty3 (bD (ad k) a4)) <| oP z <| oP z <| ?_
               obtain rfl := ai H
               exact OW.sub key (sb z)
            ·have H := aZ z H
             refine aa [.p, .p, .p, .p, .p, .p, .p, .p, .p, .p, .p, .p, .p, .p, .p, .p, .p] z ?_
             obtain rfl := ai H
             exact OW.sub key (sb z)
          ·clear H
           have H := s
           clear s
           generalize (!a2) = c2 at H key ⊢
           cases c2
           ·have H := ba z H
            refine aa [.fa 30 0 0 cc] z <| o1 z (r1 0 0 z eC z) <| aa [.fa 71 2 3 ik] z <| o1 z (r1 3 1 z cq z) <| oP z <| bE H fun g8 a5 H => bo (e := eI) (xs := a.r_) (j := c) z z z z z aP ty3 z (ad k) a5 (by rw [Nat.mul_one]) <| o1 z (aD z z ty3 (bD (ad k) a5)) <| bE H fun g9 c3 H => cn z z z z z dX ca z v c3 fun h0 h1 a6 a7 => ?_
            obtain ⟨h2, h3, h4, h5, h6, h7, h8, h9, i0, i1, rfl, c4, c5, c6, c7, c8, c9, d0, d1, d2, d3⟩ := bj a6
            obtain rfl := c4
            obtain rfl := c5
            obtain ⟨i2, i3, rfl⟩ := aj c6
            obtain rfl := c7
            obtain ⟨i4, i5, rfl, d4, d5⟩ := aK c8
            obtain ⟨i6, i7, rfl⟩ := aj d4
            obtain ⟨i8, i9, rfl⟩ := aj d5
            obtain rfl := c9
            obtain ⟨j0, j1, rfl⟩ := aj d0
            obtain rfl := d1
            obtain rfl := d2
            obtain rfl := d3
            refine aa [.fa 71 8 10 nz] z <| o1 z (aD z z ty3 (bW bor (lz a7 10 1))) <| oPP z <| oP z <| ?_
            obtain rfl := ai H
            exact OW.sub key (sb z)
           ·have H := aZ z H
            refine aa [.p, .p, .p, .p, .p, .p, .p, .p, .p, .p, .p, .p, .p] z ?_
            obtain rfl := ai H
            exact OW.sub key (sb z)
         ·exact bF <| aN <| aR <| aO <| ax <| sR <| oP z <| nT <| xr 6 z (by cases H; exact q1)
      ·clear H
       have H := a0
       clear a0
       generalize ((l || (decide ((a.n_.d_.length : Int) > 0))) || (a.x_ != 0)) = f1 at H key ⊢
       cases f1
       ·have H := ba z H
        refine o1 z (rx 0 0 _ z cg z) <| aa [.fa 71 6 8 qo] z <| o1 z (r1 8 2 z cq z) <| bE H fun l5 f2 H => oq z (qc z zA (fun h g => jb h f2 (af (ad m h g) (ad o h g)) (ad b0 h g))) tt2 <| oP z <| oP z <| ?_
        obtain rfl := ai H
        exact OW.sub key (sb z)
       ·have H := aZ z H
        refine aa [.p, .p, .p, .p, .p, .p] z ?_
        obtain rfl := ai H
        exact OW.sub key (sb z)
     ·generalize (l || (decide ((a.n_.d_.length : Int) > 0))) = f3 at key ⊢
      cases f3
      ·exact aa [.fa 71 5 7 nV] z <| o1 z (r1 7 2 z ty3 z) <| oP z <| oP z <| OW.sub key (sb z)
      ·exact aa [.p, .p, .p, .p] z <| OW.sub key (sb z)
    ·generalize l = f4 at key ⊢
     cases f4
     ·exact aa [.fa 71 4 5 gk, .fa 69 1 1 eE] z <| o1 z (r1 6 2 z kq z) <| aa [.lenS 67 31 iR, .p] z <| oP z <| OW.sub key (sb z)
     ·exact aa [.p, .p, .p, .p, .p, .p] z <| OW.sub key (sb z)
   ·clear H
    have H := Z
    clear Z
    generalize Q = f5 at H key ⊢
    cases f5
    ·have H := ba z H
     refine o1 z (rx 0 0 _ z cg z) <| aa [.fa 71 4 5 gk] z <| o1 z (rx 5 2 _ z cT z) <| bE H fun l6 f6 H => oq z (qc z vR (fun h g => fB h f6 (af (ad m h g) (ad o h g)) (aF (ad b1 h g) (ad b2 h g)))) tt2 <| oP z <| oP z <| ?_
     obtain rfl := ai H
     exact OW.sub key (sb z)
    ·have H := aZ z H
     refine aa [.p, .p, .p, .p, .p, .p] z ?_
     obtain rfl := ai H
     exact OW.sub key (sb z)
  ·clear H
   have H := X
   clear X
   generalize M = f7 at H key ⊢
   cases f7
   ·have H := ba z H
    refine aa [.fa 71 3 4 pR] z <| o1 z (r1 4 2 z ty3 z) <| aa [.fa 71 2 3 ik] z <| o1 z (r1 3 2 z cq z) <| aa [.lenS 31 3 aP, .p] z <| bE H fun l7 f8 H => oq z (qc z iF (fun h g => bl h f8)) tt2 <| oP z <| oP z <| ?_
    obtain rfl := ai H
    exact OW.sub key (sb z)
   ·have H := aZ z H
    refine aa [.p, .p, .p, .p, .p, .p, .p, .p, .p] z ?_
    obtain rfl := ai H
    exact OW.sub key (sb z)
 ·clear H
  have H := P
  clear P
  generalize (!b3) = f9 at H key ⊢
  cases f9
  ·have H := ba z H
   refine aa [.fa 71 2 3 ik] z <| o1 z (r1 3 2 z cq z) <| aa [.lenS 31 3 aP] z <| o1 z (rx 0 0 _ z cg z) <| aa [.fa 71 1 1 mf] z <| o1 z (rx 1 2 _ z cM z) <| bE H fun l8 g2 H => oq z (qc z yi (fun h g => gv h (p1 := a.g_) g2 (af (ad m h g) (ad o h g)))) tt2 <| oP z <| oP z <| ?_
   obtain rfl := ai H
   exact OW.sub key (sb z)
  ·have H := aZ z H
   refine aa [.p, .p, .p, .p, .p, .p, .p, .p, .p] z ?_
   obtain rfl := ai H
   exact OW.sub key (sb z)
theorem sq (w : World) {p0 : List Int} {p1 : Int} {a_0 : Option Addr} {n_0 c_0 : Nat} {r : Bool} (H : ls p0 p1 = U r) (d : (ae eI 3).rd w [] p0 [S a_0 n_0 c_0]) :
    Calls Tryz.prog 36 #[S a_0 n_0 c_0, I J p1] w (fun en w' => en = .returned (B r) ∧ Ext [] w w') := by
 obtain rfl := fM d
 unfold ls at H
 refine aH Tryz.func36 z Tryz.ntmps36 z (St.init w []) <| sR <| oP z <| nQ <| ak <| sR <| oP z <| nQ <| az <| CW.at (fG (fun (a : Int) => St w [] []) (fun a => [(0, S a_0 p0.length c_0), (1, I J p1), (5, I J a)]) (fun kk => fun a => cU p0 p1 kk a = U r) (fun _ H => ?_) (fun h f a H => ?_) be (0) (H)) (ss [] z z) (sb z)
 ·unfold cU at H
  exact absurd H (by simp)
 ·unfold cU at H
  refine ak <| sR <| aa [.p, .p, .lenS 31 3 aP, .p] z <| nQ <| cI H z (fun H => ?_) (fun H => ?_)
  ·refine ar <| ax <| ak <| az <| sR <| oPP z <| bE H fun g c H => bo (e := eI) (xs := p0) (j := a) z z z z z aP ty3 z (ad d) c (by rw [Nat.mul_one]) <| o1 z (aD z z ty3 (bD (ad d) c)) <| oPP z <| nQ <| cI H z (fun H => ?_) (fun H => ?_)
   ·exact sR <| oP z <| nT <| aL <| am <| bU <| aL <| am <| xr 4 z (by cases H; exact q1)
   ·exact ar <| cd <| ax <| aW <| aa [.p, .p, .p] z <| ay <| cD (RW.at (f (J.wrap (a + 1)) (H)) (ss [] z z) (sb z))
  ·exact bF <| aN <| aR <| aO <| ax <| sR <| oP z <| nT <| xr 4 z (by cases H; exact q1)
end Go.Vk
