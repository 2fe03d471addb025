/- The code does what the functions of data say. Printed by program. -/
import Derived.Test.YtdckhcfbccnjiaaGreatDoorRF
import Derived.Test.YtdckhcfbccnjiaaGreatDoorChecked
import Derived.Test.YtdckhcfbccnjiaaGreatDoorShelf
namespace Go.Vk
open Value renaming int → I, slice → S, pointer → O, bool → B
open IntKind renaming i64 → J, u8 → K
open Bool renaming true → y, false → n
open Option renaming some → U, none → N
open Res renaming box → b, own → W
open Go.Proofs Go.RowKit
set_option maxHeartbeats 4000000
set_option maxRecDepth 100000
def cf : Enc bi := wg (cG (da) (cG (af eI 3) (af (da) 9))) (fun x => (x.x_, x.t_, x.y_))
theorem dd {w : World} {X : List Nat} {x : bi} {c0 c1 c2 : List Value} (a : (da).rd w X x.x_ c0) (h1 : (af eI 3).rd w X x.t_ c1) (c : (af (da) 9).rd w X x.y_ c2) : (cf).rd w X x (c0 ++ (c1 ++ c2)) := by
  show (cG (da) (cG (af eI 3) (af (da) 9))).rd w X (x.x_, x.t_, x.y_) _
  exact (gm a (gm h1 c))
theorem bW {w : World} {X : List Nat} {x : bi} {cs : List Value} (h : (cf).rd w X x cs) : ∃ c0 c1 c2, cs = (c0 ++ (c1 ++ c2)) ∧ (da).rd w X x.x_ c0 ∧ (af eI 3).rd w X x.t_ c1 ∧ (af (da) 9).rd w X x.y_ c2 := by
  have h : (cG (da) (cG (af eI 3) (af (da) 9))).rd w X (x.x_, x.t_, x.y_) cs := h
  obtain ⟨c0, e, rfl, a, c⟩ := h
  obtain ⟨c1, c2, rfl, h1, d⟩ := c
  exact ⟨c0, c1, c2, z, a, h1, d⟩
theorem rZ {w : World} {a c d : List Nat} {x : bi} {c0 c1 c2 : List Value} (e : (da).own w a x.x_ c0) (h1 : (af eI 3).own w c x.t_ c1) (f : (af (da) 9).own w d x.y_ c2) : (cf).own w (a ++ (c ++ d)) x (c0 ++ (c1 ++ c2)) := by
  show (cG (da) (cG (af eI 3) (af (da) 9))).own w _ (x.x_, x.t_, x.y_) _
  exact (gP e (gP h1 f))
theorem pk {w0 : World} {M : List Nat} {L : List Res} {w : World} {x0 : List UInt8} {x1 : List Int} {a : Option Addr} {c d : Nat} {i : List Nat} {x2 : List (List UInt8)} {e : Option Addr} {f g : Nat} {j : List Nat} (idx : List Nat) (h : St w0 M L w) (hs : jr L idx = [W (af eI 3) i x1 [S a c d], W (af (da) 9) j x2 [S e f g]]) (hn : pK idx = y) :
    ∃ F, St w0 M (kH L idx ++ [W (cf) F (bi.mk x0 x1 x2) [vS x0, S a c d, S e f g]]) w := by
  have k : (af eI 3).own w i x1 [S a c d] := h.ok' (my (L := L) (is := idx) (by rw [hs]; simp : W (af eI 3) i x1 [S a c d] ∈ jr L idx))
  have o1 : (af (da) 9).own w j x2 [S e f g] := h.ok' (my (L := L) (is := idx) (by rw [hs]; simp : W (af (da) 9) j x2 [S e f g] ∈ jr L idx))
  have ho := (rZ (x := (bi.mk x0 x1 x2)) (⟨z, z⟩ : (da).own w [] _ _) k o1)
  refine ⟨_, h.re idx [W (cf) _ (bi.mk x0 x1 x2) [vS x0, S a c d, S e f g]] hn ?_ (fun s hs => by rw [List.mem_singleton.1 hs]; exact ho)⟩
  rw [hs]
  simp [dr, W]
def aX : Enc ae := wg (cG (af (cf) 63) (af (da) 9)) (fun x => (x.b_, x.k_))
theorem ah {w : World} {X : List Nat} {x : ae} {c0 c1 : List Value} (a : (af (cf) 63).rd w X x.b_ c0) (h1 : (af (da) 9).rd w X x.k_ c1) : (aX).rd w X x (c0 ++ c1) := by
  show (cG (af (cf) 63) (af (da) 9)).rd w X (x.b_, x.k_) _
  exact (gm a h1)
theorem aI {w : World} {X : List Nat} {x : ae} {cs : List Value} (h : (aX).rd w X x cs) : ∃ c0 c1, cs = (c0 ++ c1) ∧ (af (cf) 63).rd w X x.b_ c0 ∧ (af (da) 9).rd w X x.k_ c1 := by
  have h : (cG (af (cf) 63) (af (da) 9)).rd w X (x.b_, x.k_) cs := h
  obtain ⟨c0, c1, rfl, a, h1⟩ := h
  exact ⟨c0, c1, z, a, h1⟩
def bz : Enc ar := kG (fun x => [I J x.g_, I J x.c_]) 2 (fun _ => z) (by intro x u hu; simp only [List.mem_cons, List.not_mem_nil, or_false] at hu; rcases hu with rfl | rfl <;> rfl)
def cn : Enc av := wg (cG (af eI 3) (af (af eI 3) 31)) (fun x => (x.e_, x.d_))
theorem aE {w : World} {X : List Nat} {x : av} {c0 c1 : List Value} (a : (af eI 3).rd w X x.e_ c0) (h1 : (af (af eI 3) 31).rd w X x.d_ c1) : (cn).rd w X x (c0 ++ c1) := by
  show (cG (af eI 3) (af (af eI 3) 31)).rd w X (x.e_, x.d_) _
  exact (gm a h1)
theorem aL {w : World} {X : List Nat} {x : av} {cs : List Value} (h : (cn).rd w X x cs) : ∃ c0 c1, cs = (c0 ++ c1) ∧ (af eI 3).rd w X x.e_ c0 ∧ (af (af eI 3) 31).rd w X x.d_ c1 := by
  have h : (cG (af eI 3) (af (af eI 3) 31)).rd w X (x.e_, x.d_) cs := h
  obtain ⟨c0, c1, rfl, a, h1⟩ := h
  exact ⟨c0, c1, z, a, h1⟩
theorem qU {w : World} {a c : List Nat} {x : av} {c0 c1 : List Value} (d : (af eI 3).own w a x.e_ c0) (h1 : (af (af eI 3) 31).own w c x.d_ c1) : (cn).own w (a ++ c) x (c0 ++ c1) := by
  show (cG (af eI 3) (af (af eI 3) 31)).own w _ (x.e_, x.d_) _
  exact (gP d h1)
theorem rr {w : World} {F : List Nat} {x : av} {cs : List Value} (h : (cn).own w F x cs) : ∃ a c c0 c1, F = (a ++ c) ∧ cs = (c0 ++ c1) ∧ (af eI 3).own w a x.e_ c0 ∧ (af (af eI 3) 31).own w c x.d_ c1 := by
  have h : (cG (af eI 3) (af (af eI 3) 31)).own w F (x.e_, x.d_) cs := h
  obtain ⟨a, c, c0, c1, rfl, rfl, d, h1⟩ := h
  exact ⟨a, c, c0, c1, z, z, d, h1⟩
def aD : Enc aR := wg (cG (pO) (cG (bz) (cG (af eI 3) (cG eI (cG (cn) (cG eI (cG (af eI 3) (cG eI (cG eI eI))))))))) (fun x => (x.s_, x.l_, x.r_, x.w_, x.n_, x.v_, x.b_, x.m_, x.o_, x.p_))
theorem gU {w : World} {X : List Nat} {x : aR} {c0 c1 c2 c3 c4 c5 c6 c7 c8 c9 : List Value} (a : (pO).rd w X x.s_ c0) (h1 : (bz).rd w X x.l_ c1) (c : (af eI 3).rd w X x.r_ c2) (d : eI.rd w X x.w_ c3) (e : (cn).rd w X x.n_ c4) (f : eI.rd w X x.v_ c5) (g : (af eI 3).rd w X x.b_ c6) (h : eI.rd w X x.m_ c7) (i : eI.rd w X x.o_ c8) (j : eI.rd w X x.p_ c9) : (aD).rd w X x (c0 ++ (c1 ++ (c2 ++ (c3 ++ (c4 ++ (c5 ++ (c6 ++ (c7 ++ (c8 ++ c9))))))))) := by
  show (cG (pO) (cG (bz) (cG (af eI 3) (cG eI (cG (cn) (cG eI (cG (af eI 3) (cG eI (cG eI eI))))))))).rd w X (x.s_, x.l_, x.r_, x.w_, x.n_, x.v_, x.b_, x.m_, x.o_, x.p_) _
  exact (gm a (gm h1 (gm c (gm d (gm e (gm f (gm g (gm h (gm i j)))))))))
theorem bn {w : World} {X : List Nat} {x : aR} {cs : List Value} (h : (aD).rd w X x cs) : ∃ c0 c1 c2 c3 c4 c5 c6 c7 c8 c9, cs = (c0 ++ (c1 ++ (c2 ++ (c3 ++ (c4 ++ (c5 ++ (c6 ++ (c7 ++ (c8 ++ c9))))))))) ∧ (pO).rd w X x.s_ c0 ∧ (bz).rd w X x.l_ c1 ∧ (af eI 3).rd w X x.r_ c2 ∧ eI.rd w X x.w_ c3 ∧ (cn).rd w X x.n_ c4 ∧ eI.rd w X x.v_ c5 ∧ (af eI 3).rd w X x.b_ c6 ∧ eI.rd w X x.m_ c7 ∧ eI.rd w X x.o_ c8 ∧ eI.rd w X x.p_ c9 := by
  have h : (cG (pO) (cG (bz) (cG (af eI 3) (cG eI (cG (cn) (cG eI (cG (af eI 3) (cG eI (cG eI eI))))))))).rd w X (x.s_, x.l_, x.r_, x.w_, x.n_, x.v_, x.b_, x.m_, x.o_, x.p_) cs := h
  obtain ⟨c0, t, rfl, a, c⟩ := h
  obtain ⟨c1, u, rfl, h1, r1⟩ := c
  obtain ⟨c2, v, rfl, d, e⟩ := r1
  obtain ⟨c3, A, rfl, f, g⟩ := e
  obtain ⟨c4, C, rfl, i, j⟩ := g
  obtain ⟨c5, D, rfl, k, l⟩ := j
  obtain ⟨c6, E, rfl, m, o⟩ := l
  obtain ⟨c7, F, rfl, p, q⟩ := o
  obtain ⟨c8, c9, rfl, r, s⟩ := q
  exact ⟨c0, c1, c2, c3, c4, c5, c6, c7, c8, c9, z, a, h1, d, f, i, k, m, p, r, s⟩
theorem sc {w : World} {a c d e f g h i j k : List Nat} {x : aR} {c0 c1 c2 c3 c4 c5 c6 c7 c8 c9 : List Value} (l : (pO).own w a x.s_ c0) (h1 : (bz).own w c x.l_ c1) (m : (af eI 3).own w d x.r_ c2) (o : eI.own w e x.w_ c3) (p : (cn).own w f x.n_ c4) (q : eI.own w g x.v_ c5) (r : (af eI 3).own w h x.b_ c6) (s : eI.own w i x.m_ c7) (t : eI.own w j x.o_ c8) (u : eI.own w k x.p_ c9) : (aD).own w (a ++ (c ++ (d ++ (e ++ (f ++ (g ++ (h ++ (i ++ (j ++ k))))))))) x (c0 ++ (c1 ++ (c2 ++ (c3 ++ (c4 ++ (c5 ++ (c6 ++ (c7 ++ (c8 ++ c9))))))))) := by
  show (cG (pO) (cG (bz) (cG (af eI 3) (cG eI (cG (cn) (cG eI (cG (af eI 3) (cG eI (cG eI eI))))))))).own w _ (x.s_, x.l_, x.r_, x.w_, x.n_, x.v_, x.b_, x.m_, x.o_, x.p_) _
  exact (gP l (gP h1 (gP m (gP o (gP p (gP q (gP r (gP s (gP t u)))))))))
theorem sg {w : World} {F : List Nat} {x : aR} {cs : List Value} (h : (aD).own w F x cs) : ∃ a c d e f g i j k l c0 c1 c2 c3 c4 c5 c6 c7 c8 c9, F = (a ++ (c ++ (d ++ (e ++ (f ++ (g ++ (i ++ (j ++ (k ++ l))))))))) ∧ cs = (c0 ++ (c1 ++ (c2 ++ (c3 ++ (c4 ++ (c5 ++ (c6 ++ (c7 ++ (c8 ++ c9))))))))) ∧ (pO).own w a x.s_ c0 ∧ (bz).own w c x.l_ c1 ∧ (af eI 3).own w d x.r_ c2 ∧ eI.own w e x.w_ c3 ∧ (cn).own w f x.n_ c4 ∧ eI.own w g x.v_ c5 ∧ (af eI 3).own w i x.b_ c6 ∧ eI.own w j x.m_ c7 ∧ eI.own w k x.o_ c8 ∧ eI.own w l x.p_ c9 := by
  have h : (cG (pO) (cG (bz) (cG (af eI 3) (cG eI (cG (cn) (cG eI (cG (af eI 3) (cG eI (cG eI eI))))))))).own w F (x.s_, x.l_, x.r_, x.w_, x.n_, x.v_, x.b_, x.m_, x.o_, x.p_) cs := h
  obtain ⟨a, M, c0, P, rfl, rfl, m, o⟩ := h
  obtain ⟨c, Q, c1, R, rfl, rfl, h1, r1⟩ := o
  obtain ⟨d, X, c2, Z, rfl, rfl, p, q⟩ := r1
  obtain ⟨e, G3, c3, d3, rfl, rfl, r, s⟩ := q
  obtain ⟨f, G4, c4, d4, rfl, rfl, t, u⟩ := s
  obtain ⟨g, G5, c5, d5, rfl, rfl, v, A⟩ := u
  obtain ⟨i, G6, c6, d6, rfl, rfl, C, D⟩ := A
  obtain ⟨j, G7, c7, d7, rfl, rfl, E, G⟩ := D
  obtain ⟨k, l, c8, c9, rfl, rfl, H, L⟩ := G
  exact ⟨a, c, d, e, f, g, i, j, k, l, c0, c1, c2, c3, c4, c5, c6, c7, c8, c9, z, z, m, h1, p, r, t, v, C, E, H, L⟩
theorem dy {w0 : World} {M : List Nat} {L : List Res} {w : World} {F : List Nat} {x : aR} {cs : List Value} {i : Nat} (h : St w0 M L w) (hi : L[i]? = U (W (aD) F x cs)) :
    ∃ (a_1 : Option Addr) (k_1 : Nat) (F_1 : List Nat), ∃ (a_2 : Option Addr) (k_2 : Nat) (F_2 : List Nat), ∃ (a_3 : Option Addr) (k_3 : Nat) (F_3 : List Nat), ∃ (a_4 : Option Addr) (k_4 : Nat) (F_4 : List Nat), cs = [B x.s_, I J x.l_.g_, I J x.l_.c_, S a_1 (x.r_).length k_1, I J x.w_, S a_2 (x.n_.e_).length k_2, S a_3 (x.n_.d_).length k_3, I J x.v_, S a_4 (x.b_).length k_4, I J x.m_, I J x.o_, I J x.p_] ∧ St w0 M (kH L [i] ++ [W (af eI 3) F_1 x.r_ [S a_1 (x.r_).length k_1], W (af eI 3) F_2 x.n_.e_ [S a_2 (x.n_.e_).length k_2], W (af (af eI 3) 31) F_3 x.n_.d_ [S a_3 (x.n_.d_).length k_3], W (af eI 3) F_4 x.b_ [S a_4 (x.b_).length k_4]]) w := by
  obtain ⟨hok, _, _⟩ := h.one hi
  have hok : (aD).own w F x cs := hok
  obtain ⟨F1_0, F1_1, F1_2, F1_3, F1_4, F1_5, F1_6, F1_7, F1_8, F1_9, c1_0, c1_1, c1_2, c1_3, c1_4, c1_5, c1_6, c1_7, c1_8, c1_9, rfl, rfl, h1_0, h1_1, h1_2, h1_3, h1_4, h1_5, h1_6, h1_7, h1_8, h1_9⟩ := sg hok
  obtain ⟨rfl, rfl⟩ : F1_0 = [] ∧ c1_0 = [B x.s_] := h1_0
  obtain ⟨rfl, rfl⟩ : F1_1 = [] ∧ c1_1 = [I J x.l_.g_, I J x.l_.c_] := h1_1
  obtain ⟨a, c, rfl⟩ := ox h1_2
  obtain ⟨rfl, rfl⟩ : F1_3 = [] ∧ c1_3 = [I J x.w_] := h1_3
  obtain ⟨F3_0, F3_1, c3_0, c3_1, rfl, rfl, h3_0, h3_1⟩ := rr h1_4
  obtain ⟨d, e, rfl⟩ := ox h3_0
  obtain ⟨f, g, rfl⟩ := ox h3_1
  obtain ⟨rfl, rfl⟩ : F1_5 = [] ∧ c1_5 = [I J x.v_] := h1_5
  obtain ⟨j, k, rfl⟩ := ox h1_6
  obtain ⟨rfl, rfl⟩ : F1_7 = [] ∧ c1_7 = [I J x.m_] := h1_7
  obtain ⟨rfl, rfl⟩ : F1_8 = [] ∧ c1_8 = [I J x.o_] := h1_8
  obtain ⟨rfl, rfl⟩ : F1_9 = [] ∧ c1_9 = [I J x.p_] := h1_9
  refine ⟨a, c, F1_2, d, e, F3_0, f, g, F3_1, j, k, F1_6, z, h.re [i] _ z ?_ ?_⟩
  · simp [iU, mU, hi, dr, W]
  · intro s hs; simp only [List.mem_cons, List.not_mem_nil, or_false] at hs; rcases hs with rfl | rfl | rfl | rfl
    · exact h1_2
    · exact h3_0
    · exact h3_1
    · exact h1_6
theorem cz {w0 : World} {M : List Nat} {L : List Res} {w : World} {x0 : Bool} {x1 : Int} {x2 : Int} {d : List Int} {f : Option Addr} {g i : Nat} {u : List Nat} {x4 : Int} {a : List Int} {j : Option Addr} {k l : Nat} {v : List Nat} {c : List (List Int)} {m : Option Addr} {o p : Nat} {A : List Nat} {x7 : Int} {e : List Int} {q : Option Addr} {r t : Nat} {C : List Nat} {x9 : Int} {x10 : Int} {x11 : Int} (idx : List Nat) (h : St w0 M L w) (hs : jr L idx = [W (af eI 3) u d [S f g i], W (af eI 3) v a [S j k l], W (af (af eI 3) 31) A c [S m o p], W (af eI 3) C e [S q r t]]) (hn : pK idx = y) :
    ∃ F, St w0 M (kH L idx ++ [W (aD) F (aR.mk x0 (ar.mk x1 x2) d x4 (av.mk a c) x7 e x9 x10 x11) [B x0, I J x1, I J x2, S f g i, I J x4, S j k l, S m o p, I J x7, S q r t, I J x9, I J x10, I J x11]]) w := by
  have D : (af eI 3).own w u d [S f g i] := h.ok' (my (L := L) (is := idx) (by rw [hs]; simp : W (af eI 3) u d [S f g i] ∈ jr L idx))
  have o1 : (af eI 3).own w v a [S j k l] := h.ok' (my (L := L) (is := idx) (by rw [hs]; simp : W (af eI 3) v a [S j k l] ∈ jr L idx))
  have E : (af (af eI 3) 31).own w A c [S m o p] := h.ok' (my (L := L) (is := idx) (by rw [hs]; simp : W (af (af eI 3) 31) A c [S m o p] ∈ jr L idx))
  have G : (af eI 3).own w C e [S q r t] := h.ok' (my (L := L) (is := idx) (by rw [hs]; simp : W (af eI 3) C e [S q r t] ∈ jr L idx))
  have ho := (sc (x := (aR.mk x0 (ar.mk x1 x2) d x4 (av.mk a c) x7 e x9 x10 x11)) (⟨z, z⟩ : (pO).own w [] _ _) (⟨z, z⟩ : (bz).own w [] _ _) D (⟨z, z⟩ : eI.own w [] _ _) (qU (x := (av.mk a c)) o1 E) (⟨z, z⟩ : eI.own w [] _ _) G (⟨z, z⟩ : eI.own w [] _ _) (⟨z, z⟩ : eI.own w [] _ _) (⟨z, z⟩ : eI.own w [] _ _))
  refine ⟨_, h.re idx [W (aD) _ (aR.mk x0 (ar.mk x1 x2) d x4 (av.mk a c) x7 e x9 x10 x11) [B x0, I J x1, I J x2, S f g i, I J x4, S j k l, S m o p, I J x7, S q r t, I J x9, I J x10, I J x11]] hn ?_ (fun s hs => by rw [List.mem_singleton.1 hs]; exact ho)⟩
  rw [hs]
  simp [dr, W]
def cU : Enc aj := wg (cG (af (aD) 71) eI) (fun x => (x.a_, x.j_))
theorem aU {w : World} {X : List Nat} {x : aj} {c0 c1 : List Value} (a : (af (aD) 71).rd w X x.a_ c0) (h1 : eI.rd w X x.j_ c1) : (cU).rd w X x (c0 ++ c1) := by
  show (cG (af (aD) 71) eI).rd w X (x.a_, x.j_) _
  exact (gm a h1)
theorem cr {w : World} {X : List Nat} {x : aj} {cs : List Value} (h : (cU).rd w X x cs) : ∃ c0 c1, cs = (c0 ++ c1) ∧ (af (aD) 71).rd w X x.a_ c0 ∧ eI.rd w X x.j_ c1 := by
  have h : (cG (af (aD) 71) eI).rd w X (x.a_, x.j_) cs := h
  obtain ⟨c0, c1, rfl, a, h1⟩ := h
  exact ⟨c0, c1, z, a, h1⟩
def fD : Enc bw := wg (cG (af eI 3) eI) (fun x => (x.u_, x.z_))
theorem bX {w : World} {X : List Nat} {x : bw} {c0 c1 : List Value} (a : (af eI 3).rd w X x.u_ c0) (h1 : eI.rd w X x.z_ c1) : (fD).rd w X x (c0 ++ c1) := by
  show (cG (af eI 3) eI).rd w X (x.u_, x.z_) _
  exact (gm a h1)
theorem jQ {w : World} {X : List Nat} {x : bw} {cs : List Value} (h : (fD).rd w X x cs) : ∃ c0 c1, cs = (c0 ++ c1) ∧ (af eI 3).rd w X x.u_ c0 ∧ eI.rd w X x.z_ c1 := by
  have h : (cG (af eI 3) eI).rd w X (x.u_, x.z_) cs := h
  obtain ⟨c0, c1, rfl, a, h1⟩ := h
  exact ⟨c0, c1, z, a, h1⟩
theorem tu {w : World} {a c : List Nat} {x : bw} {c0 c1 : List Value} (d : (af eI 3).own w a x.u_ c0) (h1 : eI.own w c x.z_ c1) : (fD).own w (a ++ c) x (c0 ++ c1) := by
  show (cG (af eI 3) eI).own w _ (x.u_, x.z_) _
  exact (gP d h1)
theorem um {w0 : World} {M : List Nat} {L : List Res} {w : World} {x0 : List Int} {a : Option Addr} {c d : Nat} {e : List Nat} {x1 : Int} (idx : List Nat) (h : St w0 M L w) (hs : jr L idx = [W (af eI 3) e x0 [S a c d]]) (hn : pK idx = y) :
    ∃ F, St w0 M (kH L idx ++ [W (fD) F (bw.mk x0 x1) [S a c d, I J x1]]) w := by
  have f : (af eI 3).own w e x0 [S a c d] := h.ok' (my (L := L) (is := idx) (by rw [hs]; simp : W (af eI 3) e x0 [S a c d] ∈ jr L idx))
  have ho := (tu (x := (bw.mk x0 x1)) f (⟨z, z⟩ : eI.own w [] _ _))
  refine ⟨_, h.re idx [W (fD) _ (bw.mk x0 x1) [S a c d, I J x1]] hn ?_ (fun s hs => by rw [List.mem_singleton.1 hs]; exact ho)⟩
  rw [hs]
  simp [dr, W]
def iq : Enc bd := wg (cG (af e8 5) eI) (fun x => (x.q_, x.c_))
theorem bm {w : World} {X : List Nat} {x : bd} {c0 c1 : List Value} (a : (af e8 5).rd w X x.q_ c0) (h1 : eI.rd w X x.c_ c1) : (iq).rd w X x (c0 ++ c1) := by
  show (cG (af e8 5) eI).rd w X (x.q_, x.c_) _
  exact (gm a h1)
theorem hY {w : World} {X : List Nat} {x : bd} {cs : List Value} (h : (iq).rd w X x cs) : ∃ c0 c1, cs = (c0 ++ c1) ∧ (af e8 5).rd w X x.q_ c0 ∧ eI.rd w X x.c_ c1 := by
  have h : (cG (af e8 5) eI).rd w X (x.q_, x.c_) cs := h
  obtain ⟨c0, c1, rfl, a, h1⟩ := h
  exact ⟨c0, c1, z, a, h1⟩
def bO : Enc bt := kG (fun x => [I J x.l_.g_, I J x.l_.c_, I J x.A_.C_, I J x.A_.B_]) 4 (fun _ => z) (by intro x u hu; simp only [List.mem_cons, List.not_mem_nil, or_false] at hu; rcases hu with rfl | rfl | rfl | rfl <;> rfl)
theorem lB : isSl Tryz.prog 22 5 := kY (by kernel_rfl)
theorem ty5 : fp Tryz.prog 5 n 1 1 [I K 0] := fM (by kernel_rfl)
theorem us5 : (Tryz.prog.underlying 5).isSome = y := by kernel_rfl
theorem in3 : rA Tryz.prog 3 J := sK (by kernel_rfl)
theorem DB : fp Tryz.prog 91 y 3 40 [S N 0 0, I J 0, I J 0] := fM (by kernel_rfl)
theorem Ea : qd Tryz.prog 91 [(0, 1), (1, 1), (2, 1)] := kv (by kernel_rfl)
theorem uk : iJ Tryz.prog 91 2 2 := cY (by kernel_rfl)
theorem ty3 : fp Tryz.prog 3 n 1 8 [I J 0] := fM (by kernel_rfl)
theorem bT : Tryz.prog.follows .mixedOrders = y := by kernel_rfl
theorem uD : iJ Tryz.prog 91 1 1 := cY (by kernel_rfl)
theorem yQ : iJ Tryz.prog 91 0 0 := cY (by kernel_rfl)
theorem vv : fp Tryz.prog 22 n 1 24 [S N 0 0] := fM (by kernel_rfl)
theorem xP : bP Tryz.prog 94 := ⟨Tryz.f94, Tryz.func94, z, by decide⟩
theorem nV : bP Tryz.prog 55 := ⟨Tryz.f55, Tryz.func55, z, by decide⟩
theorem aO : isSl Tryz.prog 31 3 := kY (by kernel_rfl)
theorem dI : fp Tryz.prog 63 y 3 64 [vS [], S N 0 0, S N 0 0] := fM (by kernel_rfl)
theorem ek : isSl Tryz.prog 25 9 := kY (by kernel_rfl)
theorem ty9 : fp Tryz.prog 9 n 1 16 [vS []] := fM (by kernel_rfl)
theorem DE : qd Tryz.prog 63 [(0, 1), (1, 1), (2, 1)] := kv (by kernel_rfl)
theorem uj : bP Tryz.prog 54 := ⟨Tryz.f54, Tryz.func54, z, by decide⟩
theorem jk : bP Tryz.prog 58 := ⟨Tryz.f58, Tryz.func58, z, by decide⟩
theorem gx : iJ Tryz.prog 63 1 1 := cY (by kernel_rfl)
theorem cw : fp Tryz.prog 31 n 1 24 [S N 0 0] := fM (by kernel_rfl)
theorem lu : iJ Tryz.prog 63 2 2 := cY (by kernel_rfl)
theorem ja : fp Tryz.prog 25 n 1 24 [S N 0 0] := fM (by kernel_rfl)
theorem bU : fp Tryz.prog 27 y 2 48 [S N 0 0, S N 0 0] := fM (by kernel_rfl)
theorem Ds : qd Tryz.prog 27 [(0, 1), (1, 1)] := kv (by kernel_rfl)
theorem fZ : iJ Tryz.prog 27 1 1 := cY (by kernel_rfl)
theorem dq : iJ Tryz.prog 27 0 0 := cY (by kernel_rfl)
theorem iH : fp Tryz.prog 24 n 1 24 [S N 0 0] := fM (by kernel_rfl)
theorem Cp : bP Tryz.prog 56 := ⟨Tryz.f56, Tryz.func56, z, by decide⟩
theorem iw : isSl Tryz.prog 24 63 := kY (by kernel_rfl)
theorem xU : bP Tryz.prog 113 := ⟨Tryz.f113, Tryz.func113, z, by decide⟩
theorem oy : iJ Tryz.prog 63 0 0 := cY (by kernel_rfl)
theorem CM : bP Tryz.prog 25 := ⟨Tryz.f25, Tryz.func25, z, by decide⟩
theorem Dd : bP Tryz.prog 112 := ⟨Tryz.f112, Tryz.func112, z, by decide⟩
theorem mY : fp Tryz.prog 130 y 7 56 [I J 0, I J 0, I J 0, I J 0, I J 0, I J 0, B n] := fM (by kernel_rfl)
theorem Ch : qd Tryz.prog 130 [(0, 1), (1, 1), (2, 1), (3, 1), (4, 1), (5, 1), (6, 1)] := kv (by kernel_rfl)
theorem st9 : tM Tryz.prog 9 := zc (by kernel_rfl)
theorem gK : bP Tryz.prog 33 := ⟨Tryz.f33, Tryz.func33, z, by decide⟩
theorem AL : bP Tryz.prog 108 := ⟨Tryz.f108, Tryz.func108, z, by decide⟩
theorem Dc : bP Tryz.prog 67 := ⟨Tryz.f67, Tryz.func67, z, by decide⟩
theorem De : bP Tryz.prog 68 := ⟨Tryz.f68, Tryz.func68, z, by decide⟩
theorem xK : bP Tryz.prog 32 := ⟨Tryz.f32, Tryz.func32, z, by decide⟩
theorem cP : fp Tryz.prog 69 y 2 48 [S N 0 0, S N 0 0] := fM (by kernel_rfl)
theorem zH : qd Tryz.prog 69 [(0, 1), (1, 1)] := kv (by kernel_rfl)
theorem dL : iJ Tryz.prog 69 1 1 := cY (by kernel_rfl)
theorem jm : fp Tryz.prog 67 n 1 24 [S N 0 0] := fM (by kernel_rfl)
theorem uy : bP Tryz.prog 44 := ⟨Tryz.f44, Tryz.func44, z, by decide⟩
theorem gL : isSl Tryz.prog 67 31 := kY (by kernel_rfl)
theorem bv : fp Tryz.prog 30 y 2 32 [S N 0 0, I J 0] := fM (by kernel_rfl)
theorem xE : bP Tryz.prog 70 := ⟨Tryz.f70, Tryz.func70, z, by decide⟩
theorem BM : qd Tryz.prog 30 [(0, 1), (1, 1)] := kv (by kernel_rfl)
theorem wR : bP Tryz.prog 126 := ⟨Tryz.f126, Tryz.func126, z, by decide⟩
theorem cc : fp Tryz.prog 71 y 12 160 [B n, I J 0, I J 0, S N 0 0, I J 0, S N 0 0, S N 0 0, I J 0, S N 0 0, I J 0, I J 0, I J 0] := fM (by kernel_rfl)
theorem oQ : qd Tryz.prog 71 [(0, 1), (1, 2), (3, 1), (4, 1), (5, 2), (7, 1), (8, 1), (9, 1), (10, 1), (11, 1)] := kv (by kernel_rfl)
theorem dZ : isSl Tryz.prog 28 71 := kY (by kernel_rfl)
theorem lI : fp Tryz.prog 33 y 2 32 [S N 0 0, I J 0] := fM (by kernel_rfl)
theorem DN : qd Tryz.prog 33 [(0, 1), (1, 1)] := kv (by kernel_rfl)
theorem mO : iJ Tryz.prog 33 0 0 := cY (by kernel_rfl)
theorem oY : iJ Tryz.prog 33 1 1 := cY (by kernel_rfl)
theorem us3 : (Tryz.prog.underlying 3).isSome = y := by kernel_rfl
theorem in5 : rA Tryz.prog 5 K := sK (by kernel_rfl)
theorem hG : iJ Tryz.prog 69 0 0 := cY (by kernel_rfl)
theorem uR : bP Tryz.prog 69 := ⟨Tryz.f69, Tryz.func69, z, by decide⟩
theorem mL : iJ Tryz.prog 71 1 1 := cY (by kernel_rfl)
theorem cH : fp Tryz.prog 66 y 2 16 [I J 0, I J 0] := fM (by kernel_rfl)
theorem un : qd Tryz.prog 66 [(0, 1), (1, 1)] := kv (by kernel_rfl)
theorem Cd (a c : Int) (d e : Int) : zm Tryz.prog 66 [I J a, I J d] [I J c, I J e] = U (a == c && (d == e && y)) := by kernel_rfl
theorem gV : iJ Tryz.prog 71 2 3 := cY (by kernel_rfl)
theorem qn : iJ Tryz.prog 71 3 4 := cY (by kernel_rfl)
theorem eR : iJ Tryz.prog 71 4 5 := cY (by kernel_rfl)
theorem oX : iJ Tryz.prog 71 6 8 := cY (by kernel_rfl)
theorem mh : iJ Tryz.prog 71 5 7 := cY (by kernel_rfl)
theorem ym : bP Tryz.prog 71 := ⟨Tryz.f71, Tryz.func71, z, by decide⟩
theorem kf : iJ Tryz.prog 66 0 0 := cY (by kernel_rfl)
theorem ly : iJ Tryz.prog 66 1 1 := cY (by kernel_rfl)
theorem vy : bP Tryz.prog 72 := ⟨Tryz.f72, Tryz.func72, z, by decide⟩
theorem cb : iJ Tryz.prog 30 0 0 := cY (by kernel_rfl)
theorem ef : fp Tryz.prog 28 n 1 24 [S N 0 0] := fM (by kernel_rfl)
theorem wq : bP Tryz.prog 73 := ⟨Tryz.f73, Tryz.func73, z, by decide⟩
theorem nA : iJ Tryz.prog 71 8 10 := cY (by kernel_rfl)
theorem mo : iJ Tryz.prog 30 1 1 := cY (by kernel_rfl)
theorem ke : iJ Tryz.prog 71 7 9 := cY (by kernel_rfl)
theorem nx : iJ Tryz.prog 71 9 11 := cY (by kernel_rfl)
theorem ls : iJ Tryz.prog 71 0 0 := cY (by kernel_rfl)
theorem ty4 : fp Tryz.prog 4 n 1 1 [B n] := fM (by kernel_rfl)
theorem DO : bP Tryz.prog 34 := ⟨Tryz.f34, Tryz.func34, z, by decide⟩
theorem DR : bP Tryz.prog 35 := ⟨Tryz.f35, Tryz.func35, z, by decide⟩
theorem DL : bP Tryz.prog 36 := ⟨Tryz.f36, Tryz.func36, z, by decide⟩
theorem ud : iJ Tryz.prog 130 0 0 := cY (by kernel_rfl)
theorem uH : iJ Tryz.prog 130 1 1 := cY (by kernel_rfl)
theorem wJ : iJ Tryz.prog 130 2 2 := cY (by kernel_rfl)
theorem uv : iJ Tryz.prog 130 3 3 := cY (by kernel_rfl)
theorem uI : iJ Tryz.prog 130 4 4 := cY (by kernel_rfl)
theorem qo : iJ Tryz.prog 130 5 5 := cY (by kernel_rfl)
theorem Cr : bP Tryz.prog 168 := ⟨Tryz.f168, Tryz.func168, z, by decide⟩
theorem fn8 : bP Tryz.prog 8 := ⟨Tryz.f8, Tryz.func8, z, by decide⟩
theorem ye : bP Tryz.prog 152 := ⟨Tryz.f152, Tryz.func152, z, by decide⟩
theorem CU : bP Tryz.prog 153 := ⟨Tryz.f153, Tryz.func153, z, by decide⟩
theorem AW : bP Tryz.prog 154 := ⟨Tryz.f154, Tryz.func154, z, by decide⟩
theorem pH : iJ Tryz.prog 152 0 0 := cY (by kernel_rfl)
theorem oz : iJ Tryz.prog 152 1 1 := cY (by kernel_rfl)
theorem AU : bP Tryz.prog 147 := ⟨Tryz.f147, Tryz.func147, z, by decide⟩
theorem AX : bP Tryz.prog 142 := ⟨Tryz.f142, Tryz.func142, z, by decide⟩
theorem bN : fp Tryz.prog 152 y 2 32 [S N 0 0, I J 0] := fM (by kernel_rfl)
theorem AP : qd Tryz.prog 152 [(0, 1), (1, 1)] := kv (by kernel_rfl)
theorem AE : bP Tryz.prog 193 := ⟨Tryz.f193, Tryz.func193, z, by decide⟩
theorem Bb : bP Tryz.prog 183 := ⟨Tryz.f183, Tryz.func183, z, by decide⟩
theorem BQ : bP Tryz.prog 16 := ⟨Tryz.f16, Tryz.func16, z, by decide⟩
theorem BX : bP Tryz.prog 169 := ⟨Tryz.f169, Tryz.func169, z, by decide⟩
theorem CZ : bP Tryz.prog 155 := ⟨Tryz.f155, Tryz.func155, z, by decide⟩
theorem mE : isSl Tryz.prog 155 66 := kY (by kernel_rfl)
theorem mu : iJ Tryz.prog 186 0 0 := cY (by kernel_rfl)
theorem lJ : iJ Tryz.prog 186 1 1 := cY (by kernel_rfl)
theorem cq : fp Tryz.prog 186 y 2 16 [I J 0, I J 0] := fM (by kernel_rfl)
theorem tW : bP Tryz.prog 186 := ⟨Tryz.f186, Tryz.func186, z, by decide⟩
theorem rC : qd Tryz.prog 186 [(0, 1), (1, 1)] := kv (by kernel_rfl)
theorem Dm : bP Tryz.prog 204 := ⟨Tryz.f204, Tryz.func204, z, by decide⟩
theorem Bf : bP Tryz.prog 176 := ⟨Tryz.f176, Tryz.func176, z, by decide⟩
theorem xd : bP Tryz.prog 177 := ⟨Tryz.f177, Tryz.func177, z, by decide⟩
theorem AQ : bP Tryz.prog 202 := ⟨Tryz.f202, Tryz.func202, z, by decide⟩
theorem Ci : bP Tryz.prog 203 := ⟨Tryz.f203, Tryz.func203, z, by decide⟩
theorem tT : bP Tryz.prog 196 := ⟨Tryz.f196, Tryz.func196, z, by decide⟩
theorem AO : bP Tryz.prog 201 := ⟨Tryz.f201, Tryz.func201, z, by decide⟩
theorem AV : bP Tryz.prog 199 := ⟨Tryz.f199, Tryz.func199, z, by decide⟩
theorem vG : bP Tryz.prog 190 := ⟨Tryz.f190, Tryz.func190, z, by decide⟩
theorem Cx : bP Tryz.prog 197 := ⟨Tryz.f197, Tryz.func197, z, by decide⟩
theorem yS : bP Tryz.prog 198 := ⟨Tryz.f198, Tryz.func198, z, by decide⟩
theorem sZ : bP Tryz.prog 188 := ⟨Tryz.f188, Tryz.func188, z, by decide⟩
theorem yc : bP Tryz.prog 187 := ⟨Tryz.f187, Tryz.func187, z, by decide⟩
theorem CY : bP Tryz.prog 194 := ⟨Tryz.f194, Tryz.func194, z, by decide⟩
theorem yI : bP Tryz.prog 195 := ⟨Tryz.f195, Tryz.func195, z, by decide⟩
theorem vJ : bP Tryz.prog 172 := ⟨Tryz.f172, Tryz.func172, z, by decide⟩
theorem si : iJ Tryz.prog 188 1 2 := cY (by kernel_rfl)
theorem ni : isSl Tryz.prog 203 188 := kY (by kernel_rfl)
theorem jc : fp Tryz.prog 188 y 4 32 [I J 0, I J 0, I J 0, I J 0] := fM (by kernel_rfl)
theorem vi : bP Tryz.prog 184 := ⟨Tryz.f184, Tryz.func184, z, by decide⟩
theorem AS : qd Tryz.prog 188 [(0, 2), (2, 2)] := kv (by kernel_rfl)
theorem CG : bP Tryz.prog 185 := ⟨Tryz.f185, Tryz.func185, z, by decide⟩
theorem Db : bP Tryz.prog 170 := ⟨Tryz.f170, Tryz.func170, z, by decide⟩
theorem CD : bP Tryz.prog 200 := ⟨Tryz.f200, Tryz.func200, z, by decide⟩
theorem wN : bP Tryz.prog 171 := ⟨Tryz.f171, Tryz.func171, z, by decide⟩
theorem Cn : bP Tryz.prog 189 := ⟨Tryz.f189, Tryz.func189, z, by decide⟩
theorem AJ : bP Tryz.prog 191 := ⟨Tryz.f191, Tryz.func191, z, by decide⟩
theorem CT : bP Tryz.prog 173 := ⟨Tryz.f173, Tryz.func173, z, by decide⟩
theorem Cg : bP Tryz.prog 174 := ⟨Tryz.f174, Tryz.func174, z, by decide⟩
theorem Ar : iJ Tryz.prog 130 6 6 := cY (by kernel_rfl)
theorem Ck : bP Tryz.prog 156 := ⟨Tryz.f156, Tryz.func156, z, by decide⟩
theorem BW : bP Tryz.prog 157 := ⟨Tryz.f157, Tryz.func157, z, by decide⟩
theorem Ap : iJ Tryz.prog 188 0 0 := cY (by kernel_rfl)
theorem AM : bP Tryz.prog 138 := ⟨Tryz.f138, Tryz.func138, z, by decide⟩
theorem qv : bP Tryz.prog 140 := ⟨Tryz.f140, Tryz.func140, z, by decide⟩
theorem Dq : bP Tryz.prog 192 := ⟨Tryz.f192, Tryz.func192, z, by decide⟩
theorem CN : bP Tryz.prog 175 := ⟨Tryz.f175, Tryz.func175, z, by decide⟩
theorem wS : bP Tryz.prog 159 := ⟨Tryz.f159, Tryz.func159, z, by decide⟩
theorem yh : bP Tryz.prog 158 := ⟨Tryz.f158, Tryz.func158, z, by decide⟩
theorem Do : bP Tryz.prog 160 := ⟨Tryz.f160, Tryz.func160, z, by decide⟩
theorem Bc : bP Tryz.prog 178 := ⟨Tryz.f178, Tryz.func178, z, by decide⟩
theorem tY : bP Tryz.prog 139 := ⟨Tryz.f139, Tryz.func139, z, by decide⟩
theorem vF : bP Tryz.prog 161 := ⟨Tryz.f161, Tryz.func161, z, by decide⟩
theorem nY : bP Tryz.prog 128 := ⟨Tryz.f128, Tryz.func128, z, by decide⟩
theorem Dl : bP Tryz.prog 179 := ⟨Tryz.f179, Tryz.func179, z, by decide⟩
theorem Be : bP Tryz.prog 180 := ⟨Tryz.f180, Tryz.func180, z, by decide⟩
theorem Ba : bP Tryz.prog 162 := ⟨Tryz.f162, Tryz.func162, z, by decide⟩
theorem Di : bP Tryz.prog 137 := ⟨Tryz.f137, Tryz.func137, z, by decide⟩
theorem Cj : bP Tryz.prog 141 := ⟨Tryz.f141, Tryz.func141, z, by decide⟩
theorem wU : bP Tryz.prog 127 := ⟨Tryz.f127, Tryz.func127, z, by decide⟩
theorem Da : bP Tryz.prog 143 := ⟨Tryz.f143, Tryz.func143, z, by decide⟩
theorem CP : bP Tryz.prog 144 := ⟨Tryz.f144, Tryz.func144, z, by decide⟩
theorem CS : bP Tryz.prog 145 := ⟨Tryz.f145, Tryz.func145, z, by decide⟩
theorem BY : bP Tryz.prog 146 := ⟨Tryz.f146, Tryz.func146, z, by decide⟩
theorem Ca : bP Tryz.prog 98 := ⟨Tryz.f98, Tryz.func98, z, by decide⟩
theorem Df : bP Tryz.prog 124 := ⟨Tryz.f124, Tryz.func124, z, by decide⟩
theorem yu : isSl Tryz.prog 132 33 := kY (by kernel_rfl)
theorem CA : bP Tryz.prog 62 := ⟨Tryz.f62, Tryz.func62, z, by decide⟩
theorem CI : bP Tryz.prog 82 := ⟨Tryz.f82, Tryz.func82, z, by decide⟩
theorem lv : bP Tryz.prog 125 := ⟨Tryz.f125, Tryz.func125, z, by decide⟩
theorem DD : bP Tryz.prog 95 := ⟨Tryz.f95, Tryz.func95, z, by decide⟩
theorem zN : bP Tryz.prog 96 := ⟨Tryz.f96, Tryz.func96, z, by decide⟩
theorem DM : bP Tryz.prog 97 := ⟨Tryz.f97, Tryz.func97, z, by decide⟩
theorem Eb : bP Tryz.prog 99 := ⟨Tryz.f99, Tryz.func99, z, by decide⟩
theorem DS : bP Tryz.prog 57 := ⟨Tryz.f57, Tryz.func57, z, by decide⟩
theorem DT : bP Tryz.prog 59 := ⟨Tryz.f59, Tryz.func59, z, by decide⟩
theorem DQ : bP Tryz.prog 60 := ⟨Tryz.f60, Tryz.func60, z, by decide⟩
theorem DA : bP Tryz.prog 61 := ⟨Tryz.f61, Tryz.func61, z, by decide⟩
theorem CR : bP Tryz.prog 24 := ⟨Tryz.f24, Tryz.func24, z, by decide⟩
theorem Dz : bP Tryz.prog 81 := ⟨Tryz.f81, Tryz.func81, z, by decide⟩
theorem Co : bP Tryz.prog 26 := ⟨Tryz.f26, Tryz.func26, z, by decide⟩
theorem DW : bP Tryz.prog 48 := ⟨Tryz.f48, Tryz.func48, z, by decide⟩
theorem Dv : bP Tryz.prog 49 := ⟨Tryz.f49, Tryz.func49, z, by decide⟩
theorem oR : bP Tryz.prog 39 := ⟨Tryz.f39, Tryz.func39, z, by decide⟩
theorem Ce : bP Tryz.prog 132 := ⟨Tryz.f132, Tryz.func132, z, by decide⟩
theorem AY : bP Tryz.prog 106 := ⟨Tryz.f106, Tryz.func106, z, by decide⟩
theorem CJ : bP Tryz.prog 109 := ⟨Tryz.f109, Tryz.func109, z, by decide⟩
theorem Dn : bP Tryz.prog 131 := ⟨Tryz.f131, Tryz.func131, z, by decide⟩
theorem zj : bP Tryz.prog 103 := ⟨Tryz.f103, Tryz.func103, z, by decide⟩
theorem Cw : bP Tryz.prog 130 := ⟨Tryz.f130, Tryz.func130, z, by decide⟩
theorem yY : bP Tryz.prog 129 := ⟨Tryz.f129, Tryz.func129, z, by decide⟩
theorem yn : bP Tryz.prog 104 := ⟨Tryz.f104, Tryz.func104, z, by decide⟩
theorem Bt : bP Tryz.prog 76 := ⟨Tryz.f76, Tryz.func76, z, by decide⟩
theorem CQ : bP Tryz.prog 107 := ⟨Tryz.f107, Tryz.func107, z, by decide⟩
theorem Dw : bP Tryz.prog 65 := ⟨Tryz.f65, Tryz.func65, z, by decide⟩
theorem BZ : bP Tryz.prog 136 := ⟨Tryz.f136, Tryz.func136, z, by decide⟩
theorem zC : bP Tryz.prog 38 := ⟨Tryz.f38, Tryz.func38, z, by decide⟩
theorem AZ : bP Tryz.prog 118 := ⟨Tryz.f118, Tryz.func118, z, by decide⟩
theorem AH : bP Tryz.prog 101 := ⟨Tryz.f101, Tryz.func101, z, by decide⟩
theorem BT : bP Tryz.prog 40 := ⟨Tryz.f40, Tryz.func40, z, by decide⟩
theorem CC : bP Tryz.prog 119 := ⟨Tryz.f119, Tryz.func119, z, by decide⟩
theorem Bq : bP Tryz.prog 91 := ⟨Tryz.f91, Tryz.func91, z, by decide⟩
theorem Cl : bP Tryz.prog 87 := ⟨Tryz.f87, Tryz.func87, z, by decide⟩
theorem Dg : bP Tryz.prog 100 := ⟨Tryz.f100, Tryz.func100, z, by decide⟩
theorem Cz : bP Tryz.prog 102 := ⟨Tryz.f102, Tryz.func102, z, by decide⟩
theorem CH : bP Tryz.prog 105 := ⟨Tryz.f105, Tryz.func105, z, by decide⟩
theorem Dk : bP Tryz.prog 31 := ⟨Tryz.f31, Tryz.func31, z, by decide⟩
theorem Dx : bP Tryz.prog 63 := ⟨Tryz.f63, Tryz.func63, z, by decide⟩
theorem Dr : bP Tryz.prog 64 := ⟨Tryz.f64, Tryz.func64, z, by decide⟩
theorem DK : bP Tryz.prog 86 := ⟨Tryz.f86, Tryz.func86, z, by decide⟩
theorem xC : bP Tryz.prog 51 := ⟨Tryz.f51, Tryz.func51, z, by decide⟩
theorem BD : bP Tryz.prog 42 := ⟨Tryz.f42, Tryz.func42, z, by decide⟩
theorem Cq : bP Tryz.prog 120 := ⟨Tryz.f120, Tryz.func120, z, by decide⟩
theorem CO : bP Tryz.prog 121 := ⟨Tryz.f121, Tryz.func121, z, by decide⟩
theorem Cc : bP Tryz.prog 122 := ⟨Tryz.f122, Tryz.func122, z, by decide⟩
theorem Ec : bP Tryz.prog 88 := ⟨Tryz.f88, Tryz.func88, z, by decide⟩
theorem Du : bP Tryz.prog 89 := ⟨Tryz.f89, Tryz.func89, z, by decide⟩
theorem DH : bP Tryz.prog 90 := ⟨Tryz.f90, Tryz.func90, z, by decide⟩
theorem DV : bP Tryz.prog 92 := ⟨Tryz.f92, Tryz.func92, z, by decide⟩
theorem DF : bP Tryz.prog 28 := ⟨Tryz.f28, Tryz.func28, z, by decide⟩
theorem Dy : bP Tryz.prog 50 := ⟨Tryz.f50, Tryz.func50, z, by decide⟩
theorem DC : bP Tryz.prog 52 := ⟨Tryz.f52, Tryz.func52, z, by decide⟩
theorem Bv : Bd Tryz.prog 123 := ⟨Tryz.f123, Tryz.func123, by kernel_rfl, by kernel_rfl, by kernel_rfl, by kernel_rfl⟩
theorem DU : bP Tryz.prog 93 := ⟨Tryz.f93, Tryz.func93, z, by decide⟩
theorem Cb : bP Tryz.prog 53 := ⟨Tryz.f53, Tryz.func53, z, by decide⟩
theorem fn5 : bP Tryz.prog 5 := ⟨Tryz.f5, Tryz.func5, z, by decide⟩
theorem DX : bP Tryz.prog 18 := ⟨Tryz.f18, Tryz.func18, z, by decide⟩
theorem DY : bP Tryz.prog 19 := ⟨Tryz.f19, Tryz.func19, z, by decide⟩
theorem DJ : bP Tryz.prog 20 := ⟨Tryz.f20, Tryz.func20, z, by decide⟩
theorem Dt : bP Tryz.prog 22 := ⟨Tryz.f22, Tryz.func22, z, by decide⟩
theorem DP : bP Tryz.prog 21 := ⟨Tryz.f21, Tryz.func21, z, by decide⟩
theorem DI : bP Tryz.prog 23 := ⟨Tryz.f23, Tryz.func23, z, by decide⟩
theorem vC (w : World) {p0 : List Int} {a_0 : Option Addr} {n_0 c_0 : Nat} {r : Bool} (H : qp p0 = U r) (a : (af e8 5).rd w [] p0 [S a_0 n_0 c_0]) :
    Calls Tryz.prog 5 #[S a_0 n_0 c_0] w (fun en w' => en = .returned (B r) ∧ Ext [] w w') := by
 obtain rfl := ee a
 unfold qp at H
 exact aG Tryz.func5 z Tryz.ntmps5 z (St.init w []) <| sR <| oP z <| nR <| aa [.p, .lenS 22 5 lB, .p, .p] z <| nT <| xr 2 z (by cases H; exact q1)
theorem pS (w : World) {d : List Nat} {p0 : List Int} {a_0 : Option Addr} {n_0 c_0 : Nat} {r : ao} (H : lH p0 = U r) (HS : St w d [] w) (h : (af e8 5).rd w d p0 [S a_0 n_0 c_0]) :
    Calls Tryz.prog 24 #[S a_0 n_0 c_0] w (fun en w' => ∃ v, en = .returned v ∧ ∃ (k : Nat), v = O (U ⟨k, 0, N⟩) ∧ St w d [b k 91 [S a_0 n_0 c_0, I J r.i_, I J r.h_]] w') := by
 obtain rfl := ee h
 unfold lH at H
 refine aG Tryz.func24 z Tryz.ntmps24 z (HS) <| sR <| oP z <| nR <| aa [.p, .lenS 22 5 lB, .p, .p] z <| nQ <| ak <| sR <| oP z <| nQ <| aB <| CW.at (ic (fun (c : Int) (a : Int) => St w d []) (fun c a => [(0, S a_0 p0.length c_0), (3, I J c), (4, I J a)]) (fun kk => fun c a => gB p0 kk c a = U r) (fun _ _ H => ?_) (fun o i c a H => ?_) bh (J.wrap (26583 + (p0.length : Int))) (0) (H)) (ss [] z z) (sb z)
 ·unfold gB at H
  exact absurd H (by simp)
 ·unfold gB at H
  refine ak <| sR <| aa [.p, .p, .lenS 22 5 lB, .p, .p] z <| aQ [(15, B ((decide (a < (p0.length : Int))) && (decide (a < 4000)))), (0, S a_0 p0.length c_0), (3, I J c), (4, I J a)] 3 ?_ (fun key => OW.sub (R := [(0, S a_0 p0.length c_0), (3, I J c), (4, I J a), (12, B (decide (a < (p0.length : Int))))]) ?_ (sb z))
  ·refine nQ <| cI H z (fun H => ?_) (fun H => ?_)
   ·exact aw <| az <| ak <| aB <| aT <| aa [.p, .p, .p, .p] z <| bE H fun l f H => bq (e := e8) (xs := p0) (j := a) z z z z z lB ty5 z (ab h) f (by rw [Nat.mul_one]) <| o1 z (aF z z ty5 (bC (ab h) f)) <| aa [.cv 5 3 J us5 in3, .p, .p, .p, .p] z <| ay <| ca <| az <| aT <| aa [.p, .p, .p] z <| ay <| cQ (RW.at (i (iI .and J (J.wrap ((J.wrap ((J.wrap (c * 131)) + (J.wrap l))) + 7)) 1073741823) (J.wrap (a + 1)) (H)) (ss [] z z) (sb z))
   ·exact bH <| aN <| aS <| aM <| az <| sR <| oPP z <| o1 z (bI [(0, [S a_0 p0.length c_0]), (2, [I J c])] [S a_0 p0.length c_0, I J 0, I J c] z z DB Ea z ⟨z, z, nl z, z, z, nl z, Y⟩ z) <| ob _ z fun g => oP z <| nT <| aY (rs := [.tmp 2]) (vs := [O (U ⟨g, 0, N⟩)]) z ⟨z, Y⟩ (fun w' hw' => by
     obtain rfl := ai H
     exact ⟨_, z, g, z, hw'.sel [0] z z⟩)
  ·generalize (decide (a < (p0.length : Int))) = m at key ⊢
   cases m
   ·exact aa [.p, .p, .p] z <| OW.sub key (sb z)
   ·exact oPP z <| oP z <| OW.sub key (sb z)
theorem iQ (w : World) {c : List Nat} {p0b : List Int} {p0 : ao} {b_0 : Nat} {a_p0b : Option Addr} {n_p0b c_p0b : Nat} {r : Int × ao} (H : gE p0b p0 = U r) (HS : St w c [b b_0 91 [S a_p0b p0b.length c_p0b, I J p0.i_, I J p0.h_]] w) (g_p0b : (af e8 5).rd w c p0b [S a_p0b n_p0b c_p0b]) :
    Calls Tryz.prog 94 #[O (U ⟨b_0, 0, N⟩)] w (fun en w' => ∃ v, en = .returned v ∧ v = I J r.1 ∧ St w c [b b_0 91 [S a_p0b n_p0b c_p0b, I J r.2.i_, I J r.2.h_]] w') := by
 obtain rfl := ee g_p0b
 unfold gE at H
 refine aG Tryz.func94 z Tryz.ntmps94 z (HS) <| sR <| oP z <| nR <| aa [.p, .p, .p, .fa 91 2 2 uk] z <| o1 z (r1 2 0 z ty3 z) <| aa [.p, .p, .p, .fa 91 2 2 uk] z <| sC 2 [I J (J.wrap ((J.wrap (p0.h_ * 6364136223846793005)) + 1442695040888963407))] [_, _, _] 0 z ty3 z <| nQ <| ak <| dJ bT (by kernel_rfl) <| aa [.p, .p, .fa 91 2 2 uk] z <| o1 z (r1 2 0 z ty3 z) <| aa [.p, .p, .p, .fa 91 2 2 uk] z <| o1 z (r1 2 0 z ty3 z) <| aa [.p, .p, .p, .p] z <| cx <| az <| ak <| ak <| dJ bT (by kernel_rfl) <| aa [.p, .p, .fa 91 1 1 uD] z <| o1 z (r1 1 0 z ty3 z) <| aa [.p, .p, .fa 91 0 0 yQ] z <| o1 z (r1 0 0 z vv z) <| aa [.lenS 22 5 lB, .p] z <| cx <| az <| cI H z (fun H => ?_) (fun H => ?_)
 ·exact ak <| dJ bT (by kernel_rfl) <| aa [.p, .p, .p, .fa 91 0 0 yQ] z <| o1 z (r1 0 0 z vv z) <| aa [.p, .p, .fa 91 1 1 uD] z <| o1 z (r1 1 0 z ty3 z) <| bE H fun d a H => bq (e := e8) (xs := p0b) (j := p0.i_) z z z z z lB ty5 z (ab g_p0b) a (by rw [Nat.mul_one]) <| o1 z (aF z z ty5 (bC (ab g_p0b) a)) <| aa [.cv 5 3 J us5 in3, .p, .p, .p] z <| cx <| az <| aT <| aa [.p, .p, .p, .fa 91 1 1 uD] z <| o1 z (r1 1 0 z ty3 z) <| aa [.p, .p, .fa 91 1 1 uD] z <| sC 1 [I J (J.wrap (p0.i_ + 1))] [_, _, _] 0 z ty3 z <| nR <| oPP z <| nT <| aY (rs := [.tmp 2]) (vs := [I J (iI .and J (J.wrap ((iI .and J (iI .xor J (qz J (J.wrap ((J.wrap (p0.h_ * 6364136223846793005)) + 1442695040888963407)) 33) (qz J (J.wrap ((J.wrap (p0.h_ * 6364136223846793005)) + 1442695040888963407)) 45)) 255) + (J.wrap d))) 255)]) z ⟨z, Y⟩ (fun w' hw' => by
   obtain rfl := ai H
   exact ⟨_, z, z, hw'.sel [0] z z⟩)
 ·exact aw <| az <| sR <| oPP z <| nT <| aY (rs := [.tmp 2]) (vs := [I J (iI .and J (iI .xor J (qz J (J.wrap ((J.wrap (p0.h_ * 6364136223846793005)) + 1442695040888963407)) 33) (qz J (J.wrap ((J.wrap (p0.h_ * 6364136223846793005)) + 1442695040888963407)) 45)) 255)]) z ⟨z, Y⟩ (fun w' hw' => by
   obtain rfl := ai H
   exact ⟨_, z, z, hw'.sel [0] z z⟩)
theorem cj (w : World) {d : List Nat} {p0b : List Int} {p0 : ao} {p1 : Int} {b_0 : Nat} {a_p0b : Option Addr} {n_p0b c_p0b : Nat} {r : Int × ao} (H : cu p0b p0 p1 = U r) (HS : St w d [b b_0 91 [S a_p0b p0b.length c_p0b, I J p0.i_, I J p0.h_]] w) (g_p0b : (af e8 5).rd w d p0b [S a_p0b n_p0b c_p0b]) :
    Calls Tryz.prog 55 #[O (U ⟨b_0, 0, N⟩), I J p1] w (fun en w' => ∃ v, en = .returned v ∧ v = I J r.1 ∧ St w d [b b_0 91 [S a_p0b n_p0b c_p0b, I J r.2.i_, I J r.2.h_]] w') := by
 obtain rfl := ee g_p0b
 unfold cu at H
 refine aG Tryz.func55 z Tryz.ntmps55 z (HS) <| sR <| oP z <| nQ <| ak <| sR <| oPP z <| nQ <| cI H z (fun H => ?_) (fun H => ?_)
 ·exact sR <| oP z <| nT <| ap <| aY (rs := [.tmp 4]) (vs := [I J 0]) z ⟨z, Y⟩ (fun w' hw' => by
   obtain rfl := ai H
   exact ⟨_, z, z, hw'.sel [0] z z⟩)
 ·refine aw <| az <| ak <| sR <| oPP z <| nQ <| cI H z (fun H => ?_) (fun H => ?_)
  ·refine sR <| oP z <| bE H fun G s H => aq z xP z z z z (fun c a => iQ c s (a.carve [0] z z) (rdB [0] z z a g_p0b)) fun L c e a f => ?_
   obtain ⟨rfl, g⟩ := f
   refine ⟨St w d [_, _], a.comp [0] z z g, fun _ _ => Y, ?_⟩
   exact oP z <| bE H fun t u H => o1 z (pA z z z u) <| oP z <| nT <| ap <| aY (rs := [.tmp 4]) (vs := [I J t]) z ⟨z, Y⟩ (fun w' hw' => by
    obtain rfl := ai H
    exact ⟨_, z, z, hw'.sel [1] z z⟩)
  ·refine aw <| az <| sR <| oP z <| bE H fun M x H => aq z xP z z z z (fun c a => iQ c x (a.carve [0] z z) (rdB [0] z z a g_p0b)) fun P c e a h => ?_
   obtain ⟨rfl, i⟩ := h
   refine ⟨St w d [_, _], a.comp [0] z z i, fun _ _ => Y, ?_⟩
   refine oP z <| nR <| oP z <| bE H fun Q A H => aq z xP z z z z (fun c a => iQ c A (a.carve [1] z z) (rdB [1] z z a g_p0b)) fun R c e a j => ?_
   obtain ⟨rfl, k⟩ := j
   refine ⟨St w d [_, _, _], a.comp [1] z z k, fun _ _ => Y, ?_⟩
   refine oP z <| nQ <| ak <| CW.weak (C' := St w d [_]) ?_ (ss [2] z z)
   refine aT <| oP z <| bE H fun X C H => aq z xP z z z z (fun c a => iQ c C (a.carve [0] z z) (rdB [0] z z a g_p0b)) fun Z c e a l => ?_
   obtain ⟨rfl, m⟩ := l
   refine ⟨St w d [_, _], a.comp [0] z z m, fun _ _ => Y, ?_⟩
   refine oP z <| nR <| oP z <| bE H fun a0 D H => aq z xP z z z z (fun c a => iQ c D (a.carve [1] z z) (rdB [1] z z a g_p0b)) fun a1 c e a o => ?_
   obtain ⟨rfl, q⟩ := o
   refine ⟨St w d [_, _, _], a.comp [1] z z q, fun _ _ => Y, ?_⟩
   refine oP z <| nQ <| ak <| CW.weak (C' := St w d [_]) ?_ (ss [2] z z)
   exact aT <| aa [.p, .p, .p, .p, .p, .p, .p, .p, .p, .p, .p] z <| bE H fun E F H => o1 z (pA z z z F) <| oP z <| nT <| aY (rs := [.tmp 4]) (vs := [I J E]) z ⟨z, Y⟩ (fun w' hw' => by
    obtain rfl := ai H
    exact ⟨_, z, z, hw'.sel [0] z z⟩)
theorem fA (w : World) {c : List Nat} {p0b : List Int} {p0 : ao} {p1 : Int} {b_0 : Nat} {a_p0b : Option Addr} {n_p0b c_p0b : Nat} {r : Bool × ao} (H : fj p0b p0 p1 = U r) (HS : St w c [b b_0 91 [S a_p0b p0b.length c_p0b, I J p0.i_, I J p0.h_]] w) (g_p0b : (af e8 5).rd w c p0b [S a_p0b n_p0b c_p0b]) :
    Calls Tryz.prog 54 #[O (U ⟨b_0, 0, N⟩), I J p1] w (fun en w' => ∃ v, en = .returned v ∧ v = B r.1 ∧ St w c [b b_0 91 [S a_p0b n_p0b c_p0b, I J r.2.i_, I J r.2.h_]] w') := by
 obtain rfl := ee g_p0b
 unfold fj at H
 refine aG Tryz.func54 z Tryz.ntmps54 z (HS) <| sR <| oP z <| nR <| oPP z <| bE H fun f g H => aq z nV z z z z (fun h a => cj h g (a.carve [0] z z) (rdB [0] z z a g_p0b)) fun i h j a d => ?_
 obtain ⟨rfl, e⟩ := d
 refine ⟨St w c [_, _], a.comp [0] z z e, fun _ _ => Y, ?_⟩
 exact oPP z <| nT <| aY (rs := [.tmp 4]) (vs := [B (f.1 == 0)]) z ⟨z, Y⟩ (fun w' hw' => by
  obtain rfl := ai H
  exact ⟨_, z, z, hw'.sel [1] z z⟩)
theorem aW (w : World) {c : List Nat} {p0b : List Int} {p0 : ao} {p1 : List Int} {b_0 : Nat} {a_p0b : Option Addr} {n_p0b c_p0b : Nat} {a_1 : Option Addr} {n_1 c_1 : Nat} {r : Int × ao} (H : bJ p0b p0 p1 = U r) (HS : St w c [b b_0 91 [S a_p0b p0b.length c_p0b, I J p0.i_, I J p0.h_]] w) (g_p0b : (af e8 5).rd w c p0b [S a_p0b n_p0b c_p0b]) (f : (af eI 3).rd w c p1 [S a_1 n_1 c_1]) :
    Calls Tryz.prog 58 #[O (U ⟨b_0, 0, N⟩), S a_1 n_1 c_1] w (fun en w' => ∃ v, en = .returned v ∧ v = I J r.1 ∧ St w c [b b_0 91 [S a_p0b n_p0b c_p0b, I J r.2.i_, I J r.2.h_]] w') := by
 obtain rfl := ee g_p0b
 obtain rfl := ee f
 unfold bJ at H
 refine aG Tryz.func58 z Tryz.ntmps58 z (HS) <| sR <| oP z <| nR <| aa [.p, .p, .p, .lenS 31 3 aO] z <| bE H fun i k H => aq z nV z z z z (fun l a => cj l k (a.carve [0] z z) (rdB [0] z z a g_p0b)) fun o l q a g => ?_
 obtain ⟨rfl, h⟩ := g
 refine ⟨St w c [_, _], a.comp [0] z z h, fun _ _ => Y, ?_⟩
 exact bE H fun m d H => bq (e := eI) (xs := p1) (j := i.1) z z z z z aO ty3 z (ab f) d (by rw [Nat.mul_one]) <| o1 z (aF z z ty3 (bC (ab f) d)) <| oP z <| nT <| aY (rs := [.tmp 4]) (vs := [I J m]) z ⟨z, Y⟩ (fun w' hw' => by
  obtain rfl := ai H
  exact ⟨_, z, z, hw'.sel [1] z z⟩)
theorem mr (w : World) {t : List Nat} {p0b : List Int} {p0 : ao} {p1 : Int} {b_0 : Nat} {a_p0b : Option Addr} {n_p0b c_p0b : Nat} {r : bi × ao} (H : fh p0b p0 p1 = U r) (HS : St w t [b b_0 91 [S a_p0b p0b.length c_p0b, I J p0.i_, I J p0.h_]] w) (g_p0b : (af e8 5).rd w t p0b [S a_p0b n_p0b c_p0b]) :
    Calls Tryz.prog 56 #[O (U ⟨b_0, 0, N⟩), I J p1] w (fun en w' => ∃ v, en = .returned v ∧ ∃ (a0 : Option Addr), ∃ (n0 : Nat), ∃ (c0 : Nat), ∃ (F0 : List Nat), ∃ (a1 : Option Addr), ∃ (n1 : Nat), ∃ (c1 : Nat), ∃ (F1 : List Nat), v = .agg #[vS r.1.x_, S a0 n0 c0, S a1 n1 c1] ∧ St w t [W (af eI 3) F0 r.1.t_ [S a0 n0 c0], W (af (da) 9) F1 r.1.y_ [S a1 n1 c1], b b_0 91 [S a_p0b n_p0b c_p0b, I J r.2.i_, I J r.2.h_]] w') := by
 obtain rfl := ee g_p0b
 unfold fh at H
 refine aG Tryz.func56 z Tryz.ntmps56 z (HS) <| sR <| aC z z z z dI (fun _ => kp) fun C => nR <| bA (val := vS) (h1 := fun _ => z) [([97, 103, 101] : List UInt8), ([115, 105, 122, 101] : List UInt8), ([99, 111, 108, 111, 117, 114] : List UInt8), ([107] : List UInt8), ([108, 111, 110, 103, 110, 97, 109, 101] : List UInt8)] [(0, [vS ([97, 103, 101] : List UInt8)]), (1, [vS ([115, 105, 122, 101] : List UInt8)]), (2, [vS ([99, 111, 108, 111, 117, 114] : List UInt8)]), (3, [vS ([107] : List UInt8)]), (4, [vS ([108, 111, 110, 103, 110, 97, 109, 101] : List UInt8)])] z z z z z ek ty9 z z z ⟨z, z, nl z, z, z, nl z, z, z, nl z, z, z, nl z, z, z, nl z, Y⟩ z z (fun _ => kp) fun e1 => oPP z <| bE H fun k a4 H => bq (e := da) (xs := ([([97, 103, 101] : List UInt8), ([115, 105, 122, 101] : List UInt8), ([99, 111, 108, 111, 117, 114] : List UInt8), ([107] : List UInt8), ([108, 111, 110, 103, 110, 97, 109, 101] : List UInt8)] : List (List UInt8))) (j := Int.tmod p1 5) z z z z z ek ty9 z (fun d a => au (e := af (da) 9) (r := 2) z d a) a4 (by rw [Nat.mul_one]) <| o1 z (aF z z ty9 (bC (fun d a => au (e := af (da) 9) (r := 2) z d a) a4)) <| o1 z (bI [(0, [vS k])] [vS k, S N 0 0, S N 0 0] z z dI DE z ⟨z, z, nl z, Y⟩ z) <| aC z z z z dI (fun _ => kp) fun D => sC 0 [vS k, S N 0 0, S N 0 0] [_, _, _] 3 z dI z <| nQ <| ak <| sR <| oP z <| bE H fun e2 c9 H => aq z uj z z z z (fun d a => fA d c9 (a.carve [0] z z) (rdB [0] z z a g_p0b)) fun e3 d w2 a b0 => ?_
 obtain ⟨rfl, b1⟩ := b0
 refine ⟨St w t [_, _, _, _, _], a.comp [0] z z b1, fun _ _ => Y, ?_⟩
 refine nQ <| cI H z (fun H => ?_) (fun H => ?_)
 ·refine sR <| oP z <| bE H fun a5 d0 H => aq z nV z z z z (fun d a => cj d d0 (a.carve [4] z z) (rdB [4] z z a g_p0b)) fun e4 d w2 a b2 => ?_
  obtain ⟨rfl, b3⟩ := b2
  refine ⟨St w t [_, _, _, _, _, _], a.comp [4] z z b3, fun _ _ => Y, ?_⟩
  refine oPP z <| nQ <| ak <| CW.weak (C' := St w t [_, _, _, _]) ?_ (ss [1, 2, 3, 5] z z)
  refine aT <| oP z <| bA (val := I J) (h1 := fun _ => z) [(-9999), (-7), 0, 3, 20] [(0, [I J (-9999)]), (1, [I J (-7)]), (2, [I J 0]), (3, [I J 3]), (4, [I J 20])] z z z z z aO ty3 z z z ⟨z, z, nl z, z, z, nl z, z, z, nl z, z, z, nl z, z, z, nl z, Y⟩ z z (fun _ => kp) fun e5 => bE H fun M d1 H => aq z jk z z z z (fun d a => aW d d1 (a.carve [3] z z) (rdB [3] z z a g_p0b) (rdO 4 [3] z a z z)) fun e6 d w2 a b4 => ?_
  obtain ⟨rfl, b5⟩ := b4
  refine ⟨St w t [_, _, _, _, _, _], a.comp [3] z z b5, fun _ _ => Y, ?_⟩
  refine oP z <| nQ <| ak <| sR <| oP z <| nQ <| aB <| CW.weak ?_ (fun _ h => St.pushNil (e := eI) (T := 3) h)
  refine CW.at (BB (fun (E : Int) (F : Int) (l : List Int) (o : Option Addr) (q : Nat) (G : List Nat) (s : Int) (x : Int) => St w t [b b_0 91 [S a_p0b p0b.length c_p0b, I J E, I J F], b C 63 [vS ([] : List UInt8), S N 0 0, S N 0 0], b D 63 [vS k, S o l.length q, S N 0 0], W (af eI 3) G l [S o l.length q]]) (fun E F l o q G s x => [(0, O (U ⟨b_0, 0, N⟩)), (4, O (U ⟨C, 0, N⟩)), (5, O (U ⟨D, 0, N⟩)), (6, I J (J.wrap (1 + a5.1))), (7, I J s), (8, I J x)]) (fun kk => fun E F l o q G s x => ck a5 p0b k kk E F l s x = U r) (fun _ _ _ _ _ _ _ _ H => ?_) (fun k1 b6 E F l o q G s x H => ?_) bh (M.2.i_) (M.2.h_) (([] : List Int)) (N) (0) ([]) (M.1) (0) (H)) (ss [5, 0, 2, 6] z z) (sb z)
  ·unfold ck at H
   exact absurd H (by simp)
  ·unfold ck at H
   refine ak <| sR <| aa [.p, .p, .p] z <| nQ <| cI H z (fun H => ?_) (fun H => ?_)
   ·refine aw <| az <| ak <| aB <| sR <| aa [.fa 63 1 1 gx] z <| o1 z (r1 1 2 z cw z) <| oP z <| bA (val := I J) (h1 := fun _ => z) [s] [(0, [I J s])] z z z z z aO ty3 z z z ⟨z, z, nl z, Y⟩ z z (fun _ => kp) fun e7 => bE H fun a6 a7 H => bY (r := 3) (ys := ([s] : List Int)) z z z z z z aO ty3 z z z (au (e := af eI 3) (r := 4) z) a7 (fun _ _ _ => kp) fun a8 a9 d2 => cg z (fun d a => eD (i := 3) a z (eG a7)) fun d8 => aa [.fa 63 1 1 gx] z <| sC 1 [S a8 a6.length a9] [_, _, _] 2 z cw z <| nQ <| aT <| aa [.p, .p, .p] z <| bE H fun P d3 H => aq z nV z z z z (fun d a => cj d d3 (a.carve [0] z z) (rdB [0] z z a g_p0b)) fun e9 d w2 a b7 => ?_
    obtain ⟨rfl, b8⟩ := b7
    refine ⟨St w t [_, _, _, _, _, _], a.comp [0] z z b8, fun _ _ => Y, ?_⟩
    exact oPP z <| ay <| ca <| az <| aT <| aa [.p, .p, .p] z <| ay <| cQ (RW.at (b6 (P.2.i_) (P.2.h_) (a6) (a8) (a9) (d2) (J.wrap ((J.wrap (s + 1)) + P.1)) (J.wrap (x + 1)) (H)) (ss [5, 1, 2, 3] z z) (sb z))
   ·exact bH <| aN <| aS <| aM <| az <| sR <| o1 z (rx 0 2 _ z dI z) <| sC 0 [vS k, S o l.length q, S N 0 0] [_, _, _] 1 z dI z <| nT <| ap <| fo (fun _ h => St.pushNil (e := da) (T := 9) h) <| aY (rs := [.cell 4 63]) (vs := [.agg #[vS k, S o l.length q, S N 0 0]]) z ⟨⟨_, [vS k, S o l.length q, S N 0 0], _, _, _, z, dI, (bl (T := 63) 0 (bK (i := 1) z) z), z, z⟩, Y⟩ (fun w' hw' => by
     obtain rfl := ai H
     exact ⟨_, z, o, l.length, q, G, N, 0, 0, [], z, hw'.sel [3, 4, 0] z z⟩)
 ·refine aw <| az <| sR <| oP z <| bE H fun A d4 H => aq z nV z z z z (fun d a => cj d d4 (a.carve [4] z z) (rdB [4] z z a g_p0b)) fun f0 d w2 a b9 => ?_
  obtain ⟨rfl, c2⟩ := b9
  refine ⟨St w t [_, _, _, _, _, _], a.comp [4] z z c2, fun _ _ => Y, ?_⟩
  refine oPP z <| nQ <| ak <| ak <| CW.weak (C' := St w t [_, _, _, _]) ?_ (ss [1, 2, 3, 5] z z)
  refine aT <| oP z <| nQ <| aB <| CW.weak ?_ (fun _ h => St.pushNil (e := da) (T := 9) h)
  refine CW.at (iz (fun (m : Int) (c : List (List UInt8)) (f : Option Addr) (g : Nat) (u : List Nat) => St w t [b b_0 91 [S a_p0b p0b.length c_p0b, I J A.2.i_, I J A.2.h_], b C 63 [vS ([] : List UInt8), S N 0 0, S N 0 0], b D 63 [vS k, S N 0 0, S f c.length g], W (af (da) 9) u c [S f c.length g]]) (fun m c f g u => [(0, O (U ⟨b_0, 0, N⟩)), (4, O (U ⟨C, 0, N⟩)), (5, O (U ⟨D, 0, N⟩)), (9, I J (J.wrap (2 + A.1))), (10, I J m)]) (fun kk => fun m c f g u => cl A k kk m c = U r) (fun _ _ _ _ _ H => ?_) (fun k2 c3 m c f g u H => ?_) bh (0) (([] : List (List UInt8))) (N) (0) ([]) (H)) (ss [3, 0, 2, 4] z z) (sb z)
  ·unfold cl at H
   exact absurd H (by simp)
  ·unfold cl at H
   refine ak <| sR <| aa [.p, .p, .p] z <| nQ <| cI H z (fun H => ?_) (fun H => ?_)
   ·exact aw <| az <| ak <| aB <| bE H fun L Q H => om 7 [(0, y), (1, y), (3, y), (2, n), (4, n), (5, n), (6, n)] Br.done (St w t [b b_0 91 [S a_p0b p0b.length c_p0b, I J A.2.i_, I J A.2.h_], b C 63 [vS ([] : List UInt8), S N 0 0, S N 0 0], b D 63 [vS k, S N 0 0, S f c.length g], W (af (da) 9) u c [S f c.length g]]) bT (by kernel_rfl) (bF (aV (fe (bF (aV be))))) (tk 4 z) <| aa [.fa 63 2 2 lu] z <| br z (ax z) (r1 2 2 z ja z) <| oP z <| bA (val := vS) (h1 := fun _ => z) [([114, 101, 100] : List UInt8), ([98, 108, 117, 101] : List UInt8), ([120] : List UInt8), ([103, 114, 101, 101, 110] : List UInt8)] [(0, [vS ([114, 101, 100] : List UInt8)]), (1, [vS ([98, 108, 117, 101] : List UInt8)]), (2, [vS ([120] : List UInt8)]), (3, [vS ([103, 114, 101, 101, 110] : List UInt8)])] z z z z z ek ty9 z z z ⟨z, z, nl z, z, z, nl z, z, z, nl z, z, z, nl z, Y⟩ z z (fun _ => (tk 4 z)) fun d9 => xa (e := da) (xs := ([([114, 101, 100] : List UInt8), ([98, 108, 117, 101] : List UInt8), ([120] : List UInt8), ([103, 114, 101, 101, 110] : List UInt8)] : List (List UInt8))) (j := m) z z z z z z ek ty9 z (fun d a => au (e := af (da) 9) (r := 4) z d a) Q (by rw [Nat.mul_one]) <| tR z z (ax z) (aF z z ty9 (bC (fun d a => au (e := af (da) 9) (r := 4) z d a) Q)) <| bA (val := vS) (h1 := fun _ => z) [L] [(0, [vS L])] z z z z z ek ty9 z z z ⟨z, z, nl z, Y⟩ z z (fun _ => (tk 4 z)) fun e0 => aJ <| cK <| bE H fun R X H => bY (r := 3) (ys := ([L] : List (List UInt8))) z z z z z z ek ty9 z z z (fun d a => au (e := af (da) 9) (r := 5) z d a) X (fun _ _ _ => kp) fun Z a2 c4 => cg z (fun d a => eD (i := 3) a z (eG X)) fun d5 => aa [.fa 63 2 2 lu] z <| sC 2 [S Z R.length a2] [_, _, _] 2 z ja z <| ay <| ca <| az <| aT <| aa [.p, .p, .p] z <| ay <| cQ (RW.at (c3 (J.wrap (m + 1)) (R) (Z) (a2) (c4) (H)) (ss [0, 1, 2, 3] z z) (sb z))
   ·exact bH <| aN <| aS <| aM <| az <| sR <| o1 z (rx 0 2 _ z dI z) <| sC 0 [vS k, S N 0 0, S f c.length g] [_, _, _] 1 z dI z <| nT <| fo (fun _ h => St.pushNil (e := eI) (T := 3) h) <| aY (rs := [.cell 4 63]) (vs := [.agg #[vS k, S N 0 0, S f c.length g]]) z ⟨⟨_, [vS k, S N 0 0, S f c.length g], _, _, _, z, dI, (bl (T := 63) 0 (bK (i := 1) z) z), z, z⟩, Y⟩ (fun w' hw' => by
     obtain rfl := ai H
     exact ⟨_, z, N, 0, 0, [], f, c.length, g, u, z, hw'.sel [4, 3, 0] z z⟩)
theorem oG (w : World) {s : List Nat} {p0b : List Int} {p0 : ao} {b_0 : Nat} {a_p0b : Option Addr} {n_p0b c_p0b : Nat} {r : ae × ao} (H : jV p0b p0 = U r) (HS : St w s [b b_0 91 [S a_p0b p0b.length c_p0b, I J p0.i_, I J p0.h_]] w) (g_p0b : (af e8 5).rd w s p0b [S a_p0b n_p0b c_p0b]) :
    Calls Tryz.prog 25 #[O (U ⟨b_0, 0, N⟩)] w (fun en w' => ∃ v, en = .returned v ∧ ∃ (a0 : Option Addr), ∃ (n0 : Nat), ∃ (c0 : Nat), ∃ (F0 : List Nat), ∃ (a1 : Option Addr), ∃ (n1 : Nat), ∃ (c1 : Nat), ∃ (F1 : List Nat), v = .agg #[S a0 n0 c0, S a1 n1 c1] ∧ St w s [W (af (cf) 63) F0 r.1.b_ [S a0 n0 c0], W (af (da) 9) F1 r.1.k_ [S a1 n1 c1], b b_0 91 [S a_p0b n_p0b c_p0b, I J r.2.i_, I J r.2.h_]] w') := by
 obtain rfl := ee g_p0b
 unfold jV at H
 refine aG Tryz.func25 z Tryz.ntmps25 z (HS) <| sR <| aC z z z z bU (fun _ => kp) fun D => nR <| bA (val := vS) (h1 := fun _ => z) [([110, 111] : List UInt8), ([121, 101, 115] : List UInt8)] [(0, [vS ([110, 111] : List UInt8)]), (1, [vS ([121, 101, 115] : List UInt8)])] z z z z z ek ty9 z z z ⟨z, z, nl z, z, z, nl z, Y⟩ z z (fun _ => kp) fun E => o1 z (bI [(1, [S (U ⟨E, 0, N⟩) (([([110, 111] : List UInt8), ([121, 101, 115] : List UInt8)] : List (List UInt8)).length) 2])] [S N 0 0, S (U ⟨E, 0, N⟩) (([([110, 111] : List UInt8), ([121, 101, 115] : List UInt8)] : List (List UInt8)).length) 2] z z bU Ds z ⟨z, z, nl z, Y⟩ z) <| aC z z z z bU (fun _ => kp) fun F => sC 0 [S N 0 0, S (U ⟨E, 0, N⟩) (([([110, 111] : List UInt8), ([121, 101, 115] : List UInt8)] : List (List UInt8)).length) 2] [_, _] 3 z bU z <| nQ <| wL (fun (G : Int) (L : Int) (c : List (List UInt8)) (d : Option Addr) (g : Nat) (t : List Nat) => St w s [b b_0 91 [S a_p0b p0b.length c_p0b, I J G, I J L], b D 27 [S N 0 0, S N 0 0], b F 27 [S N 0 0, S d c.length g], W (af (da) 9) t c [S d c.length g]]) (fun G L c d g t => [(0, O (U ⟨b_0, 0, N⟩)), (2, O (U ⟨D, 0, N⟩)), (3, O (U ⟨F, 0, N⟩))]) (fun G L c d g t => d.isNone = n ∧ ij p0b G L c = U r) (fun G L c d g t ⟨d3, H⟩ => ?_) (fun J1 => ?_)
 ·unfold ij at H
  refine sR <| oP z <| bE H fun Q c9 H => aq z nV z z z z (fun o a => cj o c9 (a.carve [0] z z) (rdB [0] z z a g_p0b)) fun e3 o w2 a b4 => ?_
  obtain ⟨rfl, b5⟩ := b4
  refine ⟨St w s [_, _, _, _, _], a.comp [0] z z b5, fun _ _ => Y, ?_⟩
  refine oPP z <| nQ <| ak <| sR <| oP z <| nQ <| aB <| CW.weak ?_ (fun _ h => St.pushNil (e := cf) (T := 63) h)
  refine CW.at (uw (fun (M : Int) (P : Int) (f : List bi) (l : Option Addr) (m : Nat) (u : List Nat) (x : Int) => St w s [b b_0 91 [S a_p0b p0b.length c_p0b, I J M, I J P], b D 27 [S N 0 0, S N 0 0], b F 27 [S l f.length m, S d c.length g], W (af (cf) 63) u f [S l f.length m], W (af (da) 9) t c [S d c.length g]]) (fun M P f l m u x => [(0, O (U ⟨b_0, 0, N⟩)), (2, O (U ⟨D, 0, N⟩)), (3, O (U ⟨F, 0, N⟩)), (4, I J (J.wrap (1 + Q.1))), (5, I J x)]) (fun kk => fun M P f l m u x => ep Q p0b c kk M P f x = U r) (fun _ _ _ _ _ _ _ H => ?_) (fun k1 b6 M P f l m u x H => ?_) bh (Q.2.i_) (Q.2.h_) (([] : List bi)) (N) (0) ([]) (0) (H)) (ss [4, 1, 2, 5, 3] z z) (sb z)
  ·unfold ep at H
   exact absurd H (by simp)
  ·unfold ep at H
   refine ak <| sR <| aa [.p, .p, .p] z <| nQ <| cI H z (fun H => ?_) (fun H => ?_)
   ·refine aw <| az <| ak <| aB <| cW 6 [(0, y), (1, y), (2, y), (3, y), (4, n), (5, n)] (St w s [Res.nil, b D 27 [S N 0 0, S N 0 0], b F 27 [S l f.length m, S d c.length g], W (af (cf) 63) u f [S l f.length m], W (af (da) 9) t c [S d c.length g]]) bT (by kernel_rfl) (bF (aV (fe (bF (aV be))))) (sm [n, y, y, y, y] z) <| aa [.fa 27 0 0 dq] z <| br z (ax z) (r1 0 2 z iH z) <| oPP z <| bE H fun k b7 H => aq z Cp z z z z (fun o a => mr o b7 (a.carve [0] z z) (rdB [0] z z a g_p0b)) fun d4 o w2 a b0 => ?_
    obtain ⟨R, d5, X, d6, Z, d7, a2, d8, rfl, A⟩ := b0
    obtain rfl := aH (i := 0) A z
    obtain rfl := aH (i := 1) A z
    refine ⟨St w s [_, _, _, _, _, _, _, _], a.comp [0] z z A, (sm [n, y, y, y, y] z), ?_⟩
    refine qB z (fun o a => pk (x0 := k.1.x_) [5, 6] a z z) fun d9 => eU (C' := St w s [_, _, _, _, _, _, _, _, _]) z (fun _ h => h) <| il [(0, [vS k.1.x_, S R k.1.t_.length X, S Z k.1.y_.length a2])] z z z z z iw dI z z ⟨z, z, nl z, Y⟩ [vS k.1.x_, S R k.1.t_.length X, S Z k.1.y_.length a2] z (fun _ => (sm [n, y, y, y, y] z)) fun e0 => eU z (fun _ h => tz (p := 9) (q := 8) h z z z) <| aJ <| iY <| bE H fun a3 b8 H => mz (r := 3) (j := 10) z z z z z z iw dI z z z z z z z b8 (fun _ _ _ => kp) fun a4 a5 b9 => aa [.fa 27 0 0 dq] z <| sC 0 [S a4 a3.length a5] [_, _] 2 z iH z <| ay <| ca <| az <| CW.weak (C' := St w s [_, _, _, _, _]) ?_ (ss [1, 2, 4, 7, 11] z z)
    exact aT <| aa [.p, .p, .p] z <| ay <| cQ (RW.at (b6 (k.2.i_) (k.2.h_) (a3) (a4) (a5) (b9) (J.wrap (x + 1)) (H)) (ss [3, 0, 1, 4, 2] z z) (sb z))
   ·exact bH <| aN <| aS <| aM <| az <| sR <| o1 z (rx 0 2 _ z bU z) <| sC 0 [S l f.length m, S d c.length g] [_, _] 1 z bU z <| nT <| aY (rs := [.cell 2 27]) (vs := [.agg #[S l f.length m, S d c.length g]]) z ⟨⟨_, [S l f.length m, S d c.length g], _, _, _, z, bU, (bl (T := 27) 0 (bK (i := 1) z) z), z, z⟩, Y⟩ (fun w' hw' => by
     obtain rfl := ai H
     exact ⟨_, z, l, f.length, m, u, d, c.length, g, t, z, hw'.sel [3, 4, 0] z z⟩)
 ·refine sR <| oP z <| bE H fun C c2 H => aq z uj z z z z (fun o a => fA o c2 (a.carve [0] z z) (rdB [0] z z a g_p0b)) fun e1 o w2 a b1 => ?_
  obtain ⟨rfl, b2⟩ := b1
  refine ⟨St w s [_, _, _, _, _], a.comp [0] z z b2, fun _ _ => Y, ?_⟩
  refine nQ <| cI H z (fun H => ?_) (fun H => ?_)
  ·exact aT <| aa [.fa 27 1 1 fZ] z <| o1 z (r1 1 3 z ja z) <| bA (val := vS) (h1 := fun _ => z) [([112, 101, 114, 104, 97, 112, 115] : List UInt8)] [(0, [vS ([112, 101, 114, 104, 97, 112, 115] : List UInt8)])] z z z z z ek ty9 z z z ⟨z, z, nl z, Y⟩ z z (fun _ => kp) fun e2 => bE H fun a6 a7 H => bY (r := 2) (ys := ([([112, 101, 114, 104, 97, 112, 115] : List UInt8)] : List (List UInt8))) z z z z z z ek ty9 z z z (fun o a => au (e := af (da) 9) (r := 5) z o a) a7 (fun _ _ _ => kp) fun a8 a9 c3 => cg z (fun o a => eD (i := 2) a z (eG a7)) fun b3 => aa [.fa 27 1 1 fZ] z <| sC 1 [S a8 a6.length a9] [_, _] 3 z ja z <| ay <| XW.at (J1 (C.2.i_) (C.2.h_) (a6) (a8) (a9) (c3) (⟨b3, H⟩)) (ss [4, 1, 3, 2] z z) (sb z)
  ·exact aw <| XW.at (J1 (C.2.i_) (C.2.h_) (([([110, 111] : List UInt8), ([121, 101, 115] : List UInt8)] : List (List UInt8))) ((U ⟨E, 0, N⟩)) (2) ([E]) (⟨z, H⟩)) (ss [4, 1, 3, 2] z z) (sb z)
theorem mQ (w : World) {c : List Nat} {p0b : List Int} {p0 : ao} {p1 : List (List UInt8)} {b_0 : Nat} {a_p0b : Option Addr} {n_p0b c_p0b : Nat} {a_1 : Option Addr} {n_1 c_1 : Nat} {r : (List UInt8) × ao} (H : jE p0b p0 p1 = U r) (HS : St w c [b b_0 91 [S a_p0b p0b.length c_p0b, I J p0.i_, I J p0.h_]] w) (g_p0b : (af e8 5).rd w c p0b [S a_p0b n_p0b c_p0b]) (f : (af (da) 9).rd w c p1 [S a_1 n_1 c_1]) :
    Calls Tryz.prog 113 #[O (U ⟨b_0, 0, N⟩), S a_1 n_1 c_1] w (fun en w' => ∃ v, en = .returned v ∧ v = vS r.1 ∧ St w c [b b_0 91 [S a_p0b n_p0b c_p0b, I J r.2.i_, I J r.2.h_]] w') := by
 obtain rfl := ee g_p0b
 obtain rfl := ee f
 unfold jE at H
 refine aG Tryz.func113 z Tryz.ntmps113 z (HS) <| sR <| oP z <| nR <| aa [.p, .p, .p, .lenS 25 9 ek] z <| bE H fun i k H => aq z nV z z z z (fun l a => cj l k (a.carve [0] z z) (rdB [0] z z a g_p0b)) fun o l q a g => ?_
 obtain ⟨rfl, h⟩ := g
 refine ⟨St w c [_, _], a.comp [0] z z h, fun _ _ => Y, ?_⟩
 exact bE H fun m d H => bq (e := da) (xs := p1) (j := i.1) z z z z z ek ty9 z (ab f) d (by rw [Nat.mul_one]) <| o1 z (aF z z ty9 (bC (ab f) d)) <| oP z <| nT <| aY (rs := [.tmp 4]) (vs := [vS m]) z ⟨z, Y⟩ (fun w' hw' => by
  obtain rfl := ai H
  exact ⟨_, z, z, hw'.sel [1] z z⟩)
theorem qb (w : World) {k : List Nat} {p0b : List Int} {p0 : ao} {b_0 : Nat} {a_p0b : Option Addr} {n_p0b c_p0b : Nat} {r : bi × ao} (H : jn p0b p0 = U r) (HS : St w k [b b_0 91 [S a_p0b p0b.length c_p0b, I J p0.i_, I J p0.h_]] w) (g_p0b : (af e8 5).rd w k p0b [S a_p0b n_p0b c_p0b]) :
    Calls Tryz.prog 112 #[O (U ⟨b_0, 0, N⟩)] w (fun en w' => ∃ v, en = .returned v ∧ ∃ (a0 : Option Addr), ∃ (n0 : Nat), ∃ (c0 : Nat), ∃ (F0 : List Nat), ∃ (a1 : Option Addr), ∃ (n1 : Nat), ∃ (c1 : Nat), ∃ (F1 : List Nat), v = .agg #[vS r.1.x_, S a0 n0 c0, S a1 n1 c1] ∧ St w k [W (af eI 3) F0 r.1.t_ [S a0 n0 c0], W (af (da) 9) F1 r.1.y_ [S a1 n1 c1], b b_0 91 [S a_p0b n_p0b c_p0b, I J r.2.i_, I J r.2.h_]] w') := by
 obtain rfl := ee g_p0b
 unfold jn at H
 refine aG Tryz.func112 z Tryz.ntmps112 z (HS) <| sR <| aC z z z z dI (fun _ => kp) fun M => nR <| oPP z <| bE H fun c9 b5 H => aq z nV z z z z (fun j c => cj j b5 (c.carve [0] z z) (rdB [0] z z c g_p0b)) fun d0 j F c X => ?_
 obtain ⟨rfl, Z⟩ := X
 refine ⟨St w k [_, _, _], c.comp [0] z z Z, fun _ _ => Y, ?_⟩
 refine bE H fun a b6 H => aq z Cp z z z z (fun j c => mr j b6 (c.carve [2] z z) (rdB [2] z z c g_p0b)) fun d1 j F c a2 => ?_
 obtain ⟨g, d2, h, q, d, d3, f, l, rfl, D⟩ := a2
 obtain rfl := aH (i := 0) D z
 obtain rfl := aH (i := 1) D z
 refine ⟨St w k [_, _, _, _, _, _], c.comp [2] z z D, fun _ _ => Y, ?_⟩
 refine aC z z z z dI (fun _ => kp) fun P => sC 0 [vS a.1.x_, S g a.1.t_.length h, S d a.1.y_.length f] [_, _, _] 6 z dI z <| nQ <| ak <| ak <| CW.weak (C' := St w k [_, _, _, _, _]) ?_ (ss [1, 3, 4, 5, 6] z z)
 refine aT <| oP z <| bE H fun d4 b7 H => aq z nV z z z z (fun j c => cj j b7 (c.carve [3] z z) (rdB [3] z z c g_p0b)) fun d5 j F c a3 => ?_
 obtain ⟨rfl, a4⟩ := a3
 refine ⟨St w k [_, _, _, _, _, _], c.comp [3] z z a4, fun _ _ => Y, ?_⟩
 refine nQ <| aB <| sR <| oPP z <| nQ <| cI H z (fun H => ?_) (fun H => ?_)
 ·refine aT <| oP z <| bA (val := vS) (h1 := fun _ => z) [([] : List UInt8), ([85, 112, 112, 101, 114] : List UInt8), ([119, 97, 121, 116, 111, 111, 108, 111, 110, 103] : List UInt8), ([97, 32, 98] : List UInt8)] [(0, [vS ([] : List UInt8)]), (1, [vS ([85, 112, 112, 101, 114] : List UInt8)]), (2, [vS ([119, 97, 121, 116, 111, 111, 108, 111, 110, 103] : List UInt8)]), (3, [vS ([97, 32, 98] : List UInt8)])] z z z z z ek ty9 z z z ⟨z, z, nl z, z, z, nl z, z, z, nl z, z, z, nl z, Y⟩ z z (fun _ => kp) fun d6 => bE H fun E b8 H => aq z xU z z z z (fun j c => mQ j b8 (c.carve [5] z z) (rdB [5] z z c g_p0b) (rdO 6 [5] z c z z)) fun d7 j F c a5 => ?_
  obtain ⟨rfl, a6⟩ := a5
  refine ⟨St w k [_, _, _, _, _, _, _, _], c.comp [5] z z a6, fun _ _ => Y, ?_⟩
  refine aa [.fa 63 0 0 oy] z <| sC 0 [vS E.1] [_, _, _] 4 z ty9 z <| ay <| ca <| az <| ak <| CW.weak (C' := St w k [_, _, _, _, _, _]) ?_ (ss [0, 1, 2, 4, 6, 7] z z)
  exact aT <| o1 z (rx 0 3 _ z dI z) <| sC 0 [vS E.1, S g a.1.t_.length h, S d a.1.y_.length f] [_, _, _] 0 z dI z <| nT <| aY (rs := [.cell 2 63]) (vs := [.agg #[vS E.1, S g a.1.t_.length h, S d a.1.y_.length f]]) z ⟨⟨_, [vS E.1, S g a.1.t_.length h, S d a.1.y_.length f], _, _, _, z, dI, (bl (T := 63) 0 (bK (i := 0) z) z), z, z⟩, Y⟩ (fun w' hw' => by
   obtain rfl := ai H
   exact ⟨_, z, g, a.1.t_.length, h, q, d, a.1.y_.length, f, l, z, hw'.sel [1, 2, 5] z z⟩)
 ·refine sR <| oPP z <| nQ <| cI H z (fun H => ?_) (fun H => ?_)
  ·refine cW 6 [(0, y), (1, y), (2, y), (3, n), (4, n), (5, n)] (St w k [b M 63 [vS ([] : List UInt8), S N 0 0, S N 0 0], W (af eI 3) q a.1.t_ [S g a.1.t_.length h], W (af (da) 9) l a.1.y_ [S d a.1.y_.length f], Res.nil, b P 63 [vS a.1.x_, S g a.1.t_.length h, S d a.1.y_.length f], Res.nil]) bT (by kernel_rfl) (bF (aV be)) (sm [y, y, y, y, y, n] z) <| aa [.fa 63 1 1 gx] z <| br z (ax z) (r1 1 4 z cw z) <| oP z <| bA (val := I J) (h1 := fun _ => z) [(-10000), 9999, 9998, 0] [(0, [I J (-10000)]), (1, [I J 9999]), (2, [I J 9998]), (3, [I J 0])] z z z z z aO ty3 z z z ⟨z, z, nl z, z, z, nl z, z, z, nl z, z, z, nl z, Y⟩ z z (fun _ => (sm [y, y, y, y, y, n] z)) fun d8 => bE H fun G b9 H => aq z jk z z z z (fun j c => aW j b9 (c.carve [5] z z) (rdB [5] z z c g_p0b) (rdO 6 [5] z c z z)) fun d9 j F c a7 => ?_
   obtain ⟨rfl, a8⟩ := a7
   refine ⟨St w k [_, _, _, _, _, _, _, _], c.comp [5] z z a8, (sm [y, y, y, y, y, n] z), ?_⟩
   refine bA (val := I J) (h1 := fun _ => z) [G.1] [(0, [I J G.1])] z z z z z aO ty3 z z z ⟨z, z, nl z, Y⟩ z z (fun _ => (sm [y, y, y, y, y, n] z)) fun e0 => aJ <| iY <| bE H fun s Q H => bY (r := 1) (ys := ([G.1] : List Int)) z z z z z z aO ty3 z z z (au (e := af eI 3) (r := 8) z) Q (fun _ _ _ => kp) fun t u c2 => cg z (fun j c => eD (i := 1) c z (eG Q)) fun c7 => aa [.fa 63 1 1 gx] z <| sC 1 [S t s.length u] [_, _, _] 4 z cw z <| ay <| ca <| az <| ak <| CW.weak (C' := St w k [_, _, _, _, _, _, _]) ?_ (ss [0, 1, 2, 4, 6, 7, 8] z z)
   exact aT <| o1 z (rx 0 3 _ z dI z) <| sC 0 [vS a.1.x_, S t s.length u, S d a.1.y_.length f] [_, _, _] 0 z dI z <| nT <| aY (rs := [.cell 2 63]) (vs := [.agg #[vS a.1.x_, S t s.length u, S d a.1.y_.length f]]) z ⟨⟨_, [vS a.1.x_, S t s.length u, S d a.1.y_.length f], _, _, _, z, dI, (bl (T := 63) 0 (bK (i := 0) z) z), z, z⟩, Y⟩ (fun w' hw' => by
    obtain rfl := ai H
    exact ⟨_, z, t, s.length, u, c2, d, a.1.y_.length, f, l, z, hw'.sel [1, 2, 5] z z⟩)
  ·refine sR <| oPP z <| nQ <| cI H z (fun H => ?_) (fun H => ?_)
   ·refine cW 6 [(0, y), (1, y), (2, y), (3, n), (4, n), (5, n)] (St w k [b M 63 [vS ([] : List UInt8), S N 0 0, S N 0 0], W (af eI 3) q a.1.t_ [S g a.1.t_.length h], W (af (da) 9) l a.1.y_ [S d a.1.y_.length f], Res.nil, b P 63 [vS a.1.x_, S g a.1.t_.length h, S d a.1.y_.length f], Res.nil]) bT (by kernel_rfl) (bF (aV be)) (sm [y, y, y, y, y, n] z) <| aa [.fa 63 2 2 lu] z <| br z (ax z) (r1 2 4 z ja z) <| oP z <| bA (val := vS) (h1 := fun _ => z) [([114, 101, 100] : List UInt8), ([102, 105, 102, 116, 104] : List UInt8), ([] : List UInt8)] [(0, [vS ([114, 101, 100] : List UInt8)]), (1, [vS ([102, 105, 102, 116, 104] : List UInt8)]), (2, [vS ([] : List UInt8)])] z z z z z ek ty9 z z z ⟨z, z, nl z, z, z, nl z, z, z, nl z, Y⟩ z z (fun _ => (sm [y, y, y, y, y, n] z)) fun e1 => bE H fun L c3 H => aq z xU z z z z (fun j c => mQ j c3 (c.carve [5] z z) (rdB [5] z z c g_p0b) (rdO 6 [5] z c z z)) fun e2 j F c a9 => ?_
    obtain ⟨rfl, b0⟩ := a9
    refine ⟨St w k [_, _, _, _, _, _, _, _], c.comp [5] z z b0, (sm [y, y, y, y, y, n] z), ?_⟩
    refine bA (val := vS) (h1 := fun _ => z) [L.1] [(0, [vS L.1])] z z z z z ek ty9 z z z ⟨z, z, nl z, Y⟩ z z (fun _ => (sm [y, y, y, y, y, n] z)) fun e3 => aJ <| iY <| bE H fun x R H => bY (r := 2) (ys := ([L.1] : List (List UInt8))) z z z z z z ek ty9 z z z (fun j c => au (e := af (da) 9) (r := 8) z j c) R (fun _ _ _ => kp) fun A C c4 => cg z (fun j c => eD (i := 2) c z (eG R)) fun c8 => aa [.fa 63 2 2 lu] z <| sC 2 [S A x.length C] [_, _, _] 4 z ja z <| ay <| ca <| az <| ak <| CW.weak (C' := St w k [_, _, _, _, _, _, _]) ?_ (ss [0, 1, 2, 4, 6, 7, 8] z z)
    exact aT <| o1 z (rx 0 3 _ z dI z) <| sC 0 [vS a.1.x_, S g a.1.t_.length h, S A x.length C] [_, _, _] 0 z dI z <| nT <| aY (rs := [.cell 2 63]) (vs := [.agg #[vS a.1.x_, S g a.1.t_.length h, S A x.length C]]) z ⟨⟨_, [vS a.1.x_, S g a.1.t_.length h, S A x.length C], _, _, _, z, dI, (bl (T := 63) 0 (bK (i := 0) z) z), z, z⟩, Y⟩ (fun w' hw' => by
     obtain rfl := ai H
     exact ⟨_, z, g, a.1.t_.length, h, q, A, x.length, C, c4, z, hw'.sel [1, 2, 5] z z⟩)
   ·refine sR <| oPP z <| nQ <| cI H z (fun H => ?_) (fun H => ?_)
    ·exact aT <| bM (e := eI) z z z z aO ty3 (fun _ => kp) fun m => aa [.fa 63 1 1 gx] z <| sC 1 [S (U ⟨m, 0, N⟩) 0 0] [_, _, _] 4 z cw z <| ay <| ca <| az <| sR <| o1 z (rx 0 4 _ z dI z) <| sC 0 [vS a.1.x_, S (U ⟨m, 0, N⟩) 0 0, S d a.1.y_.length f] [_, _, _] 0 z dI z <| nT <| aY (rs := [.cell 2 63]) (vs := [.agg #[vS a.1.x_, S (U ⟨m, 0, N⟩) 0 0, S d a.1.y_.length f]]) z ⟨⟨_, [vS a.1.x_, S (U ⟨m, 0, N⟩) 0 0, S d a.1.y_.length f], _, _, _, z, dI, (bl (T := 63) 0 (bK (i := 0) z) z), z, z⟩, Y⟩ (fun w' hw' => by
      obtain rfl := ai H
      exact ⟨_, z, (U ⟨m, 0, N⟩), 0, 0, [m], d, a.1.y_.length, f, l, z, hw'.sel [6, 2, 5] z z⟩)
    ·refine sR <| oPP z <| nQ <| cI H z (fun H => ?_) (fun H => ?_)
     ·exact sR <| bA (val := I J) (h1 := fun _ => z) [9998] [(0, [I J 9998])] z z z z z aO ty3 z z z ⟨z, z, nl z, Y⟩ z z (fun _ => kp) fun o => aa [.fa 63 1 1 gx] z <| sC 1 [S (U ⟨o, 0, N⟩) (([9998] : List Int).length) 1] [_, _, _] 4 z cw z <| nQ <| aT <| bM (e := da) z z z z ek ty9 (fun _ => kp) fun p => aa [.fa 63 2 2 lu] z <| sC 2 [S (U ⟨p, 0, N⟩) 0 0] [_, _, _] 4 z ja z <| ay <| ca <| az <| sR <| o1 z (rx 0 4 _ z dI z) <| sC 0 [vS a.1.x_, S (U ⟨o, 0, N⟩) (([9998] : List Int).length) 1, S (U ⟨p, 0, N⟩) 0 0] [_, _, _] 0 z dI z <| nT <| aY (rs := [.cell 2 63]) (vs := [.agg #[vS a.1.x_, S (U ⟨o, 0, N⟩) (([9998] : List Int).length) 1, S (U ⟨p, 0, N⟩) 0 0]]) z ⟨⟨_, [vS a.1.x_, S (U ⟨o, 0, N⟩) (([9998] : List Int).length) 1, S (U ⟨p, 0, N⟩) 0 0], _, _, _, z, dI, (bl (T := 63) 0 (bK (i := 0) z) z), z, z⟩, Y⟩ (fun w' hw' => by
       obtain rfl := ai H
       exact ⟨_, z, (U ⟨o, 0, N⟩), (([9998] : List Int).length), 1, [o], (U ⟨p, 0, N⟩), 0, 0, [p], z, hw'.sel [6, 7, 5] z z⟩)
     ·exact aw <| ca <| az <| sR <| o1 z (rx 0 4 _ z dI z) <| sC 0 [vS a.1.x_, S g a.1.t_.length h, S d a.1.y_.length f] [_, _, _] 0 z dI z <| nT <| aY (rs := [.cell 2 63]) (vs := [.agg #[vS a.1.x_, S g a.1.t_.length h, S d a.1.y_.length f]]) z ⟨⟨_, [vS a.1.x_, S g a.1.t_.length h, S d a.1.y_.length f], _, _, _, z, dI, (bl (T := 63) 0 (bK (i := 0) z) z), z, z⟩, Y⟩ (fun w' hw' => by
       obtain rfl := ai H
       exact ⟨_, z, g, a.1.t_.length, h, q, d, a.1.y_.length, f, l, z, hw'.sel [1, 2, 5] z z⟩)
theorem th (w : World) {m : List Nat} {p0b : List Int} {p0 : ao} {b_0 : Nat} {a_p0b : Option Addr} {n_p0b c_p0b : Nat} {r : ae × ao} (H : mc p0b p0 = U r) (HS : St w m [b b_0 91 [S a_p0b p0b.length c_p0b, I J p0.i_, I J p0.h_]] w) (g_p0b : (af e8 5).rd w m p0b [S a_p0b n_p0b c_p0b]) :
    Calls Tryz.prog 81 #[O (U ⟨b_0, 0, N⟩)] w (fun en w' => ∃ v, en = .returned v ∧ ∃ (a0 : Option Addr), ∃ (n0 : Nat), ∃ (c0 : Nat), ∃ (F0 : List Nat), ∃ (a1 : Option Addr), ∃ (n1 : Nat), ∃ (c1 : Nat), ∃ (F1 : List Nat), v = .agg #[S a0 n0 c0, S a1 n1 c1] ∧ St w m [W (af (cf) 63) F0 r.1.b_ [S a0 n0 c0], W (af (da) 9) F1 r.1.k_ [S a1 n1 c1], b b_0 91 [S a_p0b n_p0b c_p0b, I J r.2.i_, I J r.2.h_]] w') := by
 obtain rfl := ee g_p0b
 unfold mc at H
 refine aG Tryz.func81 z Tryz.ntmps81 z (HS) <| sR <| aC z z z z bU (fun _ => kp) fun Q => nR <| oP z <| bE H fun a b7 H => aq z CM z z z z (fun l c => oG l b7 (c.carve [0] z z) (rdB [0] z z c g_p0b)) fun d0 l w2 c a7 => ?_
 obtain ⟨g, d1, k, t, f, d2, d, u, rfl, L⟩ := a7
 obtain rfl := aH (i := 0) L z
 obtain rfl := aH (i := 1) L z
 refine ⟨St w m [_, _, _, _, _], c.comp [0] z z L, fun _ _ => Y, ?_⟩
 refine aC z z z z bU (fun _ => kp) fun R => sC 0 [S g a.1.b_.length k, S f a.1.k_.length d] [_, _] 5 z bU z <| nQ <| ak <| sR <| oP z <| bE H fun d3 b8 H => aq z nV z z z z (fun l c => cj l b8 (c.carve [4] z z) (rdB [4] z z c g_p0b)) fun d4 l w2 c a8 => ?_
 obtain ⟨rfl, a9⟩ := a8
 refine ⟨St w m [_, _, _, _, _, _, _], c.comp [4] z z a9, fun _ _ => Y, ?_⟩
 refine nQ <| aB <| ak <| CW.weak (C' := St w m [_, _, _, _, _]) ?_ (ss [1, 2, 3, 5, 6] z z)
 refine aT <| oPP z <| nQ <| cI H z (fun H => ?_) (fun H => ?_)
 ·refine cW 5 [(0, y), (1, y), (2, y), (3, n), (4, n)] (St w m [b Q 27 [S N 0 0, S N 0 0], W (af (cf) 63) t a.1.b_ [S g a.1.b_.length k], W (af (da) 9) u a.1.k_ [S f a.1.k_.length d], b R 27 [S g a.1.b_.length k, S f a.1.k_.length d], Res.nil]) bT (by kernel_rfl) (bF (aV be)) (sm [y, y, y, y, n] z) <| aa [.fa 27 0 0 dq] z <| br z (ax z) (r1 0 3 z iH z) <| oP z <| bE H fun o b9 H => aq z Dd z z z z (fun l c => qb l b9 (c.carve [4] z z) (rdB [4] z z c g_p0b)) fun d5 l w2 c b0 => ?_
  obtain ⟨X, d6, Z, d7, a2, d8, a3, d9, rfl, M⟩ := b0
  obtain rfl := aH (i := 0) M z
  obtain rfl := aH (i := 1) M z
  refine ⟨St w m [_, _, _, _, _, _, _, _], c.comp [4] z z M, (sm [y, y, y, y, n] z), ?_⟩
  refine qB z (fun l c => pk (x0 := o.1.x_) [5, 6] c z z) fun e0 => eU (C' := St w m [_, _, _, _, _, _, _, _, _]) z (fun _ h => h) <| il [(0, [vS o.1.x_, S X o.1.t_.length Z, S a2 o.1.y_.length a3])] z z z z z iw dI z z ⟨z, z, nl z, Y⟩ [vS o.1.x_, S X o.1.t_.length Z, S a2 o.1.y_.length a3] z (fun _ => (sm [y, y, y, y, n] z)) fun e1 => eU z (fun _ h => tz (p := 9) (q := 8) h z z z) <| aJ <| iY <| bE H fun x c2 H => mz (r := 1) (j := 10) z z z z z z iw dI z z z z z z z c2 (fun _ _ _ => kp) fun A C c3 => aa [.fa 27 0 0 dq] z <| sC 0 [S A x.length C] [_, _] 3 z iH z <| ay <| ca <| az <| ak <| CW.weak (C' := St w m [_, _, _, _, _]) ?_ (ss [0, 2, 3, 7, 11] z z)
  exact aT <| o1 z (rx 0 2 _ z bU z) <| sC 0 [S A x.length C, S f a.1.k_.length d] [_, _] 0 z bU z <| nT <| aY (rs := [.cell 2 27]) (vs := [.agg #[S A x.length C, S f a.1.k_.length d]]) z ⟨⟨_, [S A x.length C, S f a.1.k_.length d], _, _, _, z, bU, (bl (T := 27) 0 (bK (i := 0) z) z), z, z⟩, Y⟩ (fun w' hw' => by
   obtain rfl := ai H
   exact ⟨_, z, A, x.length, C, c3, f, a.1.k_.length, d, u, z, hw'.sel [4, 1, 3] z z⟩)
 ·refine sR <| oPP z <| nQ <| cI H z (fun H => ?_) (fun H => ?_)
  ·refine cW 6 [(0, y), (1, y), (2, y), (3, n), (4, n), (5, n)] (St w m [b Q 27 [S N 0 0, S N 0 0], W (af (cf) 63) t a.1.b_ [S g a.1.b_.length k], W (af (da) 9) u a.1.k_ [S f a.1.k_.length d], b R 27 [S g a.1.b_.length k, S f a.1.k_.length d], Res.nil]) bT (by kernel_rfl) (bF (aV be)) (sm [y, y, y, y, n] z) <| aa [.fa 27 1 1 fZ] z <| br z (ax z) (r1 1 3 z ja z) <| oP z <| bA (val := vS) (h1 := fun _ => z) [([110, 111] : List UInt8), ([111, 116, 104, 101, 114] : List UInt8), ([] : List UInt8)] [(0, [vS ([110, 111] : List UInt8)]), (1, [vS ([111, 116, 104, 101, 114] : List UInt8)]), (2, [vS ([] : List UInt8)])] z z z z z ek ty9 z z z ⟨z, z, nl z, z, z, nl z, z, z, nl z, Y⟩ z z (fun _ => (sm [y, y, y, y, n] z)) fun e2 => bE H fun P c4 H => aq z xU z z z z (fun l c => mQ l c4 (c.carve [4] z z) (rdB [4] z z c g_p0b) (rdO 5 [4] z c z z)) fun e3 l w2 c b1 => ?_
   obtain ⟨rfl, b2⟩ := b1
   refine ⟨St w m [_, _, _, _, _, _, _], c.comp [4] z z b2, (sm [y, y, y, y, n] z), ?_⟩
   exact bA (val := vS) (h1 := fun _ => z) [P.1] [(0, [vS P.1])] z z z z z ek ty9 z z z ⟨z, z, nl z, Y⟩ z z (fun _ => (sm [y, y, y, y, n] z)) fun e4 => aJ <| iY <| bE H fun D a4 H => bY (r := 2) (ys := ([P.1] : List (List UInt8))) z z z z z z ek ty9 z z z (fun l c => au (e := af (da) 9) (r := 7) z l c) a4 (fun _ _ _ => kp) fun E F c5 => cg z (fun l c => eD (i := 2) c z (eG a4)) fun c9 => aa [.fa 27 1 1 fZ] z <| sC 1 [S E D.length F] [_, _] 3 z ja z <| ay <| ca <| az <| sR <| o1 z (rx 0 3 _ z bU z) <| sC 0 [S g a.1.b_.length k, S E D.length F] [_, _] 0 z bU z <| nT <| aY (rs := [.cell 2 27]) (vs := [.agg #[S g a.1.b_.length k, S E D.length F]]) z ⟨⟨_, [S g a.1.b_.length k, S E D.length F], _, _, _, z, bU, (bl (T := 27) 0 (bK (i := 0) z) z), z, z⟩, Y⟩ (fun w' hw' => by
    obtain rfl := ai H
    exact ⟨_, z, g, a.1.b_.length, k, t, E, D.length, F, c5, z, hw'.sel [1, 2, 6] z z⟩)
  ·refine sR <| oPP z <| nQ <| cI H z (fun H => ?_) (fun H => ?_)
   ·exact aT <| bM (e := cf) z z z z iw dI (fun _ => kp) fun s => aa [.fa 27 0 0 dq] z <| sC 0 [S (U ⟨s, 0, N⟩) 0 0] [_, _] 3 z iH z <| ay <| ca <| az <| sR <| o1 z (rx 0 3 _ z bU z) <| sC 0 [S (U ⟨s, 0, N⟩) 0 0, S f a.1.k_.length d] [_, _] 0 z bU z <| nT <| aY (rs := [.cell 2 27]) (vs := [.agg #[S (U ⟨s, 0, N⟩) 0 0, S f a.1.k_.length d]]) z ⟨⟨_, [S (U ⟨s, 0, N⟩) 0 0, S f a.1.k_.length d], _, _, _, z, bU, (bl (T := 27) 0 (bK (i := 0) z) z), z, z⟩, Y⟩ (fun w' hw' => by
     obtain rfl := ai H
     exact ⟨_, z, (U ⟨s, 0, N⟩), 0, 0, [s], f, a.1.k_.length, d, u, z, hw'.sel [5, 2, 4] z z⟩)
   ·refine sR <| oPP z <| nQ <| cI H z (fun H => ?_) (fun H => ?_)
    ·exact aT <| aa [.fa 27 1 1 fZ] z <| o1 z (r1 1 3 z ja z) <| bE H fun G a5 H => sn (e := da) (xs := a.1.k_) z z z z ek ty9 z z z a5 (fun l c => au (e := af (da) 9) (r := 2) z l c) <| aa [.fa 27 1 1 fZ] z <| qB z (fun l c => St.trunc (i := 2) c z a5 z) fun c6 => eU (C' := St w m [_, _, _, _, _, _]) z (fun _ h => h) <| sC 1 [S (oS f d (0 : Int).toNat 1) G.length (d - (0 : Int).toNat)] [_, _] 3 z ja z <| ay <| ca <| az <| sR <| o1 z (rx 0 3 _ z bU z) <| sC 0 [S g a.1.b_.length k, S (oS f d (0 : Int).toNat 1) G.length (d - (0 : Int).toNat)] [_, _] 0 z bU z <| nT <| aY (rs := [.cell 2 27]) (vs := [.agg #[S g a.1.b_.length k, S (oS f d (0 : Int).toNat 1) G.length (d - (0 : Int).toNat)]]) z ⟨⟨_, [S g a.1.b_.length k, S (oS f d (0 : Int).toNat 1) G.length (d - (0 : Int).toNat)], _, _, _, z, bU, (bl (T := 27) 0 (bK (i := 0) z) z), z, z⟩, Y⟩ (fun w' hw' => by
      obtain rfl := ai H
      exact ⟨_, z, g, a.1.b_.length, k, t, (oS f d (0 : Int).toNat 1), G.length, (d - (0 : Int).toNat), c6, z, hw'.sel [1, 5, 4] z z⟩)
    ·exact aw <| ca <| az <| sR <| o1 z (rx 0 3 _ z bU z) <| sC 0 [S g a.1.b_.length k, S f a.1.k_.length d] [_, _] 0 z bU z <| nT <| aY (rs := [.cell 2 27]) (vs := [.agg #[S g a.1.b_.length k, S f a.1.k_.length d]]) z ⟨⟨_, [S g a.1.b_.length k, S f a.1.k_.length d], _, _, _, z, bU, (bl (T := 27) 0 (bK (i := 0) z) z), z, z⟩, Y⟩ (fun w' hw' => by
      obtain rfl := ai H
      exact ⟨_, z, g, a.1.b_.length, k, t, f, a.1.k_.length, d, u, z, hw'.sel [1, 2, 4] z z⟩)
theorem rl (w : World) {d : List Nat} {p0b : List Int} {p0 : ao} {b_0 : Nat} {a_p0b : Option Addr} {n_p0b c_p0b : Nat} {r : cA × ao} (H : kq p0b p0 = U r) (HS : St w d [b b_0 91 [S a_p0b p0b.length c_p0b, I J p0.i_, I J p0.h_]] w) (g_p0b : (af e8 5).rd w d p0b [S a_p0b n_p0b c_p0b]) :
    Calls Tryz.prog 95 #[O (U ⟨b_0, 0, N⟩)] w (fun en w' => ∃ v, en = .returned v ∧ v = .agg #[I J r.1.F_, I J r.1.G_, I J r.1.H_, I J r.1.m_, I J r.1.a_, I J r.1.D_, B r.1.E_] ∧ St w d [b b_0 91 [S a_p0b n_p0b c_p0b, I J r.2.i_, I J r.2.h_]] w') := by
 obtain rfl := ee g_p0b
 unfold kq at H
 refine aG Tryz.func95 z Tryz.ntmps95 z (HS) <| sR <| aC z z z z mY (fun _ => kp) fun a1 => nR <| oP z <| bA (val := I J) (h1 := fun _ => z) [1, 1, 2, 3, 9] [(0, [I J 1]), (1, [I J 1]), (2, [I J 2]), (3, [I J 3]), (4, [I J 9])] z z z z z aO ty3 z z z ⟨z, z, nl z, z, z, nl z, z, z, nl z, z, z, nl z, z, z, nl z, Y⟩ z z (fun _ => kp) fun a2 => bE H fun e M H => aq z jk z z z z (fun c a => aW c M (a.carve [0] z z) (rdB [0] z z a g_p0b) (rdO 2 [0] z a z z)) fun a3 c m a o => ?_
 obtain ⟨rfl, p⟩ := o
 refine ⟨St w d [_, _, _, _], a.comp [0] z z p, fun _ _ => Y, ?_⟩
 refine oP z <| bA (val := I J) (h1 := fun _ => z) [0, 50, 200, 500, 999] [(0, [I J 0]), (1, [I J 50]), (2, [I J 200]), (3, [I J 500]), (4, [I J 999])] z z z z z aO ty3 z z z ⟨z, z, nl z, z, z, nl z, z, z, nl z, z, z, nl z, z, z, nl z, Y⟩ z z (fun _ => kp) fun a4 => bE H fun f P H => aq z jk z z z z (fun c a => aW c P (a.carve [3] z z) (rdB [3] z z a g_p0b) (rdO 4 [3] z a z z)) fun a5 c m a q => ?_
 obtain ⟨rfl, s⟩ := q
 refine ⟨St w d [_, _, _, _, _, _], a.comp [3] z z s, fun _ _ => Y, ?_⟩
 refine oP z <| bA (val := I J) (h1 := fun _ => z) [1, 4, 10, 25, 200] [(0, [I J 1]), (1, [I J 4]), (2, [I J 10]), (3, [I J 25]), (4, [I J 200])] z z z z z aO ty3 z z z ⟨z, z, nl z, z, z, nl z, z, z, nl z, z, z, nl z, z, z, nl z, Y⟩ z z (fun _ => kp) fun a6 => bE H fun g Q H => aq z jk z z z z (fun c a => aW c Q (a.carve [5] z z) (rdB [5] z z a g_p0b) (rdO 6 [5] z a z z)) fun a7 c m a t => ?_
 obtain ⟨rfl, u⟩ := t
 refine ⟨St w d [_, _, _, _, _, _, _, _], a.comp [5] z z u, fun _ _ => Y, ?_⟩
 refine oP z <| bA (val := I J) (h1 := fun _ => z) [0, 1, 2, 4, 6, 6] [(0, [I J 0]), (1, [I J 1]), (2, [I J 2]), (3, [I J 4]), (4, [I J 6]), (5, [I J 6])] z z z z z aO ty3 z z z ⟨z, z, nl z, z, z, nl z, z, z, nl z, z, z, nl z, z, z, nl z, z, z, nl z, Y⟩ z z (fun _ => kp) fun a8 => bE H fun h R H => aq z jk z z z z (fun c a => aW c R (a.carve [7] z z) (rdB [7] z z a g_p0b) (rdO 8 [7] z a z z)) fun a9 c m a x => ?_
 obtain ⟨rfl, A⟩ := x
 refine ⟨St w d [_, _, _, _, _, _, _, _, _, _], a.comp [7] z z A, fun _ _ => Y, ?_⟩
 refine oP z <| bA (val := I J) (h1 := fun _ => z) [1, 3, 7, 15, 31, 31] [(0, [I J 1]), (1, [I J 3]), (2, [I J 7]), (3, [I J 15]), (4, [I J 31]), (5, [I J 31])] z z z z z aO ty3 z z z ⟨z, z, nl z, z, z, nl z, z, z, nl z, z, z, nl z, z, z, nl z, z, z, nl z, Y⟩ z z (fun _ => kp) fun b0 => bE H fun j X H => aq z jk z z z z (fun c a => aW c X (a.carve [9] z z) (rdB [9] z z a g_p0b) (rdO 10 [9] z a z z)) fun b1 c m a C => ?_
 obtain ⟨rfl, D⟩ := C
 refine ⟨St w d [_, _, _, _, _, _, _, _, _, _, _, _], a.comp [9] z z D, fun _ _ => Y, ?_⟩
 refine oP z <| bA (val := I J) (h1 := fun _ => z) [62, 63, 80, 100, 150, 2000] [(0, [I J 62]), (1, [I J 63]), (2, [I J 80]), (3, [I J 100]), (4, [I J 150]), (5, [I J 2000])] z z z z z aO ty3 z z z ⟨z, z, nl z, z, z, nl z, z, z, nl z, z, z, nl z, z, z, nl z, z, z, nl z, Y⟩ z z (fun _ => kp) fun b2 => bE H fun k Z H => aq z jk z z z z (fun c a => aW c Z (a.carve [11] z z) (rdB [11] z z a g_p0b) (rdO 12 [11] z a z z)) fun b3 c m a E => ?_
 obtain ⟨rfl, F⟩ := E
 refine ⟨St w d [_, _, _, _, _, _, _, _, _, _, _, _, _, _], a.comp [11] z z F, fun _ _ => Y, ?_⟩
 refine oP z <| bE H fun l a0 H => aq z uj z z z z (fun c a => fA c a0 (a.carve [13] z z) (rdB [13] z z a g_p0b)) fun b4 c m a G => ?_
 obtain ⟨rfl, L⟩ := G
 refine ⟨St w d [_, _, _, _, _, _, _, _, _, _, _, _, _, _, _], a.comp [13] z z L, fun _ _ => Y, ?_⟩
 exact o1 z (bI [(0, [I J e.1]), (1, [I J f.1]), (2, [I J g.1]), (3, [I J h.1]), (4, [I J j.1]), (5, [I J k.1]), (6, [B l.1])] [I J e.1, I J f.1, I J g.1, I J h.1, I J j.1, I J k.1, B l.1] z z mY Ch z ⟨z, z, nl z, z, z, nl z, z, z, nl z, z, z, nl z, z, z, nl z, z, z, nl z, z, z, nl z, Y⟩ z) <| sC 0 [I J e.1, I J f.1, I J g.1, I J h.1, I J j.1, I J k.1, B l.1] [_, _, _, _, _, _, _] 1 z mY z <| nT <| aY (rs := [.cell 2 130]) (vs := [.agg #[I J e.1, I J f.1, I J g.1, I J h.1, I J j.1, I J k.1, B l.1]]) z ⟨⟨_, [I J e.1, I J f.1, I J g.1, I J h.1, I J j.1, I J k.1, B l.1], _, _, _, z, mY, (bl (T := 130) 0 (bK (i := 1) z) z), z, z⟩, Y⟩ (fun w' hw' => by
  obtain rfl := ai H
  exact ⟨_, z, z, hw'.sel [14] z z⟩)
theorem mf (w : World) {m : List Nat} {p0b : List Int} {p0 : ao} {p1 : ae} {b_0 : Nat} {a_p0b : Option Addr} {n_p0b c_p0b : Nat} {s : List Value} {r : (List Int) × ao} (H : gi p0b p0 p1 = U r) (HS : St w m [b b_0 91 [S a_p0b p0b.length c_p0b, I J p0.i_, I J p0.h_]] w) (g_p0b : (af e8 5).rd w m p0b [S a_p0b n_p0b c_p0b]) (g1 : (aX).rd w m p1 s) :
    Calls Tryz.prog 98 #[O (U ⟨b_0, 0, N⟩), .agg s.toArray] w (fun en w' => ∃ v, en = .returned v ∧ ∃ (G : Option Addr), ∃ (L : Nat), ∃ (c0 : Nat), ∃ (F0 : List Nat), v = S G L c0 ∧ St w m [W (af eI 3) F0 r.1 [S G L c0], b b_0 91 [S a_p0b n_p0b c_p0b, I J r.2.i_, I J r.2.h_]] w') := by
 obtain rfl := ee g_p0b
 obtain ⟨a8, a9, rfl, M, P⟩ := aI g1
 obtain ⟨Q, R, rfl⟩ := am M
 obtain ⟨X, Z, rfl⟩ := am P
 unfold gi at H
 refine aG Tryz.func98 z Tryz.ntmps98 z (HS) <| sR <| ob _ z fun t => oP z <| nR <| bM (e := eI) z z z z aO ty3 (fun _ => kp) fun u => oP z <| nQ <| ak <| sR <| oP z <| nQ <| aB <| CW.at (uw (fun (j : Int) (k : Int) (a : List Int) (d : Option Addr) (f : Nat) (g : List Nat) (c : Int) => St w m [b b_0 91 [S a_p0b p0b.length c_p0b, I J j, I J k], b t 27 [S Q p1.b_.length R, S X p1.k_.length Z], W (af eI 3) g a [S d a.length f]]) (fun j k a d f g c => [(0, O (U ⟨b_0, 0, N⟩)), (3, O (U ⟨t, 0, N⟩)), (5, S d a.length f), (6, I J c)]) (fun kk => fun j k a d f g c => d.isNone = n ∧ cO p1 p0b kk j k a c = U r) (fun _ _ _ _ _ _ _ H => ?_) (fun k1 o j k a d f g c ⟨A, H⟩ => ?_) bh (p0.i_) (p0.h_) (([] : List Int)) ((U ⟨u, 0, N⟩)) (0) ([u]) (0) (⟨z, H⟩)) (ss [0, 1, 2] z z) (sb z)
 ·unfold cO at H
  exact absurd H (by simp)
 ·unfold cO at H
  refine ak <| sR <| aa [.p, .fa 27 0 0 dq] z <| o1 z (r1 0 1 z iH z) <| aa [.lenS 24 63 iw, .p] z <| nQ <| cI H z (fun H => ?_) (fun H => ?_)
  ·refine aw <| az <| ak <| aB <| sR <| oP z <| bE H fun l a1 H => aq z uj z z z z (fun C h => fA C a1 (h.carve [0] z z) (rdB [0] z z h g_p0b)) fun b0 C w2 h D => ?_
   obtain ⟨rfl, E⟩ := D
   refine ⟨St w m [_, _, _, _], h.comp [0] z z E, fun _ _ => Y, ?_⟩
   refine oP z <| nQ <| cI H z (fun H => ?_) (fun H => ?_)
   ·exact aT <| oPP z <| bA (val := I J) (h1 := fun _ => z) [c] [(0, [I J c])] z z z z z aO ty3 z z z ⟨z, z, nl z, Y⟩ z z (fun _ => kp) fun b1 => bE H fun a2 x H => bY (r := 2) (ys := ([c] : List Int)) z z z z z z aO ty3 z z z (au (e := af eI 3) (r := 4) z) x (fun _ _ _ => kp) fun a3 a4 a5 => cg z (fun C h => eD (i := 2) h z (eG x)) fun F => oP z <| ay <| ca <| az <| aT <| aa [.p, .p, .p] z <| ay <| cQ (RW.at (o (l.2.i_) (l.2.h_) (a2) (a3) (a4) (a5) (J.wrap (c + 1)) (⟨F, H⟩)) (ss [3, 1, 2] z z) (sb z))
   ·exact aw <| ca <| az <| aT <| aa [.p, .p, .p] z <| ay <| cQ (RW.at (o (l.2.i_) (l.2.h_) (a) (d) (f) (g) (J.wrap (c + 1)) (⟨A, H⟩)) (ss [3, 1, 2] z z) (sb z))
  ·refine bH <| aN <| aS <| aM <| az <| ak <| sR <| aa [.p, .lenS 31 3 aO, .p] z <| nQ <| cI H z (fun H => ?_) (fun H => ?_)
   ·exact sR <| bA (val := I J) (h1 := fun _ => z) [0] [(0, [I J 0])] z z z z z aO ty3 z z z ⟨z, z, nl z, Y⟩ z z (fun _ => kp) fun q => oP z <| nT <| ap <| aY (rs := [.tmp 4]) (vs := [S (U ⟨q, 0, N⟩) (([0] : List Int).length) 1]) z ⟨z, Y⟩ (fun w' hw' => by
     obtain rfl := ai H
     exact ⟨_, z, (U ⟨q, 0, N⟩), (([0] : List Int).length), 1, [q], z, hw'.sel [3, 0] z z⟩)
   ·exact aw <| az <| sR <| oPP z <| nT <| aY (rs := [.tmp 4]) (vs := [S d a.length f]) z ⟨z, Y⟩ (fun w' hw' => by
     obtain rfl := ai H
     exact ⟨_, z, d, a.length, f, g, z, hw'.sel [2, 0] z z⟩)
theorem bf (w : World) {p0 : Int} {p1 : Int} {p2 : Int} {r : Bool} (H : bj p0 p1 p2 = U r)   :
    Calls Tryz.prog 33 #[I J p0, I J p1, I J p2] w (fun en w' => en = .returned (B r) ∧ Ext [] w w') := by
 unfold bj at H
 refine aG Tryz.func33 z Tryz.ntmps33 z (St.init w []) <| sR <| oP z <| nR <| aa [.p, .p, .p, .p] z <| aQ [(14, B ((decide (p0 ≥ p1)) && (decide (p0 ≤ p2)))), (6, B n)] 4 ?_ (fun key => OW.sub (R := [(0, I J p0), (2, I J p2), (6, B n), (10, B (decide (p0 ≥ p1)))]) ?_ (sb z))
 ·exact oP z <| nT <| xr 6 z (by cases H; exact q1)
 ·generalize (decide (p0 ≥ p1)) = a at key ⊢
  cases a
  ·exact aa [.p, .p, .p, .p] z <| OW.sub key (sb z)
  ·exact aa [.p, .p, .p] z <| oP z <| OW.sub key (sb z)
theorem pb (w : World) {p0 : List UInt8} {r : Bool} (H : kE p0 = U r)   :
    Calls Tryz.prog 108 #[vS p0] w (fun en w' => en = .returned (B r) ∧ Ext [] w w') := by
 unfold kE at H
 refine aG Tryz.func108 z Tryz.ntmps108 z (St.init w []) <| sR <| oP z <| nQ <| ak <| sR <| aa [.p, .lenT 9 st9] z <| bE H fun l f H => oq z (qc z gK (fun k m => bf k f)) tt2 <| oP z <| nQ <| cI H z (fun H => ?_) (fun H => ?_)
 ·exact sR <| oP z <| nT <| ap <| xr 2 z (by cases H; exact q1)
 ·refine aw <| az <| ak <| sR <| oP z <| nQ <| aB <| CW.at (fL (fun (a : Int) => St w [] []) (fun a => [(0, vS p0), (3, I J a)]) (fun kk => fun a => gY p0 kk a = U r) (fun _ H => ?_) (fun q e a H => ?_) bh (0) (H)) (ss [] z z) (sb z)
  ·unfold gY at H
   exact absurd H (by simp)
  ·unfold gY at H
   refine ak <| sR <| aa [.p, .p, .lenT 9 st9, .p] z <| nQ <| cI H z (fun H => ?_) (fun H => ?_)
   ·refine aw <| az <| ak <| aB <| sR <| oPP z <| bE H fun d g H => o1 z (lO (s := p0) z z z st9 g) <| oPP z <| bE H fun h c H => aQ [(23, B h), (0, vS p0), (3, I J a)] 5 ?_ (fun key => OW.sub (R := [(0, vS p0), (3, I J a), (18, B (decide ((d.toNat : Int) < 97)))]) ?_ (sb z))
    ·refine nQ <| cI H z (fun H => ?_) (fun H => ?_)
     ·exact sR <| oP z <| nT <| aP <| ap <| bZ <| aP <| ap <| xr 2 z (by cases H; exact q1)
     ·exact aw <| ca <| az <| aT <| aa [.p, .p, .p] z <| ay <| cQ (RW.at (e (J.wrap (a + 1)) (H)) (ss [] z z) (sb z))
    ·clear H
     have H := c
     clear c
     generalize (decide ((d.toNat : Int) < 97)) = i at H key ⊢
     cases i
     ·have H := ba z H
      refine oPP z <| bE H fun o j H => o1 z (lO (s := p0) z z z st9 j) <| oP z <| oP z <| ?_
      obtain rfl := ai H
      exact OW.sub key (sb z)
     ·have H := bb z H
      refine aa [.p, .p, .p, .p, .p] z ?_
      obtain rfl := ai H
      exact OW.sub key (sb z)
   ·exact bH <| aN <| aS <| aM <| az <| sR <| oP z <| nT <| xr 2 z (by cases H; exact q1)
theorem oL (w : World) {p0 : List (List UInt8)} {a_0 : Option Addr} {n_0 c_0 : Nat} {r : Bool} (H : jP p0 = U r) (d : (af (da) 9).rd w [] p0 [S a_0 n_0 c_0]) :
    Calls Tryz.prog 67 #[S a_0 n_0 c_0] w (fun en w' => en = .returned (B r) ∧ Ext [] w w') := by
 obtain rfl := ee d
 unfold jP at H
 refine aG Tryz.func67 z Tryz.ntmps67 z (St.init w []) <| sR <| oP z <| nQ <| ak <| sR <| oP z <| nQ <| aB <| CW.at (fL (fun (a : Int) => St w [] []) (fun a => [(0, S a_0 p0.length c_0), (3, I J a)]) (fun kk => fun a => dN p0 kk a = U r) (fun _ H => ?_) (fun m i a H => ?_) bh (0) (H)) (ss [] z z) (sb z)
 ·unfold dN at H
  exact absurd H (by simp)
 ·unfold dN at H
  refine ak <| sR <| aa [.p, .p, .lenS 25 9 ek, .p] z <| nQ <| cI H z (fun H => ?_) (fun H => ?_)
  ·refine aw <| az <| ak <| aB <| ak <| sR <| oPP z <| bE H fun q f H => bq (e := da) (xs := p0) (j := a) z z z z z ek ty9 z (ab d) f (by rw [Nat.mul_one]) <| o1 z (aF z z ty9 (bC (ab d) f)) <| bE H fun s l H => oq z (qc z AL (fun o t => pb o l)) tt2 <| oP z <| nQ <| cI H z (fun H => ?_) (fun H => ?_)
   ·exact sR <| oP z <| nT <| ap <| aP <| ap <| bZ <| aP <| ap <| xr 2 z (by cases H; exact q1)
   ·refine aw <| az <| sR <| oP z <| nQ <| aB <| CW.at (fL (fun (c : Int) => St w [] []) (fun c => [(0, S a_0 p0.length c_0), (3, I J a), (4, I J c)]) (fun kk => fun c => eZ a p0 (dN p0 m) kk c = U r) (fun _ H => ?_) (fun x k c H => ?_) bh (0) (H)) (ss [] z z) (sb z)
    ·unfold eZ at H
     exact absurd H (by simp)
    ·unfold eZ at H
     refine ak <| sR <| aa [.p, .p, .p] z <| nQ <| cI H z (fun H => ?_) (fun H => ?_)
     ·refine aw <| az <| ak <| aB <| ak <| dJ bT (by kernel_rfl) <| oPP z <| bE H fun u g H => bq (e := da) (xs := p0) (j := a) z z z z z ek ty9 z (ab d) g (by rw [Nat.mul_one]) <| o1 z (aF z z ty9 (bC (ab d) g)) <| oPP z <| bE H fun v h H => bq (e := da) (xs := p0) (j := c) z z z z z ek ty9 z (ab d) h (by rw [Nat.mul_one]) <| o1 z (aF z z ty9 (bC (ab d) h)) <| oP z <| cx <| az <| cI H z (fun H => ?_) (fun H => ?_)
      ·exact sR <| oP z <| nT <| aP <| ap <| bZ <| aP <| aP <| ap <| bZ <| aP <| ap <| xr 2 z (by cases H; exact q1)
      ·exact aw <| ca <| az <| aT <| aa [.p, .p, .p] z <| ay <| cQ (RW.at (k (J.wrap (c + 1)) (H)) (ss [] z z) (sb z))
     ·exact bH <| aN <| aS <| aM <| ca <| az <| aT <| aa [.p, .p, .p] z <| ay <| cQ (RW.at (i (J.wrap (a + 1)) (H)) (ss [] z z) (sb z))
  ·exact bH <| aN <| aS <| aM <| az <| sR <| oP z <| nT <| xr 2 z (by cases H; exact q1)
theorem pi (w : World) {p0 : bi} {l : List Value} {r : Bool} (H : kM p0 = U r) (g0 : (cf).rd w [] p0 l) :
    Calls Tryz.prog 68 #[.agg l.toArray] w (fun en w' => en = .returned (B r) ∧ Ext [] w w') := by
 obtain ⟨a4, a5, a6, rfl, x, d, m⟩ := bW g0
 obtain rfl := x
 obtain ⟨A, C, rfl⟩ := am d
 obtain ⟨D, E, rfl⟩ := am m
 unfold kM at H
 refine aG Tryz.func68 z Tryz.ntmps68 z (St.init w []) <| sR <| ob _ z fun c => oP z <| nQ <| ak <| sR <| aa [.fa 63 0 0 oy] z <| o1 z (r1 0 0 z ty9 z) <| bE H fun a7 F H => oq z (qc z AL (fun f g => pb f F)) tt2 <| oP z <| nQ <| cI H z (fun H => ?_) (fun H => ?_)
 ·exact sR <| oP z <| nT <| ap <| xr 2 z (by cases H; exact q1)
 ·refine aw <| az <| ak <| sR <| aa [.fa 63 1 1 gx] z <| o1 z (r1 1 0 z cw z) <| aa [.lenS 31 3 aO, .p] z <| nQ <| cI H z (fun H => ?_) (fun H => ?_)
  ·refine sR <| aa [.fa 63 2 2 lu] z <| o1 z (r1 2 0 z ja z) <| aa [.lenS 25 9 ek] z <| bE H fun o G H => oq z (qc z gK (fun f g => bf f G)) tt2 <| oP z <| bE H fun L h H => aQ [(20, B L), (2, B n)] 4 ?_ (fun key => OW.sub (R := [(1, O (U ⟨c, 0, N⟩)), (2, B n), (16, B o)]) ?_ (sb z))
   ·exact oP z <| nT <| ap <| xr 2 z (by cases H; exact q1)
   ·clear H
    have H := h
    clear h
    generalize o = M at H key ⊢
    cases M
    ·have H := ba z H
     refine aa [.p, .p, .p, .p] z ?_
     obtain rfl := ai H
     exact OW.sub key (sb z)
    ·have H := bb z H
     refine aa [.fa 63 2 2 lu] z <| o1 z (r1 2 0 z ja z) <| bE H fun a8 P H => oq z (qc z Dc (fun f g => oL f P (ab m f g))) tt2 <| oP z <| ?_
     obtain rfl := ai H
     exact OW.sub key (sb z)
  ·refine aw <| az <| ak <| sR <| aa [.fa 63 2 2 lu] z <| o1 z (r1 2 0 z ja z) <| aa [.lenS 25 9 ek, .p, .p] z <| aQ [(30, B ((decide ((p0.y_.length : Int) > 0)) || (decide ((p0.t_.length : Int) > 3)))), (1, O (U ⟨c, 0, N⟩))] 5 ?_ (fun key => OW.sub (R := [(1, O (U ⟨c, 0, N⟩)), (25, B (decide ((p0.y_.length : Int) > 0)))]) ?_ (sb z))
   ·refine nQ <| cI H z (fun H => ?_) (fun H => ?_)
    ·exact sR <| oP z <| nT <| ap <| xr 2 z (by cases H; exact q1)
    ·refine aw <| az <| ak <| sR <| oP z <| nQ <| aB <| CW.at (fL (fun (a : Int) => St w [] [b c 63 [vS p0.x_, S A p0.t_.length C, S D p0.y_.length E]]) (fun a => [(1, O (U ⟨c, 0, N⟩)), (3, I J a)]) (fun kk => fun a => gd p0 kk a = U r) (fun _ H => ?_) (fun k1 v a H => ?_) bh (0) (H)) (ss [0] z z) (sb z)
     ·unfold gd at H
      exact absurd H (by simp)
     ·unfold gd at H
      refine ak <| sR <| aa [.p, .fa 63 1 1 gx] z <| o1 z (r1 1 0 z cw z) <| aa [.lenS 31 3 aO, .p] z <| nQ <| cI H z (fun H => ?_) (fun H => ?_)
      ·refine aw <| az <| ak <| aB <| ak <| dJ bT (by kernel_rfl) <| aa [.fa 63 1 1 gx] z <| o1 z (r1 1 0 z cw z) <| oP z <| bE H fun a9 q H => bq (e := eI) (xs := p0.t_) (j := a) z z z z z aO ty3 z (ab d) q (by rw [Nat.mul_one]) <| o1 z (aF z z ty3 (bC (ab d) q)) <| bE H fun s Q H => oq z (qc z gK (fun f g => bf f Q)) tt2 <| oPP z <| bE H fun X i H => aQ [(62, B X), (1, O (U ⟨c, 0, N⟩)), (3, I J a)] 17 ?_ (fun key => OW.sub (R := [(1, O (U ⟨c, 0, N⟩)), (3, I J a), (45, B (!s))]) ?_ (sb z))
       ·refine cx <| az <| cI H z (fun H => ?_) (fun H => ?_)
        ·exact sR <| oP z <| nT <| aP <| ap <| bZ <| aP <| ap <| xr 2 z (by cases H; exact q1)
        ·exact aw <| ca <| az <| aT <| aa [.p, .p, .p] z <| ay <| cQ (RW.at (v (J.wrap (a + 1)) (H)) (ss [0] z z) (sb z))
       ·clear H
        have H := i
        clear i
        generalize (!s) = Z at H key ⊢
        cases Z
        ·have H := ba z H
         refine aa [.p, .p, .p] z <| bE H fun a0 k H => aQ [(61, B a0), (1, O (U ⟨c, 0, N⟩)), (3, I J a), (45, B n)] 13 ?_ (fun key => OW.sub (R := [(1, O (U ⟨c, 0, N⟩)), (3, I J a), (45, B n), (48, B (decide (a > 0)))]) ?_ (sb z))
         ·refine aa [.p] z ?_
          obtain rfl := ai H
          exact OW.sub key (sb z)
         ·clear H
          have H := k
          clear k
          generalize (decide (a > 0)) = a1 at H key ⊢
          cases a1
          ·have H := ba z H
           refine aa [.p, .p, .p, .p, .p, .p, .p, .p, .p, .p, .p, .p, .p] z ?_
           obtain rfl := ai H
           exact OW.sub key (sb z)
          ·have H := bb z H
           refine aa [.fa 63 1 1 gx] z <| o1 z (r1 1 0 z cw z) <| oP z <| bE H fun b0 t H => bq (e := eI) (xs := p0.t_) (j := a) z z z z z aO ty3 z (ab d) t (by rw [Nat.mul_one]) <| o1 z (aF z z ty3 (bC (ab d) t)) <| aa [.fa 63 1 1 gx] z <| o1 z (r1 1 0 z cw z) <| oPP z <| bE H fun b1 u H => bq (e := eI) (xs := p0.t_) (j := J.wrap (a - 1)) z z z z z aO ty3 z (ab d) u (by rw [Nat.mul_one]) <| o1 z (aF z z ty3 (bC (ab d) u)) <| oP z <| oP z <| ?_
           obtain rfl := ai H
           exact OW.sub key (sb z)
        ·have H := bb z H
         refine aa [.p, .p, .p, .p, .p, .p, .p, .p, .p, .p, .p, .p, .p, .p, .p, .p, .p] z ?_
         obtain rfl := ai H
         exact OW.sub key (sb z)
      ·exact bH <| aN <| aS <| aM <| az <| sR <| oP z <| nT <| xr 2 z (by cases H; exact q1)
   ·generalize (decide ((p0.y_.length : Int) > 0)) = a2 at key ⊢
    cases a2
    ·exact aa [.fa 63 1 1 gx] z <| o1 z (r1 1 0 z cw z) <| aa [.lenS 31 3 aO, .p] z <| oP z <| OW.sub key (sb z)
    ·exact aa [.p, .p, .p, .p, .p] z <| OW.sub key (sb z)
theorem gN (w : World) {p0 : ae} {x : List Value} {r : Bool} (H : ft p0 = U r) (g0 : (aX).rd w [] p0 x) :
    Calls Tryz.prog 32 #[.agg x.toArray] w (fun en w' => en = .returned (B r) ∧ Ext [] w w') := by
 obtain ⟨e5, e6, rfl, h, A⟩ := aI g0
 obtain ⟨C, D, rfl⟩ := am h
 obtain ⟨E, F, rfl⟩ := am A
 unfold ft at H
 refine aG Tryz.func32 z Tryz.ntmps32 z (St.init w []) <| sR <| ob _ z fun d => oP z <| nQ <| ak <| sR <| aa [.fa 27 0 0 dq] z <| o1 z (r1 0 0 z iH z) <| aa [.lenS 24 63 iw] z <| bE H fun G b1 H => oq z (qc z gK (fun e f => bf e b1)) tt2 <| oPP z <| bE H fun i j H => aQ [(16, B i), (1, O (U ⟨d, 0, N⟩))] 6 ?_ (fun key => OW.sub (R := [(1, O (U ⟨d, 0, N⟩)), (10, B (!G))]) ?_ (sb z))
 ·refine oP z <| bE H fun b2 k H => aQ [(22, B b2), (1, O (U ⟨d, 0, N⟩))] 5 ?_ (fun key => OW.sub (R := [(1, O (U ⟨d, 0, N⟩)), (17, B i)]) ?_ (sb z))
  ·refine nQ <| cI H z (fun H => ?_) (fun H => ?_)
   ·exact sR <| oP z <| nT <| ap <| xr 2 z (by cases H; exact q1)
   ·refine aw <| az <| ak <| sR <| oP z <| nQ <| aB <| CW.at (fL (fun (a : Int) => St w [] [b d 27 [S C p0.b_.length D, S E p0.k_.length F]]) (fun a => [(1, O (U ⟨d, 0, N⟩)), (3, I J a)]) (fun kk => fun a => dl p0 kk a = U r) (fun _ H => ?_) (fun k1 L a H => ?_) bh (0) (H)) (ss [0] z z) (sb z)
    ·unfold dl at H
     exact absurd H (by simp)
    ·unfold dl at H
     refine ak <| sR <| aa [.p, .fa 27 0 0 dq] z <| o1 z (r1 0 0 z iH z) <| aa [.lenS 24 63 iw, .p] z <| nQ <| cI H z (fun H => ?_) (fun H => ?_)
     ·refine aw <| az <| ak <| aB <| ak <| sR <| aa [.fa 27 0 0 dq] z <| o1 z (r1 0 0 z iH z) <| oP z <| bE H fun g M H => cB z z z z z iw dI z h M fun b9 c0 o q => ?_
      obtain ⟨c1, c2, c3, rfl, P, l, m⟩ := bW o
      obtain rfl := P
      obtain ⟨Q, X, rfl⟩ := am l
      obtain ⟨Z, a0, rfl⟩ := am m
      refine o1 z (cV (cs := [vS g.x_, S Q g.t_.length X, S Z g.y_.length a0]) z z dI (co bor q) z) <| bE H fun c4 a1 H => oq z (qc z De (fun e f => pi e a1 (dd z (ab l e f) (ab m e f)))) tt2 <| oP z <| nQ <| cI H z (fun H => ?_) (fun H => ?_)
      ·exact sR <| oP z <| nT <| ap <| aP <| ap <| bZ <| aP <| ap <| xr 2 z (by cases H; exact q1)
      ·refine aw <| az <| sR <| oP z <| nQ <| aB <| CW.at (fL (fun (c : Int) => St w [] [b d 27 [S C p0.b_.length D, S E p0.k_.length F]]) (fun c => [(1, O (U ⟨d, 0, N⟩)), (3, I J a), (4, I J c)]) (fun kk => fun c => eH a p0 (dl p0 k1) kk c = U r) (fun _ H => ?_) (fun k2 a2 c H => ?_) bh (0) (H)) (ss [0] z z) (sb z)
       ·unfold eH at H
        exact absurd H (by simp)
       ·unfold eH at H
        refine ak <| sR <| aa [.p, .p, .p] z <| nQ <| cI H z (fun H => ?_) (fun H => ?_)
        ·refine aw <| az <| ak <| aB <| ak <| dJ bT (by kernel_rfl) <| aa [.fa 27 0 0 dq] z <| o1 z (r1 0 0 z iH z) <| oP z <| bE H fun c5 a3 H => cB z z z z z iw dI z h a3 fun c6 c7 s t => ?_
         obtain ⟨c8, c9, d0, rfl, a4, a5, a6⟩ := bW s
         obtain rfl := a4
         obtain ⟨d1, d2, rfl⟩ := am a5
         obtain ⟨d3, d4, rfl⟩ := am a6
         refine aa [.fa 63 0 0 oy] z <| o1 z (aF z z ty9 (co bor (lk t 0 1))) <| aa [.fa 27 0 0 dq] z <| o1 z (r1 0 0 z iH z) <| oP z <| bE H fun d5 a7 H => cB z z z z z iw dI z h a7 fun d6 d7 u v => ?_
         obtain ⟨d8, d9, e0, rfl, a8, a9, b0⟩ := bW u
         obtain rfl := a8
         obtain ⟨e1, e2, rfl⟩ := am a9
         obtain ⟨e3, e4, rfl⟩ := am b0
         refine aa [.fa 63 0 0 oy] z <| o1 z (aF z z ty9 (co bor (lk v 0 1))) <| oP z <| cx <| az <| cI H z (fun H => ?_) (fun H => ?_)
         ·exact sR <| oP z <| nT <| aP <| ap <| bZ <| aP <| aP <| ap <| bZ <| aP <| ap <| xr 2 z (by cases H; exact q1)
         ·exact aw <| ca <| az <| aT <| aa [.p, .p, .p] z <| ay <| cQ (RW.at (a2 (J.wrap (c + 1)) (H)) (ss [0] z z) (sb z))
        ·exact bH <| aN <| aS <| aM <| ca <| az <| aT <| aa [.p, .p, .p] z <| ay <| cQ (RW.at (L (J.wrap (a + 1)) (H)) (ss [0] z z) (sb z))
     ·exact bH <| aN <| aS <| aM <| az <| sR <| oP z <| nT <| xr 2 z (by cases H; exact q1)
  ·clear H
   have H := k
   clear k
   generalize i = b3 at H key ⊢
   cases b3
   ·have H := ba z H
    refine aa [.fa 27 1 1 fZ] z <| o1 z (r1 1 0 z ja z) <| bE H fun e7 b4 H => oq z (qc z Dc (fun e f => oL e b4 (ab A e f))) tt2 <| oP z <| oP z <| ?_
    obtain rfl := ai H
    exact OW.sub key (sb z)
   ·have H := bb z H
    refine aa [.p, .p, .p, .p, .p] z ?_
    obtain rfl := ai H
    exact OW.sub key (sb z)
 ·clear H
  have H := j
  clear j
  generalize (!G) = b5 at H key ⊢
  cases b5
  ·have H := ba z H
   refine aa [.fa 27 1 1 fZ] z <| o1 z (r1 1 0 z ja z) <| aa [.lenS 25 9 ek] z <| bE H fun e9 b6 H => oq z (qc z gK (fun e f => bf e b6)) tt2 <| oP z <| oP z <| ?_
   obtain rfl := ai H
   exact OW.sub key (sb z)
  ·have H := bb z H
   refine aa [.p, .p, .p, .p, .p, .p] z ?_
   obtain rfl := ai H
   exact OW.sub key (sb z)
theorem im (w : World) {p0 : ae} {p1 : List Int} {l : List Value} {a_1 : Option Addr} {n_1 c_1 : Nat} {r : Bool} (H : fV p0 p1 = U r) (X : (aX).rd w [] p0 l) (d : (af eI 3).rd w [] p1 [S a_1 n_1 c_1]) :
    Calls Tryz.prog 70 #[.agg l.toArray, S a_1 n_1 c_1] w (fun en w' => en = .returned (B r) ∧ Ext [] w w') := by
 obtain ⟨Z, a0, rfl, m, o⟩ := aI X
 obtain ⟨x, A, rfl⟩ := am m
 obtain ⟨C, D, rfl⟩ := am o
 obtain rfl := ee d
 unfold fV at H
 refine aG Tryz.func70 z Tryz.ntmps70 z (St.init w []) <| sR <| ob _ z fun c => oP z <| nQ <| ak <| sR <| o1 z (rx 0 0 _ z bU z) <| bE H fun f E H => oq z (qc z xK (fun g h => gN g E (ah (ab m g h) (ab o g h)))) tt2 <| oPP z <| aQ [(13, B ((!f) || ((p1.length : Int) == 0))), (1, S a_1 p1.length c_1), (2, O (U ⟨c, 0, N⟩))] 4 ?_ (fun key => OW.sub (R := [(1, S a_1 p1.length c_1), (2, O (U ⟨c, 0, N⟩)), (9, B (!f))]) ?_ (sb z))
 ·refine nQ <| cI H z (fun H => ?_) (fun H => ?_)
  ·exact sR <| oP z <| nT <| ap <| xr 4 z (by cases H; exact q1)
  ·refine aw <| az <| ak <| sR <| oP z <| nQ <| aB <| CW.at (fL (fun (a : Int) => St w [] [b c 27 [S x p0.b_.length A, S C p0.k_.length D]]) (fun a => [(1, S a_1 p1.length c_1), (2, O (U ⟨c, 0, N⟩)), (5, I J a)]) (fun kk => fun a => gj p1 p0 kk a = U r) (fun _ H => ?_) (fun k1 v a H => ?_) bh (0) (H)) (ss [0] z z) (sb z)
   ·unfold gj at H
    exact absurd H (by simp)
   ·unfold gj at H
    refine ak <| sR <| aa [.p, .p, .lenS 31 3 aO, .p] z <| nQ <| cI H z (fun H => ?_) (fun H => ?_)
    ·refine aw <| az <| ak <| aB <| ak <| dJ bT (by kernel_rfl) <| oPP z <| bE H fun a1 q H => bq (e := eI) (xs := p1) (j := a) z z z z z aO ty3 z (ab d) q (by rw [Nat.mul_one]) <| o1 z (aF z z ty3 (bC (ab d) q)) <| aa [.fa 27 0 0 dq] z <| o1 z (r1 0 0 z iH z) <| aa [.lenS 24 63 iw, .p] z <| bE H fun s F H => oq z (qc z gK (fun g h => bf g F)) tt2 <| oPP z <| bE H fun G i H => aQ [(45, B G), (1, S a_1 p1.length c_1), (2, O (U ⟨c, 0, N⟩)), (5, I J a)] 15 ?_ (fun key => OW.sub (R := [(1, S a_1 p1.length c_1), (2, O (U ⟨c, 0, N⟩)), (5, I J a), (30, B (!s))]) ?_ (sb z))
     ·refine cx <| az <| cI H z (fun H => ?_) (fun H => ?_)
      ·exact sR <| oP z <| nT <| aP <| ap <| bZ <| aP <| ap <| xr 4 z (by cases H; exact q1)
      ·exact aw <| ca <| az <| aT <| aa [.p, .p, .p] z <| ay <| cQ (RW.at (v (J.wrap (a + 1)) (H)) (ss [0] z z) (sb z))
     ·clear H
      have H := i
      clear i
      generalize (!s) = L at H key ⊢
      cases L
      ·have H := ba z H
       refine aa [.p, .p, .p] z <| bE H fun M k H => aQ [(44, B M), (1, S a_1 p1.length c_1), (2, O (U ⟨c, 0, N⟩)), (5, I J a), (30, B n)] 11 ?_ (fun key => OW.sub (R := [(1, S a_1 p1.length c_1), (2, O (U ⟨c, 0, N⟩)), (5, I J a), (30, B n), (33, B (decide (a > 0)))]) ?_ (sb z))
       ·refine aa [.p] z ?_
        obtain rfl := ai H
        exact OW.sub key (sb z)
       ·clear H
        have H := k
        clear k
        generalize (decide (a > 0)) = P at H key ⊢
        cases P
        ·have H := ba z H
         refine aa [.p, .p, .p, .p, .p, .p, .p, .p, .p, .p, .p] z ?_
         obtain rfl := ai H
         exact OW.sub key (sb z)
        ·have H := bb z H
         refine oPP z <| bE H fun a2 t H => bq (e := eI) (xs := p1) (j := a) z z z z z aO ty3 z (ab d) t (by rw [Nat.mul_one]) <| o1 z (aF z z ty3 (bC (ab d) t)) <| aa [.p, .p, .p] z <| bE H fun a3 u H => bq (e := eI) (xs := p1) (j := J.wrap (a - 1)) z z z z z aO ty3 z (ab d) u (by rw [Nat.mul_one]) <| o1 z (aF z z ty3 (bC (ab d) u)) <| oP z <| oP z <| ?_
         obtain rfl := ai H
         exact OW.sub key (sb z)
      ·have H := bb z H
       refine aa [.p, .p, .p, .p, .p, .p, .p, .p, .p, .p, .p, .p, .p, .p, .p] z ?_
       obtain rfl := ai H
       exact OW.sub key (sb z)
    ·exact bH <| aN <| aS <| aM <| az <| sR <| oP z <| nT <| xr 4 z (by cases H; exact q1)
 ·generalize (!f) = Q at key ⊢
  cases Q
  ·exact aa [.p, .lenS 31 3 aO, .p] z <| oP z <| OW.sub key (sb z)
  ·exact aa [.p, .p, .p, .p] z <| OW.sub key (sb z)
theorem gw (w : World) {p0 : bi} {a : List Value} {r : Int} (H : fE p0 = U r) (i : (cf).rd w [] p0 a) :
    Calls Tryz.prog 44 #[.agg a.toArray] w (fun en w' => en = .returned (I J r) ∧ Ext [] w w') := by
 obtain ⟨j, k, l, rfl, g, c, d⟩ := bW i
 obtain rfl := g
 obtain ⟨m, o, rfl⟩ := am c
 obtain ⟨q, s, rfl⟩ := am d
 unfold fE at H
 refine aG Tryz.func44 z Tryz.ntmps44 z (St.init w []) <| sR <| ob _ z fun t => oP z <| nQ <| ak <| sR <| o1 z (rx 0 0 _ z dI z) <| bE H fun u h H => oq z (qc z De (fun f e => pi f h (dd z (ab c f e) (ab d f e)))) tt2 <| oP z <| nQ <| cI H z (fun H => ?_) (fun H => ?_)
 ·exact sR <| oP z <| nT <| ap <| xr 2 z (by cases H; exact q1)
 ·refine aw <| az <| ak <| sR <| aa [.fa 63 1 1 gx] z <| o1 z (r1 1 0 z cw z) <| aa [.lenS 31 3 aO, .p] z <| nQ <| cI H z (fun H => ?_) (fun H => ?_)
  ·exact sR <| aa [.fa 63 1 1 gx] z <| o1 z (r1 1 0 z cw z) <| aa [.lenS 31 3 aO, .p, .p] z <| nT <| ap <| xr 2 z (by cases H; exact q1)
  ·exact aw <| az <| sR <| aa [.fa 63 2 2 lu] z <| o1 z (r1 2 0 z ja z) <| aa [.lenS 25 9 ek, .p] z <| nT <| xr 2 z (by cases H; exact q1)
theorem jZ (w : World) {u : List Nat} {p0 : ae} {X : List Value} {r : av} (H : fT p0 = U r) (HS : St w u [] w) (g0 : (aX).rd w u p0 X) :
    Calls Tryz.prog 126 #[.agg X.toArray] w (fun en w' => ∃ v, en = .returned v ∧ ∃ (a0 : Option Addr), ∃ (n0 : Nat), ∃ (c0 : Nat), ∃ (F0 : List Nat), ∃ (a1 : Option Addr), ∃ (n1 : Nat), ∃ (c1 : Nat), ∃ (F1 : List Nat), v = .agg #[S a0 n0 c0, S a1 n1 c1] ∧ St w u [W (af eI 3) F0 r.e_ [S a0 n0 c0], W (af (af eI 3) 31) F1 r.d_ [S a1 n1 c1]] w') := by
 obtain ⟨d5, d6, rfl, x, Z⟩ := aI g0
 obtain ⟨a2, a3, rfl⟩ := am x
 obtain ⟨a4, a5, rfl⟩ := am Z
 unfold fT at H
 refine aG Tryz.func126 z Tryz.ntmps126 z (HS) <| sR <| ob _ z fun A => aC z z z z cP (fun _ => kp) fun C => nQ <| ak <| sR <| o1 z (rx 0 0 _ z bU z) <| bE H fun d7 c3 H => oq z (qc z xK (fun s o => gN s c3 (ah (ab x s o) (ab Z s o)))) tt2 <| oP z <| nQ <| cI H z (fun H => ?_) (fun H => ?_)
 ·exact sR <| o1 z (bI [] [S N 0 0, S N 0 0] z z cP zH z Y z) <| sC 0 [S N 0 0, S N 0 0] [_, _] 1 z cP z <| nT <| ap <| fo (fun _ h => St.pushNil (e := eI) (T := 3) h) <| fo (fun _ h => St.pushNil (e := af eI 3) (T := 31) h) <| aY (rs := [.cell 2 69]) (vs := [.agg #[S N 0 0, S N 0 0]]) z ⟨⟨_, [S N 0 0, S N 0 0], _, _, _, z, cP, (bl (T := 69) 0 (bK (i := 1) z) z), z, z⟩, Y⟩ (fun w' hw' => by
   obtain rfl := ai H
   exact ⟨_, z, N, 0, 0, [], N, 0, 0, [], z, hw'.sel [2, 3] z z⟩)
 ·refine aw <| az <| sR <| aa [.fa 27 1 1 fZ] z <| o1 z (r1 1 0 z ja z) <| aa [.lenS 25 9 ek] z <| bE H fun a c4 H => pG (e := eI) (zero := (0 : Int)) z z z z z z aO ty3 z z z z (fun _ => ⟨z, z⟩) c4 (fun _ => kp) fun c => o1 z (bI [(0, [S (U ⟨c, 0, N⟩) a.length a.length])] [S (U ⟨c, 0, N⟩) a.length a.length, S N 0 0] z z cP zH z ⟨z, z, nl z, Y⟩ z) <| aC z z z z cP (fun _ => kp) fun D => sC 0 [S (U ⟨c, 0, N⟩) a.length a.length, S N 0 0] [_, _] 3 z cP z <| nQ <| ak <| sR <| oP z <| nQ <| aB <| CW.weak ?_ (fun _ h => St.pushNil (e := af eI 3) (T := 31) h)
  refine CW.at (iz (fun (d : List (List Int)) (f : Option Addr) (g : Nat) (k : List Nat) (l : Int) => St w u [b A 27 [S a2 p0.b_.length a3, S a4 p0.k_.length a5], b C 69 [S N 0 0, S N 0 0], b D 69 [S (U ⟨c, 0, N⟩) a.length a.length, S f d.length g], W (af eI 3) [c] a [S (U ⟨c, 0, N⟩) a.length a.length], W (af (af eI 3) 31) k d [S f d.length g]]) (fun d f g k l => [(1, O (U ⟨A, 0, N⟩)), (2, O (U ⟨C, 0, N⟩)), (3, O (U ⟨D, 0, N⟩)), (4, I J l)]) (fun kk => fun d f g k l => fg p0 a kk d l = U r) (fun _ _ _ _ _ H => ?_) (fun k1 a6 d f g k l H => ?_) bh (([] : List (List Int))) (N) (0) ([]) (0) (H)) (ss [0, 1, 3, 2, 4] z z) (sb z)
  ·unfold fg at H
   exact absurd H (by simp)
  ·unfold fg at H
   refine ak <| sR <| aa [.p, .fa 27 0 0 dq] z <| o1 z (r1 0 0 z iH z) <| aa [.lenS 24 63 iw, .p] z <| nQ <| cI H z (fun H => ?_) (fun H => ?_)
   ·refine aw <| az <| ak <| aB <| cW 14 [(0, y), (1, y), (2, y), (3, y), (4, y), (5, y), (6, y), (8, y), (9, y), (10, y), (7, n), (11, y), (12, n), (13, n)] (St w u [b A 27 [S a2 p0.b_.length a3, S a4 p0.k_.length a5], b C 69 [S N 0 0, S N 0 0], b D 69 [S (U ⟨c, 0, N⟩) a.length a.length, S f d.length g], W (af eI 3) [c] a [S (U ⟨c, 0, N⟩) a.length a.length], W (af (af eI 3) 31) k d [S f d.length g]]) bT (by kernel_rfl) (bF (aV (fe (bF (aV be))))) (tk 5 z) <| aa [.fa 69 1 1 dL] z <| br z (ax z) (r1 1 2 z jm z) <| aa [.fa 27 0 0 dq] z <| br z (ax z) (r1 0 0 z iH z) <| oP z <| bE H fun t a7 H => cB z z z z z iw dI z x a7 fun c8 c9 Q R => ?_
    obtain ⟨d0, d1, d2, rfl, a8, E, F⟩ := bW Q
    obtain rfl := a8
    obtain ⟨a9, b0, rfl⟩ := am E
    obtain ⟨b1, b2, rfl⟩ := am F
    refine br z (ax z) (cV (cs := [vS t.x_, S a9 t.t_.length b0, S b1 t.y_.length b2]) z z dI (co (fun _ h => h.ext) R) z) <| aa [.fa 27 1 1 fZ] z <| br z (ax z) (r1 1 0 z ja z) <| aa [.lenS 25 9 ek] z <| bE H fun d3 b3 H => oq z (qc z uy (fun s o => gw s b3 (dd z (ab E s o) (ab F s o)))) (tk 5 z) <| oP z <| bE H fun m b4 H => pG (e := eI) (zero := (0 : Int)) z z z z z z aO ty3 z z z z (fun _ => ⟨z, z⟩) b4 (fun _ => (tk 5 z)) fun G => il [(0, [S (U ⟨G, 0, N⟩) m.length m.length])] z z z z z gL cw z z ⟨z, z, nl z, Y⟩ [S (U ⟨G, 0, N⟩) m.length m.length] z (fun _ => (tk 5 z)) fun d4 => eU z (fun _ h => tz (p := 6) (q := 5) h z z z) <| aJ <| iY <| bE H fun L b5 H => mz (r := 4) (j := 7) z z z z z z gL cw z z z z z z z b5 (fun _ _ _ => kp) fun M P b6 => aa [.fa 69 1 1 dL] z <| sC 1 [S M L.length P] [_, _] 2 z jm z <| ay <| ca <| az <| CW.weak (C' := St w u [_, _, _, _, _]) ?_ (ss [0, 1, 2, 3, 8] z z)
    exact aT <| aa [.p, .p, .p] z <| ay <| cQ (RW.at (a6 (L) (M) (P) (b6) (J.wrap (l + 1)) (H)) (ss [0, 1, 2, 3, 4] z z) (sb z))
   ·exact bH <| aN <| aS <| aM <| az <| sR <| o1 z (rx 0 2 _ z cP z) <| sC 0 [S (U ⟨c, 0, N⟩) a.length a.length, S f d.length g] [_, _] 1 z cP z <| nT <| aY (rs := [.cell 2 69]) (vs := [.agg #[S (U ⟨c, 0, N⟩) a.length a.length, S f d.length g]]) z ⟨⟨_, [S (U ⟨c, 0, N⟩) a.length a.length, S f d.length g], _, _, _, z, cP, (bl (T := 69) 0 (bK (i := 1) z) z), z, z⟩, Y⟩ (fun w' hw' => by
     obtain rfl := ai H
     exact ⟨_, z, (U ⟨c, 0, N⟩), a.length, a.length, [c], f, d.length, g, k, z, hw'.sel [3, 4] z z⟩)
theorem rN (w : World) {u : List Nat} {p0 : ae} {p1 : List Int} {C : List Value} {a_1 : Option Addr} {n_1 c_1 : Nat} {r : aj} (H : kZ p0 p1 = U r) (HS : St w u [] w) (R : (aX).rd w u p0 C) (D : (af eI 3).rd w u p1 [S a_1 n_1 c_1]) :
    Calls Tryz.prog 124 #[.agg C.toArray, S a_1 n_1 c_1] w (fun en w' => ∃ v, en = .returned v ∧ ∃ (F : Option Addr), ∃ (G : Nat), ∃ (c0 : Nat), ∃ (X : List Nat), v = .agg #[S F G c0, I J r.j_] ∧ St w u [W (af (aD) 71) X r.a_ [S F G c0]] w') := by
 obtain ⟨Z, a1, rfl, x, A⟩ := aI R
 obtain ⟨a2, a3, rfl⟩ := am x
 obtain ⟨a4, a5, rfl⟩ := am A
 obtain rfl := ee D
 unfold kZ at H
 refine aG Tryz.func124 z Tryz.ntmps124 z (HS) <| sR <| ob _ z fun a6 => aC z z z z bv (fun _ => kp) fun a7 => nQ <| ak <| sR <| o1 z (rx 0 0 _ z bU z) <| oP z <| bE H fun a8 L H => oq z (qc z xE (fun f a => im f L (ah (ab x f a) (ab A f a)) (ab D f a))) tt2 <| oP z <| nQ <| cI H z (fun H => ?_) (fun H => ?_)
 ·exact sR <| o1 z (bI [] [S N 0 0, I J 0] z z bv BM z Y z) <| sC 0 [S N 0 0, I J 0] [_, _] 1 z bv z <| nT <| ap <| fo (fun _ h => St.pushNil (e := aD) (T := 71) h) <| aY (rs := [.cell 4 30]) (vs := [.agg #[S N 0 0, I J 0]]) z ⟨⟨_, [S N 0 0, I J 0], _, _, _, z, bv, (bl (T := 30) 0 (bK (i := 1) z) z), z, z⟩, Y⟩ (fun w' hw' => by
   obtain rfl := ai H
   exact ⟨_, z, N, 0, 0, [], z, hw'.sel [2] z z⟩)
 ·refine aw <| az <| sR <| o1 z (rx 0 0 _ z bU z) <| bE H fun c M H => aq z wR z z z z (fun f a => jZ f M (a.carve [] z z) (ah (ab x f a) (ab A f a))) fun a9 f w2 a E => ?_
  obtain ⟨j, b0, k, b1, l, b2, m, b3, rfl, g⟩ := E
  obtain rfl := aH (i := 0) g z
  obtain rfl := aH (i := 1) g z
  refine ⟨St w u [_, _, _, _], a.comp [] z z g, fun _ _ => Y, ?_⟩
  exact bM (e := eI) z z z z aO ty3 (fun _ => kp) fun b4 => oP z <| bE H fun o P H => bY (r := 4) (ys := p1) z z z z z z aO ty3 z z z (ab D) P (fun _ _ _ => kp) fun s t b5 => o1 z (bI [(0, [B y]), (5, [S j c.e_.length k, S l c.d_.length m]), (8, [S s o.length t]), (10, [I J (-1)])] [B y, I J 0, I J 0, S N 0 0, I J 0, S j c.e_.length k, S l c.d_.length m, I J 0, S s o.length t, I J 0, I J (-1), I J 0] z z cc oQ z ⟨z, z, nl z, z, z, nl z, z, z, nl z, z, z, nl z, Y⟩ z) <| eU z (fun _ h => St.pushNil (e := eI) (T := 3) h) <| qB z (fun f a => cz (x0 := y) (x1 := 0) (x2 := 0) (x4 := 0) (x7 := 0) (x9 := 0) (x10 := (-1)) (x11 := 0) [5, 2, 3, 4] a z z) fun Q => eU (C' := St w u [_, _, _, _, _, _, _]) z (fun _ h => h) <| il [(0, [B y, I J 0, I J 0, S N 0 0, I J 0, S j c.e_.length k, S l c.d_.length m, I J 0, S s o.length t, I J 0, I J (-1), I J 0])] z z z z z dZ cc z z ⟨z, z, nl z, Y⟩ [B y, I J 0, I J 0, S N 0 0, I J 0, S j c.e_.length k, S l c.d_.length m, I J 0, S s o.length t, I J 0, I J (-1), I J 0] z (fun _ => kp) fun d => eU z (fun _ h => tz (p := 7) (q := 6) h z z z) <| o1 z (bI [(0, [S (U ⟨d, 0, N⟩) 1 1])] [S (U ⟨d, 0, N⟩) 1 1, I J 0] z z bv BM z ⟨z, z, nl z, Y⟩ z) <| sC 0 [S (U ⟨d, 0, N⟩) 1 1, I J 0] [_, _] 1 z bv z <| nT <| aY (rs := [.cell 4 30]) (vs := [.agg #[S (U ⟨d, 0, N⟩) 1 1, I J 0]]) z ⟨⟨_, [S (U ⟨d, 0, N⟩) 1 1, I J 0], _, _, _, z, bv, (bl (T := 30) 0 (bK (i := 1) z) z), z, z⟩, Y⟩ (fun w' hw' => by
   obtain rfl := ai H
   exact ⟨_, z, (U ⟨d, 0, N⟩), 1, 1, (d :: Q), z, hw'.sel [8] z z⟩)
theorem oC (w : World) {q : List Nat} {p0b : List Int} {p0 : ao} {p1 : ae} {b_0 : Nat} {a_p0b : Option Addr} {n_p0b c_p0b : Nat} {b8 : List Value} {r : bw × ao} (H : jJ p0b p0 p1 = U r) (HS : St w q [b b_0 91 [S a_p0b p0b.length c_p0b, I J p0.i_, I J p0.h_]] w) (g_p0b : (af e8 5).rd w q p0b [S a_p0b n_p0b c_p0b]) (g1 : (aX).rd w q p1 b8) :
    Calls Tryz.prog 62 #[O (U ⟨b_0, 0, N⟩), .agg b8.toArray] w (fun en w' => ∃ v, en = .returned v ∧ ∃ (a0 : Option Addr), ∃ (n0 : Nat), ∃ (c0 : Nat), ∃ (F0 : List Nat), v = .agg #[S a0 n0 c0, I J r.1.z_] ∧ St w q [W (af eI 3) F0 r.1.u_ [S a0 n0 c0], b b_0 91 [S a_p0b n_p0b c_p0b, I J r.2.i_, I J r.2.h_]] w') := by
 obtain rfl := ee g_p0b
 obtain ⟨g2, g3, rfl, b9, e1⟩ := aI g1
 obtain ⟨P, Q, rfl⟩ := am b9
 obtain ⟨X, Z, rfl⟩ := am e1
 unfold jJ at H
 refine aG Tryz.func62 z Tryz.ntmps62 z (HS) <| sR <| ob _ z fun l => aC z z z z lI (fun _ => kp) fun m => nR <| o1 z (bI [] [S N 0 0, I J 0] z z lI DN z Y z) <| aC z z z z lI (fun _ => kp) fun o => sC 0 [S N 0 0, I J 0] [_, _] 3 z lI z <| nQ <| ak <| sR <| oP z <| nQ <| aB <| CW.weak ?_ (fun _ h => St.pushNil (e := eI) (T := 3) h)
 refine CW.at (uw (fun (F : Int) (G : Int) (a : List Int) (d : Option Addr) (f : Nat) (x : List Nat) (A : Int) => St w q [b b_0 91 [S a_p0b p0b.length c_p0b, I J F, I J G], b l 27 [S P p1.b_.length Q, S X p1.k_.length Z], b m 33 [S N 0 0, I J 0], b o 33 [S d a.length f, I J 0], W (af eI 3) x a [S d a.length f]]) (fun F G a d f x A => [(0, O (U ⟨b_0, 0, N⟩)), (3, O (U ⟨l, 0, N⟩)), (4, O (U ⟨m, 0, N⟩)), (5, O (U ⟨o, 0, N⟩)), (6, I J A)]) (fun kk => fun F G a d f x A => dn p1 p0b kk F G a A = U r) (fun _ _ _ _ _ _ _ H => ?_) (fun k1 c1 F G a d f x A H => ?_) bh (p0.i_) (p0.h_) (([] : List Int)) (N) (0) ([]) (0) (H)) (ss [0, 1, 2, 3, 4] z z) (sb z)
 ·unfold dn at H
  exact absurd H (by simp)
 ·unfold dn at H
  refine ak <| sR <| aa [.p, .fa 27 0 0 dq] z <| o1 z (r1 0 1 z iH z) <| aa [.lenS 24 63 iw, .p] z <| nQ <| cI H z (fun H => ?_) (fun H => ?_)
  ·refine aw <| az <| ak <| aB <| sR <| aa [.p, .fa 27 0 0 dq] z <| o1 z (r1 0 1 z iH z) <| oP z <| bE H fun L c2 H => cB z z z z z iw dI z b9 c2 fun e7 e9 a8 a9 => ?_
   obtain ⟨f0, f1, f2, rfl, c3, a1, a2⟩ := bW a8
   obtain rfl := c3
   obtain ⟨c4, c5, rfl⟩ := am a1
   obtain ⟨c6, c7, rfl⟩ := am a2
   refine o1 z (cV (cs := [vS L.x_, S c4 L.t_.length c5, S c6 L.y_.length c7]) z z dI (co bor a9) z) <| bE H fun f3 c8 H => oq z (qc z uy (fun k c => gw k c8 (dd z (ab a1 k c) (ab a2 k c)))) tt2 <| bE H fun c9 d0 H => aq z nV z z z z (fun k c => cj k d0 (c.carve [0] z z) (rdB [0] z z c g_p0b)) fun f4 k w2 c b0 => ?_
   obtain ⟨rfl, b1⟩ := b0
   refine ⟨St w q [_, _, _, _, _, _], c.comp [0] z z b1, fun _ _ => Y, ?_⟩
   refine oP z <| nQ <| uO (fun (s : Int) (t : Int) (g : Int) => St w q [b b_0 91 [S a_p0b p0b.length c_p0b, I J s, I J t], b l 27 [S P p1.b_.length Q, S X p1.k_.length Z], b m 33 [S N 0 0, I J 0], b o 33 [S d a.length f, I J 0], W (af eI 3) x a [S d a.length f]]) (fun s t g => [(0, O (U ⟨b_0, 0, N⟩)), (3, O (U ⟨l, 0, N⟩)), (4, O (U ⟨m, 0, N⟩)), (5, O (U ⟨o, 0, N⟩)), (6, I J A), (7, I J g)]) (fun s t g => io a (dn p1 p0b k1) A s t g = U r) (fun s t g H => ?_) (fun J1 => ?_)
   ·unfold io at H
    exact aT <| aa [.fa 33 0 0 mO] z <| o1 z (r1 0 3 z cw z) <| oP z <| bA (val := I J) (h1 := fun _ => z) [g] [(0, [I J g])] z z z z z aO ty3 z z z ⟨z, z, nl z, Y⟩ z z (fun _ => kp) fun f5 => bE H fun a3 a4 H => bY (r := 4) (ys := ([g] : List Int)) z z z z z z aO ty3 z z z (au (e := af eI 3) (r := 5) z) a4 (fun _ _ _ => kp) fun a5 a6 d2 => cg z (fun k c => eD (i := 4) c z (eG a4)) fun e3 => aa [.fa 33 0 0 mO] z <| sC 0 [S a5 a3.length a6] [_, _] 3 z cw z <| ay <| ca <| az <| aT <| aa [.p, .p, .p] z <| ay <| cQ (RW.at (c1 (s) (t) (a3) (a5) (a6) (d2) (J.wrap (A + 1)) (H)) (ss [0, 1, 2, 3, 4] z z) (sb z))
   ·refine sR <| oP z <| bE H fun D d3 H => aq z uj z z z z (fun k c => fA k d3 (c.carve [5] z z) (rdB [5] z z c g_p0b)) fun f6 k w2 c b2 => ?_
    obtain ⟨rfl, b3⟩ := b2
    refine ⟨St w q [_, _, _, _, _, _, _], c.comp [5] z z b3, fun _ _ => Y, ?_⟩
    refine nQ <| cI H z (fun H => ?_) (fun H => ?_)
    ·refine CW.weak (C' := St w q [_, _, _, _, _]) ?_ (ss [1, 2, 3, 4, 6] z z)
     exact aT <| oP z <| ay <| XW.at (J1 (D.2.i_) (D.2.h_) ((-1)) (H)) (ss [4, 0, 1, 2, 3] z z) (sb z)
    ·exact aw <| XW.at (J1 (D.2.i_) (D.2.h_) (c9.1) (H)) (ss [6, 1, 2, 3, 4] z z) (sb z)
  ·refine bH <| aN <| aS <| aM <| az <| sR <| aa [.p, .fa 27 1 1 fZ] z <| o1 z (r1 1 1 z ja z) <| aa [.lenS 25 9 ek] z <| bE H fun C d4 H => aq z nV z z z z (fun k c => cj k d4 (c.carve [0] z z) (rdB [0] z z c g_p0b)) fun f7 k w2 c b4 => ?_
   obtain ⟨rfl, b5⟩ := b4
   refine ⟨St w q [_, _, _, _, _, _], c.comp [0] z z b5, fun _ _ => Y, ?_⟩
   refine aa [.fa 33 1 1 oY] z <| sC 1 [I J C.1] [_, _] 3 z ty3 z <| nQ <| ak <| sR <| aa [.fa 33 0 0 mO] z <| o1 z (r1 0 3 z cw z) <| aa [.lenS 31 3 aO, .p, .p] z <| bE H fun u M H => AC (St w q [Res.nil, b l 27 [S P p1.b_.length Q, S X p1.k_.length Z], b m 33 [S N 0 0, I J 0], b o 33 [S d a.length f, I J C.1], W (af eI 3) x a [S d a.length f], b b_0 91 [S a_p0b p0b.length c_p0b, I J u.2.1, I J u.2.2]]) [(46, B u.1), (0, O (U ⟨b_0, 0, N⟩)), (3, O (U ⟨l, 0, N⟩)), (4, O (U ⟨m, 0, N⟩)), (5, O (U ⟨o, 0, N⟩))] 4 ?_ (fun key => OW.sub (R := [(0, O (U ⟨b_0, 0, N⟩)), (3, O (U ⟨l, 0, N⟩)), (4, O (U ⟨m, 0, N⟩)), (5, O (U ⟨o, 0, N⟩)), (42, B (decide ((a.length : Int) > 0)))]) ?_ ⟨z, z, z, z, z, Y⟩)
   ·refine oP z <| aQ [(52, B (u.1 && (decide ((p1.k_.length : Int) > 0)))), (0, O (U ⟨b_0, 0, N⟩)), (3, O (U ⟨l, 0, N⟩)), (4, O (U ⟨m, 0, N⟩)), (5, O (U ⟨o, 0, N⟩))] 5 ?_ (fun key => OW.sub (R := [(0, O (U ⟨b_0, 0, N⟩)), (3, O (U ⟨l, 0, N⟩)), (4, O (U ⟨m, 0, N⟩)), (5, O (U ⟨o, 0, N⟩)), (47, B u.1)]) ?_ (sb z))
    ·refine nQ <| cI H z (fun H => ?_) (fun H => ?_)
     ·exact oa 10 bT (by kernel_rfl) <| aa [.fa 33 0 0 mO] z <| o1 z (r1 0 3 z cw z) <| bE H fun f8 a7 H => bq (e := eI) (xs := a) (j := 0) z z z z z aO ty3 z (au (e := af eI 3) (r := 4) z) a7 (by rw [Nat.mul_one]) <| o1 z (aF z z ty3 (bC (au (e := af eI 3) (r := 4) z) a7)) <| aa [.p, .fa 27 1 1 fZ] z <| o1 z (r1 1 1 z ja z) <| aa [.lenS 25 9 ek] z <| bE H fun E d5 H => o1 z (pA z z z d5) <| aa [.fa 33 1 1 oY] z <| cx <| sC 1 [I J E] [_, _] 3 z ty3 z <| nR <| o1 z (rx 0 3 _ z lI z) <| sC 0 [S d a.length f, I J E] [_, _] 2 z lI z <| nT <| aY (rs := [.cell 4 33]) (vs := [.agg #[S d a.length f, I J E]]) z ⟨⟨_, [S d a.length f, I J E], _, _, _, z, lI, (bl (T := 33) 0 (bK (i := 2) z) z), z, z⟩, Y⟩ (fun w' hw' => by
       obtain rfl := ai H
       exact ⟨_, z, d, a.length, f, x, z, hw'.sel [4, 5] z z⟩)
     ·exact aw <| az <| sR <| o1 z (rx 0 3 _ z lI z) <| sC 0 [S d a.length f, I J C.1] [_, _] 2 z lI z <| nT <| aY (rs := [.cell 4 33]) (vs := [.agg #[S d a.length f, I J C.1]]) z ⟨⟨_, [S d a.length f, I J C.1], _, _, _, z, lI, (bl (T := 33) 0 (bK (i := 2) z) z), z, z⟩, Y⟩ (fun w' hw' => by
       obtain rfl := ai H
       exact ⟨_, z, d, a.length, f, x, z, hw'.sel [4, 5] z z⟩)
    ·generalize u.1 = d6 at key ⊢
     cases d6
     ·exact aa [.p, .p, .p, .p, .p] z <| OW.sub key (sb z)
     ·exact aa [.fa 27 1 1 fZ] z <| o1 z (r1 1 1 z ja z) <| aa [.lenS 25 9 ek, .p] z <| oP z <| OW.sub key (sb z)
   ·clear H
    have H := M
    clear M
    generalize (decide ((a.length : Int) > 0)) = d7 at H key ⊢
    cases d7
    ·have H := ba z H
     refine aa [.p, .p, .p, .p] z ?_
     obtain rfl := ai H
     exact OW.sub key (sb z)
    ·have H := bb z H
     refine oP z <| bE H fun f9 d8 H => aq z uj z z z z (fun k c => fA k d8 (c.carve [5] z z) (rdB [5] z z c g_p0b)) fun g0 k w2 c b6 => ?_
     obtain ⟨rfl, b7⟩ := b6
     refine ⟨St w q [_, _, _, _, _, _, _], c.comp [5] z z b7, fun _ _ => Y, ?_⟩
     refine oP z <| eU z (C' := St w q [_, _, _, _, _, _]) (ss [0, 1, 2, 3, 4, 6] z z) <| oP z <| ?_
     obtain rfl := ai H
     exact OW.sub key (sb z)
theorem nG (w : World) {m : List Nat} {p0b : List Int} {p0 : ao} {p1 : Int} {b_0 : Nat} {a_p0b : Option Addr} {n_p0b c_p0b : Nat} {r : (List Int) × ao} (H : ju p0b p0 p1 = U r) (HS : St w m [b b_0 91 [S a_p0b p0b.length c_p0b, I J p0.i_, I J p0.h_]] w) (g_p0b : (af e8 5).rd w m p0b [S a_p0b n_p0b c_p0b]) :
    Calls Tryz.prog 82 #[O (U ⟨b_0, 0, N⟩), I J p1] w (fun en w' => ∃ v, en = .returned v ∧ ∃ (C : Option Addr), ∃ (D : Nat), ∃ (c0 : Nat), ∃ (P : List Nat), v = S C D c0 ∧ St w m [W (af e8 5) P r.1 [S C D c0], b b_0 91 [S a_p0b n_p0b c_p0b, I J r.2.i_, I J r.2.h_]] w') := by
 obtain rfl := ee g_p0b
 unfold ju at H
 refine aG Tryz.func82 z Tryz.ntmps82 z (HS) <| sR <| oP z <| nR <| bM (e := e8) z z z z lB ty5 (fun _ => kp) fun o => oP z <| nQ <| ak <| sR <| oP z <| nQ <| aB <| CW.at (uw (fun (h : Int) (j : Int) (a : List Int) (c : Option Addr) (d : Nat) (k : List Nat) (f : Int) => St w m [b b_0 91 [S a_p0b p0b.length c_p0b, I J h, I J j], W (af e8 5) k a [S c a.length d]]) (fun h j a c d k f => [(0, O (U ⟨b_0, 0, N⟩)), (1, I J p1), (5, S c a.length d), (6, I J f)]) (fun kk => fun h j a c d k f => c.isNone = n ∧ dW p1 p0b kk h j a f = U r) (fun _ _ _ _ _ _ _ H => ?_) (fun Z s h j a c d k f ⟨Q, H⟩ => ?_) bh (p0.i_) (p0.h_) (([] : List Int)) ((U ⟨o, 0, N⟩)) (0) ([o]) (0) (⟨z, H⟩)) (ss [0, 1] z z) (sb z)
 ·unfold dW at H
  exact absurd H (by simp)
 ·unfold dW at H
  refine ak <| sR <| aa [.p, .p, .p] z <| nQ <| cI H z (fun H => ?_) (fun H => ?_)
  ·refine aw <| az <| ak <| aB <| aT <| oPP z <| bE H fun l E H => aq z xP z z z z (fun t g => iQ t E (g.carve [0] z z) (rdB [0] z z g g_p0b)) fun R t w2 g u => ?_
   obtain ⟨rfl, x⟩ := u
   refine ⟨St w m [_, _, _], g.comp [0] z z x, fun _ _ => Y, ?_⟩
   exact aa [.cv 3 5 K us3 in5] z <| bA (val := I K) (h1 := fun _ => z) [K.wrap l.1] [(0, [I K (K.wrap l.1)])] z z z z z lB ty5 z z z ⟨z, z, nl z, Y⟩ z z (fun _ => kp) fun X => bE H fun F q H => bY (r := 1) (ys := ([K.wrap l.1] : List Int)) z z z z z z lB ty5 z z z (au (e := af e8 5) (r := 3) z) q (fun _ _ _ => kp) fun G L M => cg z (fun t g => eD (i := 1) g z (eG q)) fun A => oP z <| ay <| ca <| az <| aT <| aa [.p, .p, .p] z <| ay <| cQ (RW.at (s (l.2.i_) (l.2.h_) (F) (G) (L) (M) (J.wrap (f + 1)) (⟨A, H⟩)) (ss [2, 1] z z) (sb z))
  ·exact bH <| aN <| aS <| aM <| az <| sR <| oPP z <| nT <| aY (rs := [.tmp 4]) (vs := [S c a.length d]) z ⟨z, Y⟩ (fun w' hw' => by
    obtain rfl := ai H
    exact ⟨_, z, c, a.length, d, k, z, hw'.sel [1, 0] z z⟩)
theorem fc (w : World) {p0 : ae} {p1 : av} {a5 : List Value} {a6 : List Value} {r : Bool} (H : eE p0 p1 = U r) (g0 : (aX).rd w [] p0 a5) (g1 : (cn).rd w [] p1 a6) :
    Calls Tryz.prog 69 #[.agg a5.toArray, .agg a6.toArray] w (fun en w' => en = .returned (B r) ∧ Ext [] w w') := by
 obtain ⟨f1, f2, rfl, G, a7⟩ := aI g0
 obtain ⟨u, v, rfl⟩ := am G
 obtain ⟨x, A, rfl⟩ := am a7
 obtain ⟨f3, f4, rfl, k, L⟩ := aL g1
 obtain ⟨C, D, rfl⟩ := am k
 obtain ⟨E, F, rfl⟩ := am L
 unfold eE at H
 refine aG Tryz.func69 z Tryz.ntmps69 z (St.init w []) <| sR <| ob _ z fun d => ob _ z fun f => oP z <| nQ <| ak <| sR <| o1 z (rx 0 0 _ z bU z) <| bE H fun M c6 H => oq z (qc z xK (fun l m => gN l c6 (ah (ab G l m) (ab a7 l m)))) tt2 <| oPP z <| aQ [(24, B ((!M) || ((p1.e_.length : Int) != (p0.k_.length : Int)))), (2, O (U ⟨d, 0, N⟩)), (3, O (U ⟨f, 0, N⟩))] 8 ?_ (fun key => OW.sub (R := [(2, O (U ⟨d, 0, N⟩)), (3, O (U ⟨f, 0, N⟩)), (16, B (!M))]) ?_ (sb z))
 ·refine nQ <| cI H z (fun H => ?_) (fun H => ?_)
  ·exact sR <| oP z <| nT <| ap <| xr 4 z (by cases H; exact q1)
  ·refine aw <| az <| sR <| oP z <| nQ <| ak <| sR <| oP z <| nQ <| aB <| CW.at (ic (fun (q : Int) (i : Int) => St w [] [b d 27 [S u p0.b_.length v, S x p0.k_.length A], b f 69 [S C p1.e_.length D, S E p1.d_.length F]]) (fun q i => [(2, O (U ⟨d, 0, N⟩)), (3, O (U ⟨f, 0, N⟩)), (5, I J q), (6, I J i)]) (fun kk => fun q i => dw p1 p0 kk q i = U r) (fun _ _ H => ?_) (fun k1 b0 q i H => ?_) bh (0) (0) (H)) (ss [0, 1] z z) (sb z)
   ·unfold dw at H
    exact absurd H (by simp)
   ·unfold dw at H
    refine ak <| sR <| aa [.p, .fa 69 0 0 hG] z <| o1 z (r1 0 1 z cw z) <| aa [.lenS 31 3 aO, .p] z <| nQ <| cI H z (fun H => ?_) (fun H => ?_)
    ·refine aw <| az <| ak <| aB <| ak <| sR <| aa [.fa 69 0 0 hG] z <| o1 z (r1 0 1 z cw z) <| oP z <| bE H fun f5 a8 H => bq (e := eI) (xs := p1.e_) (j := i) z z z z z aO ty3 z (ab k) a8 (by rw [Nat.mul_one]) <| o1 z (aF z z ty3 (bC (ab k) a8)) <| bE H fun f6 c7 H => oq z (qc z gK (fun l m => bf l c7)) tt2 <| oP z <| nQ <| cI H z (fun H => ?_) (fun H => ?_)
     ·exact sR <| oP z <| nT <| ap <| aP <| ap <| bZ <| aP <| ap <| xr 4 z (by cases H; exact q1)
     ·exact aw <| az <| aT <| aa [.p, .fa 69 0 0 hG] z <| o1 z (r1 0 1 z cw z) <| oP z <| bE H fun c8 a9 H => bq (e := eI) (xs := p1.e_) (j := i) z z z z z aO ty3 z (ab k) a9 (by rw [Nat.mul_one]) <| o1 z (aF z z ty3 (bC (ab k) a9)) <| oPP z <| ay <| ca <| az <| aT <| aa [.p, .p, .p] z <| ay <| cQ (RW.at (b0 (J.wrap (q + c8)) (J.wrap (i + 1)) (H)) (ss [0, 1] z z) (sb z))
    ·refine bH <| aN <| aS <| aM <| az <| ak <| sR <| oPP z <| nQ <| cI H z (fun H => ?_) (fun H => ?_)
     ·exact sR <| oP z <| nT <| ap <| xr 4 z (by cases H; exact q1)
     ·refine aw <| az <| ak <| sR <| aa [.fa 69 1 1 dL] z <| o1 z (r1 1 1 z jm z) <| aa [.lenS 67 31 gL, .p] z <| nQ <| cI H z (fun H => ?_) (fun H => ?_)
      ·exact sR <| oP z <| nT <| ap <| xr 4 z (by cases H; exact q1)
      ·refine aw <| az <| ak <| sR <| aa [.fa 69 1 1 dL] z <| o1 z (r1 1 1 z jm z) <| aa [.lenS 67 31 gL, .fa 27 0 0 dq] z <| o1 z (r1 0 0 z iH z) <| aa [.lenS 24 63 iw, .p] z <| nQ <| cI H z (fun H => ?_) (fun H => ?_)
       ·exact sR <| oP z <| nT <| ap <| xr 4 z (by cases H; exact q1)
       ·refine aw <| az <| ak <| sR <| oP z <| nQ <| aB <| CW.at (fL (fun (a : Int) => St w [] [b d 27 [S u p0.b_.length v, S x p0.k_.length A], b f 69 [S C p1.e_.length D, S E p1.d_.length F]]) (fun a => [(2, O (U ⟨d, 0, N⟩)), (3, O (U ⟨f, 0, N⟩)), (7, I J a)]) (fun kk => fun a => cJ p1 p0 kk a = U r) (fun _ H => ?_) (fun k2 b1 a H => ?_) bh (0) (H)) (ss [0, 1] z z) (sb z)
        ·unfold cJ at H
         exact absurd H (by simp)
        ·unfold cJ at H
         refine ak <| sR <| aa [.p, .fa 69 1 1 dL] z <| o1 z (r1 1 1 z jm z) <| aa [.lenS 67 31 gL, .p] z <| nQ <| cI H z (fun H => ?_) (fun H => ?_)
         ·refine aw <| az <| ak <| aB <| sR <| aa [.fa 27 0 0 dq] z <| o1 z (r1 0 0 z iH z) <| oP z <| bE H fun t b2 H => cB z z z z z iw dI z G b2 fun d3 d4 a0 a1 => ?_
          obtain ⟨d5, d6, d7, rfl, b3, P, Q⟩ := bW a0
          obtain rfl := b3
          obtain ⟨b4, b5, rfl⟩ := am P
          obtain ⟨b6, b7, rfl⟩ := am Q
          refine o1 z (cV (cs := [vS t.x_, S b4 t.t_.length b5, S b6 t.y_.length b7]) z z dI (co bor a1) z) <| bE H fun o b8 H => oq z (qc z uy (fun l m => gw l b8 (dd z (ab P l m) (ab Q l m)))) tt2 <| oP z <| nQ <| ak <| ak <| dJ bT (by kernel_rfl) <| aa [.fa 69 1 1 dL] z <| o1 z (r1 1 1 z jm z) <| oP z <| bE H fun d8 b9 H => cB z z z z z gL cw z L b9 fun d9 e0 a2 a3 => ?_
          obtain ⟨e1, e2, rfl⟩ := am a2
          refine o1 z (aF z z cw (co bor a3)) <| aa [.lenS 31 3 aO, .p, .fa 27 1 1 fZ] z <| o1 z (r1 1 0 z ja z) <| aa [.lenS 25 9 ek, .p, .p] z <| cx <| az <| cI H z (fun H => ?_) (fun H => ?_)
          ·exact sR <| oP z <| nT <| ap <| aP <| ap <| bZ <| aP <| ap <| xr 4 z (by cases H; exact q1)
          ·refine aw <| az <| sR <| oP z <| nQ <| aB <| CW.at (fL (fun (c : Int) => St w [] [b d 27 [S u p0.b_.length v, S x p0.k_.length A], b f 69 [S C p1.e_.length D, S E p1.d_.length F]]) (fun c => [(2, O (U ⟨d, 0, N⟩)), (3, O (U ⟨f, 0, N⟩)), (7, I J a), (8, I J o), (9, I J c)]) (fun kk => fun c => bQ p0 o p1 a (cJ p1 p0 k2) kk c = U r) (fun _ H => ?_) (fun k3 c0 c H => ?_) bh (0) (H)) (ss [0, 1] z z) (sb z)
           ·unfold bQ at H
            exact absurd H (by simp)
           ·unfold bQ at H
            refine ak <| sR <| aa [.p, .fa 27 1 1 fZ] z <| o1 z (r1 1 0 z ja z) <| aa [.lenS 25 9 ek, .p] z <| nQ <| cI H z (fun H => ?_) (fun H => ?_)
            ·refine aw <| az <| ak <| aB <| sR <| oP z <| nQ <| ak <| sR <| oP z <| nQ <| aB <| CW.at (ic (fun (h : Int) (g : Int) => St w [] [b d 27 [S u p0.b_.length v, S x p0.k_.length A], b f 69 [S C p1.e_.length D, S E p1.d_.length F]]) (fun h g => [(2, O (U ⟨d, 0, N⟩)), (3, O (U ⟨f, 0, N⟩)), (7, I J a), (8, I J o), (9, I J c), (10, I J h), (11, I J g)]) (fun kk => fun h g => db o p1 a p0 c (bQ p0 o p1 a (cJ p1 p0 k2) k3) kk h g = U r) (fun _ _ H => ?_) (fun k4 c1 h g H => ?_) bh (0) (0) (H)) (ss [0, 1] z z) (sb z)
             ·unfold db at H
              exact absurd H (by simp)
             ·unfold db at H
              refine ak <| sR <| aa [.p, .p, .p] z <| nQ <| cI H z (fun H => ?_) (fun H => ?_)
              ·refine aw <| az <| ak <| aB <| ak <| dJ bT (by kernel_rfl) <| aa [.fa 69 1 1 dL] z <| o1 z (r1 1 1 z jm z) <| oP z <| bE H fun c2 c3 H => cB z z z z z gL cw z L c3 fun e4 e5 s a4 => ?_
               obtain ⟨e6, e7, rfl⟩ := am s
               refine o1 z (aF z z cw (co bor a4)) <| aa [.p, .fa 27 1 1 fZ] z <| o1 z (r1 1 0 z ja z) <| aa [.lenS 25 9 ek, .p, .p, .p] z <| bE H fun c4 X H => bq (e := eI) (xs := c2) (j := J.wrap ((J.wrap (g * (p0.k_.length : Int))) + c)) z z z z z aO ty3 z (ab s) X (by rw [Nat.mul_one]) <| o1 z (aF z z ty3 (bC (ab s) X)) <| oP z <| cx <| az <| ak <| sR <| oP z <| bE H fun e9 c5 H => oq z (qc z gK (fun l m => bf l c5)) tt2 <| oP z <| nQ <| cI H z (fun H => ?_) (fun H => ?_)
               ·exact sR <| oP z <| nT <| ap <| aP <| ap <| bZ <| aP <| ap <| aP <| ap <| bZ <| aP <| aP <| ap <| bZ <| aP <| ap <| xr 4 z (by cases H; exact q1)
               ·exact aw <| az <| aT <| aa [.p, .p, .p, .p] z <| ay <| ca <| az <| aT <| aa [.p, .p, .p] z <| ay <| cQ (RW.at (c1 (J.wrap (h + c4)) (J.wrap (g + 1)) (H)) (ss [0, 1] z z) (sb z))
              ·refine bH <| aN <| aS <| aM <| az <| sR <| aa [.p, .fa 69 0 0 hG] z <| o1 z (r1 0 1 z cw z) <| oP z <| bE H fun f0 Z H => bq (e := eI) (xs := p1.e_) (j := c) z z z z z aO ty3 z (ab k) Z (by rw [Nat.mul_one]) <| o1 z (aF z z ty3 (bC (ab k) Z)) <| oP z <| nQ <| cI H z (fun H => ?_) (fun H => ?_)
               ·exact sR <| oP z <| nT <| aP <| ap <| bZ <| aP <| aP <| ap <| bZ <| aP <| ap <| xr 4 z (by cases H; exact q1)
               ·exact aw <| ca <| az <| aT <| aa [.p, .p, .p] z <| ay <| cQ (RW.at (c0 (J.wrap (c + 1)) (H)) (ss [0, 1] z z) (sb z))
            ·exact bH <| aN <| aS <| aM <| ca <| az <| aT <| aa [.p, .p, .p] z <| ay <| cQ (RW.at (b1 (J.wrap (a + 1)) (H)) (ss [0, 1] z z) (sb z))
         ·exact bH <| aN <| aS <| aM <| az <| sR <| oP z <| nT <| xr 4 z (by cases H; exact q1)
 ·generalize (!M) = d0 at key ⊢
  cases d0
  ·exact aa [.fa 69 0 0 hG] z <| o1 z (r1 0 1 z cw z) <| aa [.lenS 31 3 aO, .fa 27 1 1 fZ] z <| o1 z (r1 1 0 z ja z) <| aa [.lenS 25 9 ek, .p] z <| oP z <| OW.sub key (sb z)
  ·exact aa [.p, .p, .p, .p, .p, .p, .p, .p] z <| OW.sub key (sb z)
theorem gZ (w : World) {p0 : ae} {p1 : av} {h : List Value} {i : List Value} {r : Int} (H : dO p0 p1 = U r) (D : (aX).rd w [] p0 h) (E : (cn).rd w [] p1 i) :
    Calls Tryz.prog 71 #[.agg h.toArray, .agg i.toArray] w (fun en w' => en = .returned (I J r) ∧ Ext [] w w') := by
 obtain ⟨F, G, rfl, k, l⟩ := aI D
 obtain ⟨L, M, rfl⟩ := am k
 obtain ⟨P, Q, rfl⟩ := am l
 obtain ⟨R, X, rfl, d, m⟩ := aL E
 obtain ⟨t, u, rfl⟩ := am d
 obtain ⟨v, x, rfl⟩ := am m
 unfold dO at H
 refine aG Tryz.func71 z Tryz.ntmps71 z (St.init w []) <| sR <| ob _ z fun Z => ob _ z fun o => oP z <| nQ <| ak <| sR <| o1 z (rx 0 0 _ z bU z) <| o1 z (rx 0 1 _ z cP z) <| bE H fun a0 A H => oq z (qc z uR (fun g f => fc g A (ah (ab k g f) (ab l g f)) (aE (ab d g f) (ab m g f)))) tt2 <| oP z <| nQ <| cI H z (fun H => ?_) (fun H => ?_)
 ·exact sR <| oP z <| nT <| ap <| xr 4 z (by cases H; exact q1)
 ·refine aw <| az <| sR <| oP z <| nQ <| ak <| sR <| oP z <| nQ <| aB <| CW.at (ic (fun (c : Int) (a : Int) => St w [] [b o 69 [S t p1.e_.length u, S v p1.d_.length x]]) (fun c a => [(3, O (U ⟨o, 0, N⟩)), (5, I J c), (6, I J a)]) (fun kk => fun c a => ff p1 kk c a = U r) (fun _ _ H => ?_) (fun k1 s c a H => ?_) bh (0) (0) (H)) (ss [1] z z) (sb z)
  ·unfold ff at H
   exact absurd H (by simp)
  ·unfold ff at H
   refine ak <| sR <| aa [.p, .fa 69 0 0 hG] z <| o1 z (r1 0 0 z cw z) <| aa [.lenS 31 3 aO, .p] z <| nQ <| cI H z (fun H => ?_) (fun H => ?_)
   ·exact aw <| az <| ak <| aB <| aT <| aa [.p, .fa 69 0 0 hG] z <| o1 z (r1 0 0 z cw z) <| oP z <| bE H fun C q H => bq (e := eI) (xs := p1.e_) (j := a) z z z z z aO ty3 z (ab d) q (by rw [Nat.mul_one]) <| o1 z (aF z z ty3 (bC (ab d) q)) <| oPP z <| ay <| ca <| az <| aT <| aa [.p, .p, .p] z <| ay <| cQ (RW.at (s (J.wrap (c + C)) (J.wrap (a + 1)) (H)) (ss [0] z z) (sb z))
   ·exact bH <| aN <| aS <| aM <| az <| sR <| oPP z <| nT <| xr 4 z (by cases H; exact q1)
theorem rX (w : World) {p0 : ae} {p1 : aR} {m : List Value} {o : List Value} {r : Bool} (H : je p0 p1 = U r) (g0 : (aX).rd w [] p0 m) (g1 : (aD).rd w [] p1 o) :
    Calls Tryz.prog 34 #[.agg m.toArray, .agg o.toArray] w (fun en w' => en = .returned (B r) ∧ Ext [] w w') := by
 obtain ⟨a3, a4, rfl, f, g⟩ := aI g0
 obtain ⟨a5, a6, rfl⟩ := am f
 obtain ⟨a7, a8, rfl⟩ := am g
 obtain ⟨a9, b0, b1, b2, b3, b4, b5, b6, b7, b8, rfl, s, t, u, v, x, A, q, C, D, E⟩ := bn g1
 obtain rfl := s
 obtain rfl := t
 obtain ⟨b9, c0, rfl⟩ := am u
 obtain rfl := v
 obtain ⟨c1, c2, rfl, h, i⟩ := aL x
 obtain ⟨c3, c4, rfl⟩ := am h
 obtain ⟨c5, c6, rfl⟩ := am i
 obtain rfl := A
 obtain ⟨c7, c8, rfl⟩ := am q
 obtain rfl := C
 obtain rfl := D
 obtain rfl := E
 unfold je at H
 refine aG Tryz.func34 z Tryz.ntmps34 z (St.init w []) <| sR <| ob _ z fun d => ob _ z fun e => oP z <| nQ <| ak <| sR <| aa [.fa 71 1 1 mL] z <| o1 z (rx 1 1 _ z cH z) <| o1 z (bI [] [I J 0, I J 0] z z cH un z Y z) <| o1 z (Al (xs := [I J p1.l_.g_, I J p1.l_.c_]) (ys := [I J 0, I J 0]) z z z (Cd p1.l_.g_ 0 p1.l_.c_ 0)) <| oP z <| aQ [(14, B ((!(p1.l_.g_ == 0 && (p1.l_.c_ == 0 && y))) || (decide ((p1.r_.length : Int) > 0)))), (2, O (U ⟨d, 0, N⟩)), (3, O (U ⟨e, 0, N⟩))] 5 ?_ (fun key => OW.sub (R := [(2, O (U ⟨d, 0, N⟩)), (3, O (U ⟨e, 0, N⟩)), (9, B (!(p1.l_.g_ == 0 && (p1.l_.c_ == 0 && y))))]) ?_ (sb z))
 ·refine oP z <| aQ [(19, B (((!(p1.l_.g_ == 0 && (p1.l_.c_ == 0 && y))) || (decide ((p1.r_.length : Int) > 0))) || (p1.w_ != 0))), (2, O (U ⟨d, 0, N⟩)), (3, O (U ⟨e, 0, N⟩))] 4 ?_ (fun key => OW.sub (R := [(2, O (U ⟨d, 0, N⟩)), (3, O (U ⟨e, 0, N⟩)), (15, B ((!(p1.l_.g_ == 0 && (p1.l_.c_ == 0 && y))) || (decide ((p1.r_.length : Int) > 0))))]) ?_ (sb z))
  ·refine oP z <| bE H fun j k H => aQ [(26, B j), (2, O (U ⟨d, 0, N⟩)), (3, O (U ⟨e, 0, N⟩))] 6 ?_ (fun key => OW.sub (R := [(2, O (U ⟨d, 0, N⟩)), (3, O (U ⟨e, 0, N⟩)), (20, B (((!(p1.l_.g_ == 0 && (p1.l_.c_ == 0 && y))) || (decide ((p1.r_.length : Int) > 0))) || (p1.w_ != 0)))]) ?_ (sb z))
   ·refine oP z <| bE H fun F l H => aQ [(33, B F), (2, O (U ⟨d, 0, N⟩)), (3, O (U ⟨e, 0, N⟩))] 6 ?_ (fun key => OW.sub (R := [(2, O (U ⟨d, 0, N⟩)), (3, O (U ⟨e, 0, N⟩)), (27, B j)]) ?_ (sb z))
    ·refine nQ <| cI H z (fun H => ?_) (fun H => ?_)
     ·exact sR <| oP z <| nT <| ap <| xr 4 z (by cases H; exact q1)
     ·refine aw <| az <| ak <| sR <| aa [.fa 71 4 5 eR, .fa 69 1 1 dL] z <| o1 z (r1 6 1 z jm z) <| aa [.lenS 67 31 gL, .p] z <| nQ <| cI H z (fun H => ?_) (fun H => ?_)
      ·exact sR <| aa [.fa 71 5 7 mh] z <| o1 z (r1 7 1 z ty3 z) <| oPP z <| nT <| ap <| xr 4 z (by cases H; exact q1)
      ·exact aw <| az <| ak <| dJ bT (by kernel_rfl) <| aa [.fa 71 5 7 mh] z <| o1 z (r1 7 1 z ty3 z) <| o1 z (rx 0 0 _ z bU z) <| aa [.fa 71 4 5 eR] z <| o1 z (rx 5 1 _ z cP z) <| bE H fun c9 G H => oq z (qc z ym (fun c a => gZ c G (ah (ab f c a) (ab g c a)) (aE (ab h c a) (ab i c a)))) tt2 <| bE H fun d0 L H => oq z (qc z gK (fun c a => bf c L)) tt2 <| oP z <| cx <| az <| pT <| xr 4 z (by cases H; exact q1)
    ·clear H
     have H := l
     clear l
     generalize j = M at H key ⊢
     cases M
     ·have H := ba z H
      refine o1 z (rx 0 0 _ z bU z) <| aa [.fa 71 6 8 oX] z <| o1 z (r1 8 1 z cw z) <| bE H fun d1 P H => oq z (qc z xE (fun c a => im c P (ah (ab f c a) (ab g c a)) (ab q c a))) tt2 <| oP z <| oP z <| ?_
      obtain rfl := ai H
      exact OW.sub key (sb z)
     ·have H := bb z H
      refine aa [.p, .p, .p, .p, .p, .p] z ?_
      obtain rfl := ai H
      exact OW.sub key (sb z)
   ·clear H
    have H := k
    clear k
    generalize (((!(p1.l_.g_ == 0 && (p1.l_.c_ == 0 && y))) || (decide ((p1.r_.length : Int) > 0))) || (p1.w_ != 0)) = Q at H key ⊢
    cases Q
    ·have H := ba z H
     refine o1 z (rx 0 0 _ z bU z) <| aa [.fa 71 4 5 eR] z <| o1 z (rx 5 1 _ z cP z) <| bE H fun d2 X H => oq z (qc z uR (fun c a => fc c X (ah (ab f c a) (ab g c a)) (aE (ab h c a) (ab i c a)))) tt2 <| oP z <| oP z <| ?_
     obtain rfl := ai H
     exact OW.sub key (sb z)
    ·have H := bb z H
     refine aa [.p, .p, .p, .p, .p, .p] z ?_
     obtain rfl := ai H
     exact OW.sub key (sb z)
  ·generalize ((!(p1.l_.g_ == 0 && (p1.l_.c_ == 0 && y))) || (decide ((p1.r_.length : Int) > 0))) = Z at key ⊢
   cases Z
   ·exact aa [.fa 71 3 4 qn] z <| o1 z (r1 4 1 z ty3 z) <| oP z <| oP z <| OW.sub key (sb z)
   ·exact aa [.p, .p, .p, .p] z <| OW.sub key (sb z)
 ·generalize (!(p1.l_.g_ == 0 && (p1.l_.c_ == 0 && y))) = a0 at key ⊢
  cases a0
  ·exact aa [.fa 71 2 3 gV] z <| o1 z (r1 3 1 z cw z) <| aa [.lenS 31 3 aO, .p] z <| oP z <| OW.sub key (sb z)
  ·exact aa [.p, .p, .p, .p, .p] z <| OW.sub key (sb z)
theorem fX (w : World) {p0 : ae} {p1 : ar} {h : List Value} {r : Bool} (H : fF p0 p1 = U r) (g0 : (aX).rd w [] p0 h) :
    Calls Tryz.prog 72 #[.agg h.toArray, .agg #[I J p1.g_, I J p1.c_]] w (fun en w' => en = .returned (B r) ∧ Ext [] w w') := by
 obtain ⟨b5, b6, rfl, d, i⟩ := aI g0
 obtain ⟨b7, b8, rfl⟩ := am d
 obtain ⟨b9, c0, rfl⟩ := am i
 unfold fF at H
 refine aG Tryz.func72 z Tryz.ntmps72 z (St.init w []) <| sR <| ob _ z fun j => ob _ z fun k => oP z <| nQ <| ak <| sR <| o1 z (rx 0 0 _ z bU z) <| bE H fun l D H => oq z (qc z xK (fun a c => gN a D (ah (ab d a c) (ab i a c)))) tt2 <| oPP z <| bE H fun E e H => aQ [(17, B E), (2, O (U ⟨j, 0, N⟩)), (3, O (U ⟨k, 0, N⟩))] 9 ?_ (fun key => OW.sub (R := [(2, O (U ⟨j, 0, N⟩)), (3, O (U ⟨k, 0, N⟩)), (8, B (!l))]) ?_ (sb z))
 ·refine nQ <| cI H z (fun H => ?_) (fun H => ?_)
  ·exact sR <| oP z <| nT <| ap <| xr 4 z (by cases H; exact q1)
  ·refine aw <| az <| ak <| sR <| aa [.fa 27 0 0 dq] z <| o1 z (r1 0 0 z iH z) <| aa [.fa 66 0 0 kf] z <| o1 z (r1 0 1 z ty3 z) <| bE H fun c1 F H => cB z z z z z iw dI z d F fun c2 c3 t u => ?_
   obtain ⟨c4, c5, c6, rfl, G, L, M⟩ := bW t
   obtain rfl := G
   obtain ⟨c7, c8, rfl⟩ := am L
   obtain ⟨c9, d0, rfl⟩ := am M
   refine aa [.fa 63 1 1 gx] z <| o1 z (aF z z cw (co bor (lk u 1 1))) <| aa [.lenS 31 3 aO, .p] z <| nQ <| cI H z (fun H => ?_) (fun H => ?_)
   ·refine ak <| dJ bT (by kernel_rfl) <| aa [.fa 66 1 1 ly] z <| o1 z (r1 1 1 z ty3 z) <| aa [.fa 27 0 0 dq] z <| o1 z (r1 0 0 z iH z) <| aa [.fa 66 0 0 kf] z <| o1 z (r1 0 1 z ty3 z) <| bE H fun f P H => cB z z z z z iw dI z d P fun d1 d2 v x => ?_
    obtain ⟨d3, d4, d5, rfl, Q, m, o⟩ := bW v
    obtain rfl := Q
    obtain ⟨X, Z, rfl⟩ := am m
    obtain ⟨a0, a1, rfl⟩ := am o
    exact o1 z (cV (cs := [vS f.x_, S X f.t_.length Z, S a0 f.y_.length a1]) z z dI (co bor x) z) <| bE H fun d6 a2 H => oq z (qc z uy (fun a c => gw a a2 (dd z (ab m a c) (ab o a c)))) tt2 <| oP z <| bE H fun d7 a3 H => oq z (qc z gK (fun a c => bf a a3)) tt2 <| oP z <| cx <| az <| pT <| ap <| xr 4 z (by cases H; exact q1)
   ·refine aw <| az <| ak <| dJ bT (by kernel_rfl) <| aa [.fa 66 1 1 ly] z <| o1 z (r1 1 1 z ty3 z) <| aa [.fa 27 0 0 dq] z <| o1 z (r1 0 0 z iH z) <| aa [.fa 66 0 0 kf] z <| o1 z (r1 0 1 z ty3 z) <| bE H fun g a4 H => cB z z z z z iw dI z d a4 fun d8 d9 A C => ?_
    obtain ⟨e0, e1, e2, rfl, a5, q, s⟩ := bW A
    obtain rfl := a5
    obtain ⟨a6, a7, rfl⟩ := am q
    obtain ⟨a8, a9, rfl⟩ := am s
    exact o1 z (cV (cs := [vS g.x_, S a6 g.t_.length a7, S a8 g.y_.length a9]) z z dI (co bor C) z) <| bE H fun e3 b0 H => oq z (qc z uy (fun a c => gw a b0 (dd z (ab q a c) (ab s a c)))) tt2 <| oP z <| bE H fun e4 b1 H => oq z (qc z gK (fun a c => bf a b1)) tt2 <| oP z <| cx <| az <| pT <| xr 4 z (by cases H; exact q1)
 ·clear H
  have H := e
  clear e
  generalize (!l) = b2 at H key ⊢
  cases b2
  ·have H := ba z H
   refine aa [.fa 66 0 0 kf] z <| o1 z (r1 0 1 z ty3 z) <| aa [.fa 27 0 0 dq] z <| o1 z (r1 0 0 z iH z) <| aa [.lenS 24 63 iw, .p] z <| bE H fun e5 b3 H => oq z (qc z gK (fun a c => bf a b3)) tt2 <| oP z <| oP z <| ?_
   obtain rfl := ai H
   exact OW.sub key (sb z)
  ·have H := bb z H
   refine aa [.p, .p, .p, .p, .p, .p, .p, .p, .p] z ?_
   obtain rfl := ai H
   exact OW.sub key (sb z)
theorem fP (w : World) {p0 : ae} {p1 : ar} {f : List Value} {r : Int} (H : dF p0 p1 = U r) (v : (aX).rd w [] p0 f) :
    Calls Tryz.prog 73 #[.agg f.toArray, .agg #[I J p1.g_, I J p1.c_]] w (fun en w' => en = .returned (I J r) ∧ Ext [] w w') := by
 obtain ⟨x, A, rfl, d, g⟩ := aI v
 obtain ⟨C, D, rfl⟩ := am d
 obtain ⟨E, F, rfl⟩ := am g
 unfold dF at H
 refine aG Tryz.func73 z Tryz.ntmps73 z (St.init w []) <| sR <| ob _ z fun G => ob _ z fun L => oP z <| nQ <| ak <| sR <| o1 z (rx 0 0 _ z bU z) <| o1 z (rx 0 1 _ z cH z) <| bE H fun M l H => oq z (qc z vy (fun c a => fX c (p1 := p1) l (ah (ab d c a) (ab g c a)))) tt2 <| oP z <| nQ <| cI H z (fun H => ?_) (fun H => ?_)
 ·exact sR <| oP z <| nT <| ap <| xr 4 z (by cases H; exact q1)
 ·refine aw <| az <| ak <| sR <| aa [.fa 66 1 1 ly] z <| o1 z (r1 1 1 z ty3 z) <| oP z <| nQ <| cI H z (fun H => ?_) (fun H => ?_)
  ·refine sR <| aa [.fa 27 0 0 dq] z <| o1 z (r1 0 0 z iH z) <| aa [.fa 66 0 0 kf] z <| o1 z (r1 0 1 z ty3 z) <| bE H fun e m H => cB z z z z z iw dI z d m fun P Q j k => ?_
   obtain ⟨R, X, Z, rfl, o, h, i⟩ := bW j
   obtain rfl := o
   obtain ⟨p, q, rfl⟩ := am h
   obtain ⟨s, t, rfl⟩ := am i
   exact o1 z (cV (cs := [vS e.x_, S p e.t_.length q, S s e.y_.length t]) z z dI (co bor k) z) <| bE H fun a0 u H => oq z (qc z uy (fun c a => gw c u (dd z (ab h c a) (ab i c a)))) tt2 <| oP z <| nT <| ap <| xr 4 z (by cases H; exact q1)
  ·exact aw <| az <| sR <| oP z <| nT <| xr 4 z (by cases H; exact q1)
end Go.Vk
