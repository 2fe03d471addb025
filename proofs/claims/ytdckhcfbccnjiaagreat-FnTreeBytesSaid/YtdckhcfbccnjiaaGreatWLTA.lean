/- The code does what the functions of data say. Printed by program. -/
import Derived.Test.YtdckhcfbccnjiaaGreatRF
import Derived.Test.YtdckhcfbccnjiaaGreatChecked
namespace Go.Vk
open Value renaming int → I, slice → S, pointer → O, bool → B
open IntKind renaming i64 → J, u8 → K
open Bool renaming true → y, false → n
open Option renaming some → U, none → N
open Res renaming box → b, own → W
open Go.Proofs Go.RowKit
set_option maxHeartbeats 4000000
set_option maxRecDepth 100000
def em : Enc bz := xA (cA (js) (cA (ad eI 3) (ad (js) 9))) (fun x => (x.D_, x.A_, x.E_))
theorem eE {w : World} {X : List Nat} {x : bz} {c0 c1 c2 : List Value} (a : (js).rd w X x.D_ c0) (h1 : (ad eI 3).rd w X x.A_ c1) (c : (ad (js) 9).rd w X x.E_ c2) : (em).rd w X x (c0 ++ (c1 ++ c2)) := by
  show (cA (js) (cA (ad eI 3) (ad (js) 9))).rd w X (x.D_, x.A_, x.E_) _
  exact (iu a (iu h1 c))
theorem cG {w : World} {X : List Nat} {x : bz} {cs : List Value} (h : (em).rd w X x cs) : ∃ c0 c1 c2, cs = (c0 ++ (c1 ++ c2)) ∧ (js).rd w X x.D_ c0 ∧ (ad eI 3).rd w X x.A_ c1 ∧ (ad (js) 9).rd w X x.E_ c2 := by
  have h : (cA (js) (cA (ad eI 3) (ad (js) 9))).rd w X (x.D_, x.A_, x.E_) cs := h
  obtain ⟨c0, e, rfl, a, c⟩ := h
  obtain ⟨c1, c2, rfl, h1, d⟩ := c
  exact ⟨c0, c1, c2, z, a, h1, d⟩
theorem tZ {w : World} {a c d : List Nat} {x : bz} {c0 c1 c2 : List Value} (e : (js).own w a x.D_ c0) (h1 : (ad eI 3).own w c x.A_ c1) (f : (ad (js) 9).own w d x.E_ c2) : (em).own w (a ++ (c ++ d)) x (c0 ++ (c1 ++ c2)) := by
  show (cA (js) (cA (ad eI 3) (ad (js) 9))).own w _ (x.D_, x.A_, x.E_) _
  exact (iN e (iN h1 f))
theorem uF {w0 : World} {M : List Nat} {L : List Res} {w : World} {x0 : List UInt8} {x1 : List Int} {a : Option Addr} {c d : Nat} {i : List Nat} {x2 : List (List UInt8)} {e : Option Addr} {f g : Nat} {j : List Nat} (idx : List Nat) (h : St w0 M L w) (hs : ki L idx = [W (ad eI 3) i x1 [S a c d], W (ad (js) 9) j x2 [S e f g]]) (hn : qV idx = y) :
    ∃ F, St w0 M (lU L idx ++ [W (em) F (bz.mk x0 x1 x2) [vS x0, S a c d, S e f g]]) w := by
  have k : (ad eI 3).own w i x1 [S a c d] := h.ok' (nI (L := L) (is := idx) (by rw [hs]; simp : W (ad eI 3) i x1 [S a c d] ∈ ki L idx))
  have o1 : (ad (js) 9).own w j x2 [S e f g] := h.ok' (nI (L := L) (is := idx) (by rw [hs]; simp : W (ad (js) 9) j x2 [S e f g] ∈ ki L idx))
  have ho := (tZ (x := (bz.mk x0 x1 x2)) (⟨z, z⟩ : (js).own w [] _ _) k o1)
  refine ⟨_, h.re idx [W (em) _ (bz.mk x0 x1 x2) [vS x0, S a c d, S e f g]] hn ?_ (fun s hs => by rw [List.mem_singleton.1 hs]; exact ho)⟩
  rw [hs]
  simp [dx, W]
def bk : Enc ae := xA (cA (ad (em) 90) (ad (js) 9)) (fun x => (x.f_, x.n_))
theorem ah {w : World} {X : List Nat} {x : ae} {c0 c1 : List Value} (a : (ad (em) 90).rd w X x.f_ c0) (h1 : (ad (js) 9).rd w X x.n_ c1) : (bk).rd w X x (c0 ++ c1) := by
  show (cA (ad (em) 90) (ad (js) 9)).rd w X (x.f_, x.n_) _
  exact (iu a h1)
theorem aX {w : World} {X : List Nat} {x : ae} {cs : List Value} (h : (bk).rd w X x cs) : ∃ c0 c1, cs = (c0 ++ c1) ∧ (ad (em) 90).rd w X x.f_ c0 ∧ (ad (js) 9).rd w X x.n_ c1 := by
  have h : (cA (ad (em) 90) (ad (js) 9)).rd w X (x.f_, x.n_) cs := h
  obtain ⟨c0, c1, rfl, a, h1⟩ := h
  exact ⟨c0, c1, z, a, h1⟩
def bD : Enc au := lK (fun x => [I J x.j_, I J x.c_]) 2 (fun _ => z) (by intro x u hu; simp only [List.mem_cons, List.not_mem_nil, or_false] at hu; rcases hu with rfl | rfl <;> rfl)
def cb : Enc ar := xA (cA (ad eI 3) (ad (ad eI 3) 45)) (fun x => (x.d_, x.b_))
theorem aH {w : World} {X : List Nat} {x : ar} {c0 c1 : List Value} (a : (ad eI 3).rd w X x.d_ c0) (h1 : (ad (ad eI 3) 45).rd w X x.b_ c1) : (cb).rd w X x (c0 ++ c1) := by
  show (cA (ad eI 3) (ad (ad eI 3) 45)).rd w X (x.d_, x.b_) _
  exact (iu a h1)
theorem aS {w : World} {X : List Nat} {x : ar} {cs : List Value} (h : (cb).rd w X x cs) : ∃ c0 c1, cs = (c0 ++ c1) ∧ (ad eI 3).rd w X x.d_ c0 ∧ (ad (ad eI 3) 45).rd w X x.b_ c1 := by
  have h : (cA (ad eI 3) (ad (ad eI 3) 45)).rd w X (x.d_, x.b_) cs := h
  obtain ⟨c0, c1, rfl, a, h1⟩ := h
  exact ⟨c0, c1, z, a, h1⟩
theorem tn {w : World} {a c : List Nat} {x : ar} {c0 c1 : List Value} (d : (ad eI 3).own w a x.d_ c0) (h1 : (ad (ad eI 3) 45).own w c x.b_ c1) : (cb).own w (a ++ c) x (c0 ++ c1) := by
  show (cA (ad eI 3) (ad (ad eI 3) 45)).own w _ (x.d_, x.b_) _
  exact (iN d h1)
theorem tf {w : World} {F : List Nat} {x : ar} {cs : List Value} (h : (cb).own w F x cs) : ∃ a c c0 c1, F = (a ++ c) ∧ cs = (c0 ++ c1) ∧ (ad eI 3).own w a x.d_ c0 ∧ (ad (ad eI 3) 45).own w c x.b_ c1 := by
  have h : (cA (ad eI 3) (ad (ad eI 3) 45)).own w F (x.d_, x.b_) cs := h
  obtain ⟨a, c, c0, c1, rfl, rfl, d, h1⟩ := h
  exact ⟨a, c, c0, c1, z, z, d, h1⟩
def aC : Enc aG := xA (cA (rh) (cA (bD) (cA (ad eI 3) (cA eI (cA (cb) (cA eI (cA (ad eI 3) (cA eI (cA eI eI))))))))) (fun x => (x.s_, x.k_, x.t_, x.x_, x.m_, x.v_, x.f_, x.l_, x.p_, x.q_))
theorem fW {w : World} {X : List Nat} {x : aG} {c0 c1 c2 c3 c4 c5 c6 c7 c8 c9 : List Value} (a : (rh).rd w X x.s_ c0) (h1 : (bD).rd w X x.k_ c1) (c : (ad eI 3).rd w X x.t_ c2) (d : eI.rd w X x.x_ c3) (e : (cb).rd w X x.m_ c4) (f : eI.rd w X x.v_ c5) (g : (ad eI 3).rd w X x.f_ c6) (h : eI.rd w X x.l_ c7) (i : eI.rd w X x.p_ c8) (j : eI.rd w X x.q_ c9) : (aC).rd w X x (c0 ++ (c1 ++ (c2 ++ (c3 ++ (c4 ++ (c5 ++ (c6 ++ (c7 ++ (c8 ++ c9))))))))) := by
  show (cA (rh) (cA (bD) (cA (ad eI 3) (cA eI (cA (cb) (cA eI (cA (ad eI 3) (cA eI (cA eI eI))))))))).rd w X (x.s_, x.k_, x.t_, x.x_, x.m_, x.v_, x.f_, x.l_, x.p_, x.q_) _
  exact (iu a (iu h1 (iu c (iu d (iu e (iu f (iu g (iu h (iu i j)))))))))
theorem bo {w : World} {X : List Nat} {x : aG} {cs : List Value} (h : (aC).rd w X x cs) : ∃ c0 c1 c2 c3 c4 c5 c6 c7 c8 c9, cs = (c0 ++ (c1 ++ (c2 ++ (c3 ++ (c4 ++ (c5 ++ (c6 ++ (c7 ++ (c8 ++ c9))))))))) ∧ (rh).rd w X x.s_ c0 ∧ (bD).rd w X x.k_ c1 ∧ (ad eI 3).rd w X x.t_ c2 ∧ eI.rd w X x.x_ c3 ∧ (cb).rd w X x.m_ c4 ∧ eI.rd w X x.v_ c5 ∧ (ad eI 3).rd w X x.f_ c6 ∧ eI.rd w X x.l_ c7 ∧ eI.rd w X x.p_ c8 ∧ eI.rd w X x.q_ c9 := by
  have h : (cA (rh) (cA (bD) (cA (ad eI 3) (cA eI (cA (cb) (cA eI (cA (ad eI 3) (cA eI (cA eI eI))))))))).rd w X (x.s_, x.k_, x.t_, x.x_, x.m_, x.v_, x.f_, x.l_, x.p_, x.q_) cs := h
  obtain ⟨c0, t, rfl, a, c⟩ := h
  obtain ⟨c1, u, rfl, h1, r1⟩ := c
  obtain ⟨c2, v, rfl, d, e⟩ := r1
  obtain ⟨c3, A, rfl, f, g⟩ := e
  obtain ⟨c4, C, rfl, i, j⟩ := g
  obtain ⟨c5, D, rfl, k, l⟩ := j
  obtain ⟨c6, E, rfl, m, o⟩ := l
  obtain ⟨c7, F, rfl, p, q⟩ := o
  obtain ⟨c8, c9, rfl, r, s⟩ := q
  exact ⟨c0, c1, c2, c3, c4, c5, c6, c7, c8, c9, z, a, h1, d, f, i, k, m, p, r, s⟩
theorem uo {w : World} {a c d e f g h i j k : List Nat} {x : aG} {c0 c1 c2 c3 c4 c5 c6 c7 c8 c9 : List Value} (l : (rh).own w a x.s_ c0) (h1 : (bD).own w c x.k_ c1) (m : (ad eI 3).own w d x.t_ c2) (o : eI.own w e x.x_ c3) (p : (cb).own w f x.m_ c4) (q : eI.own w g x.v_ c5) (r : (ad eI 3).own w h x.f_ c6) (s : eI.own w i x.l_ c7) (t : eI.own w j x.p_ c8) (u : eI.own w k x.q_ c9) : (aC).own w (a ++ (c ++ (d ++ (e ++ (f ++ (g ++ (h ++ (i ++ (j ++ k))))))))) x (c0 ++ (c1 ++ (c2 ++ (c3 ++ (c4 ++ (c5 ++ (c6 ++ (c7 ++ (c8 ++ c9))))))))) := by
  show (cA (rh) (cA (bD) (cA (ad eI 3) (cA eI (cA (cb) (cA eI (cA (ad eI 3) (cA eI (cA eI eI))))))))).own w _ (x.s_, x.k_, x.t_, x.x_, x.m_, x.v_, x.f_, x.l_, x.p_, x.q_) _
  exact (iN l (iN h1 (iN m (iN o (iN p (iN q (iN r (iN s (iN t u)))))))))
theorem uq {w : World} {F : List Nat} {x : aG} {cs : List Value} (h : (aC).own w F x cs) : ∃ a c d e f g i j k l c0 c1 c2 c3 c4 c5 c6 c7 c8 c9, F = (a ++ (c ++ (d ++ (e ++ (f ++ (g ++ (i ++ (j ++ (k ++ l))))))))) ∧ cs = (c0 ++ (c1 ++ (c2 ++ (c3 ++ (c4 ++ (c5 ++ (c6 ++ (c7 ++ (c8 ++ c9))))))))) ∧ (rh).own w a x.s_ c0 ∧ (bD).own w c x.k_ c1 ∧ (ad eI 3).own w d x.t_ c2 ∧ eI.own w e x.x_ c3 ∧ (cb).own w f x.m_ c4 ∧ eI.own w g x.v_ c5 ∧ (ad eI 3).own w i x.f_ c6 ∧ eI.own w j x.l_ c7 ∧ eI.own w k x.p_ c8 ∧ eI.own w l x.q_ c9 := by
  have h : (cA (rh) (cA (bD) (cA (ad eI 3) (cA eI (cA (cb) (cA eI (cA (ad eI 3) (cA eI (cA eI eI))))))))).own w F (x.s_, x.k_, x.t_, x.x_, x.m_, x.v_, x.f_, x.l_, x.p_, x.q_) cs := h
  obtain ⟨a, M, c0, P, rfl, rfl, m, o⟩ := h
  obtain ⟨c, Q, c1, R, rfl, rfl, h1, r1⟩ := o
  obtain ⟨d, X, c2, Z, rfl, rfl, p, q⟩ := r1
  obtain ⟨e, G3, c3, d3, rfl, rfl, r, s⟩ := q
  obtain ⟨f, G4, c4, d4, rfl, rfl, t, u⟩ := s
  obtain ⟨g, G5, c5, d5, rfl, rfl, v, A⟩ := u
  obtain ⟨i, G6, c6, d6, rfl, rfl, C, D⟩ := A
  obtain ⟨j, G7, c7, d7, rfl, rfl, E, G⟩ := D
  obtain ⟨k, l, c8, c9, rfl, rfl, H, L⟩ := G
  exact ⟨a, c, d, e, f, g, i, j, k, l, c0, c1, c2, c3, c4, c5, c6, c7, c8, c9, z, z, m, h1, p, r, t, v, C, E, H, L⟩
theorem dI {w0 : World} {M : List Nat} {L : List Res} {w : World} {F : List Nat} {x : aG} {cs : List Value} {i : Nat} (h : St w0 M L w) (hi : L[i]? = U (W (aC) F x cs)) :
    ∃ (a_1 : Option Addr) (k_1 : Nat) (F_1 : List Nat), ∃ (a_2 : Option Addr) (k_2 : Nat) (F_2 : List Nat), ∃ (a_3 : Option Addr) (k_3 : Nat) (F_3 : List Nat), ∃ (a_4 : Option Addr) (k_4 : Nat) (F_4 : List Nat), cs = [B x.s_, I J x.k_.j_, I J x.k_.c_, S a_1 (x.t_).length k_1, I J x.x_, S a_2 (x.m_.d_).length k_2, S a_3 (x.m_.b_).length k_3, I J x.v_, S a_4 (x.f_).length k_4, I J x.l_, I J x.p_, I J x.q_] ∧ St w0 M (lU L [i] ++ [W (ad eI 3) F_1 x.t_ [S a_1 (x.t_).length k_1], W (ad eI 3) F_2 x.m_.d_ [S a_2 (x.m_.d_).length k_2], W (ad (ad eI 3) 45) F_3 x.m_.b_ [S a_3 (x.m_.b_).length k_3], W (ad eI 3) F_4 x.f_ [S a_4 (x.f_).length k_4]]) w := by
  obtain ⟨hok, _, _⟩ := h.one hi
  have hok : (aC).own w F x cs := hok
  obtain ⟨F1_0, F1_1, F1_2, F1_3, F1_4, F1_5, F1_6, F1_7, F1_8, F1_9, c1_0, c1_1, c1_2, c1_3, c1_4, c1_5, c1_6, c1_7, c1_8, c1_9, rfl, rfl, h1_0, h1_1, h1_2, h1_3, h1_4, h1_5, h1_6, h1_7, h1_8, h1_9⟩ := uq hok
  obtain ⟨rfl, rfl⟩ : F1_0 = [] ∧ c1_0 = [B x.s_] := h1_0
  obtain ⟨rfl, rfl⟩ : F1_1 = [] ∧ c1_1 = [I J x.k_.j_, I J x.k_.c_] := h1_1
  obtain ⟨a, c, rfl⟩ := pH h1_2
  obtain ⟨rfl, rfl⟩ : F1_3 = [] ∧ c1_3 = [I J x.x_] := h1_3
  obtain ⟨F3_0, F3_1, c3_0, c3_1, rfl, rfl, h3_0, h3_1⟩ := tf h1_4
  obtain ⟨d, e, rfl⟩ := pH h3_0
  obtain ⟨f, g, rfl⟩ := pH h3_1
  obtain ⟨rfl, rfl⟩ : F1_5 = [] ∧ c1_5 = [I J x.v_] := h1_5
  obtain ⟨j, k, rfl⟩ := pH h1_6
  obtain ⟨rfl, rfl⟩ : F1_7 = [] ∧ c1_7 = [I J x.l_] := h1_7
  obtain ⟨rfl, rfl⟩ : F1_8 = [] ∧ c1_8 = [I J x.p_] := h1_8
  obtain ⟨rfl, rfl⟩ : F1_9 = [] ∧ c1_9 = [I J x.q_] := h1_9
  refine ⟨a, c, F1_2, d, e, F3_0, f, g, F3_1, j, k, F1_6, z, h.re [i] _ z ?_ ?_⟩
  · simp [jX, oc, hi, dx, W]
  · intro s hs; simp only [List.mem_cons, List.not_mem_nil, or_false] at hs; rcases hs with rfl | rfl | rfl | rfl
    · exact h1_2
    · exact h3_0
    · exact h3_1
    · exact h1_6
theorem cm {w0 : World} {M : List Nat} {L : List Res} {w : World} {x0 : Bool} {x1 : Int} {x2 : Int} {d : List Int} {f : Option Addr} {g i : Nat} {u : List Nat} {x4 : Int} {a : List Int} {j : Option Addr} {k l : Nat} {v : List Nat} {c : List (List Int)} {m : Option Addr} {o p : Nat} {A : List Nat} {x7 : Int} {e : List Int} {q : Option Addr} {r t : Nat} {C : List Nat} {x9 : Int} {x10 : Int} {x11 : Int} (idx : List Nat) (h : St w0 M L w) (hs : ki L idx = [W (ad eI 3) u d [S f g i], W (ad eI 3) v a [S j k l], W (ad (ad eI 3) 45) A c [S m o p], W (ad eI 3) C e [S q r t]]) (hn : qV idx = y) :
    ∃ F, St w0 M (lU L idx ++ [W (aC) F (aG.mk x0 (au.mk x1 x2) d x4 (ar.mk a c) x7 e x9 x10 x11) [B x0, I J x1, I J x2, S f g i, I J x4, S j k l, S m o p, I J x7, S q r t, I J x9, I J x10, I J x11]]) w := by
  have D : (ad eI 3).own w u d [S f g i] := h.ok' (nI (L := L) (is := idx) (by rw [hs]; simp : W (ad eI 3) u d [S f g i] ∈ ki L idx))
  have o1 : (ad eI 3).own w v a [S j k l] := h.ok' (nI (L := L) (is := idx) (by rw [hs]; simp : W (ad eI 3) v a [S j k l] ∈ ki L idx))
  have E : (ad (ad eI 3) 45).own w A c [S m o p] := h.ok' (nI (L := L) (is := idx) (by rw [hs]; simp : W (ad (ad eI 3) 45) A c [S m o p] ∈ ki L idx))
  have G : (ad eI 3).own w C e [S q r t] := h.ok' (nI (L := L) (is := idx) (by rw [hs]; simp : W (ad eI 3) C e [S q r t] ∈ ki L idx))
  have ho := (uo (x := (aG.mk x0 (au.mk x1 x2) d x4 (ar.mk a c) x7 e x9 x10 x11)) (⟨z, z⟩ : (rh).own w [] _ _) (⟨z, z⟩ : (bD).own w [] _ _) D (⟨z, z⟩ : eI.own w [] _ _) (tn (x := (ar.mk a c)) o1 E) (⟨z, z⟩ : eI.own w [] _ _) G (⟨z, z⟩ : eI.own w [] _ _) (⟨z, z⟩ : eI.own w [] _ _) (⟨z, z⟩ : eI.own w [] _ _))
  refine ⟨_, h.re idx [W (aC) _ (aG.mk x0 (au.mk x1 x2) d x4 (ar.mk a c) x7 e x9 x10 x11) [B x0, I J x1, I J x2, S f g i, I J x4, S j k l, S m o p, I J x7, S q r t, I J x9, I J x10, I J x11]] hn ?_ (fun s hs => by rw [List.mem_singleton.1 hs]; exact ho)⟩
  rw [hs]
  simp [dx, W]
def cW : Enc ai := xA (cA (ad (aC) 60) eI) (fun x => (x.a_, x.g_))
theorem aW {w : World} {X : List Nat} {x : ai} {c0 c1 : List Value} (a : (ad (aC) 60).rd w X x.a_ c0) (h1 : eI.rd w X x.g_ c1) : (cW).rd w X x (c0 ++ c1) := by
  show (cA (ad (aC) 60) eI).rd w X (x.a_, x.g_) _
  exact (iu a h1)
theorem cr {w : World} {X : List Nat} {x : ai} {cs : List Value} (h : (cW).rd w X x cs) : ∃ c0 c1, cs = (c0 ++ c1) ∧ (ad (aC) 60).rd w X x.a_ c0 ∧ eI.rd w X x.g_ c1 := by
  have h : (cA (ad (aC) 60) eI).rd w X (x.a_, x.g_) cs := h
  obtain ⟨c0, c1, rfl, a, h1⟩ := h
  exact ⟨c0, c1, z, a, h1⟩
def gc : Enc bB := xA (cA (ad eI 3) eI) (fun x => (x.w_, x.y_))
theorem bV {w : World} {X : List Nat} {x : bB} {c0 c1 : List Value} (a : (ad eI 3).rd w X x.w_ c0) (h1 : eI.rd w X x.y_ c1) : (gc).rd w X x (c0 ++ c1) := by
  show (cA (ad eI 3) eI).rd w X (x.w_, x.y_) _
  exact (iu a h1)
theorem lb {w : World} {X : List Nat} {x : bB} {cs : List Value} (h : (gc).rd w X x cs) : ∃ c0 c1, cs = (c0 ++ c1) ∧ (ad eI 3).rd w X x.w_ c0 ∧ eI.rd w X x.y_ c1 := by
  have h : (cA (ad eI 3) eI).rd w X (x.w_, x.y_) cs := h
  obtain ⟨c0, c1, rfl, a, h1⟩ := h
  exact ⟨c0, c1, z, a, h1⟩
theorem vC {w : World} {a c : List Nat} {x : bB} {c0 c1 : List Value} (d : (ad eI 3).own w a x.w_ c0) (h1 : eI.own w c x.y_ c1) : (gc).own w (a ++ c) x (c0 ++ c1) := by
  show (cA (ad eI 3) eI).own w _ (x.w_, x.y_) _
  exact (iN d h1)
theorem wF {w0 : World} {M : List Nat} {L : List Res} {w : World} {x0 : List Int} {a : Option Addr} {c d : Nat} {e : List Nat} {x1 : Int} (idx : List Nat) (h : St w0 M L w) (hs : ki L idx = [W (ad eI 3) e x0 [S a c d]]) (hn : qV idx = y) :
    ∃ F, St w0 M (lU L idx ++ [W (gc) F (bB.mk x0 x1) [S a c d, I J x1]]) w := by
  have f : (ad eI 3).own w e x0 [S a c d] := h.ok' (nI (L := L) (is := idx) (by rw [hs]; simp : W (ad eI 3) e x0 [S a c d] ∈ ki L idx))
  have ho := (vC (x := (bB.mk x0 x1)) f (⟨z, z⟩ : eI.own w [] _ _))
  refine ⟨_, h.re idx [W (gc) _ (bB.mk x0 x1) [S a c d, I J x1]] hn ?_ (fun s hs => by rw [List.mem_singleton.1 hs]; exact ho)⟩
  rw [hs]
  simp [dx, W]
def jp : Enc bf := xA (cA (ad e8 5) eI) (fun x => (x.r_, x.c_))
theorem bt {w : World} {X : List Nat} {x : bf} {c0 c1 : List Value} (a : (ad e8 5).rd w X x.r_ c0) (h1 : eI.rd w X x.c_ c1) : (jp).rd w X x (c0 ++ c1) := by
  show (cA (ad e8 5) eI).rd w X (x.r_, x.c_) _
  exact (iu a h1)
theorem iV {w : World} {X : List Nat} {x : bf} {cs : List Value} (h : (jp).rd w X x cs) : ∃ c0 c1, cs = (c0 ++ c1) ∧ (ad e8 5).rd w X x.r_ c0 ∧ eI.rd w X x.c_ c1 := by
  have h : (cA (ad e8 5) eI).rd w X (x.r_, x.c_) cs := h
  obtain ⟨c0, c1, rfl, a, h1⟩ := h
  exact ⟨c0, c1, z, a, h1⟩
def bP : Enc bv := lK (fun x => [I J x.k_.j_, I J x.k_.c_, I J x.z_.u_, I J x.z_.B_]) 4 (fun _ => z) (by intro x u hu; simp only [List.mem_cons, List.not_mem_nil, or_false] at hu; rcases hu with rfl | rfl | rfl | rfl <;> rfl)
def fR : Enc aE := xA (ad (ad eI 3) 45) (fun x => x.o_)
theorem fH {w : World} {X : List Nat} {x : aE} {c0 : List Value} (a : (ad (ad eI 3) 45).rd w X x.o_ c0) : (fR).rd w X x c0 := by
  show (ad (ad eI 3) 45).rd w X x.o_ _
  exact a
theorem fK {w : World} {X : List Nat} {x : aE} {cs : List Value} (h : (fR).rd w X x cs) : ∃ c0, cs = c0 ∧ (ad (ad eI 3) 45).rd w X x.o_ c0 := by
  have h : (ad (ad eI 3) 45).rd w X x.o_ cs := h
  exact ⟨cs, z, h⟩
theorem fQ : isSl Tryz.prog 22 5 := lZ (by kernel_rfl)
theorem ty5 : fC Tryz.prog 5 n 1 1 [I K 0] := fA (by kernel_rfl)
theorem us5 : (Tryz.prog.underlying 5).isSome = y := by kernel_rfl
theorem in3 : uy Tryz.prog 3 J := uX (by kernel_rfl)
theorem Gb : fC Tryz.prog 77 y 3 40 [S N 0 0, I J 0, I J 0] := fA (by kernel_rfl)
theorem Gy : pY Tryz.prog 77 [(0, 1), (1, 1), (2, 1)] := kc (by kernel_rfl)
theorem xe : iP Tryz.prog 77 2 2 := cx (by kernel_rfl)
theorem ty3 : fC Tryz.prog 3 n 1 8 [I J 0] := fA (by kernel_rfl)
theorem bU : Tryz.prog.follows .mixedOrders = y := by kernel_rfl
theorem wD : iP Tryz.prog 77 1 1 := cx (by kernel_rfl)
theorem BE : iP Tryz.prog 77 0 0 := cx (by kernel_rfl)
theorem sN : fC Tryz.prog 22 n 1 24 [S N 0 0] := fA (by kernel_rfl)
theorem zZ : bY Tryz.prog 56 := ⟨Tryz.f56, Tryz.func56, z, by decide⟩
theorem oX : bY Tryz.prog 34 := ⟨Tryz.f34, Tryz.func34, z, by decide⟩
theorem aT : isSl Tryz.prog 45 3 := lZ (by kernel_rfl)
theorem km : fC Tryz.prog 90 y 3 64 [vS [], S N 0 0, S N 0 0] := fA (by kernel_rfl)
theorem lD : isSl Tryz.prog 71 9 := lZ (by kernel_rfl)
theorem ty9 : fC Tryz.prog 9 n 1 16 [vS []] := fA (by kernel_rfl)
theorem GE : pY Tryz.prog 90 [(0, 1), (1, 1), (2, 1)] := kc (by kernel_rfl)
theorem sV : bY Tryz.prog 18 := ⟨Tryz.f18, Tryz.func18, z, by decide⟩
theorem jA : bY Tryz.prog 35 := ⟨Tryz.f35, Tryz.func35, z, by decide⟩
theorem mU : iP Tryz.prog 90 1 1 := cx (by kernel_rfl)
theorem bG : fC Tryz.prog 45 n 1 24 [S N 0 0] := fA (by kernel_rfl)
theorem sT : iP Tryz.prog 90 2 2 := cx (by kernel_rfl)
theorem nJ : fC Tryz.prog 71 n 1 24 [S N 0 0] := fA (by kernel_rfl)
theorem cV : fC Tryz.prog 73 y 2 48 [S N 0 0, S N 0 0] := fA (by kernel_rfl)
theorem Gz : pY Tryz.prog 73 [(0, 1), (1, 1)] := kc (by kernel_rfl)
theorem ks : iP Tryz.prog 73 1 1 := cx (by kernel_rfl)
theorem fE : iP Tryz.prog 73 0 0 := cx (by kernel_rfl)
theorem lC : fC Tryz.prog 70 n 1 24 [S N 0 0] := fA (by kernel_rfl)
theorem GN : bY Tryz.prog 48 := ⟨Tryz.f48, Tryz.func48, z, by decide⟩
theorem lF : isSl Tryz.prog 70 90 := lZ (by kernel_rfl)
theorem ou : fC Tryz.prog 103 y 7 56 [I J 0, I J 0, I J 0, I J 0, I J 0, I J 0, B n] := fA (by kernel_rfl)
theorem EH : pY Tryz.prog 103 [(0, 1), (1, 1), (2, 1), (3, 1), (4, 1), (5, 1), (6, 1)] := kc (by kernel_rfl)
theorem st9 : zt Tryz.prog 9 := Bz (by kernel_rfl)
theorem gN : bY Tryz.prog 39 := ⟨Tryz.f39, Tryz.func39, z, by decide⟩
theorem DR : bY Tryz.prog 109 := ⟨Tryz.f109, Tryz.func109, z, by decide⟩
theorem yR : iP Tryz.prog 90 0 0 := cx (by kernel_rfl)
theorem DB : bY Tryz.prog 108 := ⟨Tryz.f108, Tryz.func108, z, by decide⟩
theorem Fq : bY Tryz.prog 95 := ⟨Tryz.f95, Tryz.func95, z, by decide⟩
theorem zV : bY Tryz.prog 92 := ⟨Tryz.f92, Tryz.func92, z, by decide⟩
theorem cK : fC Tryz.prog 58 y 2 48 [S N 0 0, S N 0 0] := fA (by kernel_rfl)
theorem CV : pY Tryz.prog 58 [(0, 1), (1, 1)] := kc (by kernel_rfl)
theorem dt : iP Tryz.prog 58 1 1 := cx (by kernel_rfl)
theorem cY : fC Tryz.prog 28 n 1 24 [S N 0 0] := fA (by kernel_rfl)
theorem wA : bY Tryz.prog 78 := ⟨Tryz.f78, Tryz.func78, z, by decide⟩
theorem cC : isSl Tryz.prog 28 45 := lZ (by kernel_rfl)
theorem br : fC Tryz.prog 26 y 2 32 [S N 0 0, I J 0] := fA (by kernel_rfl)
theorem zY : bY Tryz.prog 77 := ⟨Tryz.f77, Tryz.func77, z, by decide⟩
theorem zX : pY Tryz.prog 26 [(0, 1), (1, 1)] := kc (by kernel_rfl)
theorem Cu : bY Tryz.prog 74 := ⟨Tryz.f74, Tryz.func74, z, by decide⟩
theorem bZ : fC Tryz.prog 60 y 12 160 [B n, I J 0, I J 0, S N 0 0, I J 0, S N 0 0, S N 0 0, I J 0, S N 0 0, I J 0, I J 0, I J 0] := fA (by kernel_rfl)
theorem pN : pY Tryz.prog 60 [(0, 1), (1, 2), (3, 1), (4, 1), (5, 2), (7, 1), (8, 1), (9, 1), (10, 1), (11, 1)] := kc (by kernel_rfl)
theorem dW : isSl Tryz.prog 24 60 := lZ (by kernel_rfl)
theorem jU : fC Tryz.prog 113 y 2 32 [S N 0 0, I J 0] := fA (by kernel_rfl)
theorem Fz : pY Tryz.prog 113 [(0, 1), (1, 1)] := kc (by kernel_rfl)
theorem me : iP Tryz.prog 113 0 0 := cx (by kernel_rfl)
theorem oI : iP Tryz.prog 113 1 1 := cx (by kernel_rfl)
theorem us3 : (Tryz.prog.underlying 3).isSome = y := by kernel_rfl
theorem in5 : uy Tryz.prog 5 K := uX (by kernel_rfl)
theorem jc : iP Tryz.prog 58 0 0 := cx (by kernel_rfl)
theorem wq : bY Tryz.prog 94 := ⟨Tryz.f94, Tryz.func94, z, by decide⟩
theorem kL : iP Tryz.prog 60 1 1 := cx (by kernel_rfl)
theorem cL : fC Tryz.prog 56 y 2 16 [I J 0, I J 0] := fA (by kernel_rfl)
theorem xG : pY Tryz.prog 56 [(0, 1), (1, 1)] := kc (by kernel_rfl)
theorem FG (a c : Int) (d e : Int) : BH Tryz.prog 56 [I J a, I J d] [I J c, I J e] = U (a == c && (d == e && y)) := by kernel_rfl
theorem iX : iP Tryz.prog 60 2 3 := cx (by kernel_rfl)
theorem pb : iP Tryz.prog 60 3 4 := cx (by kernel_rfl)
theorem ep : iP Tryz.prog 60 4 5 := cx (by kernel_rfl)
theorem mM : iP Tryz.prog 60 6 8 := cx (by kernel_rfl)
theorem lE : iP Tryz.prog 60 5 7 := cx (by kernel_rfl)
theorem Ci : bY Tryz.prog 85 := ⟨Tryz.f85, Tryz.func85, z, by decide⟩
theorem lj : iP Tryz.prog 56 0 0 := cx (by kernel_rfl)
theorem oB : iP Tryz.prog 56 1 1 := cx (by kernel_rfl)
theorem xF : bY Tryz.prog 73 := ⟨Tryz.f73, Tryz.func73, z, by decide⟩
theorem bR : iP Tryz.prog 26 0 0 := cx (by kernel_rfl)
theorem ec : fC Tryz.prog 24 n 1 24 [S N 0 0] := fA (by kernel_rfl)
theorem yT : bY Tryz.prog 88 := ⟨Tryz.f88, Tryz.func88, z, by decide⟩
theorem nw : iP Tryz.prog 60 8 10 := cx (by kernel_rfl)
theorem lH : iP Tryz.prog 26 1 1 := cx (by kernel_rfl)
theorem ky : iP Tryz.prog 60 7 9 := cx (by kernel_rfl)
theorem nx : iP Tryz.prog 60 9 11 := cx (by kernel_rfl)
theorem mw : iP Tryz.prog 60 0 0 := cx (by kernel_rfl)
theorem ty4 : fC Tryz.prog 4 n 1 1 [B n] := fA (by kernel_rfl)
theorem Fk : bY Tryz.prog 110 := ⟨Tryz.f110, Tryz.func110, z, by decide⟩
theorem EE : bY Tryz.prog 111 := ⟨Tryz.f111, Tryz.func111, z, by decide⟩
theorem EY : bY Tryz.prog 112 := ⟨Tryz.f112, Tryz.func112, z, by decide⟩
theorem wr : iP Tryz.prog 103 0 0 := cx (by kernel_rfl)
theorem wR : iP Tryz.prog 103 1 1 := cx (by kernel_rfl)
theorem zB : iP Tryz.prog 103 2 2 := cx (by kernel_rfl)
theorem xk : iP Tryz.prog 103 3 3 := cx (by kernel_rfl)
theorem xb : iP Tryz.prog 103 4 4 := cx (by kernel_rfl)
theorem sg : iP Tryz.prog 103 5 5 := cx (by kernel_rfl)
theorem FR : bY Tryz.prog 113 := ⟨Tryz.f113, Tryz.func113, z, by decide⟩
theorem AA : bY Tryz.prog 96 := ⟨Tryz.f96, Tryz.func96, z, by decide⟩
theorem Ed : bY Tryz.prog 97 := ⟨Tryz.f97, Tryz.func97, z, by decide⟩
theorem GM : bY Tryz.prog 98 := ⟨Tryz.f98, Tryz.func98, z, by decide⟩
theorem Fn : bY Tryz.prog 99 := ⟨Tryz.f99, Tryz.func99, z, by decide⟩
theorem qQ : iP Tryz.prog 117 0 0 := cx (by kernel_rfl)
theorem pz : iP Tryz.prog 117 1 1 := cx (by kernel_rfl)
theorem EP : bY Tryz.prog 93 := ⟨Tryz.f93, Tryz.func93, z, by decide⟩
theorem Ff : bY Tryz.prog 86 := ⟨Tryz.f86, Tryz.func86, z, by decide⟩
theorem bN : fC Tryz.prog 117 y 2 32 [S N 0 0, I J 0] := fA (by kernel_rfl)
theorem DQ : pY Tryz.prog 117 [(0, 1), (1, 1)] := kc (by kernel_rfl)
theorem Ce : bY Tryz.prog 41 := ⟨Tryz.f41, Tryz.func41, z, by decide⟩
theorem DH : bY Tryz.prog 126 := ⟨Tryz.f126, Tryz.func126, z, by decide⟩
theorem Ew : bY Tryz.prog 80 := ⟨Tryz.f80, Tryz.func80, z, by decide⟩
theorem EF : bY Tryz.prog 114 := ⟨Tryz.f114, Tryz.func114, z, by decide⟩
theorem Fd : bY Tryz.prog 100 := ⟨Tryz.f100, Tryz.func100, z, by decide⟩
theorem oa : isSl Tryz.prog 120 56 := lZ (by kernel_rfl)
theorem nO : iP Tryz.prog 153 0 0 := cx (by kernel_rfl)
theorem na : iP Tryz.prog 153 1 1 := cx (by kernel_rfl)
theorem ck : fC Tryz.prog 153 y 2 16 [I J 0, I J 0] := fA (by kernel_rfl)
theorem wh : bY Tryz.prog 129 := ⟨Tryz.f129, Tryz.func129, z, by decide⟩
theorem tF : pY Tryz.prog 153 [(0, 1), (1, 1)] := kc (by kernel_rfl)
theorem Fo : bY Tryz.prog 146 := ⟨Tryz.f146, Tryz.func146, z, by decide⟩
theorem DJ : bY Tryz.prog 121 := ⟨Tryz.f121, Tryz.func121, z, by decide⟩
theorem zx : bY Tryz.prog 122 := ⟨Tryz.f122, Tryz.func122, z, by decide⟩
theorem DF : bY Tryz.prog 144 := ⟨Tryz.f144, Tryz.func144, z, by decide⟩
theorem ES : bY Tryz.prog 145 := ⟨Tryz.f145, Tryz.func145, z, by decide⟩
theorem wg : bY Tryz.prog 138 := ⟨Tryz.f138, Tryz.func138, z, by decide⟩
theorem DI : bY Tryz.prog 143 := ⟨Tryz.f143, Tryz.func143, z, by decide⟩
theorem DM : bY Tryz.prog 141 := ⟨Tryz.f141, Tryz.func141, z, by decide⟩
theorem xC : bY Tryz.prog 133 := ⟨Tryz.f133, Tryz.func133, z, by decide⟩
theorem Fx : bY Tryz.prog 139 := ⟨Tryz.f139, Tryz.func139, z, by decide⟩
theorem Bh : bY Tryz.prog 140 := ⟨Tryz.f140, Tryz.func140, z, by decide⟩
theorem vl : bY Tryz.prog 131 := ⟨Tryz.f131, Tryz.func131, z, by decide⟩
theorem Cb : bY Tryz.prog 130 := ⟨Tryz.f130, Tryz.func130, z, by decide⟩
theorem FJ : bY Tryz.prog 136 := ⟨Tryz.f136, Tryz.func136, z, by decide⟩
theorem BI : bY Tryz.prog 137 := ⟨Tryz.f137, Tryz.func137, z, by decide⟩
theorem xT : bY Tryz.prog 117 := ⟨Tryz.f117, Tryz.func117, z, by decide⟩
theorem ur : iP Tryz.prog 155 1 2 := cx (by kernel_rfl)
theorem oN : isSl Tryz.prog 171 155 := lZ (by kernel_rfl)
theorem jZ : fC Tryz.prog 155 y 4 32 [I J 0, I J 0, I J 0, I J 0] := fA (by kernel_rfl)
theorem xE : bY Tryz.prog 127 := ⟨Tryz.f127, Tryz.func127, z, by decide⟩
theorem DC : pY Tryz.prog 155 [(0, 2), (2, 2)] := kc (by kernel_rfl)
theorem EZ : bY Tryz.prog 128 := ⟨Tryz.f128, Tryz.func128, z, by decide⟩
theorem Fp : bY Tryz.prog 115 := ⟨Tryz.f115, Tryz.func115, z, by decide⟩
theorem Fv : bY Tryz.prog 142 := ⟨Tryz.f142, Tryz.func142, z, by decide⟩
theorem zk : bY Tryz.prog 116 := ⟨Tryz.f116, Tryz.func116, z, by decide⟩
theorem EJ : bY Tryz.prog 132 := ⟨Tryz.f132, Tryz.func132, z, by decide⟩
theorem DE : bY Tryz.prog 134 := ⟨Tryz.f134, Tryz.func134, z, by decide⟩
theorem FT : bY Tryz.prog 118 := ⟨Tryz.f118, Tryz.func118, z, by decide⟩
theorem FF : bY Tryz.prog 119 := ⟨Tryz.f119, Tryz.func119, z, by decide⟩
theorem Cs : iP Tryz.prog 103 6 6 := cx (by kernel_rfl)
theorem FD : bY Tryz.prog 101 := ⟨Tryz.f101, Tryz.func101, z, by decide⟩
theorem FI : bY Tryz.prog 102 := ⟨Tryz.f102, Tryz.func102, z, by decide⟩
theorem Dz : iP Tryz.prog 155 0 0 := cx (by kernel_rfl)
theorem Fj : bY Tryz.prog 81 := ⟨Tryz.f81, Tryz.func81, z, by decide⟩
theorem wM : bY Tryz.prog 83 := ⟨Tryz.f83, Tryz.func83, z, by decide⟩
theorem FL : bY Tryz.prog 135 := ⟨Tryz.f135, Tryz.func135, z, by decide⟩
theorem EK : bY Tryz.prog 120 := ⟨Tryz.f120, Tryz.func120, z, by decide⟩
theorem zc : bY Tryz.prog 104 := ⟨Tryz.f104, Tryz.func104, z, by decide⟩
theorem AJ : bY Tryz.prog 103 := ⟨Tryz.f103, Tryz.func103, z, by decide⟩
theorem EV : bY Tryz.prog 105 := ⟨Tryz.f105, Tryz.func105, z, by decide⟩
theorem DP : bY Tryz.prog 123 := ⟨Tryz.f123, Tryz.func123, z, by decide⟩
theorem zS : bY Tryz.prog 82 := ⟨Tryz.f82, Tryz.func82, z, by decide⟩
theorem xV : bY Tryz.prog 106 := ⟨Tryz.f106, Tryz.func106, z, by decide⟩
theorem sD : bY Tryz.prog 76 := ⟨Tryz.f76, Tryz.func76, z, by decide⟩
theorem Fu : bY Tryz.prog 124 := ⟨Tryz.f124, Tryz.func124, z, by decide⟩
theorem DK : bY Tryz.prog 125 := ⟨Tryz.f125, Tryz.func125, z, by decide⟩
theorem DA : bY Tryz.prog 107 := ⟨Tryz.f107, Tryz.func107, z, by decide⟩
theorem GG : bY Tryz.prog 79 := ⟨Tryz.f79, Tryz.func79, z, by decide⟩
theorem Gi : bY Tryz.prog 84 := ⟨Tryz.f84, Tryz.func84, z, by decide⟩
theorem Da : bY Tryz.prog 75 := ⟨Tryz.f75, Tryz.func75, z, by decide⟩
theorem FY : bY Tryz.prog 87 := ⟨Tryz.f87, Tryz.func87, z, by decide⟩
theorem GI : bY Tryz.prog 89 := ⟨Tryz.f89, Tryz.func89, z, by decide⟩
theorem Gn : bY Tryz.prog 90 := ⟨Tryz.f90, Tryz.func90, z, by decide⟩
theorem GF : bY Tryz.prog 91 := ⟨Tryz.f91, Tryz.func91, z, by decide⟩
theorem FQ : bY Tryz.prog 62 := ⟨Tryz.f62, Tryz.func62, z, by decide⟩
theorem Gj : bY Tryz.prog 69 := ⟨Tryz.f69, Tryz.func69, z, by decide⟩
theorem AG : isSl Tryz.prog 105 113 := lZ (by kernel_rfl)
theorem Fm : bY Tryz.prog 70 := ⟨Tryz.f70, Tryz.func70, z, by decide⟩
theorem Ge : bY Tryz.prog 71 := ⟨Tryz.f71, Tryz.func71, z, by decide⟩
theorem pK : bY Tryz.prog 72 := ⟨Tryz.f72, Tryz.func72, z, by decide⟩
theorem GA : bY Tryz.prog 59 := ⟨Tryz.f59, Tryz.func59, z, by decide⟩
theorem Dt : bY Tryz.prog 60 := ⟨Tryz.f60, Tryz.func60, z, by decide⟩
theorem FV : bY Tryz.prog 61 := ⟨Tryz.f61, Tryz.func61, z, by decide⟩
theorem Gf : bY Tryz.prog 63 := ⟨Tryz.f63, Tryz.func63, z, by decide⟩
theorem GT : bY Tryz.prog 49 := ⟨Tryz.f49, Tryz.func49, z, by decide⟩
theorem GU : bY Tryz.prog 50 := ⟨Tryz.f50, Tryz.func50, z, by decide⟩
theorem GQ : bY Tryz.prog 51 := ⟨Tryz.f51, Tryz.func51, z, by decide⟩
theorem Gd : bY Tryz.prog 52 := ⟨Tryz.f52, Tryz.func52, z, by decide⟩
theorem GO : bY Tryz.prog 31 := ⟨Tryz.f31, Tryz.func31, z, by decide⟩
theorem GP : bY Tryz.prog 32 := ⟨Tryz.f32, Tryz.func32, z, by decide⟩
theorem Fs : bY Tryz.prog 16 := ⟨Tryz.f16, Tryz.func16, z, by decide⟩
theorem GL : bY Tryz.prog 15 := ⟨Tryz.f15, Tryz.func15, z, by decide⟩
theorem dm : fC Tryz.prog 30 y 1 24 [S N 0 0] := fA (by kernel_rfl)
theorem Do : pY Tryz.prog 30 [(0, 1)] := kc (by kernel_rfl)
theorem cJ : iP Tryz.prog 30 0 0 := cx (by kernel_rfl)
theorem Ea : bY Tryz.prog 53 := ⟨Tryz.f53, Tryz.func53, z, by decide⟩
theorem Gl : bY Tryz.prog 64 := ⟨Tryz.f64, Tryz.func64, z, by decide⟩
theorem Gp : bY Tryz.prog 65 := ⟨Tryz.f65, Tryz.func65, z, by decide⟩
theorem FX : bY Tryz.prog 54 := ⟨Tryz.f54, Tryz.func54, z, by decide⟩
theorem Gu : bY Tryz.prog 55 := ⟨Tryz.f55, Tryz.func55, z, by decide⟩
theorem GR : bY Tryz.prog 33 := ⟨Tryz.f33, Tryz.func33, z, by decide⟩
theorem GH : bY Tryz.prog 17 := ⟨Tryz.f17, Tryz.func17, z, by decide⟩
theorem Ei : bY Tryz.prog 66 := ⟨Tryz.f66, Tryz.func66, z, by decide⟩
theorem Fw : bY Tryz.prog 67 := ⟨Tryz.f67, Tryz.func67, z, by decide⟩
theorem GK : bY Tryz.prog 57 := ⟨Tryz.f57, Tryz.func57, z, by decide⟩
theorem yr : iP Tryz.prog 48 1 1 := cx (by kernel_rfl)
theorem yS : iP Tryz.prog 48 0 0 := cx (by kernel_rfl)
theorem wW : bY Tryz.prog 36 := ⟨Tryz.f36, Tryz.func36, z, by decide⟩
theorem Gm : bY Tryz.prog 37 := ⟨Tryz.f37, Tryz.func37, z, by decide⟩
theorem BJ : bY Tryz.prog 38 := ⟨Tryz.f38, Tryz.func38, z, by decide⟩
theorem Fl : fC Tryz.prog 48 y 2 32 [S N 0 0, B n] := fA (by kernel_rfl)
theorem FC : pY Tryz.prog 48 [(0, 1), (1, 1)] := kc (by kernel_rfl)
theorem GV : bY Tryz.prog 19 := ⟨Tryz.f19, Tryz.func19, z, by decide⟩
theorem FM : bY Tryz.prog 20 := ⟨Tryz.f20, Tryz.func20, z, by decide⟩
theorem Gq : bY Tryz.prog 21 := ⟨Tryz.f21, Tryz.func21, z, by decide⟩
theorem FH : bY Tryz.prog 40 := ⟨Tryz.f40, Tryz.func40, z, by decide⟩
theorem xW : bY Tryz.prog 22 := ⟨Tryz.f22, Tryz.func22, z, by decide⟩
theorem tr : bY Tryz.prog 23 := ⟨Tryz.f23, Tryz.func23, z, by decide⟩
theorem CR : bY Tryz.prog 42 := ⟨Tryz.f42, Tryz.func42, z, by decide⟩
theorem EL : bY Tryz.prog 28 := ⟨Tryz.f28, Tryz.func28, z, by decide⟩
theorem Gg : bY Tryz.prog 24 := ⟨Tryz.f24, Tryz.func24, z, by decide⟩
theorem FZ : bY Tryz.prog 25 := ⟨Tryz.f25, Tryz.func25, z, by decide⟩
theorem Gh : bY Tryz.prog 68 := ⟨Tryz.f68, Tryz.func68, z, by decide⟩
theorem ol : iP Tryz.prog 64 2 2 := cx (by kernel_rfl)
theorem Bw : iP Tryz.prog 64 0 0 := cx (by kernel_rfl)
theorem uJ : iP Tryz.prog 64 1 1 := cx (by kernel_rfl)
theorem FU : bY Tryz.prog 58 := ⟨Tryz.f58, Tryz.func58, z, by decide⟩
theorem va : bY Tryz.prog 43 := ⟨Tryz.f43, Tryz.func43, z, by decide⟩
theorem Dq : bY Tryz.prog 44 := ⟨Tryz.f44, Tryz.func44, z, by decide⟩
theorem Gs : bY Tryz.prog 45 := ⟨Tryz.f45, Tryz.func45, z, by decide⟩
theorem AD : bY Tryz.prog 46 := ⟨Tryz.f46, Tryz.func46, z, by decide⟩
theorem EX : fC Tryz.prog 64 y 3 40 [S N 0 0, I J 0, B n] := fA (by kernel_rfl)
theorem EU : pY Tryz.prog 64 [(0, 1), (1, 1), (2, 1)] := kc (by kernel_rfl)
theorem Gc : bY Tryz.prog 26 := ⟨Tryz.f26, Tryz.func26, z, by decide⟩
theorem BO : bY Tryz.prog 30 := ⟨Tryz.f30, Tryz.func30, z, by decide⟩
theorem bl4 : Eo Tryz.prog 4 := CK (by kernel_rfl)
theorem Gt : bY Tryz.prog 47 := ⟨Tryz.f47, Tryz.func47, z, by decide⟩
theorem FW : bY Tryz.prog 27 := ⟨Tryz.f27, Tryz.func27, z, by decide⟩
theorem GB : bY Tryz.prog 29 := ⟨Tryz.f29, Tryz.func29, z, by decide⟩
theorem fn4 : bY Tryz.prog 4 := ⟨Tryz.f4, Tryz.func4, z, by decide⟩
theorem fn5 : bY Tryz.prog 5 := ⟨Tryz.f5, Tryz.func5, z, by decide⟩
theorem fn6 : bY Tryz.prog 6 := ⟨Tryz.f6, Tryz.func6, z, by decide⟩
theorem fn7 : bY Tryz.prog 7 := ⟨Tryz.f7, Tryz.func7, z, by decide⟩
theorem fn8 : bY Tryz.prog 8 := ⟨Tryz.f8, Tryz.func8, z, by decide⟩
theorem fn9 : bY Tryz.prog 9 := ⟨Tryz.f9, Tryz.func9, z, by decide⟩
theorem Ga : bY Tryz.prog 10 := ⟨Tryz.f10, Tryz.func10, z, by decide⟩
theorem GS : bY Tryz.prog 11 := ⟨Tryz.f11, Tryz.func11, z, by decide⟩
theorem Gw : bY Tryz.prog 12 := ⟨Tryz.f12, Tryz.func12, z, by decide⟩
theorem GJ : bY Tryz.prog 13 := ⟨Tryz.f13, Tryz.func13, z, by decide⟩
theorem Gr : bY Tryz.prog 14 := ⟨Tryz.f14, Tryz.func14, z, by decide⟩
theorem xv (w : World) {p0 : List Int} {a_0 : Option Addr} {n_0 c_0 : Nat} {r : Bool} (H : sh p0 = U r) (a : (ad e8 5).rd w [] p0 [S a_0 n_0 c_0]) :
    Calls Tryz.prog 4 #[S a_0 n_0 c_0] w (fun en w' => en = .returned (B r) ∧ Ext [] w w') := by
 obtain rfl := fp a
 unfold sh at H
 exact aN Tryz.func4 z Tryz.ntmps4 z (St.init w []) <| sR <| oP z <| nR <| aa [.p, .lenS 22 5 fQ, .p, .p] z <| nT <| xr 2 z (by cases H; exact q1)
theorem rf (w : World) {d : List Nat} {p0 : List Int} {a_0 : Option Addr} {n_0 c_0 : Nat} {r : ak} (H : mV p0 = U r) (HS : St w d [] w) (h : (ad e8 5).rd w d p0 [S a_0 n_0 c_0]) :
    Calls Tryz.prog 16 #[S a_0 n_0 c_0] w (fun en w' => ∃ v, en = .returned v ∧ ∃ (k : Nat), v = O (U ⟨k, 0, N⟩) ∧ St w d [b k 77 [S a_0 n_0 c_0, I J r.i_, I J r.h_]] w') := by
 obtain rfl := fp h
 unfold mV at H
 refine aN Tryz.func16 z Tryz.ntmps16 z (HS) <| sR <| oP z <| nR <| aa [.p, .lenS 22 5 fQ, .p, .p] z <| nQ <| am <| sR <| oP z <| nQ <| ay <| CW.at (jH (fun (c : Int) (a : Int) => St w d []) (fun c a => [(0, S a_0 p0.length c_0), (3, I J c), (4, I J a)]) (fun kk => fun c a => iH p0 kk c a = U r) (fun _ _ H => ?_) (fun o i c a H => ?_) aY (J.wrap (26583 + (p0.length : Int))) (0) (H)) (ss [] z z) (sb z)
 ·unfold iH at H
  exact absurd H (by simp)
 ·unfold iH at H
  refine am <| sR <| aa [.p, .p, .lenS 22 5 fQ, .p, .p] z <| aV [(15, B ((decide (a < (p0.length : Int))) && (decide (a < 4000)))), (0, S a_0 p0.length c_0), (3, I J c), (4, I J a)] 3 ?_ (fun key => OW.sub (R := [(0, S a_0 p0.length c_0), (3, I J c), (4, I J a), (12, B (decide (a < (p0.length : Int))))]) ?_ (sb z))
  ·refine nQ <| cI H z (fun H => ?_) (fun H => ?_)
   ·exact av <| az <| am <| ay <| aP <| aa [.p, .p, .p, .p] z <| bE H fun l f H => bF (e := e8) (xs := p0) (j := a) z z z z z fQ ty5 z (ab h) f (by rw [Nat.mul_one]) <| o1 z (aM z z ty5 (bO (ab h) f)) <| aa [.cv 5 3 J us5 in3, .p, .p, .p, .p] z <| ax <| bW <| az <| aP <| aa [.p, .p, .p] z <| ax <| ct (RW.at (i (el .and J (J.wrap ((J.wrap ((J.wrap (c * 131)) + (J.wrap l))) + 7)) 1073741823) (J.wrap (a + 1)) (H)) (ss [] z z) (sb z))
   ·exact bx <| aK <| aR <| aL <| az <| sR <| oPP z <| o1 z (bu [(0, [S a_0 p0.length c_0]), (2, [I J c])] [S a_0 p0.length c_0, I J 0, I J c] z z Gb Gy z ⟨z, z, nl z, z, z, nl z, Y⟩ z) <| ob _ z fun g => oP z <| nT <| aO (rs := [.tmp 2]) (vs := [O (U ⟨g, 0, N⟩)]) z ⟨z, Y⟩ (fun w' hw' => by
     obtain rfl := af H
     exact ⟨_, z, g, z, hw'.sel [0] z z⟩)
  ·generalize (decide (a < (p0.length : Int))) = m at key ⊢
   cases m
   ·exact aa [.p, .p, .p] z <| OW.sub key (sb z)
   ·exact oPP z <| oP z <| OW.sub key (sb z)
theorem jP (w : World) {c : List Nat} {p0b : List Int} {p0 : ak} {b_0 : Nat} {a_p0b : Option Addr} {n_p0b c_p0b : Nat} {r : Int × ak} (H : iJ p0b p0 = U r) (HS : St w c [b b_0 77 [S a_p0b p0b.length c_p0b, I J p0.i_, I J p0.h_]] w) (g_p0b : (ad e8 5).rd w c p0b [S a_p0b n_p0b c_p0b]) :
    Calls Tryz.prog 56 #[O (U ⟨b_0, 0, N⟩)] w (fun en w' => ∃ v, en = .returned v ∧ v = I J r.1 ∧ St w c [b b_0 77 [S a_p0b n_p0b c_p0b, I J r.2.i_, I J r.2.h_]] w') := by
 obtain rfl := fp g_p0b
 unfold iJ at H
 refine aN Tryz.func56 z Tryz.ntmps56 z (HS) <| sR <| oP z <| nR <| aa [.p, .p, .p, .fa 77 2 2 xe] z <| o1 z (r1 2 0 z ty3 z) <| aa [.p, .p, .p, .fa 77 2 2 xe] z <| sC 2 [I J (J.wrap ((J.wrap (p0.h_ * 6364136223846793005)) + 1442695040888963407))] [_, _, _] 0 z ty3 z <| nQ <| am <| dR bU (by kernel_rfl) <| aa [.p, .p, .fa 77 2 2 xe] z <| o1 z (r1 2 0 z ty3 z) <| aa [.p, .p, .p, .fa 77 2 2 xe] z <| o1 z (r1 2 0 z ty3 z) <| aa [.p, .p, .p, .p] z <| co <| az <| am <| am <| dR bU (by kernel_rfl) <| aa [.p, .p, .fa 77 1 1 wD] z <| o1 z (r1 1 0 z ty3 z) <| aa [.p, .p, .fa 77 0 0 BE] z <| o1 z (r1 0 0 z sN z) <| aa [.lenS 22 5 fQ, .p] z <| co <| az <| cI H z (fun H => ?_) (fun H => ?_)
 ·exact am <| dR bU (by kernel_rfl) <| aa [.p, .p, .p, .fa 77 0 0 BE] z <| o1 z (r1 0 0 z sN z) <| aa [.p, .p, .fa 77 1 1 wD] z <| o1 z (r1 1 0 z ty3 z) <| bE H fun d a H => bF (e := e8) (xs := p0b) (j := p0.i_) z z z z z fQ ty5 z (ab g_p0b) a (by rw [Nat.mul_one]) <| o1 z (aM z z ty5 (bO (ab g_p0b) a)) <| aa [.cv 5 3 J us5 in3, .p, .p, .p] z <| co <| az <| aP <| aa [.p, .p, .p, .fa 77 1 1 wD] z <| o1 z (r1 1 0 z ty3 z) <| aa [.p, .p, .fa 77 1 1 wD] z <| sC 1 [I J (J.wrap (p0.i_ + 1))] [_, _, _] 0 z ty3 z <| nR <| oPP z <| nT <| aO (rs := [.tmp 2]) (vs := [I J (el .and J (J.wrap ((el .and J (el .xor J (rt J (J.wrap ((J.wrap (p0.h_ * 6364136223846793005)) + 1442695040888963407)) 33) (rt J (J.wrap ((J.wrap (p0.h_ * 6364136223846793005)) + 1442695040888963407)) 45)) 255) + (J.wrap d))) 255)]) z ⟨z, Y⟩ (fun w' hw' => by
   obtain rfl := af H
   exact ⟨_, z, z, hw'.sel [0] z z⟩)
 ·exact av <| az <| sR <| oPP z <| nT <| aO (rs := [.tmp 2]) (vs := [I J (el .and J (el .xor J (rt J (J.wrap ((J.wrap (p0.h_ * 6364136223846793005)) + 1442695040888963407)) 33) (rt J (J.wrap ((J.wrap (p0.h_ * 6364136223846793005)) + 1442695040888963407)) 45)) 255)]) z ⟨z, Y⟩ (fun w' hw' => by
   obtain rfl := af H
   exact ⟨_, z, z, hw'.sel [0] z z⟩)
theorem ca (w : World) {d : List Nat} {p0b : List Int} {p0 : ak} {p1 : Int} {b_0 : Nat} {a_p0b : Option Addr} {n_p0b c_p0b : Nat} {r : Int × ak} (H : cj p0b p0 p1 = U r) (HS : St w d [b b_0 77 [S a_p0b p0b.length c_p0b, I J p0.i_, I J p0.h_]] w) (g_p0b : (ad e8 5).rd w d p0b [S a_p0b n_p0b c_p0b]) :
    Calls Tryz.prog 34 #[O (U ⟨b_0, 0, N⟩), I J p1] w (fun en w' => ∃ v, en = .returned v ∧ v = I J r.1 ∧ St w d [b b_0 77 [S a_p0b n_p0b c_p0b, I J r.2.i_, I J r.2.h_]] w') := by
 obtain rfl := fp g_p0b
 unfold cj at H
 refine aN Tryz.func34 z Tryz.ntmps34 z (HS) <| sR <| oP z <| nQ <| am <| sR <| oPP z <| nQ <| cI H z (fun H => ?_) (fun H => ?_)
 ·exact sR <| oP z <| nT <| aq <| aO (rs := [.tmp 4]) (vs := [I J 0]) z ⟨z, Y⟩ (fun w' hw' => by
   obtain rfl := af H
   exact ⟨_, z, z, hw'.sel [0] z z⟩)
 ·refine av <| az <| am <| sR <| oPP z <| nQ <| cI H z (fun H => ?_) (fun H => ?_)
  ·refine sR <| oP z <| bE H fun G s H => aj z zZ z z z z (fun c a => jP c s (a.carve [0] z z) (rdB [0] z z a g_p0b)) fun L c e a f => ?_
   obtain ⟨rfl, g⟩ := f
   refine ⟨St w d [_, _], a.comp [0] z z g, fun _ _ => Y, ?_⟩
   exact oP z <| bE H fun t u H => o1 z (uB z z z u) <| oP z <| nT <| aq <| aO (rs := [.tmp 4]) (vs := [I J t]) z ⟨z, Y⟩ (fun w' hw' => by
    obtain rfl := af H
    exact ⟨_, z, z, hw'.sel [1] z z⟩)
  ·refine av <| az <| sR <| oP z <| bE H fun M x H => aj z zZ z z z z (fun c a => jP c x (a.carve [0] z z) (rdB [0] z z a g_p0b)) fun P c e a h => ?_
   obtain ⟨rfl, i⟩ := h
   refine ⟨St w d [_, _], a.comp [0] z z i, fun _ _ => Y, ?_⟩
   refine oP z <| nR <| oP z <| bE H fun Q A H => aj z zZ z z z z (fun c a => jP c A (a.carve [1] z z) (rdB [1] z z a g_p0b)) fun R c e a j => ?_
   obtain ⟨rfl, k⟩ := j
   refine ⟨St w d [_, _, _], a.comp [1] z z k, fun _ _ => Y, ?_⟩
   refine oP z <| nQ <| am <| CW.weak (C' := St w d [_]) ?_ (ss [2] z z)
   refine aP <| oP z <| bE H fun X C H => aj z zZ z z z z (fun c a => jP c C (a.carve [0] z z) (rdB [0] z z a g_p0b)) fun Z c e a l => ?_
   obtain ⟨rfl, m⟩ := l
   refine ⟨St w d [_, _], a.comp [0] z z m, fun _ _ => Y, ?_⟩
   refine oP z <| nR <| oP z <| bE H fun a0 D H => aj z zZ z z z z (fun c a => jP c D (a.carve [1] z z) (rdB [1] z z a g_p0b)) fun a1 c e a o => ?_
   obtain ⟨rfl, q⟩ := o
   refine ⟨St w d [_, _, _], a.comp [1] z z q, fun _ _ => Y, ?_⟩
   refine oP z <| nQ <| am <| CW.weak (C' := St w d [_]) ?_ (ss [2] z z)
   exact aP <| aa [.p, .p, .p, .p, .p, .p, .p, .p, .p, .p, .p] z <| bE H fun E F H => o1 z (uB z z z F) <| oP z <| nT <| aO (rs := [.tmp 4]) (vs := [I J E]) z ⟨z, Y⟩ (fun w' hw' => by
    obtain rfl := af H
    exact ⟨_, z, z, hw'.sel [0] z z⟩)
theorem dL (w : World) {c : List Nat} {p0b : List Int} {p0 : ak} {p1 : Int} {b_0 : Nat} {a_p0b : Option Addr} {n_p0b c_p0b : Nat} {r : Bool × ak} (H : dS p0b p0 p1 = U r) (HS : St w c [b b_0 77 [S a_p0b p0b.length c_p0b, I J p0.i_, I J p0.h_]] w) (g_p0b : (ad e8 5).rd w c p0b [S a_p0b n_p0b c_p0b]) :
    Calls Tryz.prog 18 #[O (U ⟨b_0, 0, N⟩), I J p1] w (fun en w' => ∃ v, en = .returned v ∧ v = B r.1 ∧ St w c [b b_0 77 [S a_p0b n_p0b c_p0b, I J r.2.i_, I J r.2.h_]] w') := by
 obtain rfl := fp g_p0b
 unfold dS at H
 refine aN Tryz.func18 z Tryz.ntmps18 z (HS) <| sR <| oP z <| nR <| oPP z <| bE H fun f g H => aj z oX z z z z (fun h a => ca h g (a.carve [0] z z) (rdB [0] z z a g_p0b)) fun i h j a d => ?_
 obtain ⟨rfl, e⟩ := d
 refine ⟨St w c [_, _], a.comp [0] z z e, fun _ _ => Y, ?_⟩
 exact oPP z <| nT <| aO (rs := [.tmp 4]) (vs := [B (f.1 == 0)]) z ⟨z, Y⟩ (fun w' hw' => by
  obtain rfl := af H
  exact ⟨_, z, z, hw'.sel [1] z z⟩)
theorem aU (w : World) {c : List Nat} {p0b : List Int} {p0 : ak} {p1 : List Int} {b_0 : Nat} {a_p0b : Option Addr} {n_p0b c_p0b : Nat} {a_1 : Option Addr} {n_1 c_1 : Nat} {r : Int × ak} (H : bA p0b p0 p1 = U r) (HS : St w c [b b_0 77 [S a_p0b p0b.length c_p0b, I J p0.i_, I J p0.h_]] w) (g_p0b : (ad e8 5).rd w c p0b [S a_p0b n_p0b c_p0b]) (f : (ad eI 3).rd w c p1 [S a_1 n_1 c_1]) :
    Calls Tryz.prog 35 #[O (U ⟨b_0, 0, N⟩), S a_1 n_1 c_1] w (fun en w' => ∃ v, en = .returned v ∧ v = I J r.1 ∧ St w c [b b_0 77 [S a_p0b n_p0b c_p0b, I J r.2.i_, I J r.2.h_]] w') := by
 obtain rfl := fp g_p0b
 obtain rfl := fp f
 unfold bA at H
 refine aN Tryz.func35 z Tryz.ntmps35 z (HS) <| sR <| oP z <| nR <| aa [.p, .p, .p, .lenS 45 3 aT] z <| bE H fun i k H => aj z oX z z z z (fun l a => ca l k (a.carve [0] z z) (rdB [0] z z a g_p0b)) fun o l q a g => ?_
 obtain ⟨rfl, h⟩ := g
 refine ⟨St w c [_, _], a.comp [0] z z h, fun _ _ => Y, ?_⟩
 exact bE H fun m d H => bF (e := eI) (xs := p1) (j := i.1) z z z z z aT ty3 z (ab f) d (by rw [Nat.mul_one]) <| o1 z (aM z z ty3 (bO (ab f) d)) <| oP z <| nT <| aO (rs := [.tmp 4]) (vs := [I J m]) z ⟨z, Y⟩ (fun w' hw' => by
  obtain rfl := af H
  exact ⟨_, z, z, hw'.sel [1] z z⟩)
theorem qZ (w : World) {t : List Nat} {p0b : List Int} {p0 : ak} {p1 : Int} {b_0 : Nat} {a_p0b : Option Addr} {n_p0b c_p0b : Nat} {r : bz × ak} (H : jR p0b p0 p1 = U r) (HS : St w t [b b_0 77 [S a_p0b p0b.length c_p0b, I J p0.i_, I J p0.h_]] w) (g_p0b : (ad e8 5).rd w t p0b [S a_p0b n_p0b c_p0b]) :
    Calls Tryz.prog 48 #[O (U ⟨b_0, 0, N⟩), I J p1] w (fun en w' => ∃ v, en = .returned v ∧ ∃ (a0 : Option Addr), ∃ (n0 : Nat), ∃ (c0 : Nat), ∃ (F0 : List Nat), ∃ (a1 : Option Addr), ∃ (n1 : Nat), ∃ (c1 : Nat), ∃ (F1 : List Nat), v = .agg #[vS r.1.D_, S a0 n0 c0, S a1 n1 c1] ∧ St w t [W (ad eI 3) F0 r.1.A_ [S a0 n0 c0], W (ad (js) 9) F1 r.1.E_ [S a1 n1 c1], b b_0 77 [S a_p0b n_p0b c_p0b, I J r.2.i_, I J r.2.h_]] w') := by
 obtain rfl := fp g_p0b
 unfold jR at H
 refine aN Tryz.func48 z Tryz.ntmps48 z (HS) <| sR <| aB z z z z km (fun _ => kp) fun C => nR <| bq (val := vS) (h1 := fun _ => z) [([97, 103, 101] : List UInt8), ([115, 105, 122, 101] : List UInt8), ([99, 111, 108, 111, 117, 114] : List UInt8), ([107] : List UInt8), ([108, 111, 110, 103, 110, 97, 109, 101] : List UInt8)] [(0, [vS ([97, 103, 101] : List UInt8)]), (1, [vS ([115, 105, 122, 101] : List UInt8)]), (2, [vS ([99, 111, 108, 111, 117, 114] : List UInt8)]), (3, [vS ([107] : List UInt8)]), (4, [vS ([108, 111, 110, 103, 110, 97, 109, 101] : List UInt8)])] z z z z z lD ty9 z z z ⟨z, z, nl z, z, z, nl z, z, z, nl z, z, z, nl z, z, z, nl z, Y⟩ z z (fun _ => kp) fun e1 => oPP z <| bE H fun k a4 H => bF (e := js) (xs := ([([97, 103, 101] : List UInt8), ([115, 105, 122, 101] : List UInt8), ([99, 111, 108, 111, 117, 114] : List UInt8), ([107] : List UInt8), ([108, 111, 110, 103, 110, 97, 109, 101] : List UInt8)] : List (List UInt8))) (j := Int.tmod p1 5) z z z z z lD ty9 z (fun d a => ap (e := ad (js) 9) (r := 2) z d a) a4 (by rw [Nat.mul_one]) <| o1 z (aM z z ty9 (bO (fun d a => ap (e := ad (js) 9) (r := 2) z d a) a4)) <| o1 z (bu [(0, [vS k])] [vS k, S N 0 0, S N 0 0] z z km GE z ⟨z, z, nl z, Y⟩ z) <| aB z z z z km (fun _ => kp) fun D => sC 0 [vS k, S N 0 0, S N 0 0] [_, _, _] 3 z km z <| nQ <| am <| sR <| oP z <| bE H fun e2 c9 H => aj z sV z z z z (fun d a => dL d c9 (a.carve [0] z z) (rdB [0] z z a g_p0b)) fun e3 d w2 a b0 => ?_
 obtain ⟨rfl, b1⟩ := b0
 refine ⟨St w t [_, _, _, _, _], a.comp [0] z z b1, fun _ _ => Y, ?_⟩
 refine nQ <| cI H z (fun H => ?_) (fun H => ?_)
 ·refine sR <| oP z <| bE H fun a5 d0 H => aj z oX z z z z (fun d a => ca d d0 (a.carve [4] z z) (rdB [4] z z a g_p0b)) fun e4 d w2 a b2 => ?_
  obtain ⟨rfl, b3⟩ := b2
  refine ⟨St w t [_, _, _, _, _, _], a.comp [4] z z b3, fun _ _ => Y, ?_⟩
  refine oPP z <| nQ <| am <| CW.weak (C' := St w t [_, _, _, _]) ?_ (ss [1, 2, 3, 5] z z)
  refine aP <| oP z <| bq (val := I J) (h1 := fun _ => z) [(-9999), (-7), 0, 3, 20] [(0, [I J (-9999)]), (1, [I J (-7)]), (2, [I J 0]), (3, [I J 3]), (4, [I J 20])] z z z z z aT ty3 z z z ⟨z, z, nl z, z, z, nl z, z, z, nl z, z, z, nl z, z, z, nl z, Y⟩ z z (fun _ => kp) fun e5 => bE H fun M d1 H => aj z jA z z z z (fun d a => aU d d1 (a.carve [3] z z) (rdB [3] z z a g_p0b) (rdO 4 [3] z a z z)) fun e6 d w2 a b4 => ?_
  obtain ⟨rfl, b5⟩ := b4
  refine ⟨St w t [_, _, _, _, _, _], a.comp [3] z z b5, fun _ _ => Y, ?_⟩
  refine oP z <| nQ <| am <| sR <| oP z <| nQ <| ay <| CW.weak ?_ (fun _ h => St.pushNil (e := eI) (T := 3) h)
  refine CW.at (En (fun (E : Int) (F : Int) (l : List Int) (o : Option Addr) (q : Nat) (G : List Nat) (s : Int) (x : Int) => St w t [b b_0 77 [S a_p0b p0b.length c_p0b, I J E, I J F], b C 90 [vS ([] : List UInt8), S N 0 0, S N 0 0], b D 90 [vS k, S o l.length q, S N 0 0], W (ad eI 3) G l [S o l.length q]]) (fun E F l o q G s x => [(0, O (U ⟨b_0, 0, N⟩)), (4, O (U ⟨C, 0, N⟩)), (5, O (U ⟨D, 0, N⟩)), (6, I J (J.wrap (1 + a5.1))), (7, I J s), (8, I J x)]) (fun kk => fun E F l o q G s x => dj a5 p0b k kk E F l s x = U r) (fun _ _ _ _ _ _ _ _ H => ?_) (fun k1 b6 E F l o q G s x H => ?_) aY (M.2.i_) (M.2.h_) (([] : List Int)) (N) (0) ([]) (M.1) (0) (H)) (ss [5, 0, 2, 6] z z) (sb z)
  ·unfold dj at H
   exact absurd H (by simp)
  ·unfold dj at H
   refine am <| sR <| aa [.p, .p, .p] z <| nQ <| cI H z (fun H => ?_) (fun H => ?_)
   ·refine av <| az <| am <| ay <| sR <| aa [.fa 90 1 1 mU] z <| o1 z (r1 1 2 z bG z) <| oP z <| bq (val := I J) (h1 := fun _ => z) [s] [(0, [I J s])] z z z z z aT ty3 z z z ⟨z, z, nl z, Y⟩ z z (fun _ => kp) fun e7 => bE H fun a6 a7 H => bC (r := 3) (ys := ([s] : List Int)) z z z z z z aT ty3 z z z (ap (e := ad eI 3) (r := 4) z) a7 (fun _ _ _ => kp) fun a8 a9 d2 => cc z (fun d a => fh (i := 3) a z (fe a7)) fun d8 => aa [.fa 90 1 1 mU] z <| sC 1 [S a8 a6.length a9] [_, _, _] 2 z bG z <| nQ <| aP <| aa [.p, .p, .p] z <| bE H fun P d3 H => aj z oX z z z z (fun d a => ca d d3 (a.carve [0] z z) (rdB [0] z z a g_p0b)) fun e9 d w2 a b7 => ?_
    obtain ⟨rfl, b8⟩ := b7
    refine ⟨St w t [_, _, _, _, _, _], a.comp [0] z z b8, fun _ _ => Y, ?_⟩
    exact oPP z <| ax <| bW <| az <| aP <| aa [.p, .p, .p] z <| ax <| ct (RW.at (b6 (P.2.i_) (P.2.h_) (a6) (a8) (a9) (d2) (J.wrap ((J.wrap (s + 1)) + P.1)) (J.wrap (x + 1)) (H)) (ss [5, 1, 2, 3] z z) (sb z))
   ·exact bx <| aK <| aR <| aL <| az <| sR <| o1 z (rx 0 2 _ z km z) <| sC 0 [vS k, S o l.length q, S N 0 0] [_, _, _] 1 z km z <| nT <| aq <| eG (fun _ h => St.pushNil (e := js) (T := 9) h) <| aO (rs := [.cell 4 90]) (vs := [.agg #[vS k, S o l.length q, S N 0 0]]) z ⟨⟨_, [vS k, S o l.length q, S N 0 0], _, _, _, z, km, (bn (T := 90) 0 (bJ (i := 1) z) z), z, z⟩, Y⟩ (fun w' hw' => by
     obtain rfl := af H
     exact ⟨_, z, o, l.length, q, G, N, 0, 0, [], z, hw'.sel [3, 4, 0] z z⟩)
 ·refine av <| az <| sR <| oP z <| bE H fun A d4 H => aj z oX z z z z (fun d a => ca d d4 (a.carve [4] z z) (rdB [4] z z a g_p0b)) fun f0 d w2 a b9 => ?_
  obtain ⟨rfl, c2⟩ := b9
  refine ⟨St w t [_, _, _, _, _, _], a.comp [4] z z c2, fun _ _ => Y, ?_⟩
  refine oPP z <| nQ <| am <| am <| CW.weak (C' := St w t [_, _, _, _]) ?_ (ss [1, 2, 3, 5] z z)
  refine aP <| oP z <| nQ <| ay <| CW.weak ?_ (fun _ h => St.pushNil (e := js) (T := 9) h)
  refine CW.at (iw (fun (m : Int) (c : List (List UInt8)) (f : Option Addr) (g : Nat) (u : List Nat) => St w t [b b_0 77 [S a_p0b p0b.length c_p0b, I J A.2.i_, I J A.2.h_], b C 90 [vS ([] : List UInt8), S N 0 0, S N 0 0], b D 90 [vS k, S N 0 0, S f c.length g], W (ad (js) 9) u c [S f c.length g]]) (fun m c f g u => [(0, O (U ⟨b_0, 0, N⟩)), (4, O (U ⟨C, 0, N⟩)), (5, O (U ⟨D, 0, N⟩)), (9, I J (J.wrap (2 + A.1))), (10, I J m)]) (fun kk => fun m c f g u => dh A k kk m c = U r) (fun _ _ _ _ _ H => ?_) (fun k2 c3 m c f g u H => ?_) aY (0) (([] : List (List UInt8))) (N) (0) ([]) (H)) (ss [3, 0, 2, 4] z z) (sb z)
  ·unfold dh at H
   exact absurd H (by simp)
  ·unfold dh at H
   refine am <| sR <| aa [.p, .p, .p] z <| nQ <| cI H z (fun H => ?_) (fun H => ?_)
   ·exact av <| az <| am <| ay <| bE H fun L Q H => qI 7 [(0, y), (1, y), (3, y), (2, n), (4, n), (5, n), (6, n)] Br.done (St w t [b b_0 77 [S a_p0b p0b.length c_p0b, I J A.2.i_, I J A.2.h_], b C 90 [vS ([] : List UInt8), S N 0 0, S N 0 0], b D 90 [vS k, S N 0 0, S f c.length g], W (ad (js) 9) u c [S f c.length g]]) bU (by kernel_rfl) (bj (aJ (db (bj (aJ bb))))) (tk 4 z) <| aa [.fa 90 2 2 sT] z <| bm z (aw z) (r1 2 2 z nJ z) <| oP z <| bq (val := vS) (h1 := fun _ => z) [([114, 101, 100] : List UInt8), ([98, 108, 117, 101] : List UInt8), ([120] : List UInt8), ([103, 114, 101, 101, 110] : List UInt8)] [(0, [vS ([114, 101, 100] : List UInt8)]), (1, [vS ([98, 108, 117, 101] : List UInt8)]), (2, [vS ([120] : List UInt8)]), (3, [vS ([103, 114, 101, 101, 110] : List UInt8)])] z z z z z lD ty9 z z z ⟨z, z, nl z, z, z, nl z, z, z, nl z, z, z, nl z, Y⟩ z z (fun _ => (tk 4 z)) fun d9 => CD (e := js) (xs := ([([114, 101, 100] : List UInt8), ([98, 108, 117, 101] : List UInt8), ([120] : List UInt8), ([103, 114, 101, 101, 110] : List UInt8)] : List (List UInt8))) (j := m) z z z z z z lD ty9 z (fun d a => ap (e := ad (js) 9) (r := 4) z d a) Q (by rw [Nat.mul_one]) <| wa z z (aw z) (aM z z ty9 (bO (fun d a => ap (e := ad (js) 9) (r := 4) z d a) Q)) <| bq (val := vS) (h1 := fun _ => z) [L] [(0, [vS L])] z z z z z lD ty9 z z z ⟨z, z, nl z, Y⟩ z z (fun _ => (tk 4 z)) fun e0 => aQ <| cH <| bE H fun R X H => bC (r := 3) (ys := ([L] : List (List UInt8))) z z z z z z lD ty9 z z z (fun d a => ap (e := ad (js) 9) (r := 5) z d a) X (fun _ _ _ => kp) fun Z a2 c4 => cc z (fun d a => fh (i := 3) a z (fe X)) fun d5 => aa [.fa 90 2 2 sT] z <| sC 2 [S Z R.length a2] [_, _, _] 2 z nJ z <| ax <| bW <| az <| aP <| aa [.p, .p, .p] z <| ax <| ct (RW.at (c3 (J.wrap (m + 1)) (R) (Z) (a2) (c4) (H)) (ss [0, 1, 2, 3] z z) (sb z))
   ·exact bx <| aK <| aR <| aL <| az <| sR <| o1 z (rx 0 2 _ z km z) <| sC 0 [vS k, S N 0 0, S f c.length g] [_, _, _] 1 z km z <| nT <| eG (fun _ h => St.pushNil (e := eI) (T := 3) h) <| aO (rs := [.cell 4 90]) (vs := [.agg #[vS k, S N 0 0, S f c.length g]]) z ⟨⟨_, [vS k, S N 0 0, S f c.length g], _, _, _, z, km, (bn (T := 90) 0 (bJ (i := 1) z) z), z, z⟩, Y⟩ (fun w' hw' => by
     obtain rfl := af H
     exact ⟨_, z, N, 0, 0, [], f, c.length, g, u, z, hw'.sel [4, 3, 0] z z⟩)
theorem uk (w : World) {s : List Nat} {p0b : List Int} {p0 : ak} {b_0 : Nat} {a_p0b : Option Addr} {n_p0b c_p0b : Nat} {r : ae × ak} (H : mq p0b p0 = U r) (HS : St w s [b b_0 77 [S a_p0b p0b.length c_p0b, I J p0.i_, I J p0.h_]] w) (g_p0b : (ad e8 5).rd w s p0b [S a_p0b n_p0b c_p0b]) :
    Calls Tryz.prog 31 #[O (U ⟨b_0, 0, N⟩)] w (fun en w' => ∃ v, en = .returned v ∧ ∃ (a0 : Option Addr), ∃ (n0 : Nat), ∃ (c0 : Nat), ∃ (F0 : List Nat), ∃ (a1 : Option Addr), ∃ (n1 : Nat), ∃ (c1 : Nat), ∃ (F1 : List Nat), v = .agg #[S a0 n0 c0, S a1 n1 c1] ∧ St w s [W (ad (em) 90) F0 r.1.f_ [S a0 n0 c0], W (ad (js) 9) F1 r.1.n_ [S a1 n1 c1], b b_0 77 [S a_p0b n_p0b c_p0b, I J r.2.i_, I J r.2.h_]] w') := by
 obtain rfl := fp g_p0b
 unfold mq at H
 refine aN Tryz.func31 z Tryz.ntmps31 z (HS) <| sR <| aB z z z z cV (fun _ => kp) fun D => nR <| bq (val := vS) (h1 := fun _ => z) [([110, 111] : List UInt8), ([121, 101, 115] : List UInt8)] [(0, [vS ([110, 111] : List UInt8)]), (1, [vS ([121, 101, 115] : List UInt8)])] z z z z z lD ty9 z z z ⟨z, z, nl z, z, z, nl z, Y⟩ z z (fun _ => kp) fun E => o1 z (bu [(1, [S (U ⟨E, 0, N⟩) (([([110, 111] : List UInt8), ([121, 101, 115] : List UInt8)] : List (List UInt8)).length) 2])] [S N 0 0, S (U ⟨E, 0, N⟩) (([([110, 111] : List UInt8), ([121, 101, 115] : List UInt8)] : List (List UInt8)).length) 2] z z cV Gz z ⟨z, z, nl z, Y⟩ z) <| aB z z z z cV (fun _ => kp) fun F => sC 0 [S N 0 0, S (U ⟨E, 0, N⟩) (([([110, 111] : List UInt8), ([121, 101, 115] : List UInt8)] : List (List UInt8)).length) 2] [_, _] 3 z cV z <| nQ <| zz (fun (G : Int) (L : Int) (c : List (List UInt8)) (d : Option Addr) (g : Nat) (t : List Nat) => St w s [b b_0 77 [S a_p0b p0b.length c_p0b, I J G, I J L], b D 73 [S N 0 0, S N 0 0], b F 73 [S N 0 0, S d c.length g], W (ad (js) 9) t c [S d c.length g]]) (fun G L c d g t => [(0, O (U ⟨b_0, 0, N⟩)), (2, O (U ⟨D, 0, N⟩)), (3, O (U ⟨F, 0, N⟩))]) (fun G L c d g t => d.isNone = n ∧ ji p0b G L c = U r) (fun G L c d g t ⟨d3, H⟩ => ?_) (fun J1 => ?_)
 ·unfold ji at H
  refine sR <| oP z <| bE H fun Q c9 H => aj z oX z z z z (fun o a => ca o c9 (a.carve [0] z z) (rdB [0] z z a g_p0b)) fun e3 o w2 a b4 => ?_
  obtain ⟨rfl, b5⟩ := b4
  refine ⟨St w s [_, _, _, _, _], a.comp [0] z z b5, fun _ _ => Y, ?_⟩
  refine oPP z <| nQ <| am <| sR <| oP z <| nQ <| ay <| CW.weak ?_ (fun _ h => St.pushNil (e := em) (T := 90) h)
  refine CW.at (og (fun (M : Int) (P : Int) (f : List bz) (l : Option Addr) (m : Nat) (u : List Nat) (x : Int) => St w s [b b_0 77 [S a_p0b p0b.length c_p0b, I J M, I J P], b D 73 [S N 0 0, S N 0 0], b F 73 [S l f.length m, S d c.length g], W (ad (em) 90) u f [S l f.length m], W (ad (js) 9) t c [S d c.length g]]) (fun M P f l m u x => [(0, O (U ⟨b_0, 0, N⟩)), (2, O (U ⟨D, 0, N⟩)), (3, O (U ⟨F, 0, N⟩)), (4, I J (J.wrap (1 + Q.1))), (5, I J x)]) (fun kk => fun M P f l m u x => eK Q p0b c kk M P f x = U r) (fun _ _ _ _ _ _ _ H => ?_) (fun k1 b6 M P f l m u x H => ?_) aY (Q.2.i_) (Q.2.h_) (([] : List bz)) (N) (0) ([]) (0) (H)) (ss [4, 1, 2, 5, 3] z z) (sb z)
  ·unfold eK at H
   exact absurd H (by simp)
  ·unfold eK at H
   refine am <| sR <| aa [.p, .p, .p] z <| nQ <| cI H z (fun H => ?_) (fun H => ?_)
   ·refine av <| az <| am <| ay <| cw 6 [(0, y), (1, y), (2, y), (3, y), (4, n), (5, n)] (St w s [Res.nil, b D 73 [S N 0 0, S N 0 0], b F 73 [S l f.length m, S d c.length g], W (ad (em) 90) u f [S l f.length m], W (ad (js) 9) t c [S d c.length g]]) bU (by kernel_rfl) (bj (aJ (db (bj (aJ bb))))) (sm [n, y, y, y, y] z) <| aa [.fa 73 0 0 fE] z <| bm z (aw z) (r1 0 2 z lC z) <| oPP z <| bE H fun k b7 H => aj z GN z z z z (fun o a => qZ o b7 (a.carve [0] z z) (rdB [0] z z a g_p0b)) fun d4 o w2 a b0 => ?_
    obtain ⟨R, d5, X, d6, Z, d7, a2, d8, rfl, A⟩ := b0
    obtain rfl := aA (i := 0) A z
    obtain rfl := aA (i := 1) A z
    refine ⟨St w s [_, _, _, _, _, _, _, _], a.comp [0] z z A, (sm [n, y, y, y, y] z), ?_⟩
    refine sl z (fun o a => uF (x0 := k.1.D_) [5, 6] a z z) fun d9 => dH (C' := St w s [_, _, _, _, _, _, _, _, _]) z (fun _ h => h) <| dV [(0, [vS k.1.D_, S R k.1.A_.length X, S Z k.1.E_.length a2])] z z z z z lF km z z ⟨z, z, nl z, Y⟩ [vS k.1.D_, S R k.1.A_.length X, S Z k.1.E_.length a2] z (fun _ => (sm [n, y, y, y, y] z)) fun e0 => dH z (fun _ h => pg (p := 9) (q := 8) h z z z) <| aQ <| jf <| bE H fun a3 b8 H => ix (r := 3) (j := 10) z z z z z z lF km z z z z z z z b8 (fun _ _ _ => kp) fun a4 a5 b9 => aa [.fa 73 0 0 fE] z <| sC 0 [S a4 a3.length a5] [_, _] 2 z lC z <| ax <| bW <| az <| CW.weak (C' := St w s [_, _, _, _, _]) ?_ (ss [1, 2, 4, 7, 11] z z)
    exact aP <| aa [.p, .p, .p] z <| ax <| ct (RW.at (b6 (k.2.i_) (k.2.h_) (a3) (a4) (a5) (b9) (J.wrap (x + 1)) (H)) (ss [3, 0, 1, 4, 2] z z) (sb z))
   ·exact bx <| aK <| aR <| aL <| az <| sR <| o1 z (rx 0 2 _ z cV z) <| sC 0 [S l f.length m, S d c.length g] [_, _] 1 z cV z <| nT <| aO (rs := [.cell 2 73]) (vs := [.agg #[S l f.length m, S d c.length g]]) z ⟨⟨_, [S l f.length m, S d c.length g], _, _, _, z, cV, (bn (T := 73) 0 (bJ (i := 1) z) z), z, z⟩, Y⟩ (fun w' hw' => by
     obtain rfl := af H
     exact ⟨_, z, l, f.length, m, u, d, c.length, g, t, z, hw'.sel [3, 4, 0] z z⟩)
 ·refine sR <| oP z <| bE H fun C c2 H => aj z sV z z z z (fun o a => dL o c2 (a.carve [0] z z) (rdB [0] z z a g_p0b)) fun e1 o w2 a b1 => ?_
  obtain ⟨rfl, b2⟩ := b1
  refine ⟨St w s [_, _, _, _, _], a.comp [0] z z b2, fun _ _ => Y, ?_⟩
  refine nQ <| cI H z (fun H => ?_) (fun H => ?_)
  ·exact aP <| aa [.fa 73 1 1 ks] z <| o1 z (r1 1 3 z nJ z) <| bq (val := vS) (h1 := fun _ => z) [([112, 101, 114, 104, 97, 112, 115] : List UInt8)] [(0, [vS ([112, 101, 114, 104, 97, 112, 115] : List UInt8)])] z z z z z lD ty9 z z z ⟨z, z, nl z, Y⟩ z z (fun _ => kp) fun e2 => bE H fun a6 a7 H => bC (r := 2) (ys := ([([112, 101, 114, 104, 97, 112, 115] : List UInt8)] : List (List UInt8))) z z z z z z lD ty9 z z z (fun o a => ap (e := ad (js) 9) (r := 5) z o a) a7 (fun _ _ _ => kp) fun a8 a9 c3 => cc z (fun o a => fh (i := 2) a z (fe a7)) fun b3 => aa [.fa 73 1 1 ks] z <| sC 1 [S a8 a6.length a9] [_, _] 3 z nJ z <| ax <| XW.at (J1 (C.2.i_) (C.2.h_) (a6) (a8) (a9) (c3) (⟨b3, H⟩)) (ss [4, 1, 3, 2] z z) (sb z)
  ·exact av <| XW.at (J1 (C.2.i_) (C.2.h_) (([([110, 111] : List UInt8), ([121, 101, 115] : List UInt8)] : List (List UInt8))) ((U ⟨E, 0, N⟩)) (2) ([E]) (⟨z, H⟩)) (ss [4, 1, 3, 2] z z) (sb z)
theorem tc (w : World) {d : List Nat} {p0b : List Int} {p0 : ak} {b_0 : Nat} {a_p0b : Option Addr} {n_p0b c_p0b : Nat} {r : cq × ak} (H : lv p0b p0 = U r) (HS : St w d [b b_0 77 [S a_p0b p0b.length c_p0b, I J p0.i_, I J p0.h_]] w) (g_p0b : (ad e8 5).rd w d p0b [S a_p0b n_p0b c_p0b]) :
    Calls Tryz.prog 59 #[O (U ⟨b_0, 0, N⟩)] w (fun en w' => ∃ v, en = .returned v ∧ v = .agg #[I J r.1.J_, I J r.1.I_, I J r.1.K_, I J r.1.l_, I J r.1.a_, I J r.1.F_, B r.1.G_] ∧ St w d [b b_0 77 [S a_p0b n_p0b c_p0b, I J r.2.i_, I J r.2.h_]] w') := by
 obtain rfl := fp g_p0b
 unfold lv at H
 refine aN Tryz.func59 z Tryz.ntmps59 z (HS) <| sR <| aB z z z z ou (fun _ => kp) fun a1 => nR <| oP z <| bq (val := I J) (h1 := fun _ => z) [1, 1, 2, 3, 9] [(0, [I J 1]), (1, [I J 1]), (2, [I J 2]), (3, [I J 3]), (4, [I J 9])] z z z z z aT ty3 z z z ⟨z, z, nl z, z, z, nl z, z, z, nl z, z, z, nl z, z, z, nl z, Y⟩ z z (fun _ => kp) fun a2 => bE H fun e M H => aj z jA z z z z (fun c a => aU c M (a.carve [0] z z) (rdB [0] z z a g_p0b) (rdO 2 [0] z a z z)) fun a3 c m a o => ?_
 obtain ⟨rfl, p⟩ := o
 refine ⟨St w d [_, _, _, _], a.comp [0] z z p, fun _ _ => Y, ?_⟩
 refine oP z <| bq (val := I J) (h1 := fun _ => z) [0, 50, 200, 500, 999] [(0, [I J 0]), (1, [I J 50]), (2, [I J 200]), (3, [I J 500]), (4, [I J 999])] z z z z z aT ty3 z z z ⟨z, z, nl z, z, z, nl z, z, z, nl z, z, z, nl z, z, z, nl z, Y⟩ z z (fun _ => kp) fun a4 => bE H fun f P H => aj z jA z z z z (fun c a => aU c P (a.carve [3] z z) (rdB [3] z z a g_p0b) (rdO 4 [3] z a z z)) fun a5 c m a q => ?_
 obtain ⟨rfl, s⟩ := q
 refine ⟨St w d [_, _, _, _, _, _], a.comp [3] z z s, fun _ _ => Y, ?_⟩
 refine oP z <| bq (val := I J) (h1 := fun _ => z) [1, 4, 10, 25, 200] [(0, [I J 1]), (1, [I J 4]), (2, [I J 10]), (3, [I J 25]), (4, [I J 200])] z z z z z aT ty3 z z z ⟨z, z, nl z, z, z, nl z, z, z, nl z, z, z, nl z, z, z, nl z, Y⟩ z z (fun _ => kp) fun a6 => bE H fun g Q H => aj z jA z z z z (fun c a => aU c Q (a.carve [5] z z) (rdB [5] z z a g_p0b) (rdO 6 [5] z a z z)) fun a7 c m a t => ?_
 obtain ⟨rfl, u⟩ := t
 refine ⟨St w d [_, _, _, _, _, _, _, _], a.comp [5] z z u, fun _ _ => Y, ?_⟩
 refine oP z <| bq (val := I J) (h1 := fun _ => z) [0, 1, 2, 4, 6, 6] [(0, [I J 0]), (1, [I J 1]), (2, [I J 2]), (3, [I J 4]), (4, [I J 6]), (5, [I J 6])] z z z z z aT ty3 z z z ⟨z, z, nl z, z, z, nl z, z, z, nl z, z, z, nl z, z, z, nl z, z, z, nl z, Y⟩ z z (fun _ => kp) fun a8 => bE H fun h R H => aj z jA z z z z (fun c a => aU c R (a.carve [7] z z) (rdB [7] z z a g_p0b) (rdO 8 [7] z a z z)) fun a9 c m a x => ?_
 obtain ⟨rfl, A⟩ := x
 refine ⟨St w d [_, _, _, _, _, _, _, _, _, _], a.comp [7] z z A, fun _ _ => Y, ?_⟩
 refine oP z <| bq (val := I J) (h1 := fun _ => z) [1, 3, 7, 15, 31, 31] [(0, [I J 1]), (1, [I J 3]), (2, [I J 7]), (3, [I J 15]), (4, [I J 31]), (5, [I J 31])] z z z z z aT ty3 z z z ⟨z, z, nl z, z, z, nl z, z, z, nl z, z, z, nl z, z, z, nl z, z, z, nl z, Y⟩ z z (fun _ => kp) fun b0 => bE H fun j X H => aj z jA z z z z (fun c a => aU c X (a.carve [9] z z) (rdB [9] z z a g_p0b) (rdO 10 [9] z a z z)) fun b1 c m a C => ?_
 obtain ⟨rfl, D⟩ := C
 refine ⟨St w d [_, _, _, _, _, _, _, _, _, _, _, _], a.comp [9] z z D, fun _ _ => Y, ?_⟩
 refine oP z <| bq (val := I J) (h1 := fun _ => z) [62, 63, 80, 100, 150, 2000] [(0, [I J 62]), (1, [I J 63]), (2, [I J 80]), (3, [I J 100]), (4, [I J 150]), (5, [I J 2000])] z z z z z aT ty3 z z z ⟨z, z, nl z, z, z, nl z, z, z, nl z, z, z, nl z, z, z, nl z, z, z, nl z, Y⟩ z z (fun _ => kp) fun b2 => bE H fun k Z H => aj z jA z z z z (fun c a => aU c Z (a.carve [11] z z) (rdB [11] z z a g_p0b) (rdO 12 [11] z a z z)) fun b3 c m a E => ?_
 obtain ⟨rfl, F⟩ := E
 refine ⟨St w d [_, _, _, _, _, _, _, _, _, _, _, _, _, _], a.comp [11] z z F, fun _ _ => Y, ?_⟩
 refine oP z <| bE H fun l a0 H => aj z sV z z z z (fun c a => dL c a0 (a.carve [13] z z) (rdB [13] z z a g_p0b)) fun b4 c m a G => ?_
 obtain ⟨rfl, L⟩ := G
 refine ⟨St w d [_, _, _, _, _, _, _, _, _, _, _, _, _, _, _], a.comp [13] z z L, fun _ _ => Y, ?_⟩
 exact o1 z (bu [(0, [I J e.1]), (1, [I J f.1]), (2, [I J g.1]), (3, [I J h.1]), (4, [I J j.1]), (5, [I J k.1]), (6, [B l.1])] [I J e.1, I J f.1, I J g.1, I J h.1, I J j.1, I J k.1, B l.1] z z ou EH z ⟨z, z, nl z, z, z, nl z, z, z, nl z, z, z, nl z, z, z, nl z, z, z, nl z, z, z, nl z, Y⟩ z) <| sC 0 [I J e.1, I J f.1, I J g.1, I J h.1, I J j.1, I J k.1, B l.1] [_, _, _, _, _, _, _] 1 z ou z <| nT <| aO (rs := [.cell 2 103]) (vs := [.agg #[I J e.1, I J f.1, I J g.1, I J h.1, I J j.1, I J k.1, B l.1]]) z ⟨⟨_, [I J e.1, I J f.1, I J g.1, I J h.1, I J j.1, I J k.1, B l.1], _, _, _, z, ou, (bn (T := 103) 0 (bJ (i := 1) z) z), z, z⟩, Y⟩ (fun w' hw' => by
  obtain rfl := af H
  exact ⟨_, z, z, hw'.sel [14] z z⟩)
theorem np (w : World) {m : List Nat} {p0b : List Int} {p0 : ak} {p1 : ae} {b_0 : Nat} {a_p0b : Option Addr} {n_p0b c_p0b : Nat} {s : List Value} {r : (List Int) × ak} (H : ii p0b p0 p1 = U r) (HS : St w m [b b_0 77 [S a_p0b p0b.length c_p0b, I J p0.i_, I J p0.h_]] w) (g_p0b : (ad e8 5).rd w m p0b [S a_p0b n_p0b c_p0b]) (g1 : (bk).rd w m p1 s) :
    Calls Tryz.prog 62 #[O (U ⟨b_0, 0, N⟩), .agg s.toArray] w (fun en w' => ∃ v, en = .returned v ∧ ∃ (G : Option Addr), ∃ (L : Nat), ∃ (c0 : Nat), ∃ (F0 : List Nat), v = S G L c0 ∧ St w m [W (ad eI 3) F0 r.1 [S G L c0], b b_0 77 [S a_p0b n_p0b c_p0b, I J r.2.i_, I J r.2.h_]] w') := by
 obtain rfl := fp g_p0b
 obtain ⟨a8, a9, rfl, M, P⟩ := aX g1
 obtain ⟨Q, R, rfl⟩ := ao M
 obtain ⟨X, Z, rfl⟩ := ao P
 unfold ii at H
 refine aN Tryz.func62 z Tryz.ntmps62 z (HS) <| sR <| ob _ z fun t => oP z <| nR <| bI (e := eI) z z z z aT ty3 (fun _ => kp) fun u => oP z <| nQ <| am <| sR <| oP z <| nQ <| ay <| CW.at (og (fun (j : Int) (k : Int) (a : List Int) (d : Option Addr) (f : Nat) (g : List Nat) (c : Int) => St w m [b b_0 77 [S a_p0b p0b.length c_p0b, I J j, I J k], b t 73 [S Q p1.f_.length R, S X p1.n_.length Z], W (ad eI 3) g a [S d a.length f]]) (fun j k a d f g c => [(0, O (U ⟨b_0, 0, N⟩)), (3, O (U ⟨t, 0, N⟩)), (5, S d a.length f), (6, I J c)]) (fun kk => fun j k a d f g c => d.isNone = n ∧ cF p1 p0b kk j k a c = U r) (fun _ _ _ _ _ _ _ H => ?_) (fun k1 o j k a d f g c ⟨A, H⟩ => ?_) aY (p0.i_) (p0.h_) (([] : List Int)) ((U ⟨u, 0, N⟩)) (0) ([u]) (0) (⟨z, H⟩)) (ss [0, 1, 2] z z) (sb z)
 ·unfold cF at H
  exact absurd H (by simp)
 ·unfold cF at H
  refine am <| sR <| aa [.p, .fa 73 0 0 fE] z <| o1 z (r1 0 1 z lC z) <| aa [.lenS 70 90 lF, .p] z <| nQ <| cI H z (fun H => ?_) (fun H => ?_)
  ·refine av <| az <| am <| ay <| sR <| oP z <| bE H fun l a1 H => aj z sV z z z z (fun C h => dL C a1 (h.carve [0] z z) (rdB [0] z z h g_p0b)) fun b0 C w2 h D => ?_
   obtain ⟨rfl, E⟩ := D
   refine ⟨St w m [_, _, _, _], h.comp [0] z z E, fun _ _ => Y, ?_⟩
   refine oP z <| nQ <| cI H z (fun H => ?_) (fun H => ?_)
   ·exact aP <| oPP z <| bq (val := I J) (h1 := fun _ => z) [c] [(0, [I J c])] z z z z z aT ty3 z z z ⟨z, z, nl z, Y⟩ z z (fun _ => kp) fun b1 => bE H fun a2 x H => bC (r := 2) (ys := ([c] : List Int)) z z z z z z aT ty3 z z z (ap (e := ad eI 3) (r := 4) z) x (fun _ _ _ => kp) fun a3 a4 a5 => cc z (fun C h => fh (i := 2) h z (fe x)) fun F => oP z <| ax <| bW <| az <| aP <| aa [.p, .p, .p] z <| ax <| ct (RW.at (o (l.2.i_) (l.2.h_) (a2) (a3) (a4) (a5) (J.wrap (c + 1)) (⟨F, H⟩)) (ss [3, 1, 2] z z) (sb z))
   ·exact av <| bW <| az <| aP <| aa [.p, .p, .p] z <| ax <| ct (RW.at (o (l.2.i_) (l.2.h_) (a) (d) (f) (g) (J.wrap (c + 1)) (⟨A, H⟩)) (ss [3, 1, 2] z z) (sb z))
  ·refine bx <| aK <| aR <| aL <| az <| am <| sR <| aa [.p, .lenS 45 3 aT, .p] z <| nQ <| cI H z (fun H => ?_) (fun H => ?_)
   ·exact sR <| bq (val := I J) (h1 := fun _ => z) [0] [(0, [I J 0])] z z z z z aT ty3 z z z ⟨z, z, nl z, Y⟩ z z (fun _ => kp) fun q => oP z <| nT <| aq <| aO (rs := [.tmp 4]) (vs := [S (U ⟨q, 0, N⟩) (([0] : List Int).length) 1]) z ⟨z, Y⟩ (fun w' hw' => by
     obtain rfl := af H
     exact ⟨_, z, (U ⟨q, 0, N⟩), (([0] : List Int).length), 1, [q], z, hw'.sel [3, 0] z z⟩)
   ·exact av <| az <| sR <| oPP z <| nT <| aO (rs := [.tmp 4]) (vs := [S d a.length f]) z ⟨z, Y⟩ (fun w' hw' => by
     obtain rfl := af H
     exact ⟨_, z, d, a.length, f, g, z, hw'.sel [2, 0] z z⟩)
theorem be (w : World) {p0 : Int} {p1 : Int} {p2 : Int} {r : Bool} (H : bd p0 p1 p2 = U r)   :
    Calls Tryz.prog 39 #[I J p0, I J p1, I J p2] w (fun en w' => en = .returned (B r) ∧ Ext [] w w') := by
 unfold bd at H
 refine aN Tryz.func39 z Tryz.ntmps39 z (St.init w []) <| sR <| oP z <| nR <| aa [.p, .p, .p, .p] z <| aV [(14, B ((decide (p0 ≥ p1)) && (decide (p0 ≤ p2)))), (6, B n)] 4 ?_ (fun key => OW.sub (R := [(0, I J p0), (2, I J p2), (6, B n), (10, B (decide (p0 ≥ p1)))]) ?_ (sb z))
 ·exact oP z <| nT <| xr 6 z (by cases H; exact q1)
 ·generalize (decide (p0 ≥ p1)) = a at key ⊢
  cases a
  ·exact aa [.p, .p, .p, .p] z <| OW.sub key (sb z)
  ·exact aa [.p, .p, .p] z <| oP z <| OW.sub key (sb z)
theorem qo (w : World) {p0 : List UInt8} {r : Bool} (H : lP p0 = U r)   :
    Calls Tryz.prog 109 #[vS p0] w (fun en w' => en = .returned (B r) ∧ Ext [] w w') := by
 unfold lP at H
 refine aN Tryz.func109 z Tryz.ntmps109 z (St.init w []) <| sR <| oP z <| nQ <| am <| sR <| aa [.p, .lenT 9 st9] z <| bE H fun l f H => oq z (qc z gN (fun k m => be k f)) tt2 <| oP z <| nQ <| cI H z (fun H => ?_) (fun H => ?_)
 ·exact sR <| oP z <| nT <| aq <| xr 2 z (by cases H; exact q1)
 ·refine av <| az <| am <| sR <| oP z <| nQ <| ay <| CW.at (gF (fun (a : Int) => St w [] []) (fun a => [(0, vS p0), (3, I J a)]) (fun kk => fun a => jb p0 kk a = U r) (fun _ H => ?_) (fun q e a H => ?_) aY (0) (H)) (ss [] z z) (sb z)
  ·unfold jb at H
   exact absurd H (by simp)
  ·unfold jb at H
   refine am <| sR <| aa [.p, .p, .lenT 9 st9, .p] z <| nQ <| cI H z (fun H => ?_) (fun H => ?_)
   ·refine av <| az <| am <| ay <| sR <| oPP z <| bE H fun d g H => o1 z (yU (s := p0) z z z st9 g) <| oPP z <| bE H fun h c H => aV [(23, B h), (0, vS p0), (3, I J a)] 5 ?_ (fun key => OW.sub (R := [(0, vS p0), (3, I J a), (18, B (decide ((d.toNat : Int) < 97)))]) ?_ (sb z))
    ·refine nQ <| cI H z (fun H => ?_) (fun H => ?_)
     ·exact sR <| oP z <| nT <| ba <| aq <| cd <| ba <| aq <| xr 2 z (by cases H; exact q1)
     ·exact av <| bW <| az <| aP <| aa [.p, .p, .p] z <| ax <| ct (RW.at (e (J.wrap (a + 1)) (H)) (ss [] z z) (sb z))
    ·clear H
     have H := c
     clear c
     generalize (decide ((d.toNat : Int) < 97)) = i at H key ⊢
     cases i
     ·have H := bh z H
      refine oPP z <| bE H fun o j H => o1 z (yU (s := p0) z z z st9 j) <| oP z <| oP z <| ?_
      obtain rfl := af H
      exact OW.sub key (sb z)
     ·have H := bi z H
      refine aa [.p, .p, .p, .p, .p] z ?_
      obtain rfl := af H
      exact OW.sub key (sb z)
   ·exact bx <| aK <| aR <| aL <| az <| sR <| oP z <| nT <| xr 2 z (by cases H; exact q1)
theorem pU (w : World) {p0 : List (List UInt8)} {a_0 : Option Addr} {n_0 c_0 : Nat} {r : Bool} (H : kR p0 = U r) (d : (ad (js) 9).rd w [] p0 [S a_0 n_0 c_0]) :
    Calls Tryz.prog 108 #[S a_0 n_0 c_0] w (fun en w' => en = .returned (B r) ∧ Ext [] w w') := by
 obtain rfl := fp d
 unfold kR at H
 refine aN Tryz.func108 z Tryz.ntmps108 z (St.init w []) <| sR <| oP z <| nQ <| am <| sR <| oP z <| nQ <| ay <| CW.at (gF (fun (a : Int) => St w [] []) (fun a => [(0, S a_0 p0.length c_0), (3, I J a)]) (fun kk => fun a => dX p0 kk a = U r) (fun _ H => ?_) (fun m i a H => ?_) aY (0) (H)) (ss [] z z) (sb z)
 ·unfold dX at H
  exact absurd H (by simp)
 ·unfold dX at H
  refine am <| sR <| aa [.p, .p, .lenS 71 9 lD, .p] z <| nQ <| cI H z (fun H => ?_) (fun H => ?_)
  ·refine av <| az <| am <| ay <| am <| sR <| oPP z <| bE H fun q f H => bF (e := js) (xs := p0) (j := a) z z z z z lD ty9 z (ab d) f (by rw [Nat.mul_one]) <| o1 z (aM z z ty9 (bO (ab d) f)) <| bE H fun s l H => oq z (qc z DR (fun o t => qo o l)) tt2 <| oP z <| nQ <| cI H z (fun H => ?_) (fun H => ?_)
   ·exact sR <| oP z <| nT <| aq <| ba <| aq <| cd <| ba <| aq <| xr 2 z (by cases H; exact q1)
   ·refine av <| az <| sR <| oP z <| nQ <| ay <| CW.at (gF (fun (c : Int) => St w [] []) (fun c => [(0, S a_0 p0.length c_0), (3, I J a), (4, I J c)]) (fun kk => fun c => fv a p0 (dX p0 m) kk c = U r) (fun _ H => ?_) (fun x k c H => ?_) aY (0) (H)) (ss [] z z) (sb z)
    ·unfold fv at H
     exact absurd H (by simp)
    ·unfold fv at H
     refine am <| sR <| aa [.p, .p, .p] z <| nQ <| cI H z (fun H => ?_) (fun H => ?_)
     ·refine av <| az <| am <| ay <| am <| dR bU (by kernel_rfl) <| oPP z <| bE H fun u g H => bF (e := js) (xs := p0) (j := a) z z z z z lD ty9 z (ab d) g (by rw [Nat.mul_one]) <| o1 z (aM z z ty9 (bO (ab d) g)) <| oPP z <| bE H fun v h H => bF (e := js) (xs := p0) (j := c) z z z z z lD ty9 z (ab d) h (by rw [Nat.mul_one]) <| o1 z (aM z z ty9 (bO (ab d) h)) <| oP z <| co <| az <| cI H z (fun H => ?_) (fun H => ?_)
      ·exact sR <| oP z <| nT <| ba <| aq <| cd <| ba <| ba <| aq <| cd <| ba <| aq <| xr 2 z (by cases H; exact q1)
      ·exact av <| bW <| az <| aP <| aa [.p, .p, .p] z <| ax <| ct (RW.at (k (J.wrap (c + 1)) (H)) (ss [] z z) (sb z))
     ·exact bx <| aK <| aR <| aL <| bW <| az <| aP <| aa [.p, .p, .p] z <| ax <| ct (RW.at (i (J.wrap (a + 1)) (H)) (ss [] z z) (sb z))
  ·exact bx <| aK <| aR <| aL <| az <| sR <| oP z <| nT <| xr 2 z (by cases H; exact q1)
theorem qw (w : World) {p0 : bz} {l : List Value} {r : Bool} (H : lO p0 = U r) (g0 : (em).rd w [] p0 l) :
    Calls Tryz.prog 95 #[.agg l.toArray] w (fun en w' => en = .returned (B r) ∧ Ext [] w w') := by
 obtain ⟨a4, a5, a6, rfl, x, d, m⟩ := cG g0
 obtain rfl := x
 obtain ⟨A, C, rfl⟩ := ao d
 obtain ⟨D, E, rfl⟩ := ao m
 unfold lO at H
 refine aN Tryz.func95 z Tryz.ntmps95 z (St.init w []) <| sR <| ob _ z fun c => oP z <| nQ <| am <| sR <| aa [.fa 90 0 0 yR] z <| o1 z (r1 0 0 z ty9 z) <| bE H fun a7 F H => oq z (qc z DR (fun f g => qo f F)) tt2 <| oP z <| nQ <| cI H z (fun H => ?_) (fun H => ?_)
 ·exact sR <| oP z <| nT <| aq <| xr 2 z (by cases H; exact q1)
 ·refine av <| az <| am <| sR <| aa [.fa 90 1 1 mU] z <| o1 z (r1 1 0 z bG z) <| aa [.lenS 45 3 aT, .p] z <| nQ <| cI H z (fun H => ?_) (fun H => ?_)
  ·refine sR <| aa [.fa 90 2 2 sT] z <| o1 z (r1 2 0 z nJ z) <| aa [.lenS 71 9 lD] z <| bE H fun o G H => oq z (qc z gN (fun f g => be f G)) tt2 <| oP z <| bE H fun L h H => aV [(20, B L), (2, B n)] 4 ?_ (fun key => OW.sub (R := [(1, O (U ⟨c, 0, N⟩)), (2, B n), (16, B o)]) ?_ (sb z))
   ·exact oP z <| nT <| aq <| xr 2 z (by cases H; exact q1)
   ·clear H
    have H := h
    clear h
    generalize o = M at H key ⊢
    cases M
    ·have H := bh z H
     refine aa [.p, .p, .p, .p] z ?_
     obtain rfl := af H
     exact OW.sub key (sb z)
    ·have H := bi z H
     refine aa [.fa 90 2 2 sT] z <| o1 z (r1 2 0 z nJ z) <| bE H fun a8 P H => oq z (qc z DB (fun f g => pU f P (ab m f g))) tt2 <| oP z <| ?_
     obtain rfl := af H
     exact OW.sub key (sb z)
  ·refine av <| az <| am <| sR <| aa [.fa 90 2 2 sT] z <| o1 z (r1 2 0 z nJ z) <| aa [.lenS 71 9 lD, .p, .p] z <| aV [(30, B ((decide ((p0.E_.length : Int) > 0)) || (decide ((p0.A_.length : Int) > 3)))), (1, O (U ⟨c, 0, N⟩))] 5 ?_ (fun key => OW.sub (R := [(1, O (U ⟨c, 0, N⟩)), (25, B (decide ((p0.E_.length : Int) > 0)))]) ?_ (sb z))
   ·refine nQ <| cI H z (fun H => ?_) (fun H => ?_)
    ·exact sR <| oP z <| nT <| aq <| xr 2 z (by cases H; exact q1)
    ·refine av <| az <| am <| sR <| oP z <| nQ <| ay <| CW.at (gF (fun (a : Int) => St w [] [b c 90 [vS p0.D_, S A p0.A_.length C, S D p0.E_.length E]]) (fun a => [(1, O (U ⟨c, 0, N⟩)), (3, I J a)]) (fun kk => fun a => gU p0 kk a = U r) (fun _ H => ?_) (fun k1 v a H => ?_) aY (0) (H)) (ss [0] z z) (sb z)
     ·unfold gU at H
      exact absurd H (by simp)
     ·unfold gU at H
      refine am <| sR <| aa [.p, .fa 90 1 1 mU] z <| o1 z (r1 1 0 z bG z) <| aa [.lenS 45 3 aT, .p] z <| nQ <| cI H z (fun H => ?_) (fun H => ?_)
      ·refine av <| az <| am <| ay <| am <| dR bU (by kernel_rfl) <| aa [.fa 90 1 1 mU] z <| o1 z (r1 1 0 z bG z) <| oP z <| bE H fun a9 q H => bF (e := eI) (xs := p0.A_) (j := a) z z z z z aT ty3 z (ab d) q (by rw [Nat.mul_one]) <| o1 z (aM z z ty3 (bO (ab d) q)) <| bE H fun s Q H => oq z (qc z gN (fun f g => be f Q)) tt2 <| oPP z <| bE H fun X i H => aV [(62, B X), (1, O (U ⟨c, 0, N⟩)), (3, I J a)] 17 ?_ (fun key => OW.sub (R := [(1, O (U ⟨c, 0, N⟩)), (3, I J a), (45, B (!s))]) ?_ (sb z))
       ·refine co <| az <| cI H z (fun H => ?_) (fun H => ?_)
        ·exact sR <| oP z <| nT <| ba <| aq <| cd <| ba <| aq <| xr 2 z (by cases H; exact q1)
        ·exact av <| bW <| az <| aP <| aa [.p, .p, .p] z <| ax <| ct (RW.at (v (J.wrap (a + 1)) (H)) (ss [0] z z) (sb z))
       ·clear H
        have H := i
        clear i
        generalize (!s) = Z at H key ⊢
        cases Z
        ·have H := bh z H
         refine aa [.p, .p, .p] z <| bE H fun a0 k H => aV [(61, B a0), (1, O (U ⟨c, 0, N⟩)), (3, I J a), (45, B n)] 13 ?_ (fun key => OW.sub (R := [(1, O (U ⟨c, 0, N⟩)), (3, I J a), (45, B n), (48, B (decide (a > 0)))]) ?_ (sb z))
         ·refine aa [.p] z ?_
          obtain rfl := af H
          exact OW.sub key (sb z)
         ·clear H
          have H := k
          clear k
          generalize (decide (a > 0)) = a1 at H key ⊢
          cases a1
          ·have H := bh z H
           refine aa [.p, .p, .p, .p, .p, .p, .p, .p, .p, .p, .p, .p, .p] z ?_
           obtain rfl := af H
           exact OW.sub key (sb z)
          ·have H := bi z H
           refine aa [.fa 90 1 1 mU] z <| o1 z (r1 1 0 z bG z) <| oP z <| bE H fun b0 t H => bF (e := eI) (xs := p0.A_) (j := a) z z z z z aT ty3 z (ab d) t (by rw [Nat.mul_one]) <| o1 z (aM z z ty3 (bO (ab d) t)) <| aa [.fa 90 1 1 mU] z <| o1 z (r1 1 0 z bG z) <| oPP z <| bE H fun b1 u H => bF (e := eI) (xs := p0.A_) (j := J.wrap (a - 1)) z z z z z aT ty3 z (ab d) u (by rw [Nat.mul_one]) <| o1 z (aM z z ty3 (bO (ab d) u)) <| oP z <| oP z <| ?_
           obtain rfl := af H
           exact OW.sub key (sb z)
        ·have H := bi z H
         refine aa [.p, .p, .p, .p, .p, .p, .p, .p, .p, .p, .p, .p, .p, .p, .p, .p, .p] z ?_
         obtain rfl := af H
         exact OW.sub key (sb z)
      ·exact bx <| aK <| aR <| aL <| az <| sR <| oP z <| nT <| xr 2 z (by cases H; exact q1)
   ·generalize (decide ((p0.E_.length : Int) > 0)) = a2 at key ⊢
    cases a2
    ·exact aa [.fa 90 1 1 mU] z <| o1 z (r1 1 0 z bG z) <| aa [.lenS 45 3 aT, .p] z <| oP z <| OW.sub key (sb z)
    ·exact aa [.p, .p, .p, .p, .p] z <| OW.sub key (sb z)
theorem iS (w : World) {p0 : ae} {x : List Value} {r : Bool} (H : fT p0 = U r) (g0 : (bk).rd w [] p0 x) :
    Calls Tryz.prog 92 #[.agg x.toArray] w (fun en w' => en = .returned (B r) ∧ Ext [] w w') := by
 obtain ⟨e5, e6, rfl, h, A⟩ := aX g0
 obtain ⟨C, D, rfl⟩ := ao h
 obtain ⟨E, F, rfl⟩ := ao A
 unfold fT at H
 refine aN Tryz.func92 z Tryz.ntmps92 z (St.init w []) <| sR <| ob _ z fun d => oP z <| nQ <| am <| sR <| aa [.fa 73 0 0 fE] z <| o1 z (r1 0 0 z lC z) <| aa [.lenS 70 90 lF] z <| bE H fun G b1 H => oq z (qc z gN (fun e f => be e b1)) tt2 <| oPP z <| bE H fun i j H => aV [(16, B i), (1, O (U ⟨d, 0, N⟩))] 6 ?_ (fun key => OW.sub (R := [(1, O (U ⟨d, 0, N⟩)), (10, B (!G))]) ?_ (sb z))
 ·refine oP z <| bE H fun b2 k H => aV [(22, B b2), (1, O (U ⟨d, 0, N⟩))] 5 ?_ (fun key => OW.sub (R := [(1, O (U ⟨d, 0, N⟩)), (17, B i)]) ?_ (sb z))
  ·refine nQ <| cI H z (fun H => ?_) (fun H => ?_)
   ·exact sR <| oP z <| nT <| aq <| xr 2 z (by cases H; exact q1)
   ·refine av <| az <| am <| sR <| oP z <| nQ <| ay <| CW.at (gF (fun (a : Int) => St w [] [b d 73 [S C p0.f_.length D, S E p0.n_.length F]]) (fun a => [(1, O (U ⟨d, 0, N⟩)), (3, I J a)]) (fun kk => fun a => dr p0 kk a = U r) (fun _ H => ?_) (fun k1 L a H => ?_) aY (0) (H)) (ss [0] z z) (sb z)
    ·unfold dr at H
     exact absurd H (by simp)
    ·unfold dr at H
     refine am <| sR <| aa [.p, .fa 73 0 0 fE] z <| o1 z (r1 0 0 z lC z) <| aa [.lenS 70 90 lF, .p] z <| nQ <| cI H z (fun H => ?_) (fun H => ?_)
     ·refine av <| az <| am <| ay <| am <| sR <| aa [.fa 73 0 0 fE] z <| o1 z (r1 0 0 z lC z) <| oP z <| bE H fun g M H => cf z z z z z lF km z h M fun b9 c0 o q => ?_
      obtain ⟨c1, c2, c3, rfl, P, l, m⟩ := cG o
      obtain rfl := P
      obtain ⟨Q, X, rfl⟩ := ao l
      obtain ⟨Z, a0, rfl⟩ := ao m
      refine o1 z (dk (cs := [vS g.D_, S Q g.A_.length X, S Z g.E_.length a0]) z z km (ce bor q) z) <| bE H fun c4 a1 H => oq z (qc z Fq (fun e f => qw e a1 (eE z (ab l e f) (ab m e f)))) tt2 <| oP z <| nQ <| cI H z (fun H => ?_) (fun H => ?_)
      ·exact sR <| oP z <| nT <| aq <| ba <| aq <| cd <| ba <| aq <| xr 2 z (by cases H; exact q1)
      ·refine av <| az <| sR <| oP z <| nQ <| ay <| CW.at (gF (fun (c : Int) => St w [] [b d 73 [S C p0.f_.length D, S E p0.n_.length F]]) (fun c => [(1, O (U ⟨d, 0, N⟩)), (3, I J a), (4, I J c)]) (fun kk => fun c => eV a p0 (dr p0 k1) kk c = U r) (fun _ H => ?_) (fun k2 a2 c H => ?_) aY (0) (H)) (ss [0] z z) (sb z)
       ·unfold eV at H
        exact absurd H (by simp)
       ·unfold eV at H
        refine am <| sR <| aa [.p, .p, .p] z <| nQ <| cI H z (fun H => ?_) (fun H => ?_)
        ·refine av <| az <| am <| ay <| am <| dR bU (by kernel_rfl) <| aa [.fa 73 0 0 fE] z <| o1 z (r1 0 0 z lC z) <| oP z <| bE H fun c5 a3 H => cf z z z z z lF km z h a3 fun c6 c7 s t => ?_
         obtain ⟨c8, c9, d0, rfl, a4, a5, a6⟩ := cG s
         obtain rfl := a4
         obtain ⟨d1, d2, rfl⟩ := ao a5
         obtain ⟨d3, d4, rfl⟩ := ao a6
         refine aa [.fa 90 0 0 yR] z <| o1 z (aM z z ty9 (ce bor (ni t 0 1))) <| aa [.fa 73 0 0 fE] z <| o1 z (r1 0 0 z lC z) <| oP z <| bE H fun d5 a7 H => cf z z z z z lF km z h a7 fun d6 d7 u v => ?_
         obtain ⟨d8, d9, e0, rfl, a8, a9, b0⟩ := cG u
         obtain rfl := a8
         obtain ⟨e1, e2, rfl⟩ := ao a9
         obtain ⟨e3, e4, rfl⟩ := ao b0
         refine aa [.fa 90 0 0 yR] z <| o1 z (aM z z ty9 (ce bor (ni v 0 1))) <| oP z <| co <| az <| cI H z (fun H => ?_) (fun H => ?_)
         ·exact sR <| oP z <| nT <| ba <| aq <| cd <| ba <| ba <| aq <| cd <| ba <| aq <| xr 2 z (by cases H; exact q1)
         ·exact av <| bW <| az <| aP <| aa [.p, .p, .p] z <| ax <| ct (RW.at (a2 (J.wrap (c + 1)) (H)) (ss [0] z z) (sb z))
        ·exact bx <| aK <| aR <| aL <| bW <| az <| aP <| aa [.p, .p, .p] z <| ax <| ct (RW.at (L (J.wrap (a + 1)) (H)) (ss [0] z z) (sb z))
     ·exact bx <| aK <| aR <| aL <| az <| sR <| oP z <| nT <| xr 2 z (by cases H; exact q1)
  ·clear H
   have H := k
   clear k
   generalize i = b3 at H key ⊢
   cases b3
   ·have H := bh z H
    refine aa [.fa 73 1 1 ks] z <| o1 z (r1 1 0 z nJ z) <| bE H fun e7 b4 H => oq z (qc z DB (fun e f => pU e b4 (ab A e f))) tt2 <| oP z <| oP z <| ?_
    obtain rfl := af H
    exact OW.sub key (sb z)
   ·have H := bi z H
    refine aa [.p, .p, .p, .p, .p] z ?_
    obtain rfl := af H
    exact OW.sub key (sb z)
 ·clear H
  have H := j
  clear j
  generalize (!G) = b5 at H key ⊢
  cases b5
  ·have H := bh z H
   refine aa [.fa 73 1 1 ks] z <| o1 z (r1 1 0 z nJ z) <| aa [.lenS 71 9 lD] z <| bE H fun e9 b6 H => oq z (qc z gN (fun e f => be e b6)) tt2 <| oP z <| oP z <| ?_
   obtain rfl := af H
   exact OW.sub key (sb z)
  ·have H := bi z H
   refine aa [.p, .p, .p, .p, .p, .p] z ?_
   obtain rfl := af H
   exact OW.sub key (sb z)
theorem jg (w : World) {p0 : ae} {p1 : List Int} {l : List Value} {a_1 : Option Addr} {n_1 c_1 : Nat} {r : Bool} (H : gO p0 p1 = U r) (X : (bk).rd w [] p0 l) (d : (ad eI 3).rd w [] p1 [S a_1 n_1 c_1]) :
    Calls Tryz.prog 77 #[.agg l.toArray, S a_1 n_1 c_1] w (fun en w' => en = .returned (B r) ∧ Ext [] w w') := by
 obtain ⟨Z, a0, rfl, m, o⟩ := aX X
 obtain ⟨x, A, rfl⟩ := ao m
 obtain ⟨C, D, rfl⟩ := ao o
 obtain rfl := fp d
 unfold gO at H
 refine aN Tryz.func77 z Tryz.ntmps77 z (St.init w []) <| sR <| ob _ z fun c => oP z <| nQ <| am <| sR <| o1 z (rx 0 0 _ z cV z) <| bE H fun f E H => oq z (qc z zV (fun g h => iS g E (ah (ab m g h) (ab o g h)))) tt2 <| oPP z <| aV [(13, B ((!f) || ((p1.length : Int) == 0))), (1, S a_1 p1.length c_1), (2, O (U ⟨c, 0, N⟩))] 4 ?_ (fun key => OW.sub (R := [(1, S a_1 p1.length c_1), (2, O (U ⟨c, 0, N⟩)), (9, B (!f))]) ?_ (sb z))
 ·refine nQ <| cI H z (fun H => ?_) (fun H => ?_)
  ·exact sR <| oP z <| nT <| aq <| xr 4 z (by cases H; exact q1)
  ·refine av <| az <| am <| sR <| oP z <| nQ <| ay <| CW.at (gF (fun (a : Int) => St w [] [b c 73 [S x p0.f_.length A, S C p0.n_.length D]]) (fun a => [(1, S a_1 p1.length c_1), (2, O (U ⟨c, 0, N⟩)), (5, I J a)]) (fun kk => fun a => im p1 p0 kk a = U r) (fun _ H => ?_) (fun k1 v a H => ?_) aY (0) (H)) (ss [0] z z) (sb z)
   ·unfold im at H
    exact absurd H (by simp)
   ·unfold im at H
    refine am <| sR <| aa [.p, .p, .lenS 45 3 aT, .p] z <| nQ <| cI H z (fun H => ?_) (fun H => ?_)
    ·refine av <| az <| am <| ay <| am <| dR bU (by kernel_rfl) <| oPP z <| bE H fun a1 q H => bF (e := eI) (xs := p1) (j := a) z z z z z aT ty3 z (ab d) q (by rw [Nat.mul_one]) <| o1 z (aM z z ty3 (bO (ab d) q)) <| aa [.fa 73 0 0 fE] z <| o1 z (r1 0 0 z lC z) <| aa [.lenS 70 90 lF, .p] z <| bE H fun s F H => oq z (qc z gN (fun g h => be g F)) tt2 <| oPP z <| bE H fun G i H => aV [(45, B G), (1, S a_1 p1.length c_1), (2, O (U ⟨c, 0, N⟩)), (5, I J a)] 15 ?_ (fun key => OW.sub (R := [(1, S a_1 p1.length c_1), (2, O (U ⟨c, 0, N⟩)), (5, I J a), (30, B (!s))]) ?_ (sb z))
     ·refine co <| az <| cI H z (fun H => ?_) (fun H => ?_)
      ·exact sR <| oP z <| nT <| ba <| aq <| cd <| ba <| aq <| xr 4 z (by cases H; exact q1)
      ·exact av <| bW <| az <| aP <| aa [.p, .p, .p] z <| ax <| ct (RW.at (v (J.wrap (a + 1)) (H)) (ss [0] z z) (sb z))
     ·clear H
      have H := i
      clear i
      generalize (!s) = L at H key ⊢
      cases L
      ·have H := bh z H
       refine aa [.p, .p, .p] z <| bE H fun M k H => aV [(44, B M), (1, S a_1 p1.length c_1), (2, O (U ⟨c, 0, N⟩)), (5, I J a), (30, B n)] 11 ?_ (fun key => OW.sub (R := [(1, S a_1 p1.length c_1), (2, O (U ⟨c, 0, N⟩)), (5, I J a), (30, B n), (33, B (decide (a > 0)))]) ?_ (sb z))
       ·refine aa [.p] z ?_
        obtain rfl := af H
        exact OW.sub key (sb z)
       ·clear H
        have H := k
        clear k
        generalize (decide (a > 0)) = P at H key ⊢
        cases P
        ·have H := bh z H
         refine aa [.p, .p, .p, .p, .p, .p, .p, .p, .p, .p, .p] z ?_
         obtain rfl := af H
         exact OW.sub key (sb z)
        ·have H := bi z H
         refine oPP z <| bE H fun a2 t H => bF (e := eI) (xs := p1) (j := a) z z z z z aT ty3 z (ab d) t (by rw [Nat.mul_one]) <| o1 z (aM z z ty3 (bO (ab d) t)) <| aa [.p, .p, .p] z <| bE H fun a3 u H => bF (e := eI) (xs := p1) (j := J.wrap (a - 1)) z z z z z aT ty3 z (ab d) u (by rw [Nat.mul_one]) <| o1 z (aM z z ty3 (bO (ab d) u)) <| oP z <| oP z <| ?_
         obtain rfl := af H
         exact OW.sub key (sb z)
      ·have H := bi z H
       refine aa [.p, .p, .p, .p, .p, .p, .p, .p, .p, .p, .p, .p, .p, .p, .p] z ?_
       obtain rfl := af H
       exact OW.sub key (sb z)
    ·exact bx <| aK <| aR <| aL <| az <| sR <| oP z <| nT <| xr 4 z (by cases H; exact q1)
 ·generalize (!f) = Q at key ⊢
  cases Q
  ·exact aa [.p, .lenS 45 3 aT, .p] z <| oP z <| OW.sub key (sb z)
  ·exact aa [.p, .p, .p, .p] z <| OW.sub key (sb z)
theorem iA (w : World) {p0 : bz} {a : List Value} {r : Int} (H : gj p0 = U r) (i : (em).rd w [] p0 a) :
    Calls Tryz.prog 78 #[.agg a.toArray] w (fun en w' => en = .returned (I J r) ∧ Ext [] w w') := by
 obtain ⟨j, k, l, rfl, g, c, d⟩ := cG i
 obtain rfl := g
 obtain ⟨m, o, rfl⟩ := ao c
 obtain ⟨q, s, rfl⟩ := ao d
 unfold gj at H
 refine aN Tryz.func78 z Tryz.ntmps78 z (St.init w []) <| sR <| ob _ z fun t => oP z <| nQ <| am <| sR <| o1 z (rx 0 0 _ z km z) <| bE H fun u h H => oq z (qc z Fq (fun f e => qw f h (eE z (ab c f e) (ab d f e)))) tt2 <| oP z <| nQ <| cI H z (fun H => ?_) (fun H => ?_)
 ·exact sR <| oP z <| nT <| aq <| xr 2 z (by cases H; exact q1)
 ·refine av <| az <| am <| sR <| aa [.fa 90 1 1 mU] z <| o1 z (r1 1 0 z bG z) <| aa [.lenS 45 3 aT, .p] z <| nQ <| cI H z (fun H => ?_) (fun H => ?_)
  ·exact sR <| aa [.fa 90 1 1 mU] z <| o1 z (r1 1 0 z bG z) <| aa [.lenS 45 3 aT, .p, .p] z <| nT <| aq <| xr 2 z (by cases H; exact q1)
  ·exact av <| az <| sR <| aa [.fa 90 2 2 sT] z <| o1 z (r1 2 0 z nJ z) <| aa [.lenS 71 9 lD, .p] z <| nT <| xr 2 z (by cases H; exact q1)
theorem kV (w : World) {u : List Nat} {p0 : ae} {X : List Value} {r : ar} (H : gK p0 = U r) (HS : St w u [] w) (g0 : (bk).rd w u p0 X) :
    Calls Tryz.prog 74 #[.agg X.toArray] w (fun en w' => ∃ v, en = .returned v ∧ ∃ (a0 : Option Addr), ∃ (n0 : Nat), ∃ (c0 : Nat), ∃ (F0 : List Nat), ∃ (a1 : Option Addr), ∃ (n1 : Nat), ∃ (c1 : Nat), ∃ (F1 : List Nat), v = .agg #[S a0 n0 c0, S a1 n1 c1] ∧ St w u [W (ad eI 3) F0 r.d_ [S a0 n0 c0], W (ad (ad eI 3) 45) F1 r.b_ [S a1 n1 c1]] w') := by
 obtain ⟨d5, d6, rfl, x, Z⟩ := aX g0
 obtain ⟨a2, a3, rfl⟩ := ao x
 obtain ⟨a4, a5, rfl⟩ := ao Z
 unfold gK at H
 refine aN Tryz.func74 z Tryz.ntmps74 z (HS) <| sR <| ob _ z fun A => aB z z z z cK (fun _ => kp) fun C => nQ <| am <| sR <| o1 z (rx 0 0 _ z cV z) <| bE H fun d7 c3 H => oq z (qc z zV (fun s o => iS s c3 (ah (ab x s o) (ab Z s o)))) tt2 <| oP z <| nQ <| cI H z (fun H => ?_) (fun H => ?_)
 ·exact sR <| o1 z (bu [] [S N 0 0, S N 0 0] z z cK CV z Y z) <| sC 0 [S N 0 0, S N 0 0] [_, _] 1 z cK z <| nT <| aq <| eG (fun _ h => St.pushNil (e := eI) (T := 3) h) <| eG (fun _ h => St.pushNil (e := ad eI 3) (T := 45) h) <| aO (rs := [.cell 2 58]) (vs := [.agg #[S N 0 0, S N 0 0]]) z ⟨⟨_, [S N 0 0, S N 0 0], _, _, _, z, cK, (bn (T := 58) 0 (bJ (i := 1) z) z), z, z⟩, Y⟩ (fun w' hw' => by
   obtain rfl := af H
   exact ⟨_, z, N, 0, 0, [], N, 0, 0, [], z, hw'.sel [2, 3] z z⟩)
 ·refine av <| az <| sR <| aa [.fa 73 1 1 ks] z <| o1 z (r1 1 0 z nJ z) <| aa [.lenS 71 9 lD] z <| bE H fun a c4 H => rR (e := eI) (zero := (0 : Int)) z z z z z z aT ty3 z z z z (fun _ => ⟨z, z⟩) c4 (fun _ => kp) fun c => o1 z (bu [(0, [S (U ⟨c, 0, N⟩) a.length a.length])] [S (U ⟨c, 0, N⟩) a.length a.length, S N 0 0] z z cK CV z ⟨z, z, nl z, Y⟩ z) <| aB z z z z cK (fun _ => kp) fun D => sC 0 [S (U ⟨c, 0, N⟩) a.length a.length, S N 0 0] [_, _] 3 z cK z <| nQ <| am <| sR <| oP z <| nQ <| ay <| CW.weak ?_ (fun _ h => St.pushNil (e := ad eI 3) (T := 45) h)
  refine CW.at (iw (fun (d : List (List Int)) (f : Option Addr) (g : Nat) (k : List Nat) (l : Int) => St w u [b A 73 [S a2 p0.f_.length a3, S a4 p0.n_.length a5], b C 58 [S N 0 0, S N 0 0], b D 58 [S (U ⟨c, 0, N⟩) a.length a.length, S f d.length g], W (ad eI 3) [c] a [S (U ⟨c, 0, N⟩) a.length a.length], W (ad (ad eI 3) 45) k d [S f d.length g]]) (fun d f g k l => [(1, O (U ⟨A, 0, N⟩)), (2, O (U ⟨C, 0, N⟩)), (3, O (U ⟨D, 0, N⟩)), (4, I J l)]) (fun kk => fun d f g k l => fL p0 a kk d l = U r) (fun _ _ _ _ _ H => ?_) (fun k1 a6 d f g k l H => ?_) aY (([] : List (List Int))) (N) (0) ([]) (0) (H)) (ss [0, 1, 3, 2, 4] z z) (sb z)
  ·unfold fL at H
   exact absurd H (by simp)
  ·unfold fL at H
   refine am <| sR <| aa [.p, .fa 73 0 0 fE] z <| o1 z (r1 0 0 z lC z) <| aa [.lenS 70 90 lF, .p] z <| nQ <| cI H z (fun H => ?_) (fun H => ?_)
   ·refine av <| az <| am <| ay <| cw 14 [(0, y), (1, y), (2, y), (3, y), (4, y), (5, y), (6, y), (8, y), (9, y), (10, y), (7, n), (11, y), (12, n), (13, n)] (St w u [b A 73 [S a2 p0.f_.length a3, S a4 p0.n_.length a5], b C 58 [S N 0 0, S N 0 0], b D 58 [S (U ⟨c, 0, N⟩) a.length a.length, S f d.length g], W (ad eI 3) [c] a [S (U ⟨c, 0, N⟩) a.length a.length], W (ad (ad eI 3) 45) k d [S f d.length g]]) bU (by kernel_rfl) (bj (aJ (db (bj (aJ bb))))) (tk 5 z) <| aa [.fa 58 1 1 dt] z <| bm z (aw z) (r1 1 2 z cY z) <| aa [.fa 73 0 0 fE] z <| bm z (aw z) (r1 0 0 z lC z) <| oP z <| bE H fun t a7 H => cf z z z z z lF km z x a7 fun c8 c9 Q R => ?_
    obtain ⟨d0, d1, d2, rfl, a8, E, F⟩ := cG Q
    obtain rfl := a8
    obtain ⟨a9, b0, rfl⟩ := ao E
    obtain ⟨b1, b2, rfl⟩ := ao F
    refine bm z (aw z) (dk (cs := [vS t.D_, S a9 t.A_.length b0, S b1 t.E_.length b2]) z z km (ce (fun _ h => h.ext) R) z) <| aa [.fa 73 1 1 ks] z <| bm z (aw z) (r1 1 0 z nJ z) <| aa [.lenS 71 9 lD] z <| bE H fun d3 b3 H => oq z (qc z wA (fun s o => iA s b3 (eE z (ab E s o) (ab F s o)))) (tk 5 z) <| oP z <| bE H fun m b4 H => rR (e := eI) (zero := (0 : Int)) z z z z z z aT ty3 z z z z (fun _ => ⟨z, z⟩) b4 (fun _ => (tk 5 z)) fun G => dV [(0, [S (U ⟨G, 0, N⟩) m.length m.length])] z z z z z cC bG z z ⟨z, z, nl z, Y⟩ [S (U ⟨G, 0, N⟩) m.length m.length] z (fun _ => (tk 5 z)) fun d4 => dH z (fun _ h => pg (p := 6) (q := 5) h z z z) <| aQ <| jf <| bE H fun L b5 H => ix (r := 4) (j := 7) z z z z z z cC bG z z z z z z z b5 (fun _ _ _ => kp) fun M P b6 => aa [.fa 58 1 1 dt] z <| sC 1 [S M L.length P] [_, _] 2 z cY z <| ax <| bW <| az <| CW.weak (C' := St w u [_, _, _, _, _]) ?_ (ss [0, 1, 2, 3, 8] z z)
    exact aP <| aa [.p, .p, .p] z <| ax <| ct (RW.at (a6 (L) (M) (P) (b6) (J.wrap (l + 1)) (H)) (ss [0, 1, 2, 3, 4] z z) (sb z))
   ·exact bx <| aK <| aR <| aL <| az <| sR <| o1 z (rx 0 2 _ z cK z) <| sC 0 [S (U ⟨c, 0, N⟩) a.length a.length, S f d.length g] [_, _] 1 z cK z <| nT <| aO (rs := [.cell 2 58]) (vs := [.agg #[S (U ⟨c, 0, N⟩) a.length a.length, S f d.length g]]) z ⟨⟨_, [S (U ⟨c, 0, N⟩) a.length a.length, S f d.length g], _, _, _, z, cK, (bn (T := 58) 0 (bJ (i := 1) z) z), z, z⟩, Y⟩ (fun w' hw' => by
     obtain rfl := af H
     exact ⟨_, z, (U ⟨c, 0, N⟩), a.length, a.length, [c], f, d.length, g, k, z, hw'.sel [3, 4] z z⟩)
theorem un (w : World) {u : List Nat} {p0 : ae} {p1 : List Int} {C : List Value} {a_1 : Option Addr} {n_1 c_1 : Nat} {r : ai} (H : mn p0 p1 = U r) (HS : St w u [] w) (R : (bk).rd w u p0 C) (D : (ad eI 3).rd w u p1 [S a_1 n_1 c_1]) :
    Calls Tryz.prog 69 #[.agg C.toArray, S a_1 n_1 c_1] w (fun en w' => ∃ v, en = .returned v ∧ ∃ (F : Option Addr), ∃ (G : Nat), ∃ (c0 : Nat), ∃ (X : List Nat), v = .agg #[S F G c0, I J r.g_] ∧ St w u [W (ad (aC) 60) X r.a_ [S F G c0]] w') := by
 obtain ⟨Z, a1, rfl, x, A⟩ := aX R
 obtain ⟨a2, a3, rfl⟩ := ao x
 obtain ⟨a4, a5, rfl⟩ := ao A
 obtain rfl := fp D
 unfold mn at H
 refine aN Tryz.func69 z Tryz.ntmps69 z (HS) <| sR <| ob _ z fun a6 => aB z z z z br (fun _ => kp) fun a7 => nQ <| am <| sR <| o1 z (rx 0 0 _ z cV z) <| oP z <| bE H fun a8 L H => oq z (qc z zY (fun f a => jg f L (ah (ab x f a) (ab A f a)) (ab D f a))) tt2 <| oP z <| nQ <| cI H z (fun H => ?_) (fun H => ?_)
 ·exact sR <| o1 z (bu [] [S N 0 0, I J 0] z z br zX z Y z) <| sC 0 [S N 0 0, I J 0] [_, _] 1 z br z <| nT <| aq <| eG (fun _ h => St.pushNil (e := aC) (T := 60) h) <| aO (rs := [.cell 4 26]) (vs := [.agg #[S N 0 0, I J 0]]) z ⟨⟨_, [S N 0 0, I J 0], _, _, _, z, br, (bn (T := 26) 0 (bJ (i := 1) z) z), z, z⟩, Y⟩ (fun w' hw' => by
   obtain rfl := af H
   exact ⟨_, z, N, 0, 0, [], z, hw'.sel [2] z z⟩)
 ·refine av <| az <| sR <| o1 z (rx 0 0 _ z cV z) <| bE H fun c M H => aj z Cu z z z z (fun f a => kV f M (a.carve [] z z) (ah (ab x f a) (ab A f a))) fun a9 f w2 a E => ?_
  obtain ⟨j, b0, k, b1, l, b2, m, b3, rfl, g⟩ := E
  obtain rfl := aA (i := 0) g z
  obtain rfl := aA (i := 1) g z
  refine ⟨St w u [_, _, _, _], a.comp [] z z g, fun _ _ => Y, ?_⟩
  exact bI (e := eI) z z z z aT ty3 (fun _ => kp) fun b4 => oP z <| bE H fun o P H => bC (r := 4) (ys := p1) z z z z z z aT ty3 z z z (ab D) P (fun _ _ _ => kp) fun s t b5 => o1 z (bu [(0, [B y]), (5, [S j c.d_.length k, S l c.b_.length m]), (8, [S s o.length t]), (10, [I J (-1)])] [B y, I J 0, I J 0, S N 0 0, I J 0, S j c.d_.length k, S l c.b_.length m, I J 0, S s o.length t, I J 0, I J (-1), I J 0] z z bZ pN z ⟨z, z, nl z, z, z, nl z, z, z, nl z, z, z, nl z, Y⟩ z) <| dH z (fun _ h => St.pushNil (e := eI) (T := 3) h) <| sl z (fun f a => cm (x0 := y) (x1 := 0) (x2 := 0) (x4 := 0) (x7 := 0) (x9 := 0) (x10 := (-1)) (x11 := 0) [5, 2, 3, 4] a z z) fun Q => dH (C' := St w u [_, _, _, _, _, _, _]) z (fun _ h => h) <| dV [(0, [B y, I J 0, I J 0, S N 0 0, I J 0, S j c.d_.length k, S l c.b_.length m, I J 0, S s o.length t, I J 0, I J (-1), I J 0])] z z z z z dW bZ z z ⟨z, z, nl z, Y⟩ [B y, I J 0, I J 0, S N 0 0, I J 0, S j c.d_.length k, S l c.b_.length m, I J 0, S s o.length t, I J 0, I J (-1), I J 0] z (fun _ => kp) fun d => dH z (fun _ h => pg (p := 7) (q := 6) h z z z) <| o1 z (bu [(0, [S (U ⟨d, 0, N⟩) 1 1])] [S (U ⟨d, 0, N⟩) 1 1, I J 0] z z br zX z ⟨z, z, nl z, Y⟩ z) <| sC 0 [S (U ⟨d, 0, N⟩) 1 1, I J 0] [_, _] 1 z br z <| nT <| aO (rs := [.cell 4 26]) (vs := [.agg #[S (U ⟨d, 0, N⟩) 1 1, I J 0]]) z ⟨⟨_, [S (U ⟨d, 0, N⟩) 1 1, I J 0], _, _, _, z, br, (bn (T := 26) 0 (bJ (i := 1) z) z), z, z⟩, Y⟩ (fun w' hw' => by
   obtain rfl := af H
   exact ⟨_, z, (U ⟨d, 0, N⟩), 1, 1, (d :: Q), z, hw'.sel [8] z z⟩)
theorem pR (w : World) {q : List Nat} {p0b : List Int} {p0 : ak} {p1 : ae} {b_0 : Nat} {a_p0b : Option Addr} {n_p0b c_p0b : Nat} {b8 : List Value} {r : bB × ak} (H : kS p0b p0 p1 = U r) (HS : St w q [b b_0 77 [S a_p0b p0b.length c_p0b, I J p0.i_, I J p0.h_]] w) (g_p0b : (ad e8 5).rd w q p0b [S a_p0b n_p0b c_p0b]) (g1 : (bk).rd w q p1 b8) :
    Calls Tryz.prog 70 #[O (U ⟨b_0, 0, N⟩), .agg b8.toArray] w (fun en w' => ∃ v, en = .returned v ∧ ∃ (a0 : Option Addr), ∃ (n0 : Nat), ∃ (c0 : Nat), ∃ (F0 : List Nat), v = .agg #[S a0 n0 c0, I J r.1.y_] ∧ St w q [W (ad eI 3) F0 r.1.w_ [S a0 n0 c0], b b_0 77 [S a_p0b n_p0b c_p0b, I J r.2.i_, I J r.2.h_]] w') := by
 obtain rfl := fp g_p0b
 obtain ⟨g2, g3, rfl, b9, e1⟩ := aX g1
 obtain ⟨P, Q, rfl⟩ := ao b9
 obtain ⟨X, Z, rfl⟩ := ao e1
 unfold kS at H
 refine aN Tryz.func70 z Tryz.ntmps70 z (HS) <| sR <| ob _ z fun l => aB z z z z jU (fun _ => kp) fun m => nR <| o1 z (bu [] [S N 0 0, I J 0] z z jU Fz z Y z) <| aB z z z z jU (fun _ => kp) fun o => sC 0 [S N 0 0, I J 0] [_, _] 3 z jU z <| nQ <| am <| sR <| oP z <| nQ <| ay <| CW.weak ?_ (fun _ h => St.pushNil (e := eI) (T := 3) h)
 refine CW.at (og (fun (F : Int) (G : Int) (a : List Int) (d : Option Addr) (f : Nat) (x : List Nat) (A : Int) => St w q [b b_0 77 [S a_p0b p0b.length c_p0b, I J F, I J G], b l 73 [S P p1.f_.length Q, S X p1.n_.length Z], b m 113 [S N 0 0, I J 0], b o 113 [S d a.length f, I J 0], W (ad eI 3) x a [S d a.length f]]) (fun F G a d f x A => [(0, O (U ⟨b_0, 0, N⟩)), (3, O (U ⟨l, 0, N⟩)), (4, O (U ⟨m, 0, N⟩)), (5, O (U ⟨o, 0, N⟩)), (6, I J A)]) (fun kk => fun F G a d f x A => dn p1 p0b kk F G a A = U r) (fun _ _ _ _ _ _ _ H => ?_) (fun k1 c1 F G a d f x A H => ?_) aY (p0.i_) (p0.h_) (([] : List Int)) (N) (0) ([]) (0) (H)) (ss [0, 1, 2, 3, 4] z z) (sb z)
 ·unfold dn at H
  exact absurd H (by simp)
 ·unfold dn at H
  refine am <| sR <| aa [.p, .fa 73 0 0 fE] z <| o1 z (r1 0 1 z lC z) <| aa [.lenS 70 90 lF, .p] z <| nQ <| cI H z (fun H => ?_) (fun H => ?_)
  ·refine av <| az <| am <| ay <| sR <| aa [.p, .fa 73 0 0 fE] z <| o1 z (r1 0 1 z lC z) <| oP z <| bE H fun L c2 H => cf z z z z z lF km z b9 c2 fun e7 e9 a8 a9 => ?_
   obtain ⟨f0, f1, f2, rfl, c3, a1, a2⟩ := cG a8
   obtain rfl := c3
   obtain ⟨c4, c5, rfl⟩ := ao a1
   obtain ⟨c6, c7, rfl⟩ := ao a2
   refine o1 z (dk (cs := [vS L.D_, S c4 L.A_.length c5, S c6 L.E_.length c7]) z z km (ce bor a9) z) <| bE H fun f3 c8 H => oq z (qc z wA (fun k c => iA k c8 (eE z (ab a1 k c) (ab a2 k c)))) tt2 <| bE H fun c9 d0 H => aj z oX z z z z (fun k c => ca k d0 (c.carve [0] z z) (rdB [0] z z c g_p0b)) fun f4 k w2 c b0 => ?_
   obtain ⟨rfl, b1⟩ := b0
   refine ⟨St w q [_, _, _, _, _, _], c.comp [0] z z b1, fun _ _ => Y, ?_⟩
   refine oP z <| nQ <| xg (fun (s : Int) (t : Int) (g : Int) => St w q [b b_0 77 [S a_p0b p0b.length c_p0b, I J s, I J t], b l 73 [S P p1.f_.length Q, S X p1.n_.length Z], b m 113 [S N 0 0, I J 0], b o 113 [S d a.length f, I J 0], W (ad eI 3) x a [S d a.length f]]) (fun s t g => [(0, O (U ⟨b_0, 0, N⟩)), (3, O (U ⟨l, 0, N⟩)), (4, O (U ⟨m, 0, N⟩)), (5, O (U ⟨o, 0, N⟩)), (6, I J A), (7, I J g)]) (fun s t g => jk a (dn p1 p0b k1) A s t g = U r) (fun s t g H => ?_) (fun J1 => ?_)
   ·unfold jk at H
    exact aP <| aa [.fa 113 0 0 me] z <| o1 z (r1 0 3 z bG z) <| oP z <| bq (val := I J) (h1 := fun _ => z) [g] [(0, [I J g])] z z z z z aT ty3 z z z ⟨z, z, nl z, Y⟩ z z (fun _ => kp) fun f5 => bE H fun a3 a4 H => bC (r := 4) (ys := ([g] : List Int)) z z z z z z aT ty3 z z z (ap (e := ad eI 3) (r := 5) z) a4 (fun _ _ _ => kp) fun a5 a6 d2 => cc z (fun k c => fh (i := 4) c z (fe a4)) fun e3 => aa [.fa 113 0 0 me] z <| sC 0 [S a5 a3.length a6] [_, _] 3 z bG z <| ax <| bW <| az <| aP <| aa [.p, .p, .p] z <| ax <| ct (RW.at (c1 (s) (t) (a3) (a5) (a6) (d2) (J.wrap (A + 1)) (H)) (ss [0, 1, 2, 3, 4] z z) (sb z))
   ·refine sR <| oP z <| bE H fun D d3 H => aj z sV z z z z (fun k c => dL k d3 (c.carve [5] z z) (rdB [5] z z c g_p0b)) fun f6 k w2 c b2 => ?_
    obtain ⟨rfl, b3⟩ := b2
    refine ⟨St w q [_, _, _, _, _, _, _], c.comp [5] z z b3, fun _ _ => Y, ?_⟩
    refine nQ <| cI H z (fun H => ?_) (fun H => ?_)
    ·refine CW.weak (C' := St w q [_, _, _, _, _]) ?_ (ss [1, 2, 3, 4, 6] z z)
     exact aP <| oP z <| ax <| XW.at (J1 (D.2.i_) (D.2.h_) ((-1)) (H)) (ss [4, 0, 1, 2, 3] z z) (sb z)
    ·exact av <| XW.at (J1 (D.2.i_) (D.2.h_) (c9.1) (H)) (ss [6, 1, 2, 3, 4] z z) (sb z)
  ·refine bx <| aK <| aR <| aL <| az <| sR <| aa [.p, .fa 73 1 1 ks] z <| o1 z (r1 1 1 z nJ z) <| aa [.lenS 71 9 lD] z <| bE H fun C d4 H => aj z oX z z z z (fun k c => ca k d4 (c.carve [0] z z) (rdB [0] z z c g_p0b)) fun f7 k w2 c b4 => ?_
   obtain ⟨rfl, b5⟩ := b4
   refine ⟨St w q [_, _, _, _, _, _], c.comp [0] z z b5, fun _ _ => Y, ?_⟩
   refine aa [.fa 113 1 1 oI] z <| sC 1 [I J C.1] [_, _] 3 z ty3 z <| nQ <| am <| sR <| aa [.fa 113 0 0 me] z <| o1 z (r1 0 3 z bG z) <| aa [.lenS 45 3 aT, .p, .p] z <| bE H fun u M H => Dk (St w q [Res.nil, b l 73 [S P p1.f_.length Q, S X p1.n_.length Z], b m 113 [S N 0 0, I J 0], b o 113 [S d a.length f, I J C.1], W (ad eI 3) x a [S d a.length f], b b_0 77 [S a_p0b p0b.length c_p0b, I J u.2.1, I J u.2.2]]) [(46, B u.1), (0, O (U ⟨b_0, 0, N⟩)), (3, O (U ⟨l, 0, N⟩)), (4, O (U ⟨m, 0, N⟩)), (5, O (U ⟨o, 0, N⟩))] 4 ?_ (fun key => OW.sub (R := [(0, O (U ⟨b_0, 0, N⟩)), (3, O (U ⟨l, 0, N⟩)), (4, O (U ⟨m, 0, N⟩)), (5, O (U ⟨o, 0, N⟩)), (42, B (decide ((a.length : Int) > 0)))]) ?_ ⟨z, z, z, z, z, Y⟩)
   ·refine oP z <| aV [(52, B (u.1 && (decide ((p1.n_.length : Int) > 0)))), (0, O (U ⟨b_0, 0, N⟩)), (3, O (U ⟨l, 0, N⟩)), (4, O (U ⟨m, 0, N⟩)), (5, O (U ⟨o, 0, N⟩))] 5 ?_ (fun key => OW.sub (R := [(0, O (U ⟨b_0, 0, N⟩)), (3, O (U ⟨l, 0, N⟩)), (4, O (U ⟨m, 0, N⟩)), (5, O (U ⟨o, 0, N⟩)), (47, B u.1)]) ?_ (sb z))
    ·refine nQ <| cI H z (fun H => ?_) (fun H => ?_)
     ·exact rI 10 bU (by kernel_rfl) <| aa [.fa 113 0 0 me] z <| o1 z (r1 0 3 z bG z) <| bE H fun f8 a7 H => bF (e := eI) (xs := a) (j := 0) z z z z z aT ty3 z (ap (e := ad eI 3) (r := 4) z) a7 (by rw [Nat.mul_one]) <| o1 z (aM z z ty3 (bO (ap (e := ad eI 3) (r := 4) z) a7)) <| aa [.p, .fa 73 1 1 ks] z <| o1 z (r1 1 1 z nJ z) <| aa [.lenS 71 9 lD] z <| bE H fun E d5 H => o1 z (uB z z z d5) <| aa [.fa 113 1 1 oI] z <| co <| sC 1 [I J E] [_, _] 3 z ty3 z <| nR <| o1 z (rx 0 3 _ z jU z) <| sC 0 [S d a.length f, I J E] [_, _] 2 z jU z <| nT <| aO (rs := [.cell 4 113]) (vs := [.agg #[S d a.length f, I J E]]) z ⟨⟨_, [S d a.length f, I J E], _, _, _, z, jU, (bn (T := 113) 0 (bJ (i := 2) z) z), z, z⟩, Y⟩ (fun w' hw' => by
       obtain rfl := af H
       exact ⟨_, z, d, a.length, f, x, z, hw'.sel [4, 5] z z⟩)
     ·exact av <| az <| sR <| o1 z (rx 0 3 _ z jU z) <| sC 0 [S d a.length f, I J C.1] [_, _] 2 z jU z <| nT <| aO (rs := [.cell 4 113]) (vs := [.agg #[S d a.length f, I J C.1]]) z ⟨⟨_, [S d a.length f, I J C.1], _, _, _, z, jU, (bn (T := 113) 0 (bJ (i := 2) z) z), z, z⟩, Y⟩ (fun w' hw' => by
       obtain rfl := af H
       exact ⟨_, z, d, a.length, f, x, z, hw'.sel [4, 5] z z⟩)
    ·generalize u.1 = d6 at key ⊢
     cases d6
     ·exact aa [.p, .p, .p, .p, .p] z <| OW.sub key (sb z)
     ·exact aa [.fa 73 1 1 ks] z <| o1 z (r1 1 1 z nJ z) <| aa [.lenS 71 9 lD, .p] z <| oP z <| OW.sub key (sb z)
   ·clear H
    have H := M
    clear M
    generalize (decide ((a.length : Int) > 0)) = d7 at H key ⊢
    cases d7
    ·have H := bh z H
     refine aa [.p, .p, .p, .p] z ?_
     obtain rfl := af H
     exact OW.sub key (sb z)
    ·have H := bi z H
     refine oP z <| bE H fun f9 d8 H => aj z sV z z z z (fun k c => dL k d8 (c.carve [5] z z) (rdB [5] z z c g_p0b)) fun g0 k w2 c b6 => ?_
     obtain ⟨rfl, b7⟩ := b6
     refine ⟨St w q [_, _, _, _, _, _, _], c.comp [5] z z b7, fun _ _ => Y, ?_⟩
     refine oP z <| dH z (C' := St w q [_, _, _, _, _, _]) (ss [0, 1, 2, 3, 4, 6] z z) <| oP z <| ?_
     obtain rfl := af H
     exact OW.sub key (sb z)
theorem sE (w : World) {m : List Nat} {p0b : List Int} {p0 : ak} {p1 : Int} {b_0 : Nat} {a_p0b : Option Addr} {n_p0b c_p0b : Nat} {r : (List Int) × ak} (H : lr p0b p0 p1 = U r) (HS : St w m [b b_0 77 [S a_p0b p0b.length c_p0b, I J p0.i_, I J p0.h_]] w) (g_p0b : (ad e8 5).rd w m p0b [S a_p0b n_p0b c_p0b]) :
    Calls Tryz.prog 71 #[O (U ⟨b_0, 0, N⟩), I J p1] w (fun en w' => ∃ v, en = .returned v ∧ ∃ (C : Option Addr), ∃ (D : Nat), ∃ (c0 : Nat), ∃ (P : List Nat), v = S C D c0 ∧ St w m [W (ad e8 5) P r.1 [S C D c0], b b_0 77 [S a_p0b n_p0b c_p0b, I J r.2.i_, I J r.2.h_]] w') := by
 obtain rfl := fp g_p0b
 unfold lr at H
 refine aN Tryz.func71 z Tryz.ntmps71 z (HS) <| sR <| oP z <| nR <| bI (e := e8) z z z z fQ ty5 (fun _ => kp) fun o => oP z <| nQ <| am <| sR <| oP z <| nQ <| ay <| CW.at (og (fun (h : Int) (j : Int) (a : List Int) (c : Option Addr) (d : Nat) (k : List Nat) (f : Int) => St w m [b b_0 77 [S a_p0b p0b.length c_p0b, I J h, I J j], W (ad e8 5) k a [S c a.length d]]) (fun h j a c d k f => [(0, O (U ⟨b_0, 0, N⟩)), (1, I J p1), (5, S c a.length d), (6, I J f)]) (fun kk => fun h j a c d k f => c.isNone = n ∧ ee p1 p0b kk h j a f = U r) (fun _ _ _ _ _ _ _ H => ?_) (fun Z s h j a c d k f ⟨Q, H⟩ => ?_) aY (p0.i_) (p0.h_) (([] : List Int)) ((U ⟨o, 0, N⟩)) (0) ([o]) (0) (⟨z, H⟩)) (ss [0, 1] z z) (sb z)
 ·unfold ee at H
  exact absurd H (by simp)
 ·unfold ee at H
  refine am <| sR <| aa [.p, .p, .p] z <| nQ <| cI H z (fun H => ?_) (fun H => ?_)
  ·refine av <| az <| am <| ay <| aP <| oPP z <| bE H fun l E H => aj z zZ z z z z (fun t g => jP t E (g.carve [0] z z) (rdB [0] z z g g_p0b)) fun R t w2 g u => ?_
   obtain ⟨rfl, x⟩ := u
   refine ⟨St w m [_, _, _], g.comp [0] z z x, fun _ _ => Y, ?_⟩
   exact aa [.cv 3 5 K us3 in5] z <| bq (val := I K) (h1 := fun _ => z) [K.wrap l.1] [(0, [I K (K.wrap l.1)])] z z z z z fQ ty5 z z z ⟨z, z, nl z, Y⟩ z z (fun _ => kp) fun X => bE H fun F q H => bC (r := 1) (ys := ([K.wrap l.1] : List Int)) z z z z z z fQ ty5 z z z (ap (e := ad e8 5) (r := 3) z) q (fun _ _ _ => kp) fun G L M => cc z (fun t g => fh (i := 1) g z (fe q)) fun A => oP z <| ax <| bW <| az <| aP <| aa [.p, .p, .p] z <| ax <| ct (RW.at (s (l.2.i_) (l.2.h_) (F) (G) (L) (M) (J.wrap (f + 1)) (⟨A, H⟩)) (ss [2, 1] z z) (sb z))
  ·exact bx <| aK <| aR <| aL <| az <| sR <| oPP z <| nT <| aO (rs := [.tmp 4]) (vs := [S c a.length d]) z ⟨z, Y⟩ (fun w' hw' => by
    obtain rfl := af H
    exact ⟨_, z, c, a.length, d, k, z, hw'.sel [1, 0] z z⟩)
theorem fz (w : World) {p0 : ae} {p1 : ar} {a5 : List Value} {a6 : List Value} {r : Bool} (H : fb p0 p1 = U r) (g0 : (bk).rd w [] p0 a5) (g1 : (cb).rd w [] p1 a6) :
    Calls Tryz.prog 94 #[.agg a5.toArray, .agg a6.toArray] w (fun en w' => en = .returned (B r) ∧ Ext [] w w') := by
 obtain ⟨f1, f2, rfl, G, a7⟩ := aX g0
 obtain ⟨u, v, rfl⟩ := ao G
 obtain ⟨x, A, rfl⟩ := ao a7
 obtain ⟨f3, f4, rfl, k, L⟩ := aS g1
 obtain ⟨C, D, rfl⟩ := ao k
 obtain ⟨E, F, rfl⟩ := ao L
 unfold fb at H
 refine aN Tryz.func94 z Tryz.ntmps94 z (St.init w []) <| sR <| ob _ z fun d => ob _ z fun f => oP z <| nQ <| am <| sR <| o1 z (rx 0 0 _ z cV z) <| bE H fun M c6 H => oq z (qc z zV (fun l m => iS l c6 (ah (ab G l m) (ab a7 l m)))) tt2 <| oPP z <| aV [(24, B ((!M) || ((p1.d_.length : Int) != (p0.n_.length : Int)))), (2, O (U ⟨d, 0, N⟩)), (3, O (U ⟨f, 0, N⟩))] 8 ?_ (fun key => OW.sub (R := [(2, O (U ⟨d, 0, N⟩)), (3, O (U ⟨f, 0, N⟩)), (16, B (!M))]) ?_ (sb z))
 ·refine nQ <| cI H z (fun H => ?_) (fun H => ?_)
  ·exact sR <| oP z <| nT <| aq <| xr 4 z (by cases H; exact q1)
  ·refine av <| az <| sR <| oP z <| nQ <| am <| sR <| oP z <| nQ <| ay <| CW.at (jH (fun (q : Int) (i : Int) => St w [] [b d 73 [S u p0.f_.length v, S x p0.n_.length A], b f 58 [S C p1.d_.length D, S E p1.b_.length F]]) (fun q i => [(2, O (U ⟨d, 0, N⟩)), (3, O (U ⟨f, 0, N⟩)), (5, I J q), (6, I J i)]) (fun kk => fun q i => dB p1 p0 kk q i = U r) (fun _ _ H => ?_) (fun k1 b0 q i H => ?_) aY (0) (0) (H)) (ss [0, 1] z z) (sb z)
   ·unfold dB at H
    exact absurd H (by simp)
   ·unfold dB at H
    refine am <| sR <| aa [.p, .fa 58 0 0 jc] z <| o1 z (r1 0 1 z bG z) <| aa [.lenS 45 3 aT, .p] z <| nQ <| cI H z (fun H => ?_) (fun H => ?_)
    ·refine av <| az <| am <| ay <| am <| sR <| aa [.fa 58 0 0 jc] z <| o1 z (r1 0 1 z bG z) <| oP z <| bE H fun f5 a8 H => bF (e := eI) (xs := p1.d_) (j := i) z z z z z aT ty3 z (ab k) a8 (by rw [Nat.mul_one]) <| o1 z (aM z z ty3 (bO (ab k) a8)) <| bE H fun f6 c7 H => oq z (qc z gN (fun l m => be l c7)) tt2 <| oP z <| nQ <| cI H z (fun H => ?_) (fun H => ?_)
     ·exact sR <| oP z <| nT <| aq <| ba <| aq <| cd <| ba <| aq <| xr 4 z (by cases H; exact q1)
     ·exact av <| az <| aP <| aa [.p, .fa 58 0 0 jc] z <| o1 z (r1 0 1 z bG z) <| oP z <| bE H fun c8 a9 H => bF (e := eI) (xs := p1.d_) (j := i) z z z z z aT ty3 z (ab k) a9 (by rw [Nat.mul_one]) <| o1 z (aM z z ty3 (bO (ab k) a9)) <| oPP z <| ax <| bW <| az <| aP <| aa [.p, .p, .p] z <| ax <| ct (RW.at (b0 (J.wrap (q + c8)) (J.wrap (i + 1)) (H)) (ss [0, 1] z z) (sb z))
    ·refine bx <| aK <| aR <| aL <| az <| am <| sR <| oPP z <| nQ <| cI H z (fun H => ?_) (fun H => ?_)
     ·exact sR <| oP z <| nT <| aq <| xr 4 z (by cases H; exact q1)
     ·refine av <| az <| am <| sR <| aa [.fa 58 1 1 dt] z <| o1 z (r1 1 1 z cY z) <| aa [.lenS 28 45 cC, .p] z <| nQ <| cI H z (fun H => ?_) (fun H => ?_)
      ·exact sR <| oP z <| nT <| aq <| xr 4 z (by cases H; exact q1)
      ·refine av <| az <| am <| sR <| aa [.fa 58 1 1 dt] z <| o1 z (r1 1 1 z cY z) <| aa [.lenS 28 45 cC, .fa 73 0 0 fE] z <| o1 z (r1 0 0 z lC z) <| aa [.lenS 70 90 lF, .p] z <| nQ <| cI H z (fun H => ?_) (fun H => ?_)
       ·exact sR <| oP z <| nT <| aq <| xr 4 z (by cases H; exact q1)
       ·refine av <| az <| am <| sR <| oP z <| nQ <| ay <| CW.at (gF (fun (a : Int) => St w [] [b d 73 [S u p0.f_.length v, S x p0.n_.length A], b f 58 [S C p1.d_.length D, S E p1.b_.length F]]) (fun a => [(2, O (U ⟨d, 0, N⟩)), (3, O (U ⟨f, 0, N⟩)), (7, I J a)]) (fun kk => fun a => cB p1 p0 kk a = U r) (fun _ H => ?_) (fun k2 b1 a H => ?_) aY (0) (H)) (ss [0, 1] z z) (sb z)
        ·unfold cB at H
         exact absurd H (by simp)
        ·unfold cB at H
         refine am <| sR <| aa [.p, .fa 58 1 1 dt] z <| o1 z (r1 1 1 z cY z) <| aa [.lenS 28 45 cC, .p] z <| nQ <| cI H z (fun H => ?_) (fun H => ?_)
         ·refine av <| az <| am <| ay <| sR <| aa [.fa 73 0 0 fE] z <| o1 z (r1 0 0 z lC z) <| oP z <| bE H fun t b2 H => cf z z z z z lF km z G b2 fun d3 d4 a0 a1 => ?_
          obtain ⟨d5, d6, d7, rfl, b3, P, Q⟩ := cG a0
          obtain rfl := b3
          obtain ⟨b4, b5, rfl⟩ := ao P
          obtain ⟨b6, b7, rfl⟩ := ao Q
          refine o1 z (dk (cs := [vS t.D_, S b4 t.A_.length b5, S b6 t.E_.length b7]) z z km (ce bor a1) z) <| bE H fun o b8 H => oq z (qc z wA (fun l m => iA l b8 (eE z (ab P l m) (ab Q l m)))) tt2 <| oP z <| nQ <| am <| am <| dR bU (by kernel_rfl) <| aa [.fa 58 1 1 dt] z <| o1 z (r1 1 1 z cY z) <| oP z <| bE H fun d8 b9 H => cf z z z z z cC bG z L b9 fun d9 e0 a2 a3 => ?_
          obtain ⟨e1, e2, rfl⟩ := ao a2
          refine o1 z (aM z z bG (ce bor a3)) <| aa [.lenS 45 3 aT, .p, .fa 73 1 1 ks] z <| o1 z (r1 1 0 z nJ z) <| aa [.lenS 71 9 lD, .p, .p] z <| co <| az <| cI H z (fun H => ?_) (fun H => ?_)
          ·exact sR <| oP z <| nT <| aq <| ba <| aq <| cd <| ba <| aq <| xr 4 z (by cases H; exact q1)
          ·refine av <| az <| sR <| oP z <| nQ <| ay <| CW.at (gF (fun (c : Int) => St w [] [b d 73 [S u p0.f_.length v, S x p0.n_.length A], b f 58 [S C p1.d_.length D, S E p1.b_.length F]]) (fun c => [(2, O (U ⟨d, 0, N⟩)), (3, O (U ⟨f, 0, N⟩)), (7, I J a), (8, I J o), (9, I J c)]) (fun kk => fun c => bT p0 o p1 a (cB p1 p0 k2) kk c = U r) (fun _ H => ?_) (fun k3 c0 c H => ?_) aY (0) (H)) (ss [0, 1] z z) (sb z)
           ·unfold bT at H
            exact absurd H (by simp)
           ·unfold bT at H
            refine am <| sR <| aa [.p, .fa 73 1 1 ks] z <| o1 z (r1 1 0 z nJ z) <| aa [.lenS 71 9 lD, .p] z <| nQ <| cI H z (fun H => ?_) (fun H => ?_)
            ·refine av <| az <| am <| ay <| sR <| oP z <| nQ <| am <| sR <| oP z <| nQ <| ay <| CW.at (jH (fun (h : Int) (g : Int) => St w [] [b d 73 [S u p0.f_.length v, S x p0.n_.length A], b f 58 [S C p1.d_.length D, S E p1.b_.length F]]) (fun h g => [(2, O (U ⟨d, 0, N⟩)), (3, O (U ⟨f, 0, N⟩)), (7, I J a), (8, I J o), (9, I J c), (10, I J h), (11, I J g)]) (fun kk => fun h g => cZ o p1 a p0 c (bT p0 o p1 a (cB p1 p0 k2) k3) kk h g = U r) (fun _ _ H => ?_) (fun k4 c1 h g H => ?_) aY (0) (0) (H)) (ss [0, 1] z z) (sb z)
             ·unfold cZ at H
              exact absurd H (by simp)
             ·unfold cZ at H
              refine am <| sR <| aa [.p, .p, .p] z <| nQ <| cI H z (fun H => ?_) (fun H => ?_)
              ·refine av <| az <| am <| ay <| am <| dR bU (by kernel_rfl) <| aa [.fa 58 1 1 dt] z <| o1 z (r1 1 1 z cY z) <| oP z <| bE H fun c2 c3 H => cf z z z z z cC bG z L c3 fun e4 e5 s a4 => ?_
               obtain ⟨e6, e7, rfl⟩ := ao s
               refine o1 z (aM z z bG (ce bor a4)) <| aa [.p, .fa 73 1 1 ks] z <| o1 z (r1 1 0 z nJ z) <| aa [.lenS 71 9 lD, .p, .p, .p] z <| bE H fun c4 X H => bF (e := eI) (xs := c2) (j := J.wrap ((J.wrap (g * (p0.n_.length : Int))) + c)) z z z z z aT ty3 z (ab s) X (by rw [Nat.mul_one]) <| o1 z (aM z z ty3 (bO (ab s) X)) <| oP z <| co <| az <| am <| sR <| oP z <| bE H fun e9 c5 H => oq z (qc z gN (fun l m => be l c5)) tt2 <| oP z <| nQ <| cI H z (fun H => ?_) (fun H => ?_)
               ·exact sR <| oP z <| nT <| aq <| ba <| aq <| cd <| ba <| aq <| ba <| aq <| cd <| ba <| ba <| aq <| cd <| ba <| aq <| xr 4 z (by cases H; exact q1)
               ·exact av <| az <| aP <| aa [.p, .p, .p, .p] z <| ax <| bW <| az <| aP <| aa [.p, .p, .p] z <| ax <| ct (RW.at (c1 (J.wrap (h + c4)) (J.wrap (g + 1)) (H)) (ss [0, 1] z z) (sb z))
              ·refine bx <| aK <| aR <| aL <| az <| sR <| aa [.p, .fa 58 0 0 jc] z <| o1 z (r1 0 1 z bG z) <| oP z <| bE H fun f0 Z H => bF (e := eI) (xs := p1.d_) (j := c) z z z z z aT ty3 z (ab k) Z (by rw [Nat.mul_one]) <| o1 z (aM z z ty3 (bO (ab k) Z)) <| oP z <| nQ <| cI H z (fun H => ?_) (fun H => ?_)
               ·exact sR <| oP z <| nT <| ba <| aq <| cd <| ba <| ba <| aq <| cd <| ba <| aq <| xr 4 z (by cases H; exact q1)
               ·exact av <| bW <| az <| aP <| aa [.p, .p, .p] z <| ax <| ct (RW.at (c0 (J.wrap (c + 1)) (H)) (ss [0, 1] z z) (sb z))
            ·exact bx <| aK <| aR <| aL <| bW <| az <| aP <| aa [.p, .p, .p] z <| ax <| ct (RW.at (b1 (J.wrap (a + 1)) (H)) (ss [0, 1] z z) (sb z))
         ·exact bx <| aK <| aR <| aL <| az <| sR <| oP z <| nT <| xr 4 z (by cases H; exact q1)
 ·generalize (!M) = d0 at key ⊢
  cases d0
  ·exact aa [.fa 58 0 0 jc] z <| o1 z (r1 0 1 z bG z) <| aa [.lenS 45 3 aT, .fa 73 1 1 ks] z <| o1 z (r1 1 0 z nJ z) <| aa [.lenS 71 9 lD, .p] z <| oP z <| OW.sub key (sb z)
  ·exact aa [.p, .p, .p, .p, .p, .p, .p, .p] z <| OW.sub key (sb z)
theorem iY (w : World) {p0 : ae} {p1 : ar} {h : List Value} {i : List Value} {r : Int} (H : dZ p0 p1 = U r) (D : (bk).rd w [] p0 h) (E : (cb).rd w [] p1 i) :
    Calls Tryz.prog 85 #[.agg h.toArray, .agg i.toArray] w (fun en w' => en = .returned (I J r) ∧ Ext [] w w') := by
 obtain ⟨F, G, rfl, k, l⟩ := aX D
 obtain ⟨L, M, rfl⟩ := ao k
 obtain ⟨P, Q, rfl⟩ := ao l
 obtain ⟨R, X, rfl, d, m⟩ := aS E
 obtain ⟨t, u, rfl⟩ := ao d
 obtain ⟨v, x, rfl⟩ := ao m
 unfold dZ at H
 refine aN Tryz.func85 z Tryz.ntmps85 z (St.init w []) <| sR <| ob _ z fun Z => ob _ z fun o => oP z <| nQ <| am <| sR <| o1 z (rx 0 0 _ z cV z) <| o1 z (rx 0 1 _ z cK z) <| bE H fun a0 A H => oq z (qc z wq (fun g f => fz g A (ah (ab k g f) (ab l g f)) (aH (ab d g f) (ab m g f)))) tt2 <| oP z <| nQ <| cI H z (fun H => ?_) (fun H => ?_)
 ·exact sR <| oP z <| nT <| aq <| xr 4 z (by cases H; exact q1)
 ·refine av <| az <| sR <| oP z <| nQ <| am <| sR <| oP z <| nQ <| ay <| CW.at (jH (fun (c : Int) (a : Int) => St w [] [b o 58 [S t p1.d_.length u, S v p1.b_.length x]]) (fun c a => [(3, O (U ⟨o, 0, N⟩)), (5, I J c), (6, I J a)]) (fun kk => fun c a => fF p1 kk c a = U r) (fun _ _ H => ?_) (fun k1 s c a H => ?_) aY (0) (0) (H)) (ss [1] z z) (sb z)
  ·unfold fF at H
   exact absurd H (by simp)
  ·unfold fF at H
   refine am <| sR <| aa [.p, .fa 58 0 0 jc] z <| o1 z (r1 0 0 z bG z) <| aa [.lenS 45 3 aT, .p] z <| nQ <| cI H z (fun H => ?_) (fun H => ?_)
   ·exact av <| az <| am <| ay <| aP <| aa [.p, .fa 58 0 0 jc] z <| o1 z (r1 0 0 z bG z) <| oP z <| bE H fun C q H => bF (e := eI) (xs := p1.d_) (j := a) z z z z z aT ty3 z (ab d) q (by rw [Nat.mul_one]) <| o1 z (aM z z ty3 (bO (ab d) q)) <| oPP z <| ax <| bW <| az <| aP <| aa [.p, .p, .p] z <| ax <| ct (RW.at (s (J.wrap (c + C)) (J.wrap (a + 1)) (H)) (ss [0] z z) (sb z))
   ·exact bx <| aK <| aR <| aL <| az <| sR <| oPP z <| nT <| xr 4 z (by cases H; exact q1)
theorem tK (w : World) {p0 : ae} {p1 : aG} {m : List Value} {o : List Value} {r : Bool} (H : kb p0 p1 = U r) (g0 : (bk).rd w [] p0 m) (g1 : (aC).rd w [] p1 o) :
    Calls Tryz.prog 110 #[.agg m.toArray, .agg o.toArray] w (fun en w' => en = .returned (B r) ∧ Ext [] w w') := by
 obtain ⟨a3, a4, rfl, f, g⟩ := aX g0
 obtain ⟨a5, a6, rfl⟩ := ao f
 obtain ⟨a7, a8, rfl⟩ := ao g
 obtain ⟨a9, b0, b1, b2, b3, b4, b5, b6, b7, b8, rfl, s, t, u, v, x, A, q, C, D, E⟩ := bo g1
 obtain rfl := s
 obtain rfl := t
 obtain ⟨b9, c0, rfl⟩ := ao u
 obtain rfl := v
 obtain ⟨c1, c2, rfl, h, i⟩ := aS x
 obtain ⟨c3, c4, rfl⟩ := ao h
 obtain ⟨c5, c6, rfl⟩ := ao i
 obtain rfl := A
 obtain ⟨c7, c8, rfl⟩ := ao q
 obtain rfl := C
 obtain rfl := D
 obtain rfl := E
 unfold kb at H
 refine aN Tryz.func110 z Tryz.ntmps110 z (St.init w []) <| sR <| ob _ z fun d => ob _ z fun e => oP z <| nQ <| am <| sR <| aa [.fa 60 1 1 kL] z <| o1 z (rx 1 1 _ z cL z) <| o1 z (bu [] [I J 0, I J 0] z z cL xG z Y z) <| o1 z (Dl (xs := [I J p1.k_.j_, I J p1.k_.c_]) (ys := [I J 0, I J 0]) z z z (FG p1.k_.j_ 0 p1.k_.c_ 0)) <| oP z <| aV [(14, B ((!(p1.k_.j_ == 0 && (p1.k_.c_ == 0 && y))) || (decide ((p1.t_.length : Int) > 0)))), (2, O (U ⟨d, 0, N⟩)), (3, O (U ⟨e, 0, N⟩))] 5 ?_ (fun key => OW.sub (R := [(2, O (U ⟨d, 0, N⟩)), (3, O (U ⟨e, 0, N⟩)), (9, B (!(p1.k_.j_ == 0 && (p1.k_.c_ == 0 && y))))]) ?_ (sb z))
 ·refine oP z <| aV [(19, B (((!(p1.k_.j_ == 0 && (p1.k_.c_ == 0 && y))) || (decide ((p1.t_.length : Int) > 0))) || (p1.x_ != 0))), (2, O (U ⟨d, 0, N⟩)), (3, O (U ⟨e, 0, N⟩))] 4 ?_ (fun key => OW.sub (R := [(2, O (U ⟨d, 0, N⟩)), (3, O (U ⟨e, 0, N⟩)), (15, B ((!(p1.k_.j_ == 0 && (p1.k_.c_ == 0 && y))) || (decide ((p1.t_.length : Int) > 0))))]) ?_ (sb z))
  ·refine oP z <| bE H fun j k H => aV [(26, B j), (2, O (U ⟨d, 0, N⟩)), (3, O (U ⟨e, 0, N⟩))] 6 ?_ (fun key => OW.sub (R := [(2, O (U ⟨d, 0, N⟩)), (3, O (U ⟨e, 0, N⟩)), (20, B (((!(p1.k_.j_ == 0 && (p1.k_.c_ == 0 && y))) || (decide ((p1.t_.length : Int) > 0))) || (p1.x_ != 0)))]) ?_ (sb z))
   ·refine oP z <| bE H fun F l H => aV [(33, B F), (2, O (U ⟨d, 0, N⟩)), (3, O (U ⟨e, 0, N⟩))] 6 ?_ (fun key => OW.sub (R := [(2, O (U ⟨d, 0, N⟩)), (3, O (U ⟨e, 0, N⟩)), (27, B j)]) ?_ (sb z))
    ·refine nQ <| cI H z (fun H => ?_) (fun H => ?_)
     ·exact sR <| oP z <| nT <| aq <| xr 4 z (by cases H; exact q1)
     ·refine av <| az <| am <| sR <| aa [.fa 60 4 5 ep, .fa 58 1 1 dt] z <| o1 z (r1 6 1 z cY z) <| aa [.lenS 28 45 cC, .p] z <| nQ <| cI H z (fun H => ?_) (fun H => ?_)
      ·exact sR <| aa [.fa 60 5 7 lE] z <| o1 z (r1 7 1 z ty3 z) <| oPP z <| nT <| aq <| xr 4 z (by cases H; exact q1)
      ·exact av <| az <| am <| dR bU (by kernel_rfl) <| aa [.fa 60 5 7 lE] z <| o1 z (r1 7 1 z ty3 z) <| o1 z (rx 0 0 _ z cV z) <| aa [.fa 60 4 5 ep] z <| o1 z (rx 5 1 _ z cK z) <| bE H fun c9 G H => oq z (qc z Ci (fun c a => iY c G (ah (ab f c a) (ab g c a)) (aH (ab h c a) (ab i c a)))) tt2 <| bE H fun d0 L H => oq z (qc z gN (fun c a => be c L)) tt2 <| oP z <| co <| az <| uS <| xr 4 z (by cases H; exact q1)
    ·clear H
     have H := l
     clear l
     generalize j = M at H key ⊢
     cases M
     ·have H := bh z H
      refine o1 z (rx 0 0 _ z cV z) <| aa [.fa 60 6 8 mM] z <| o1 z (r1 8 1 z bG z) <| bE H fun d1 P H => oq z (qc z zY (fun c a => jg c P (ah (ab f c a) (ab g c a)) (ab q c a))) tt2 <| oP z <| oP z <| ?_
      obtain rfl := af H
      exact OW.sub key (sb z)
     ·have H := bi z H
      refine aa [.p, .p, .p, .p, .p, .p] z ?_
      obtain rfl := af H
      exact OW.sub key (sb z)
   ·clear H
    have H := k
    clear k
    generalize (((!(p1.k_.j_ == 0 && (p1.k_.c_ == 0 && y))) || (decide ((p1.t_.length : Int) > 0))) || (p1.x_ != 0)) = Q at H key ⊢
    cases Q
    ·have H := bh z H
     refine o1 z (rx 0 0 _ z cV z) <| aa [.fa 60 4 5 ep] z <| o1 z (rx 5 1 _ z cK z) <| bE H fun d2 X H => oq z (qc z wq (fun c a => fz c X (ah (ab f c a) (ab g c a)) (aH (ab h c a) (ab i c a)))) tt2 <| oP z <| oP z <| ?_
     obtain rfl := af H
     exact OW.sub key (sb z)
    ·have H := bi z H
     refine aa [.p, .p, .p, .p, .p, .p] z ?_
     obtain rfl := af H
     exact OW.sub key (sb z)
  ·generalize ((!(p1.k_.j_ == 0 && (p1.k_.c_ == 0 && y))) || (decide ((p1.t_.length : Int) > 0))) = Z at key ⊢
   cases Z
   ·exact aa [.fa 60 3 4 pb] z <| o1 z (r1 4 1 z ty3 z) <| oP z <| oP z <| OW.sub key (sb z)
   ·exact aa [.p, .p, .p, .p] z <| OW.sub key (sb z)
 ·generalize (!(p1.k_.j_ == 0 && (p1.k_.c_ == 0 && y))) = a0 at key ⊢
  cases a0
  ·exact aa [.fa 60 2 3 iX] z <| o1 z (r1 3 1 z bG z) <| aa [.lenS 45 3 aT, .p] z <| oP z <| OW.sub key (sb z)
  ·exact aa [.p, .p, .p, .p, .p] z <| OW.sub key (sb z)
theorem hY (w : World) {p0 : ae} {p1 : au} {h : List Value} {r : Bool} (H : gm p0 p1 = U r) (g0 : (bk).rd w [] p0 h) :
    Calls Tryz.prog 73 #[.agg h.toArray, .agg #[I J p1.j_, I J p1.c_]] w (fun en w' => en = .returned (B r) ∧ Ext [] w w') := by
 obtain ⟨b5, b6, rfl, d, i⟩ := aX g0
 obtain ⟨b7, b8, rfl⟩ := ao d
 obtain ⟨b9, c0, rfl⟩ := ao i
 unfold gm at H
 refine aN Tryz.func73 z Tryz.ntmps73 z (St.init w []) <| sR <| ob _ z fun j => ob _ z fun k => oP z <| nQ <| am <| sR <| o1 z (rx 0 0 _ z cV z) <| bE H fun l D H => oq z (qc z zV (fun a c => iS a D (ah (ab d a c) (ab i a c)))) tt2 <| oPP z <| bE H fun E e H => aV [(17, B E), (2, O (U ⟨j, 0, N⟩)), (3, O (U ⟨k, 0, N⟩))] 9 ?_ (fun key => OW.sub (R := [(2, O (U ⟨j, 0, N⟩)), (3, O (U ⟨k, 0, N⟩)), (8, B (!l))]) ?_ (sb z))
 ·refine nQ <| cI H z (fun H => ?_) (fun H => ?_)
  ·exact sR <| oP z <| nT <| aq <| xr 4 z (by cases H; exact q1)
  ·refine av <| az <| am <| sR <| aa [.fa 73 0 0 fE] z <| o1 z (r1 0 0 z lC z) <| aa [.fa 56 0 0 lj] z <| o1 z (r1 0 1 z ty3 z) <| bE H fun c1 F H => cf z z z z z lF km z d F fun c2 c3 t u => ?_
   obtain ⟨c4, c5, c6, rfl, G, L, M⟩ := cG t
   obtain rfl := G
   obtain ⟨c7, c8, rfl⟩ := ao L
   obtain ⟨c9, d0, rfl⟩ := ao M
   refine aa [.fa 90 1 1 mU] z <| o1 z (aM z z bG (ce bor (ni u 1 1))) <| aa [.lenS 45 3 aT, .p] z <| nQ <| cI H z (fun H => ?_) (fun H => ?_)
   ·refine am <| dR bU (by kernel_rfl) <| aa [.fa 56 1 1 oB] z <| o1 z (r1 1 1 z ty3 z) <| aa [.fa 73 0 0 fE] z <| o1 z (r1 0 0 z lC z) <| aa [.fa 56 0 0 lj] z <| o1 z (r1 0 1 z ty3 z) <| bE H fun f P H => cf z z z z z lF km z d P fun d1 d2 v x => ?_
    obtain ⟨d3, d4, d5, rfl, Q, m, o⟩ := cG v
    obtain rfl := Q
    obtain ⟨X, Z, rfl⟩ := ao m
    obtain ⟨a0, a1, rfl⟩ := ao o
    exact o1 z (dk (cs := [vS f.D_, S X f.A_.length Z, S a0 f.E_.length a1]) z z km (ce bor x) z) <| bE H fun d6 a2 H => oq z (qc z wA (fun a c => iA a a2 (eE z (ab m a c) (ab o a c)))) tt2 <| oP z <| bE H fun d7 a3 H => oq z (qc z gN (fun a c => be a a3)) tt2 <| oP z <| co <| az <| uS <| aq <| xr 4 z (by cases H; exact q1)
   ·refine av <| az <| am <| dR bU (by kernel_rfl) <| aa [.fa 56 1 1 oB] z <| o1 z (r1 1 1 z ty3 z) <| aa [.fa 73 0 0 fE] z <| o1 z (r1 0 0 z lC z) <| aa [.fa 56 0 0 lj] z <| o1 z (r1 0 1 z ty3 z) <| bE H fun g a4 H => cf z z z z z lF km z d a4 fun d8 d9 A C => ?_
    obtain ⟨e0, e1, e2, rfl, a5, q, s⟩ := cG A
    obtain rfl := a5
    obtain ⟨a6, a7, rfl⟩ := ao q
    obtain ⟨a8, a9, rfl⟩ := ao s
    exact o1 z (dk (cs := [vS g.D_, S a6 g.A_.length a7, S a8 g.E_.length a9]) z z km (ce bor C) z) <| bE H fun e3 b0 H => oq z (qc z wA (fun a c => iA a b0 (eE z (ab q a c) (ab s a c)))) tt2 <| oP z <| bE H fun e4 b1 H => oq z (qc z gN (fun a c => be a b1)) tt2 <| oP z <| co <| az <| uS <| xr 4 z (by cases H; exact q1)
 ·clear H
  have H := e
  clear e
  generalize (!l) = b2 at H key ⊢
  cases b2
  ·have H := bh z H
   refine aa [.fa 56 0 0 lj] z <| o1 z (r1 0 1 z ty3 z) <| aa [.fa 73 0 0 fE] z <| o1 z (r1 0 0 z lC z) <| aa [.lenS 70 90 lF, .p] z <| bE H fun e5 b3 H => oq z (qc z gN (fun a c => be a b3)) tt2 <| oP z <| oP z <| ?_
   obtain rfl := af H
   exact OW.sub key (sb z)
  ·have H := bi z H
   refine aa [.p, .p, .p, .p, .p, .p, .p, .p, .p] z ?_
   obtain rfl := af H
   exact OW.sub key (sb z)
theorem gG (w : World) {p0 : ae} {p1 : au} {f : List Value} {r : Int} (H : dO p0 p1 = U r) (v : (bk).rd w [] p0 f) :
    Calls Tryz.prog 88 #[.agg f.toArray, .agg #[I J p1.j_, I J p1.c_]] w (fun en w' => en = .returned (I J r) ∧ Ext [] w w') := by
 obtain ⟨x, A, rfl, d, g⟩ := aX v
 obtain ⟨C, D, rfl⟩ := ao d
 obtain ⟨E, F, rfl⟩ := ao g
 unfold dO at H
 refine aN Tryz.func88 z Tryz.ntmps88 z (St.init w []) <| sR <| ob _ z fun G => ob _ z fun L => oP z <| nQ <| am <| sR <| o1 z (rx 0 0 _ z cV z) <| o1 z (rx 0 1 _ z cL z) <| bE H fun M l H => oq z (qc z xF (fun c a => hY c (p1 := p1) l (ah (ab d c a) (ab g c a)))) tt2 <| oP z <| nQ <| cI H z (fun H => ?_) (fun H => ?_)
 ·exact sR <| oP z <| nT <| aq <| xr 4 z (by cases H; exact q1)
 ·refine av <| az <| am <| sR <| aa [.fa 56 1 1 oB] z <| o1 z (r1 1 1 z ty3 z) <| oP z <| nQ <| cI H z (fun H => ?_) (fun H => ?_)
  ·refine sR <| aa [.fa 73 0 0 fE] z <| o1 z (r1 0 0 z lC z) <| aa [.fa 56 0 0 lj] z <| o1 z (r1 0 1 z ty3 z) <| bE H fun e m H => cf z z z z z lF km z d m fun P Q j k => ?_
   obtain ⟨R, X, Z, rfl, o, h, i⟩ := cG j
   obtain rfl := o
   obtain ⟨p, q, rfl⟩ := ao h
   obtain ⟨s, t, rfl⟩ := ao i
   exact o1 z (dk (cs := [vS e.D_, S p e.A_.length q, S s e.E_.length t]) z z km (ce bor k) z) <| bE H fun a0 u H => oq z (qc z wA (fun c a => iA c u (eE z (ab h c a) (ab i c a)))) tt2 <| oP z <| nT <| aq <| xr 4 z (by cases H; exact q1)
  ·exact av <| az <| sR <| oP z <| nT <| xr 4 z (by cases H; exact q1)
theorem sQ (w : World) {p0 : ae} {p1 : ai} {p2 : Int} {a8 : List Value} {a9 : List Value} {r : Bool} (H : jC p0 p1 p2 = U r) (g0 : (bk).rd w [] p0 a8) (g1 : (cW).rd w [] p1 a9) :
    Calls Tryz.prog 111 #[.agg a8.toArray, .agg a9.toArray, I J p2] w (fun en w' => en = .returned (B r) ∧ Ext [] w w') := by
 obtain ⟨j2, j3, rfl, m, o⟩ := aX g0
 obtain ⟨j4, j5, rfl⟩ := ao m
 obtain ⟨j6, j7, rfl⟩ := ao o
 obtain ⟨j8, j9, rfl, v, d6⟩ := cr g1
 obtain ⟨d7, d8, rfl⟩ := ao v
 obtain rfl := d6
 unfold jC at H
 refine aN Tryz.func111 z Tryz.ntmps111 z (St.init w []) <| sR <| ob _ z fun i => ob _ z fun d => oP z <| nR <| aa [.fa 26 0 0 bR] z <| o1 z (r1 0 1 z ec z) <| oP z <| bE H fun a d9 H => cf z z z z z dW bZ z v d9 fun k0 k2 b4 b5 => ?_
 obtain ⟨k3, k4, k5, k6, k7, k8, k9, l0, l1, l2, rfl, e0, e1, k, e2, e3, e4, b0, e5, e6, e7⟩ := bo b4
 obtain rfl := e0
 obtain rfl := e1
 obtain ⟨x, A, rfl⟩ := ao k
 obtain rfl := e2
 obtain ⟨l3, l4, rfl, b1, b2⟩ := aS e3
 obtain ⟨C, D, rfl⟩ := ao b1
 obtain ⟨E, F, rfl⟩ := ao b2
 obtain rfl := e4
 obtain ⟨G, L, rfl⟩ := ao b0
 obtain rfl := e5
 obtain rfl := e6
 obtain rfl := e7
 refine o1 z (dk (cs := [B a.s_, I J a.k_.j_, I J a.k_.c_, S x a.t_.length A, I J a.x_, S C a.m_.d_.length D, S E a.m_.b_.length F, I J a.v_, S G a.f_.length L, I J a.l_, I J a.p_, I J a.q_]) z z bZ (ce bor b5) z) <| aB z z z z bZ (fun _ => kp) fun f => sC 0 [B a.s_, I J a.k_.j_, I J a.k_.c_, S x a.t_.length A, I J a.x_, S C a.m_.d_.length D, S E a.m_.b_.length F, I J a.v_, S G a.f_.length L, I J a.l_, I J a.p_, I J a.q_] [_, _, _, _, _, _, _, _, _, _, _, _] 2 z bZ z <| nQ <| am <| am <| dR bU (by kernel_rfl) <| o1 z (rx 0 0 _ z cV z) <| aa [.fa 60 1 1 kL] z <| o1 z (rx 1 2 _ z cL z) <| bE H fun b3 e9 H => oq z (qc z xF (fun h g => hY h (p1 := a.k_) e9 (ah (ab m h g) (ab o h g)))) tt2 <| oPP z <| bE H fun M P H => aV [(28, B M), (2, I J p2), (3, O (U ⟨i, 0, N⟩)), (4, O (U ⟨d, 0, N⟩)), (7, O (U ⟨f, 0, N⟩))] 9 ?_ (fun key => OW.sub (R := [(2, I J p2), (3, O (U ⟨i, 0, N⟩)), (4, O (U ⟨d, 0, N⟩)), (7, O (U ⟨f, 0, N⟩)), (19, B (!b3))]) ?_ (sb z))
 ·refine oP z <| bE H fun Q X H => aV [(38, B Q), (2, I J p2), (3, O (U ⟨i, 0, N⟩)), (4, O (U ⟨d, 0, N⟩)), (7, O (U ⟨f, 0, N⟩))] 9 ?_ (fun key => OW.sub (R := [(2, I J p2), (3, O (U ⟨i, 0, N⟩)), (4, O (U ⟨d, 0, N⟩)), (7, O (U ⟨f, 0, N⟩)), (29, B M)]) ?_ (sb z))
  ·refine oP z <| bE H fun l Z H => aV [(45, B l), (2, I J p2), (3, O (U ⟨i, 0, N⟩)), (4, O (U ⟨d, 0, N⟩)), (7, O (U ⟨f, 0, N⟩))] 6 ?_ (fun key => OW.sub (R := [(2, I J p2), (3, O (U ⟨i, 0, N⟩)), (4, O (U ⟨d, 0, N⟩)), (7, O (U ⟨f, 0, N⟩)), (39, B Q)]) ?_ (sb z))
   ·refine oP z <| aV [(52, B (l || (decide ((a.m_.b_.length : Int) > 0)))), (2, I J p2), (3, O (U ⟨i, 0, N⟩)), (4, O (U ⟨d, 0, N⟩)), (7, O (U ⟨f, 0, N⟩))] 6 ?_ (fun key => OW.sub (R := [(2, I J p2), (3, O (U ⟨i, 0, N⟩)), (4, O (U ⟨d, 0, N⟩)), (7, O (U ⟨f, 0, N⟩)), (46, B l)]) ?_ (sb z))
    ·refine oP z <| aV [(57, B ((l || (decide ((a.m_.b_.length : Int) > 0))) || (a.v_ != 0))), (2, I J p2), (3, O (U ⟨i, 0, N⟩)), (4, O (U ⟨d, 0, N⟩)), (7, O (U ⟨f, 0, N⟩))] 4 ?_ (fun key => OW.sub (R := [(2, I J p2), (3, O (U ⟨i, 0, N⟩)), (4, O (U ⟨d, 0, N⟩)), (7, O (U ⟨f, 0, N⟩)), (53, B (l || (decide ((a.m_.b_.length : Int) > 0))))]) ?_ (sb z))
     ·refine oP z <| bE H fun f0 a0 H => aV [(64, B f0), (2, I J p2), (4, O (U ⟨d, 0, N⟩)), (7, O (U ⟨f, 0, N⟩))] 6 ?_ (fun key => OW.sub (R := [(2, I J p2), (3, O (U ⟨i, 0, N⟩)), (4, O (U ⟨d, 0, N⟩)), (7, O (U ⟨f, 0, N⟩)), (58, B ((l || (decide ((a.m_.b_.length : Int) > 0))) || (a.v_ != 0)))]) ?_ (sb z))
      ·refine co <| az <| cI H z (fun H => ?_) (fun H => ?_)
       ·exact sR <| oP z <| nT <| aq <| xr 6 z (by cases H; exact q1)
       ·refine av <| az <| am <| sR <| oP z <| nQ <| ay <| CW.at (gF (fun (c : Int) => St w [] [b d 26 [S d7 p1.a_.length d8, I J p1.g_], b f 60 [B a.s_, I J a.k_.j_, I J a.k_.c_, S x a.t_.length A, I J a.x_, S C a.m_.d_.length D, S E a.m_.b_.length F, I J a.v_, S G a.f_.length L, I J a.l_, I J a.p_, I J a.q_]]) (fun c => [(2, I J p2), (4, O (U ⟨d, 0, N⟩)), (7, O (U ⟨f, 0, N⟩)), (8, I J c)]) (fun kk => fun c => gB a p2 p1 kk c = U r) (fun _ H => ?_) (fun k1 b6 c H => ?_) aY (0) (H)) (ss [1, 2] z z) (sb z)
        ·unfold gB at H
         exact absurd H (by simp)
        ·unfold gB at H
         refine am <| sR <| aa [.p, .fa 60 2 3 iX] z <| o1 z (r1 3 1 z bG z) <| aa [.lenS 45 3 aT, .p] z <| nQ <| cI H z (fun H => ?_) (fun H => ?_)
         ·refine av <| az <| am <| ay <| am <| dR bU (by kernel_rfl) <| aa [.fa 60 2 3 iX] z <| o1 z (r1 3 1 z bG z) <| oP z <| bE H fun g5 a1 H => bF (e := eI) (xs := a.t_) (j := c) z z z z z aT ty3 z (ab k) a1 (by rw [Nat.mul_one]) <| o1 z (aM z z ty3 (bO (ab k) a1)) <| aa [.p, .p, .fa 26 0 0 bR] z <| o1 z (r1 0 0 z ec z) <| aa [.lenS 24 60 dW, .p] z <| bE H fun a2 b7 H => oq z (qc z gN (fun h g => be h b7)) tt2 <| oPP z <| bE H fun q s H => aV [(98, B q), (2, I J p2), (4, O (U ⟨d, 0, N⟩)), (7, O (U ⟨f, 0, N⟩)), (8, I J c)] 13 ?_ (fun key => OW.sub (R := [(2, I J p2), (4, O (U ⟨d, 0, N⟩)), (7, O (U ⟨f, 0, N⟩)), (8, I J c), (85, B (!a2))]) ?_ (sb z))
          ·refine oP z <| bE H fun b8 t H => aV [(116, B b8), (2, I J p2), (4, O (U ⟨d, 0, N⟩)), (7, O (U ⟨f, 0, N⟩)), (8, I J c)] 17 ?_ (fun key => OW.sub (R := [(2, I J p2), (4, O (U ⟨d, 0, N⟩)), (7, O (U ⟨f, 0, N⟩)), (8, I J c), (99, B q)]) ?_ (sb z))
           ·refine co <| az <| cI H z (fun H => ?_) (fun H => ?_)
            ·exact sR <| oP z <| nT <| ba <| aq <| cd <| ba <| aq <| xr 6 z (by cases H; exact q1)
            ·exact av <| bW <| az <| aP <| aa [.p, .p, .p] z <| ax <| ct (RW.at (b6 (J.wrap (c + 1)) (H)) (ss [0, 1] z z) (sb z))
           ·clear H
            have H := t
            clear t
            generalize q = b9 at H key ⊢
            cases b9
            ·have H := bh z H
             refine aa [.p, .p, .p] z <| bE H fun c0 u H => aV [(115, B c0), (2, I J p2), (4, O (U ⟨d, 0, N⟩)), (7, O (U ⟨f, 0, N⟩)), (8, I J c), (99, B n)] 13 ?_ (fun key => OW.sub (R := [(2, I J p2), (4, O (U ⟨d, 0, N⟩)), (7, O (U ⟨f, 0, N⟩)), (8, I J c), (99, B n), (102, B (decide (c > 0)))]) ?_ (sb z))
             ·refine aa [.p] z ?_
              obtain rfl := af H
              exact OW.sub key (sb z)
             ·clear H
              have H := u
              clear u
              generalize (decide (c > 0)) = c1 at H key ⊢
              cases c1
              ·have H := bh z H
               refine aa [.p, .p, .p, .p, .p, .p, .p, .p, .p, .p, .p, .p, .p] z ?_
               obtain rfl := af H
               exact OW.sub key (sb z)
              ·have H := bi z H
               refine aa [.fa 60 2 3 iX] z <| o1 z (r1 3 1 z bG z) <| oP z <| bE H fun g6 a3 H => bF (e := eI) (xs := a.t_) (j := c) z z z z z aT ty3 z (ab k) a3 (by rw [Nat.mul_one]) <| o1 z (aM z z ty3 (bO (ab k) a3)) <| aa [.fa 60 2 3 iX] z <| o1 z (r1 3 1 z bG z) <| oPP z <| bE H fun g7 a4 H => bF (e := eI) (xs := a.t_) (j := J.wrap (c - 1)) z z z z z aT ty3 z (ab k) a4 (by rw [Nat.mul_one]) <| o1 z (aM z z ty3 (bO (ab k) a4)) <| oP z <| oP z <| ?_
               obtain rfl := af H
               exact OW.sub key (sb z)
            ·have H := bi z H
             refine aa [.p, .p, .p, .p, .p, .p, .p, .p, .p, .p, .p, .p, .p, .p, .p, .p, .p] z ?_
             obtain rfl := af H
             exact OW.sub key (sb z)
          ·clear H
           have H := s
           clear s
           generalize (!a2) = c2 at H key ⊢
           cases c2
           ·have H := bh z H
            refine aa [.fa 26 0 0 bR] z <| o1 z (r1 0 0 z ec z) <| aa [.fa 60 2 3 iX] z <| o1 z (r1 3 1 z bG z) <| oP z <| bE H fun g8 a5 H => bF (e := eI) (xs := a.t_) (j := c) z z z z z aT ty3 z (ab k) a5 (by rw [Nat.mul_one]) <| o1 z (aM z z ty3 (bO (ab k) a5)) <| bE H fun g9 c3 H => cf z z z z z dW bZ z v c3 fun h0 h1 a6 a7 => ?_
            obtain ⟨h2, h3, h4, h5, h6, h7, h8, h9, i0, i1, rfl, c4, c5, c6, c7, c8, c9, d0, d1, d2, d3⟩ := bo a6
            obtain rfl := c4
            obtain rfl := c5
            obtain ⟨i2, i3, rfl⟩ := ao c6
            obtain rfl := c7
            obtain ⟨i4, i5, rfl, d4, d5⟩ := aS c8
            obtain ⟨i6, i7, rfl⟩ := ao d4
            obtain ⟨i8, i9, rfl⟩ := ao d5
            obtain rfl := c9
            obtain ⟨j0, j1, rfl⟩ := ao d0
            obtain rfl := d1
            obtain rfl := d2
            obtain rfl := d3
            refine aa [.fa 60 8 10 nw] z <| o1 z (aM z z ty3 (ce bor (ni a7 10 1))) <| oPP z <| oP z <| ?_
            obtain rfl := af H
            exact OW.sub key (sb z)
           ·have H := bi z H
            refine aa [.p, .p, .p, .p, .p, .p, .p, .p, .p, .p, .p, .p, .p] z ?_
            obtain rfl := af H
            exact OW.sub key (sb z)
         ·exact bx <| aK <| aR <| aL <| az <| sR <| oP z <| nT <| xr 6 z (by cases H; exact q1)
      ·clear H
       have H := a0
       clear a0
       generalize ((l || (decide ((a.m_.b_.length : Int) > 0))) || (a.v_ != 0)) = f1 at H key ⊢
       cases f1
       ·have H := bh z H
        refine o1 z (rx 0 0 _ z cV z) <| aa [.fa 60 6 8 mM] z <| o1 z (r1 8 2 z bG z) <| bE H fun l5 f2 H => oq z (qc z zY (fun h g => jg h f2 (ah (ab m h g) (ab o h g)) (ab b0 h g))) tt2 <| oP z <| oP z <| ?_
        obtain rfl := af H
        exact OW.sub key (sb z)
       ·have H := bi z H
        refine aa [.p, .p, .p, .p, .p, .p] z ?_
        obtain rfl := af H
        exact OW.sub key (sb z)
     ·generalize (l || (decide ((a.m_.b_.length : Int) > 0))) = f3 at key ⊢
      cases f3
      ·exact aa [.fa 60 5 7 lE] z <| o1 z (r1 7 2 z ty3 z) <| oP z <| oP z <| OW.sub key (sb z)
      ·exact aa [.p, .p, .p, .p] z <| OW.sub key (sb z)
    ·generalize l = f4 at key ⊢
     cases f4
     ·exact aa [.fa 60 4 5 ep, .fa 58 1 1 dt] z <| o1 z (r1 6 2 z cY z) <| aa [.lenS 28 45 cC, .p] z <| oP z <| OW.sub key (sb z)
     ·exact aa [.p, .p, .p, .p, .p, .p] z <| OW.sub key (sb z)
   ·clear H
    have H := Z
    clear Z
    generalize Q = f5 at H key ⊢
    cases f5
    ·have H := bh z H
     refine o1 z (rx 0 0 _ z cV z) <| aa [.fa 60 4 5 ep] z <| o1 z (rx 5 2 _ z cK z) <| bE H fun l6 f6 H => oq z (qc z wq (fun h g => fz h f6 (ah (ab m h g) (ab o h g)) (aH (ab b1 h g) (ab b2 h g)))) tt2 <| oP z <| oP z <| ?_
     obtain rfl := af H
     exact OW.sub key (sb z)
    ·have H := bi z H
     refine aa [.p, .p, .p, .p, .p, .p] z ?_
     obtain rfl := af H
     exact OW.sub key (sb z)
  ·clear H
   have H := X
   clear X
   generalize M = f7 at H key ⊢
   cases f7
   ·have H := bh z H
    refine aa [.fa 60 3 4 pb] z <| o1 z (r1 4 2 z ty3 z) <| aa [.fa 60 2 3 iX] z <| o1 z (r1 3 2 z bG z) <| aa [.lenS 45 3 aT, .p] z <| bE H fun l7 f8 H => oq z (qc z gN (fun h g => be h f8)) tt2 <| oP z <| oP z <| ?_
    obtain rfl := af H
    exact OW.sub key (sb z)
   ·have H := bi z H
    refine aa [.p, .p, .p, .p, .p, .p, .p, .p, .p] z ?_
    obtain rfl := af H
    exact OW.sub key (sb z)
 ·clear H
  have H := P
  clear P
  generalize (!b3) = f9 at H key ⊢
  cases f9
  ·have H := bh z H
   refine aa [.fa 60 2 3 iX] z <| o1 z (r1 3 2 z bG z) <| aa [.lenS 45 3 aT] z <| o1 z (rx 0 0 _ z cV z) <| aa [.fa 60 1 1 kL] z <| o1 z (rx 1 2 _ z cL z) <| bE H fun l8 g2 H => oq z (qc z yT (fun h g => gG h (p1 := a.k_) g2 (ah (ab m h g) (ab o h g)))) tt2 <| oP z <| oP z <| ?_
   obtain rfl := af H
   exact OW.sub key (sb z)
  ·have H := bi z H
   refine aa [.p, .p, .p, .p, .p, .p, .p, .p, .p] z ?_
   obtain rfl := af H
   exact OW.sub key (sb z)
theorem sX (w : World) {p0 : List Int} {p1 : Int} {a_0 : Option Addr} {n_0 c_0 : Nat} {r : Bool} (H : lu p0 p1 = U r) (d : (ad eI 3).rd w [] p0 [S a_0 n_0 c_0]) :
    Calls Tryz.prog 112 #[S a_0 n_0 c_0, I J p1] w (fun en w' => en = .returned (B r) ∧ Ext [] w w') := by
 obtain rfl := fp d
 unfold lu at H
 refine aN Tryz.func112 z Tryz.ntmps112 z (St.init w []) <| sR <| oP z <| nQ <| am <| sR <| oP z <| nQ <| ay <| CW.at (gF (fun (a : Int) => St w [] []) (fun a => [(0, S a_0 p0.length c_0), (1, I J p1), (5, I J a)]) (fun kk => fun a => cM p0 p1 kk a = U r) (fun _ H => ?_) (fun h f a H => ?_) aY (0) (H)) (ss [] z z) (sb z)
 ·unfold cM at H
  exact absurd H (by simp)
 ·unfold cM at H
  refine am <| sR <| aa [.p, .p, .lenS 45 3 aT, .p] z <| nQ <| cI H z (fun H => ?_) (fun H => ?_)
  ·refine av <| az <| am <| ay <| sR <| oPP z <| bE H fun g c H => bF (e := eI) (xs := p0) (j := a) z z z z z aT ty3 z (ab d) c (by rw [Nat.mul_one]) <| o1 z (aM z z ty3 (bO (ab d) c)) <| oPP z <| nQ <| cI H z (fun H => ?_) (fun H => ?_)
   ·exact sR <| oP z <| nT <| ba <| aq <| cd <| ba <| aq <| xr 4 z (by cases H; exact q1)
   ·exact av <| bW <| az <| aP <| aa [.p, .p, .p] z <| ax <| ct (RW.at (f (J.wrap (a + 1)) (H)) (ss [] z z) (sb z))
  ·exact bx <| aK <| aR <| aL <| az <| sR <| oP z <| nT <| xr 4 z (by cases H; exact q1)
end Go.Vk
