/- The code does what the functions of data say. Printed by program. -/
import Derived.Test.YtckmlpmehdpmiaaGreatDoorRF
import Derived.Test.YtckmlpmehdpmiaaGreatDoorVkBr
import Derived.Test.YtckmlpmehdpmiaaGreatDoorChecked
import Derived.Test.YtckmlpmehdpmiaaGreatDoorShelf
namespace Go.Vk
open Go.Vk renaming oP → A, aa → C, sR → D, o1 → G, nQ → P, St → Q, ae → V, ab → Z, ah → E, am → R, sb → c, bE → d, af → g
open Value renaming int → I, slice → S, pointer → O, bool → B
open IntKind renaming i64 → J, u8 → K
open Bool renaming true → y, false → n
open Option renaming some → U, none → N
open Res renaming box → b, own → W
open Go.Proofs Go.RowKit
set_option maxHeartbeats 4000000
set_option maxRecDepth 100000
def aD : Enc ap := AM (cM (bC) (cM (V eI 3) (V (bC) 9))) (fun x => (x.D_, x.x_, x.F_))
theorem co {w X x c0 c1 c2} (a : (bC).rd w X x.D_ c0) (h1 : (V eI 3).rd w X x.x_ c1) (e : (V (bC) 9).rd w X x.F_ c2) : (aD).rd w X x (c0 ++ (c1 ++ c2)) := by
  show (cM (bC) (cM (V eI 3) (V (bC) 9))).rd w X (x.D_, x.x_, x.F_) _
  exact (dT a (dT h1 e))
theorem CE {w X x cs} (h : (aD).rd w X x cs) : ∃ c0 c1 c2, cs = (c0 ++ (c1 ++ c2)) ∧ (bC).rd w X x.D_ c0 ∧ (V eI 3).rd w X x.x_ c1 ∧ (V (bC) 9).rd w X x.F_ c2 := by
  obtain ⟨c0, _, rfl, a, c1, c2, rfl, h1, e⟩ := h
  exact ⟨c0, c1, c2, z, a, h1, e⟩
theorem As {w a e f x c0 c1 c2} (h : (bC).own w a x.D_ c0) (h1 : (V eI 3).own w e x.x_ c1) (i : (V (bC) 9).own w f x.F_ c2) : (aD).own w (a ++ (e ++ f)) x (c0 ++ (c1 ++ c2)) := by
  show (cM (bC) (cM (V eI 3) (V (bC) 9))).own w _ (x.D_, x.x_, x.F_) _
  exact (gc h (gc h1 i))
theorem Ar {w F x cs} (h : (aD).own w F x cs) : ∃ a e f c0 c1 c2, F = (a ++ (e ++ f)) ∧ cs = (c0 ++ (c1 ++ c2)) ∧ (bC).own w a x.D_ c0 ∧ (V eI 3).own w e x.x_ c1 ∧ (V (bC) 9).own w f x.F_ c2 := by
  obtain ⟨a, _, c0, _, rfl, rfl, i, e, f, c1, c2, rfl, rfl, h1, j⟩ := h
  exact ⟨a, e, f, c0, c1, c2, z, z, i, h1, j⟩
theorem BK {w0 : World} {M : List Nat} {L : List Res} {w : World} {F : List Nat} {x : ap} {cs : List Value} {i : Nat} (h : Q w0 M L w) (l : L[i]? = U (W (aD) F x cs)) :
    ∃ (e : Option Addr) (f : Nat) (m : List Nat), ∃ (j : Option Addr) (k : Nat) (o : List Nat), cs = [vS x.D_, S e (x.x_).length f, S j (x.F_).length k] ∧ Q w0 M (oc L [i] ++ [W (V eI 3) m x.x_ [S e (x.x_).length f], W (V (bC) 9) o x.F_ [S j (x.F_).length k]]) w := by
  obtain ⟨a, _, _⟩ := h.one l
  have a : (aD).own w F x cs := a
  obtain ⟨F1_0, F1_1, F1_2, c1_0, c1_1, c1_2, rfl, rfl, h1_0, h1_1, h1_2⟩ := Ar a
  obtain ⟨rfl, rfl⟩ : F1_0 = [] ∧ c1_0 = [vS x.D_] := h1_0
  obtain ⟨q, r, rfl⟩ := nq h1_1
  obtain ⟨t, u, rfl⟩ := nq h1_2
  refine ⟨q, r, F1_1, t, u, F1_2, z, h.re [i] _ z ?_ ?_⟩
  · simp [jR, qP, l, dE, W]
  · intro s p; simp only [List.mem_cons, List.not_mem_nil, or_false] at p; rcases p with rfl | rfl
    · exact h1_1
    · exact h1_2
theorem rR {w0 : World} {M : List Nat} {L : List Res} {w : World} {x0 : List UInt8} {x1 : List Int} {a : Option Addr} {e f : Nat} {m : List Nat} {x2 : List (List UInt8)} {i : Option Addr} {j k : Nat} {o : List Nat} (idx : List Nat) (h : Q w0 M L w) (l : lb L idx = [W (V eI 3) m x1 [S a e f], W (V (bC) 9) o x2 [S i j k]]) (p : wg idx = y) :
    ∃ F, Q w0 M (oc L idx ++ [W (aD) F (ap.mk x0 x1 x2) [vS x0, S a e f, S i j k]]) w := by
  have q : (V eI 3).own w m x1 [S a e f] := h.ok' (oz (L := L) (is := idx) (by rw [l]; simp : W (V eI 3) m x1 [S a e f] ∈ lb L idx))
  have G : (V (bC) 9).own w o x2 [S i j k] := h.ok' (oz (L := L) (is := idx) (by rw [l]; simp : W (V (bC) 9) o x2 [S i j k] ∈ lb L idx))
  have r := (As (x := (ap.mk x0 x1 x2)) (⟨z, z⟩ : (bC).own w [] _ _) q G)
  refine ⟨_, h.re idx [W (aD) _ (ap.mk x0 x1 x2) [vS x0, S a e f, S i j k]] p ?_ (fun s l => by rw [List.mem_singleton.1 l]; exact r)⟩
  rw [l]
  simp [dE, W]
theorem bJ {w X x cs} (h : (aD).rd w X x cs) : ∃ a c0 e c1, cs = [vS x.D_, S a x.x_.length c0, S e x.F_.length c1] ∧ (V eI 3).rd w X x.x_ [S a x.x_.length c0] ∧ (V (bC) 9).rd w X x.F_ [S e x.F_.length c1] := by
  obtain ⟨j, k, l, rfl, i, h1, f⟩ := CE h
  obtain rfl := i
  obtain ⟨a, c0, rfl⟩ := dz h1
  obtain ⟨e, c1, rfl⟩ := dz f
  exact ⟨a, c0, e, c1, z, h1, f⟩
def bH : Enc aj := AM (cM (V (aD) 123) (V (bC) 9)) (fun x => (x.d_, x.f_))
theorem aw {w X x c0 c1} (a : (V (aD) 123).rd w X x.d_ c0) (h1 : (V (bC) 9).rd w X x.f_ c1) : (bH).rd w X x (c0 ++ c1) := by
  show (cM (V (aD) 123) (V (bC) 9)).rd w X (x.d_, x.f_) _
  exact (dT a h1)
theorem zp {w X x cs} (h : (bH).rd w X x cs) : ∃ c0 c1, cs = (c0 ++ c1) ∧ (V (aD) 123).rd w X x.d_ c0 ∧ (V (bC) 9).rd w X x.f_ c1 := by
  obtain ⟨c0, c1, rfl, a, h1⟩ := h
  exact ⟨c0, c1, z, a, h1⟩
theorem bA {w X x cs} (h : (bH).rd w X x cs) : ∃ a c0 e c1, cs = [S a x.d_.length c0, S e x.f_.length c1] ∧ (V (aD) 123).rd w X x.d_ [S a x.d_.length c0] ∧ (V (bC) 9).rd w X x.f_ [S e x.f_.length c1] := by
  obtain ⟨i, j, rfl, f, h1⟩ := zp h
  obtain ⟨a, c0, rfl⟩ := dz f
  obtain ⟨e, c1, rfl⟩ := dz h1
  exact ⟨a, c0, e, c1, z, f, h1⟩
def sJ : Enc bw := nF (fun x => [I J x.L_, I J x.N_, I J x.M_, I J x.h_, I J x.e_, I J x.E_, B x.Q_]) 7 (fun _ => z) (by intro x u a; simp only [List.mem_cons, List.not_mem_nil, or_false] at a; rcases a with rfl | rfl | rfl | rfl | rfl | rfl | rfl <;> rfl)
def dA : Enc aR := AM (cM (bH) (cM (sJ) (cM eI (cM eI (cM eI (cM eI eI)))))) (fun x => (x.g_, x.b_, x.j_, x.O_, x.P_, x.r_, x.s_))
theorem bx {w X x c0 c1 c2 c3 c4 c5 c6} (a : (bH).rd w X x.g_ c0) (h1 : (sJ).rd w X x.b_ c1) (e : eI.rd w X x.j_ c2) (f : eI.rd w X x.O_ c3) (h : eI.rd w X x.P_ c4) (i : eI.rd w X x.r_ c5) (j : eI.rd w X x.s_ c6) : (dA).rd w X x (c0 ++ (c1 ++ (c2 ++ (c3 ++ (c4 ++ (c5 ++ c6)))))) := by
  show (cM (bH) (cM (sJ) (cM eI (cM eI (cM eI (cM eI eI)))))).rd w X (x.g_, x.b_, x.j_, x.O_, x.P_, x.r_, x.s_) _
  exact (dT a (dT h1 (dT e (dT f (dT h (dT i j))))))
theorem CG {w X x cs} (h : (dA).rd w X x cs) : ∃ c0 c1 c2 c3 c4 c5 c6, cs = (c0 ++ (c1 ++ (c2 ++ (c3 ++ (c4 ++ (c5 ++ c6)))))) ∧ (bH).rd w X x.g_ c0 ∧ (sJ).rd w X x.b_ c1 ∧ eI.rd w X x.j_ c2 ∧ eI.rd w X x.O_ c3 ∧ eI.rd w X x.P_ c4 ∧ eI.rd w X x.r_ c5 ∧ eI.rd w X x.s_ c6 := by
  obtain ⟨c0, _, rfl, a, c1, _, rfl, h1, c2, _, rfl, e, c3, _, rfl, f, c4, _, rfl, i, c5, c6, rfl, j, k⟩ := h
  exact ⟨c0, c1, c2, c3, c4, c5, c6, z, a, h1, e, f, i, j, k⟩
theorem dV {w X x cs} (h : (dA).rd w X x cs) : ∃ a c0 e c1, cs = [S a x.g_.d_.length c0, S e x.g_.f_.length c1, I J x.b_.L_, I J x.b_.N_, I J x.b_.M_, I J x.b_.h_, I J x.b_.e_, I J x.b_.E_, B x.b_.Q_, I J x.j_, I J x.O_, I J x.P_, I J x.r_, I J x.s_] ∧ (V (aD) 123).rd w X x.g_.d_ [S a x.g_.d_.length c0] ∧ (V (bC) 9).rd w X x.g_.f_ [S e x.g_.f_.length c1] := by
  obtain ⟨q, r, s, t, u, v, F, rfl, f, h1, i, j, k, l, m⟩ := CG h
  obtain ⟨a, c0, e, c1, rfl, o, p⟩ := bA f
  obtain rfl := h1
  obtain rfl := i
  obtain rfl := j
  obtain rfl := k
  obtain rfl := l
  obtain rfl := m
  exact ⟨a, c0, e, c1, z, o, p⟩
def lk : Enc bD := nF (fun x => [I J x.t_, I J x.u_]) 2 (fun _ => z) (by intro x u a; simp only [List.mem_cons, List.not_mem_nil, or_false] at a; rcases a with rfl | rfl <;> rfl)
def cZ : Enc bl := AM (cM (V eI 3) (V (V eI 3) 63)) (fun x => (x.q_, x.l_))
theorem cu {w X x c0 c1} (a : (V eI 3).rd w X x.q_ c0) (h1 : (V (V eI 3) 63).rd w X x.l_ c1) : (cZ).rd w X x (c0 ++ c1) := by
  show (cM (V eI 3) (V (V eI 3) 63)).rd w X (x.q_, x.l_) _
  exact (dT a h1)
theorem AC {w X x cs} (h : (cZ).rd w X x cs) : ∃ c0 c1, cs = (c0 ++ c1) ∧ (V eI 3).rd w X x.q_ c0 ∧ (V (V eI 3) 63).rd w X x.l_ c1 := by
  obtain ⟨c0, c1, rfl, a, h1⟩ := h
  exact ⟨c0, c1, z, a, h1⟩
theorem zD {w a e x c0 c1} (f : (V eI 3).own w a x.q_ c0) (h1 : (V (V eI 3) 63).own w e x.l_ c1) : (cZ).own w (a ++ e) x (c0 ++ c1) := by
  show (cM (V eI 3) (V (V eI 3) 63)).own w _ (x.q_, x.l_) _
  exact (gc f h1)
theorem zG {w F x cs} (h : (cZ).own w F x cs) : ∃ a e c0 c1, F = (a ++ e) ∧ cs = (c0 ++ c1) ∧ (V eI 3).own w a x.q_ c0 ∧ (V (V eI 3) 63).own w e x.l_ c1 := by
  obtain ⟨a, e, c0, c1, rfl, rfl, f, h1⟩ := h
  exact ⟨a, e, c0, c1, z, z, f, h1⟩
def aQ : Enc az := AM (cM (rj) (cM (lk) (cM (V eI 3) (cM eI (cM (cZ) (cM eI (cM (V eI 3) (cM eI (cM eI eI))))))))) (fun x => (x.B_, x.i_, x.v_, x.I_, x.k_, x.J_, x.d_, x.h_, x.A_, x.G_))
theorem gx {w X x c0 c1 c2 c3 c4 c5 c6 a e f} (h : (rj).rd w X x.B_ c0) (h1 : (lk).rd w X x.i_ c1) (i : (V eI 3).rd w X x.v_ c2) (j : eI.rd w X x.I_ c3) (k : (cZ).rd w X x.k_ c4) (l : eI.rd w X x.J_ c5) (m : (V eI 3).rd w X x.d_ c6) (o : eI.rd w X x.h_ a) (p : eI.rd w X x.A_ e) (q : eI.rd w X x.G_ f) : (aQ).rd w X x (c0 ++ (c1 ++ (c2 ++ (c3 ++ (c4 ++ (c5 ++ (c6 ++ (a ++ (e ++ f))))))))) := by
  show (cM (rj) (cM (lk) (cM (V eI 3) (cM eI (cM (cZ) (cM eI (cM (V eI 3) (cM eI (cM eI eI))))))))).rd w X (x.B_, x.i_, x.v_, x.I_, x.k_, x.J_, x.d_, x.h_, x.A_, x.G_) _
  exact (dT h (dT h1 (dT i (dT j (dT k (dT l (dT m (dT o (dT p q)))))))))
theorem Cn {w X x cs} (h : (aQ).rd w X x cs) : ∃ c0 c1 c2 c3 c4 c5 c6 a e f, cs = (c0 ++ (c1 ++ (c2 ++ (c3 ++ (c4 ++ (c5 ++ (c6 ++ (a ++ (e ++ f))))))))) ∧ (rj).rd w X x.B_ c0 ∧ (lk).rd w X x.i_ c1 ∧ (V eI 3).rd w X x.v_ c2 ∧ eI.rd w X x.I_ c3 ∧ (cZ).rd w X x.k_ c4 ∧ eI.rd w X x.J_ c5 ∧ (V eI 3).rd w X x.d_ c6 ∧ eI.rd w X x.h_ a ∧ eI.rd w X x.A_ e ∧ eI.rd w X x.G_ f := by
  obtain ⟨c0, _, rfl, i, c1, _, rfl, h1, c2, _, rfl, j, c3, _, rfl, k, c4, _, rfl, l, c5, _, rfl, m, c6, _, rfl, o, a, _, rfl, p, e, f, rfl, q, r⟩ := h
  exact ⟨c0, c1, c2, c3, c4, c5, c6, a, e, f, z, i, h1, j, k, l, m, o, p, q, r⟩
theorem AX {w a e f h i j k l m o x c0 c1 c2 c3 c4 c5 c6 p q r} (s : (rj).own w a x.B_ c0) (h1 : (lk).own w e x.i_ c1) (t : (V eI 3).own w f x.v_ c2) (u : eI.own w h x.I_ c3) (v : (cZ).own w i x.k_ c4) (F : eI.own w j x.J_ c5) (H : (V eI 3).own w k x.d_ c6) (L : eI.own w l x.h_ p) (M : eI.own w m x.A_ q) (T : eI.own w o x.G_ r) : (aQ).own w (a ++ (e ++ (f ++ (h ++ (i ++ (j ++ (k ++ (l ++ (m ++ o))))))))) x (c0 ++ (c1 ++ (c2 ++ (c3 ++ (c4 ++ (c5 ++ (c6 ++ (p ++ (q ++ r))))))))) := by
  show (cM (rj) (cM (lk) (cM (V eI 3) (cM eI (cM (cZ) (cM eI (cM (V eI 3) (cM eI (cM eI eI))))))))).own w _ (x.B_, x.i_, x.v_, x.I_, x.k_, x.J_, x.d_, x.h_, x.A_, x.G_) _
  exact (gc s (gc h1 (gc t (gc u (gc v (gc F (gc H (gc L (gc M T)))))))))
theorem AE {w F x cs} (h : (aQ).own w F x cs) : ∃ a e f i j k l m o p c0 c1 c2 c3 c4 c5 c6 q r s, F = (a ++ (e ++ (f ++ (i ++ (j ++ (k ++ (l ++ (m ++ (o ++ p))))))))) ∧ cs = (c0 ++ (c1 ++ (c2 ++ (c3 ++ (c4 ++ (c5 ++ (c6 ++ (q ++ (r ++ s))))))))) ∧ (rj).own w a x.B_ c0 ∧ (lk).own w e x.i_ c1 ∧ (V eI 3).own w f x.v_ c2 ∧ eI.own w i x.I_ c3 ∧ (cZ).own w j x.k_ c4 ∧ eI.own w k x.J_ c5 ∧ (V eI 3).own w l x.d_ c6 ∧ eI.own w m x.h_ q ∧ eI.own w o x.A_ r ∧ eI.own w p x.G_ s := by
  obtain ⟨a, _, c0, _, rfl, rfl, t, e, _, c1, _, rfl, rfl, h1, f, _, c2, _, rfl, rfl, u, i, _, c3, _, rfl, rfl, v, j, _, c4, _, rfl, rfl, H, k, _, c5, _, rfl, rfl, L, l, _, c6, _, rfl, rfl, M, m, _, q, _, rfl, rfl, T, o, p, r, s, rfl, rfl, X, h9⟩ := h
  exact ⟨a, e, f, i, j, k, l, m, o, p, c0, c1, c2, c3, c4, c5, c6, q, r, s, z, z, t, h1, u, v, H, L, M, T, X, h9⟩
theorem BW {w0 : World} {M : List Nat} {L : List Res} {w : World} {F : List Nat} {x : az} {cs : List Value} {i : Nat} (h : Q w0 M L w) (q : L[i]? = U (W (aQ) F x cs)) :
    ∃ (e : Option Addr) (f : Nat) (r : List Nat), ∃ (j : Option Addr) (k : Nat) (t : List Nat), ∃ (l : Option Addr) (m : Nat) (u : List Nat), ∃ (o : Option Addr) (p : Nat) (v : List Nat), cs = [B x.B_, I J x.i_.t_, I J x.i_.u_, S e (x.v_).length f, I J x.I_, S j (x.k_.q_).length k, S l (x.k_.l_).length m, I J x.J_, S o (x.d_).length p, I J x.h_, I J x.A_, I J x.G_] ∧ Q w0 M (oc L [i] ++ [W (V eI 3) r x.v_ [S e (x.v_).length f], W (V eI 3) t x.k_.q_ [S j (x.k_.q_).length k], W (V (V eI 3) 63) u x.k_.l_ [S l (x.k_.l_).length m], W (V eI 3) v x.d_ [S o (x.d_).length p]]) w := by
  obtain ⟨a, _, _⟩ := h.one q
  have a : (aQ).own w F x cs := a
  obtain ⟨F1_0, F1_1, F1_2, F1_3, F1_4, F1_5, F1_6, F1_7, F1_8, F1_9, c1_0, c1_1, c1_2, c1_3, c1_4, c1_5, c1_6, c1_7, c1_8, c1_9, rfl, rfl, h1_0, h1_1, h1_2, h1_3, h1_4, h1_5, h1_6, h1_7, h1_8, h1_9⟩ := AE a
  obtain ⟨rfl, rfl⟩ : F1_0 = [] ∧ c1_0 = [B x.B_] := h1_0
  obtain ⟨rfl, rfl⟩ : F1_1 = [] ∧ c1_1 = [I J x.i_.t_, I J x.i_.u_] := h1_1
  obtain ⟨T, X, rfl⟩ := nq h1_2
  obtain ⟨rfl, rfl⟩ : F1_3 = [] ∧ c1_3 = [I J x.I_] := h1_3
  obtain ⟨F3_0, F3_1, c3_0, c3_1, rfl, rfl, h3_0, h3_1⟩ := zG h1_4
  obtain ⟨a4, k4, rfl⟩ := nq h3_0
  obtain ⟨a5, k5, rfl⟩ := nq h3_1
  obtain ⟨rfl, rfl⟩ : F1_5 = [] ∧ c1_5 = [I J x.J_] := h1_5
  obtain ⟨a6, k6, rfl⟩ := nq h1_6
  obtain ⟨rfl, rfl⟩ : F1_7 = [] ∧ c1_7 = [I J x.h_] := h1_7
  obtain ⟨rfl, rfl⟩ : F1_8 = [] ∧ c1_8 = [I J x.A_] := h1_8
  obtain ⟨rfl, rfl⟩ : F1_9 = [] ∧ c1_9 = [I J x.G_] := h1_9
  refine ⟨T, X, F1_2, a4, k4, F3_0, a5, k5, F3_1, a6, k6, F1_6, z, h.re [i] _ z ?_ ?_⟩
  · simp [jR, qP, q, dE, W]
  · intro s H; simp only [List.mem_cons, List.not_mem_nil, or_false] at H; rcases H with rfl | rfl | rfl | rfl
    · exact h1_2
    · exact h3_0
    · exact h3_1
    · exact h1_6
theorem sd {w0 : World} {M : List Nat} {L : List Res} {w : World} {x0 : Bool} {x1 : Int} {x2 : Int} {i : List Int} {k : Option Addr} {l m : Nat} {X : List Nat} {x4 : Int} {a : List Int} {o : Option Addr} {p q : Nat} {G5 : List Nat} {e : List (List Int)} {r : Option Addr} {t u : Nat} {G6 : List Nat} {x7 : Int} {j : List Int} {v : Option Addr} {H T : Nat} {G8 : List Nat} {x9 : Int} {x10 : Int} {x11 : Int} (idx : List Nat) (h : Q w0 M L w) (f : lb L idx = [W (V eI 3) X i [S k l m], W (V eI 3) G5 a [S o p q], W (V (V eI 3) 63) G6 e [S r t u], W (V eI 3) G8 j [S v H T]]) (hn : wg idx = y) :
    ∃ F, Q w0 M (oc L idx ++ [W (aQ) F (az.mk x0 (bD.mk x1 x2) i x4 (bl.mk a e) x7 j x9 x10 x11) [B x0, I J x1, I J x2, S k l m, I J x4, S o p q, S r t u, I J x7, S v H T, I J x9, I J x10, I J x11]]) w := by
  have o0 : (V eI 3).own w X i [S k l m] := h.ok' (oz (L := L) (is := idx) (by rw [f]; simp : W (V eI 3) X i [S k l m] ∈ lb L idx))
  have G : (V eI 3).own w G5 a [S o p q] := h.ok' (oz (L := L) (is := idx) (by rw [f]; simp : W (V eI 3) G5 a [S o p q] ∈ lb L idx))
  have o2 : (V (V eI 3) 63).own w G6 e [S r t u] := h.ok' (oz (L := L) (is := idx) (by rw [f]; simp : W (V (V eI 3) 63) G6 e [S r t u] ∈ lb L idx))
  have o3 : (V eI 3).own w G8 j [S v H T] := h.ok' (oz (L := L) (is := idx) (by rw [f]; simp : W (V eI 3) G8 j [S v H T] ∈ lb L idx))
  have ho := (AX (x := (az.mk x0 (bD.mk x1 x2) i x4 (bl.mk a e) x7 j x9 x10 x11)) (⟨z, z⟩ : (rj).own w [] _ _) (⟨z, z⟩ : (lk).own w [] _ _) o0 (⟨z, z⟩ : eI.own w [] _ _) (zD (x := (bl.mk a e)) G o2) (⟨z, z⟩ : eI.own w [] _ _) o3 (⟨z, z⟩ : eI.own w [] _ _) (⟨z, z⟩ : eI.own w [] _ _) (⟨z, z⟩ : eI.own w [] _ _))
  refine ⟨_, h.re idx [W (aQ) _ (az.mk x0 (bD.mk x1 x2) i x4 (bl.mk a e) x7 j x9 x10 x11) [B x0, I J x1, I J x2, S k l m, I J x4, S o p q, S r t u, I J x7, S v H T, I J x9, I J x10, I J x11]] hn ?_ (fun s f => by rw [List.mem_singleton.1 f]; exact ho)⟩
  rw [f]
  simp [dE, W]
def bz : Enc ax := AM (cM (V (aQ) 145) eI) (fun x => (x.e_, x.y_))
theorem bg {w X x c0 c1} (a : (V (aQ) 145).rd w X x.e_ c0) (h1 : eI.rd w X x.y_ c1) : (bz).rd w X x (c0 ++ c1) := by
  show (cM (V (aQ) 145) eI).rd w X (x.e_, x.y_) _
  exact (dT a h1)
theorem By {w X x cs} (h : (bz).rd w X x cs) : ∃ c0 c1, cs = (c0 ++ c1) ∧ (V (aQ) 145).rd w X x.e_ c0 ∧ eI.rd w X x.y_ c1 := by
  obtain ⟨c0, c1, rfl, a, h1⟩ := h
  exact ⟨c0, c1, z, a, h1⟩
theorem uy {w a e x c0 c1} (f : (V (aQ) 145).own w a x.e_ c0) (h1 : eI.own w e x.y_ c1) : (bz).own w (a ++ e) x (c0 ++ c1) := by
  show (cM (V (aQ) 145) eI).own w _ (x.e_, x.y_) _
  exact (gc f h1)
theorem uz {w F x cs} (h : (bz).own w F x cs) : ∃ a e c0 c1, F = (a ++ e) ∧ cs = (c0 ++ c1) ∧ (V (aQ) 145).own w a x.e_ c0 ∧ eI.own w e x.y_ c1 := by
  obtain ⟨a, e, c0, c1, rfl, rfl, f, h1⟩ := h
  exact ⟨a, e, c0, c1, z, z, f, h1⟩
def cd : Enc aJ := AM (V (V eI 3) 63) (fun x => x.p_)
theorem bf {w X x c0} (a : (V (V eI 3) 63).rd w X x.p_ c0) : (cd).rd w X x c0 := by
  show (V (V eI 3) 63).rd w X x.p_ _
  exact a
theorem yX {w X x cs} (h : (cd).rd w X x cs) : ∃ c0, cs = c0 ∧ (V (V eI 3) 63).rd w X x.p_ c0 := by
  exact ⟨cs, z, h⟩
theorem sA {w a x c0} (e : (V (V eI 3) 63).own w a x.p_ c0) : (cd).own w a x c0 := by
  show (V (V eI 3) 63).own w _ x.p_ _
  exact e
def fB : Enc dg := AM (cM (cd) (cd)) (fun x => (x.r_, x.s_))
theorem io {w X x c0 c1} (a : (cd).rd w X x.r_ c0) (h1 : (cd).rd w X x.s_ c1) : (fB).rd w X x (c0 ++ c1) := by
  show (cM (cd) (cd)).rd w X (x.r_, x.s_) _
  exact (dT a h1)
theorem Db {w X x cs} (h : (fB).rd w X x cs) : ∃ c0 c1, cs = (c0 ++ c1) ∧ (cd).rd w X x.r_ c0 ∧ (cd).rd w X x.s_ c1 := by
  obtain ⟨c0, c1, rfl, a, h1⟩ := h
  exact ⟨c0, c1, z, a, h1⟩
theorem Cu {w a e x c0 c1} (f : (cd).own w a x.r_ c0) (h1 : (cd).own w e x.s_ c1) : (fB).own w (a ++ e) x (c0 ++ c1) := by
  show (cM (cd) (cd)).own w _ (x.r_, x.s_) _
  exact (gc f h1)
theorem Bl {w F x cs} (h : (fB).own w F x cs) : ∃ a e c0 c1, F = (a ++ e) ∧ cs = (c0 ++ c1) ∧ (cd).own w a x.r_ c0 ∧ (cd).own w e x.s_ c1 := by
  obtain ⟨a, e, c0, c1, rfl, rfl, f, h1⟩ := h
  exact ⟨a, e, c0, c1, z, z, f, h1⟩
def aF : Enc au := AM (cM (bz) (cM (rj) (cM (bz) (fB)))) (fun x => (x.H_, x.T_, x.w_, x.K_))
theorem kD {w X x c0 c1 c2 c3} (a : (bz).rd w X x.H_ c0) (h1 : (rj).rd w X x.T_ c1) (e : (bz).rd w X x.w_ c2) (f : (fB).rd w X x.K_ c3) : (aF).rd w X x (c0 ++ (c1 ++ (c2 ++ c3))) := by
  show (cM (bz) (cM (rj) (cM (bz) (fB)))).rd w X (x.H_, x.T_, x.w_, x.K_) _
  exact (dT a (dT h1 (dT e f)))
theorem zc {w X x cs} (h : (aF).rd w X x cs) : ∃ c0 c1 c2 c3, cs = (c0 ++ (c1 ++ (c2 ++ c3))) ∧ (bz).rd w X x.H_ c0 ∧ (rj).rd w X x.T_ c1 ∧ (bz).rd w X x.w_ c2 ∧ (fB).rd w X x.K_ c3 := by
  obtain ⟨c0, _, rfl, a, c1, _, rfl, h1, c2, c3, rfl, e, f⟩ := h
  exact ⟨c0, c1, c2, c3, z, a, h1, e, f⟩
theorem xZ {w a e f h x c0 c1 c2 c3} (i : (bz).own w a x.H_ c0) (h1 : (rj).own w e x.T_ c1) (j : (bz).own w f x.w_ c2) (k : (fB).own w h x.K_ c3) : (aF).own w (a ++ (e ++ (f ++ h))) x (c0 ++ (c1 ++ (c2 ++ c3))) := by
  show (cM (bz) (cM (rj) (cM (bz) (fB)))).own w _ (x.H_, x.T_, x.w_, x.K_) _
  exact (gc i (gc h1 (gc j k)))
theorem xT {w F x cs} (h : (aF).own w F x cs) : ∃ a e f i c0 c1 c2 c3, F = (a ++ (e ++ (f ++ i))) ∧ cs = (c0 ++ (c1 ++ (c2 ++ c3))) ∧ (bz).own w a x.H_ c0 ∧ (rj).own w e x.T_ c1 ∧ (bz).own w f x.w_ c2 ∧ (fB).own w i x.K_ c3 := by
  obtain ⟨a, _, c0, _, rfl, rfl, j, e, _, c1, _, rfl, rfl, h1, f, i, c2, c3, rfl, rfl, k, l⟩ := h
  exact ⟨a, e, f, i, c0, c1, c2, c3, z, z, j, h1, k, l⟩
theorem yZ {w0 : World} {M : List Nat} {L : List Res} {w : World} {F : List Nat} {x : au} {cs : List Value} {i : Nat} (h : Q w0 M L w) (q : L[i]? = U (W (aF) F x cs)) :
    ∃ (e : Option Addr) (f : Nat) (r : List Nat), ∃ (j : Option Addr) (k : Nat) (t : List Nat), ∃ (l : Option Addr) (m : Nat) (u : List Nat), ∃ (o : Option Addr) (p : Nat) (v : List Nat), cs = [S e (x.H_.e_).length f, I J x.H_.y_, B x.T_, S j (x.w_.e_).length k, I J x.w_.y_, S l (x.K_.r_.p_).length m, S o (x.K_.s_.p_).length p] ∧ Q w0 M (oc L [i] ++ [W (V (aQ) 145) r x.H_.e_ [S e (x.H_.e_).length f], W (V (aQ) 145) t x.w_.e_ [S j (x.w_.e_).length k], W (V (V eI 3) 63) u x.K_.r_.p_ [S l (x.K_.r_.p_).length m], W (V (V eI 3) 63) v x.K_.s_.p_ [S o (x.K_.s_.p_).length p]]) w := by
  obtain ⟨a, _, _⟩ := h.one q
  have a : (aF).own w F x cs := a
  obtain ⟨F1_0, F1_1, F1_2, F1_3, c1_0, c1_1, c1_2, c1_3, rfl, rfl, h1_0, h1_1, h1_2, h1_3⟩ := xT a
  obtain ⟨F2_0, F2_1, c2_0, c2_1, rfl, rfl, h2_0, h2_1⟩ := uz h1_0
  obtain ⟨a3, k3, rfl⟩ := nq h2_0
  obtain ⟨rfl, rfl⟩ : F2_1 = [] ∧ c2_1 = [I J x.H_.y_] := h2_1
  obtain ⟨rfl, rfl⟩ : F1_1 = [] ∧ c1_1 = [B x.T_] := h1_1
  obtain ⟨F4_0, F4_1, c4_0, c4_1, rfl, rfl, h4_0, h4_1⟩ := uz h1_2
  obtain ⟨a5, k5, rfl⟩ := nq h4_0
  obtain ⟨rfl, rfl⟩ : F4_1 = [] ∧ c4_1 = [I J x.w_.y_] := h4_1
  obtain ⟨F6_0, F6_1, c6_0, c6_1, rfl, rfl, h6_0, h6_1⟩ := Bl h1_3
  have h7_0 : (V (V eI 3) 63).own w F6_0 (x.K_.r_.p_) c6_0 := h6_0
  obtain ⟨a8, k8, rfl⟩ := nq h7_0
  have h9_0 : (V (V eI 3) 63).own w F6_1 (x.K_.s_.p_) c6_1 := h6_1
  obtain ⟨H, T, rfl⟩ := nq h9_0
  refine ⟨a3, k3, F2_0, a5, k5, F4_0, a8, k8, F6_0, H, T, F6_1, z, h.re [i] _ z ?_ ?_⟩
  · simp [jR, qP, q, dE, W]
  · intro s X; simp only [List.mem_cons, List.not_mem_nil, or_false] at X; rcases X with rfl | rfl | rfl | rfl
    · exact h2_0
    · exact h4_0
    · exact h7_0
    · exact h9_0
theorem qj {w0 : World} {M : List Nat} {L : List Res} {w : World} {x0 : List az} {j : Option Addr} {k l : Nat} {T : List Nat} {x1 : Int} {x2 : Bool} {f : List az} {m : Option Addr} {o p : Nat} {X : List Nat} {x4 : Int} {a : List (List Int)} {q : Option Addr} {r t : Nat} {G5 : List Nat} {e : List (List Int)} {u : Option Addr} {v H : Nat} {G6 : List Nat} (idx : List Nat) (h : Q w0 M L w) (i : lb L idx = [W (V (aQ) 145) T x0 [S j k l], W (V (aQ) 145) X f [S m o p], W (V (V eI 3) 63) G5 a [S q r t], W (V (V eI 3) 63) G6 e [S u v H]]) (hn : wg idx = y) :
    ∃ F, Q w0 M (oc L idx ++ [W (aF) F (au.mk (ax.mk x0 x1) x2 (ax.mk f x4) (dg.mk (aJ.mk a) (aJ.mk e))) [S j k l, I J x1, B x2, S m o p, I J x4, S q r t, S u v H]]) w := by
  have o0 : (V (aQ) 145).own w T x0 [S j k l] := h.ok' (oz (L := L) (is := idx) (by rw [i]; simp : W (V (aQ) 145) T x0 [S j k l] ∈ lb L idx))
  have G : (V (aQ) 145).own w X f [S m o p] := h.ok' (oz (L := L) (is := idx) (by rw [i]; simp : W (V (aQ) 145) X f [S m o p] ∈ lb L idx))
  have o2 : (V (V eI 3) 63).own w G5 a [S q r t] := h.ok' (oz (L := L) (is := idx) (by rw [i]; simp : W (V (V eI 3) 63) G5 a [S q r t] ∈ lb L idx))
  have o3 : (V (V eI 3) 63).own w G6 e [S u v H] := h.ok' (oz (L := L) (is := idx) (by rw [i]; simp : W (V (V eI 3) 63) G6 e [S u v H] ∈ lb L idx))
  have ho := (xZ (x := (au.mk (ax.mk x0 x1) x2 (ax.mk f x4) (dg.mk (aJ.mk a) (aJ.mk e)))) (uy (x := (ax.mk x0 x1)) o0 (⟨z, z⟩ : eI.own w [] _ _)) (⟨z, z⟩ : (rj).own w [] _ _) (uy (x := (ax.mk f x4)) G (⟨z, z⟩ : eI.own w [] _ _)) (Cu (x := (dg.mk (aJ.mk a) (aJ.mk e))) (sA (x := (aJ.mk a)) o2) (sA (x := (aJ.mk e)) o3)))
  refine ⟨_, h.re idx [W (aF) _ (au.mk (ax.mk x0 x1) x2 (ax.mk f x4) (dg.mk (aJ.mk a) (aJ.mk e))) [S j k l, I J x1, B x2, S m o p, I J x4, S q r t, S u v H]] hn ?_ (fun s i => by rw [List.mem_singleton.1 i]; exact ho)⟩
  rw [i]
  simp [dE, W]
def aK : Enc aC := nF (fun x => [I J x.R_, I J x.S_]) 2 (fun _ => z) (by intro x u a; simp only [List.mem_cons, List.not_mem_nil, or_false] at a; rcases a with rfl | rfl <;> rfl)
theorem gR {w X x cs} (h : (cZ).rd w X x cs) : ∃ a c0 e c1, cs = [S a x.q_.length c0, S e x.l_.length c1] ∧ (V eI 3).rd w X x.q_ [S a x.q_.length c0] ∧ (V (V eI 3) 63).rd w X x.l_ [S e x.l_.length c1] := by
  obtain ⟨i, j, rfl, f, h1⟩ := AC h
  obtain ⟨a, c0, rfl⟩ := dz f
  obtain ⟨e, c1, rfl⟩ := dz h1
  exact ⟨a, c0, e, c1, z, f, h1⟩
theorem aY {w X x cs} (h : (aQ).rd w X x cs) : ∃ a c0 e c1 f c2 i c3, cs = [B x.B_, I J x.i_.t_, I J x.i_.u_, S a x.v_.length c0, I J x.I_, S e x.k_.q_.length c1, S f x.k_.l_.length c2, I J x.J_, S i x.d_.length c3, I J x.h_, I J x.A_, I J x.G_] ∧ (V eI 3).rd w X x.v_ [S a x.v_.length c0] ∧ (V eI 3).rd w X x.k_.q_ [S e x.k_.q_.length c1] ∧ (V (V eI 3) 63).rd w X x.k_.l_ [S f x.k_.l_.length c2] ∧ (V eI 3).rd w X x.d_ [S i x.d_.length c3] := by
  obtain ⟨v, F, H, L, M, T, d6, d7, d8, d9, rfl, l, h1, j, m, o, p, k, q, r, s⟩ := Cn h
  obtain rfl := l
  obtain rfl := h1
  obtain ⟨a, c0, rfl⟩ := dz j
  obtain rfl := m
  obtain ⟨e, c1, f, c2, rfl, t, u⟩ := gR o
  obtain rfl := p
  obtain ⟨i, c3, rfl⟩ := dz k
  obtain rfl := q
  obtain rfl := r
  obtain rfl := s
  exact ⟨a, c0, e, c1, f, c2, i, c3, z, j, t, u, k⟩
theorem cj {w X x cs} (h : (bz).rd w X x cs) : ∃ a c0, cs = [S a x.e_.length c0, I J x.y_] ∧ (V (aQ) 145).rd w X x.e_ [S a x.e_.length c0] := by
  obtain ⟨f, i, rfl, e, h1⟩ := By h
  obtain ⟨a, c0, rfl⟩ := dz e
  obtain rfl := h1
  exact ⟨a, c0, z, e⟩
theorem gb {w X x cs} (h : (cd).rd w X x cs) : ∃ a c0, cs = [S a x.p_.length c0] ∧ (V (V eI 3) 63).rd w X x.p_ [S a x.p_.length c0] := by
  obtain ⟨f, rfl, e⟩ := yX h
  obtain ⟨a, c0, rfl⟩ := dz e
  exact ⟨a, c0, z, e⟩
theorem oa {w X x cs} (h : (fB).rd w X x cs) : ∃ a c0 e c1, cs = [S a x.r_.p_.length c0, S e x.s_.p_.length c1] ∧ (V (V eI 3) 63).rd w X x.r_.p_ [S a x.r_.p_.length c0] ∧ (V (V eI 3) 63).rd w X x.s_.p_ [S e x.s_.p_.length c1] := by
  obtain ⟨k, l, rfl, f, h1⟩ := Db h
  obtain ⟨a, c0, rfl, i⟩ := gb f
  obtain ⟨e, c1, rfl, j⟩ := gb h1
  exact ⟨a, c0, e, c1, z, i, j⟩
theorem cg {w X x cs} (h : (aF).rd w X x cs) : ∃ a c0 e c1 f c2 i c3, cs = [S a x.H_.e_.length c0, I J x.H_.y_, B x.T_, S e x.w_.e_.length c1, I J x.w_.y_, S f x.K_.r_.p_.length c2, S i x.K_.s_.p_.length c3] ∧ (V (aQ) 145).rd w X x.H_.e_ [S a x.H_.e_.length c0] ∧ (V (aQ) 145).rd w X x.w_.e_ [S e x.w_.e_.length c1] ∧ (V (V eI 3) 63).rd w X x.K_.r_.p_ [S f x.K_.r_.p_.length c2] ∧ (V (V eI 3) 63).rd w X x.K_.s_.p_ [S i x.K_.s_.p_.length c3] := by
  obtain ⟨r, s, t, u, rfl, j, h1, k, l⟩ := zc h
  obtain ⟨a, c0, rfl, m⟩ := cj j
  obtain rfl := h1
  obtain ⟨e, c1, rfl, o⟩ := cj k
  obtain ⟨f, c2, i, c3, rfl, p, q⟩ := oa l
  exact ⟨a, c0, e, c1, f, c2, i, c3, z, m, o, p, q⟩
def fj : Enc be := AM (V (aF) 75) (fun x => x.j_)
theorem ch {w X x c0} (a : (V (aF) 75).rd w X x.j_ c0) : (fj).rd w X x c0 := by
  show (V (aF) 75).rd w X x.j_ _
  exact a
theorem yT {w X x cs} (h : (fj).rd w X x cs) : ∃ c0, cs = c0 ∧ (V (aF) 75).rd w X x.j_ c0 := by
  exact ⟨cs, z, h⟩
theorem jn {w X x cs} (h : (fj).rd w X x cs) : ∃ a c0, cs = [S a x.j_.length c0] ∧ (V (aF) 75).rd w X x.j_ [S a x.j_.length c0] := by
  obtain ⟨f, rfl, e⟩ := yT h
  obtain ⟨a, c0, rfl⟩ := dz e
  exact ⟨a, c0, z, e⟩
def fN : Enc aZ := AM (cM (V (V eI 3) 63) (V (aK) 83)) (fun x => (x.o_, x.n_))
theorem ct {w X x c0 c1} (a : (V (V eI 3) 63).rd w X x.o_ c0) (h1 : (V (aK) 83).rd w X x.n_ c1) : (fN).rd w X x (c0 ++ c1) := by
  show (cM (V (V eI 3) 63) (V (aK) 83)).rd w X (x.o_, x.n_) _
  exact (dT a h1)
theorem AS {w X x cs} (h : (fN).rd w X x cs) : ∃ c0 c1, cs = (c0 ++ c1) ∧ (V (V eI 3) 63).rd w X x.o_ c0 ∧ (V (aK) 83).rd w X x.n_ c1 := by
  obtain ⟨c0, c1, rfl, a, h1⟩ := h
  exact ⟨c0, c1, z, a, h1⟩
theorem jT {w X x cs} (h : (fN).rd w X x cs) : ∃ a c0 e c1, cs = [S a x.o_.length c0, S e x.n_.length c1] ∧ (V (V eI 3) 63).rd w X x.o_ [S a x.o_.length c0] ∧ (V (aK) 83).rd w X x.n_ [S e x.n_.length c1] := by
  obtain ⟨i, j, rfl, f, h1⟩ := AS h
  obtain ⟨a, c0, rfl⟩ := dz f
  obtain ⟨e, c1, rfl⟩ := dz h1
  exact ⟨a, c0, e, c1, z, f, h1⟩
def iv : Enc ao := AM (cM (dA) (cM (fj) (fN))) (fun x => (x.a_, x.z_, x.m_))
theorem dt {w X x c0 c1 c2} (a : (dA).rd w X x.a_ c0) (h1 : (fj).rd w X x.z_ c1) (e : (fN).rd w X x.m_ c2) : (iv).rd w X x (c0 ++ (c1 ++ c2)) := by
  show (cM (dA) (cM (fj) (fN))).rd w X (x.a_, x.z_, x.m_) _
  exact (dT a (dT h1 e))
theorem AQ {w X x cs} (h : (iv).rd w X x cs) : ∃ c0 c1 c2, cs = (c0 ++ (c1 ++ c2)) ∧ (dA).rd w X x.a_ c0 ∧ (fj).rd w X x.z_ c1 ∧ (fN).rd w X x.m_ c2 := by
  obtain ⟨c0, _, rfl, a, c1, c2, rfl, h1, e⟩ := h
  exact ⟨c0, c1, c2, z, a, h1, e⟩
theorem iM {w X x cs} (h : (iv).rd w X x cs) : ∃ a c0 e c1 f c2 i c3 j c4, cs = [S a x.a_.g_.d_.length c0, S e x.a_.g_.f_.length c1, I J x.a_.b_.L_, I J x.a_.b_.N_, I J x.a_.b_.M_, I J x.a_.b_.h_, I J x.a_.b_.e_, I J x.a_.b_.E_, B x.a_.b_.Q_, I J x.a_.j_, I J x.a_.O_, I J x.a_.P_, I J x.a_.r_, I J x.a_.s_, S f x.z_.j_.length c2, S i x.m_.o_.length c3, S j x.m_.n_.length c4] ∧ (V (aD) 123).rd w X x.a_.g_.d_ [S a x.a_.g_.d_.length c0] ∧ (V (bC) 9).rd w X x.a_.g_.f_ [S e x.a_.g_.f_.length c1] ∧ (V (aF) 75).rd w X x.z_.j_ [S f x.z_.j_.length c2] ∧ (V (V eI 3) 63).rd w X x.m_.o_ [S i x.m_.o_.length c3] ∧ (V (aK) 83).rd w X x.m_.n_ [S j x.m_.n_.length c4] := by
  obtain ⟨s, t, u, rfl, k, h1, l⟩ := AQ h
  obtain ⟨a, c0, e, c1, rfl, m, o⟩ := dV k
  obtain ⟨f, c2, rfl, p⟩ := jn h1
  obtain ⟨i, c3, j, c4, rfl, q, r⟩ := jT l
  exact ⟨a, c0, e, c1, f, c2, i, c3, j, c4, z, m, o, p, q, r⟩
def gm (x : aC) : List Value := [I J x.R_, I J x.S_]
theorem Ta : ∀ a b : aC, Fn Tryz.prog 83 (gm a) (gm b) = U (a.R_ == b.R_ && (a.S_ == b.S_ && y)) := by
  intro a b
  kernel_rfl
theorem Pj : DD Tryz.prog 83 gm := LC Ta (by intro a b; cases a; cases b; rw [Bool.eq_iff_iff]; simp) (by intro a; simp [gm, Instr.sameBits]) (by kernel_rfl)
theorem cC : isSl Tryz.prog 22 5 := pL (by kernel_rfl)
theorem ty5 : fG Tryz.prog 5 n 1 1 [I K 0] := eE (by kernel_rfl)
theorem us5 : (Tryz.prog.underlying 5).isSome = y := by kernel_rfl
theorem in3 : ww Tryz.prog 3 J := CB (by kernel_rfl)
theorem SD : bj Tryz.prog 29 := ⟨Tryz.f29, Tryz.func29, z, by decide⟩
theorem us3 : (Tryz.prog.underlying 3).isSome = y := by kernel_rfl
theorem in5 : ww Tryz.prog 5 K := CB (by kernel_rfl)
theorem QF : bj Tryz.prog 78 := ⟨Tryz.f78, Tryz.func78, z, by decide⟩
theorem st9 : zX Tryz.prog 9 := LN (by kernel_rfl)
theorem eo : isSl Tryz.prog 24 9 := pL (by kernel_rfl)
theorem ty9 : fG Tryz.prog 9 n 1 16 [vS []] := eE (by kernel_rfl)
theorem Ob : bj Tryz.prog 131 := ⟨Tryz.f131, Tryz.func131, z, by decide⟩
theorem NY : bj Tryz.prog 150 := ⟨Tryz.f150, Tryz.func150, z, by decide⟩
theorem kO : bj Tryz.prog 37 := ⟨Tryz.f37, Tryz.func37, z, by decide⟩
theorem OA : bj Tryz.prog 151 := ⟨Tryz.f151, Tryz.func151, z, by decide⟩
theorem dC : Tryz.prog.follows .mixedOrders = y := by kernel_rfl
theorem kA : gN Tryz.prog 123 0 0 := cc (by kernel_rfl)
theorem fJ : gN Tryz.prog 123 1 1 := cc (by kernel_rfl)
theorem bP : fG Tryz.prog 63 n 1 24 [S N 0 0] := eE (by kernel_rfl)
theorem bB : isSl Tryz.prog 63 3 := pL (by kernel_rfl)
theorem kz : gN Tryz.prog 123 2 2 := cc (by kernel_rfl)
theorem mZ : fG Tryz.prog 24 n 1 24 [S N 0 0] := eE (by kernel_rfl)
theorem OB : bj Tryz.prog 126 := ⟨Tryz.f126, Tryz.func126, z, by decide⟩
theorem ty3 : fG Tryz.prog 3 n 1 8 [I J 0] := eE (by kernel_rfl)
theorem cf : fG Tryz.prog 123 y 3 64 [vS [], S N 0 0, S N 0 0] := eE (by kernel_rfl)
theorem IK : bj Tryz.prog 125 := ⟨Tryz.f125, Tryz.func125, z, by decide⟩
theorem NP : bj Tryz.prog 91 := ⟨Tryz.f91, Tryz.func91, z, by decide⟩
theorem Bg : uL Tryz.prog 123 [(0, 1), (1, 1), (2, 1)] := lD (by kernel_rfl)
theorem Iu : bj Tryz.prog 79 := ⟨Tryz.f79, Tryz.func79, z, by decide⟩
theorem Qt : bj Tryz.prog 124 := ⟨Tryz.f124, Tryz.func124, z, by decide⟩
theorem RX : bj Tryz.prog 90 := ⟨Tryz.f90, Tryz.func90, z, by decide⟩
theorem fu : gN Tryz.prog 26 0 0 := cc (by kernel_rfl)
theorem nv : fG Tryz.prog 23 n 1 24 [S N 0 0] := eE (by kernel_rfl)
theorem jN : isSl Tryz.prog 23 123 := pL (by kernel_rfl)
theorem lz : gN Tryz.prog 26 1 1 := cc (by kernel_rfl)
theorem el : fG Tryz.prog 26 y 2 48 [S N 0 0, S N 0 0] := eE (by kernel_rfl)
theorem Gv : uL Tryz.prog 26 [(0, 1), (1, 1)] := lD (by kernel_rfl)
theorem SL : bj Tryz.prog 80 := ⟨Tryz.f80, Tryz.func80, z, by decide⟩
theorem Iy : bj Tryz.prog 81 := ⟨Tryz.f81, Tryz.func81, z, by decide⟩
theorem FZ : bj Tryz.prog 36 := ⟨Tryz.f36, Tryz.func36, z, by decide⟩
theorem xi : gN Tryz.prog 28 0 0 := cc (by kernel_rfl)
theorem wX : gN Tryz.prog 28 1 1 := cc (by kernel_rfl)
theorem wC : gN Tryz.prog 28 2 2 := cc (by kernel_rfl)
theorem un : gN Tryz.prog 28 3 3 := cc (by kernel_rfl)
theorem ut : gN Tryz.prog 28 4 4 := cc (by kernel_rfl)
theorem ul : gN Tryz.prog 28 5 5 := cc (by kernel_rfl)
theorem mr : gN Tryz.prog 30 0 0 := cc (by kernel_rfl)
theorem rK : gN Tryz.prog 30 1 2 := cc (by kernel_rfl)
theorem uX : fG Tryz.prog 28 y 7 56 [I J 0, I J 0, I J 0, I J 0, I J 0, I J 0, B n] := eE (by kernel_rfl)
theorem RH : bj Tryz.prog 82 := ⟨Tryz.f82, Tryz.func82, z, by decide⟩
theorem rV : gN Tryz.prog 30 2 9 := cc (by kernel_rfl)
theorem wF : gN Tryz.prog 30 3 10 := cc (by kernel_rfl)
theorem xh : gN Tryz.prog 30 4 11 := cc (by kernel_rfl)
theorem Sr : bj Tryz.prog 83 := ⟨Tryz.f83, Tryz.func83, z, by decide⟩
theorem ua : gN Tryz.prog 30 5 12 := cc (by kernel_rfl)
theorem us : gN Tryz.prog 30 6 13 := cc (by kernel_rfl)
theorem eg : isSl Tryz.prog 34 63 := pL (by kernel_rfl)
theorem Me : bj Tryz.prog 35 := ⟨Tryz.f35, Tryz.func35, z, by decide⟩
theorem bp : fG Tryz.prog 145 y 12 160 [B n, I J 0, I J 0, S N 0 0, I J 0, S N 0 0, S N 0 0, I J 0, S N 0 0, I J 0, I J 0, I J 0] := eE (by kernel_rfl)
theorem La : uL Tryz.prog 145 [(0, 1), (1, 2), (3, 1), (4, 1), (5, 2), (7, 1), (8, 1), (9, 1), (10, 1), (11, 1)] := lD (by kernel_rfl)
theorem LR : bj Tryz.prog 32 := ⟨Tryz.f32, Tryz.func32, z, by decide⟩
theorem sO : fG Tryz.prog 141 y 2 16 [I J 0, I J 0] := eE (by kernel_rfl)
theorem LD : uL Tryz.prog 141 [(0, 1), (1, 1)] := lD (by kernel_rfl)
theorem Ow : bj Tryz.prog 128 := ⟨Tryz.f128, Tryz.func128, z, by decide⟩
theorem fP : gN Tryz.prog 145 2 3 := cc (by kernel_rfl)
theorem lx : gN Tryz.prog 145 3 4 := cc (by kernel_rfl)
theorem vi : fG Tryz.prog 143 y 2 48 [S N 0 0, S N 0 0] := eE (by kernel_rfl)
theorem RA : uL Tryz.prog 143 [(0, 1), (1, 1)] := lD (by kernel_rfl)
theorem ea : gN Tryz.prog 145 4 5 := cc (by kernel_rfl)
theorem kw : gN Tryz.prog 145 5 7 := cc (by kernel_rfl)
theorem mv : gN Tryz.prog 145 6 8 := cc (by kernel_rfl)
theorem gC : gN Tryz.prog 145 7 9 := cc (by kernel_rfl)
theorem iW : gN Tryz.prog 145 8 10 := cc (by kernel_rfl)
theorem iY : gN Tryz.prog 145 9 11 := cc (by kernel_rfl)
theorem jb : fG Tryz.prog 69 y 2 32 [S N 0 0, I J 0] := eE (by kernel_rfl)
theorem LI : uL Tryz.prog 69 [(0, 1), (1, 1)] := lD (by kernel_rfl)
theorem PW : bj Tryz.prog 127 := ⟨Tryz.f127, Tryz.func127, z, by decide⟩
theorem dD : gN Tryz.prog 69 0 0 := cc (by kernel_rfl)
theorem ks : fG Tryz.prog 67 n 1 24 [S N 0 0] := eE (by kernel_rfl)
theorem eN : isSl Tryz.prog 67 145 := pL (by kernel_rfl)
theorem nz : fG Tryz.prog 71 y 1 24 [S N 0 0] := eE (by kernel_rfl)
theorem Pn : uL Tryz.prog 71 [(0, 1)] := lD (by kernel_rfl)
theorem fO : fG Tryz.prog 75 y 7 120 [S N 0 0, I J 0, B n, S N 0 0, I J 0, S N 0 0, S N 0 0] := eE (by kernel_rfl)
theorem OQ : uL Tryz.prog 75 [(0, 2), (2, 1), (3, 2), (5, 2)] := lD (by kernel_rfl)
theorem PR : bj Tryz.prog 84 := ⟨Tryz.f84, Tryz.func84, z, by decide⟩
theorem RD : bj Tryz.prog 85 := ⟨Tryz.f85, Tryz.func85, z, by decide⟩
theorem Mr : fG Tryz.prog 73 y 2 48 [S N 0 0, S N 0 0] := eE (by kernel_rfl)
theorem SY : uL Tryz.prog 73 [(0, 1), (1, 1)] := lD (by kernel_rfl)
theorem cA : fG Tryz.prog 39 y 17 216 [S N 0 0, S N 0 0, I J 0, I J 0, I J 0, I J 0, I J 0, I J 0, B n, I J 0, I J 0, I J 0, I J 0, I J 0, S N 0 0, S N 0 0, S N 0 0] := eE (by kernel_rfl)
theorem Ap : uL Tryz.prog 39 [(0, 14), (14, 1), (15, 2)] := lD (by kernel_rfl)
theorem To : bj Tryz.prog 30 := ⟨Tryz.f30, Tryz.func30, z, by decide⟩
theorem SK : bj Tryz.prog 31 := ⟨Tryz.f31, Tryz.func31, z, by decide⟩
theorem SZ : uL Tryz.prog 28 [(0, 1), (1, 1), (2, 1), (3, 1), (4, 1), (5, 1), (6, 1)] := lD (by kernel_rfl)
theorem uM : fG Tryz.prog 30 y 14 144 [S N 0 0, S N 0 0, I J 0, I J 0, I J 0, I J 0, I J 0, I J 0, B n, I J 0, I J 0, I J 0, I J 0, I J 0] := eE (by kernel_rfl)
theorem SA : uL Tryz.prog 30 [(0, 2), (2, 7), (9, 1), (10, 1), (11, 1), (12, 1), (13, 1)] := lD (by kernel_rfl)
theorem gW : gN Tryz.prog 39 0 0 := cc (by kernel_rfl)
theorem Pb : bj Tryz.prog 33 := ⟨Tryz.f33, Tryz.func33, z, by decide⟩
theorem SB : bj Tryz.prog 34 := ⟨Tryz.f34, Tryz.func34, z, by decide⟩
theorem qi : gN Tryz.prog 39 1 14 := cc (by kernel_rfl)
theorem nK : gN Tryz.prog 33 0 0 := cc (by kernel_rfl)
theorem wi : fG Tryz.prog 31 n 1 24 [S N 0 0] := eE (by kernel_rfl)
theorem mU : isSl Tryz.prog 31 75 := pL (by kernel_rfl)
theorem jD : gN Tryz.prog 39 2 15 := cc (by kernel_rfl)
theorem kQ : gN Tryz.prog 37 0 0 := cc (by kernel_rfl)
theorem fw : fG Tryz.prog 34 n 1 24 [S N 0 0] := eE (by kernel_rfl)
theorem kq : gN Tryz.prog 37 1 1 := cc (by kernel_rfl)
theorem tt : fG Tryz.prog 35 n 1 24 [S N 0 0] := eE (by kernel_rfl)
theorem nG : fG Tryz.prog 83 y 2 16 [I J 0, I J 0] := eE (by kernel_rfl)
theorem Rf : uL Tryz.prog 83 [(0, 1), (1, 1)] := lD (by kernel_rfl)
theorem nO : isSl Tryz.prog 35 83 := pL (by kernel_rfl)
theorem iu : gN Tryz.prog 143 0 0 := cc (by kernel_rfl)
theorem eW : gN Tryz.prog 143 1 1 := cc (by kernel_rfl)
theorem IY : bj Tryz.prog 214 := ⟨Tryz.f214, Tryz.func214, z, by decide⟩
theorem KT : bj Tryz.prog 196 := ⟨Tryz.f196, Tryz.func196, z, by decide⟩
theorem ip : gN Tryz.prog 145 1 1 := cc (by kernel_rfl)
theorem MH (a e : Int) (f h : Int) : Fn Tryz.prog 141 [I J a, I J f] [I J e, I J h] = U (a == e && (f == h && y)) := by kernel_rfl
theorem Ol : bj Tryz.prog 197 := ⟨Tryz.f197, Tryz.func197, z, by decide⟩
theorem Rq : bj Tryz.prog 198 := ⟨Tryz.f198, Tryz.func198, z, by decide⟩
theorem kx : gN Tryz.prog 141 0 0 := cc (by kernel_rfl)
theorem mw : gN Tryz.prog 141 1 1 := cc (by kernel_rfl)
theorem OF : bj Tryz.prog 199 := ⟨Tryz.f199, Tryz.func199, z, by decide⟩
theorem Sg : bj Tryz.prog 200 := ⟨Tryz.f200, Tryz.func200, z, by decide⟩
theorem nH : gN Tryz.prog 69 1 1 := cc (by kernel_rfl)
theorem ln : gN Tryz.prog 145 0 0 := cc (by kernel_rfl)
theorem ty4 : fG Tryz.prog 4 n 1 1 [B n] := eE (by kernel_rfl)
theorem Qj : bj Tryz.prog 172 := ⟨Tryz.f172, Tryz.func172, z, by decide⟩
theorem RY : bj Tryz.prog 173 := ⟨Tryz.f173, Tryz.func173, z, by decide⟩
theorem Qk : bj Tryz.prog 174 := ⟨Tryz.f174, Tryz.func174, z, by decide⟩
theorem RZ : bj Tryz.prog 175 := ⟨Tryz.f175, Tryz.func175, z, by decide⟩
theorem RM : bj Tryz.prog 152 := ⟨Tryz.f152, Tryz.func152, z, by decide⟩
theorem QV : bj Tryz.prog 153 := ⟨Tryz.f153, Tryz.func153, z, by decide⟩
theorem Qx : bj Tryz.prog 154 := ⟨Tryz.f154, Tryz.func154, z, by decide⟩
theorem kF : gN Tryz.prog 71 0 0 := cc (by kernel_rfl)
theorem RQ : bj Tryz.prog 176 := ⟨Tryz.f176, Tryz.func176, z, by decide⟩
theorem uj : gN Tryz.prog 73 0 0 := cc (by kernel_rfl)
theorem Oq : bj Tryz.prog 155 := ⟨Tryz.f155, Tryz.func155, z, by decide⟩
theorem uk : gN Tryz.prog 73 1 1 := cc (by kernel_rfl)
theorem tl : gN Tryz.prog 75 0 0 := cc (by kernel_rfl)
theorem OD : bj Tryz.prog 129 := ⟨Tryz.f129, Tryz.func129, z, by decide⟩
theorem pA : gN Tryz.prog 75 3 5 := cc (by kernel_rfl)
theorem Sj : bj Tryz.prog 130 := ⟨Tryz.f130, Tryz.func130, z, by decide⟩
theorem uc : gN Tryz.prog 75 1 2 := cc (by kernel_rfl)
theorem pG : gN Tryz.prog 75 2 3 := cc (by kernel_rfl)
theorem SX : bj Tryz.prog 86 := ⟨Tryz.f86, Tryz.func86, z, by decide⟩
theorem tf : gN Tryz.prog 83 0 0 := cc (by kernel_rfl)
theorem rN : gN Tryz.prog 83 1 1 := cc (by kernel_rfl)
theorem SO : bj Tryz.prog 87 := ⟨Tryz.f87, Tryz.func87, z, by decide⟩
theorem Sn : bj Tryz.prog 88 := ⟨Tryz.f88, Tryz.func88, z, by decide⟩
theorem JZ : fG Tryz.prog 33 y 1 24 [S N 0 0] := eE (by kernel_rfl)
theorem SS : bj Tryz.prog 38 := ⟨Tryz.f38, Tryz.func38, z, by decide⟩
theorem Jz : fG Tryz.prog 37 y 2 48 [S N 0 0, S N 0 0] := eE (by kernel_rfl)
theorem Tc : bj Tryz.prog 39 := ⟨Tryz.f39, Tryz.func39, z, by decide⟩
theorem PD : bj Tryz.prog 89 := ⟨Tryz.f89, Tryz.func89, z, by decide⟩
theorem Hl : bj Tryz.prog 92 := ⟨Tryz.f92, Tryz.func92, z, by decide⟩
theorem uO : bj Tryz.prog 43 := ⟨Tryz.f43, Tryz.func43, z, by decide⟩
theorem Le : bj Tryz.prog 46 := ⟨Tryz.f46, Tryz.func46, z, by decide⟩
theorem OJ : bj Tryz.prog 42 := ⟨Tryz.f42, Tryz.func42, z, by decide⟩
theorem Ri : bj Tryz.prog 95 := ⟨Tryz.f95, Tryz.func95, z, by decide⟩
theorem SF : bj Tryz.prog 93 := ⟨Tryz.f93, Tryz.func93, z, by decide⟩
theorem SP : bj Tryz.prog 94 := ⟨Tryz.f94, Tryz.func94, z, by decide⟩
theorem Qz : bj Tryz.prog 14 := ⟨Tryz.f14, Tryz.func14, z, by decide⟩
theorem So : bj Tryz.prog 41 := ⟨Tryz.f41, Tryz.func41, z, by decide⟩
theorem Tq : bj Tryz.prog 40 := ⟨Tryz.f40, Tryz.func40, z, by decide⟩
theorem CC : gN Tryz.prog 28 6 6 := cc (by kernel_rfl)
theorem RR : bj Tryz.prog 44 := ⟨Tryz.f44, Tryz.func44, z, by decide⟩
theorem RT : bj Tryz.prog 45 := ⟨Tryz.f45, Tryz.func45, z, by decide⟩
theorem Rw : bj Tryz.prog 12 := ⟨Tryz.f12, Tryz.func12, z, by decide⟩
theorem Tg : bj Tryz.prog 13 := ⟨Tryz.f13, Tryz.func13, z, by decide⟩
theorem SM : bj Tryz.prog 15 := ⟨Tryz.f15, Tryz.func15, z, by decide⟩
theorem SE : bj Tryz.prog 47 := ⟨Tryz.f47, Tryz.func47, z, by decide⟩
theorem PZ : bj Tryz.prog 96 := ⟨Tryz.f96, Tryz.func96, z, by decide⟩
theorem QP : bj Tryz.prog 192 := ⟨Tryz.f192, Tryz.func192, z, by decide⟩
theorem QN : bj Tryz.prog 181 := ⟨Tryz.f181, Tryz.func181, z, by decide⟩
theorem Pw : PJ Tryz.prog 182 := by unfold PJ; kernel_rfl
theorem gQ : bj Tryz.prog 103 := ⟨Tryz.f103, Tryz.func103, z, by decide⟩
theorem NZ : bj Tryz.prog 167 := ⟨Tryz.f167, Tryz.func167, z, by decide⟩
theorem Sc : bj Tryz.prog 157 := ⟨Tryz.f157, Tryz.func157, z, by decide⟩
theorem Qc : bj Tryz.prog 185 := ⟨Tryz.f185, Tryz.func185, z, by decide⟩
theorem Om : bj Tryz.prog 158 := ⟨Tryz.f158, Tryz.func158, z, by decide⟩
theorem RP : bj Tryz.prog 160 := ⟨Tryz.f160, Tryz.func160, z, by decide⟩
theorem QO : bj Tryz.prog 184 := ⟨Tryz.f184, Tryz.func184, z, by decide⟩
theorem MD : bj Tryz.prog 182 := ⟨Tryz.f182, Tryz.func182, z, by decide⟩
theorem PY : bj Tryz.prog 183 := ⟨Tryz.f183, Tryz.func183, z, by decide⟩
theorem Hq : bj Tryz.prog 165 := ⟨Tryz.f165, Tryz.func165, z, by decide⟩
theorem Gh : bj Tryz.prog 139 := ⟨Tryz.f139, Tryz.func139, z, by decide⟩
theorem Lv : bj Tryz.prog 135 := ⟨Tryz.f135, Tryz.func135, z, by decide⟩
theorem PU : bj Tryz.prog 159 := ⟨Tryz.f159, Tryz.func159, z, by decide⟩
theorem II : bj Tryz.prog 109 := ⟨Tryz.f109, Tryz.func109, z, by decide⟩
theorem Ly : bj Tryz.prog 134 := ⟨Tryz.f134, Tryz.func134, z, by decide⟩
theorem QZ : bj Tryz.prog 142 := ⟨Tryz.f142, Tryz.func142, z, by decide⟩
theorem ON : bj Tryz.prog 97 := ⟨Tryz.f97, Tryz.func97, z, by decide⟩
theorem Nu : bj Tryz.prog 98 := ⟨Tryz.f98, Tryz.func98, z, by decide⟩
theorem QY : bj Tryz.prog 133 := ⟨Tryz.f133, Tryz.func133, z, by decide⟩
theorem Of : bj Tryz.prog 108 := ⟨Tryz.f108, Tryz.func108, z, by decide⟩
theorem Tj : bj Tryz.prog 99 := ⟨Tryz.f99, Tryz.func99, z, by decide⟩
theorem BB : bj Tryz.prog 100 := ⟨Tryz.f100, Tryz.func100, z, by decide⟩
theorem qS : gN Tryz.prog 96 2 2 := cc (by kernel_rfl)
theorem Mo : gN Tryz.prog 96 0 0 := cc (by kernel_rfl)
theorem GK : fG Tryz.prog 22 n 1 24 [S N 0 0] := eE (by kernel_rfl)
theorem HH : gN Tryz.prog 96 1 1 := cc (by kernel_rfl)
theorem Rx : bj Tryz.prog 101 := ⟨Tryz.f101, Tryz.func101, z, by decide⟩
theorem ry : bj Tryz.prog 50 := ⟨Tryz.f50, Tryz.func50, z, by decide⟩
theorem Ot : bj Tryz.prog 102 := ⟨Tryz.f102, Tryz.func102, z, by decide⟩
theorem Rp : bj Tryz.prog 104 := ⟨Tryz.f104, Tryz.func104, z, by decide⟩
theorem KL : bj Tryz.prog 56 := ⟨Tryz.f56, Tryz.func56, z, by decide⟩
theorem Pv : bj Tryz.prog 51 := ⟨Tryz.f51, Tryz.func51, z, by decide⟩
theorem JA : bj Tryz.prog 55 := ⟨Tryz.f55, Tryz.func55, z, by decide⟩
theorem Tb : bj Tryz.prog 48 := ⟨Tryz.f48, Tryz.func48, z, by decide⟩
theorem Ti : bj Tryz.prog 49 := ⟨Tryz.f49, Tryz.func49, z, by decide⟩
theorem Sv : fG Tryz.prog 96 y 3 40 [S N 0 0, I J 0, B n] := eE (by kernel_rfl)
theorem SR : uL Tryz.prog 96 [(0, 1), (1, 1), (2, 1)] := lD (by kernel_rfl)
theorem wI : isSl Tryz.prog 99 98 := pL (by kernel_rfl)
theorem rr : fG Tryz.prog 98 n 1 8 [O N] := eE (by kernel_rfl)
theorem OM : bj Tryz.prog 52 := ⟨Tryz.f52, Tryz.func52, z, by decide⟩
theorem RV : bj Tryz.prog 53 := ⟨Tryz.f53, Tryz.func53, z, by decide⟩
theorem QK : bj Tryz.prog 54 := ⟨Tryz.f54, Tryz.func54, z, by decide⟩
theorem Rm : bj Tryz.prog 242 := ⟨Tryz.f242, Tryz.func242, z, by decide⟩
theorem Oe : bj Tryz.prog 230 := ⟨Tryz.f230, Tryz.func230, z, by decide⟩
theorem KR : bj Tryz.prog 166 := ⟨Tryz.f166, Tryz.func166, z, by decide⟩
theorem MI : bj Tryz.prog 231 := ⟨Tryz.f231, Tryz.func231, z, by decide⟩
theorem Rn : bj Tryz.prog 232 := ⟨Tryz.f232, Tryz.func232, z, by decide⟩
theorem RG : bj Tryz.prog 233 := ⟨Tryz.f233, Tryz.func233, z, by decide⟩
theorem Rt : bj Tryz.prog 220 := ⟨Tryz.f220, Tryz.func220, z, by decide⟩
theorem Qr : bj Tryz.prog 221 := ⟨Tryz.f221, Tryz.func221, z, by decide⟩
theorem RE : bj Tryz.prog 222 := ⟨Tryz.f222, Tryz.func222, z, by decide⟩
theorem Rv : bj Tryz.prog 223 := ⟨Tryz.f223, Tryz.func223, z, by decide⟩
theorem QI : bj Tryz.prog 224 := ⟨Tryz.f224, Tryz.func224, z, by decide⟩
theorem Qa : bj Tryz.prog 205 := ⟨Tryz.f205, Tryz.func205, z, by decide⟩
theorem PS : bj Tryz.prog 206 := ⟨Tryz.f206, Tryz.func206, z, by decide⟩
theorem PV : bj Tryz.prog 207 := ⟨Tryz.f207, Tryz.func207, z, by decide⟩
theorem Qb : bj Tryz.prog 186 := ⟨Tryz.f186, Tryz.func186, z, by decide⟩
theorem Ru : bj Tryz.prog 187 := ⟨Tryz.f187, Tryz.func187, z, by decide⟩
theorem Si : bj Tryz.prog 188 := ⟨Tryz.f188, Tryz.func188, z, by decide⟩
theorem Qu : bj Tryz.prog 208 := ⟨Tryz.f208, Tryz.func208, z, by decide⟩
theorem Oo : bj Tryz.prog 189 := ⟨Tryz.f189, Tryz.func189, z, by decide⟩
theorem IU : bj Tryz.prog 209 := ⟨Tryz.f209, Tryz.func209, z, by decide⟩
theorem Sf : bj Tryz.prog 235 := ⟨Tryz.f235, Tryz.func235, z, by decide⟩
theorem Qd : bj Tryz.prog 234 := ⟨Tryz.f234, Tryz.func234, z, by decide⟩
theorem RU : bj Tryz.prog 225 := ⟨Tryz.f225, Tryz.func225, z, by decide⟩
theorem bl4 : NR Tryz.prog 4 := NO (by kernel_rfl)
theorem QQ : bj Tryz.prog 210 := ⟨Tryz.f210, Tryz.func210, z, by decide⟩
theorem Qm : bj Tryz.prog 191 := ⟨Tryz.f191, Tryz.func191, z, by decide⟩
theorem Rg : bj Tryz.prog 190 := ⟨Tryz.f190, Tryz.func190, z, by decide⟩
theorem Ou : bj Tryz.prog 162 := ⟨Tryz.f162, Tryz.func162, z, by decide⟩
theorem Rl : bj Tryz.prog 163 := ⟨Tryz.f163, Tryz.func163, z, by decide⟩
theorem RO : bj Tryz.prog 164 := ⟨Tryz.f164, Tryz.func164, z, by decide⟩
theorem Qp : bj Tryz.prog 138 := ⟨Tryz.f138, Tryz.func138, z, by decide⟩
theorem Se : bj Tryz.prog 137 := ⟨Tryz.f137, Tryz.func137, z, by decide⟩
theorem Qw : bj Tryz.prog 161 := ⟨Tryz.f161, Tryz.func161, z, by decide⟩
theorem Qg : bj Tryz.prog 136 := ⟨Tryz.f136, Tryz.func136, z, by decide⟩
theorem RB : bj Tryz.prog 140 := ⟨Tryz.f140, Tryz.func140, z, by decide⟩
theorem RC : bj Tryz.prog 141 := ⟨Tryz.f141, Tryz.func141, z, by decide⟩
theorem iz3 : Nb Tryz.prog 3 := NL (by kernel_rfl)
theorem Mc : KI Tryz.prog 175 83 3 := (by kernel_rfl : Tryz.prog.underlying 175 = U (.map 83 3))
theorem Qf : bj Tryz.prog 105 := ⟨Tryz.f105, Tryz.func105, z, by decide⟩
theorem Ro : bj Tryz.prog 106 := ⟨Tryz.f106, Tryz.func106, z, by decide⟩
theorem LO : bj Tryz.prog 107 := ⟨Tryz.f107, Tryz.func107, z, by decide⟩
theorem SV : PH Tryz.prog 5 := NG (by kernel_rfl)
theorem Qs : bj Tryz.prog 110 := ⟨Tryz.f110, Tryz.func110, z, by decide⟩
theorem IV : gN Tryz.prog 107 1 1 := cc (by kernel_rfl)
theorem vN : gN Tryz.prog 107 0 0 := cc (by kernel_rfl)
theorem yH : bj Tryz.prog 60 := ⟨Tryz.f60, Tryz.func60, z, by decide⟩
theorem Pa : bj Tryz.prog 61 := ⟨Tryz.f61, Tryz.func61, z, by decide⟩
theorem Ka : bj Tryz.prog 64 := ⟨Tryz.f64, Tryz.func64, z, by decide⟩
theorem SC : bj Tryz.prog 57 := ⟨Tryz.f57, Tryz.func57, z, by decide⟩
theorem RN : fG Tryz.prog 107 y 2 32 [S N 0 0, B n] := eE (by kernel_rfl)
theorem Qn : uL Tryz.prog 107 [(0, 1), (1, 1)] := lD (by kernel_rfl)
theorem SU : bj Tryz.prog 59 := ⟨Tryz.f59, Tryz.func59, z, by decide⟩
theorem Tp : bj Tryz.prog 58 := ⟨Tryz.f58, Tryz.func58, z, by decide⟩
theorem QM : bj Tryz.prog 62 := ⟨Tryz.f62, Tryz.func62, z, by decide⟩
theorem QJ : bj Tryz.prog 63 := ⟨Tryz.f63, Tryz.func63, z, by decide⟩
theorem Rj : bj Tryz.prog 17 := ⟨Tryz.f17, Tryz.func17, z, by decide⟩
theorem Qh : bj Tryz.prog 16 := ⟨Tryz.f16, Tryz.func16, z, by decide⟩
theorem Sl : bj Tryz.prog 18 := ⟨Tryz.f18, Tryz.func18, z, by decide⟩
theorem Th : bj Tryz.prog 19 := ⟨Tryz.f19, Tryz.func19, z, by decide⟩
theorem GI : bj Tryz.prog 114 := ⟨Tryz.f114, Tryz.func114, z, by decide⟩
theorem Od : bj Tryz.prog 112 := ⟨Tryz.f112, Tryz.func112, z, by decide⟩
theorem PP : bj Tryz.prog 146 := ⟨Tryz.f146, Tryz.func146, z, by decide⟩
theorem Sh : bj Tryz.prog 111 := ⟨Tryz.f111, Tryz.func111, z, by decide⟩
theorem Tn : bj Tryz.prog 65 := ⟨Tryz.f65, Tryz.func65, z, by decide⟩
theorem Sk : bj Tryz.prog 66 := ⟨Tryz.f66, Tryz.func66, z, by decide⟩
theorem PC : bj Tryz.prog 68 := ⟨Tryz.f68, Tryz.func68, z, by decide⟩
theorem RI : bj Tryz.prog 212 := ⟨Tryz.f212, Tryz.func212, z, by decide⟩
theorem Rz : bj Tryz.prog 213 := ⟨Tryz.f213, Tryz.func213, z, by decide⟩
theorem QR : bj Tryz.prog 195 := ⟨Tryz.f195, Tryz.func195, z, by decide⟩
theorem Ra : bj Tryz.prog 170 := ⟨Tryz.f170, Tryz.func170, z, by decide⟩
theorem NX : bj Tryz.prog 171 := ⟨Tryz.f171, Tryz.func171, z, by decide⟩
theorem On : bj Tryz.prog 147 := ⟨Tryz.f147, Tryz.func147, z, by decide⟩
theorem RL : bj Tryz.prog 148 := ⟨Tryz.f148, Tryz.func148, z, by decide⟩
theorem Qq : bj Tryz.prog 113 := ⟨Tryz.f113, Tryz.func113, z, by decide⟩
theorem Sy : bj Tryz.prog 67 := ⟨Tryz.f67, Tryz.func67, z, by decide⟩
theorem Rh : bj Tryz.prog 115 := ⟨Tryz.f115, Tryz.func115, z, by decide⟩
theorem Tl : bj Tryz.prog 69 := ⟨Tryz.f69, Tryz.func69, z, by decide⟩
theorem Sz : bj Tryz.prog 20 := ⟨Tryz.f20, Tryz.func20, z, by decide⟩
theorem Sw : bj Tryz.prog 21 := ⟨Tryz.f21, Tryz.func21, z, by decide⟩
theorem SH : bj Tryz.prog 22 := ⟨Tryz.f22, Tryz.func22, z, by decide⟩
theorem ID : bj Tryz.prog 149 := ⟨Tryz.f149, Tryz.func149, z, by decide⟩
theorem Gf : bj Tryz.prog 119 := ⟨Tryz.f119, Tryz.func119, z, by decide⟩
theorem Ox : bj Tryz.prog 117 := ⟨Tryz.f117, Tryz.func117, z, by decide⟩
theorem PX : bj Tryz.prog 116 := ⟨Tryz.f116, Tryz.func116, z, by decide⟩
theorem SJ : bj Tryz.prog 70 := ⟨Tryz.f70, Tryz.func70, z, by decide⟩
theorem NA : bj Tryz.prog 72 := ⟨Tryz.f72, Tryz.func72, z, by decide⟩
theorem Oh : bj Tryz.prog 118 := ⟨Tryz.f118, Tryz.func118, z, by decide⟩
theorem Te : bj Tryz.prog 71 := ⟨Tryz.f71, Tryz.func71, z, by decide⟩
theorem Tm : bj Tryz.prog 73 := ⟨Tryz.f73, Tryz.func73, z, by decide⟩
theorem Ss : bj Tryz.prog 23 := ⟨Tryz.f23, Tryz.func23, z, by decide⟩
theorem Td : bj Tryz.prog 24 := ⟨Tryz.f24, Tryz.func24, z, by decide⟩
theorem SI : bj Tryz.prog 25 := ⟨Tryz.f25, Tryz.func25, z, by decide⟩
theorem GV : bj Tryz.prog 123 := ⟨Tryz.f123, Tryz.func123, z, by decide⟩
theorem NW : bj Tryz.prog 121 := ⟨Tryz.f121, Tryz.func121, z, by decide⟩
theorem Rb : bj Tryz.prog 120 := ⟨Tryz.f120, Tryz.func120, z, by decide⟩
theorem Sm : bj Tryz.prog 74 := ⟨Tryz.f74, Tryz.func74, z, by decide⟩
theorem NC : bj Tryz.prog 76 := ⟨Tryz.f76, Tryz.func76, z, by decide⟩
theorem OE : bj Tryz.prog 122 := ⟨Tryz.f122, Tryz.func122, z, by decide⟩
theorem Sx : bj Tryz.prog 75 := ⟨Tryz.f75, Tryz.func75, z, by decide⟩
theorem SN : bj Tryz.prog 77 := ⟨Tryz.f77, Tryz.func77, z, by decide⟩
theorem Sp : bj Tryz.prog 26 := ⟨Tryz.f26, Tryz.func26, z, by decide⟩
theorem Sq : bj Tryz.prog 27 := ⟨Tryz.f27, Tryz.func27, z, by decide⟩
theorem Tk : bj Tryz.prog 28 := ⟨Tryz.f28, Tryz.func28, z, by decide⟩
theorem fn5 : bj Tryz.prog 5 := ⟨Tryz.f5, Tryz.func5, z, by decide⟩
theorem fn4 : bj Tryz.prog 4 := ⟨Tryz.f4, Tryz.func4, z, by decide⟩
theorem fn6 : bj Tryz.prog 6 := ⟨Tryz.f6, Tryz.func6, z, by decide⟩
theorem fn7 : bj Tryz.prog 7 := ⟨Tryz.f7, Tryz.func7, z, by decide⟩
theorem fn8 : bj Tryz.prog 8 := ⟨Tryz.f8, Tryz.func8, z, by decide⟩
theorem fn9 : bj Tryz.prog 9 := ⟨Tryz.f9, Tryz.func9, z, by decide⟩
theorem ST : bj Tryz.prog 10 := ⟨Tryz.f10, Tryz.func10, z, by decide⟩
theorem QU : bj Tryz.prog 11 := ⟨Tryz.f11, Tryz.func11, z, by decide⟩
theorem ox (w) {o p0 l a m r} (H : jW p0 = U r) (HS : Q w o [] w) (q : (V e8 5).rd w o p0 [S l a m]) :
    Calls Tryz.prog 5 #[S l a m] w (fun en w' => ∃ v, en = .returned v ∧ ∃ a f c0 h, v = S a f c0 ∧ Q w o [W (V e8 5) h r [S a f c0]] w') := by
 obtain rfl := dc q
 unfold jW at H
 refine ar Tryz.func5 z Tryz.ntmps5 z (HS) <| D <| A z <| nR <| C [.p, .lenS 22 5 cC] z <| d H fun f a H => Jb (e := e8) (zero := (0 : Int)) z z z z z z cC ty5 z z z z (fun _ => ⟨z, z⟩) a (fun _ => kp) fun k => A z <| P <| E <| D <| A z <| P <| an <| CW.at (fc (fun (h : List Int) (a : Int) => Q w o [W (V e8 5) [k] h [S (U ⟨k, 0, N⟩) f.length f.length]]) (fun h a => [(0, S l p0.length m), (3, S (U ⟨k, 0, N⟩) f.length f.length), (4, I J a)]) (fun kk => fun h a => lT p0 kk h a = U r) nofun (fun l m h a H => ?_) aI (f) (0) (H)) (ss [0] z z) (c z)
 unfold lT at H
 refine E <| D <| C [.p, .p, .lenS 22 5 cC, .p] z <| P <| cI H z ?_ ?_ <;> intro H
 ·exact ai <| R <| E <| an <| aH <| C [.p, .p, .p, .p] z <| d H fun o l H => ix1 cC ty5 (g q) l z z <| d H fun l l H => fb (e := e8) (xs := h) (j := a) z z z z z cC ty5 z (av (e := V e8 5) (r := 0) z) l (by rw [Nat.mul_one]) <| tu (i := 0) (j := a) z z z z z z ty5 z l (fun _ => z) kp <| ay <| bR <| R <| aH <| C [.p, .p, .p] z <| ay <| bU (RW.at (m ((h.set a.toNat o)) (J.wrap (a + 1)) (H)) (ss [0] z z) (c z))
 ·exact aU <| aB <| aE <| aA <| R <| D <| oPP z <| nT <| Z H ▸ xo z fun w' hw' => ⟨_, z, (U ⟨k, 0, N⟩), f.length, f.length, [k], z, hw'.sel [0] z z⟩
theorem Hg (w) {p0 i a j r} (H : xM p0 = U r) (e : (V e8 5).rd w [] p0 [S i a j]) :
    Calls Tryz.prog 29 #[S i a j] w (fun en w' => en = .returned (I J r) ∧ Ext [] w w') := by
 obtain rfl := dc e
 unfold xM at H
 refine ar Tryz.func29 z Tryz.ntmps29 z (St.init w []) <| D <| A z <| nR <| A z <| P <| E <| D <| A z <| P <| an <| CW.at (fc (fun (h : Int) (a : Int) => Q w [] []) (fun h a => [(0, S i p0.length j), (3, I J h), (4, I J a)]) (fun kk => fun h a => ki p0 kk h a = U r) nofun (fun m k h a H => ?_) aI (4294967295) (0) (H)) (ss [] z z) (c z)
 unfold ki at H
 refine E <| D <| C [.p, .p, .lenS 22 5 cC, .p] z <| P <| cI H z ?_ ?_ <;> intro H
 ·refine ai <| R <| E <| an <| D <| C [.p, .p, .p] z <| d H fun l f H => ix1 cC ty5 (g e) f z z <| C [.cv 5 3 J us5 in3, .p, .p] z <| nR <| A z <| P <| an <| CW.at (fc (fun (e : Int) (f : Int) => Q w [] []) (fun e f => [(0, S i p0.length j), (3, I J e), (4, I J a), (5, I J f)]) (fun kk => fun e f => lc (ki p0 m) a kk e f = U r) nofun (fun i i e f H => ?_) aI (eK .xor J h (J.wrap l)) (0) (H)) (ss [] z z) (c z)
  unfold lc at H
  refine E <| D <| oPP z <| P <| cI H z ?_ ?_ <;> intro H
  ·refine ai <| R <| E <| an <| D <| C [.p, .p, .p, .p] z <| nR <| C [.p, .p, .p] z <| nR <| A z <| P <| cI H z ?_ ?_ <;> intro H
   ·exact aH <| C [.p, .p, .p] z <| ay <| bR <| R <| aH <| C [.p, .p, .p] z <| ay <| bU (RW.at (i (eK .xor J (J.wrap (Int.tdiv e 2)) 3988292384) (J.wrap (f + 1)) (H)) (ss [] z z) (c z))
   ·exact ai <| bR <| R <| aH <| C [.p, .p, .p] z <| ay <| bU (RW.at (i (J.wrap (Int.tdiv e 2)) (J.wrap (f + 1)) (H)) (ss [] z z) (c z))
  ·exact aU <| aB <| aE <| aA <| bR <| R <| aH <| C [.p, .p, .p] z <| ay <| bU (RW.at (k (e) (J.wrap (a + 1)) (H)) (ss [] z z) (c z))
 ·exact aU <| aB <| aE <| aA <| R <| D <| C [.p, .p, .p] z <| nT <| Z H ▸ xw z
theorem uY (w) {h p0 a e f r} (H : ga p0 = U r) (HS : Q w h [] w) (i : (V e8 5).rd w h p0 [S a e f]) :
    Calls Tryz.prog 12 #[S a e f] w (fun en w' => ∃ v, en = .returned v ∧ ∃ a e c0 f, v = S a e c0 ∧ Q w h [W (V e8 5) f r [S a e c0]] w') := by
 obtain rfl := dc i
 unfold ga at H
 exact ar Tryz.func12 z Tryz.ntmps12 z (HS) <| D <| A z <| nR <| A z <| bq H SD (fun _ a e f => Hg e a (g i e f)) z tt2 fun a H => A z <| nR <| C [.p, .p, .cv 3 5 K us3 in5, .p, .p, .p, .cv 3 5 K us3 in5, .p, .p, .p, .cv 3 5 K us3 in5, .p, .p, .cv 3 5 K us3 in5] z <| cF (val := I K) (h1 := fun _ => z) [K.wrap (J.wrap (Int.tdiv a 16777216)), K.wrap (Int.tmod (J.wrap (Int.tdiv a 65536)) 256), K.wrap (Int.tmod (J.wrap (Int.tdiv a 256)) 256), K.wrap (Int.tmod a 256)] [(0, [I K (K.wrap (J.wrap (Int.tdiv a 16777216)))]), (1, [I K (K.wrap (Int.tmod (J.wrap (Int.tdiv a 65536)) 256))]), (2, [I K (K.wrap (Int.tmod (J.wrap (Int.tdiv a 256)) 256))]), (3, [I K (K.wrap (Int.tmod a 256))])] z z z z z cC ty5 z z z ⟨z, z, nl z, z, z, nl z, z, z, nl z, z, z, nl z, Y⟩ z z (fun _ => kp) fun e => A z <| nT <| Z H ▸ xo z fun w' hw' => ⟨_, z, (U ⟨e, 0, N⟩), (([K.wrap (J.wrap (Int.tdiv a 16777216)), K.wrap (Int.tmod (J.wrap (Int.tdiv a 65536)) 256), K.wrap (Int.tmod (J.wrap (Int.tdiv a 256)) 256), K.wrap (Int.tmod a 256)] : List Int).length), 4, [e], z, hw'.sel [0] z z⟩
theorem uS (w) {p0 p1 f a h r} (H : lf p0 p1 = U r) (j : (V e8 5).rd w [] p0 [S f a h]) :
    Calls Tryz.prog 78 #[S f a h, I J p1] w (fun en w' => en = .returned (.tuple #[I J r.1, I J r.2.1, B r.2.2]) ∧ Ext [] w w') := by
 obtain rfl := dc j
 unfold lf at H
 refine ar Tryz.func78 z Tryz.ntmps78 z (St.init w []) <| D <| C [.p, .p, .p] z <| nR <| A z <| P <| E <| D <| A z <| P <| an <| CW.at (fc (fun (e : Int) (a : Int) => Q w [] []) (fun e a => [(0, S f p0.length h), (1, I J p1), (7, I J e), (8, I J a)]) (fun kk => fun e a => dW p1 p0 kk e a = U r) nofun (fun i i e a H => ?_) aI (0) (0) (H)) (ss [] z z) (c z)
 unfold dW at H
 refine E <| D <| oPP z <| P <| cI H z ?_ ?_ <;> intro H
 ·refine ai <| R <| E <| an <| E <| D <| C [.p, .p, .p] z <| cu2 [(0, S f p0.length h), (1, I J p1), (7, I J e), (8, I J a)] [(16, B (decide (p1 < 0)))] 7 (23, B ((decide (p1 < 0)) || (decide (p1 ≥ (J.wrap ((p0.length : Int) - a)))))) z ?_ fun key => ?_
  ·refine P <| cI H z ?_ ?_ <;> intro H
   ·exact D <| C [.p, .p, .p] z <| nT <| Z H ▸ xw z
   ·refine ai <| R <| D <| C [.p, .p, .p, .p] z <| d H fun f h H => ix1 cC ty5 (g j) h z z <| C [.cv 5 3 J us5 in3, .p] z <| nR <| C [.p, .p, .p, .p, .p] z <| d H fun h j H => G z (HE z z z j) <| oPP z <| nR <| oPP z <| P <| cI H z ?_ ?_ <;> intro H
    ·refine E <| D <| C [.p, .p, .p] z <| cu2 [(1, I J p1), (7, I J (eK .or J e h)), (8, I J a)] [(9, I J (J.wrap f)), (42, B (decide (a > 0)))] 3 (45, B ((decide (a > 0)) && ((J.wrap f) == 0))) z ?_ fun key => ?_
     ·refine A z <| cu2 [(1, I J p1), (7, I J (eK .or J e h)), (8, I J a)] [(46, B ((decide (a > 0)) && ((J.wrap f) == 0)))] 3 (49, B (((decide (a > 0)) && ((J.wrap f) == 0)) || (decide ((eK .or J e h) > 2147483647)))) z ?_ fun key => ?_
      ·refine P <| cI H z ?_ ?_ <;> intro H
       ·exact D <| C [.p, .p, .p] z <| nT <| Z H ▸ xw z
       ·exact ai <| R <| D <| C [.p, .p, .p, .p, .p, .p, .p, .p] z <| nT <| Z H ▸ xw z
      ·generalize ((decide (a > 0)) && ((J.wrap f) == 0)) = f at key ⊢
       cases f
       ·exact oPP z <| A z <| OW.sub key (c z)
       ·exact C [.p, .p, .p] z <| OW.sub key (c z)
     ·generalize (decide (a > 0)) = f at key ⊢
      cases f
      ·exact C [.p, .p, .p] z <| OW.sub key (c z)
      ·exact oPP z <| A z <| OW.sub key (c z)
    ·exact ai <| bR <| R <| aH <| C [.p, .p, .p] z <| ay <| bU (RW.at (i (eK .or J e h) (J.wrap (a + 1)) (H)) (ss [] z z) (c z))
  ·generalize (decide (p1 < 0)) = a at key ⊢
   cases a
   ·exact C [.p, .p, .lenS 22 5 cC, .p, .p, .p] z <| A z <| OW.sub key (c z)
   ·exact C [.p, .p, .p, .p, .p, .p, .p] z <| OW.sub key (c z)
 ·exact aU <| aB <| aE <| aA <| R <| D <| C [.p, .p, .p] z <| nT <| Z H ▸ xw z
theorem Ax (w) {p0 p1 e a f r} (H : ke p0 p1 = U r) (h : (V e8 5).rd w [] p0 [S e a f]) :
    Calls Tryz.prog 30 #[S e a f, I J p1] w (fun en w' => en = .returned (.tuple #[vS r.1, I J r.2.1, B r.2.2]) ∧ Ext [] w w') := by
 obtain rfl := dc h
 unfold ke at H
 refine ar Tryz.func30 z Tryz.ntmps30 z (St.init w []) <| D <| C [.p, .p, .p] z <| nR <| oPP z <| bq H QF (fun _ a i j => uS i a (g h i j)) z tt2 fun a H => C [.p, .p, .p, .p, .p, .p, .p] z <| P <| E <| D <| C [.p, .p, .p] z <| cu2 [(0, S e p0.length f), (7, I J a.1), (8, I J a.2.1)] [(19, B (!a.2.2))] 7 (26, B ((!a.2.2) || (decide (a.1 > (J.wrap ((p0.length : Int) - a.2.1)))))) z ?_ fun key => ?_
 ·refine P <| cI H z ?_ ?_ <;> intro H
  ·exact D <| C [.p, .p, .p] z <| nT <| Z H ▸ xw z
  ·refine ai <| R <| D <| C [.p, .p, .p, .p, .p] z <| d H fun f e H => qq z z z z cC ty5 z z z e h fun e e => ?_
   obtain ⟨h, i, rfl⟩ := wy e
   have e : (V e8 5).rd w [] f [S h f.length i] := e
   exact G z (rI (xs := f) z z cC in5 st9 (g e)) <| C [.p, .p, .p, .p, .p, .p] z <| nT <| Z H ▸ xw z
 ·generalize (!a.2.2) = a at key ⊢
  cases a
  ·exact C [.p, .p, .lenS 22 5 cC, .p, .p, .p] z <| A z <| OW.sub key (c z)
  ·exact C [.p, .p, .p, .p, .p, .p, .p] z <| OW.sub key (c z)
theorem kn (w) {m p0 p1 r} (H : gn p0 p1 = U r) (HS : Q w m [] w) :
    Calls Tryz.prog 79 #[vS p0, I K p1] w (fun en w' => ∃ v, en = .returned v ∧ ∃ a f c0 h, v = S a f c0 ∧ Q w m [W (V (bC) 9) h r [S a f c0]] w') := by
 unfold gn at H
 refine ar Tryz.func79 z Tryz.ntmps79 z (HS) <| D <| A z <| nR <| eS (e := bC) z z z z eo ty9 (fun _ => kp) fun o => A z <| nR <| A z <| P <| E <| D <| A z <| P <| an <| CW.at (oD (fun (f : List (List UInt8)) (h : Option Addr) (j : Nat) (l : List Nat) (k : Int) (a : Int) => Q w m [W (V (bC) 9) l f [S h f.length j]]) (fun f h j l k a => [(0, vS p0), (1, I K p1), (5, S h f.length j), (6, I J k), (7, I J a)]) (fun kk => fun f h j l k a => h.isNone = n ∧ iq p0 p1 kk f k a = U r) (fun _ _ _ _ _ _ H => nomatch H.2) (fun m m f h j l k a ⟨t, H⟩ => ?_) aI (([] : List (List UInt8))) ((U ⟨o, 0, N⟩)) (0) ([o]) (0) (0) (⟨z, H⟩)) (ss [0] z z) (c z)
 unfold iq at H
 refine E <| D <| C [.p, .p, .lenT 9 st9, .p] z <| P <| cI H z ?_ ?_ <;> intro H
 ·refine ai <| R <| E <| an <| D <| C [.p, .p, .lenT 9 st9, .p, .p] z <| d H fun o u H => cu2 [(0, vS p0), (1, I K p1), (5, S h f.length j), (6, I J k), (7, I J a)] [(19, B (a == (p0.length : Int)))] 6 (25, B o) z ?_ fun key => ?_
  ·refine P <| cI H z ?_ ?_ <;> intro H
   ·exact D <| C [.p, .p, .p, .p] z <| d H fun o q H => G z (Be (s := p0) z z st9 z z q) <| cF (val := vS) (h1 := fun _ => z) [o] [(0, [vS o])] z z z z z eo ty9 z z z ⟨z, z, nl z, Y⟩ z z (fun _ => kp) fun q => d H fun x q H => cq (r := 0) (ys := ([o] : List (List UInt8))) z z z z z z eo ty9 z z z (fun F o => av (e := V (bC) 9) (r := 1) z F o) q (fun _ _ _ => kp) fun L M T => eF z (fun F o => kK (i := 0) o z (kC q)) fun o => A z <| P <| aH <| C [.p, .p, .p] z <| ay <| bR <| R <| aH <| C [.p, .p, .p] z <| ay <| bU (RW.at (m (x) (L) (M) (T) (J.wrap (a + 1)) (J.wrap (a + 1)) (⟨o, H⟩)) (ss [0] z z) (c z))
   ·exact ai <| bR <| R <| aH <| C [.p, .p, .p] z <| ay <| bU (RW.at (m (f) (h) (j) (l) (k) (J.wrap (a + 1)) (⟨t, H⟩)) (ss [0] z z) (c z))
  ·have H := u
   generalize (a == (p0.length : Int)) = a at H key ⊢
   cases a
   ·have H := aN z H
    refine oPP z <| d H fun a a H => G z (qr (s := p0) z z z st9 a) <| oPP z <| A z <| ?_
    obtain rfl := Z H
    exact OW.sub key (c z)
   ·have H := aO z H
    refine C [.p, .p, .p, .p, .p, .p] z ?_
    obtain rfl := Z H
    exact OW.sub key (c z)
 ·exact aU <| aB <| aE <| aA <| R <| D <| oPP z <| nT <| Z H ▸ xo z fun w' hw' => ⟨_, z, h, f.length, j, l, z, hw'.sel [0] z z⟩
theorem uV (w) {p0 r} (H : oX p0 = U r) :
    Calls Tryz.prog 131 #[I J p0] w (fun en w' => en = .returned (vS r) ∧ Ext [] w w') := by
 unfold oX at H
 refine ar Tryz.func131 z Tryz.ntmps131 z (St.init w []) <| D <| A z <| P <| E <| D <| oPP z <| P <| cI H z ?_ ?_ <;> intro H
 ·exact D <| A z <| nT <| Z H ▸ xw z
 ·refine ai <| R <| D <| C [.p, .p, .p] z <| nR <| A z <| P <| E <| an <| CW.at (fc (fun (a : Int) (h : List UInt8) => Q w [] []) (fun a h => [(0, I J a), (3, B (decide (p0 < 0))), (4, vS h)]) (fun kk => fun a h => dQ p0 kk a h = U r) nofun (fun j i a h H => ?_) aI (p0) (([] : List UInt8)) (H)) (ss [] z z) (c z)
  unfold dQ at H
  refine E <| D <| oPP z <| P <| cI H z ?_ ?_ <;> intro H
  ·refine ai <| R <| an <| D <| C [.p, .p, .p] z <| P <| yB (fun (f : Int) => Q w [] []) (fun f => [(0, I J a), (3, B (decide (p0 < 0))), (4, vS h), (5, I J f)]) (fun f => jx h (dQ p0 j) a f = U r) (fun f H => ?_) (fun h => ?_)
   ·unfold jx at H
    exact D <| C [.p, .p, .cv 3 5 K us3 in5] z <| cF (val := I K) (h1 := fun _ => z) [K.wrap (J.wrap (48 + f))] [(0, [I K (K.wrap (J.wrap (48 + f)))])] z z z z z cC ty5 z z z ⟨z, z, nl z, Y⟩ z z (fun _ => kp) fun j => G z (rI (xs := ([K.wrap (J.wrap (48 + f))] : List Int)) z z cC in5 st9 (av (e := V e8 5) (r := 0) z)) <| A z <| d H fun f j H => G z (jH z z z j) <| A z <| P <| aH <| C [.p, .p, .p] z <| ay <| bR <| bU (RW.at (i (J.wrap (Int.tdiv a 10)) (f) (H)) (ss [] z z) (c z))
   ·refine D <| oPP z <| P <| cI H z ?_ ?_ <;> intro H
    ·exact aH <| C [.p, .p, .p] z <| ay <| XW.at (h (J.wrap (0 - (Int.tmod a 10))) (H)) (ss [] z z) (c z)
    ·exact ai <| XW.at (h (Int.tmod a 10) (H)) (ss [] z z) (c z)
  ·refine aU <| aB <| aE <| aA <| R <| E <| D <| A z <| P <| cI H z ?_ ?_ <;> intro H
   ·exact D <| A z <| d H fun a a H => G z (jH z z z a) <| A z <| nT <| Z H ▸ xw z
   ·exact ai <| R <| D <| oPP z <| nT <| Z H ▸ xw z
theorem vn (w) {p0 r} (H : lh p0 = U r) :
    Calls Tryz.prog 150 #[vS p0] w (fun en w' => en = .returned (.tuple #[I J r.1, B r.2]) ∧ Ext [] w w') := by
 unfold lh at H
 refine ar Tryz.func150 z Tryz.ntmps150 z (St.init w []) <| D <| oPP z <| P <| E <| D <| C [.p, .lenT 9 st9, .p, .p] z <| cu2 [(0, vS p0)] [(9, B (decide ((p0.length : Int) < 1)))] 4 (13, B ((decide ((p0.length : Int) < 1)) || (decide ((p0.length : Int) > 6)))) z ?_ fun key => ?_
 ·refine P <| cI H z ?_ ?_ <;> intro H
  ·exact D <| oPP z <| nT <| Z H ▸ xw z
  ·refine ai <| R <| D <| A z <| P <| E <| D <| A z <| P <| an <| CW.at (fc (fun (a : Int) (e : Int) => Q w [] []) (fun a e => [(0, vS p0), (4, I J a), (5, I J e)]) (fun kk => fun a e => eD p0 kk a e = U r) nofun (fun f h a e H => ?_) aI (0) (0) (H)) (ss [] z z) (c z)
   unfold eD at H
   refine E <| D <| C [.p, .p, .lenT 9 st9, .p] z <| P <| cI H z ?_ ?_ <;> intro H
   ·refine ai <| R <| E <| an <| E <| D <| oPP z <| d H fun f i H => G z (qr (s := p0) z z z st9 i) <| oPP z <| d H fun j i H => cu2 [(0, vS p0), (4, I J a), (5, I J e)] [(24, B (decide ((f.toNat : Int) < 48)))] 5 (29, B j) z ?_ fun key => ?_
    ·refine P <| cI H z ?_ ?_ <;> intro H
     ·exact D <| oPP z <| nT <| Z H ▸ xw z
     ·exact ai <| R <| aH <| C [.p, .p, .p, .p] z <| d H fun j k H => G z (qr (s := p0) z z z st9 k) <| C [.cv 5 3 J us5 in3, .p, .p, .p] z <| ay <| bR <| R <| aH <| C [.p, .p, .p] z <| ay <| bU (RW.at (h (J.wrap ((J.wrap ((J.wrap (10 * a)) + (J.wrap (j.toNat : Int)))) - 48)) (J.wrap (e + 1)) (H)) (ss [] z z) (c z))
    ·have H := i
     generalize (decide ((f.toNat : Int) < 48)) = a at H key ⊢
     cases a
     ·have H := aN z H
      refine oPP z <| d H fun a a H => G z (qr (s := p0) z z z st9 a) <| A z <| A z <| ?_
      obtain rfl := Z H
      exact OW.sub key (c z)
     ·have H := aO z H
      refine C [.p, .p, .p, .p, .p] z ?_
      obtain rfl := Z H
      exact OW.sub key (c z)
   ·refine aU <| aB <| aE <| aA <| R <| E <| D <| A z <| bq H Ob (fun _ a e f => uV e a) z tt2 fun a H => oPP z <| P <| cI H z ?_ ?_ <;> intro H
    ·exact D <| oPP z <| nT <| Z H ▸ xw z
    ·exact ai <| R <| D <| C [.p, .p, .p] z <| nT <| Z H ▸ xw z
 ·generalize (decide ((p0.length : Int) < 1)) = a at key ⊢
  cases a
  ·exact C [.p, .lenT 9 st9, .p] z <| A z <| OW.sub key (c z)
  ·exact C [.p, .p, .p, .p] z <| OW.sub key (c z)
theorem Co (w) {p0 r} (H : lg p0 = U r) :
    Calls Tryz.prog 124 #[vS p0] w (fun en w' => en = .returned (.tuple #[I J r.1, B r.2]) ∧ Ext [] w w') := by
 unfold lg at H
 refine ar Tryz.func124 z Tryz.ntmps124 z (St.init w []) <| D <| oPP z <| P <| E <| D <| C [.p, .lenT 9 st9, .p, .p] z <| cu2 [(0, vS p0)] [(11, B (decide ((p0.length : Int) < 1)))] 4 (15, B ((decide ((p0.length : Int) < 1)) || (decide ((p0.length : Int) > 5)))) z ?_ fun key => ?_
 ·refine P <| cI H z ?_ ?_ <;> intro H
  ·exact D <| oPP z <| nT <| Z H ▸ xw z
  ·refine ai <| R <| E <| D <| A z <| d H fun a a H => G z (qr (s := p0) z z z st9 a) <| A z <| P <| cI H z ?_ ?_ <;> intro H
   ·refine D <| A z <| bq H NY (fun _ a e f => vn e a) z tt2 fun a H => C [.p, .p, .p, .p, .p] z <| P <| E <| D <| C [.p, .p, .p] z <| cu2 [(4, I J a.1)] [(26, B (!a.2))] 3 (29, B ((!a.2) || (decide (a.1 > 9999)))) z ?_ fun key => ?_
    ·refine P <| cI H z ?_ ?_ <;> intro H
     ·exact D <| oPP z <| nT <| Z H ▸ xw z
     ·exact ai <| R <| D <| C [.p, .p, .p] z <| nT <| Z H ▸ xw z
    ·generalize (!a.2) = a at key ⊢
     cases a
     ·exact oPP z <| A z <| OW.sub key (c z)
     ·exact C [.p, .p, .p] z <| OW.sub key (c z)
   ·refine ai <| R <| D <| A z <| d H fun a a H => G z (Be (s := p0) z z st9 z z a) <| bq H NY (fun _ a e f => vn e a) z tt2 fun a H => C [.p, .p, .p, .p, .p] z <| P <| E <| D <| C [.p, .p, .p] z <| cu2 [(6, I J a.1)] [(39, B (!a.2))] 3 (42, B ((!a.2) || (decide (a.1 < 1)))) z ?_ fun key => ?_
    ·refine A z <| cu2 [(6, I J a.1)] [(43, B ((!a.2) || (decide (a.1 < 1))))] 3 (46, B (((!a.2) || (decide (a.1 < 1))) || (decide (a.1 > 9999)))) z ?_ fun key => ?_
     ·refine P <| cI H z ?_ ?_ <;> intro H
      ·exact D <| oPP z <| nT <| Z H ▸ xw z
      ·exact ai <| R <| D <| C [.p, .p, .p, .p] z <| nT <| Z H ▸ xw z
     ·generalize ((!a.2) || (decide (a.1 < 1))) = e at key ⊢
      cases e
      ·exact oPP z <| A z <| OW.sub key (c z)
      ·exact C [.p, .p, .p] z <| OW.sub key (c z)
    ·generalize (!a.2) = a at key ⊢
     cases a
     ·exact oPP z <| A z <| OW.sub key (c z)
     ·exact C [.p, .p, .p] z <| OW.sub key (c z)
 ·generalize (decide ((p0.length : Int) < 1)) = a at key ⊢
  cases a
  ·exact C [.p, .lenT 9 st9, .p] z <| A z <| OW.sub key (c z)
  ·exact C [.p, .p, .p, .p] z <| OW.sub key (c z)
theorem bm (w) {p0 p1 a r} (H : ba p0 p1 a = U r) :
    Calls Tryz.prog 37 #[I J p0, I J p1, I J a] w (fun en w' => en = .returned (B r) ∧ Ext [] w w') := by
 unfold ba at H
 refine ar Tryz.func37 z Tryz.ntmps37 z (St.init w []) <| D <| A z <| nR <| C [.p, .p, .p, .p] z <| cu2 [(6, B n)] [(0, I J p0), (2, I J a), (10, B (decide (p0 ≥ p1)))] 4 (14, B ((decide (p0 ≥ p1)) && (decide (p0 ≤ a)))) z ?_ fun key => ?_
 ·exact A z <| nT <| Z H ▸ xw z
 ·generalize (decide (p0 ≥ p1)) = a at key ⊢
  cases a
  ·exact C [.p, .p, .p, .p] z <| OW.sub key (c z)
  ·exact C [.p, .p, .p] z <| A z <| OW.sub key (c z)
theorem vf (w) {p0 r} (H : oN p0 = U r) :
    Calls Tryz.prog 151 #[vS p0] w (fun en w' => en = .returned (B r) ∧ Ext [] w w') := by
 unfold oN at H
 refine ar Tryz.func151 z Tryz.ntmps151 z (St.init w []) <| D <| A z <| P <| E <| D <| C [.p, .lenT 9 st9] z <| bq H kO (fun _ a e f => bm e a) z tt2 fun a H => A z <| P <| cI H z ?_ ?_ <;> intro H
 ·exact D <| A z <| nT <| Z H ▸ xw z
 ·refine ai <| R <| E <| D <| A z <| P <| an <| CW.at (dq (fun (a : Int) => Q w [] []) (fun a => [(0, vS p0), (3, I J a)]) (fun kk => fun a => kI p0 kk a = U r) nofun (fun e f a H => ?_) aI (0) (H)) (ss [] z z) (c z)
  unfold kI at H
  refine E <| D <| C [.p, .p, .lenT 9 st9, .p] z <| P <| cI H z ?_ ?_ <;> intro H
  ·refine ai <| R <| E <| an <| D <| oPP z <| d H fun e h H => G z (qr (s := p0) z z z st9 h) <| oPP z <| d H fun i h H => cu2 [(0, vS p0), (3, I J a)] [(18, B (decide ((e.toNat : Int) < 97)))] 5 (23, B i) z ?_ fun key => ?_
   ·refine P <| cI H z ?_ ?_ <;> intro H
    ·exact D <| A z <| nT <| Z H ▸ xw z
    ·exact ai <| bR <| R <| aH <| C [.p, .p, .p] z <| ay <| bU (RW.at (f (J.wrap (a + 1)) (H)) (ss [] z z) (c z))
   ·have H := h
    generalize (decide ((e.toNat : Int) < 97)) = a at H key ⊢
    cases a
    ·have H := aN z H
     refine oPP z <| d H fun a a H => G z (qr (s := p0) z z z st9 a) <| A z <| A z <| ?_
     obtain rfl := Z H
     exact OW.sub key (c z)
    ·have H := aO z H
     refine C [.p, .p, .p, .p, .p] z ?_
     obtain rfl := Z H
     exact OW.sub key (c z)
  ·exact aU <| aB <| aE <| aA <| R <| D <| A z <| nT <| Z H ▸ xw z
theorem uH (w) {p0 f a h r} (H : nt p0 = U r) (i : (V (bC) 9).rd w [] p0 [S f a h]) :
    Calls Tryz.prog 126 #[S f a h] w (fun en w' => en = .returned (B r) ∧ Ext [] w w') := by
 obtain rfl := dc i
 unfold nt at H
 refine ar Tryz.func126 z Tryz.ntmps126 z (St.init w []) <| D <| A z <| P <| E <| D <| A z <| P <| an <| CW.at (dq (fun (a : Int) => Q w [] []) (fun a => [(0, S f p0.length h), (3, I J a)]) (fun kk => fun a => fh p0 kk a = U r) nofun (fun k j a H => ?_) aI (0) (H)) (ss [] z z) (c z)
 unfold fh at H
 refine E <| D <| C [.p, .p, .lenS 24 9 eo, .p] z <| P <| cI H z ?_ ?_ <;> intro H
 ·refine ai <| R <| E <| an <| E <| D <| oPP z <| d H fun e e H => ix1 eo ty9 (g i) e z z <| bq H OA (fun _ e l m => vf l e) z tt2 fun e H => A z <| P <| cI H z ?_ ?_ <;> intro H
  ·exact D <| A z <| nT <| Z H ▸ xw z
  ·refine ai <| R <| D <| A z <| P <| an <| CW.at (dq (fun (e : Int) => Q w [] []) (fun e => [(0, S f p0.length h), (3, I J a), (4, I J e)]) (fun kk => fun e => gU a p0 (fh p0 k) kk e = U r) nofun (fun f f e H => ?_) aI (0) (H)) (ss [] z z) (c z)
   unfold gU at H
   refine E <| D <| C [.p, .p, .p] z <| P <| cI H z ?_ ?_ <;> intro H
   ·refine ai <| R <| E <| an <| E <| dP dC (by kernel_rfl) <| oPP z <| d H fun h h H => ix1 eo ty9 (g i) h z z <| oPP z <| d H fun h h H => ix1 eo ty9 (g i) h z z <| A z <| cQ <| R <| cI H z ?_ ?_ <;> intro H
    ·exact D <| A z <| nT <| Z H ▸ xw z
    ·exact ai <| bR <| R <| aH <| C [.p, .p, .p] z <| ay <| bU (RW.at (f (J.wrap (e + 1)) (H)) (ss [] z z) (c z))
   ·exact aU <| aB <| aE <| aA <| bR <| R <| aH <| C [.p, .p, .p] z <| ay <| bU (RW.at (j (J.wrap (a + 1)) (H)) (ss [] z z) (c z))
 ·exact aU <| aB <| aE <| aA <| R <| D <| A z <| nT <| Z H ▸ xw z
theorem pS (w) {p0 a r} (H : jZ p0 = U r) (e : (aD).rd w [] p0 a) :
    Calls Tryz.prog 125 #[.agg a.toArray] w (fun en w' => en = .returned (B r) ∧ Ext [] w w') := by
 obtain ⟨k, l, m, o, rfl, i, q⟩ := bJ e
 unfold jZ at H
 refine ar Tryz.func125 z Tryz.ntmps125 z (St.init w []) <| D <| ob _ z fun e => A z <| P <| E <| D <| C [.fa 123 0 0 kA] z <| G z (r1 0 0 z ty9 z) <| bq H OA (fun _ a f h => vf f a) z tt2 fun a H => A z <| P <| cI H z ?_ ?_ <;> intro H
 ·exact D <| A z <| nT <| Z H ▸ xw z
 ·refine ai <| R <| E <| D <| C [.fa 123 1 1 fJ] z <| G z (r1 1 0 z bP z) <| C [.lenS 63 3 bB, .p] z <| P <| cI H z ?_ ?_ <;> intro H
  ·refine D <| C [.fa 123 2 2 kz] z <| G z (r1 2 0 z mZ z) <| C [.lenS 24 9 eo] z <| bq H kO (fun _ a f h => bm f a) z tt2 fun a H => A z <| d H fun s j H => cu2 [(2, B n)] [(1, O (U ⟨e, 0, N⟩)), (16, B a)] 4 (20, B s) z ?_ fun key => ?_
   ·exact A z <| nT <| Z H ▸ xw z
   ·have H := j
    generalize a = a at H key ⊢
    cases a
    ·have H := aN z H
     refine C [.p, .p, .p, .p] z ?_
     obtain rfl := Z H
     exact OW.sub key (c z)
    ·have H := aO z H
     refine C [.fa 123 2 2 kz] z <| G z (r1 2 0 z mZ z) <| bq H OB (fun _ a f h => uH f a (g q f h)) z tt2 fun a H => A z <| ?_
     obtain rfl := Z H
     exact OW.sub key (c z)
  ·refine ai <| R <| E <| D <| C [.fa 123 2 2 kz] z <| G z (r1 2 0 z mZ z) <| C [.lenS 24 9 eo, .p, .p] z <| cu2 [(1, O (U ⟨e, 0, N⟩))] [(25, B (decide ((p0.F_.length : Int) > 0)))] 5 (30, B ((decide ((p0.F_.length : Int) > 0)) || (decide ((p0.x_.length : Int) > 3)))) z ?_ fun key => ?_
   ·refine P <| cI H z ?_ ?_ <;> intro H
    ·exact D <| A z <| nT <| Z H ▸ xw z
    ·refine ai <| R <| E <| D <| A z <| P <| an <| CW.at (dq (fun (a : Int) => Q w [] [b e 123 [vS p0.D_, S k p0.x_.length l, S m p0.F_.length o]]) (fun a => [(1, O (U ⟨e, 0, N⟩)), (3, I J a)]) (fun kk => fun a => jt p0 kk a = U r) nofun (fun j j a H => ?_) aI (0) (H)) (ss [0] z z) (c z)
     unfold jt at H
     refine E <| D <| C [.p, .fa 123 1 1 fJ] z <| G z (r1 1 0 z bP z) <| C [.lenS 63 3 bB, .p] z <| P <| cI H z ?_ ?_ <;> intro H
     ·refine ai <| R <| E <| an <| E <| dP dC (by kernel_rfl) <| C [.fa 123 1 1 fJ] z <| G z (r1 1 0 z bP z) <| A z <| d H fun k k H => ix1 bB ty3 (g i) k z z <| bq H kO (fun _ k f h => bm f k) z tt2 fun f H => oPP z <| d H fun k h H => cu2 [(1, O (U ⟨e, 0, N⟩)), (3, I J a)] [(45, B (!f))] 17 (62, B k) z ?_ fun key => ?_
      ·refine cQ <| R <| cI H z ?_ ?_ <;> intro H
       ·exact D <| A z <| nT <| Z H ▸ xw z
       ·exact ai <| bR <| R <| aH <| C [.p, .p, .p] z <| ay <| bU (RW.at (j (J.wrap (a + 1)) (H)) (ss [0] z z) (c z))
      ·have H := h
       generalize (!f) = f at H key ⊢
       cases f
       ·have H := aN z H
        refine C [.p, .p, .p] z <| d H fun h f H => cu2 [(1, O (U ⟨e, 0, N⟩)), (3, I J a), (45, B n)] [(48, B (decide (a > 0)))] 13 (61, B h) z ?_ fun key => ?_
        ·refine C [.p] z ?_
         obtain rfl := Z H
         exact OW.sub key (c z)
        ·have H := f
         generalize (decide (a > 0)) = a at H key ⊢
         cases a
         ·have H := aN z H
          refine C [.p, .p, .p, .p, .p, .p, .p, .p, .p, .p, .p, .p, .p] z ?_
          obtain rfl := Z H
          exact OW.sub key (c z)
         ·have H := aO z H
          refine C [.fa 123 1 1 fJ] z <| G z (r1 1 0 z bP z) <| A z <| d H fun a a H => ix1 bB ty3 (g i) a z z <| C [.fa 123 1 1 fJ] z <| G z (r1 1 0 z bP z) <| oPP z <| d H fun a a H => ix1 bB ty3 (g i) a z z <| A z <| A z <| ?_
          obtain rfl := Z H
          exact OW.sub key (c z)
       ·have H := aO z H
        refine C [.p, .p, .p, .p, .p, .p, .p, .p, .p, .p, .p, .p, .p, .p, .p, .p, .p] z ?_
        obtain rfl := Z H
        exact OW.sub key (c z)
     ·exact aU <| aB <| aE <| aA <| R <| D <| A z <| nT <| Z H ▸ xw z
   ·generalize (decide ((p0.F_.length : Int) > 0)) = a at key ⊢
    cases a
    ·exact C [.fa 123 1 1 fJ] z <| G z (r1 1 0 z bP z) <| C [.lenS 63 3 bB, .p] z <| A z <| OW.sub key (c z)
    ·exact C [.p, .p, .p, .p, .p] z <| OW.sub key (c z)
theorem pl (w) {p0 p1 h a i r} (H : iz p0 p1 = U r) (k : (V (bC) 9).rd w [] p0 [S h a i]) :
    Calls Tryz.prog 91 #[S h a i, vS p1] w (fun en w' => en = .returned (vS r) ∧ Ext [] w w') := by
 obtain rfl := dc k
 unfold iz at H
 refine ar Tryz.func91 z Tryz.ntmps91 z (St.init w []) <| D <| A z <| nR <| A z <| P <| E <| D <| A z <| P <| an <| CW.at (fc (fun (e : List UInt8) (a : Int) => Q w [] []) (fun e a => [(0, S h p0.length i), (1, vS p1), (5, vS e), (6, I J a)]) (fun kk => fun e a => dY p0 p1 kk e a = U r) nofun (fun l j e a H => ?_) aI (([] : List UInt8)) (0) (H)) (ss [] z z) (c z)
 unfold dY at H
 refine E <| D <| C [.p, .p, .lenS 24 9 eo, .p] z <| P <| cI H z ?_ ?_ <;> intro H
 ·refine ai <| R <| E <| an <| yB (fun (f : List UInt8) => Q w [] []) (fun f => [(0, S h p0.length i), (1, vS p1), (5, vS f), (6, I J a)]) (fun f => kZ p0 a (dY p0 p1 l) f = U r) (fun f H => ?_) (fun f => ?_)
  ·unfold kZ at H
   exact aH <| C [.p, .p, .p] z <| d H fun h h H => ix1 eo ty9 (g k) h z z <| d H fun h i H => G z (jH z z z i) <| A z <| ay <| bR <| R <| aH <| C [.p, .p, .p] z <| ay <| bU (RW.at (j (h) (J.wrap (a + 1)) (H)) (ss [] z z) (c z))
  ·refine D <| oPP z <| P <| cI H z ?_ ?_ <;> intro H
   ·exact aH <| oPP z <| d H fun a h H => G z (jH z z z h) <| A z <| ay <| XW.at (f (a) (H)) (ss [] z z) (c z)
   ·exact ai <| XW.at (f (e) (H)) (ss [] z z) (c z)
 ·exact aU <| aB <| aE <| aA <| R <| D <| oPP z <| nT <| Z H ▸ xw z
theorem tH (w) {p0 a r} (H : jd p0 = U r) (f : (aD).rd w [] p0 a) :
    Calls Tryz.prog 90 #[.agg a.toArray] w (fun en w' => en = .returned (vS r) ∧ Ext [] w w') := by
 obtain ⟨t, u, v, x, rfl, o, h⟩ := bJ f
 unfold jd at H
 refine ar Tryz.func90 z Tryz.ntmps90 z (St.init w []) <| D <| ob _ z fun q => A z <| P <| E <| D <| G z (rx 0 0 _ z cf z) <| bq H IK (fun _ j f a => pS f j (co z (g o f a) (g h f a))) z tt2 fun j H => A z <| P <| cI H z ?_ ?_ <;> intro H
 ·exact D <| A z <| nT <| Z H ▸ xw z
 ·refine ai <| R <| E <| D <| C [.fa 123 2 2 kz] z <| G z (r1 2 0 z mZ z) <| C [.lenS 24 9 eo, .p] z <| P <| cI H z ?_ ?_ <;> intro H
  ·exact E <| dP dC (by kernel_rfl) <| C [.fa 123 0 0 kA] z <| G z (r1 0 0 z ty9 z) <| d H fun j j H => G z (jH z z z j) <| C [.fa 123 2 2 kz] z <| G z (r1 2 0 z mZ z) <| bq H NP (fun _ j f a => pl f j (g h f a)) z tt2 fun h H => d H fun h h H => G z (jH z z z h) <| A z <| cQ <| R <| sG <| Z H ▸ xw z
  ·refine ai <| R <| D <| eS (e := bC) z z z z eo ty9 (fun _ => kp) fun s => A z <| P <| E <| D <| A z <| P <| an <| CW.at (lq (fun (h : List (List UInt8)) (j : Option Addr) (l : Nat) (m : List Nat) (k : Int) => Q w [] [b q 123 [vS p0.D_, S t p0.x_.length u, S v p0.F_.length x], W (V (bC) 9) m h [S j h.length l]]) (fun h j l m k => [(1, O (U ⟨q, 0, N⟩)), (3, S j h.length l), (4, I J k)]) (fun kk => fun h j l m k => j.isNone = n ∧ fk p0 kk h k = U r) (fun _ _ _ _ _ H => nomatch H.2) (fun q q h j l m k ⟨h, H⟩ => ?_) aI (([] : List (List UInt8))) ((U ⟨s, 0, N⟩)) (0) ([s]) (0) (⟨z, H⟩)) (ss [0, 1] z z) (c z)
   unfold fk at H
   refine E <| D <| C [.p, .fa 123 1 1 fJ] z <| G z (r1 1 0 z bP z) <| C [.lenS 63 3 bB, .p] z <| P <| cI H z ?_ ?_ <;> intro H
   ·exact ai <| R <| E <| an <| aH <| C [.p, .fa 123 1 1 fJ] z <| G z (r1 1 0 z bP z) <| A z <| d H fun h h H => ix1 bB ty3 (g o) h z z <| bq H Ob (fun _ h f a => uV f h) z tt2 fun h H => cF (val := vS) (h1 := fun _ => z) [h] [(0, [vS h])] z z z z z eo ty9 z z z ⟨z, z, nl z, Y⟩ z z (fun _ => kp) fun j => d H fun l j H => cq (r := 1) (ys := ([h] : List (List UInt8))) z z z z z z eo ty9 z z z (fun f a => av (e := V (bC) 9) (r := 2) z f a) j (fun _ _ _ => kp) fun m o s => eF z (fun f a => kK (i := 1) a z (kC j)) fun h => A z <| ay <| bR <| R <| aH <| C [.p, .p, .p] z <| ay <| bU (RW.at (q (l) (m) (o) (s) (J.wrap (k + 1)) (⟨h, H⟩)) (ss [0, 1] z z) (c z))
   ·exact aU <| aB <| aE <| aA <| R <| E <| dP dC (by kernel_rfl) <| C [.fa 123 0 0 kA] z <| G z (r1 0 0 z ty9 z) <| d H fun h h H => G z (jH z z z h) <| A z <| bq H NP (fun _ h f a => pl f h (av (e := V (bC) 9) (r := 1) z f a)) z tt2 fun a H => d H fun a a H => G z (jH z z z a) <| A z <| cQ <| R <| sG <| Z H ▸ xw z
theorem Cc (w) {F p0 r} (H : ld p0 = U r) (HS : Q w F [] w) :
    Calls Tryz.prog 80 #[vS p0] w (fun en w' => ∃ v, en = .returned v ∧ ∃ a f c0 l j k c1 m, v = .tuple #[.agg #[vS r.1.D_, S a f c0, S j k c1], B r.2] ∧ Q w F [W (V eI 3) l r.1.x_ [S a f c0], W (V (bC) 9) m r.1.F_ [S j k c1]] w') := by
 unfold ld at H
 refine ar Tryz.func80 z Tryz.ntmps80 z (HS) <| D <| bn z z z z cf (fun _ => kp) fun L => A z <| nR <| G z (bv [] [vS ([] : List UInt8), S N 0 0, S N 0 0] z z cf Bg z Y z) <| bn z z z z cf (fun _ => kp) fun M => sC 0 [vS ([] : List UInt8), S N 0 0, S N 0 0] [_, _, _] 1 z cf z <| nR <| A z <| d H fun a j H => aq z Iu z z z z (fun f a => kn f j (a.carve [] z z)) fun j f w2 a k => ?_
 obtain ⟨j, j, j, j, rfl, j⟩ := k
 obtain rfl := aL (i := 0) j z
 refine ⟨Q w F [_, _, _], a.comp [] z z j, fun _ _ => Y, ?_⟩
 refine A z <| nR <| A z <| d H fun j j H => aq z Iu z z z z (fun f a => kn f j (a.carve [] z z)) fun j f w2 a k => ?_
 obtain ⟨j, j, j, j, rfl, j⟩ := k
 obtain rfl := aL (i := 0) j z
 refine ⟨Q w F [_, _, _, _], a.comp [] z z j, fun _ _ => Y, ?_⟩
 refine A z <| P <| IT (fun (l : List UInt8) (j : List Int) (m : Option Addr) (o : Nat) (t : List Nat) (k : List (List UInt8)) (q : Option Addr) (s : Nat) (u : List Nat) => Q w F [b L 123 [vS ([] : List UInt8), S N 0 0, S N 0 0], b M 123 [vS l, S m j.length o, S q k.length s], W (V eI 3) t j [S m j.length o], W (V (bC) 9) u k [S q k.length s]]) (fun l j m o t k q s u => [(0, vS p0), (2, O (U ⟨L, 0, N⟩)), (4, O (U ⟨M, 0, N⟩))]) (fun l j m o t k q s u => gz p0 l j k = U r) (fun l j m o t k q s u H => ?_) (fun J1 => ?_)
 ·unfold gz at H
  refine E <| D <| G z (rx 0 1 _ z cf z) <| bq H IK (fun _ X f a => pS f X (co (x := (ap.mk l j k)) (c0 := [vS l]) (c1 := [S m j.length o]) (c2 := [S q k.length s]) z (av (e := V eI 3) (r := 2) z f a) (av (e := V (bC) 9) (r := 3) z f a))) z tt2 fun X H => oPP z <| d H fun a5 a2 H => cu2 [(2, O (U ⟨L, 0, N⟩)), (4, O (U ⟨M, 0, N⟩))] [(0, vS p0), (65, B (!X))] 5 (70, B a5) z ?_ fun key => ?_
  ·refine P <| cI H z ?_ ?_ <;> intro H
   ·exact D <| G z (bv [] [vS ([] : List UInt8), S N 0 0, S N 0 0] z z cf Bg z Y z) <| sC 0 [vS ([] : List UInt8), S N 0 0, S N 0 0] [_, _, _] 0 z cf z <| A z <| nT <| aS <| aP (fun _ h => St.pushNil (e := eI) (T := 3) h) <| aP (fun _ h => St.pushNil (e := bC) (T := 9) h) <| Z H ▸ xc 0 cf z fun w' hw' => ⟨_, z, N, 0, 0, [], N, 0, 0, [], z, hw'.sel [4, 5] z z⟩
   ·exact ai <| R <| D <| G z (rx 0 1 _ z cf z) <| sC 0 [vS l, S m j.length o, S q k.length s] [_, _, _] 0 z cf z <| A z <| nT <| Z H ▸ xc 0 cf z fun w' hw' => ⟨_, z, m, j.length, o, t, q, k.length, s, u, z, hw'.sel [2, 3] z z⟩
  ·have H := a2
   generalize (!X) = t at H key ⊢
   cases t
   ·have H := aN z H
    refine G z (rx 0 1 _ z cf z) <| bq H RX (fun _ t f a => tH f t (co (x := (ap.mk l j k)) (c0 := [vS l]) (c1 := [S m j.length o]) (c2 := [S q k.length s]) z (av (e := V eI 3) (r := 2) z f a) (av (e := V (bC) 9) (r := 3) z f a))) z tt2 fun j H => oPP z <| A z <| ?_
    obtain rfl := Z H
    exact OW.sub key (c z)
   ·have H := aO z H
    refine C [.p, .p, .p, .p, .p] z ?_
    obtain rfl := Z H
    exact OW.sub key (c z)
 ·refine D <| C [.p, .lenS 24 9 eo, .p] z <| P <| cI H z ?_ ?_ <;> intro H
  ·refine D <| A z <| d H fun k j H => ix1 eo ty9 (fun f a => av (e := V (bC) 9) (r := 2) z f a) j z z <| C [.fa 123 0 0 kA] z <| sC 0 [vS k] [_, _, _] 1 z ty9 z <| P <| aH <| A z <| d H fun j j H => ix1 eo ty9 (fun f a => av (e := V (bC) 9) (r := 2) z f a) j z z <| d H fun l j H => aq z Iu z z z z (fun f a => kn f j (a.carve [] z z)) fun j f w2 a q => ?_
   obtain ⟨m, j, o, s, rfl, j⟩ := q
   obtain rfl := aL (i := 0) j z
   refine ⟨Q w F [_, _, _, _, _], a.comp [] z z j, fun _ _ => Y, ?_⟩
   exact C [.fa 123 2 2 kz] z <| sC 2 [S m l.length o] [_, _, _] 1 z mZ z <| ay <| aP (fun _ h => St.pushNil (e := eI) (T := 3) h) <| XW.at (J1 (k) (([] : List Int)) (N) (0) ([]) (l) (m) (o) (s) (H)) (ss [0, 1, 5, 4] z z) (c z)
  ·refine D <| C [.p, .lenS 24 9 eo, .p] z <| P <| cI H z ?_ ?_ <;> intro H
   ·refine D <| A z <| d H fun q j H => ix1 eo ty9 (fun f a => av (e := V (bC) 9) (r := 3) z f a) j z z <| C [.fa 123 0 0 kA] z <| sC 0 [vS q] [_, _, _] 1 z ty9 z <| nR <| A z <| d H fun j j H => ix1 eo ty9 (fun f a => av (e := V (bC) 9) (r := 3) z f a) j z z <| d H fun s j H => aq z Iu z z z z (fun f a => kn f j (a.carve [] z z)) fun j f w2 a k => ?_
    obtain ⟨t, j, u, X, rfl, j⟩ := k
    obtain rfl := aL (i := 0) j z
    refine ⟨Q w F [_, _, _, _, _], a.comp [] z z j, fun _ _ => Y, ?_⟩
    refine A z <| nR <| A z <| P <| an <| CW.weak ?_ (fun _ h => St.pushNil (e := eI) (T := 3) h)
    refine CW.at (lq (fun (j : List Int) (k : Option Addr) (l : Nat) (o : List Nat) (m : Int) => Q w F [b L 123 [vS ([] : List UInt8), S N 0 0, S N 0 0], b M 123 [vS q, S k j.length l, S N 0 0], W (V eI 3) o j [S k j.length l], W (V (bC) 9) X s [S t s.length u]]) (fun j k l o m => [(0, vS p0), (2, O (U ⟨L, 0, N⟩)), (4, O (U ⟨M, 0, N⟩)), (7, S t s.length u), (8, I J m)]) (fun kk => fun j k l o m => cY s p0 q kk j m = U r) nofun (fun s L j k l o m H => ?_) aI (([] : List Int)) (N) (0) ([]) (0) (H)) (ss [0, 1, 5, 4] z z) (c z)
    unfold cY at H
    refine E <| D <| C [.p, .p, .lenS 24 9 eo, .p] z <| P <| cI H z ?_ ?_ <;> intro H
    ·refine ai <| R <| E <| an <| D <| oPP z <| d H fun s s H => ix1 eo ty9 (fun f a => av (e := V (bC) 9) (r := 3) z f a) s z z <| bq H Qt (fun _ s f a => Co f s) z tt2 fun s H => C [.p, .p, .p, .p, .p] z <| P <| E <| D <| oPP z <| P <| cI H z ?_ ?_ <;> intro H
     ·exact D <| G z (bv [] [vS ([] : List UInt8), S N 0 0, S N 0 0] z z cf Bg z Y z) <| sC 0 [vS ([] : List UInt8), S N 0 0, S N 0 0] [_, _, _] 0 z cf z <| A z <| nT <| aS <| cR <| aS <| lU <| cR <| aS <| aP (fun _ h => St.pushNil (e := eI) (T := 3) h) <| aP (fun _ h => St.pushNil (e := bC) (T := 9) h) <| Z H ▸ xc 0 cf z fun w' hw' => ⟨_, z, N, 0, 0, [], N, 0, 0, [], z, hw'.sel [4, 5] z z⟩
     ·exact ai <| R <| aH <| C [.fa 123 1 1 fJ] z <| G z (r1 1 1 z bP z) <| A z <| cF (val := I J) (h1 := fun _ => z) [s.1] [(0, [I J s.1])] z z z z z bB ty3 z z z ⟨z, z, nl z, Y⟩ z z (fun _ => kp) fun t => d H fun t u H => cq (r := 2) (ys := ([s.1] : List Int)) z z z z z z bB ty3 z z z (av (e := V eI 3) (r := 4) z) u (fun _ _ _ => kp) fun s F M => eF z (fun f a => kK (i := 2) a z (kC u)) fun a => C [.fa 123 1 1 fJ] z <| sC 1 [S s t.length F] [_, _, _] 1 z bP z <| ay <| bR <| R <| aH <| C [.p, .p, .p] z <| ay <| bU (RW.at (L (t) (s) (F) (M) (J.wrap (m + 1)) (H)) (ss [0, 1, 2, 3] z z) (c z))
    ·exact aU <| aB <| aE <| aA <| aP (fun _ h => St.pushNil (e := bC) (T := 9) h) <| XW.at (J1 (q) (j) (k) (l) (o) (([] : List (List UInt8))) (N) (0) ([]) (H)) (ss [0, 1, 2, 4] z z) (c z)
   ·exact ai <| aP (fun _ h => St.pushNil (e := eI) (T := 3) h) <| aP (fun _ h => St.pushNil (e := bC) (T := 9) h) <| XW.at (J1 (([] : List UInt8)) (([] : List Int)) (N) (0) ([]) (([] : List (List UInt8))) (N) (0) ([]) (H)) (ss [0, 1, 4, 5] z z) (c z)
theorem gY (w) {p0 a r} (H : dZ p0 = U r) (e : (bH).rd w [] p0 a) :
    Calls Tryz.prog 81 #[.agg a.toArray] w (fun en w' => en = .returned (B r) ∧ Ext [] w w') := by
 obtain ⟨o, q, s, t, rfl, j, a2⟩ := bA e
 unfold dZ at H
 refine ar Tryz.func81 z Tryz.ntmps81 z (St.init w []) <| D <| ob _ z fun h => A z <| P <| E <| D <| C [.fa 26 0 0 fu] z <| G z (r1 0 0 z nv z) <| C [.lenS 23 123 jN] z <| bq H kO (fun _ a f i => bm f a) z tt2 fun u H => oPP z <| d H fun k v H => cu2 [(1, O (U ⟨h, 0, N⟩))] [(10, B (!u))] 6 (16, B k) z ?_ fun key => ?_
 ·refine A z <| d H fun a x H => cu2 [(1, O (U ⟨h, 0, N⟩))] [(17, B k)] 5 (22, B a) z ?_ fun key => ?_
  ·refine P <| cI H z ?_ ?_ <;> intro H
   ·exact D <| A z <| nT <| Z H ▸ xw z
   ·refine ai <| R <| E <| D <| A z <| P <| an <| CW.at (dq (fun (a : Int) => Q w [] [b h 26 [S o p0.d_.length q, S s p0.f_.length t]]) (fun a => [(1, O (U ⟨h, 0, N⟩)), (3, I J a)]) (fun kk => fun a => dX p0 kk a = U r) nofun (fun k1 F a H => ?_) aI (0) (H)) (ss [0] z z) (c z)
    unfold dX at H
    refine E <| D <| C [.p, .fa 26 0 0 fu] z <| G z (r1 0 0 z nv z) <| C [.lenS 23 123 jN, .p] z <| P <| cI H z ?_ ?_ <;> intro H
    ·refine ai <| R <| E <| an <| E <| D <| C [.fa 26 0 0 fu] z <| G z (r1 0 0 z nv z) <| A z <| d H fun e l H => bu z z z z z jN cf z j l fun l l l m => ?_
     obtain ⟨L, M, T, X, rfl, a0, a1⟩ := bJ l
     refine G z (cT (cs := [vS e.D_, S L e.x_.length M, S T e.F_.length X]) z z cf (bh bor m) z) <| bq H IK (fun _ e f i => pS f e (co z (g a0 f i) (g a1 f i))) z tt2 fun e H => A z <| P <| cI H z ?_ ?_ <;> intro H
     ·exact D <| A z <| nT <| Z H ▸ xw z
     ·refine ai <| R <| D <| A z <| P <| an <| CW.at (dq (fun (e : Int) => Q w [] [b h 26 [S o p0.d_.length q, S s p0.f_.length t]]) (fun e => [(1, O (U ⟨h, 0, N⟩)), (3, I J a), (4, I J e)]) (fun kk => fun e => gd a p0 (dX p0 k1) kk e = U r) nofun (fun h m e H => ?_) aI (0) (H)) (ss [0] z z) (c z)
      unfold gd at H
      refine E <| D <| C [.p, .p, .p] z <| P <| cI H z ?_ ?_ <;> intro H
      ·refine ai <| R <| E <| an <| E <| dP dC (by kernel_rfl) <| C [.fa 26 0 0 fu] z <| G z (r1 0 0 z nv z) <| A z <| d H fun h h H => bu z z z z z jN cf z j h fun h h h l => ?_
       obtain ⟨o, o, o, o, rfl, o, o⟩ := bJ h
       refine C [.fa 123 0 0 kA] z <| G z (aT z z ty9 (bh bor (jO l 0 1))) <| C [.fa 26 0 0 fu] z <| G z (r1 0 0 z nv z) <| A z <| d H fun h h H => bu z z z z z jN cf z j h fun h h h j => ?_
       obtain ⟨l, l, l, l, rfl, l, l⟩ := bJ h
       refine C [.fa 123 0 0 kA] z <| G z (aT z z ty9 (bh bor (jO j 0 1))) <| A z <| cQ <| R <| cI H z ?_ ?_ <;> intro H
       ·exact D <| A z <| nT <| Z H ▸ xw z
       ·exact ai <| bR <| R <| aH <| C [.p, .p, .p] z <| ay <| bU (RW.at (m (J.wrap (e + 1)) (H)) (ss [0] z z) (c z))
      ·exact aU <| aB <| aE <| aA <| bR <| R <| aH <| C [.p, .p, .p] z <| ay <| bU (RW.at (F (J.wrap (a + 1)) (H)) (ss [0] z z) (c z))
    ·exact aU <| aB <| aE <| aA <| R <| D <| A z <| nT <| Z H ▸ xw z
  ·have H := x
   generalize k = a at H key ⊢
   cases a
   ·have H := aN z H
    refine C [.fa 26 1 1 lz] z <| G z (r1 1 0 z mZ z) <| bq H OB (fun _ a f i => uH f a (g a2 f i)) z tt2 fun a H => A z <| A z <| ?_
    obtain rfl := Z H
    exact OW.sub key (c z)
   ·have H := aO z H
    refine C [.p, .p, .p, .p, .p] z ?_
    obtain rfl := Z H
    exact OW.sub key (c z)
 ·have H := v
  generalize (!u) = a at H key ⊢
  cases a
  ·have H := aN z H
   refine C [.fa 26 1 1 lz] z <| G z (r1 1 0 z mZ z) <| C [.lenS 24 9 eo] z <| bq H kO (fun _ a f i => bm f a) z tt2 fun a H => A z <| A z <| ?_
   obtain rfl := Z H
   exact OW.sub key (c z)
  ·have H := aO z H
   refine C [.p, .p, .p, .p, .p, .p] z ?_
   obtain rfl := Z H
   exact OW.sub key (c z)
theorem yM (w) {L p0 r} (H : jf p0 = U r) (HS : Q w L [] w) :
    Calls Tryz.prog 31 #[vS p0] w (fun en w' => ∃ v, en = .returned v ∧ ∃ a f c0 m k l c1 o, v = .tuple #[.agg #[S a f c0, S k l c1], B r.2] ∧ Q w L [W (V (aD) 123) m r.1.d_ [S a f c0], W (V (bC) 9) o r.1.f_ [S k l c1]] w') := by
 unfold jf at H
 refine ar Tryz.func31 z Tryz.ntmps31 z (HS) <| D <| bn z z z z el (fun _ => kp) fun M => A z <| nR <| A z <| d H fun a k H => aq z Iu z z z z (fun f a => kn f k (a.carve [] z z)) fun k f w2 a l => ?_
 obtain ⟨k, k, k, k, rfl, k⟩ := l
 obtain rfl := aL (i := 0) k z
 refine ⟨Q w L [_, _], a.comp [] z z k, fun _ _ => Y, ?_⟩
 refine A z <| P <| E <| D <| C [.p, .lenS 24 9 eo, .p] z <| P <| cI H z ?_ ?_ <;> intro H
 ·exact D <| G z (bv [] [S N 0 0, S N 0 0] z z el Gv z Y z) <| sC 0 [S N 0 0, S N 0 0] [_, _] 0 z el z <| A z <| nT <| aS <| aP (fun _ h => St.pushNil (e := aD) (T := 123) h) <| aP (fun _ h => St.pushNil (e := bC) (T := 9) h) <| Z H ▸ xc 0 el z fun w' hw' => ⟨_, z, N, 0, 0, [], N, 0, 0, [], z, hw'.sel [2, 3] z z⟩
 ·refine ai <| R <| D <| A z <| d H fun k k H => ix1 eo ty9 (fun f a => av (e := V (bC) 9) (r := 1) z f a) k z z <| d H fun l k H => aq z Iu z z z z (fun f a => kn f k (a.carve [] z z)) fun k f w2 a m => ?_
  obtain ⟨o, k, s, a7, rfl, k⟩ := m
  obtain rfl := aL (i := 0) k z
  refine ⟨Q w L [_, _, _], a.comp [] z z k, fun _ _ => Y, ?_⟩
  refine G z (bv [(1, [S o l.length s])] [S N 0 0, S o l.length s] z z el Gv z ⟨z, z, nl z, Y⟩ z) <| bn z z z z el (fun _ => kp) fun a2 => sC 0 [S N 0 0, S o l.length s] [_, _] 3 z el z <| nR <| A z <| d H fun k k H => ix1 eo ty9 (fun f a => av (e := V (bC) 9) (r := 1) z f a) k z z <| d H fun k m H => aq z Iu z z z z (fun f a => kn f m (a.carve [] z z)) fun m f w2 a t => ?_
  obtain ⟨a3, m, a4, a6, rfl, m⟩ := t
  obtain rfl := aL (i := 0) m z
  refine ⟨Q w L [_, _, _, _, _], a.comp [] z z m, fun _ _ => Y, ?_⟩
  refine A z <| P <| E <| D <| A z <| P <| an <| CW.weak ?_ (fun _ h => St.pushNil (e := aD) (T := 123) h)
  refine CW.at (lq (fun (m : List ap) (t : Option Addr) (u : Nat) (X : List Nat) (F : Int) => Q w L [b M 26 [S N 0 0, S N 0 0], b a2 26 [S t m.length u, S o l.length s], W (V (aD) 123) X m [S t m.length u], W (V (bC) 9) a7 l [S o l.length s], W (V (bC) 9) a6 k [S a3 k.length a4]]) (fun m t u X F => [(2, O (U ⟨M, 0, N⟩)), (5, O (U ⟨a2, 0, N⟩)), (6, S a3 k.length a4), (7, I J F)]) (fun kk => fun m t u X F => cL k l kk m F = U r) nofun (fun k a8 m t u X F H => ?_) aI (([] : List ap)) (N) (0) ([]) (0) (H)) (ss [0, 3, 5, 2, 4] z z) (c z)
  unfold cL at H
  refine E <| D <| C [.p, .p, .lenS 24 9 eo, .p] z <| P <| cI H z ?_ ?_ <;> intro H
  ·refine ai <| R <| E <| an <| D <| oPP z <| d H fun k k H => ix1 eo ty9 (fun f a => av (e := V (bC) 9) (r := 4) z f a) k z z <| d H fun k M H => aq z SL z z z z (fun f a => Cc f M (a.carve [] z z)) fun M f w2 a a6 => ?_
   obtain ⟨a2, M, a3, M, a4, M, a5, M, rfl, M⟩ := a6
   obtain rfl := aL (i := 0) M z
   obtain rfl := aL (i := 1) M z
   refine ⟨Q w L [_, _, _, _, _, _, _], a.comp [] z z M, fun _ _ => Y, ?_⟩
   refine C [.p, .p, .p] z <| bn z z z z cf (fun _ => kp) fun M => sC 0 [vS k.1.D_, S a2 k.1.x_.length a3, S a4 k.1.F_.length a5] [_, _, _] 7 z cf z <| A z <| P <| E <| D <| oPP z <| P <| cI H z ?_ ?_ <;> intro H
   ·exact D <| G z (bv [] [S N 0 0, S N 0 0] z z el Gv z Y z) <| sC 0 [S N 0 0, S N 0 0] [_, _] 0 z el z <| A z <| nT <| aS <| cR <| aS <| lU <| cR <| aS <| aP (fun _ h => St.pushNil (e := aD) (T := 123) h) <| aP (fun _ h => St.pushNil (e := bC) (T := 9) h) <| Z H ▸ xc 0 el z fun w' hw' => ⟨_, z, N, 0, 0, [], N, 0, 0, [], z, hw'.sel [8, 9] z z⟩
   ·refine ai <| R <| aH <| C [.fa 26 0 0 fu] z <| G z (r1 0 1 z nv z) <| G z (rx 0 7 _ z cf z) <| Eo z (fun f a => rR (x0 := k.1.D_) [5, 6] a z z) fun M => jM (C' := Q w L [_, _, _, _, _, _, _, _, _]) z (fun _ h => h) <| gZ [(0, [vS k.1.D_, S a2 k.1.x_.length a3, S a4 k.1.F_.length a5])] z z z z z jN cf z z ⟨z, z, nl z, Y⟩ [vS k.1.D_, S a2 k.1.x_.length a3, S a4 k.1.F_.length a5] z (fun _ => kp) fun k => jM z (fun _ h => CL (p := 9) (q := 8) h z z z) <| d H fun k M H => pF (r := 2) (j := 10) z z z z z z jN cf z z z z z z z M (fun _ _ _ => kp) fun M a2 a3 => C [.fa 26 0 0 fu] z <| sC 0 [S M k.length a2] [_, _] 1 z nv z <| ay <| bR <| R <| CW.weak (C' := Q w L [_, _, _, _, _, _]) ?_ (ss [0, 1, 3, 4, 7, 11] z z)
    exact aH <| C [.p, .p, .p] z <| ay <| bU (RW.at (a8 (k) (M) (a2) (a3) (J.wrap (F + 1)) (H)) (ss [0, 1, 5, 2, 3] z z) (c z))
  ·refine aU <| aB <| aE <| aA <| R <| E <| D <| G z (rx 0 1 _ z el z) <| bq H Iy (fun _ k f a => gY f k (aw (x := (aj.mk m l)) (c0 := [S t m.length u]) (c1 := [S o l.length s]) (av (e := V (aD) 123) (r := 2) z f a) (av (e := V (bC) 9) (r := 3) z f a))) z tt2 fun a H => A z <| P <| cI H z ?_ ?_ <;> intro H
   ·exact D <| G z (bv [] [S N 0 0, S N 0 0] z z el Gv z Y z) <| sC 0 [S N 0 0, S N 0 0] [_, _] 0 z el z <| A z <| nT <| aS <| aP (fun _ h => St.pushNil (e := aD) (T := 123) h) <| aP (fun _ h => St.pushNil (e := bC) (T := 9) h) <| Z H ▸ xc 0 el z fun w' hw' => ⟨_, z, N, 0, 0, [], N, 0, 0, [], z, hw'.sel [5, 6] z z⟩
   ·exact ai <| R <| D <| G z (rx 0 1 _ z el z) <| sC 0 [S t m.length u, S o l.length s] [_, _] 0 z el z <| A z <| nT <| Z H ▸ xc 0 el z fun w' hw' => ⟨_, z, t, m.length, u, X, o, l.length, s, a7, z, hw'.sel [2, 3] z z⟩
theorem iC (w) {p0 p1 a e f r} (H : da p0 p1 = U r) (i : (V e8 5).rd w [] p0 [S a e f]) :
    Calls Tryz.prog 36 #[S a e f, I J p1] w (fun en w' => en = .returned (.tuple #[I J r.1, I J r.2.1, B r.2.2]) ∧ Ext [] w w') := by
 obtain rfl := dc i
 unfold da at H
 refine ar Tryz.func36 z Tryz.ntmps36 z (St.init w []) <| D <| C [.p, .p, .p] z <| nR <| oPP z <| bq H QF (fun _ a f h => uS f a (g i f h)) z tt2 fun e H => C [.p, .p, .p, .p, .p, .p, .p] z <| P <| E <| D <| oPP z <| P <| cI H z ?_ ?_ <;> intro H
 ·exact D <| C [.p, .p, .p] z <| nT <| Z H ▸ xw z
 ·refine ai <| R <| D <| C [.p, .p, .p] z <| P <| yB (fun (a : Int) => Q w [] []) (fun a => [(8, I J e.2.1), (10, I J a)]) (fun a => jG e a = U r) (fun a H => ?_) (fun a => ?_)
  ·unfold jG at H
   refine E <| D <| A z <| bq H kO (fun _ i f h => bm f i) z tt2 fun f H => A z <| P <| cI H z ?_ ?_ <;> intro H
   ·exact D <| C [.p, .p, .p] z <| nT <| Z H ▸ xw z
   ·exact ai <| R <| D <| C [.p, .p, .p, .p, .p] z <| nT <| Z H ▸ xw z
  ·refine D <| C [.p, .p, .p] z <| P <| cI H z ?_ ?_ <;> intro H
   ·exact aH <| C [.p, .p, .p, .p, .p] z <| ay <| XW.at (a (J.wrap ((J.wrap (0 - (J.wrap (Int.tdiv e.1 2)))) - 1)) (H)) (ss [] z z) (c z)
   ·exact ai <| XW.at (a (J.wrap (Int.tdiv e.1 2)) (H)) (ss [] z z) (c z)
theorem lS (w) {q p0 p1 s m a o r} (H : dB p0 p1 s = U r) (HS : Q w q [] w) (u : (V e8 5).rd w q p0 [S m a o]) :
    Calls Tryz.prog 32 #[S m a o, I J p1, I J s] w (fun en w' => ∃ v, en = .returned v ∧ ∃ a f c0 h, v = .tuple #[S a f c0, I J r.2.1, B r.2.2] ∧ Q w q [W (V eI 3) h r.1 [S a f c0]] w') := by
 obtain rfl := dc u
 unfold dB at H
 refine ar Tryz.func32 z Tryz.ntmps32 z (HS) <| D <| C [.p, .p, .p] z <| nR <| eS (e := eI) z z z z bB ty3 (fun _ => kp) fun t => A z <| P <| E <| D <| A z <| P <| an <| CW.at (oD (fun (k : Int) (h : Int) (a : List Int) (f : Option Addr) (j : Nat) (l : List Nat) => Q w q [W (V eI 3) l a [S f a.length j]]) (fun k h a f j l => [(0, S m p0.length o), (1, I J k), (2, I J s), (9, S f a.length j), (10, I J h)]) (fun kk => fun k h a f j l => f.isNone = n ∧ lI s p0 kk k h a = U r) (fun _ _ _ _ _ _ H => nomatch H.2) (fun m q k h a f j l ⟨k, H⟩ => ?_) aI (p1) (0) (([] : List Int)) ((U ⟨t, 0, N⟩)) (0) ([t]) (⟨z, H⟩)) (ss [0] z z) (c z)
 unfold lI at H
 refine E <| D <| C [.p, .p, .p] z <| P <| cI H z ?_ ?_ <;> intro H
 ·refine ai <| R <| E <| an <| D <| oPP z <| bq H FZ (fun _ k s m => iC s k (g u s m)) z tt2 fun k H => C [.p, .p, .p, .p, .p, .p, .p] z <| P <| E <| D <| oPP z <| P <| cI H z ?_ ?_ <;> intro H
  ·exact D <| eS (e := eI) z z z z bB ty3 (fun _ => kp) fun o => C [.p, .p, .p] z <| nT <| aS <| cR <| aS <| lU <| cR <| aS <| Z H ▸ xo z fun w' hw' => ⟨_, z, (U ⟨o, 0, N⟩), 0, 0, [o], z, hw'.sel [1] z z⟩
  ·exact ai <| R <| D <| oPP z <| cF (val := I J) (h1 := fun _ => z) [k.1] [(0, [I J k.1])] z z z z z bB ty3 z z z ⟨z, z, nl z, Y⟩ z z (fun _ => kp) fun o => d H fun t o H => cq (r := 0) (ys := ([k.1] : List Int)) z z z z z z bB ty3 z z z (av (e := V eI 3) (r := 1) z) o (fun _ _ _ => kp) fun u x F => eF z (fun s m => kK (i := 0) m z (kC o)) fun m => A z <| P <| aH <| oPP z <| ay <| bR <| R <| aH <| C [.p, .p, .p] z <| ay <| bU (RW.at (q (k.2.1) (J.wrap (h + 1)) (t) (u) (x) (F) (⟨m, H⟩)) (ss [0] z z) (c z))
 ·exact aU <| aB <| aE <| aA <| R <| D <| C [.p, .p, .p, .p, .p] z <| nT <| Z H ▸ xo z fun w' hw' => ⟨_, z, f, a.length, j, l, z, hw'.sel [0] z z⟩
theorem vA (w) {p0 r} (H : oV p0 = U r) :
    Calls Tryz.prog 82 #[.agg #[I J p0.L_, I J p0.N_, I J p0.M_, I J p0.h_, I J p0.e_, I J p0.E_, B p0.Q_]] w (fun en w' => en = .returned (B r) ∧ Ext [] w w') := by
 unfold oV at H
 refine ar Tryz.func82 z Tryz.ntmps82 z (St.init w []) <| D <| ob _ z fun e => A z <| nR <| C [.fa 28 0 0 xi] z <| G z (r1 0 0 z ty3 z) <| bq H kO (fun _ h a f => bm a h) z tt2 fun l H => A z <| d H fun h m H => cu2 [(1, O (U ⟨e, 0, N⟩)), (2, B n)] [(6, B l)] 4 (10, B h) z ?_ fun key => ?_
 ·refine A z <| d H fun i o H => cu2 [(1, O (U ⟨e, 0, N⟩)), (2, B n)] [(11, B h)] 4 (15, B i) z ?_ fun key => ?_
  ·refine A z <| d H fun j q H => cu2 [(1, O (U ⟨e, 0, N⟩)), (2, B n)] [(16, B i)] 4 (20, B j) z ?_ fun key => ?_
   ·refine A z <| d H fun k s H => cu2 [(1, O (U ⟨e, 0, N⟩)), (2, B n)] [(21, B j)] 4 (25, B k) z ?_ fun key => ?_
    ·refine A z <| d H fun u t H => cu2 [(2, B n)] [(1, O (U ⟨e, 0, N⟩)), (26, B k)] 4 (30, B u) z ?_ fun key => ?_
     ·exact A z <| nT <| Z H ▸ xw z
     ·have H := t
      generalize k = e at H key ⊢
      cases e
      ·have H := aN z H
       refine C [.p, .p, .p, .p] z ?_
       obtain rfl := Z H
       exact OW.sub key (c z)
      ·have H := aO z H
       refine C [.fa 28 5 5 ul] z <| G z (r1 5 0 z ty3 z) <| bq H kO (fun _ e a f => bm a e) z tt2 fun e H => A z <| ?_
       obtain rfl := Z H
       exact OW.sub key (c z)
    ·have H := s
     generalize j = e at H key ⊢
     cases e
     ·have H := aN z H
      refine C [.p, .p, .p, .p] z ?_
      obtain rfl := Z H
      exact OW.sub key (c z)
     ·have H := aO z H
      refine C [.fa 28 4 4 ut] z <| G z (r1 4 0 z ty3 z) <| bq H kO (fun _ e a f => bm a e) z tt2 fun e H => A z <| ?_
      obtain rfl := Z H
      exact OW.sub key (c z)
   ·have H := q
    generalize i = e at H key ⊢
    cases e
    ·have H := aN z H
     refine C [.p, .p, .p, .p] z ?_
     obtain rfl := Z H
     exact OW.sub key (c z)
    ·have H := aO z H
     refine C [.fa 28 3 3 un] z <| G z (r1 3 0 z ty3 z) <| bq H kO (fun _ e a f => bm a e) z tt2 fun e H => A z <| ?_
     obtain rfl := Z H
     exact OW.sub key (c z)
  ·have H := o
   generalize h = e at H key ⊢
   cases e
   ·have H := aN z H
    refine C [.p, .p, .p, .p] z ?_
    obtain rfl := Z H
    exact OW.sub key (c z)
   ·have H := aO z H
    refine C [.fa 28 2 2 wC] z <| G z (r1 2 0 z ty3 z) <| bq H kO (fun _ e a f => bm a e) z tt2 fun e H => A z <| ?_
    obtain rfl := Z H
    exact OW.sub key (c z)
 ·have H := m
  generalize l = e at H key ⊢
  cases e
  ·have H := aN z H
   refine C [.p, .p, .p, .p] z ?_
   obtain rfl := Z H
   exact OW.sub key (c z)
  ·have H := aO z H
   refine C [.fa 28 1 1 wX] z <| G z (r1 1 0 z ty3 z) <| bq H kO (fun _ e a f => bm a e) z tt2 fun a H => A z <| ?_
   obtain rfl := Z H
   exact OW.sub key (c z)
theorem wz (w) {a p0 r} (H : mc p0 = U r) (HS : Q w a [] w) :
    Calls Tryz.prog 83 #[I J p0] w (fun en w' => ∃ v, en = .returned v ∧ ∃ f h c0 i, v = S f h c0 ∧ Q w a [W (V eI 3) i r [S f h c0]] w') := by
 unfold mc at H
 refine ar Tryz.func83 z Tryz.ntmps83 z (HS) <| D <| A z <| P <| E <| D <| A z <| P <| an <| D <| oPP z <| P <| cI H z ?_ ?_ <;> intro H
 ·exact D <| cF (val := I J) (h1 := fun _ => z) [24109, 48218, 60273, 64291, 65296, 65497, 65530] [(0, [I J 24109]), (1, [I J 48218]), (2, [I J 60273]), (3, [I J 64291]), (4, [I J 65296]), (5, [I J 65497]), (6, [I J 65530])] z z z z z bB ty3 z z z ⟨z, z, nl z, z, z, nl z, z, z, nl z, z, z, nl z, z, z, nl z, z, z, nl z, z, z, nl z, Y⟩ z z (fun _ => kp) fun a => A z <| nT <| cR <| aS <| Z H ▸ xo z fun w' hw' => ⟨_, z, (U ⟨a, 0, N⟩), (([24109, 48218, 60273, 64291, 65296, 65497, 65530] : List Int).length), 7, [a], z, hw'.sel [0] z z⟩
 ·refine D <| oPP z <| P <| cI H z ?_ ?_ <;> intro H
  ·exact D <| cF (val := I J) (h1 := fun _ => z) [162, 1137, 4061, 9909, 18681, 29208, 39734] [(0, [I J 162]), (1, [I J 1137]), (2, [I J 4061]), (3, [I J 9909]), (4, [I J 18681]), (5, [I J 29208]), (6, [I J 39734])] z z z z z bB ty3 z z z ⟨z, z, nl z, z, z, nl z, z, z, nl z, z, z, nl z, z, z, nl z, z, z, nl z, z, z, nl z, Y⟩ z z (fun _ => kp) fun a => A z <| nT <| cR <| aS <| Z H ▸ xo z fun w' hw' => ⟨_, z, (U ⟨a, 0, N⟩), (([162, 1137, 4061, 9909, 18681, 29208, 39734] : List Int).length), 7, [a], z, hw'.sel [0] z z⟩
  ·exact ai <| bR <| R <| D <| eS (e := eI) z z z z bB ty3 (fun _ => kp) fun a => A z <| nT <| Z H ▸ xo z fun w' hw' => ⟨_, z, (U ⟨a, 0, N⟩), 0, 0, [a], z, hw'.sel [0] z z⟩
theorem sj (w) {p0 a r} (H : jX p0 = U r) (e : (dA).rd w [] p0 a) :
    Calls Tryz.prog 33 #[.agg a.toArray] w (fun en w' => en = .returned (B r) ∧ Ext [] w w') := by
 obtain ⟨a, a, a, a, rfl, h, j⟩ := dV e
 unfold jX at H
 refine ar Tryz.func33 z Tryz.ntmps33 z (St.init w []) <| D <| ob _ z fun f => A z <| nR <| C [.fa 30 0 0 mr] z <| G z (rx 0 0 _ z el z) <| bq H Iy (fun _ k e a => gY e k (aw (g h e a) (g j e a))) z tt2 fun q H => A z <| d H fun j s H => cu2 [(1, O (U ⟨f, 0, N⟩)), (2, B n)] [(6, B q)] 4 (10, B j) z ?_ fun key => ?_
 ·refine A z <| d H fun k t H => cu2 [(1, O (U ⟨f, 0, N⟩)), (2, B n)] [(11, B j)] 4 (15, B k) z ?_ fun key => ?_
  ·refine A z <| d H fun l u H => cu2 [(1, O (U ⟨f, 0, N⟩)), (2, B n)] [(16, B k)] 8 (24, B l) z ?_ fun key => ?_
   ·refine A z <| d H fun m v H => cu2 [(1, O (U ⟨f, 0, N⟩)), (2, B n)] [(25, B l)] 6 (31, B m) z ?_ fun key => ?_
    ·refine A z <| d H fun o x H => cu2 [(1, O (U ⟨f, 0, N⟩)), (2, B n)] [(32, B m)] 4 (36, B o) z ?_ fun key => ?_
     ·refine A z <| d H fun h F H => cu2 [(1, O (U ⟨f, 0, N⟩)), (2, B n)] [(37, B o)] 4 (41, B h) z ?_ fun key => ?_
      ·refine A z <| cu2 [(2, B n)] [(1, O (U ⟨f, 0, N⟩)), (42, B h)] 6 (48, B (h && (decide (p0.r_ ≤ p0.s_)))) z ?_ fun key => ?_
       ·exact A z <| nT <| Z H ▸ xw z
       ·generalize h = f at key ⊢
        cases f
        ·exact C [.p, .p, .p, .p, .p, .p] z <| OW.sub key (c z)
        ·exact C [.fa 30 5 12 ua] z <| G z (r1 12 0 z ty3 z) <| C [.fa 30 6 13 us] z <| G z (r1 13 0 z ty3 z) <| A z <| A z <| OW.sub key (c z)
      ·have H := F
       generalize o = f at H key ⊢
       cases f
       ·have H := aN z H
        refine C [.p, .p, .p, .p] z ?_
        obtain rfl := Z H
        exact OW.sub key (c z)
       ·have H := aO z H
        refine C [.fa 30 6 13 us] z <| G z (r1 13 0 z ty3 z) <| bq H kO (fun _ f e a => bm e f) z tt2 fun f H => A z <| ?_
        obtain rfl := Z H
        exact OW.sub key (c z)
     ·have H := x
      generalize m = f at H key ⊢
      cases f
      ·have H := aN z H
       refine C [.p, .p, .p, .p] z ?_
       obtain rfl := Z H
       exact OW.sub key (c z)
      ·have H := aO z H
       refine C [.fa 30 5 12 ua] z <| G z (r1 12 0 z ty3 z) <| bq H kO (fun _ f e a => bm e f) z tt2 fun f H => A z <| ?_
       obtain rfl := Z H
       exact OW.sub key (c z)
    ·have H := v
     generalize l = f at H key ⊢
     cases f
     ·have H := aN z H
      refine C [.p, .p, .p, .p, .p, .p] z ?_
      obtain rfl := Z H
      exact OW.sub key (c z)
     ·have H := aO z H
      refine C [.fa 30 4 11 xh] z <| G z (r1 11 0 z ty3 z) <| d H fun f f H => aq z Sr z z z z (fun e a => wz e f (a.carve [] z z)) fun f e f a h => ?_
      obtain ⟨f, f, f, f, rfl, f⟩ := h
      obtain rfl := aL (i := 0) f z
      refine ⟨Q w [] [_, _], a.comp [] z z f, fun _ _ => Y, ?_⟩
      refine C [.lenS 63 3 bB, .p] z <| jM z (C' := Q w [] [_]) (ss [0] z z) <| A z <| ?_
      obtain rfl := Z H
      exact OW.sub key (c z)
   ·have H := u
    generalize k = f at H key ⊢
    cases f
    ·have H := aN z H
     refine C [.p, .p, .p, .p, .p, .p, .p, .p] z ?_
     obtain rfl := Z H
     exact OW.sub key (c z)
    ·have H := aO z H
     refine C [.fa 30 3 10 wF] z <| G z (r1 10 0 z ty3 z) <| C [.fa 30 0 0 mr, .fa 26 0 0 fu] z <| G z (r1 0 0 z nv z) <| C [.lenS 23 123 jN] z <| bq H kO (fun _ f e a => bm e f) z tt2 fun f H => A z <| ?_
     obtain rfl := Z H
     exact OW.sub key (c z)
  ·have H := t
   generalize j = f at H key ⊢
   cases f
   ·have H := aN z H
    refine C [.p, .p, .p, .p] z ?_
    obtain rfl := Z H
    exact OW.sub key (c z)
   ·have H := aO z H
    refine C [.fa 30 2 9 rV] z <| G z (r1 9 0 z ty3 z) <| bq H kO (fun _ f e a => bm e f) z tt2 fun f H => A z <| ?_
    obtain rfl := Z H
    exact OW.sub key (c z)
 ·have H := s
  generalize q = f at H key ⊢
  cases f
  ·have H := aN z H
   refine C [.p, .p, .p, .p] z ?_
   obtain rfl := Z H
   exact OW.sub key (c z)
  ·have H := aO z H
   refine C [.fa 30 1 2 rK] z <| G z (rx 2 0 _ z uX z) <| bq H RH (fun _ f e a => vA e (p0 := p0.b_) f) z tt2 fun a H => A z <| ?_
   obtain rfl := Z H
   exact OW.sub key (c z)
theorem lQ (w) {u p0 p1 q a s r} (H : iX p0 p1 = U r) (HS : Q w u [] w) (F : (V e8 5).rd w u p0 [S q a s]) :
    Calls Tryz.prog 35 #[S q a s, I J p1] w (fun en w' => ∃ v, en = .returned v ∧ ∃ a f c0 h, v = .tuple #[S a f c0, I J r.2.1, B r.2.2] ∧ Q w u [W (V eI 3) h r.1 [S a f c0]] w') := by
 obtain rfl := dc F
 unfold iX at H
 refine ar Tryz.func35 z Tryz.ntmps35 z (HS) <| D <| C [.p, .p, .p] z <| nR <| oPP z <| bq H FZ (fun _ a t l => iC t a (g F t l)) z tt2 fun a H => C [.p, .p, .p, .p, .p, .p, .p] z <| P <| E <| D <| C [.p, .p, .p] z <| cu2 [(0, S q p0.length s), (7, I J a.1), (8, I J a.2.1)] [(24, B (!a.2.2))] 3 (27, B ((!a.2.2) || (decide (a.1 < 0)))) z ?_ fun key => ?_
 ·refine P <| cI H z ?_ ?_ <;> intro H
  ·exact D <| eS (e := eI) z z z z bB ty3 (fun _ => kp) fun f => C [.p, .p, .p] z <| nT <| aS <| Z H ▸ xo z fun w' hw' => ⟨_, z, (U ⟨f, 0, N⟩), 0, 0, [f], z, hw'.sel [0] z z⟩
  ·refine ai <| R <| D <| eS (e := eI) z z z z bB ty3 (fun _ => kp) fun x => A z <| P <| E <| D <| A z <| P <| an <| CW.at (oD (fun (f : List Int) (h : Option Addr) (j : Nat) (m : List Nat) (k : Int) (o : Int) => Q w u [W (V eI 3) m f [S h f.length j]]) (fun f h j m k o => [(0, S q p0.length s), (7, I J a.1), (8, I J o), (10, S h f.length j), (11, I J k)]) (fun kk => fun f h j m k o => h.isNone = n ∧ lZ a p0 kk f k o = U r) (fun _ _ _ _ _ _ H => nomatch H.2) (fun q s f h j m k o ⟨o, H⟩ => ?_) aI (([] : List Int)) ((U ⟨x, 0, N⟩)) (0) ([x]) (0) (a.2.1) (⟨z, H⟩)) (ss [0] z z) (c z)
   unfold lZ at H
   refine E <| D <| C [.p, .p, .p] z <| P <| cI H z ?_ ?_ <;> intro H
   ·refine ai <| R <| E <| an <| D <| oPP z <| bq H FZ (fun _ o t l => iC t o (g F t l)) z tt2 fun o H => C [.p, .p, .p, .p, .p, .p, .p] z <| P <| E <| D <| oPP z <| P <| cI H z ?_ ?_ <;> intro H
    ·exact D <| eS (e := eI) z z z z bB ty3 (fun _ => kp) fun q => C [.p, .p, .p] z <| nT <| aS <| cR <| aS <| lU <| cR <| aS <| Z H ▸ xo z fun w' hw' => ⟨_, z, (U ⟨q, 0, N⟩), 0, 0, [q], z, hw'.sel [1] z z⟩
    ·exact ai <| R <| D <| oPP z <| cF (val := I J) (h1 := fun _ => z) [o.1] [(0, [I J o.1])] z z z z z bB ty3 z z z ⟨z, z, nl z, Y⟩ z z (fun _ => kp) fun q => d H fun u q H => cq (r := 0) (ys := ([o.1] : List Int)) z z z z z z bB ty3 z z z (av (e := V eI 3) (r := 1) z) q (fun _ _ _ => kp) fun x F L => eF z (fun t l => kK (i := 0) l z (kC q)) fun l => A z <| P <| aH <| oPP z <| ay <| bR <| R <| aH <| C [.p, .p, .p] z <| ay <| bU (RW.at (s (u) (x) (F) (L) (J.wrap (k + 1)) (o.2.1) (⟨l, H⟩)) (ss [0] z z) (c z))
   ·exact aU <| aB <| aE <| aA <| R <| D <| C [.p, .p, .p, .p, .p] z <| nT <| Z H ▸ xo z fun w' hw' => ⟨_, z, h, f.length, j, m, z, hw'.sel [0] z z⟩
 ·generalize (!a.2.2) = a at key ⊢
  cases a
  ·exact oPP z <| A z <| OW.sub key (c z)
  ·exact C [.p, .p, .p] z <| OW.sub key (c z)
theorem rh (w) {F p0 p1 u a x r} (H : jp p0 p1 = U r) (HS : Q w F [] w) (T : (V e8 5).rd w F p0 [S u a x]) :
    Calls Tryz.prog 128 #[S u a x, I J p1] w (fun en w' => ∃ v, en = .returned v ∧ ∃ a f c0 k, v = .tuple #[S a f c0, I J r.2.1, B r.2.2] ∧ Q w F [W (V (V eI 3) 63) k r.1 [S a f c0]] w') := by
 obtain rfl := dc T
 unfold jp at H
 refine ar Tryz.func128 z Tryz.ntmps128 z (HS) <| D <| C [.p, .p, .p] z <| nR <| oPP z <| bq H FZ (fun _ a L k => iC L a (g T L k)) z tt2 fun a H => C [.p, .p, .p, .p, .p, .p, .p] z <| P <| E <| D <| C [.p, .p, .p] z <| cu2 [(0, S u p0.length x), (7, I J a.1), (8, I J a.2.1)] [(24, B (!a.2.2))] 3 (27, B ((!a.2.2) || (decide (a.1 < 0)))) z ?_ fun key => ?_
 ·refine P <| cI H z ?_ ?_ <;> intro H
  ·exact D <| eS (e := V eI 3) z z z z eg bP (fun _ => kp) fun f => C [.p, .p, .p] z <| nT <| aS <| Z H ▸ xo z fun w' hw' => ⟨_, z, (U ⟨f, 0, N⟩), 0, 0, [f], z, hw'.sel [0] z z⟩
  ·refine ai <| R <| D <| eS (e := V eI 3) z z z z eg bP (fun _ => kp) fun M => A z <| P <| E <| D <| A z <| P <| an <| CW.at (oD (fun (f : List (List Int)) (l : Option Addr) (m : Nat) (s : List Nat) (o : Int) (t : Int) => Q w F [W (V (V eI 3) 63) s f [S l f.length m]]) (fun f l m s o t => [(0, S u p0.length x), (7, I J a.1), (8, I J t), (10, S l f.length m), (11, I J o)]) (fun kk => fun f l m s o t => iQ a p0 kk f o t = U r) nofun (fun u X f l m s o t H => ?_) aI (([] : List (List Int))) ((U ⟨M, 0, N⟩)) (0) ([M]) (0) (a.2.1) (H)) (ss [0] z z) (c z)
   unfold iQ at H
   refine E <| D <| C [.p, .p, .p] z <| P <| cI H z ?_ ?_ <;> intro H
   ·refine ai <| R <| E <| an <| D <| oPP z <| d H fun t u H => aq z Me z z z z (fun L k => lQ L u (k.carve [] z z) (g T L k)) fun u L u k M => ?_
    obtain ⟨x, u, L, u, rfl, u⟩ := M
    obtain rfl := aL (i := 0) u z
    refine ⟨Q w F [_, _], k.comp [] z z u, fun _ _ => Y, ?_⟩
    refine C [.p, .p, .p, .p, .p, .p, .p] z <| P <| E <| D <| oPP z <| P <| cI H z ?_ ?_ <;> intro H
    ·exact D <| eS (e := V eI 3) z z z z eg bP (fun _ => kp) fun k => C [.p, .p, .p] z <| nT <| aS <| cR <| aS <| lU <| cR <| aS <| Z H ▸ xo z fun w' hw' => ⟨_, z, (U ⟨k, 0, N⟩), 0, 0, [k], z, hw'.sel [2] z z⟩
    ·refine ai <| R <| D <| oPP z <| gZ [(0, [S x t.1.length L])] z z z z z eg bP z z ⟨z, z, nl z, Y⟩ [S x t.1.length L] z (fun _ => kp) fun k => jM z (fun _ h => CL (p := 2) (q := 1) h z z z) <| d H fun k u H => pF (r := 0) (j := 3) z z z z z z eg bP z z z z z z z u (fun _ _ _ => kp) fun u x L => A z <| P <| CW.weak (C' := Q w F [_]) ?_ (ss [4] z z)
     exact aH <| oPP z <| ay <| bR <| R <| aH <| C [.p, .p, .p] z <| ay <| bU (RW.at (X (k) (u) (x) (L) (J.wrap (o + 1)) (t.2.1) (H)) (ss [0] z z) (c z))
   ·exact aU <| aB <| aE <| aA <| R <| D <| C [.p, .p, .p, .p, .p] z <| nT <| Z H ▸ xo z fun w' hw' => ⟨_, z, l, f.length, m, s, z, hw'.sel [0] z z⟩
 ·generalize (!a.2.2) = a at key ⊢
  cases a
  ·exact oPP z <| A z <| OW.sub key (c z)
  ·exact C [.p, .p, .p] z <| OW.sub key (c z)
theorem wH (w) {l p0 p1 m a o r} (H : mf p0 p1 = U r) (HS : Q w l [] w) (q : (V e8 5).rd w l p0 [S m a o]) :
    Calls Tryz.prog 127 #[S m a o, I J p1] w (fun en w' => ∃ v, en = .returned v ∧ ∃ a f c0 L k s c1 M t u c2 X x F c3 F3, v = .tuple #[.agg #[B r.1.B_, I J r.1.i_.t_, I J r.1.i_.u_, S a f c0, I J r.1.I_, S k s c1, S t u c2, I J r.1.J_, S x F c3, I J r.1.h_, I J r.1.A_, I J r.1.G_], I J r.2.1, B r.2.2] ∧ Q w l [W (V eI 3) L r.1.v_ [S a f c0], W (V eI 3) M r.1.k_.q_ [S k s c1], W (V (V eI 3) 63) X r.1.k_.l_ [S t u c2], W (V eI 3) F3 r.1.d_ [S x F c3]] w') := by
 obtain rfl := dc q
 unfold mf at H
 refine ar Tryz.func127 z Tryz.ntmps127 z (HS) <| D <| bn z z z z bp (fun _ => kp) fun t => oPP z <| nR <| G z (bv [] [B n, I J 0, I J 0, S N 0 0, I J 0, S N 0 0, S N 0 0, I J 0, S N 0 0, I J 0, I J 0, I J 0] z z bp La z Y z) <| bn z z z z bp (fun _ => kp) fun u => sC 0 [B n, I J 0, I J 0, S N 0 0, I J 0, S N 0 0, S N 0 0, I J 0, S N 0 0, I J 0, I J 0, I J 0] [_, _, _, _, _, _, _, _, _, _, _, _] 1 z bp z <| nR <| oPP z <| d H fun k s H => aq z LR z z z z (fun f a => lS f s (a.carve [] z z) (g q f a)) fun s f X a L => ?_
 obtain ⟨x, s, F, M, rfl, s⟩ := L
 obtain rfl := aL (i := 0) s z
 refine ⟨Q w l [_, _, _], a.comp [] z z s, fun _ _ => Y, ?_⟩
 refine C [.p, .p, .p, .p, .p, .p, .p] z <| P <| E <| D <| C [.p, .p, .p] z <| d H fun s b3 H => cu2 [(0, S m p0.length o), (1, I J k.2.1), (4, O (U ⟨t, 0, N⟩)), (7, O (U ⟨u, 0, N⟩)), (8, S x k.1.length F)] [(28, B (!k.2.2))] 6 (34, B s) z ?_ fun key => ?_
 ·refine P <| cI H z ?_ ?_ <;> intro H
  ·exact D <| G z (rx 0 1 _ z bp z) <| sC 0 [B n, I J 0, I J 0, S N 0 0, I J 0, S N 0 0, S N 0 0, I J 0, S N 0 0, I J 0, I J 0, I J 0] [_, _, _, _, _, _, _, _, _, _, _, _] 0 z bp z <| oPP z <| nT <| aS <| aP (fun _ h => St.pushNil (e := eI) (T := 3) h) <| aP (fun _ h => St.pushNil (e := eI) (T := 3) h) <| aP (fun _ h => St.pushNil (e := V eI 3) (T := 63) h) <| aP (fun _ h => St.pushNil (e := eI) (T := 3) h) <| Z H ▸ xc 0 bp z fun w' hw' => ⟨_, z, N, 0, 0, [], N, 0, 0, [], N, 0, 0, [], N, 0, 0, [], z, hw'.sel [3, 4, 5, 6] z z⟩
  ·refine ai <| R <| E <| lu 13 [(0, y), (1, y), (2, y), (3, y), (4, y), (5, y), (6, y), (7, y), (8, y), (9, y), (10, y), (11, y), (12, n)] (Q w l [b t 145 [B n, I J 0, I J 0, S N 0 0, I J 0, S N 0 0, S N 0 0, I J 0, S N 0 0, I J 0, I J 0, I J 0], b u 145 [B n, I J 0, I J 0, S N 0 0, I J 0, S N 0 0, S N 0 0, I J 0, S N 0 0, I J 0, I J 0, I J 0], W (V eI 3) M k.1 [S x k.1.length F]]) dC (by kernel_rfl) (cr dx) (tk 3 z) <| A z <| d H fun M m H => fb (e := eI) (xs := k.1) (j := 0) z z z z z bB ty3 z (av (e := V eI 3) (r := 2) z) m (by rw [Nat.mul_one]) <| ek z (aV z) (aT z z ty3 (mu (av (e := V eI 3) (r := 2) z) m)) <| oPP z <| d H fun m o H => fb (e := eI) (xs := k.1) (j := 1) z z z z z bB ty3 z (av (e := V eI 3) (r := 2) z) o (by rw [Nat.mul_one]) <| ek z (aV z) (aT z z ty3 (mu (av (e := V eI 3) (r := 2) z) o)) <| A z <| d H fun o s H => fb (e := eI) (xs := k.1) (j := 2) z z z z z bB ty3 z (av (e := V eI 3) (r := 2) z) s (by rw [Nat.mul_one]) <| ek z (aV z) (aT z z ty3 (mu (av (e := V eI 3) (r := 2) z) s)) <| ek z (aV z) (bv [(0, [I J m]), (1, [I J o])] [I J m, I J o] z z sO LD z ⟨z, z, nl z, z, z, nl z, Y⟩ z) <| ek z (aV z) (bv [(0, [B (M == 1)]), (1, [I J m, I J o])] [B (M == 1), I J m, I J o, S N 0 0, I J 0, S N 0 0, S N 0 0, I J 0, S N 0 0, I J 0, I J 0, I J 0] z z bp La z ⟨z, z, nl z, z, z, nl z, Y⟩ z) <| bn z z z z bp (fun _ => (tk 3 z)) fun s => jI <| we <| sC 0 [B (M == 1), I J m, I J o, S N 0 0, I J 0, S N 0 0, S N 0 0, I J 0, S N 0 0, I J 0, I J 0, I J 0] [_, _, _, _, _, _, _, _, _, _, _, _] 3 z bp z <| nR <| oPP z <| d H fun a4 s H => aq z Me z z z z (fun f a => lQ f s (a.carve [] z z) (g q f a)) fun s f X a t => ?_
   obtain ⟨a5, s, a6, b5, rfl, s⟩ := t
   obtain rfl := aL (i := 0) s z
   refine ⟨Q w l [_, _, _, _, _], a.comp [] z z s, fun _ _ => Y, ?_⟩
   refine C [.p, .p, .p, .p, .p, .p, .p] z <| P <| E <| D <| oPP z <| P <| cI H z ?_ ?_ <;> intro H
   ·exact D <| G z (rx 0 1 _ z bp z) <| sC 0 [B n, I J 0, I J 0, S N 0 0, I J 0, S N 0 0, S N 0 0, I J 0, S N 0 0, I J 0, I J 0, I J 0] [_, _, _, _, _, _, _, _, _, _, _, _] 0 z bp z <| oPP z <| nT <| aS <| aP (fun _ h => St.pushNil (e := eI) (T := 3) h) <| aP (fun _ h => St.pushNil (e := eI) (T := 3) h) <| aP (fun _ h => St.pushNil (e := V eI 3) (T := 63) h) <| aP (fun _ h => St.pushNil (e := eI) (T := 3) h) <| Z H ▸ xc 0 bp z fun w' hw' => ⟨_, z, N, 0, 0, [], N, 0, 0, [], N, 0, 0, [], N, 0, 0, [], z, hw'.sel [5, 6, 7, 8] z z⟩
   ·refine ai <| R <| D <| oPP z <| bq H FZ (fun _ s f a => iC f s (g q f a)) z tt2 fun b1 H => C [.p, .p, .p, .p, .p, .p, .p] z <| P <| E <| D <| oPP z <| P <| cI H z ?_ ?_ <;> intro H
    ·exact D <| G z (rx 0 1 _ z bp z) <| sC 0 [B n, I J 0, I J 0, S N 0 0, I J 0, S N 0 0, S N 0 0, I J 0, S N 0 0, I J 0, I J 0, I J 0] [_, _, _, _, _, _, _, _, _, _, _, _] 0 z bp z <| oPP z <| nT <| aS <| aP (fun _ h => St.pushNil (e := eI) (T := 3) h) <| aP (fun _ h => St.pushNil (e := eI) (T := 3) h) <| aP (fun _ h => St.pushNil (e := V eI 3) (T := 63) h) <| aP (fun _ h => St.pushNil (e := eI) (T := 3) h) <| Z H ▸ xc 0 bp z fun w' hw' => ⟨_, z, N, 0, 0, [], N, 0, 0, [], N, 0, 0, [], N, 0, 0, [], z, hw'.sel [5, 6, 7, 8] z z⟩
    ·refine ai <| R <| D <| oPP z <| d H fun s t H => aq z Me z z z z (fun f a => lQ f t (a.carve [] z z) (g q f a)) fun t f X a F => ?_
     obtain ⟨t, u, u, b6, rfl, x⟩ := F
     obtain rfl := aL (i := 0) x z
     refine ⟨Q w l [_, _, _, _, _, _], a.comp [] z z x, fun _ _ => Y, ?_⟩
     refine C [.p, .p, .p, .p, .p, .p, .p] z <| P <| E <| D <| oPP z <| P <| cI H z ?_ ?_ <;> intro H
     ·exact D <| G z (rx 0 1 _ z bp z) <| sC 0 [B n, I J 0, I J 0, S N 0 0, I J 0, S N 0 0, S N 0 0, I J 0, S N 0 0, I J 0, I J 0, I J 0] [_, _, _, _, _, _, _, _, _, _, _, _] 0 z bp z <| oPP z <| nT <| aS <| aP (fun _ h => St.pushNil (e := eI) (T := 3) h) <| aP (fun _ h => St.pushNil (e := eI) (T := 3) h) <| aP (fun _ h => St.pushNil (e := V eI 3) (T := 63) h) <| aP (fun _ h => St.pushNil (e := eI) (T := 3) h) <| Z H ▸ xc 0 bp z fun w' hw' => ⟨_, z, N, 0, 0, [], N, 0, 0, [], N, 0, 0, [], N, 0, 0, [], z, hw'.sel [6, 7, 8, 9] z z⟩
     ·refine ai <| R <| D <| oPP z <| d H fun x F H => aq z Ow z z z z (fun f a => rh f F (a.carve [] z z) (g q f a)) fun F f X a a8 => ?_
      obtain ⟨F, L, L, b7, rfl, a7⟩ := a8
      obtain rfl := aL (i := 0) a7 z
      refine ⟨Q w l [_, _, _, _, _, _, _], a.comp [] z z a7, fun _ _ => Y, ?_⟩
      refine C [.p, .p, .p, .p, .p, .p, .p] z <| P <| E <| D <| oPP z <| P <| cI H z ?_ ?_ <;> intro H
      ·exact D <| G z (rx 0 1 _ z bp z) <| sC 0 [B n, I J 0, I J 0, S N 0 0, I J 0, S N 0 0, S N 0 0, I J 0, S N 0 0, I J 0, I J 0, I J 0] [_, _, _, _, _, _, _, _, _, _, _, _] 0 z bp z <| oPP z <| nT <| aS <| aP (fun _ h => St.pushNil (e := eI) (T := 3) h) <| aP (fun _ h => St.pushNil (e := eI) (T := 3) h) <| aP (fun _ h => St.pushNil (e := V eI 3) (T := 63) h) <| aP (fun _ h => St.pushNil (e := eI) (T := 3) h) <| Z H ▸ xc 0 bp z fun w' hw' => ⟨_, z, N, 0, 0, [], N, 0, 0, [], N, 0, 0, [], N, 0, 0, [], z, hw'.sel [7, 8, 9, 10] z z⟩
      ·refine ai <| R <| D <| oPP z <| bq H FZ (fun _ a7 f a => iC f a7 (g q f a)) z tt2 fun b2 H => C [.p, .p, .p, .p, .p, .p, .p] z <| P <| E <| D <| oPP z <| P <| cI H z ?_ ?_ <;> intro H
       ·exact D <| G z (rx 0 1 _ z bp z) <| sC 0 [B n, I J 0, I J 0, S N 0 0, I J 0, S N 0 0, S N 0 0, I J 0, S N 0 0, I J 0, I J 0, I J 0] [_, _, _, _, _, _, _, _, _, _, _, _] 0 z bp z <| oPP z <| nT <| aS <| aP (fun _ h => St.pushNil (e := eI) (T := 3) h) <| aP (fun _ h => St.pushNil (e := eI) (T := 3) h) <| aP (fun _ h => St.pushNil (e := V eI 3) (T := 63) h) <| aP (fun _ h => St.pushNil (e := eI) (T := 3) h) <| Z H ▸ xc 0 bp z fun w' hw' => ⟨_, z, N, 0, 0, [], N, 0, 0, [], N, 0, 0, [], N, 0, 0, [], z, hw'.sel [7, 8, 9, 10] z z⟩
       ·refine ai <| R <| D <| oPP z <| d H fun a7 a8 H => aq z Me z z z z (fun f a => lQ f a8 (a.carve [] z z) (g q f a)) fun a8 f X a b4 => ?_
        obtain ⟨a8, a9, a9, b8, rfl, b0⟩ := b4
        obtain rfl := aL (i := 0) b0 z
        refine ⟨Q w l [_, _, _, _, _, _, _, _], a.comp [] z z b0, fun _ _ => Y, ?_⟩
        refine C [.p, .p, .p, .p, .p, .p, .p] z <| P <| E <| D <| oPP z <| P <| cI H z ?_ ?_ <;> intro H
        ·exact D <| G z (rx 0 1 _ z bp z) <| sC 0 [B n, I J 0, I J 0, S N 0 0, I J 0, S N 0 0, S N 0 0, I J 0, S N 0 0, I J 0, I J 0, I J 0] [_, _, _, _, _, _, _, _, _, _, _, _] 0 z bp z <| oPP z <| nT <| aS <| aP (fun _ h => St.pushNil (e := eI) (T := 3) h) <| aP (fun _ h => St.pushNil (e := eI) (T := 3) h) <| aP (fun _ h => St.pushNil (e := V eI 3) (T := 63) h) <| aP (fun _ h => St.pushNil (e := eI) (T := 3) h) <| Z H ▸ xc 0 bp z fun w' hw' => ⟨_, z, N, 0, 0, [], N, 0, 0, [], N, 0, 0, [], N, 0, 0, [], z, hw'.sel [8, 9, 10, 11] z z⟩
        ·refine ai <| R <| D <| oPP z <| d H fun b0 b0 H => aq z LR z z z z (fun f a => lS f b0 (a.carve [] z z) (g q f a)) fun q f X a X => ?_
         obtain ⟨q, q, q, q, rfl, q⟩ := X
         obtain rfl := aL (i := 0) q z
         refine ⟨Q w l [_, _, _, _, _, _, _, _, _], a.comp [] z z q, fun _ _ => Y, ?_⟩
         refine C [.p, .p, .p, .p, .p, .p, .p] z <| P <| E <| D <| oPP z <| P <| cI H z ?_ ?_ <;> intro H
         ·exact D <| G z (rx 0 1 _ z bp z) <| sC 0 [B n, I J 0, I J 0, S N 0 0, I J 0, S N 0 0, S N 0 0, I J 0, S N 0 0, I J 0, I J 0, I J 0] [_, _, _, _, _, _, _, _, _, _, _, _] 0 z bp z <| oPP z <| nT <| aS <| aP (fun _ h => St.pushNil (e := eI) (T := 3) h) <| aP (fun _ h => St.pushNil (e := eI) (T := 3) h) <| aP (fun _ h => St.pushNil (e := V eI 3) (T := 63) h) <| aP (fun _ h => St.pushNil (e := eI) (T := 3) h) <| Z H ▸ xc 0 bp z fun w' hw' => ⟨_, z, N, 0, 0, [], N, 0, 0, [], N, 0, 0, [], N, 0, 0, [], z, hw'.sel [9, 10, 11, 12] z z⟩
         ·refine ai <| R <| D <| C [.p, .fa 145 2 3 fP] z <| sC 3 [S a5 a4.1.length a6] [_, _, _, _, _, _, _, _, _, _, _, _] 3 z bP z <| nR <| C [.p, .fa 145 3 4 lx] z <| sC 4 [I J b1.1] [_, _, _, _, _, _, _, _, _, _, _, _] 3 z ty3 z <| nR <| oPP z <| G z (bv [(0, [S t s.1.length u]), (1, [S F x.1.length L])] [S t s.1.length u, S F x.1.length L] z z vi RA z ⟨z, z, nl z, z, z, nl z, Y⟩ z) <| C [.fa 145 4 5 ea] z <| sC 5 [S t s.1.length u, S F x.1.length L] [_, _, _, _, _, _, _, _, _, _, _, _] 3 z vi z <| nR <| C [.p, .fa 145 5 7 kw] z <| sC 7 [I J b2.1] [_, _, _, _, _, _, _, _, _, _, _, _] 3 z ty3 z <| P <| E <| CW.weak (C' := Q w l [_, _, _, _, _, _, _, _, _]) ?_ (ss [0, 1, 2, 3, 4, 5, 6, 7, 8] z z)
          refine aH <| C [.p, .fa 145 6 8 mv] z <| sC 8 [S a8 a7.1.length a9] [_, _, _, _, _, _, _, _, _, _, _, _] 3 z bP z <| nR <| A z <| d H fun l q H => ix1 bB ty3 (av (e := V eI 3) (r := 8) z) q z z <| C [.fa 145 7 9 gC] z <| sC 9 [I J l] [_, _, _, _, _, _, _, _, _, _, _, _] 3 z ty3 z <| nR <| A z <| d H fun q X H => ix1 bB ty3 (av (e := V eI 3) (r := 8) z) X z z <| C [.fa 145 8 10 iW] z <| sC 10 [I J q] [_, _, _, _, _, _, _, _, _, _, _, _] 3 z ty3 z <| nR <| A z <| d H fun X b0 H => ix1 bB ty3 (av (e := V eI 3) (r := 8) z) b0 z z <| C [.fa 145 9 11 iY] z <| sC 11 [I J X] [_, _, _, _, _, _, _, _, _, _, _, _] 3 z ty3 z <| nR <| G z (rx 0 3 _ z bp z) <| A z <| sC 0 [B (M == 1), I J m, I J o, S a5 a4.1.length a6, I J b1.1, S t s.1.length u, S F x.1.length L, I J b2.1, S a8 a7.1.length a9, I J l, I J q, I J X] [_, _, _, _, _, _, _, _, _, _, _, _] 0 z bp z <| ?_
          exact oPP z <| nT <| Z H ▸ xc 0 bp z fun w' hw' => ⟨_, z, a5, a4.1.length, a6, b5, t, s.1.length, u, b6, F, x.1.length, L, b7, a8, a7.1.length, a9, b8, z, hw'.sel [4, 5, 6, 7] z z⟩
 ·have H := b3
  generalize (!k.2.2) = k at H key ⊢
  cases k
  ·have H := aN z H
   refine A z <| d H fun k k H => ix1 bB ty3 (av (e := V eI 3) (r := 2) z) k z z <| bq H kO (fun _ k f a => bm f k) z tt2 fun a H => A z <| A z <| ?_
   obtain rfl := Z H
   exact OW.sub key (c z)
  ·have H := aO z H
   refine C [.p, .p, .p, .p, .p, .p] z ?_
   obtain rfl := Z H
   exact OW.sub key (c z)
end Go.Vk
