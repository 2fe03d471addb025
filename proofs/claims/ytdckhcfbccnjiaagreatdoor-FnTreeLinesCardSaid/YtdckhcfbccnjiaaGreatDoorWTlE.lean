/- The code does what the functions of data say. Printed by program. -/
import Derived.Test.YtdckhcfbccnjiaaGreatDoorWTlD
namespace Go.Vk
open Value renaming int → I, slice → S, pointer → O, bool → B
open IntKind renaming i64 → J, u8 → K
open Bool renaming true → y, false → n
open Option renaming some → U, none → N
open Res renaming box → b, own → W
open Go.Proofs Go.RowKit
set_option maxHeartbeats 4000000
set_option maxRecDepth 100000
theorem jY (w : World) {E : List Nat} {p0b : List Int} {p0 : ao} {p1 : ae} {p2 : cA} {p3 : Int} {b_0 : Nat} {a_p0b : Option Addr} {n_p0b c_p0b : Nat} {w7 : List Value} {r : aj × (List bw) × ao} (H : ks p0b p0 p1 p2 p3 = U r) (HS : St w E [b b_0 91 [S a_p0b p0b.length c_p0b, I J p0.i_, I J p0.h_]] w) (g_p0b : (af e8 5).rd w E p0b [S a_p0b n_p0b c_p0b]) (g1 : (aX).rd w E p1 w7) :
    Calls Tryz.prog 96 #[O (U ⟨b_0, 0, N⟩), .agg w7.toArray, .agg #[I J p2.F_, I J p2.G_, I J p2.H_, I J p2.m_, I J p2.a_, I J p2.D_, B p2.E_], I J p3] w (fun en w' => ∃ v, en = .returned v ∧ ∃ (a0 : Option Addr), ∃ (n0 : Nat), ∃ (c0 : Nat), ∃ (F0 : List Nat), ∃ (a1 : Option Addr), ∃ (n1 : Nat), ∃ (c1 : Nat), ∃ (F1 : List Nat), v = .tuple #[.agg #[S a0 n0 c0, I J r.1.j_], S a1 n1 c1] ∧ St w E [W (af (aD) 71) F0 r.1.a_ [S a0 n0 c0], W (af (fD) 33) F1 r.2.1 [S a1 n1 c1], b b_0 91 [S a_p0b n_p0b c_p0b, I J r.2.2.i_, I J r.2.2.h_]] w') := by
 obtain rfl := ee g_p0b
 obtain ⟨K4, K5, rfl, F, G⟩ := aI g1
 obtain ⟨j2, j3, rfl⟩ := am F
 obtain ⟨j4, j5, rfl⟩ := am G
 unfold ks at H
 refine aG Tryz.func96 z Tryz.ntmps96 z (HS) <| sR <| ob _ z fun e1 => ob _ z fun e2 => aC z z z z bv (fun _ => kp) fun e3 => oP z <| nR <| oP z <| o1 z (rx 0 1 _ z bU z) <| bE H fun K6 y1 H => aq z Ca z z z z (fun d a => mf d y1 (a.carve [0] z z) (rdB [0] z z a g_p0b) (ah (rdB [0] z z a F) (rdB [0] z z a G))) fun K7 d L a x2 => ?_
 obtain ⟨K8, K9, L0, L1, rfl, j6⟩ := x2
 obtain rfl := aH (i := 0) j6 z
 refine ⟨St w E [_, _, _, _, _, _], a.comp [0] z z j6, fun _ _ => Y, ?_⟩
 refine oP z <| nR <| o1 z (rx 0 1 _ z bU z) <| oP z <| bE H fun e7 y2 H => aq z Df z z z z (fun d a => rN d y2 (a.carve [] z z) (ah (ab F d a) (ab G d a)) (au (e := af eI 3) (r := 4) z d a)) fun L2 d L a x3 => ?_
 obtain ⟨w8, L3, w9, y3, rfl, j7⟩ := x3
 obtain rfl := aH (i := 0) j7 z
 refine ⟨St w E [_, _, _, _, _, _, _], a.comp [] z z j7, fun _ _ => Y, ?_⟩
 refine aC z z z z bv (fun _ => kp) fun e4 => sC 0 [S w8 e7.a_.length w9, I J e7.j_] [_, _] 7 z bv z <| nR <| bM (e := fD) z z z z yu lI (fun _ => kp) fun x0 => oP z <| nR <| aa [.p, .fa 27 0 0 dq] z <| o1 z (r1 0 1 z iH z) <| aa [.lenS 24 63 iw] z <| bE H fun d8 y4 H => aq z nV z z z z (fun d a => cj d y4 (a.carve [5] z z) (rdB [5] z z a g_p0b)) fun L4 d L a x4 => ?_
 obtain ⟨rfl, x5⟩ := x4
 refine ⟨St w E [_, _, _, _, _, _, _, _, _, _], a.comp [5] z z x5, fun _ _ => Y, ?_⟩
 refine oPP z <| nQ <| ak <| ak <| CW.weak (C' := St w E [_, _, _, _, _, _, _, _]) ?_ (ss [1, 2, 3, 4, 6, 7, 8, 9] z z)
 refine aT <| oP z <| nQ <| aB <| CW.at (Ah (fun (b5 : Int) (b6 : Int) (k : List aR) (t : Option Addr) (u : Nat) (a8 : List Nat) (m : Int) (M : List bw) (R : Option Addr) (X : Nat) (a9 : List Nat) (a5 : Int) => St w E [b b_0 91 [S a_p0b p0b.length c_p0b, I J b5, I J b6], b e4 30 [S t k.length u, I J m], W (af (aD) 71) a8 k [S t k.length u], W (af (fD) 33) a9 M [S R M.length X], b e1 27 [S j2 p1.b_.length j3, S j4 p1.k_.length j5], b e2 130 [I J p2.F_, I J p2.G_, I J p2.H_, I J p2.m_, I J p2.a_, I J p2.D_, B p2.E_], b e3 30 [S N 0 0, I J 0]]) (fun b5 b6 k t u a8 m M R X a9 a5 => [(0, O (U ⟨b_0, 0, N⟩)), (3, I J p3), (5, O (U ⟨e1, 0, N⟩)), (6, O (U ⟨e2, 0, N⟩)), (8, O (U ⟨e3, 0, N⟩)), (11, O (U ⟨e4, 0, N⟩)), (12, S R M.length X), (13, I J (J.wrap (1 + d8.1))), (14, I J a5)]) (fun kk => fun b5 b6 k t u a8 m M R X a9 a5 => dz p3 p0b p1 p2 d8 kk b5 b6 k m M a5 = U r) (fun _ _ _ _ _ _ _ _ _ _ _ _ H => ?_) (fun k1 x6 b5 b6 k t u a8 m M R X a9 a5 H => ?_) bh (d8.2.i_) (d8.2.h_) (e7.a_) (w8) (w9) (y3) (e7.j_) (([] : List bw)) ((U ⟨x0, 0, N⟩)) (0) ([x0]) (0) (H)) (ss [7, 5, 4, 6, 0, 1, 2] z z) (sb z)
 ·unfold dz at H
  exact absurd H (by simp)
 ·unfold dz at H
  refine ak <| sR <| aa [.p, .p, .p] z <| nQ <| cI H z (fun H => ?_) (fun H => ?_)
  ·refine aw <| az <| ak <| aB <| sR <| oP z <| o1 z (rx 0 4 _ z bU z) <| bE H fun f o5 H => aq z CA z z z z (fun d a => oC d o5 (a.carve [0] z z) (rdB [0] z z a g_p0b) (ah (rdB [0] z z a F) (rdB [0] z z a G))) fun y5 d L a j8 => ?_
   obtain ⟨o, y6, s, e9, rfl, e5⟩ := j8
   obtain rfl := aH (i := 0) e5 z
   refine ⟨St w E [_, _, _, _, _, _, _, _, _], a.comp [0] z z e5, fun _ _ => Y, ?_⟩
   refine aC z z z z lI (fun _ => kp) fun d9 => sC 0 [S o f.1.u_.length s, I J f.1.z_] [_, _] 9 z lI z <| nR <| oP z <| bE H fun g o6 H => aq z CI z z z z (fun d a => nG d o6 (a.carve [8] z z) (rdB [8] z z a g_p0b)) fun y7 d L a j9 => ?_
   obtain ⟨A, y8, C, o7, rfl, e6⟩ := j9
   obtain rfl := aH (i := 0) e6 z
   refine ⟨St w E [_, _, _, _, _, _, _, _, _, _, _, _], a.comp [8] z z e6, fun _ _ => Y, ?_⟩
   refine o1 z (bI [(0, [S A g.1.length C])] [S A g.1.length C, I J 0] z z bN AP z ⟨z, z, nl z, Y⟩ z) <| aC z z z z bN (fun _ => kp) fun o8 => sC 0 [S A g.1.length C, I J 0] [_, _] 12 z bN z <| nQ <| wz (fun (a6 : Int) (a7 : Int) (b0 : Nat) (Q : List aR) (a2 : Option Addr) (a3 : Nat) (b1 : List Nat) (a4 : Int) => St w E [b b_0 91 [S a_p0b p0b.length c_p0b, I J a6, I J a7], b e4 30 [S t k.length u, I J m], W (af (aD) 71) a8 k [S t k.length u], W (af (fD) 33) a9 M [S R M.length X], b d9 33 [S o f.1.u_.length s, I J f.1.z_], W (af eI 3) e9 f.1.u_ [S o f.1.u_.length s], b b0 30 [S a2 Q.length a3, I J a4], W (af (aD) 71) b1 Q [S a2 Q.length a3], b e1 27 [S j2 p1.b_.length j3, S j4 p1.k_.length j5], b e2 130 [I J p2.F_, I J p2.G_, I J p2.H_, I J p2.m_, I J p2.a_, I J p2.D_, B p2.E_], b e3 30 [S N 0 0, I J 0]]) (fun a6 a7 b0 Q a2 a3 b1 a4 => [(0, O (U ⟨b_0, 0, N⟩)), (3, I J p3), (5, O (U ⟨e1, 0, N⟩)), (6, O (U ⟨e2, 0, N⟩)), (8, O (U ⟨e3, 0, N⟩)), (11, O (U ⟨e4, 0, N⟩)), (12, S R M.length X), (13, I J (J.wrap (1 + d8.1))), (14, I J a5), (15, O (U ⟨d9, 0, N⟩)), (17, O (U ⟨b0, 0, N⟩))]) (fun a6 a7 b0 Q a2 a3 b1 a4 => jM M f (dz p3 p0b p1 p2 d8 k1) a5 a6 a7 Q a4 = U r) (fun a6 a7 b0 Q a2 a3 b1 a4 H => ?_) (fun Z => ?_)
   ·unfold jM at H
    refine sR <| o1 z (rx 0 6 _ z bv z) <| sC 0 [S a2 Q.length a3, I J a4] [_, _] 1 z bv z <| nQ <| aT <| oP z <| o1 z (rx 0 4 _ z lI z) <| qB z (fun d a => um (x1 := f.1.z_) [5] a z z) fun y9 => eU (C' := St w E [_, _, _, _, _, _, _, _, _, _, _, _]) z (fun _ h => h) <| il [(0, [S o f.1.u_.length s, I J f.1.z_])] z z z z z yu lI z z ⟨z, z, nl z, Y⟩ [S o f.1.u_.length s, I J f.1.z_] z (fun _ => kp) fun z0 => eU z (fun _ h => tz (p := 12) (q := 11) h z z z) <| bE H fun o9 p4 H => mz (r := 3) (j := 13) z z z z z z yu lI z z z z z z z p4 (fun _ _ _ => kp) fun p5 p6 p7 => oP z <| ay <| ca <| az <| CW.weak (C' := St w E [_, _, _, _, _, _, _, _, _, _]) ?_ (ss [0, 1, 2, 4, 6, 7, 8, 9, 10, 14] z z)
    exact aT <| aa [.p, .p, .p] z <| ay <| cQ (RW.at (x6 (a6) (a7) (Q) (a2) (a3) (b1) (a4) (o9) (p5) (p6) (p7) (J.wrap (a5 + 1)) (H)) (ss [0, 1, 5, 9, 6, 7, 8] z z) (sb z))
   ·refine CW.weak (C' := St w E [_, _, _, _, _, _, _, _, _, _, _]) ?_ (ss [1, 2, 3, 4, 5, 6, 7, 9, 10, 11, 12] z z)
    refine bE H fun l P H => bE H fun c D H => om 18 [(0, y), (1, y), (2, y), (3, y), (4, y), (7, y), (8, y)] (Br.alt 5 (Br.pre [] (Br.alt 6 (Br.pre [] (Br.alt 9 (Br.pre [(10, y), (11, y), (12, y), (13, y)] (Br.alt 14 (Br.pre [(15, n), (16, n), (17, n)] Br.done) (Br.pre [(15, n), (14, n), (16, n), (17, n)] Br.done))) (Br.alt 14 (Br.pre [] (Br.alt 9 (Br.pre [(10, y), (11, y), (12, y), (13, y), (15, n), (16, n), (17, n)] Br.done) (Br.pre [(15, n), (9, n), (10, y), (11, y), (12, y), (13, y), (16, n), (17, n)] Br.done))) (Br.pre [(15, n)] (Br.alt 9 (Br.pre [(10, y), (11, y), (12, y), (13, y), (14, n), (16, n), (17, n)] Br.done) (Br.pre [(14, n), (9, n), (10, y), (11, y), (12, y), (13, y), (16, n), (17, n)] Br.done)))))) (Br.alt 14 (Br.pre [] (Br.alt 6 (Br.pre [] (Br.alt 9 (Br.pre [(10, y), (11, y), (12, y), (13, y), (15, n), (16, n), (17, n)] Br.done) (Br.pre [(15, n), (9, n), (10, y), (11, y), (12, y), (13, y), (16, n), (17, n)] Br.done))) (Br.pre [(15, n), (6, n), (9, n), (10, y), (11, y), (12, y), (13, y), (16, n), (17, n)] Br.done))) (Br.pre [(15, n)] (Br.alt 6 (Br.pre [] (Br.alt 9 (Br.pre [(10, y), (11, y), (12, y), (13, y), (14, n), (16, n), (17, n)] Br.done) (Br.pre [(14, n), (9, n), (10, y), (11, y), (12, y), (13, y), (16, n), (17, n)] Br.done))) (Br.pre [(14, n), (6, n), (9, n), (10, y), (11, y), (12, y), (13, y), (16, n), (17, n)] Br.done)))))) (Br.alt 14 (Br.pre [] (Br.alt 5 (Br.pre [] (Br.alt 6 (Br.pre [] (Br.alt 9 (Br.pre [(10, y), (11, y), (12, y), (13, y), (15, n), (16, n), (17, n)] Br.done) (Br.pre [(15, n), (9, n), (10, y), (11, y), (12, y), (13, y), (16, n), (17, n)] Br.done))) (Br.pre [(15, n), (6, n), (9, n), (10, y), (11, y), (12, y), (13, y), (16, n), (17, n)] Br.done))) (Br.pre [(15, n), (5, n), (6, n), (9, n), (10, y), (11, y), (12, y), (13, y), (16, n), (17, n)] Br.done))) (Br.pre [(15, n)] (Br.alt 5 (Br.pre [] (Br.alt 6 (Br.pre [] (Br.alt 9 (Br.pre [(10, y), (11, y), (12, y), (13, y), (14, n), (16, n), (17, n)] Br.done) (Br.pre [(14, n), (9, n), (10, y), (11, y), (12, y), (13, y), (16, n), (17, n)] Br.done))) (Br.pre [(14, n), (6, n), (9, n), (10, y), (11, y), (12, y), (13, y), (16, n), (17, n)] Br.done))) (Br.pre [(14, n), (5, n), (6, n), (9, n), (10, y), (11, y), (12, y), (13, y), (16, n), (17, n)] Br.done))))) (St w E [b e4 30 [S t k.length u, I J m], W (af (aD) 71) a8 k [S t k.length u], W (af (fD) 33) a9 M [S R M.length X], b e1 27 [S j2 p1.b_.length j3, S j4 p1.k_.length j5], b e2 130 [I J p2.F_, I J p2.G_, I J p2.H_, I J p2.m_, I J p2.a_, I J p2.D_, B p2.E_], b e3 30 [S N 0 0, I J 0], W (af eI 3) e9 f.1.u_ [S o f.1.u_.length s], b d9 33 [S o f.1.u_.length s, I J f.1.z_], W (af e8 5) o7 g.1 [S A g.1.length C], Res.nil, b o8 152 [S A g.1.length C, I J 0]]) bT (by kernel_rfl) (aV (bF (aV (fe (bF (aV be)))))) (sm [y, y, y, y, y, y, y, y, y, n, y] z) <| br z (ax z) (rx 0 3 _ z bU z) <| br z (ax z) (rx 0 4 _ z mY z) <| br z (ax z) (rx 0 0 _ z bv z) <| br z (ax z) (rx 0 7 _ z lI z) <| oP z <| br z (ax z) (rx 0 10 _ z bN z) <| oP z <| aJ <| ei (sm [y, y, y, y, y, y, y, y, y, n, y] z) z ?_ ?_
    ·refine bA (val := I J) (h1 := fun _ => z) [1, 3, 7, 7] [(0, [I J 1]), (1, [I J 3]), (2, [I J 7]), (3, [I J 7])] z z z z z aO ty3 z z z ⟨z, z, nl z, z, z, nl z, z, z, nl z, z, z, nl z, Y⟩ z z (fun _ => (sm [y, y, y, y, y, y, y, y, y, n, y] z)) fun z1 => aJ <| ei (sm [y, y, y, y, y, y, y, y, y, n, y] z) z ?_ ?_
     ·refine aq z jk z z z z (fun d a => aW d P (a.carve [9] z z) (rdB [9] z z a g_p0b) (rdO 11 [9] z a z z)) (fun z2 d L a k0 => ?_)
      obtain ⟨rfl, k2⟩ := k0
      refine ⟨St w E [_, _, _, _, _, _, _, _, _, _, _, _, _], a.comp [9] z z k2, (sm [y, y, y, y, y, y, y, y, y, n, y] z), ?_⟩
      refine aJ <| ei (sm [y, y, y, y, y, y, y, y, y, n, y] z) z ?_ ?_
      ·refine aq z lv z z z z (fun d a => bV d (p1 := p2) D (a.carve [] z z) (ah (ab F d a) (ab G d a)) (aU (x := (aj.mk k m)) (c0 := [S t k.length u]) (c1 := [I J m]) (au (e := af (aD) 71) (r := 1) z d a) z) (bX (x := f.1) (c0 := [S o f.1.u_.length s]) (c1 := [I J f.1.z_]) (au (e := af eI 3) (r := 6) z d a) z) (bm (x := (bd.mk g.1 0)) (c0 := [S A g.1.length C]) (c1 := [I J 0]) (au (e := af e8 5) (r := 8) z d a) z)) (fun z3 d L a k3 => ?_)
       obtain ⟨b2, z4, b3, f0, f1, z5, f2, z6, rfl, b7⟩ := k3
       obtain rfl := aH (i := 0) b7 z
       obtain rfl := aH (i := 1) b7 z
       refine ⟨St w E [_, _, _, _, _, _, _, _, _, _, _, _, _, _, _], a.comp [] z z b7, (sm [y, y, y, y, y, y, y, y, y, n, y] z), ?_⟩
       refine aa [.p, .p, .p, .p] z <| aJ <| ei (sm [y, y, y, y, y, y, y, y, y, n, y] z) z ?_ ?_
       ·exact aC z z z z bv (fun _ => (sm [y, y, y, y, y, y, y, y, y, n, y] z)) fun p8 => aC z z z z bN (fun _ => (sm [y, y, y, y, y, y, y, y, y, n, y] z)) fun z7 => bo (off := 0) [S b2 c.1.a_.length b3, I J c.1.j_] [_, _] (i := 15) z z z z z z bv z z (al z) z z z (sm [y, y, y, y, y, y, y, y, y, n, y] z) <| bo (off := 0) [S f1 c.2.1.q_.length f2, I J c.2.1.c_] [_, _] (i := 16) z z z z z z bN z z (al z) z z z (sm [y, y, y, y, y, y, y, y, y, n, y] z) <| aJ <| cK <| oP z <| ay <| XW.at (Z (l.2.i_) (l.2.h_) (p8) (c.1.a_) (b2) (b3) (f0) (c.1.j_) (H)) (ss [12, 0, 1, 2, 7, 6, 15, 13, 3, 4, 5] z z) (sb z)
       exact dB (sm [y, y, y, y, y, y, y, y, y, n, y] z) z <| aC z z z z bN (fun _ => (sm [y, y, y, y, y, y, y, y, y, n, y] z)) fun z8 => aC z z z z bv (fun _ => (sm [y, y, y, y, y, y, y, y, y, n, y] z)) fun p9 => bo (off := 0) [S b2 c.1.a_.length b3, I J c.1.j_] [_, _] (i := 16) z z z z z z bv z z (al z) z z z (sm [y, y, y, y, y, y, y, y, y, n, y] z) <| bo (off := 0) [S f1 c.2.1.q_.length f2, I J c.2.1.c_] [_, _] (i := 15) z z z z z z bN z z (al z) z z z (sm [y, y, y, y, y, y, y, y, y, n, y] z) <| aJ <| cK <| oP z <| ay <| XW.at (Z (l.2.i_) (l.2.h_) (p9) (c.1.a_) (b2) (b3) (f0) (c.1.j_) (H)) (ss [12, 0, 1, 2, 7, 6, 16, 13, 3, 4, 5] z z) (sb z)
      refine ei (sm [y, y, y, y, y, y, y, y, y, n, y] z) z ?_ ?_
      ·refine aC z z z z bv (fun _ => (sm [y, y, y, y, y, y, y, y, y, n, y] z)) fun f3 => aJ <| ei (sm [y, y, y, y, y, y, y, y, y, n, y] z) z ?_ ?_
       ·refine aq z lv z z z z (fun d a => bV d (p1 := p2) D (a.carve [] z z) (ah (ab F d a) (ab G d a)) (aU (x := (aj.mk k m)) (c0 := [S t k.length u]) (c1 := [I J m]) (au (e := af (aD) 71) (r := 1) z d a) z) (bX (x := f.1) (c0 := [S o f.1.u_.length s]) (c1 := [I J f.1.z_]) (au (e := af eI 3) (r := 6) z d a) z) (bm (x := (bd.mk g.1 0)) (c0 := [S A g.1.length C]) (c1 := [I J 0]) (au (e := af e8 5) (r := 8) z d a) z)) (fun z9 d L a k4 => ?_)
        obtain ⟨f4, A0, f5, q0, q2, A1, q3, A2, rfl, b8⟩ := k4
        obtain rfl := aH (i := 0) b8 z
        obtain rfl := aH (i := 1) b8 z
        refine ⟨St w E [_, _, _, _, _, _, _, _, _, _, _, _, _, _, _, _], a.comp [] z z b8, (sm [y, y, y, y, y, y, y, y, y, n, y] z), ?_⟩
        exact aa [.p, .p, .p, .p] z <| aC z z z z bN (fun _ => (sm [y, y, y, y, y, y, y, y, y, n, y] z)) fun A3 => bo (off := 0) [S f4 c.1.a_.length f5, I J c.1.j_] [_, _] (i := 13) z z z z z z bv z z (al z) z z z (sm [y, y, y, y, y, y, y, y, y, n, y] z) <| bo (off := 0) [S q2 c.2.1.q_.length q3, I J c.2.1.c_] [_, _] (i := 16) z z z z z z bN z z (al z) z z z (sm [y, y, y, y, y, y, y, y, y, n, y] z) <| aJ <| cK <| oP z <| ay <| XW.at (Z (l.2.i_) (l.2.h_) (f3) (c.1.a_) (f4) (f5) (q0) (c.1.j_) (H)) (ss [12, 0, 1, 2, 7, 6, 13, 14, 3, 4, 5] z z) (sb z)
       refine dB (sm [y, y, y, y, y, y, y, y, y, n, y] z) z <| aC z z z z bN (fun _ => (sm [y, y, y, y, y, y, y, y, y, n, y] z)) fun A4 => aq z lv z z z z (fun d a => bV d (p1 := p2) D (a.carve [] z z) (ah (ab F d a) (ab G d a)) (aU (x := (aj.mk k m)) (c0 := [S t k.length u]) (c1 := [I J m]) (au (e := af (aD) 71) (r := 1) z d a) z) (bX (x := f.1) (c0 := [S o f.1.u_.length s]) (c1 := [I J f.1.z_]) (au (e := af eI 3) (r := 6) z d a) z) (bm (x := (bd.mk g.1 0)) (c0 := [S A g.1.length C]) (c1 := [I J 0]) (au (e := af e8 5) (r := 8) z d a) z)) fun A5 d L a k5 => ?_
       obtain ⟨f6, A6, f7, q4, q5, A7, q6, A8, rfl, b9⟩ := k5
       obtain rfl := aH (i := 0) b9 z
       obtain rfl := aH (i := 1) b9 z
       refine ⟨St w E [_, _, _, _, _, _, _, _, _, _, _, _, _, _, _, _, _], a.comp [] z z b9, (sm [y, y, y, y, y, y, y, y, y, n, y] z), ?_⟩
       exact aa [.p, .p, .p, .p] z <| bo (off := 0) [S f6 c.1.a_.length f7, I J c.1.j_] [_, _] (i := 13) z z z z z z bv z z (al z) z z z (sm [y, y, y, y, y, y, y, y, y, n, y] z) <| bo (off := 0) [S q5 c.2.1.q_.length q6, I J c.2.1.c_] [_, _] (i := 14) z z z z z z bN z z (al z) z z z (sm [y, y, y, y, y, y, y, y, y, n, y] z) <| aJ <| cK <| oP z <| ay <| XW.at (Z (l.2.i_) (l.2.h_) (f3) (c.1.a_) (f6) (f7) (q4) (c.1.j_) (H)) (ss [12, 0, 1, 2, 7, 6, 13, 15, 3, 4, 5] z z) (sb z)
      refine dB (sm [y, y, y, y, y, y, y, y, y, n, y] z) z <| aC z z z z bN (fun _ => (sm [y, y, y, y, y, y, y, y, y, n, y] z)) fun A9 => aJ <| ei (sm [y, y, y, y, y, y, y, y, y, n, y] z) z ?_ ?_
      ·refine aq z lv z z z z (fun d a => bV d (p1 := p2) D (a.carve [] z z) (ah (ab F d a) (ab G d a)) (aU (x := (aj.mk k m)) (c0 := [S t k.length u]) (c1 := [I J m]) (au (e := af (aD) 71) (r := 1) z d a) z) (bX (x := f.1) (c0 := [S o f.1.u_.length s]) (c1 := [I J f.1.z_]) (au (e := af eI 3) (r := 6) z d a) z) (bm (x := (bd.mk g.1 0)) (c0 := [S A g.1.length C]) (c1 := [I J 0]) (au (e := af e8 5) (r := 8) z d a) z)) (fun B0 d L a k6 => ?_)
       obtain ⟨f8, B1, f9, q7, q8, B2, q9, B3, rfl, c2⟩ := k6
       obtain rfl := aH (i := 0) c2 z
       obtain rfl := aH (i := 1) c2 z
       refine ⟨St w E [_, _, _, _, _, _, _, _, _, _, _, _, _, _, _, _], a.comp [] z z c2, (sm [y, y, y, y, y, y, y, y, y, n, y] z), ?_⟩
       exact aa [.p, .p, .p, .p] z <| aC z z z z bv (fun _ => (sm [y, y, y, y, y, y, y, y, y, n, y] z)) fun r0 => bo (off := 0) [S f8 c.1.a_.length f9, I J c.1.j_] [_, _] (i := 16) z z z z z z bv z z (al z) z z z (sm [y, y, y, y, y, y, y, y, y, n, y] z) <| bo (off := 0) [S q8 c.2.1.q_.length q9, I J c.2.1.c_] [_, _] (i := 13) z z z z z z bN z z (al z) z z z (sm [y, y, y, y, y, y, y, y, y, n, y] z) <| aJ <| cK <| oP z <| ay <| XW.at (Z (l.2.i_) (l.2.h_) (r0) (c.1.a_) (f8) (f9) (q7) (c.1.j_) (H)) (ss [12, 0, 1, 2, 7, 6, 16, 14, 3, 4, 5] z z) (sb z)
      refine dB (sm [y, y, y, y, y, y, y, y, y, n, y] z) z <| aC z z z z bv (fun _ => (sm [y, y, y, y, y, y, y, y, y, n, y] z)) fun r2 => aq z lv z z z z (fun d a => bV d (p1 := p2) D (a.carve [] z z) (ah (ab F d a) (ab G d a)) (aU (x := (aj.mk k m)) (c0 := [S t k.length u]) (c1 := [I J m]) (au (e := af (aD) 71) (r := 1) z d a) z) (bX (x := f.1) (c0 := [S o f.1.u_.length s]) (c1 := [I J f.1.z_]) (au (e := af eI 3) (r := 6) z d a) z) (bm (x := (bd.mk g.1 0)) (c0 := [S A g.1.length C]) (c1 := [I J 0]) (au (e := af e8 5) (r := 8) z d a) z)) fun B4 d L a k7 => ?_
      obtain ⟨g0, B5, g2, r3, r4, B6, r5, B7, rfl, c3⟩ := k7
      obtain rfl := aH (i := 0) c3 z
      obtain rfl := aH (i := 1) c3 z
      refine ⟨St w E [_, _, _, _, _, _, _, _, _, _, _, _, _, _, _, _, _], a.comp [] z z c3, (sm [y, y, y, y, y, y, y, y, y, n, y] z), ?_⟩
      exact aa [.p, .p, .p, .p] z <| bo (off := 0) [S g0 c.1.a_.length g2, I J c.1.j_] [_, _] (i := 14) z z z z z z bv z z (al z) z z z (sm [y, y, y, y, y, y, y, y, y, n, y] z) <| bo (off := 0) [S r4 c.2.1.q_.length r5, I J c.2.1.c_] [_, _] (i := 13) z z z z z z bN z z (al z) z z z (sm [y, y, y, y, y, y, y, y, y, n, y] z) <| aJ <| cK <| oP z <| ay <| XW.at (Z (l.2.i_) (l.2.h_) (r2) (c.1.a_) (g0) (g2) (r3) (c.1.j_) (H)) (ss [12, 0, 1, 2, 7, 6, 14, 15, 3, 4, 5] z z) (sb z)
     refine ei (sm [y, y, y, y, y, y, y, y, y, n, y] z) z ?_ ?_
     ·refine aC z z z z bv (fun _ => (sm [y, y, y, y, y, y, y, y, y, n, y] z)) fun e0 => aJ <| ei (sm [y, y, y, y, y, y, y, y, y, n, y] z) z ?_ ?_
      ·refine aq z jk z z z z (fun d a => aW d P (a.carve [9] z z) (rdB [9] z z a g_p0b) (rdO 11 [9] z a z z)) (fun B8 d L a k8 => ?_)
       obtain ⟨rfl, k9⟩ := k8
       refine ⟨St w E [_, _, _, _, _, _, _, _, _, _, _, _, _, _], a.comp [9] z z k9, (sm [y, y, y, y, y, y, y, y, y, n, y] z), ?_⟩
       refine aJ <| ei (sm [y, y, y, y, y, y, y, y, y, n, y] z) z ?_ ?_
       ·refine aq z lv z z z z (fun d a => bV d (p1 := p2) D (a.carve [] z z) (ah (ab F d a) (ab G d a)) (aU (x := (aj.mk k m)) (c0 := [S t k.length u]) (c1 := [I J m]) (au (e := af (aD) 71) (r := 1) z d a) z) (bX (x := f.1) (c0 := [S o f.1.u_.length s]) (c1 := [I J f.1.z_]) (au (e := af eI 3) (r := 6) z d a) z) (bm (x := (bd.mk g.1 0)) (c0 := [S A g.1.length C]) (c1 := [I J 0]) (au (e := af e8 5) (r := 8) z d a) z)) (fun B9 d L a l0 => ?_)
        obtain ⟨g3, C0, g4, r6, r7, C1, r8, C2, rfl, c4⟩ := l0
        obtain rfl := aH (i := 0) c4 z
        obtain rfl := aH (i := 1) c4 z
        refine ⟨St w E [_, _, _, _, _, _, _, _, _, _, _, _, _, _, _, _], a.comp [] z z c4, (sm [y, y, y, y, y, y, y, y, y, n, y] z), ?_⟩
        exact aa [.p, .p, .p, .p] z <| aC z z z z bN (fun _ => (sm [y, y, y, y, y, y, y, y, y, n, y] z)) fun C3 => bo (off := 0) [S g3 c.1.a_.length g4, I J c.1.j_] [_, _] (i := 12) z z z z z z bv z z (al z) z z z (sm [y, y, y, y, y, y, y, y, y, n, y] z) <| bo (off := 0) [S r7 c.2.1.q_.length r8, I J c.2.1.c_] [_, _] (i := 16) z z z z z z bN z z (al z) z z z (sm [y, y, y, y, y, y, y, y, y, n, y] z) <| aJ <| cK <| oP z <| ay <| XW.at (Z (l.2.i_) (l.2.h_) (e0) (c.1.a_) (g3) (g4) (r6) (c.1.j_) (H)) (ss [13, 0, 1, 2, 7, 6, 12, 14, 3, 4, 5] z z) (sb z)
       refine dB (sm [y, y, y, y, y, y, y, y, y, n, y] z) z <| aC z z z z bN (fun _ => (sm [y, y, y, y, y, y, y, y, y, n, y] z)) fun C4 => aq z lv z z z z (fun d a => bV d (p1 := p2) D (a.carve [] z z) (ah (ab F d a) (ab G d a)) (aU (x := (aj.mk k m)) (c0 := [S t k.length u]) (c1 := [I J m]) (au (e := af (aD) 71) (r := 1) z d a) z) (bX (x := f.1) (c0 := [S o f.1.u_.length s]) (c1 := [I J f.1.z_]) (au (e := af eI 3) (r := 6) z d a) z) (bm (x := (bd.mk g.1 0)) (c0 := [S A g.1.length C]) (c1 := [I J 0]) (au (e := af e8 5) (r := 8) z d a) z)) fun C5 d L a l1 => ?_
       obtain ⟨g5, C6, g6, r9, s0, C7, s1, C8, rfl, c5⟩ := l1
       obtain rfl := aH (i := 0) c5 z
       obtain rfl := aH (i := 1) c5 z
       refine ⟨St w E [_, _, _, _, _, _, _, _, _, _, _, _, _, _, _, _, _], a.comp [] z z c5, (sm [y, y, y, y, y, y, y, y, y, n, y] z), ?_⟩
       exact aa [.p, .p, .p, .p] z <| bo (off := 0) [S g5 c.1.a_.length g6, I J c.1.j_] [_, _] (i := 12) z z z z z z bv z z (al z) z z z (sm [y, y, y, y, y, y, y, y, y, n, y] z) <| bo (off := 0) [S s0 c.2.1.q_.length s1, I J c.2.1.c_] [_, _] (i := 14) z z z z z z bN z z (al z) z z z (sm [y, y, y, y, y, y, y, y, y, n, y] z) <| aJ <| cK <| oP z <| ay <| XW.at (Z (l.2.i_) (l.2.h_) (e0) (c.1.a_) (g5) (g6) (r9) (c.1.j_) (H)) (ss [13, 0, 1, 2, 7, 6, 12, 15, 3, 4, 5] z z) (sb z)
      refine dB (sm [y, y, y, y, y, y, y, y, y, n, y] z) z <| aC z z z z bN (fun _ => (sm [y, y, y, y, y, y, y, y, y, n, y] z)) fun C9 => aq z jk z z z z (fun d a => aW d P (a.carve [9] z z) (rdB [9] z z a g_p0b) (rdO 11 [9] z a z z)) fun D0 d L a l2 => ?_
      obtain ⟨rfl, l3⟩ := l2
      refine ⟨St w E [_, _, _, _, _, _, _, _, _, _, _, _, _, _, _], a.comp [9] z z l3, (sm [y, y, y, y, y, y, y, y, y, n, y] z), ?_⟩
      refine aq z lv z z z z (fun d a => bV d (p1 := p2) D (a.carve [] z z) (ah (ab F d a) (ab G d a)) (aU (x := (aj.mk k m)) (c0 := [S t k.length u]) (c1 := [I J m]) (au (e := af (aD) 71) (r := 1) z d a) z) (bX (x := f.1) (c0 := [S o f.1.u_.length s]) (c1 := [I J f.1.z_]) (au (e := af eI 3) (r := 6) z d a) z) (bm (x := (bd.mk g.1 0)) (c0 := [S A g.1.length C]) (c1 := [I J 0]) (au (e := af e8 5) (r := 8) z d a) z)) (fun D1 d L a l4 => ?_)
      obtain ⟨g7, D2, g8, s2, s3, D3, s4, D4, rfl, c6⟩ := l4
      obtain rfl := aH (i := 0) c6 z
      obtain rfl := aH (i := 1) c6 z
      refine ⟨St w E [_, _, _, _, _, _, _, _, _, _, _, _, _, _, _, _, _], a.comp [] z z c6, (sm [y, y, y, y, y, y, y, y, y, n, y] z), ?_⟩
      exact aa [.p, .p, .p, .p] z <| bo (off := 0) [S g7 c.1.a_.length g8, I J c.1.j_] [_, _] (i := 12) z z z z z z bv z z (al z) z z z (sm [y, y, y, y, y, y, y, y, y, n, y] z) <| bo (off := 0) [S s3 c.2.1.q_.length s4, I J c.2.1.c_] [_, _] (i := 13) z z z z z z bN z z (al z) z z z (sm [y, y, y, y, y, y, y, y, y, n, y] z) <| aJ <| cK <| oP z <| ay <| XW.at (Z (l.2.i_) (l.2.h_) (e0) (c.1.a_) (g7) (g8) (s2) (c.1.j_) (H)) (ss [14, 0, 1, 2, 7, 6, 12, 15, 3, 4, 5] z z) (sb z)
     refine dB (sm [y, y, y, y, y, y, y, y, y, n, y] z) z <| aC z z z z bN (fun _ => (sm [y, y, y, y, y, y, y, y, y, n, y] z)) fun D5 => aJ <| ei (sm [y, y, y, y, y, y, y, y, y, n, y] z) z ?_ ?_
     ·refine aq z jk z z z z (fun d a => aW d P (a.carve [9] z z) (rdB [9] z z a g_p0b) (rdO 11 [9] z a z z)) (fun D6 d L a l5 => ?_)
      obtain ⟨rfl, l6⟩ := l5
      refine ⟨St w E [_, _, _, _, _, _, _, _, _, _, _, _, _, _], a.comp [9] z z l6, (sm [y, y, y, y, y, y, y, y, y, n, y] z), ?_⟩
      refine aJ <| ei (sm [y, y, y, y, y, y, y, y, y, n, y] z) z ?_ ?_
      ·refine aq z lv z z z z (fun d a => bV d (p1 := p2) D (a.carve [] z z) (ah (ab F d a) (ab G d a)) (aU (x := (aj.mk k m)) (c0 := [S t k.length u]) (c1 := [I J m]) (au (e := af (aD) 71) (r := 1) z d a) z) (bX (x := f.1) (c0 := [S o f.1.u_.length s]) (c1 := [I J f.1.z_]) (au (e := af eI 3) (r := 6) z d a) z) (bm (x := (bd.mk g.1 0)) (c0 := [S A g.1.length C]) (c1 := [I J 0]) (au (e := af e8 5) (r := 8) z d a) z)) (fun D7 d L a l7 => ?_)
       obtain ⟨g9, D8, h0, s5, s6, D9, s7, E0, rfl, c7⟩ := l7
       obtain rfl := aH (i := 0) c7 z
       obtain rfl := aH (i := 1) c7 z
       refine ⟨St w E [_, _, _, _, _, _, _, _, _, _, _, _, _, _, _, _], a.comp [] z z c7, (sm [y, y, y, y, y, y, y, y, y, n, y] z), ?_⟩
       exact aa [.p, .p, .p, .p] z <| aC z z z z bv (fun _ => (sm [y, y, y, y, y, y, y, y, y, n, y] z)) fun s8 => bo (off := 0) [S g9 c.1.a_.length h0, I J c.1.j_] [_, _] (i := 16) z z z z z z bv z z (al z) z z z (sm [y, y, y, y, y, y, y, y, y, n, y] z) <| bo (off := 0) [S s6 c.2.1.q_.length s7, I J c.2.1.c_] [_, _] (i := 12) z z z z z z bN z z (al z) z z z (sm [y, y, y, y, y, y, y, y, y, n, y] z) <| aJ <| cK <| oP z <| ay <| XW.at (Z (l.2.i_) (l.2.h_) (s8) (c.1.a_) (g9) (h0) (s5) (c.1.j_) (H)) (ss [13, 0, 1, 2, 7, 6, 16, 14, 3, 4, 5] z z) (sb z)
      refine dB (sm [y, y, y, y, y, y, y, y, y, n, y] z) z <| aC z z z z bv (fun _ => (sm [y, y, y, y, y, y, y, y, y, n, y] z)) fun s9 => aq z lv z z z z (fun d a => bV d (p1 := p2) D (a.carve [] z z) (ah (ab F d a) (ab G d a)) (aU (x := (aj.mk k m)) (c0 := [S t k.length u]) (c1 := [I J m]) (au (e := af (aD) 71) (r := 1) z d a) z) (bX (x := f.1) (c0 := [S o f.1.u_.length s]) (c1 := [I J f.1.z_]) (au (e := af eI 3) (r := 6) z d a) z) (bm (x := (bd.mk g.1 0)) (c0 := [S A g.1.length C]) (c1 := [I J 0]) (au (e := af e8 5) (r := 8) z d a) z)) fun E1 d L a l8 => ?_
      obtain ⟨h2, E2, h3, t0, t1, E3, t2, E4, rfl, c8⟩ := l8
      obtain rfl := aH (i := 0) c8 z
      obtain rfl := aH (i := 1) c8 z
      refine ⟨St w E [_, _, _, _, _, _, _, _, _, _, _, _, _, _, _, _, _], a.comp [] z z c8, (sm [y, y, y, y, y, y, y, y, y, n, y] z), ?_⟩
      exact aa [.p, .p, .p, .p] z <| bo (off := 0) [S h2 c.1.a_.length h3, I J c.1.j_] [_, _] (i := 14) z z z z z z bv z z (al z) z z z (sm [y, y, y, y, y, y, y, y, y, n, y] z) <| bo (off := 0) [S t1 c.2.1.q_.length t2, I J c.2.1.c_] [_, _] (i := 12) z z z z z z bN z z (al z) z z z (sm [y, y, y, y, y, y, y, y, y, n, y] z) <| aJ <| cK <| oP z <| ay <| XW.at (Z (l.2.i_) (l.2.h_) (s9) (c.1.a_) (h2) (h3) (t0) (c.1.j_) (H)) (ss [13, 0, 1, 2, 7, 6, 14, 15, 3, 4, 5] z z) (sb z)
     refine dB (sm [y, y, y, y, y, y, y, y, y, n, y] z) z <| aC z z z z bv (fun _ => (sm [y, y, y, y, y, y, y, y, y, n, y] z)) fun t3 => aq z jk z z z z (fun d a => aW d P (a.carve [9] z z) (rdB [9] z z a g_p0b) (rdO 11 [9] z a z z)) fun E5 d L a l9 => ?_
     obtain ⟨rfl, m0⟩ := l9
     refine ⟨St w E [_, _, _, _, _, _, _, _, _, _, _, _, _, _, _], a.comp [9] z z m0, (sm [y, y, y, y, y, y, y, y, y, n, y] z), ?_⟩
     refine aq z lv z z z z (fun d a => bV d (p1 := p2) D (a.carve [] z z) (ah (ab F d a) (ab G d a)) (aU (x := (aj.mk k m)) (c0 := [S t k.length u]) (c1 := [I J m]) (au (e := af (aD) 71) (r := 1) z d a) z) (bX (x := f.1) (c0 := [S o f.1.u_.length s]) (c1 := [I J f.1.z_]) (au (e := af eI 3) (r := 6) z d a) z) (bm (x := (bd.mk g.1 0)) (c0 := [S A g.1.length C]) (c1 := [I J 0]) (au (e := af e8 5) (r := 8) z d a) z)) (fun E6 d L a m1 => ?_)
     obtain ⟨h4, E7, h5, t4, t5, E8, t6, E9, rfl, c9⟩ := m1
     obtain rfl := aH (i := 0) c9 z
     obtain rfl := aH (i := 1) c9 z
     refine ⟨St w E [_, _, _, _, _, _, _, _, _, _, _, _, _, _, _, _, _], a.comp [] z z c9, (sm [y, y, y, y, y, y, y, y, y, n, y] z), ?_⟩
     exact aa [.p, .p, .p, .p] z <| bo (off := 0) [S h4 c.1.a_.length h5, I J c.1.j_] [_, _] (i := 13) z z z z z z bv z z (al z) z z z (sm [y, y, y, y, y, y, y, y, y, n, y] z) <| bo (off := 0) [S t5 c.2.1.q_.length t6, I J c.2.1.c_] [_, _] (i := 12) z z z z z z bN z z (al z) z z z (sm [y, y, y, y, y, y, y, y, y, n, y] z) <| aJ <| cK <| oP z <| ay <| XW.at (Z (l.2.i_) (l.2.h_) (t3) (c.1.a_) (h4) (h5) (t4) (c.1.j_) (H)) (ss [14, 0, 1, 2, 7, 6, 13, 15, 3, 4, 5] z z) (sb z)
    refine ei (sm [y, y, y, y, y, y, y, y, y, n, y] z) z ?_ ?_
    ·refine aC z z z z bv (fun _ => (sm [y, y, y, y, y, y, y, y, y, n, y] z)) fun b4 => aJ <| ei (sm [y, y, y, y, y, y, y, y, y, n, y] z) z ?_ ?_
     ·refine bA (val := I J) (h1 := fun _ => z) [1, 3, 7, 7] [(0, [I J 1]), (1, [I J 3]), (2, [I J 7]), (3, [I J 7])] z z z z z aO ty3 z z z ⟨z, z, nl z, z, z, nl z, z, z, nl z, z, z, nl z, Y⟩ z z (fun _ => (sm [y, y, y, y, y, y, y, y, y, n, y] z)) fun F2 => aJ <| ei (sm [y, y, y, y, y, y, y, y, y, n, y] z) z ?_ ?_
      ·refine aq z jk z z z z (fun d a => aW d P (a.carve [9] z z) (rdB [9] z z a g_p0b) (rdO 12 [9] z a z z)) (fun F3 d L a m2 => ?_)
       obtain ⟨rfl, m3⟩ := m2
       refine ⟨St w E [_, _, _, _, _, _, _, _, _, _, _, _, _, _], a.comp [9] z z m3, (sm [y, y, y, y, y, y, y, y, y, n, y] z), ?_⟩
       refine aJ <| ei (sm [y, y, y, y, y, y, y, y, y, n, y] z) z ?_ ?_
       ·refine aq z lv z z z z (fun d a => bV d (p1 := p2) D (a.carve [] z z) (ah (ab F d a) (ab G d a)) (aU (x := (aj.mk k m)) (c0 := [S t k.length u]) (c1 := [I J m]) (au (e := af (aD) 71) (r := 1) z d a) z) (bX (x := f.1) (c0 := [S o f.1.u_.length s]) (c1 := [I J f.1.z_]) (au (e := af eI 3) (r := 6) z d a) z) (bm (x := (bd.mk g.1 0)) (c0 := [S A g.1.length C]) (c1 := [I J 0]) (au (e := af e8 5) (r := 8) z d a) z)) (fun F4 d L a m4 => ?_)
        obtain ⟨h6, F5, h7, t7, t8, F6, t9, F7, rfl, d0⟩ := m4
        obtain rfl := aH (i := 0) d0 z
        obtain rfl := aH (i := 1) d0 z
        refine ⟨St w E [_, _, _, _, _, _, _, _, _, _, _, _, _, _, _, _], a.comp [] z z d0, (sm [y, y, y, y, y, y, y, y, y, n, y] z), ?_⟩
        exact aa [.p, .p, .p, .p] z <| aC z z z z bN (fun _ => (sm [y, y, y, y, y, y, y, y, y, n, y] z)) fun F8 => bo (off := 0) [S h6 c.1.a_.length h7, I J c.1.j_] [_, _] (i := 11) z z z z z z bv z z (al z) z z z (sm [y, y, y, y, y, y, y, y, y, n, y] z) <| bo (off := 0) [S t8 c.2.1.q_.length t9, I J c.2.1.c_] [_, _] (i := 16) z z z z z z bN z z (al z) z z z (sm [y, y, y, y, y, y, y, y, y, n, y] z) <| aJ <| cK <| oP z <| ay <| XW.at (Z (l.2.i_) (l.2.h_) (b4) (c.1.a_) (h6) (h7) (t7) (c.1.j_) (H)) (ss [13, 0, 1, 2, 7, 6, 11, 14, 3, 4, 5] z z) (sb z)
       refine dB (sm [y, y, y, y, y, y, y, y, y, n, y] z) z <| aC z z z z bN (fun _ => (sm [y, y, y, y, y, y, y, y, y, n, y] z)) fun F9 => aq z lv z z z z (fun d a => bV d (p1 := p2) D (a.carve [] z z) (ah (ab F d a) (ab G d a)) (aU (x := (aj.mk k m)) (c0 := [S t k.length u]) (c1 := [I J m]) (au (e := af (aD) 71) (r := 1) z d a) z) (bX (x := f.1) (c0 := [S o f.1.u_.length s]) (c1 := [I J f.1.z_]) (au (e := af eI 3) (r := 6) z d a) z) (bm (x := (bd.mk g.1 0)) (c0 := [S A g.1.length C]) (c1 := [I J 0]) (au (e := af e8 5) (r := 8) z d a) z)) fun G0 d L a m5 => ?_
       obtain ⟨h8, G1, h9, u0, u1, G2, u2, G3, rfl, d1⟩ := m5
       obtain rfl := aH (i := 0) d1 z
       obtain rfl := aH (i := 1) d1 z
       refine ⟨St w E [_, _, _, _, _, _, _, _, _, _, _, _, _, _, _, _, _], a.comp [] z z d1, (sm [y, y, y, y, y, y, y, y, y, n, y] z), ?_⟩
       exact aa [.p, .p, .p, .p] z <| bo (off := 0) [S h8 c.1.a_.length h9, I J c.1.j_] [_, _] (i := 11) z z z z z z bv z z (al z) z z z (sm [y, y, y, y, y, y, y, y, y, n, y] z) <| bo (off := 0) [S u1 c.2.1.q_.length u2, I J c.2.1.c_] [_, _] (i := 14) z z z z z z bN z z (al z) z z z (sm [y, y, y, y, y, y, y, y, y, n, y] z) <| aJ <| cK <| oP z <| ay <| XW.at (Z (l.2.i_) (l.2.h_) (b4) (c.1.a_) (h8) (h9) (u0) (c.1.j_) (H)) (ss [13, 0, 1, 2, 7, 6, 11, 15, 3, 4, 5] z z) (sb z)
      refine dB (sm [y, y, y, y, y, y, y, y, y, n, y] z) z <| aC z z z z bN (fun _ => (sm [y, y, y, y, y, y, y, y, y, n, y] z)) fun G4 => aq z jk z z z z (fun d a => aW d P (a.carve [9] z z) (rdB [9] z z a g_p0b) (rdO 12 [9] z a z z)) fun G5 d L a m6 => ?_
      obtain ⟨rfl, m7⟩ := m6
      refine ⟨St w E [_, _, _, _, _, _, _, _, _, _, _, _, _, _, _], a.comp [9] z z m7, (sm [y, y, y, y, y, y, y, y, y, n, y] z), ?_⟩
      refine aq z lv z z z z (fun d a => bV d (p1 := p2) D (a.carve [] z z) (ah (ab F d a) (ab G d a)) (aU (x := (aj.mk k m)) (c0 := [S t k.length u]) (c1 := [I J m]) (au (e := af (aD) 71) (r := 1) z d a) z) (bX (x := f.1) (c0 := [S o f.1.u_.length s]) (c1 := [I J f.1.z_]) (au (e := af eI 3) (r := 6) z d a) z) (bm (x := (bd.mk g.1 0)) (c0 := [S A g.1.length C]) (c1 := [I J 0]) (au (e := af e8 5) (r := 8) z d a) z)) (fun G6 d L a m8 => ?_)
      obtain ⟨i0, G7, i1, u3, u4, G8, u5, G9, rfl, d2⟩ := m8
      obtain rfl := aH (i := 0) d2 z
      obtain rfl := aH (i := 1) d2 z
      refine ⟨St w E [_, _, _, _, _, _, _, _, _, _, _, _, _, _, _, _, _], a.comp [] z z d2, (sm [y, y, y, y, y, y, y, y, y, n, y] z), ?_⟩
      exact aa [.p, .p, .p, .p] z <| bo (off := 0) [S i0 c.1.a_.length i1, I J c.1.j_] [_, _] (i := 11) z z z z z z bv z z (al z) z z z (sm [y, y, y, y, y, y, y, y, y, n, y] z) <| bo (off := 0) [S u4 c.2.1.q_.length u5, I J c.2.1.c_] [_, _] (i := 13) z z z z z z bN z z (al z) z z z (sm [y, y, y, y, y, y, y, y, y, n, y] z) <| aJ <| cK <| oP z <| ay <| XW.at (Z (l.2.i_) (l.2.h_) (b4) (c.1.a_) (i0) (i1) (u3) (c.1.j_) (H)) (ss [14, 0, 1, 2, 7, 6, 11, 15, 3, 4, 5] z z) (sb z)
     refine dB (sm [y, y, y, y, y, y, y, y, y, n, y] z) z <| aC z z z z bN (fun _ => (sm [y, y, y, y, y, y, y, y, y, n, y] z)) fun H0 => bA (val := I J) (h1 := fun _ => z) [1, 3, 7, 7] [(0, [I J 1]), (1, [I J 3]), (2, [I J 7]), (3, [I J 7])] z z z z z aO ty3 z z z ⟨z, z, nl z, z, z, nl z, z, z, nl z, z, z, nl z, Y⟩ z z (fun _ => (sm [y, y, y, y, y, y, y, y, y, n, y] z)) fun H1 => aq z jk z z z z (fun d a => aW d P (a.carve [9] z z) (rdB [9] z z a g_p0b) (rdO 13 [9] z a z z)) fun H2 d L a m9 => ?_
     obtain ⟨rfl, n2⟩ := m9
     refine ⟨St w E [_, _, _, _, _, _, _, _, _, _, _, _, _, _, _], a.comp [9] z z n2, (sm [y, y, y, y, y, y, y, y, y, n, y] z), ?_⟩
     refine aq z lv z z z z (fun d a => bV d (p1 := p2) D (a.carve [] z z) (ah (ab F d a) (ab G d a)) (aU (x := (aj.mk k m)) (c0 := [S t k.length u]) (c1 := [I J m]) (au (e := af (aD) 71) (r := 1) z d a) z) (bX (x := f.1) (c0 := [S o f.1.u_.length s]) (c1 := [I J f.1.z_]) (au (e := af eI 3) (r := 6) z d a) z) (bm (x := (bd.mk g.1 0)) (c0 := [S A g.1.length C]) (c1 := [I J 0]) (au (e := af e8 5) (r := 8) z d a) z)) (fun H3 d L a n3 => ?_)
     obtain ⟨i2, H4, i3, u6, u7, H5, u8, H6, rfl, d3⟩ := n3
     obtain rfl := aH (i := 0) d3 z
     obtain rfl := aH (i := 1) d3 z
     refine ⟨St w E [_, _, _, _, _, _, _, _, _, _, _, _, _, _, _, _, _], a.comp [] z z d3, (sm [y, y, y, y, y, y, y, y, y, n, y] z), ?_⟩
     exact aa [.p, .p, .p, .p] z <| bo (off := 0) [S i2 c.1.a_.length i3, I J c.1.j_] [_, _] (i := 11) z z z z z z bv z z (al z) z z z (sm [y, y, y, y, y, y, y, y, y, n, y] z) <| bo (off := 0) [S u7 c.2.1.q_.length u8, I J c.2.1.c_] [_, _] (i := 12) z z z z z z bN z z (al z) z z z (sm [y, y, y, y, y, y, y, y, y, n, y] z) <| aJ <| cK <| oP z <| ay <| XW.at (Z (l.2.i_) (l.2.h_) (b4) (c.1.a_) (i2) (i3) (u6) (c.1.j_) (H)) (ss [14, 0, 1, 2, 7, 6, 11, 15, 3, 4, 5] z z) (sb z)
    refine dB (sm [y, y, y, y, y, y, y, y, y, n, y] z) z <| aC z z z z bN (fun _ => (sm [y, y, y, y, y, y, y, y, y, n, y] z)) fun H7 => aJ <| ei (sm [y, y, y, y, y, y, y, y, y, n, y] z) z ?_ ?_
    ·refine bA (val := I J) (h1 := fun _ => z) [1, 3, 7, 7] [(0, [I J 1]), (1, [I J 3]), (2, [I J 7]), (3, [I J 7])] z z z z z aO ty3 z z z ⟨z, z, nl z, z, z, nl z, z, z, nl z, z, z, nl z, Y⟩ z z (fun _ => (sm [y, y, y, y, y, y, y, y, y, n, y] z)) fun H8 => aJ <| ei (sm [y, y, y, y, y, y, y, y, y, n, y] z) z ?_ ?_
     ·refine aq z jk z z z z (fun d a => aW d P (a.carve [9] z z) (rdB [9] z z a g_p0b) (rdO 12 [9] z a z z)) (fun H9 d L a n4 => ?_)
      obtain ⟨rfl, n5⟩ := n4
      refine ⟨St w E [_, _, _, _, _, _, _, _, _, _, _, _, _, _], a.comp [9] z z n5, (sm [y, y, y, y, y, y, y, y, y, n, y] z), ?_⟩
      refine aJ <| ei (sm [y, y, y, y, y, y, y, y, y, n, y] z) z ?_ ?_
      ·refine aq z lv z z z z (fun d a => bV d (p1 := p2) D (a.carve [] z z) (ah (ab F d a) (ab G d a)) (aU (x := (aj.mk k m)) (c0 := [S t k.length u]) (c1 := [I J m]) (au (e := af (aD) 71) (r := 1) z d a) z) (bX (x := f.1) (c0 := [S o f.1.u_.length s]) (c1 := [I J f.1.z_]) (au (e := af eI 3) (r := 6) z d a) z) (bm (x := (bd.mk g.1 0)) (c0 := [S A g.1.length C]) (c1 := [I J 0]) (au (e := af e8 5) (r := 8) z d a) z)) (fun I0 d L a n6 => ?_)
       obtain ⟨i4, I1, i5, u9, v0, I2, v1, I3, rfl, d4⟩ := n6
       obtain rfl := aH (i := 0) d4 z
       obtain rfl := aH (i := 1) d4 z
       refine ⟨St w E [_, _, _, _, _, _, _, _, _, _, _, _, _, _, _, _], a.comp [] z z d4, (sm [y, y, y, y, y, y, y, y, y, n, y] z), ?_⟩
       exact aa [.p, .p, .p, .p] z <| aC z z z z bv (fun _ => (sm [y, y, y, y, y, y, y, y, y, n, y] z)) fun v2 => bo (off := 0) [S i4 c.1.a_.length i5, I J c.1.j_] [_, _] (i := 16) z z z z z z bv z z (al z) z z z (sm [y, y, y, y, y, y, y, y, y, n, y] z) <| bo (off := 0) [S v0 c.2.1.q_.length v1, I J c.2.1.c_] [_, _] (i := 11) z z z z z z bN z z (al z) z z z (sm [y, y, y, y, y, y, y, y, y, n, y] z) <| aJ <| cK <| oP z <| ay <| XW.at (Z (l.2.i_) (l.2.h_) (v2) (c.1.a_) (i4) (i5) (u9) (c.1.j_) (H)) (ss [13, 0, 1, 2, 7, 6, 16, 14, 3, 4, 5] z z) (sb z)
      refine dB (sm [y, y, y, y, y, y, y, y, y, n, y] z) z <| aC z z z z bv (fun _ => (sm [y, y, y, y, y, y, y, y, y, n, y] z)) fun v3 => aq z lv z z z z (fun d a => bV d (p1 := p2) D (a.carve [] z z) (ah (ab F d a) (ab G d a)) (aU (x := (aj.mk k m)) (c0 := [S t k.length u]) (c1 := [I J m]) (au (e := af (aD) 71) (r := 1) z d a) z) (bX (x := f.1) (c0 := [S o f.1.u_.length s]) (c1 := [I J f.1.z_]) (au (e := af eI 3) (r := 6) z d a) z) (bm (x := (bd.mk g.1 0)) (c0 := [S A g.1.length C]) (c1 := [I J 0]) (au (e := af e8 5) (r := 8) z d a) z)) fun I4 d L a n7 => ?_
      obtain ⟨i6, I5, i7, v4, v5, I6, v6, I7, rfl, d5⟩ := n7
      obtain rfl := aH (i := 0) d5 z
      obtain rfl := aH (i := 1) d5 z
      refine ⟨St w E [_, _, _, _, _, _, _, _, _, _, _, _, _, _, _, _, _], a.comp [] z z d5, (sm [y, y, y, y, y, y, y, y, y, n, y] z), ?_⟩
      exact aa [.p, .p, .p, .p] z <| bo (off := 0) [S i6 c.1.a_.length i7, I J c.1.j_] [_, _] (i := 14) z z z z z z bv z z (al z) z z z (sm [y, y, y, y, y, y, y, y, y, n, y] z) <| bo (off := 0) [S v5 c.2.1.q_.length v6, I J c.2.1.c_] [_, _] (i := 11) z z z z z z bN z z (al z) z z z (sm [y, y, y, y, y, y, y, y, y, n, y] z) <| aJ <| cK <| oP z <| ay <| XW.at (Z (l.2.i_) (l.2.h_) (v3) (c.1.a_) (i6) (i7) (v4) (c.1.j_) (H)) (ss [13, 0, 1, 2, 7, 6, 14, 15, 3, 4, 5] z z) (sb z)
     refine dB (sm [y, y, y, y, y, y, y, y, y, n, y] z) z <| aC z z z z bv (fun _ => (sm [y, y, y, y, y, y, y, y, y, n, y] z)) fun v7 => aq z jk z z z z (fun d a => aW d P (a.carve [9] z z) (rdB [9] z z a g_p0b) (rdO 12 [9] z a z z)) fun I8 d L a n8 => ?_
     obtain ⟨rfl, n9⟩ := n8
     refine ⟨St w E [_, _, _, _, _, _, _, _, _, _, _, _, _, _, _], a.comp [9] z z n9, (sm [y, y, y, y, y, y, y, y, y, n, y] z), ?_⟩
     refine aq z lv z z z z (fun d a => bV d (p1 := p2) D (a.carve [] z z) (ah (ab F d a) (ab G d a)) (aU (x := (aj.mk k m)) (c0 := [S t k.length u]) (c1 := [I J m]) (au (e := af (aD) 71) (r := 1) z d a) z) (bX (x := f.1) (c0 := [S o f.1.u_.length s]) (c1 := [I J f.1.z_]) (au (e := af eI 3) (r := 6) z d a) z) (bm (x := (bd.mk g.1 0)) (c0 := [S A g.1.length C]) (c1 := [I J 0]) (au (e := af e8 5) (r := 8) z d a) z)) (fun I9 d L a o0 => ?_)
     obtain ⟨i8, J0, i9, v8, v9, J2, w0, J3, rfl, d6⟩ := o0
     obtain rfl := aH (i := 0) d6 z
     obtain rfl := aH (i := 1) d6 z
     refine ⟨St w E [_, _, _, _, _, _, _, _, _, _, _, _, _, _, _, _, _], a.comp [] z z d6, (sm [y, y, y, y, y, y, y, y, y, n, y] z), ?_⟩
     exact aa [.p, .p, .p, .p] z <| bo (off := 0) [S i8 c.1.a_.length i9, I J c.1.j_] [_, _] (i := 13) z z z z z z bv z z (al z) z z z (sm [y, y, y, y, y, y, y, y, y, n, y] z) <| bo (off := 0) [S v9 c.2.1.q_.length w0, I J c.2.1.c_] [_, _] (i := 11) z z z z z z bN z z (al z) z z z (sm [y, y, y, y, y, y, y, y, y, n, y] z) <| aJ <| cK <| oP z <| ay <| XW.at (Z (l.2.i_) (l.2.h_) (v7) (c.1.a_) (i8) (i9) (v8) (c.1.j_) (H)) (ss [14, 0, 1, 2, 7, 6, 13, 15, 3, 4, 5] z z) (sb z)
    refine dB (sm [y, y, y, y, y, y, y, y, y, n, y] z) z <| aC z z z z bv (fun _ => (sm [y, y, y, y, y, y, y, y, y, n, y] z)) fun w3 => bA (val := I J) (h1 := fun _ => z) [1, 3, 7, 7] [(0, [I J 1]), (1, [I J 3]), (2, [I J 7]), (3, [I J 7])] z z z z z aO ty3 z z z ⟨z, z, nl z, z, z, nl z, z, z, nl z, z, z, nl z, Y⟩ z z (fun _ => (sm [y, y, y, y, y, y, y, y, y, n, y] z)) fun J4 => aq z jk z z z z (fun d a => aW d P (a.carve [9] z z) (rdB [9] z z a g_p0b) (rdO 13 [9] z a z z)) fun J5 d L a o2 => ?_
    obtain ⟨rfl, o3⟩ := o2
    refine ⟨St w E [_, _, _, _, _, _, _, _, _, _, _, _, _, _, _], a.comp [9] z z o3, (sm [y, y, y, y, y, y, y, y, y, n, y] z), ?_⟩
    refine aq z lv z z z z (fun d a => bV d (p1 := p2) D (a.carve [] z z) (ah (ab F d a) (ab G d a)) (aU (x := (aj.mk k m)) (c0 := [S t k.length u]) (c1 := [I J m]) (au (e := af (aD) 71) (r := 1) z d a) z) (bX (x := f.1) (c0 := [S o f.1.u_.length s]) (c1 := [I J f.1.z_]) (au (e := af eI 3) (r := 6) z d a) z) (bm (x := (bd.mk g.1 0)) (c0 := [S A g.1.length C]) (c1 := [I J 0]) (au (e := af e8 5) (r := 8) z d a) z)) (fun J6 d L a o4 => ?_)
    obtain ⟨j0, J7, j1, w4, w5, J8, w6, J9, rfl, d7⟩ := o4
    obtain rfl := aH (i := 0) d7 z
    obtain rfl := aH (i := 1) d7 z
    refine ⟨St w E [_, _, _, _, _, _, _, _, _, _, _, _, _, _, _, _, _], a.comp [] z z d7, (sm [y, y, y, y, y, y, y, y, y, n, y] z), ?_⟩
    exact aa [.p, .p, .p, .p] z <| bo (off := 0) [S j0 c.1.a_.length j1, I J c.1.j_] [_, _] (i := 12) z z z z z z bv z z (al z) z z z (sm [y, y, y, y, y, y, y, y, y, n, y] z) <| bo (off := 0) [S w5 c.2.1.q_.length w6, I J c.2.1.c_] [_, _] (i := 11) z z z z z z bN z z (al z) z z z (sm [y, y, y, y, y, y, y, y, y, n, y] z) <| aJ <| cK <| oP z <| ay <| XW.at (Z (l.2.i_) (l.2.h_) (w3) (c.1.a_) (j0) (j1) (w4) (c.1.j_) (H)) (ss [14, 0, 1, 2, 7, 6, 12, 15, 3, 4, 5] z z) (sb z)
  ·exact bH <| aN <| aS <| aM <| az <| sR <| o1 z (rx 0 1 _ z bv z) <| oP z <| sC 0 [S t k.length u, I J m] [_, _] 6 z bv z <| oP z <| nT <| aY (rs := [.cell 8 30, .tmp 9]) (vs := [.agg #[S t k.length u, I J m], S R M.length X]) z ⟨⟨_, [S t k.length u, I J m], _, _, _, z, bv, (bl (T := 30) 0 (bK (i := 6) z) z), z, z⟩, z, Y⟩ (fun w' hw' => by
    obtain rfl := ai H
    exact ⟨_, z, t, k.length, u, a8, R, M.length, X, a9, z, hw'.sel [2, 3, 0] z z⟩)
theorem rh (w : World) {f : List Nat} {p0b : List Int} {p0 : ao} {p1 : ae} {b_0 : Nat} {a_p0b : Option Addr} {n_p0b c_p0b : Nat} {a8 : List Value} {r : aj × ao} (H : kg p0b p0 p1 = U r) (HS : St w f [b b_0 91 [S a_p0b p0b.length c_p0b, I J p0.i_, I J p0.h_]] w) (g_p0b : (af e8 5).rd w f p0b [S a_p0b n_p0b c_p0b]) (g1 : (aX).rd w f p1 a8) :
    Calls Tryz.prog 57 #[O (U ⟨b_0, 0, N⟩), .agg a8.toArray] w (fun en w' => ∃ v, en = .returned v ∧ ∃ (a0 : Option Addr), ∃ (n0 : Nat), ∃ (c0 : Nat), ∃ (F0 : List Nat), v = .agg #[S a0 n0 c0, I J r.1.j_] ∧ St w f [W (af (aD) 71) F0 r.1.a_ [S a0 n0 c0], b b_0 91 [S a_p0b n_p0b c_p0b, I J r.2.i_, I J r.2.h_]] w') := by
 obtain rfl := ee g_p0b
 obtain ⟨f3, f4, rfl, q, s⟩ := aI g1
 obtain ⟨a9, b0, rfl⟩ := am q
 obtain ⟨b1, b2, rfl⟩ := am s
 unfold kg at H
 refine aG Tryz.func57 z Tryz.ntmps57 z (HS) <| sR <| ob _ z fun P => aC z z z z bv (fun _ => kp) fun Q => nR <| oP z <| bE H fun d c9 H => aq z DD z z z z (fun e a => rl e c9 (a.carve [0] z z) (rdB [0] z z a g_p0b)) fun f5 e l a b3 => ?_
 obtain ⟨rfl, b4⟩ := b3
 refine ⟨St w f [_, _, _, _], a.comp [0] z z b4, fun _ _ => Y, ?_⟩
 refine aC z z z z mY (fun _ => kp) fun R => sC 0 [I J d.1.F_, I J d.1.G_, I J d.1.H_, I J d.1.m_, I J d.1.a_, I J d.1.D_, B d.1.E_] [_, _, _, _, _, _, _] 4 z mY z <| nR <| aa [.fa 130 5 5 qo] z <| sC 5 [I J 2000] [_, _, _, _, _, _, _] 4 z ty3 z <| nQ <| uO (fun (t : Int) (u : Int) (g : Int) => St w f [b b_0 91 [S a_p0b p0b.length c_p0b, I J t, I J u], b P 27 [S a9 p1.b_.length b0, S b1 p1.k_.length b2], b Q 30 [S N 0 0, I J 0], b R 130 [I J d.1.F_, I J d.1.G_, I J d.1.H_, I J d.1.m_, I J d.1.a_, I J g, B d.1.E_]]) (fun t u g => [(0, O (U ⟨b_0, 0, N⟩)), (3, O (U ⟨P, 0, N⟩)), (4, O (U ⟨Q, 0, N⟩)), (5, O (U ⟨R, 0, N⟩))]) (fun t u g => gJ p0b p1 d t u g = U r) (fun t u g H => ?_) (fun J1 => ?_)
 ·unfold gJ at H
  refine ak <| bE H fun f6 X H => bE H fun c M H => om 12 [(0, y), (1, y), (2, y), (3, y)] (Br.alt 4 (Br.pre [] (Br.alt 5 (Br.pre [] (Br.alt 6 (Br.pre [(7, y), (8, y), (9, y), (10, n), (11, n)] Br.done) (Br.pre [(10, n), (6, n), (7, y), (8, y), (9, y), (11, n)] Br.done))) (Br.pre [(10, n), (5, n), (6, n), (7, y), (8, y), (9, y), (11, n)] Br.done))) (Br.pre [(10, n), (4, n), (5, n), (6, n), (7, y), (8, y), (9, y), (11, n)] Br.done)) (St w f [Res.nil, b P 27 [S a9 p1.b_.length b0, S b1 p1.k_.length b2], b Q 30 [S N 0 0, I J 0], b R 130 [I J d.1.F_, I J d.1.G_, I J d.1.H_, I J d.1.m_, I J d.1.a_, I J g, B d.1.E_]]) bT (by kernel_rfl) (aV be) (sm [n, y, y, y] z) <| oP z <| br z (ax z) (rx 0 1 _ z bU z) <| br z (ax z) (rx 0 3 _ z mY z) <| oP z <| aJ <| ei (sm [n, y, y, y] z) z ?_ ?_
  ·refine bA (val := I J) (h1 := fun _ => z) [0, 2, 12, 40, 60] [(0, [I J 0]), (1, [I J 2]), (2, [I J 12]), (3, [I J 40]), (4, [I J 60])] z z z z z aO ty3 z z z ⟨z, z, nl z, z, z, nl z, z, z, nl z, z, z, nl z, z, z, nl z, Y⟩ z z (fun _ => (sm [n, y, y, y] z)) fun f7 => aJ <| ei (sm [n, y, y, y] z) z ?_ ?_
   ·refine aq z jk z z z z (fun e a => aW e X (a.carve [0] z z) (rdB [0] z z a g_p0b) (rdO 4 [0] z a z z)) (fun f8 e l a b5 => ?_)
    obtain ⟨rfl, b6⟩ := b5
    refine ⟨St w f [_, _, _, _, _, _], a.comp [0] z z b6, (sm [n, y, y, y] z), ?_⟩
    refine aJ <| ei (sm [n, y, y, y] z) z ?_ ?_
    ·refine aq z zN z z z z (fun e a => jY e (p2 := ({ d.1 with D_ := g })) M (a.carve [5] z z) (rdB [5] z z a g_p0b) (ah (rdB [5] z z a q) (rdB [5] z z a s))) (fun f9 e l a b7 => ?_)
     obtain ⟨x, g0, A, d1, g2, g3, g4, g5, rfl, F⟩ := b7
     obtain rfl := aH (i := 0) F z
     obtain rfl := aH (i := 1) F z
     refine ⟨St w f [_, _, _, _, _, _, _, _, _], a.comp [5] z z F, (sm [n, y, y, y] z), ?_⟩
     refine aa [.p, .p, .p] z <| aC z z z z bv (fun _ => (sm [n, y, y, y] z)) fun g6 => bo (off := 0) [S x c.1.a_.length A, I J c.1.j_] [_, _] (i := 9) z z z z z z bv z z (al z) z z z (sm [n, y, y, y] z) <| aJ <| cK <| oP z <| nQ <| ak <| CW.weak (C' := St w f [_, _, _, _, _, _, _, _]) ?_ (ss [1, 2, 3, 4, 6, 7, 8, 9] z z)
     exact aT <| o1 z (rx 0 7 _ z bv z) <| sC 0 [S x c.1.a_.length A, I J c.1.j_] [_, _] 1 z bv z <| nT <| aY (rs := [.cell 4 30]) (vs := [.agg #[S x c.1.a_.length A, I J c.1.j_]]) z ⟨⟨_, [S x c.1.a_.length A, I J c.1.j_], _, _, _, z, bv, (bl (T := 30) 0 (bK (i := 1) z) z), z, z⟩, Y⟩ (fun w' hw' => by
      obtain rfl := ai H
      exact ⟨_, z, x, c.1.a_.length, A, d1, z, hw'.sel [4, 6] z z⟩)
    refine dB (sm [n, y, y, y] z) z <| aC z z z z bv (fun _ => (sm [n, y, y, y] z)) fun g7 => aq z zN z z z z (fun e a => jY e (p2 := ({ d.1 with D_ := g })) M (a.carve [5] z z) (rdB [5] z z a g_p0b) (ah (rdB [5] z z a q) (rdB [5] z z a s))) fun g8 e l a b8 => ?_
    obtain ⟨C, g9, D, d2, h0, h2, h3, h4, rfl, G⟩ := b8
    obtain rfl := aH (i := 0) G z
    obtain rfl := aH (i := 1) G z
    refine ⟨St w f [_, _, _, _, _, _, _, _, _, _], a.comp [5] z z G, (sm [n, y, y, y] z), ?_⟩
    refine aa [.p, .p, .p] z <| bo (off := 0) [S C c.1.a_.length D, I J c.1.j_] [_, _] (i := 6) z z z z z z bv z z (al z) z z z (sm [n, y, y, y] z) <| aJ <| cK <| oP z <| nQ <| ak <| CW.weak (C' := St w f [_, _, _, _, _, _, _, _]) ?_ (ss [1, 2, 3, 4, 6, 7, 8, 9] z z)
    exact aT <| o1 z (rx 0 4 _ z bv z) <| sC 0 [S C c.1.a_.length D, I J c.1.j_] [_, _] 1 z bv z <| nT <| aY (rs := [.cell 4 30]) (vs := [.agg #[S C c.1.a_.length D, I J c.1.j_]]) z ⟨⟨_, [S C c.1.a_.length D, I J c.1.j_], _, _, _, z, bv, (bl (T := 30) 0 (bK (i := 1) z) z), z, z⟩, Y⟩ (fun w' hw' => by
     obtain rfl := ai H
     exact ⟨_, z, C, c.1.a_.length, D, d2, z, hw'.sel [5, 7] z z⟩)
   refine dB (sm [n, y, y, y] z) z <| aC z z z z bv (fun _ => (sm [n, y, y, y] z)) fun h5 => aq z jk z z z z (fun e a => aW e X (a.carve [0] z z) (rdB [0] z z a g_p0b) (rdO 4 [0] z a z z)) fun h6 e l a b9 => ?_
   obtain ⟨rfl, c1⟩ := b9
   refine ⟨St w f [_, _, _, _, _, _, _], a.comp [0] z z c1, (sm [n, y, y, y] z), ?_⟩
   refine aq z zN z z z z (fun e a => jY e (p2 := ({ d.1 with D_ := g })) M (a.carve [6] z z) (rdB [6] z z a g_p0b) (ah (rdB [6] z z a q) (rdB [6] z z a s))) (fun h7 e l a c2 => ?_)
   obtain ⟨E, d5, h, c3, d6, d7, d8, d9, rfl, L⟩ := c2
   obtain rfl := aH (i := 0) L z
   obtain rfl := aH (i := 1) L z
   refine ⟨St w f [_, _, _, _, _, _, _, _, _, _], a.comp [6] z z L, (sm [n, y, y, y] z), ?_⟩
   refine aa [.p, .p, .p] z <| bo (off := 0) [S E c.1.a_.length h, I J c.1.j_] [_, _] (i := 5) z z z z z z bv z z (al z) z z z (sm [n, y, y, y] z) <| aJ <| cK <| oP z <| nQ <| ak <| CW.weak (C' := St w f [_, _, _, _, _, _, _, _]) ?_ (ss [1, 2, 3, 4, 5, 7, 8, 9] z z)
   exact aT <| o1 z (rx 0 4 _ z bv z) <| sC 0 [S E c.1.a_.length h, I J c.1.j_] [_, _] 1 z bv z <| nT <| aY (rs := [.cell 4 30]) (vs := [.agg #[S E c.1.a_.length h, I J c.1.j_]]) z ⟨⟨_, [S E c.1.a_.length h, I J c.1.j_], _, _, _, z, bv, (bl (T := 30) 0 (bK (i := 1) z) z), z, z⟩, Y⟩ (fun w' hw' => by
    obtain rfl := ai H
    exact ⟨_, z, E, c.1.a_.length, h, c3, z, hw'.sel [5, 7] z z⟩)
  refine dB (sm [n, y, y, y] z) z <| aC z z z z bv (fun _ => (sm [n, y, y, y] z)) fun e0 => bA (val := I J) (h1 := fun _ => z) [0, 2, 12, 40, 60] [(0, [I J 0]), (1, [I J 2]), (2, [I J 12]), (3, [I J 40]), (4, [I J 60])] z z z z z aO ty3 z z z ⟨z, z, nl z, z, z, nl z, z, z, nl z, z, z, nl z, z, z, nl z, Y⟩ z z (fun _ => (sm [n, y, y, y] z)) fun e1 => aq z jk z z z z (fun e a => aW e X (a.carve [0] z z) (rdB [0] z z a g_p0b) (rdO 5 [0] z a z z)) fun e2 e l a a1 => ?_
  obtain ⟨rfl, a2⟩ := a1
  refine ⟨St w f [_, _, _, _, _, _, _], a.comp [0] z z a2, (sm [n, y, y, y] z), ?_⟩
  refine aq z zN z z z z (fun e a => jY e (p2 := ({ d.1 with D_ := g })) M (a.carve [6] z z) (rdB [6] z z a g_p0b) (ah (rdB [6] z z a q) (rdB [6] z z a s))) (fun e3 e l a a3 => ?_)
  obtain ⟨j, e4, k, c4, e5, e6, e7, e9, rfl, m⟩ := a3
  obtain rfl := aH (i := 0) m z
  obtain rfl := aH (i := 1) m z
  refine ⟨St w f [_, _, _, _, _, _, _, _, _, _], a.comp [6] z z m, (sm [n, y, y, y] z), ?_⟩
  refine aa [.p, .p, .p] z <| bo (off := 0) [S j c.1.a_.length k, I J c.1.j_] [_, _] (i := 4) z z z z z z bv z z (al z) z z z (sm [n, y, y, y] z) <| aJ <| cK <| oP z <| nQ <| ak <| CW.weak (C' := St w f [_, _, _, _, _, _, _, _]) ?_ (ss [1, 2, 3, 4, 5, 7, 8, 9] z z)
  exact aT <| o1 z (rx 0 3 _ z bv z) <| sC 0 [S j c.1.a_.length k, I J c.1.j_] [_, _] 1 z bv z <| nT <| aY (rs := [.cell 4 30]) (vs := [.agg #[S j c.1.a_.length k, I J c.1.j_]]) z ⟨⟨_, [S j c.1.a_.length k, I J c.1.j_], _, _, _, z, bv, (bl (T := 30) 0 (bK (i := 1) z) z), z, z⟩, Y⟩ (fun w' hw' => by
   obtain rfl := ai H
   exact ⟨_, z, j, c.1.a_.length, k, c4, z, hw'.sel [5, 7] z z⟩)
 ·refine sR <| oP z <| bE H fun Z c5 H => aq z uj z z z z (fun e a => fA e c5 (a.carve [3] z z) (rdB [3] z z a g_p0b)) fun f0 e l a a4 => ?_
  obtain ⟨rfl, a5⟩ := a4
  refine ⟨St w f [_, _, _, _, _, _], a.comp [3] z z a5, fun _ _ => Y, ?_⟩
  refine nQ <| cI H z (fun H => ?_) (fun H => ?_)
  ·refine CW.weak (C' := St w f [_, _, _, _]) ?_ (ss [1, 2, 4, 5] z z)
   refine aT <| oP z <| bA (val := I J) (h1 := fun _ => z) [62, 80, 120] [(0, [I J 62]), (1, [I J 80]), (2, [I J 120])] z z z z z aO ty3 z z z ⟨z, z, nl z, z, z, nl z, z, z, nl z, Y⟩ z z (fun _ => kp) fun f1 => bE H fun o c6 H => aq z jk z z z z (fun e a => aW e c6 (a.carve [3] z z) (rdB [3] z z a g_p0b) (rdO 4 [3] z a z z)) fun f2 e l a a6 => ?_
   obtain ⟨rfl, a7⟩ := a6
   refine ⟨St w f [_, _, _, _, _, _], a.comp [3] z z a7, fun _ _ => Y, ?_⟩
   exact aa [.fa 130 5 5 qo] z <| sC 5 [I J o.1] [_, _, _, _, _, _, _] 2 z ty3 z <| ay <| XW.at (J1 (o.2.i_) (o.2.h_) (o.1) (H)) (ss [5, 0, 1, 2] z z) (sb z)
  ·exact aw <| XW.at (J1 (Z.2.i_) (Z.2.h_) (2000) (H)) (ss [5, 1, 2, 4] z z) (sb z)
theorem rT (w : World) {u : List Nat} {p0b : List Int} {p0 : ao} {p1 : ae} {b_0 : Nat} {a_p0b : Option Addr} {n_p0b c_p0b : Nat} {a1 : List Value} {r : ar × ao} (H : lc p0b p0 p1 = U r) (HS : St w u [b b_0 91 [S a_p0b p0b.length c_p0b, I J p0.i_, I J p0.h_]] w) (g_p0b : (af e8 5).rd w u p0b [S a_p0b n_p0b c_p0b]) (g1 : (aX).rd w u p1 a1) :
    Calls Tryz.prog 97 #[O (U ⟨b_0, 0, N⟩), .agg a1.toArray] w (fun en w' => ∃ v, en = .returned v ∧ v = .agg #[I J r.1.g_, I J r.1.c_] ∧ St w u [b b_0 91 [S a_p0b n_p0b c_p0b, I J r.2.i_, I J r.2.h_]] w') := by
 obtain rfl := ee g_p0b
 obtain ⟨b9, c0, rfl, a2, a3⟩ := aI g1
 obtain ⟨E, F, rfl⟩ := am a2
 obtain ⟨G, L, rfl⟩ := am a3
 unfold lc at H
 refine aG Tryz.func97 z Tryz.ntmps97 z (HS) <| sR <| ob _ z fun x => aC z z z z cH (fun _ => kp) fun A => nR <| bM (e := bz) z z z z mE cH (fun _ => kp) fun a4 => oP z <| nQ <| ak <| sR <| oP z <| nQ <| aB <| CW.at (iz (fun (o : List ar) (s : Option Addr) (t : Nat) (C : List Nat) (c : Int) => St w u [b b_0 91 [S a_p0b p0b.length c_p0b, I J p0.i_, I J p0.h_], b x 27 [S E p1.b_.length F, S G p1.k_.length L], b A 66 [I J 0, I J 0], W (af (bz) 66) C o [S s o.length t]]) (fun o s t C c => [(0, O (U ⟨b_0, 0, N⟩)), (3, O (U ⟨x, 0, N⟩)), (4, O (U ⟨A, 0, N⟩)), (5, S s o.length t), (6, I J c)]) (fun kk => fun o s t C c => s.isNone = n ∧ dk p1 p0 p0b kk o c = U r) (fun _ _ _ _ _ H => ?_) (fun k1 a5 o s t C c ⟨a6, H⟩ => ?_) bh (([] : List ar)) ((U ⟨a4, 0, N⟩)) (0) ([a4]) (0) (⟨z, H⟩)) (ss [0, 1, 2, 3] z z) (sb z)
 ·unfold dk at H
  exact absurd H (by simp)
 ·unfold dk at H
  refine ak <| sR <| aa [.p, .fa 27 0 0 dq] z <| o1 z (r1 0 1 z iH z) <| aa [.lenS 24 63 iw, .p] z <| nQ <| cI H z (fun H => ?_) (fun H => ?_)
  ·refine aw <| az <| ak <| aB <| sR <| oP z <| nQ <| aB <| CW.at (iz (fun (d : List ar) (g : Option Addr) (k : Nat) (m : List Nat) (a : Int) => St w u [b b_0 91 [S a_p0b p0b.length c_p0b, I J p0.i_, I J p0.h_], b x 27 [S E p1.b_.length F, S G p1.k_.length L], b A 66 [I J 0, I J 0], W (af (bz) 66) m d [S g d.length k]]) (fun d g k m a => [(0, O (U ⟨b_0, 0, N⟩)), (3, O (U ⟨x, 0, N⟩)), (4, O (U ⟨A, 0, N⟩)), (5, S g d.length k), (6, I J c), (7, I J a)]) (fun kk => fun d g k m a => g.isNone = n ∧ dv p1 c (dk p1 p0 p0b k1) kk d a = U r) (fun _ _ _ _ _ H => ?_) (fun k2 M d g k m a ⟨D, H⟩ => ?_) bh (o) (s) (t) (C) ((-1)) (⟨a6, H⟩)) (ss [0, 1, 2, 3] z z) (sb z)
   ·unfold dv at H
    exact absurd H (by simp)
   ·unfold dv at H
    refine ak <| sR <| oPP z <| nQ <| cI H z (fun H => ?_) (fun H => ?_)
    ·refine aw <| az <| ak <| aB <| sR <| oPP z <| o1 z (bI [(0, [I J c]), (1, [I J a])] [I J c, I J a] z z cH un z ⟨z, z, nl z, z, z, nl z, Y⟩ z) <| aC z z z z cH (fun _ => kp) fun a7 => sC 0 [I J c, I J a] [_, _] 4 z cH z <| nR <| o1 z (rx 0 1 _ z bU z) <| o1 z (rx 0 4 _ z cH z) <| bE H fun b7 a8 H => oq z (qc z vy (fun q f => fX q (p1 := (ar.mk c a)) a8 (ah (ab a2 q f) (ab a3 q f)))) tt2 <| nQ <| cI H z (fun H => ?_) (fun H => ?_)
     ·refine aT <| oP z <| o1 z (rx 0 4 _ z cH z) <| qF ([(ar.mk c a)] : List ar) [(0, [I J c, I J a])] z z z z z mE cH z z z z ⟨z, z, nl z, Y⟩ z (fun _ => kp) (fun P => (?_ : OW _ _ _ (St w u [b b_0 91 [S a_p0b p0b.length c_p0b, I J p0.i_, I J p0.h_], b x 27 [S E p1.b_.length F, S G p1.k_.length L], b A 66 [I J 0, I J 0], W (af (bz) 66) m d [S g d.length k], b a7 66 [I J c, I J a], W (af (bz) 66) [P] [(ar.mk c a)] [S (U ⟨P, 0, N⟩) ([(ar.mk c a)] : List ar).length 1]]) _ _ _))
      exact bE H fun a9 Q H => pE (r := 3) (ys := ([(ar.mk c a)] : List ar)) z z z z z z mE cH z z z z z (fun q f => au (e := af (bz) 66) (r := 5) z q f) Q (fun _ _ _ => kp) fun b0 b1 b2 => cg z (fun q f => eD (i := 3) f z (eG Q)) fun X => oP z <| ay <| ca <| az <| aT <| aa [.p, .p, .p] z <| ay <| cQ (RW.at (M (a9) (b0) (b1) (b2) (J.wrap (a + 1)) (⟨X, H⟩)) (ss [0, 1, 2, 3] z z) (sb z))
     ·exact aw <| ca <| az <| aT <| aa [.p, .p, .p] z <| ay <| cQ (RW.at (M (d) (g) (k) (m) (J.wrap (a + 1)) (⟨D, H⟩)) (ss [0, 1, 2, 3] z z) (sb z))
    ·exact bH <| aN <| aS <| aM <| ca <| az <| aT <| aa [.p, .p, .p] z <| ay <| cQ (RW.at (a5 (d) (g) (k) (m) (J.wrap (c + 1)) (⟨D, H⟩)) (ss [0, 1, 2, 3] z z) (sb z))
  ·refine bH <| aN <| aS <| aM <| az <| ak <| sR <| aa [.p, .lenS 155 66 mE, .p] z <| nQ <| cI H z (fun H => ?_) (fun H => ?_)
   ·exact sR <| o1 z (bI [] [I J 0, I J 0] z z cH un z Y z) <| sC 0 [I J 0, I J 0] [_, _] 2 z cH z <| nT <| ap <| aY (rs := [.cell 4 66]) (vs := [.agg #[I J 0, I J 0]]) z ⟨⟨_, [I J 0, I J 0], _, _, _, z, cH, (bl (T := 66) 0 (bK (i := 2) z) z), z, z⟩, Y⟩ (fun w' hw' => by
     obtain rfl := ai H
     exact ⟨_, z, z, hw'.sel [0] z z⟩)
   ·refine aw <| az <| sR <| aa [.p, .p, .p, .lenS 155 66 mE] z <| bE H fun b3 b4 H => aq z nV z z z z (fun q f => cj q b4 (f.carve [0] z z) (rdB [0] z z f g_p0b)) fun b8 q w2 f Z => ?_
    obtain ⟨rfl, a0⟩ := Z
    refine ⟨St w u [_, _, _, _, _], f.comp [0] z z a0, fun _ _ => Y, ?_⟩
    exact bE H fun l R H => bq (e := bz) (xs := o) (j := b3.1) z z z z z mE cH z (fun q f => au (e := af (bz) 66) (r := 3) z q f) R z <| o1 z (cV (cs := [I J l.g_, I J l.c_]) z z cH (mH (nh (fun q f => au (e := af (bz) 66) (r := 3) z q f) R (fun _ _ h => h)) z) z) <| sC 0 [I J l.g_, I J l.c_] [_, _] 2 z cH z <| nT <| aY (rs := [.cell 4 66]) (vs := [.agg #[I J l.g_, I J l.c_]]) z ⟨⟨_, [I J l.g_, I J l.c_], _, _, _, z, cH, (bl (T := 66) 0 (bK (i := 2) z) z), z, z⟩, Y⟩ (fun w' hw' => by
     obtain rfl := ai H
     exact ⟨_, z, z, hw'.sel [4] z z⟩)
theorem sX (w : World) {e : List Nat} {p0b : List Int} {p0 : ao} {p1 : ae} {b_0 : Nat} {a_p0b : Option Addr} {n_p0b c_p0b : Nat} {h : List Value} {r : ar × ao} (H : lV p0b p0 p1 = U r) (HS : St w e [b b_0 91 [S a_p0b p0b.length c_p0b, I J p0.i_, I J p0.h_]] w) (g_p0b : (af e8 5).rd w e p0b [S a_p0b n_p0b c_p0b]) (F : (aX).rd w e p1 h) :
    Calls Tryz.prog 59 #[O (U ⟨b_0, 0, N⟩), .agg h.toArray] w (fun en w' => ∃ v, en = .returned v ∧ v = .agg #[I J r.1.g_, I J r.1.c_] ∧ St w e [b b_0 91 [S a_p0b n_p0b c_p0b, I J r.2.i_, I J r.2.h_]] w') := by
 obtain rfl := ee g_p0b
 obtain ⟨G, L, rfl, j, k⟩ := aI F
 obtain ⟨M, P, rfl⟩ := am j
 obtain ⟨Q, R, rfl⟩ := am k
 unfold lV at H
 refine aG Tryz.func59 z Tryz.ntmps59 z (HS) <| sR <| ob _ z fun X => aC z z z z cH (fun _ => kp) fun Z => nR <| oP z <| o1 z (rx 0 1 _ z bU z) <| bE H fun c A H => aq z DM z z z z (fun d a => rT d A (a.carve [0] z z) (rdB [0] z z a g_p0b) (ah (rdB [0] z z a j) (rdB [0] z z a k))) fun a0 d l a m => ?_
 obtain ⟨rfl, o⟩ := m
 refine ⟨St w e [_, _, _, _], a.comp [0] z z o, fun _ _ => Y, ?_⟩
 refine aC z z z z cH (fun _ => kp) fun a1 => sC 0 [I J c.1.g_, I J c.1.c_] [_, _] 4 z cH z <| nQ <| ak <| sR <| oP z <| bE H fun a2 C H => aq z nV z z z z (fun d a => cj d C (a.carve [3] z z) (rdB [3] z z a g_p0b)) fun a3 d l a p => ?_
 obtain ⟨rfl, q⟩ := p
 refine ⟨St w e [_, _, _, _, _, _], a.comp [3] z z q, fun _ _ => Y, ?_⟩
 refine nQ <| aB <| ak <| CW.weak (C' := St w e [_, _, _, _]) ?_ (ss [1, 2, 4, 5] z z)
 refine aT <| oPP z <| nQ <| cI H z (fun H => ?_) (fun H => ?_)
 ·refine aT <| oP z <| bA (val := I J) (h1 := fun _ => z) [(-2), 1, 2, 3, 4, 9223372036854775807] [(0, [I J (-2)]), (1, [I J 1]), (2, [I J 2]), (3, [I J 3]), (4, [I J 4]), (5, [I J 9223372036854775807])] z z z z z aO ty3 z z z ⟨z, z, nl z, z, z, nl z, z, z, nl z, z, z, nl z, z, z, nl z, z, z, nl z, Y⟩ z z (fun _ => kp) fun a4 => bE H fun f D H => aq z jk z z z z (fun d a => aW d D (a.carve [3] z z) (rdB [3] z z a g_p0b) (rdO 4 [3] z a z z)) fun a5 d l a s => ?_
  obtain ⟨rfl, t⟩ := s
  refine ⟨St w e [_, _, _, _, _, _], a.comp [3] z z t, fun _ _ => Y, ?_⟩
  exact aa [.fa 66 1 1 ly] z <| sC 1 [I J f.1] [_, _] 2 z ty3 z <| ay <| ca <| az <| sR <| o1 z (rx 0 2 _ z cH z) <| sC 0 [I J c.1.g_, I J f.1] [_, _] 1 z cH z <| nT <| aY (rs := [.cell 4 66]) (vs := [.agg #[I J c.1.g_, I J f.1]]) z ⟨⟨_, [I J c.1.g_, I J f.1], _, _, _, z, cH, (bl (T := 66) 0 (bK (i := 1) z) z), z, z⟩, Y⟩ (fun w' hw' => by
   obtain rfl := ai H
   exact ⟨_, z, z, hw'.sel [5] z z⟩)
 ·refine sR <| oPP z <| nQ <| cI H z (fun H => ?_) (fun H => ?_)
  ·refine aT <| oP z <| bA (val := I J) (h1 := fun _ => z) [(-1), 5, 4, 9223372036854775807] [(0, [I J (-1)]), (1, [I J 5]), (2, [I J 4]), (3, [I J 9223372036854775807])] z z z z z aO ty3 z z z ⟨z, z, nl z, z, z, nl z, z, z, nl z, z, z, nl z, Y⟩ z z (fun _ => kp) fun a6 => bE H fun g E H => aq z jk z z z z (fun d a => aW d E (a.carve [3] z z) (rdB [3] z z a g_p0b) (rdO 4 [3] z a z z)) fun a7 d l a u => ?_
   obtain ⟨rfl, x⟩ := u
   refine ⟨St w e [_, _, _, _, _, _], a.comp [3] z z x, fun _ _ => Y, ?_⟩
   exact aa [.fa 66 0 0 kf] z <| sC 0 [I J g.1] [_, _] 2 z ty3 z <| ay <| ca <| az <| sR <| o1 z (rx 0 2 _ z cH z) <| sC 0 [I J g.1, I J c.1.c_] [_, _] 1 z cH z <| nT <| aY (rs := [.cell 4 66]) (vs := [.agg #[I J g.1, I J c.1.c_]]) z ⟨⟨_, [I J g.1, I J c.1.c_], _, _, _, z, cH, (bl (T := 66) 0 (bK (i := 1) z) z), z, z⟩, Y⟩ (fun w' hw' => by
    obtain rfl := ai H
    exact ⟨_, z, z, hw'.sel [5] z z⟩)
  ·exact aw <| ca <| az <| sR <| o1 z (rx 0 2 _ z cH z) <| sC 0 [I J c.1.g_, I J c.1.c_] [_, _] 1 z cH z <| nT <| aY (rs := [.cell 4 66]) (vs := [.agg #[I J c.1.g_, I J c.1.c_]]) z ⟨⟨_, [I J c.1.g_, I J c.1.c_], _, _, _, z, cH, (bl (T := 66) 0 (bK (i := 1) z) z), z, z⟩, Y⟩ (fun w' hw' => by
    obtain rfl := ai H
    exact ⟨_, z, z, hw'.sel [3] z z⟩)
theorem rU (w : World) {d : List Nat} {p0b : List Int} {p0 : ao} {p1 : ae} {b_0 : Nat} {a_p0b : Option Addr} {n_p0b c_p0b : Nat} {j : List Value} {r : (List Int) × ao} (H : lb p0b p0 p1 = U r) (HS : St w d [b b_0 91 [S a_p0b p0b.length c_p0b, I J p0.i_, I J p0.h_]] w) (g_p0b : (af e8 5).rd w d p0b [S a_p0b n_p0b c_p0b]) (Z : (aX).rd w d p1 j) :
    Calls Tryz.prog 60 #[O (U ⟨b_0, 0, N⟩), .agg j.toArray] w (fun en w' => ∃ v, en = .returned v ∧ ∃ (F : Option Addr), ∃ (G : Nat), ∃ (c0 : Nat), ∃ (F0 : List Nat), v = S F G c0 ∧ St w d [W (af eI 3) F0 r.1 [S F G c0], b b_0 91 [S a_p0b n_p0b c_p0b, I J r.2.i_, I J r.2.h_]] w') := by
 obtain rfl := ee g_p0b
 obtain ⟨a3, a4, rfl, k, l⟩ := aI Z
 obtain ⟨a5, a6, rfl⟩ := am k
 obtain ⟨a7, a8, rfl⟩ := am l
 unfold lb at H
 refine aG Tryz.func60 z Tryz.ntmps60 z (HS) <| sR <| ob _ z fun a9 => oP z <| nR <| oP z <| o1 z (rx 0 1 _ z bU z) <| bE H fun m L H => aq z Ca z z z z (fun c a => mf c L (a.carve [0] z z) (rdB [0] z z a g_p0b) (ah (rdB [0] z z a k) (rdB [0] z z a l))) fun b0 c M a x => ?_
 obtain ⟨o, b1, p, P, rfl, f⟩ := x
 obtain rfl := aH (i := 0) f z
 refine ⟨St w d [_, _, _, _], a.comp [0] z z f, fun _ _ => Y, ?_⟩
 refine oP z <| nQ <| ak <| sR <| oP z <| bE H fun b2 Q H => aq z nV z z z z (fun c a => cj c Q (a.carve [3] z z) (rdB [3] z z a g_p0b)) fun b3 c M a A => ?_
 obtain ⟨rfl, C⟩ := A
 refine ⟨St w d [_, _, _, _, _], a.comp [3] z z C, fun _ _ => Y, ?_⟩
 refine nQ <| aB <| ak <| CW.weak (C' := St w d [_, _, _]) ?_ (ss [1, 2, 4] z z)
 refine aT <| oPP z <| nQ <| cI H z (fun H => ?_) (fun H => ?_)
 ·refine aT <| oPP z <| bA (val := I J) (h1 := fun _ => z) [0, 5, 4, (-1)] [(0, [I J 0]), (1, [I J 5]), (2, [I J 4]), (3, [I J (-1)])] z z z z z aO ty3 z z z ⟨z, z, nl z, z, z, nl z, z, z, nl z, z, z, nl z, Y⟩ z z (fun _ => kp) fun b4 => bE H fun g R H => aq z jk z z z z (fun c a => aW c R (a.carve [2] z z) (rdB [2] z z a g_p0b) (rdO 3 [2] z a z z)) fun b5 c M a D => ?_
  obtain ⟨rfl, E⟩ := D
  refine ⟨St w d [_, _, _, _, _], a.comp [2] z z E, fun _ _ => Y, ?_⟩
  exact bA (val := I J) (h1 := fun _ => z) [g.1] [(0, [I J g.1])] z z z z z aO ty3 z z z ⟨z, z, nl z, Y⟩ z z (fun _ => kp) fun b6 => bE H fun q s H => bY (r := 1) (ys := ([g.1] : List Int)) z z z z z z aO ty3 z z z (au (e := af eI 3) (r := 5) z) s (fun _ _ _ => kp) fun t u X => cg z (fun c a => eD (i := 1) a z (eG s)) fun a2 => oP z <| ay <| ca <| az <| sR <| oPP z <| nT <| aY (rs := [.tmp 4]) (vs := [S t q.length u]) z ⟨z, Y⟩ (fun w' hw' => by
   obtain rfl := ai H
   exact ⟨_, z, t, q.length, u, X, z, hw'.sel [1, 4] z z⟩)
 ·refine sR <| oPP z <| nQ <| cI H z (fun H => ?_) (fun H => ?_)
  ·exact aT <| bM (e := eI) z z z z aO ty3 (fun _ => kp) fun h => oP z <| ay <| ca <| az <| sR <| oPP z <| nT <| aY (rs := [.tmp 4]) (vs := [S (U ⟨h, 0, N⟩) 0 0]) z ⟨z, Y⟩ (fun w' hw' => by
    obtain rfl := ai H
    exact ⟨_, z, (U ⟨h, 0, N⟩), 0, 0, [h], z, hw'.sel [3, 2] z z⟩)
  ·exact aw <| ca <| az <| sR <| oPP z <| nT <| aY (rs := [.tmp 4]) (vs := [S o m.1.length p]) z ⟨z, Y⟩ (fun w' hw' => by
    obtain rfl := ai H
    exact ⟨_, z, o, m.1.length, p, P, z, hw'.sel [1, 2] z z⟩)
theorem rK (w : World) {o : List Nat} {p0b : List Int} {p0 : ao} {p1 : ae} {b_0 : Nat} {a_p0b : Option Addr} {n_p0b c_p0b : Nat} {e1 : List Value} {r : av × ao} (H : kQ p0b p0 p1 = U r) (HS : St w o [b b_0 91 [S a_p0b p0b.length c_p0b, I J p0.i_, I J p0.h_]] w) (g_p0b : (af e8 5).rd w o p0b [S a_p0b n_p0b c_p0b]) (g1 : (aX).rd w o p1 e1) :
    Calls Tryz.prog 99 #[O (U ⟨b_0, 0, N⟩), .agg e1.toArray] w (fun en w' => ∃ v, en = .returned v ∧ ∃ (a0 : Option Addr), ∃ (n0 : Nat), ∃ (c0 : Nat), ∃ (F0 : List Nat), ∃ (a1 : Option Addr), ∃ (n1 : Nat), ∃ (c1 : Nat), ∃ (F1 : List Nat), v = .agg #[S a0 n0 c0, S a1 n1 c1] ∧ St w o [W (af eI 3) F0 r.1.e_ [S a0 n0 c0], W (af (af eI 3) 31) F1 r.1.d_ [S a1 n1 c1], b b_0 91 [S a_p0b n_p0b c_p0b, I J r.2.i_, I J r.2.h_]] w') := by
 obtain rfl := ee g_p0b
 obtain ⟨k3, k4, rfl, L, M⟩ := aI g1
 obtain ⟨e2, e3, rfl⟩ := am L
 obtain ⟨e4, e5, rfl⟩ := am M
 unfold kQ at H
 refine aG Tryz.func99 z Tryz.ntmps99 z (HS) <| sR <| ob _ z fun b2 => aC z z z z cP (fun _ => kp) fun b3 => nR <| o1 z (rx 0 1 _ z bU z) <| bE H fun a9 h4 H => aq z wR z z z z (fun c a => jZ c h4 (a.carve [] z z) (ah (ab L c a) (ab M c a))) fun k5 c G a f2 => ?_
 obtain ⟨e6, k6, e7, h5, e9, k7, f0, h6, rfl, a5⟩ := f2
 obtain rfl := aH (i := 0) a5 z
 obtain rfl := aH (i := 1) a5 z
 refine ⟨St w o [_, _, _, _, _], a.comp [] z z a5, fun _ _ => Y, ?_⟩
 refine aC z z z z cP (fun _ => kp) fun f1 => sC 0 [S e6 a9.e_.length e7, S e9 a9.d_.length f0] [_, _] 5 z cP z <| nR <| oP z <| bA (val := I J) (h1 := fun _ => z) [0, 1, 3, 12, 30, 60] [(0, [I J 0]), (1, [I J 1]), (2, [I J 3]), (3, [I J 12]), (4, [I J 30]), (5, [I J 60])] z z z z z aO ty3 z z z ⟨z, z, nl z, z, z, nl z, z, z, nl z, z, z, nl z, z, z, nl z, z, z, nl z, Y⟩ z z (fun _ => kp) fun k8 => bE H fun b0 h7 H => aq z jk z z z z (fun c a => aW c h7 (a.carve [0] z z) (rdB [0] z z a g_p0b) (rdO 6 [0] z a z z)) fun k9 c G a f3 => ?_
 obtain ⟨rfl, f4⟩ := f3
 refine ⟨St w o [_, _, _, _, _, _, _, _], a.comp [0] z z f4, fun _ _ => Y, ?_⟩
 refine oP z <| nQ <| ak <| sR <| oP z <| nQ <| aB <| CW.at (Ag (fun (E : Int) (F : Int) (d : List Int) (h : Option Addr) (j : Nat) (t : List Nat) (f : List (List Int)) (k : Option Addr) (l : Nat) (u : List Nat) (q : Int) => St w o [b b_0 91 [S a_p0b p0b.length c_p0b, I J E, I J F], b b2 27 [S e2 p1.b_.length e3, S e4 p1.k_.length e5], b b3 69 [S N 0 0, S N 0 0], b f1 69 [S h d.length j, S k f.length l], W (af eI 3) t d [S h d.length j], W (af (af eI 3) 31) u f [S k f.length l]]) (fun E F d h j t f k l u q => [(0, O (U ⟨b_0, 0, N⟩)), (3, O (U ⟨b2, 0, N⟩)), (4, O (U ⟨b3, 0, N⟩)), (5, O (U ⟨f1, 0, N⟩)), (6, I J b0.1), (7, I J q)]) (fun kk => fun E F d h j t f k l u q => em b0 p0b p1 kk E F d f q = U r) (fun _ _ _ _ _ _ _ _ _ _ _ H => ?_) (fun k1 a6 E F d h j t f k l u q H => ?_) bh (b0.2.i_) (b0.2.h_) (a9.e_) (e6) (e7) (h5) (a9.d_) (e9) (f0) (h6) (0) (H)) (ss [7, 1, 2, 5, 3, 4] z z) (sb z)
 ·unfold em at H
  exact absurd H (by simp)
 ·unfold em at H
  refine ak <| sR <| aa [.p, .p, .p] z <| nQ <| cI H z (fun H => ?_) (fun H => ?_)
  ·refine aw <| az <| ak <| aB <| sR <| oP z <| o1 z (rx 0 1 _ z bU z) <| bE H fun g f5 H => aq z CA z z z z (fun c a => oC c f5 (a.carve [0] z z) (rdB [0] z z a g_p0b) (ah (rdB [0] z z a L) (rdB [0] z z a M))) fun i1 c G a c8 => ?_
   obtain ⟨A, i2, C, f6, rfl, b1⟩ := c8
   obtain rfl := aH (i := 0) b1 z
   refine ⟨St w o [_, _, _, _, _, _, _, _], a.comp [0] z z b1, fun _ _ => Y, ?_⟩
   refine aC z z z z lI (fun _ => kp) fun f7 => sC 0 [S A g.1.u_.length C, I J g.1.z_] [_, _] 8 z lI z <| nQ <| bE H fun D a7 H => bE H fun m a8 H => zZ [(0, y), (2, y), (3, y)] (Br.alt 1 (Br.pre [(4, n), (5, n), (6, n), (7, y), (8, y), (9, y), (10, n)] Br.done) (Br.pre [(4, n)] (Br.alt 1 (Br.pre [(5, n), (6, n), (7, y), (8, y), (9, y), (10, n)] Br.done) (Br.pre [(5, n), (1, n), (6, n), (7, y), (8, y), (9, y), (10, n)] Br.done)))) (St w o [Res.nil, b b2 27 [S e2 p1.b_.length e3, S e4 p1.k_.length e5], b b3 69 [S N 0 0, S N 0 0], Res.nil, W (af eI 3) t d [S h d.length j], W (af (af eI 3) 31) u f [S k f.length l], W (af eI 3) f6 g.1.u_ [S A g.1.u_.length C], Res.nil, b f7 33 [S A g.1.u_.length C, I J g.1.z_]]) bT (by kernel_rfl) (bF (aV (fe (bF (aV be))))) (sm [y, y, y, n, y, y, y, n, y] z) <| br z (ax z) (rx 0 1 _ z bU z) <| br z (ax z) (rx 0 8 _ z lI z) <| oP z <| aJ <| ei (sm [y, y, y, n, y, y, y, n, y] z) z ?_ ?_
   ·refine tR z z (ax z) (rx 0 3 _ z cP z) <| bA (val := I J) (h1 := fun _ => z) [1, 2, 7] [(0, [I J 1]), (1, [I J 2]), (2, [I J 7])] z z z z z aO ty3 z z z ⟨z, z, nl z, z, z, nl z, z, z, nl z, Y⟩ z z (fun _ => (sm [y, y, y, n, y, y, y, n, y] z)) fun i3 => aq z jk z z z z (fun c a => aW c a7 (a.carve [7] z z) (rdB [7] z z a g_p0b) (rdO 9 [7] z a z z)) fun i4 c G a c9 => ?_
    obtain ⟨rfl, d0⟩ := c9
    refine ⟨St w o [_, _, _, _, _, _, _, _, _, _, _], a.comp [7] z z d0, (sm [y, y, y, n, y, y, y, n, y] z), ?_⟩
    refine aq z wU z z z z (fun c a => jT c a8 (a.carve [] z z) (ah (ab L c a) (ab M c a)) (aE (x := (av.mk d f)) (c0 := [S h d.length j]) (c1 := [S k f.length l]) (au (e := af eI 3) (r := 4) z c a) (au (e := af (af eI 3) 31) (r := 5) z c a)) (bX (x := g.1) (c0 := [S A g.1.u_.length C]) (c1 := [I J g.1.z_]) (au (e := af eI 3) (r := 6) z c a) z)) (fun i5 c G a d1 => ?_)
    obtain ⟨b4, i6, b5, f8, b6, i7, b7, f9, rfl, P⟩ := d1
    obtain rfl := aH (i := 0) P z
    obtain rfl := aH (i := 1) P z
    refine ⟨St w o [_, _, _, _, _, _, _, _, _, _, _, _, _], a.comp [] z z P, (sm [y, y, y, n, y, y, y, n, y] z), ?_⟩
    refine aa [.p, .p, .p] z <| bo (off := 0) [S b4 m.1.e_.length b5, S b6 m.1.d_.length b7] [_, _] (i := 3) z z z z z z cP z z (al z) z z z (sm [y, y, y, n, y, y, y, n, y] z) <| aJ <| ux <| ca <| az <| CW.weak (C' := St w o [_, _, _, _, _, _, _, _, _, _, _]) ?_ (ss [1, 2, 3, 4, 5, 6, 8, 9, 10, 11, 12] z z)
    exact aT <| aa [.p, .p, .p] z <| ay <| cQ (RW.at (a6 (D.2.i_) (D.2.h_) (m.1.e_) (b4) (b5) (f8) (m.1.d_) (b6) (b7) (f9) (J.wrap (q + 1)) (H)) (ss [8, 0, 1, 2, 9, 10] z z) (sb z))
   refine dB (sm [y, y, y, n, y, y, y, n, y] z) z <| bA (val := I J) (h1 := fun _ => z) [1, 2, 7] [(0, [I J 1]), (1, [I J 2]), (2, [I J 7])] z z z z z aO ty3 z z z ⟨z, z, nl z, z, z, nl z, z, z, nl z, Y⟩ z z (fun _ => (sm [y, y, y, n, y, y, y, n, y] z)) fun i8 => aJ <| ei (sm [y, y, y, n, y, y, y, n, y] z) z ?_ ?_
   ·refine tR z z (ax z) (rx 0 3 _ z cP z) <| aq z jk z z z z (fun c a => aW c a7 (a.carve [7] z z) (rdB [7] z z a g_p0b) (rdO 9 [7] z a z z)) fun i9 c G a d2 => ?_
    obtain ⟨rfl, d3⟩ := d2
    refine ⟨St w o [_, _, _, _, _, _, _, _, _, _, _], a.comp [7] z z d3, (sm [y, y, y, n, y, y, y, n, y] z), ?_⟩
    refine aq z wU z z z z (fun c a => jT c a8 (a.carve [] z z) (ah (ab L c a) (ab M c a)) (aE (x := (av.mk d f)) (c0 := [S h d.length j]) (c1 := [S k f.length l]) (au (e := af eI 3) (r := 4) z c a) (au (e := af (af eI 3) 31) (r := 5) z c a)) (bX (x := g.1) (c0 := [S A g.1.u_.length C]) (c1 := [I J g.1.z_]) (au (e := af eI 3) (r := 6) z c a) z)) (fun j0 c G a d4 => ?_)
    obtain ⟨b8, j1, b9, g0, c2, j2, c3, g2, rfl, Q⟩ := d4
    obtain rfl := aH (i := 0) Q z
    obtain rfl := aH (i := 1) Q z
    refine ⟨St w o [_, _, _, _, _, _, _, _, _, _, _, _, _], a.comp [] z z Q, (sm [y, y, y, n, y, y, y, n, y] z), ?_⟩
    refine aa [.p, .p, .p] z <| bo (off := 0) [S b8 m.1.e_.length b9, S c2 m.1.d_.length c3] [_, _] (i := 3) z z z z z z cP z z (al z) z z z (sm [y, y, y, n, y, y, y, n, y] z) <| aJ <| ux <| ca <| az <| CW.weak (C' := St w o [_, _, _, _, _, _, _, _, _, _, _]) ?_ (ss [1, 2, 3, 4, 5, 6, 8, 9, 10, 11, 12] z z)
    exact aT <| aa [.p, .p, .p] z <| ay <| cQ (RW.at (a6 (D.2.i_) (D.2.h_) (m.1.e_) (b8) (b9) (g0) (m.1.d_) (c2) (c3) (g2) (J.wrap (q + 1)) (H)) (ss [8, 0, 1, 2, 9, 10] z z) (sb z))
   refine dB (sm [y, y, y, n, y, y, y, n, y] z) z <| aq z jk z z z z (fun c a => aW c a7 (a.carve [7] z z) (rdB [7] z z a g_p0b) (rdO 9 [7] z a z z)) fun j3 c G a d5 => ?_
   obtain ⟨rfl, d6⟩ := d5
   refine ⟨St w o [_, _, _, _, _, _, _, _, _, _, _], a.comp [7] z z d6, (sm [y, y, y, n, y, y, y, n, y] z), ?_⟩
   refine tR z z (ax z) (rx 0 3 _ z cP z) <| aq z wU z z z z (fun c a => jT c a8 (a.carve [] z z) (ah (ab L c a) (ab M c a)) (aE (x := (av.mk d f)) (c0 := [S h d.length j]) (c1 := [S k f.length l]) (au (e := af eI 3) (r := 4) z c a) (au (e := af (af eI 3) 31) (r := 5) z c a)) (bX (x := g.1) (c0 := [S A g.1.u_.length C]) (c1 := [I J g.1.z_]) (au (e := af eI 3) (r := 6) z c a) z)) fun j4 c G a d7 => ?_
   obtain ⟨c4, j5, c5, g3, c6, j6, c7, g4, rfl, R⟩ := d7
   obtain rfl := aH (i := 0) R z
   obtain rfl := aH (i := 1) R z
   refine ⟨St w o [_, _, _, _, _, _, _, _, _, _, _, _, _], a.comp [] z z R, (sm [y, y, y, n, y, y, y, n, y] z), ?_⟩
   refine aa [.p, .p, .p] z <| bo (off := 0) [S c4 m.1.e_.length c5, S c6 m.1.d_.length c7] [_, _] (i := 3) z z z z z z cP z z (al z) z z z (sm [y, y, y, n, y, y, y, n, y] z) <| aJ <| ux <| ca <| az <| CW.weak (C' := St w o [_, _, _, _, _, _, _, _, _, _, _]) ?_ (ss [1, 2, 3, 4, 5, 6, 8, 9, 10, 11, 12] z z)
   exact aT <| aa [.p, .p, .p] z <| ay <| cQ (RW.at (a6 (D.2.i_) (D.2.h_) (m.1.e_) (c4) (c5) (g3) (m.1.d_) (c6) (c7) (g4) (J.wrap (q + 1)) (H)) (ss [8, 0, 1, 2, 9, 10] z z) (sb z))
  ·refine bH <| aN <| aS <| aM <| az <| ak <| sR <| oP z <| bE H fun j7 g5 H => aq z uj z z z z (fun c a => fA c g5 (a.carve [0] z z) (rdB [0] z z a g_p0b)) fun j8 c G a d8 => ?_
   obtain ⟨rfl, d9⟩ := d8
   refine ⟨St w o [_, _, _, _, _, _, _], a.comp [0] z z d9, fun _ _ => Y, ?_⟩
   refine nQ <| cI H z (fun H => ?_) (fun H => ?_)
   ·refine sR <| o1 z (rx 0 3 _ z cP z) <| bE H fun s g6 H => aq z nY z z z z (fun c a => eA c g6 (a.carve [] z z) (aE (x := (av.mk d f)) (c0 := [S h d.length j]) (c1 := [S k f.length l]) (au (e := af eI 3) (r := 4) z c a) (au (e := af (af eI 3) 31) (r := 5) z c a))) fun j9 c G a e0 => ?_
    obtain ⟨X, k0, Z, g7, a2, k2, a3, g8, rfl, a4⟩ := e0
    obtain rfl := aH (i := 0) a4 z
    obtain rfl := aH (i := 1) a4 z
    refine ⟨St w o [_, _, _, _, _, _, _, _, _], a.comp [] z z a4, fun _ _ => Y, ?_⟩
    exact sC 0 [S X s.e_.length Z, S a2 s.d_.length a3] [_, _] 2 z cP z <| nT <| ap <| aY (rs := [.cell 4 69]) (vs := [.agg #[S X s.e_.length Z, S a2 s.d_.length a3]]) z ⟨⟨_, [S X s.e_.length Z, S a2 s.d_.length a3], _, _, _, z, cP, (bl (T := 69) 0 (bK (i := 2) z) z), z, z⟩, Y⟩ (fun w' hw' => by
     obtain rfl := ai H
     exact ⟨_, z, X, s.e_.length, Z, g7, a2, s.d_.length, a3, g8, z, hw'.sel [7, 8, 6] z z⟩)
   ·exact aw <| az <| sR <| o1 z (rx 0 3 _ z cP z) <| sC 0 [S h d.length j, S k f.length l] [_, _] 2 z cP z <| nT <| aY (rs := [.cell 4 69]) (vs := [.agg #[S h d.length j, S k f.length l]]) z ⟨⟨_, [S h d.length j, S k f.length l], _, _, _, z, cP, (bl (T := 69) 0 (bK (i := 2) z) z), z, z⟩, Y⟩ (fun w' hw' => by
     obtain rfl := ai H
     exact ⟨_, z, h, d.length, j, t, k, f.length, l, u, z, hw'.sel [4, 5, 6] z z⟩)
theorem sA (w : World) {m : List Nat} {p0b : List Int} {p0 : ao} {p1 : ae} {b_0 : Nat} {a_p0b : Option Addr} {n_p0b c_p0b : Nat} {a5 : List Value} {r : av × ao} (H : lZ p0b p0 p1 = U r) (HS : St w m [b b_0 91 [S a_p0b p0b.length c_p0b, I J p0.i_, I J p0.h_]] w) (g_p0b : (af e8 5).rd w m p0b [S a_p0b n_p0b c_p0b]) (g1 : (aX).rd w m p1 a5) :
    Calls Tryz.prog 61 #[O (U ⟨b_0, 0, N⟩), .agg a5.toArray] w (fun en w' => ∃ v, en = .returned v ∧ ∃ (a0 : Option Addr), ∃ (n0 : Nat), ∃ (c0 : Nat), ∃ (F0 : List Nat), ∃ (a1 : Option Addr), ∃ (n1 : Nat), ∃ (c1 : Nat), ∃ (F1 : List Nat), v = .agg #[S a0 n0 c0, S a1 n1 c1] ∧ St w m [W (af eI 3) F0 r.1.e_ [S a0 n0 c0], W (af (af eI 3) 31) F1 r.1.d_ [S a1 n1 c1], b b_0 91 [S a_p0b n_p0b c_p0b, I J r.2.i_, I J r.2.h_]] w') := by
 obtain rfl := ee g_p0b
 obtain ⟨g4, g5, rfl, a6, a7⟩ := aI g1
 obtain ⟨L, M, rfl⟩ := am a6
 obtain ⟨P, Q, rfl⟩ := am a7
 unfold lZ at H
 refine aG Tryz.func61 z Tryz.ntmps61 z (HS) <| sR <| ob _ z fun X => aC z z z z cP (fun _ => kp) fun x => nR <| oP z <| o1 z (rx 0 1 _ z bU z) <| bE H fun a d8 H => aq z Eb z z z z (fun l c => rK l d8 (c.carve [0] z z) (rdB [0] z z c g_p0b) (ah (rdB [0] z z c a6) (rdB [0] z z c a7))) fun g6 l w2 c b7 => ?_
 obtain ⟨g, g7, k, o, f, g8, d, s, rfl, F⟩ := b7
 obtain rfl := aH (i := 0) F z
 obtain rfl := aH (i := 1) F z
 refine ⟨St w m [_, _, _, _, _, _], c.comp [0] z z F, fun _ _ => Y, ?_⟩
 refine aC z z z z cP (fun _ => kp) fun A => sC 0 [S g a.1.e_.length k, S f a.1.d_.length d] [_, _] 6 z cP z <| nQ <| ak <| sR <| oP z <| bE H fun a8 d9 H => aq z nV z z z z (fun l c => cj l d9 (c.carve [5] z z) (rdB [5] z z c g_p0b)) fun g9 l w2 c b8 => ?_
 obtain ⟨rfl, b9⟩ := b8
 refine ⟨St w m [_, _, _, _, _, _, _, _], c.comp [5] z z b9, fun _ _ => Y, ?_⟩
 refine nQ <| aB <| ak <| CW.weak (C' := St w m [_, _, _, _, _, _]) ?_ (ss [1, 2, 3, 4, 6, 7] z z)
 refine aT <| oPP z <| nQ <| cI H z (fun H => ?_) (fun H => ?_)
 ·refine sR <| aa [.fa 69 0 0 hG] z <| o1 z (r1 0 4 z cw z) <| aa [.lenS 31 3 aO, .p] z <| nQ <| cI H z (fun H => ?_) (fun H => ?_)
  ·refine cW 5 [(0, y), (1, y), (2, y), (3, n), (4, n)] (St w m [b X 27 [S L p1.b_.length M, S P p1.k_.length Q], b x 69 [S N 0 0, S N 0 0], W (af eI 3) o a.1.e_ [S g a.1.e_.length k], W (af (af eI 3) 31) s a.1.d_ [S f a.1.d_.length d], b A 69 [S g a.1.e_.length k, S f a.1.d_.length d], Res.nil]) bT (by kernel_rfl) (bF (aV be)) (sm [y, y, y, y, y, n] z) <| aa [.fa 69 0 0 hG] z <| br z (ax z) (r1 0 4 z cw z) <| oP z <| bA (val := I J) (h1 := fun _ => z) [(-1), 999, 998, 1000, 9223372036854775807] [(0, [I J (-1)]), (1, [I J 999]), (2, [I J 998]), (3, [I J 1000]), (4, [I J 9223372036854775807])] z z z z z aO ty3 z z z ⟨z, z, nl z, z, z, nl z, z, z, nl z, z, z, nl z, z, z, nl z, Y⟩ z z (fun _ => (sm [y, y, y, y, y, n] z)) fun h0 => bE H fun h2 e0 H => aq z jk z z z z (fun l c => aW l e0 (c.carve [5] z z) (rdB [5] z z c g_p0b) (rdO 6 [5] z c z z)) fun h3 l w2 c c2 => ?_
   obtain ⟨rfl, c3⟩ := c2
   refine ⟨St w m [_, _, _, _, _, _, _, _], c.comp [5] z z c3, (sm [y, y, y, y, y, n] z), ?_⟩
   exact aJ <| iY <| bE H fun h4 a9 H => bq (e := eI) (xs := a.1.e_) (j := 0) z z z z z aO ty3 z (au (e := af eI 3) (r := 2) z) a9 (by rw [Nat.mul_one]) <| jK (i := 2) (j := 0) z z z z z z ty3 z a9 (fun _ => z) kp <| ay <| ca <| az <| sR <| o1 z (rx 0 4 _ z cP z) <| sC 0 [S g a.1.e_.length k, S f a.1.d_.length d] [_, _] 1 z cP z <| nT <| aY (rs := [.cell 4 69]) (vs := [.agg #[S g a.1.e_.length k, S f a.1.d_.length d]]) z ⟨⟨_, [S g a.1.e_.length k, S f a.1.d_.length d], _, _, _, z, cP, (bl (T := 69) 0 (bK (i := 1) z) z), z, z⟩, Y⟩ (fun w' hw' => by
    obtain rfl := ai H
    exact ⟨_, z, g, a.1.e_.length, k, o, f, a.1.d_.length, d, s, z, hw'.sel [2, 3, 7] z z⟩)
  ·exact aw <| ca <| az <| sR <| o1 z (rx 0 4 _ z cP z) <| sC 0 [S g a.1.e_.length k, S f a.1.d_.length d] [_, _] 1 z cP z <| nT <| aY (rs := [.cell 4 69]) (vs := [.agg #[S g a.1.e_.length k, S f a.1.d_.length d]]) z ⟨⟨_, [S g a.1.e_.length k, S f a.1.d_.length d], _, _, _, z, cP, (bl (T := 69) 0 (bK (i := 1) z) z), z, z⟩, Y⟩ (fun w' hw' => by
    obtain rfl := ai H
    exact ⟨_, z, g, a.1.e_.length, k, o, f, a.1.d_.length, d, s, z, hw'.sel [2, 3, 5] z z⟩)
 ·refine sR <| oPP z <| nQ <| cI H z (fun H => ?_) (fun H => ?_)
  ·exact aT <| aa [.fa 69 0 0 hG] z <| o1 z (r1 0 4 z cw z) <| bA (val := I J) (h1 := fun _ => z) [0] [(0, [I J 0])] z z z z z aO ty3 z z z ⟨z, z, nl z, Y⟩ z z (fun _ => kp) fun h5 => bE H fun C b0 H => bY (r := 2) (ys := ([0] : List Int)) z z z z z z aO ty3 z z z (au (e := af eI 3) (r := 6) z) b0 (fun _ _ _ => kp) fun D E e1 => cg z (fun l c => eD (i := 2) c z (eG b0)) fun f9 => aa [.fa 69 0 0 hG] z <| sC 0 [S D C.length E] [_, _] 4 z cw z <| ay <| ca <| az <| sR <| o1 z (rx 0 4 _ z cP z) <| sC 0 [S D C.length E, S f a.1.d_.length d] [_, _] 1 z cP z <| nT <| aY (rs := [.cell 4 69]) (vs := [.agg #[S D C.length E, S f a.1.d_.length d]]) z ⟨⟨_, [S D C.length E, S f a.1.d_.length d], _, _, _, z, cP, (bl (T := 69) 0 (bK (i := 1) z) z), z, z⟩, Y⟩ (fun w' hw' => by
    obtain rfl := ai H
    exact ⟨_, z, D, C.length, E, e1, f, a.1.d_.length, d, s, z, hw'.sel [2, 3, 5] z z⟩)
  ·refine sR <| oPP z <| nQ <| cI H z (fun H => ?_) (fun H => ?_)
   ·refine sR <| aa [.fa 69 1 1 dL] z <| o1 z (r1 1 4 z jm z) <| aa [.lenS 67 31 gL, .p, .p] z <| bE H fun e2 Z H => aQ [(43, B e2), (0, O (U ⟨b_0, 0, N⟩)), (4, O (U ⟨x, 0, N⟩)), (5, O (U ⟨A, 0, N⟩))] 7 ?_ (fun key => OW.sub (R := [(0, O (U ⟨b_0, 0, N⟩)), (4, O (U ⟨x, 0, N⟩)), (5, O (U ⟨A, 0, N⟩)), (36, B (decide ((a.1.d_.length : Int) > 0)))]) ?_ (sb z))
    ·refine nQ <| cI H z (fun H => ?_) (fun H => ?_)
     ·refine bE H fun G b1 H => qZ (fun l c => foc (r := 3) c z b1) fun e3 e4 e5 h6 => ky (fun l c => c.1) fun e6 => ?_
      obtain ⟨a2, a3⟩ := e6
      refine CW.weak (C' := St w m [_, _, _, _, _, _, _, _]) ?_ (fun l c => c.2)
      refine wd (fun l c => wh (i := 7) c z) fun b2 b3 => ky (fun l c => c.1) fun e7 => ?_
      subst e7
      refine CW.weak (C' := St w m [_, _, _, _, _, _, _, _]) ?_ (fun l c => c.2)
      refine cW 7 [(0, y), (1, y), (2, y), (3, y), (4, y), (5, n), (6, n)] (St w m [b X 27 [S L p1.b_.length M, S P p1.k_.length Q], b x 69 [S N 0 0, S N 0 0], W (af eI 3) o a.1.e_ [S g a.1.e_.length k], Res.nil, b A 69 [S g a.1.e_.length k, S f a.1.d_.length d], Res.nil, Res.hole (af eI 3) 31 e3 d a.1.d_ ((0 : Int).toNat) e4 [S b2 G.length b3], W (af eI 3) e5 G [S b2 G.length b3]]) bT (by kernel_rfl) (bF (aV be)) (sm [y, y, y, y, y, n, y, y] z) <| aa [.fa 69 1 1 dL] z <| br z (ax z) (r1 1 4 z jm z) <| ii z z z z z gL cw z (gp (p := 6) z) a3 a2 (dg b1).1 <| br z (ax z) (nC 6 0 z z z cw (by first | rfl | simp only [dG, eg, dD]) z) <| oP z <| bA (val := I J) (h1 := fun _ => z) [(-1), 500, 1000] [(0, [I J (-1)]), (1, [I J 500]), (2, [I J 1000])] z z z z z aO ty3 z z z ⟨z, z, nl z, z, z, nl z, z, z, nl z, Y⟩ z z (fun _ => (sm [y, y, y, y, y, n, y, y] z)) fun h7 => bE H fun h8 e9 H => aq z jk z z z z (fun l c => aW l e9 (c.carve [5] z z) (rdB [5] z z c g_p0b) (rdO 8 [5] z c z z)) fun h9 l w2 c c4 => ?_
      obtain ⟨rfl, c5⟩ := c4
      refine ⟨St w m [_, _, _, _, _, _, _, _, _, _], c.comp [5] z z c5, (sm [y, y, y, y, y, n, y, y] z), ?_⟩
      refine aJ <| iY <| bE H fun i0 b4 H => bq (e := eI) (xs := G) (j := 0) z z z z z aO ty3 z (au (e := af eI 3) (r := 7) z) b4 (by rw [Nat.mul_one]) <| jK (i := 7) (j := 0) z z z z z z ty3 z b4 (fun _ => z) kp <| ay <| ca <| az <| ak <| CW.weak (C' := St w m [_, _, _, _, _, _, _, _]) ?_ (ss [0, 1, 2, 4, 6, 7, 8, 9] z z)
      exact aT <| o1 z (rx 0 3 _ z cP z) <| sC 0 [S g a.1.e_.length k, S f a.1.d_.length d] [_, _] 1 z cP z <| nT <| gW (fun l c => unf (p := 4) (q := 5) c z z z a3 a2) fun f0 => fo (C' := St w m [_, _, _, _, _, _, _, _, _]) (fun _ h => h) <| aY (rs := [.cell 4 69]) (vs := [.agg #[S g a.1.e_.length k, S f a.1.d_.length d]]) z ⟨⟨_, [S g a.1.e_.length k, S f a.1.d_.length d], _, _, _, z, cP, (bl (T := 69) 0 (bK (i := 1) z) z), z, z⟩, Y⟩ (fun w' hw' => by
       obtain rfl := ai H
       exact ⟨_, z, g, a.1.e_.length, k, o, f, a.1.d_.length, d, f0, z, hw'.sel [2, 8, 7] z z⟩)
     ·exact aw <| ca <| az <| sR <| o1 z (rx 0 4 _ z cP z) <| sC 0 [S g a.1.e_.length k, S f a.1.d_.length d] [_, _] 1 z cP z <| nT <| aY (rs := [.cell 4 69]) (vs := [.agg #[S g a.1.e_.length k, S f a.1.d_.length d]]) z ⟨⟨_, [S g a.1.e_.length k, S f a.1.d_.length d], _, _, _, z, cP, (bl (T := 69) 0 (bK (i := 1) z) z), z, z⟩, Y⟩ (fun w' hw' => by
       obtain rfl := ai H
       exact ⟨_, z, g, a.1.e_.length, k, o, f, a.1.d_.length, d, s, z, hw'.sel [2, 3, 5] z z⟩)
    ·clear H
     have H := Z
     clear Z
     generalize (decide ((a.1.d_.length : Int) > 0)) = f1 at H key ⊢
     cases f1
     ·have H := ba z H
      refine aa [.p, .p, .p, .p, .p, .p, .p] z ?_
      obtain rfl := ai H
      exact OW.sub key (sb z)
     ·have H := bb z H
      refine aa [.fa 69 1 1 dL] z <| o1 z (r1 1 4 z jm z) <| bE H fun i1 b5 H => bq (e := af eI 3) (xs := a.1.d_) (j := 0) z z z z z gL cw z (fun l c => au (e := af (af eI 3) 31) (r := 3) z l c) b5 z <| BS z z z z cw (fun l c => au (e := af (af eI 3) 31) (r := 3) z l c) b5 z fun i2 i3 => aa [.lenS 31 3 aO, .p] z <| oP z <| ?_
      obtain rfl := ai H
      exact OW.sub key (sb z)
   ·refine sR <| oPP z <| nQ <| cI H z (fun H => ?_) (fun H => ?_)
    ·refine sR <| aa [.fa 69 1 1 dL] z <| o1 z (r1 1 4 z jm z) <| aa [.lenS 67 31 gL, .p] z <| nQ <| cI H z (fun H => ?_) (fun H => ?_)
     ·refine bE H fun f2 a4 H => qZ (fun l c => foc (r := 3) c z a4) fun f3 f4 i4 g0 => ky (fun l c => c.1) fun f5 => ?_
      obtain ⟨t, u⟩ := f5
      refine CW.weak (C' := St w m [_, _, _, _, _, _, _, _]) ?_ (fun l c => c.2)
      refine wd (fun l c => wh (i := 7) c z) fun c6 c7 => ky (fun l c => c.1) fun c8 => ?_
      subst c8
      refine CW.weak (C' := St w m [_, _, _, _, _, _, _, _]) ?_ (fun l c => c.2)
      exact cW 8 [(0, y), (1, y), (2, y), (3, y), (4, y), (5, y), (6, n), (7, n)] (St w m [b X 27 [S L p1.b_.length M, S P p1.k_.length Q], b x 69 [S N 0 0, S N 0 0], W (af eI 3) o a.1.e_ [S g a.1.e_.length k], Res.nil, b A 69 [S g a.1.e_.length k, S f a.1.d_.length d], b b_0 91 [S a_p0b p0b.length c_p0b, I J a8.2.i_, I J a8.2.h_], Res.hole (af eI 3) 31 f3 d a.1.d_ ((0 : Int).toNat) f4 [S c6 f2.length c7], Res.nil]) bT (by kernel_rfl) (bF (aV be)) (sm [y, y, y, y, y, y, y, n] z) <| aa [.fa 69 1 1 dL] z <| br z (ax z) (r1 1 4 z jm z) <| aa [.fa 69 1 1 dL] z <| br z (ax z) (r1 1 4 z jm z) <| ii z z z z z gL cw z (gp (p := 6) z) u t (dg a4).1 <| br z (ax z) (nC 6 0 z z z cw (by first | rfl | simp only [dG, eg, dD]) z) <| bA (val := I J) (h1 := fun _ => z) [0] [(0, [I J 0])] z z z z z aO ty3 z z z ⟨z, z, nl z, Y⟩ z z (fun _ => (sm [y, y, y, y, y, y, y, n] z)) fun g2 => bE H fun c9 d0 H => bY (r := 7) (ys := ([0] : List Int)) z z z z z z aO ty3 z z z (au (e := af eI 3) (r := 8) z) d0 (fun _ _ _ => (sm [y, y, y, y, y, y, y, n] z)) fun d1 d2 g3 => aJ <| iY <| ii z z z z z gL cw z (gp (p := 6) z) u t (dg a4).1 <| fQ (off := 0) [S d1 c9.length d2] (p := 6) (c' := [_]) z z z z z (by first | rfl | simp only [dG, eg, dD]) z cw z z (al z) z z z kp <| ay <| ca <| az <| sR <| o1 z (rx 0 4 _ z cP z) <| sC 0 [S g a.1.e_.length k, S f a.1.d_.length d] [_, _] 1 z cP z <| nT <| gW (fun l c => unf (p := 6) (q := 7) c z z z u t) fun d3 => fo (C' := St w m [_, _, _, _, _, _, _, _, _, _]) (fun _ h => h) <| aY (rs := [.cell 4 69]) (vs := [.agg #[S g a.1.e_.length k, S f a.1.d_.length d]]) z ⟨⟨_, [S g a.1.e_.length k, S f a.1.d_.length d], _, _, _, z, cP, (bl (T := 69) 0 (bK (i := 1) z) z), z, z⟩, Y⟩ (fun w' hw' => by
       obtain rfl := ai H
       exact ⟨_, z, g, a.1.e_.length, k, o, f, a.1.d_.length, d, d3, z, hw'.sel [2, 9, 5] z z⟩)
     ·exact aw <| ca <| az <| sR <| o1 z (rx 0 4 _ z cP z) <| sC 0 [S g a.1.e_.length k, S f a.1.d_.length d] [_, _] 1 z cP z <| nT <| aY (rs := [.cell 4 69]) (vs := [.agg #[S g a.1.e_.length k, S f a.1.d_.length d]]) z ⟨⟨_, [S g a.1.e_.length k, S f a.1.d_.length d], _, _, _, z, cP, (bl (T := 69) 0 (bK (i := 1) z) z), z, z⟩, Y⟩ (fun w' hw' => by
       obtain rfl := ai H
       exact ⟨_, z, g, a.1.e_.length, k, o, f, a.1.d_.length, d, s, z, hw'.sel [2, 3, 5] z z⟩)
    ·exact aw <| ca <| az <| sR <| o1 z (rx 0 4 _ z cP z) <| sC 0 [S g a.1.e_.length k, S f a.1.d_.length d] [_, _] 1 z cP z <| nT <| aY (rs := [.cell 4 69]) (vs := [.agg #[S g a.1.e_.length k, S f a.1.d_.length d]]) z ⟨⟨_, [S g a.1.e_.length k, S f a.1.d_.length d], _, _, _, z, cP, (bl (T := 69) 0 (bK (i := 1) z) z), z, z⟩, Y⟩ (fun w' hw' => by
      obtain rfl := ai H
      exact ⟨_, z, g, a.1.e_.length, k, o, f, a.1.d_.length, d, s, z, hw'.sel [2, 3, 5] z z⟩)
theorem oD (w : World) {j : List Nat} {p0b : List Int} {p0 : ao} {p1 : ae} {b_0 : Nat} {a_p0b : Option Addr} {n_p0b c_p0b : Nat} {g3 : List Value} {r : aj × ao} (H : jU p0b p0 p1 = U r) (HS : St w j [b b_0 91 [S a_p0b p0b.length c_p0b, I J p0.i_, I J p0.h_]] w) (g_p0b : (af e8 5).rd w j p0b [S a_p0b n_p0b c_p0b]) (g1 : (aX).rd w j p1 g3) :
    Calls Tryz.prog 26 #[O (U ⟨b_0, 0, N⟩), .agg g3.toArray] w (fun en w' => ∃ v, en = .returned v ∧ ∃ (a0 : Option Addr), ∃ (n0 : Nat), ∃ (c0 : Nat), ∃ (F0 : List Nat), v = .agg #[S a0 n0 c0, I J r.1.j_] ∧ St w j [W (af (aD) 71) F0 r.1.a_ [S a0 n0 c0], b b_0 91 [S a_p0b n_p0b c_p0b, I J r.2.i_, I J r.2.h_]] w') := by
 obtain rfl := ee g_p0b
 obtain ⟨F6, F7, rfl, a7, a8⟩ := aI g1
 obtain ⟨A, C, rfl⟩ := am a7
 obtain ⟨D, E, rfl⟩ := am a8
 unfold jU at H
 refine aG Tryz.func26 z Tryz.ntmps26 z (HS) <| sR <| ob _ z fun F => aC z z z z bv (fun _ => kp) fun G => nR <| oP z <| o1 z (rx 0 1 _ z bU z) <| bE H fun c n5 H => aq z DS z z z z (fun f a => rh f n5 (a.carve [0] z z) (rdB [0] z z a g_p0b) (ah (rdB [0] z z a a7) (rdB [0] z z a a8))) fun F8 f P a g8 => ?_
 obtain ⟨g, F9, d, m, rfl, c8⟩ := g8
 obtain rfl := aH (i := 0) c8 z
 refine ⟨St w j [_, _, _, _, _], a.comp [0] z z c8, fun _ _ => Y, ?_⟩
 refine aC z z z z bv (fun _ => kp) fun L => sC 0 [S g c.1.a_.length d, I J c.1.j_] [_, _] 5 z bv z <| nQ <| ak <| sR <| aa [.fa 30 0 0 cb] z <| o1 z (r1 0 5 z ef z) <| aa [.lenS 28 71 dZ, .p] z <| nQ <| cI H z (fun H => ?_) (fun H => ?_)
 ·exact sR <| o1 z (rx 0 5 _ z bv z) <| sC 0 [S g c.1.a_.length d, I J c.1.j_] [_, _] 2 z bv z <| nT <| ap <| aY (rs := [.cell 4 30]) (vs := [.agg #[S g c.1.a_.length d, I J c.1.j_]]) z ⟨⟨_, [S g c.1.a_.length d, I J c.1.j_], _, _, _, z, bv, (bl (T := 30) 0 (bK (i := 2) z) z), z, z⟩, Y⟩ (fun w' hw' => by
   obtain rfl := ai H
   exact ⟨_, z, g, c.1.a_.length, d, m, z, hw'.sel [3, 4] z z⟩)
 ·refine aw <| az <| sR <| aa [.p, .fa 30 0 0 cb] z <| o1 z (r1 0 5 z ef z) <| aa [.lenS 28 71 dZ] z <| bE H fun Q n6 H => aq z nV z z z z (fun f a => cj f n6 (a.carve [4] z z) (rdB [4] z z a g_p0b)) fun G0 f P a g9 => ?_
  obtain ⟨rfl, h0⟩ := g9
  refine ⟨St w j [_, _, _, _, _, _, _], a.comp [4] z z h0, fun _ _ => Y, ?_⟩
  refine oP z <| nQ <| ak <| ak <| CW.weak (C' := St w j [_, _, _, _, _]) ?_ (ss [1, 2, 3, 5, 6] z z)
  refine aT <| oP z <| bE H fun G1 n7 H => aq z nV z z z z (fun f a => cj f n7 (a.carve [4] z z) (rdB [4] z z a g_p0b)) fun G2 f P a h2 => ?_
  obtain ⟨rfl, h3⟩ := h2
  refine ⟨St w j [_, _, _, _, _, _], a.comp [4] z z h3, fun _ _ => Y, ?_⟩
  refine nQ <| aB <| sR <| oPP z <| nQ <| cI H z (fun H => ?_) (fun H => ?_)
  ·refine aT <| oP z <| bA (val := I J) (h1 := fun _ => z) [(-1), 0, 99999, 100000] [(0, [I J (-1)]), (1, [I J 0]), (2, [I J 99999]), (3, [I J 100000])] z z z z z aO ty3 z z z ⟨z, z, nl z, z, z, nl z, z, z, nl z, z, z, nl z, Y⟩ z z (fun _ => kp) fun G3 => bE H fun b2 n8 H => aq z jk z z z z (fun f a => aW f n8 (a.carve [5] z z) (rdB [5] z z a g_p0b) (rdO 6 [5] z a z z)) fun G4 f P a h4 => ?_
   obtain ⟨rfl, h5⟩ := h4
   refine ⟨St w j [_, _, _, _, _, _, _, _], a.comp [5] z z h5, fun _ _ => Y, ?_⟩
   refine aa [.fa 30 1 1 mo] z <| sC 1 [I J b2.1] [_, _] 3 z ty3 z <| ay <| ca <| az <| ak <| CW.weak (C' := St w j [_, _, _, _, _, _]) ?_ (ss [0, 1, 2, 3, 6, 7] z z)
   exact aT <| o1 z (rx 0 3 _ z bv z) <| sC 0 [S g c.1.a_.length d, I J b2.1] [_, _] 1 z bv z <| nT <| aY (rs := [.cell 4 30]) (vs := [.agg #[S g c.1.a_.length d, I J b2.1]]) z ⟨⟨_, [S g c.1.a_.length d, I J b2.1], _, _, _, z, bv, (bl (T := 30) 0 (bK (i := 1) z) z), z, z⟩, Y⟩ (fun w' hw' => by
    obtain rfl := ai H
    exact ⟨_, z, g, c.1.a_.length, d, m, z, hw'.sel [2, 5] z z⟩)
  ·refine sR <| oPP z <| nQ <| cI H z (fun H => ?_) (fun H => ?_)
   ·refine cW 5 [(0, y), (1, y), (2, y), (3, y), (4, n)] (St w j [b F 27 [S A p1.b_.length C, S D p1.k_.length E], b G 30 [S N 0 0, I J 0], W (af (aD) 71) m c.1.a_ [S g c.1.a_.length d], b L 30 [S g c.1.a_.length d, I J c.1.j_], Res.nil, Res.nil]) bT (by kernel_rfl) (bF (aV be)) (sm [y, y, y, y, y, n] z) <| aa [.fa 30 0 0 cb] z <| br z (ax z) (r1 0 3 z ef z) <| oPP z <| bE H fun g4 n9 H => aq z nV z z z z (fun f a => cj f n9 (a.carve [5] z z) (rdB [5] z z a g_p0b)) fun G5 f P a h6 => ?_
    obtain ⟨rfl, h7⟩ := h6
    refine ⟨St w j [_, _, _, _, _, _, _], a.comp [5] z z h7, (sm [y, y, y, y, y, n] z), ?_⟩
    refine aJ <| iY <| bE H fun R g5 H => nB z (fun f a => foc (r := 2) a z g5) fun G6 G7 G8 G9 => cg z (fun f a => a.1) fun o0 => ?_
    obtain ⟨c9, d0⟩ := o0
    refine eU (C' := St w j [_, _, _, _, _, _, _, _, _]) z (fun f a => a.2) <| dH z (fun f a => dy (i := 8) a z) fun H0 H1 H2 => dH z (fun _ h => h) fun H3 H4 H5 => dH z (fun _ h => h) fun H6 H7 H8 => dH z (fun _ h => h) fun H9 I0 I1 => cg z (fun f a => a.1) fun o2 => ?_
    subst o2
    refine eU (C' := St w j [_, _, _, _, _, _, _, _, _, _, _, _, _]) z (fun f a => a.2) <| ii z z z z z dZ cc z (gp (p := 7) z) d0 c9 (dg g5).1 <| aa [.fa 71 7 9 ke] z <| fQ (off := 9) [I J g4.1] (p := 7) (c' := [_, _, _, _, _, _, _, _, _, _, _, _]) z z z z z (by first | rfl | simp only [dG, eg, dD]) z ty3 z z (al z) z z z kp <| ay <| ca <| az <| ak <| CW.weak (C' := St w j [_, _, _, _, _, _, _, _, _]) ?_ (ss [0, 1, 3, 6, 7, 9, 10, 11, 12] z z)
    exact aT <| o1 z (rx 0 2 _ z bv z) <| sC 0 [S g c.1.a_.length d, I J c.1.j_] [_, _] 1 z bv z <| nT <| gW (fun f a => cz (x0 := R.s_) (x1 := R.l_.g_) (x2 := R.l_.c_) (x4 := R.w_) (x7 := R.v_) (x9 := g4.1) (x10 := R.o_) (x11 := R.p_) [5, 6, 7, 8] a z z) fun I2 => fo (C' := St w j [_, _, _, _, _, _, _, _, _, _]) (fun _ h => h) <| gW (fun f a => unf (p := 4) (q := 9) a z z z d0 c9) fun o3 => fo (C' := St w j [_, _, _, _, _, _, _, _, _, _, _]) (fun _ h => h) <| aY (rs := [.cell 4 30]) (vs := [.agg #[S g c.1.a_.length d, I J c.1.j_]]) z ⟨⟨_, [S g c.1.a_.length d, I J c.1.j_], _, _, _, z, bv, (bl (T := 30) 0 (bK (i := 1) z) z), z, z⟩, Y⟩ (fun w' hw' => by
     obtain rfl := ai H
     exact ⟨_, z, g, c.1.a_.length, d, o3, z, hw'.sel [10, 3] z z⟩)
   ·refine sR <| oPP z <| nQ <| cI H z (fun H => ?_) (fun H => ?_)
    ·refine cW 7 [(0, y), (1, y), (2, y), (3, y), (4, y), (5, n), (6, n)] (St w j [b F 27 [S A p1.b_.length C, S D p1.k_.length E], b G 30 [S N 0 0, I J 0], W (af (aD) 71) m c.1.a_ [S g c.1.a_.length d], b L 30 [S g c.1.a_.length d, I J c.1.j_], Res.nil, Res.nil]) bT (by kernel_rfl) (bF (aV be)) (sm [y, y, y, y, y, n] z) <| aa [.fa 30 0 0 cb] z <| br z (ax z) (r1 0 3 z ef z) <| aa [.p, .p, .p] z <| bA (val := I J) (h1 := fun _ => z) [(-1), 0, 1, Q.1, 9223372036854775807] [(0, [I J (-1)]), (1, [I J 0]), (2, [I J 1]), (3, [I J Q.1]), (4, [I J 9223372036854775807])] z z z z z aO ty3 z z z ⟨z, z, nl z, z, z, nl z, z, z, nl z, z, z, nl z, z, z, nl z, Y⟩ z z (fun _ => (sm [y, y, y, y, y, n] z)) fun I3 => bE H fun g6 o4 H => aq z jk z z z z (fun f a => aW f o4 (a.carve [5] z z) (rdB [5] z z a g_p0b) (rdO 6 [5] z a z z)) fun I4 f P a h8 => ?_
     obtain ⟨rfl, h9⟩ := h8
     refine ⟨St w j [_, _, _, _, _, _, _, _], a.comp [5] z z h9, (sm [y, y, y, y, y, n] z), ?_⟩
     refine aJ <| iY <| bE H fun X g7 H => nB z (fun f a => foc (r := 2) a z g7) fun I5 I6 I7 I8 => cg z (fun f a => a.1) fun o5 => ?_
     obtain ⟨d1, b3⟩ := o5
     refine eU (C' := St w j [_, _, _, _, _, _, _, _, _, _]) z (fun f a => a.2) <| dH z (fun f a => dy (i := 9) a z) fun o8 o9 p2 => dH z (fun _ h => h) fun p3 p4 p5 => dH z (fun _ h => h) fun p6 p7 p8 => dH z (fun _ h => h) fun p9 q0 q2 => cg z (fun f a => a.1) fun i0 => ?_
     subst i0
     refine eU (C' := St w j [_, _, _, _, _, _, _, _, _, _, _, _, _, _]) z (fun f a => a.2) <| ii z z z z z dZ cc z (gp (p := 8) z) b3 d1 (dg g7).1 <| aa [.fa 71 8 10 nA] z <| fQ (off := 10) [I J g6.1] (p := 8) (c' := [_, _, _, _, _, _, _, _, _, _, _, _]) z z z z z (by first | rfl | simp only [dG, eg, dD]) z ty3 z z (al z) z z z kp <| ay <| ca <| az <| ak <| CW.weak (C' := St w j [_, _, _, _, _, _, _, _, _, _]) ?_ (ss [0, 1, 3, 6, 7, 8, 10, 11, 12, 13] z z)
     exact aT <| o1 z (rx 0 2 _ z bv z) <| sC 0 [S g c.1.a_.length d, I J c.1.j_] [_, _] 1 z bv z <| nT <| gW (fun f a => cz (x0 := X.s_) (x1 := X.l_.g_) (x2 := X.l_.c_) (x4 := X.w_) (x7 := X.v_) (x9 := X.m_) (x10 := g6.1) (x11 := X.p_) [6, 7, 8, 9] a z z) fun q3 => fo (C' := St w j [_, _, _, _, _, _, _, _, _, _, _]) (fun _ h => h) <| gW (fun f a => unf (p := 5) (q := 10) a z z z b3 d1) fun i1 => fo (C' := St w j [_, _, _, _, _, _, _, _, _, _, _, _]) (fun _ h => h) <| aY (rs := [.cell 4 30]) (vs := [.agg #[S g c.1.a_.length d, I J c.1.j_]]) z ⟨⟨_, [S g c.1.a_.length d, I J c.1.j_], _, _, _, z, bv, (bl (T := 30) 0 (bK (i := 1) z) z), z, z⟩, Y⟩ (fun w' hw' => by
      obtain rfl := ai H
      exact ⟨_, z, g, c.1.a_.length, d, i1, z, hw'.sel [11, 4] z z⟩)
    ·refine sR <| oPP z <| nQ <| cI H z (fun H => ?_) (fun H => ?_)
     ·refine bE H fun k a9 H => qZ (fun f a => foc (r := 2) a z a9) fun i2 i3 q4 q5 => ky (fun f a => a.1) fun i4 => ?_
      obtain ⟨a1, a2⟩ := i4
      refine CW.weak (C' := St w j [_, _, _, _, _, _, _, _]) ?_ (fun f a => a.2)
      refine mi (fun f a => dy (i := 7) a z) fun i5 i6 q6 => mi (fun _ h => h) fun d2 d3 i7 => mi (fun _ h => h) fun d4 d5 i8 => mi (fun _ h => h) fun d6 d7 i9 => ky (fun f a => a.1) fun j0 => ?_
      subst j0
      refine CW.weak (C' := St w j [_, _, _, _, _, _, _, _, _, _, _, _]) ?_ (fun f a => a.2)
      refine cW 17 [(0, y), (1, y), (2, y), (3, y), (4, y), (5, y), (6, y), (7, y), (8, y), (9, y), (10, y), (11, y), (12, y), (13, n), (14, n), (15, n), (16, n)] (St w j [b F 27 [S A p1.b_.length C, S D p1.k_.length E], b G 30 [S N 0 0, I J 0], Res.nil, b L 30 [S g c.1.a_.length d, I J c.1.j_], Res.nil, Res.nil, Res.hole (aD) 71 i2 d c.1.a_ Q.1.toNat i3 [B k.s_, I J k.l_.g_, I J k.l_.c_, S i5 k.r_.length i6, I J k.w_, S d2 k.n_.e_.length d3, S d4 k.n_.d_.length d5, I J k.v_, S d6 k.b_.length d7, I J k.m_, I J k.o_, I J k.p_], Res.nil, Res.nil, W (af eI 3) i7 k.n_.e_ [S d2 k.n_.e_.length d3], W (af (af eI 3) 31) i8 k.n_.d_ [S d4 k.n_.d_.length d5], W (af eI 3) i9 k.b_ [S d6 k.b_.length d7]]) bT (by kernel_rfl) (bF (aV be)) (sm [y, y, y, y, y, n, y, y, n, y, y, y] z) <| aa [.fa 30 0 0 cb] z <| br z (ax z) (r1 0 3 z ef z) <| aa [.p, .fa 30 0 0 cb] z <| br z (ax z) (r1 0 3 z ef z) <| oP z <| ii z z z z z dZ cc z (gp (p := 6) z) a2 a1 (dg a9).1 <| aa [.fa 71 2 3 gV] z <| br z (ax z) (nC 6 3 z z z cw (by first | rfl | simp only [dG, eg, dD]) z) <| aa [.p, .p, .p, .p] z <| bA (val := I J) (h1 := fun _ => z) [(-1), Q.1, J.wrap (Q.1 + 1), 40] [(0, [I J (-1)]), (1, [I J Q.1]), (2, [I J (J.wrap (Q.1 + 1))]), (3, [I J 40])] z z z z z aO ty3 z z z ⟨z, z, nl z, z, z, nl z, z, z, nl z, z, z, nl z, Y⟩ z z (fun _ => (sm [y, y, y, y, y, n, y, y, n, y, y, y] z)) fun q7 => bE H fun b0 j1 H => aq z jk z z z z (fun f a => aW f j1 (a.carve [5] z z) (rdB [5] z z a g_p0b) (rdO 12 [5] z a z z)) fun q8 f P a f0 => ?_
      obtain ⟨rfl, f1⟩ := f0
      refine ⟨St w j [_, _, _, _, _, _, _, _, _, _, _, _, _, _], a.comp [5] z z f1, (sm [y, y, y, y, y, n, y, y, n, y, y, y] z), ?_⟩
      refine bA (val := I J) (h1 := fun _ => z) [b0.1] [(0, [I J b0.1])] z z z z z aO ty3 z z z ⟨z, z, nl z, Y⟩ z z (fun _ => (sm [y, y, y, y, y, n, y, y, n, y, y, y] z)) fun q9 => bE H fun j2 j3 H => bY (r := 8) (ys := ([b0.1] : List Int)) z z z z z z aO ty3 z z z (au (e := af eI 3) (r := 14) z) j3 (fun _ _ _ => (sm [y, y, y, y, y, n, y, y, n, y, y, y] z)) fun j4 j5 r0 => aJ <| iY <| ii z z z z z dZ cc z (gp (p := 6) z) a2 a1 (dg a9).1 <| aa [.fa 71 2 3 gV] z <| fQ (off := 3) [S j4 j2.length j5] (p := 6) (c' := [_, _, _, _, _, _, _, _, _, _, _, _]) z z z z z (by first | rfl | simp only [dG, eg, dD]) z cw z z (al z) z z z kp <| ay <| ca <| az <| ak <| CW.weak (C' := St w j [_, _, _, _, _, _, _, _, _, _, _]) ?_ (ss [0, 1, 3, 6, 8, 9, 10, 11, 12, 13, 14] z z)
      exact aT <| o1 z (rx 0 2 _ z bv z) <| sC 0 [S g c.1.a_.length d, I J c.1.j_] [_, _] 1 z bv z <| nT <| gW (fun f a => cz (x0 := k.s_) (x1 := k.l_.g_) (x2 := k.l_.c_) (x4 := k.w_) (x7 := k.v_) (x9 := k.m_) (x10 := k.o_) (x11 := k.p_) [4, 5, 6, 7] a z z) fun r2 => fo (C' := St w j [_, _, _, _, _, _, _, _, _, _, _, _]) (fun _ h => h) <| gW (fun f a => unf (p := 3) (q := 11) a z z z a2 a1) fun j6 => fo (C' := St w j [_, _, _, _, _, _, _, _, _, _, _, _, _]) (fun _ h => h) <| aY (rs := [.cell 4 30]) (vs := [.agg #[S g c.1.a_.length d, I J c.1.j_]]) z ⟨⟨_, [S g c.1.a_.length d, I J c.1.j_], _, _, _, z, bv, (bl (T := 30) 0 (bK (i := 1) z) z), z, z⟩, Y⟩ (fun w' hw' => by
       obtain rfl := ai H
       exact ⟨_, z, g, c.1.a_.length, d, j6, z, hw'.sel [12, 9] z z⟩)
     ·refine sR <| oPP z <| nQ <| cI H z (fun H => ?_) (fun H => ?_)
      ·refine cW 6 [(0, y), (1, y), (2, y), (3, y), (4, n), (5, n)] (St w j [b F 27 [S A p1.b_.length C, S D p1.k_.length E], b G 30 [S N 0 0, I J 0], W (af (aD) 71) m c.1.a_ [S g c.1.a_.length d], b L 30 [S g c.1.a_.length d, I J c.1.j_], Res.nil, Res.nil]) bT (by kernel_rfl) (bF (aV be)) (sm [y, y, y, y, y, n] z) <| aa [.fa 30 0 0 cb] z <| br z (ax z) (r1 0 3 z ef z) <| oPP z <| bA (val := I J) (h1 := fun _ => z) [(-1), 1, 2, 4] [(0, [I J (-1)]), (1, [I J 1]), (2, [I J 2]), (3, [I J 4])] z z z z z aO ty3 z z z ⟨z, z, nl z, z, z, nl z, z, z, nl z, z, z, nl z, Y⟩ z z (fun _ => (sm [y, y, y, y, y, n] z)) fun r3 => bE H fun d8 j7 H => aq z jk z z z z (fun f a => aW f j7 (a.carve [5] z z) (rdB [5] z z a g_p0b) (rdO 6 [5] z a z z)) fun r4 f P a f2 => ?_
       obtain ⟨rfl, f3⟩ := f2
       refine ⟨St w j [_, _, _, _, _, _, _, _], a.comp [5] z z f3, (sm [y, y, y, y, y, n] z), ?_⟩
       refine aJ <| iY <| bE H fun t d9 H => nB z (fun f a => foc (r := 2) a z d9) fun r5 r6 r7 r8 => cg z (fun f a => a.1) fun j8 => ?_
       obtain ⟨b4, b5⟩ := j8
       refine eU (C' := St w j [_, _, _, _, _, _, _, _, _, _]) z (fun f a => a.2) <| dH z (fun f a => dy (i := 9) a z) fun r9 s0 s1 => dH z (fun _ h => h) fun s2 s3 s4 => dH z (fun _ h => h) fun s5 s6 s7 => dH z (fun _ h => h) fun s8 s9 t0 => cg z (fun f a => a.1) fun j9 => ?_
       subst j9
       refine eU (C' := St w j [_, _, _, _, _, _, _, _, _, _, _, _, _, _]) z (fun f a => a.2) <| ii z z z z z dZ cc z (gp (p := 8) z) b5 b4 (dg d9).1 <| aa [.fa 71 3 4 qn] z <| fQ (off := 4) [I J d8.1] (p := 8) (c' := [_, _, _, _, _, _, _, _, _, _, _, _]) z z z z z (by first | rfl | simp only [dG, eg, dD]) z ty3 z z (al z) z z z kp <| ay <| ca <| az <| ak <| CW.weak (C' := St w j [_, _, _, _, _, _, _, _, _, _]) ?_ (ss [0, 1, 3, 6, 7, 8, 10, 11, 12, 13] z z)
       exact aT <| o1 z (rx 0 2 _ z bv z) <| sC 0 [S g c.1.a_.length d, I J c.1.j_] [_, _] 1 z bv z <| nT <| gW (fun f a => cz (x0 := t.s_) (x1 := t.l_.g_) (x2 := t.l_.c_) (x4 := d8.1) (x7 := t.v_) (x9 := t.m_) (x10 := t.o_) (x11 := t.p_) [6, 7, 8, 9] a z z) fun t1 => fo (C' := St w j [_, _, _, _, _, _, _, _, _, _, _]) (fun _ h => h) <| gW (fun f a => unf (p := 5) (q := 10) a z z z b5 b4) fun k0 => fo (C' := St w j [_, _, _, _, _, _, _, _, _, _, _, _]) (fun _ h => h) <| aY (rs := [.cell 4 30]) (vs := [.agg #[S g c.1.a_.length d, I J c.1.j_]]) z ⟨⟨_, [S g c.1.a_.length d, I J c.1.j_], _, _, _, z, bv, (bl (T := 30) 0 (bK (i := 1) z) z), z, z⟩, Y⟩ (fun w' hw' => by
        obtain rfl := ai H
        exact ⟨_, z, g, c.1.a_.length, d, k0, z, hw'.sel [11, 4] z z⟩)
      ·refine sR <| oPP z <| nQ <| cI H z (fun H => ?_) (fun H => ?_)
       ·refine cW 6 [(0, y), (1, y), (2, y), (3, y), (4, n), (5, n)] (St w j [b F 27 [S A p1.b_.length C, S D p1.k_.length E], b G 30 [S N 0 0, I J 0], W (af (aD) 71) m c.1.a_ [S g c.1.a_.length d], b L 30 [S g c.1.a_.length d, I J c.1.j_], Res.nil, Res.nil]) bT (by kernel_rfl) (bF (aV be)) (sm [y, y, y, y, y, n] z) <| aa [.fa 30 0 0 cb] z <| br z (ax z) (r1 0 3 z ef z) <| oPP z <| bA (val := I J) (h1 := fun _ => z) [(-1), 1, 900, 9223372036854775807] [(0, [I J (-1)]), (1, [I J 1]), (2, [I J 900]), (3, [I J 9223372036854775807])] z z z z z aO ty3 z z z ⟨z, z, nl z, z, z, nl z, z, z, nl z, z, z, nl z, Y⟩ z z (fun _ => (sm [y, y, y, y, y, n] z)) fun t2 => bE H fun e0 k1 H => aq z jk z z z z (fun f a => aW f k1 (a.carve [5] z z) (rdB [5] z z a g_p0b) (rdO 6 [5] z a z z)) fun t3 f P a f4 => ?_
        obtain ⟨rfl, f5⟩ := f4
        refine ⟨St w j [_, _, _, _, _, _, _, _], a.comp [5] z z f5, (sm [y, y, y, y, y, n] z), ?_⟩
        refine aJ <| iY <| bE H fun u e1 H => nB z (fun f a => foc (r := 2) a z e1) fun t4 t5 t6 t7 => cg z (fun f a => a.1) fun k2 => ?_
        obtain ⟨b6, b7⟩ := k2
        refine eU (C' := St w j [_, _, _, _, _, _, _, _, _, _]) z (fun f a => a.2) <| dH z (fun f a => dy (i := 9) a z) fun t8 t9 u0 => dH z (fun _ h => h) fun u1 u2 u3 => dH z (fun _ h => h) fun u4 u5 u6 => dH z (fun _ h => h) fun u7 u8 u9 => cg z (fun f a => a.1) fun k3 => ?_
        subst k3
        refine eU (C' := St w j [_, _, _, _, _, _, _, _, _, _, _, _, _, _]) z (fun f a => a.2) <| ii z z z z z dZ cc z (gp (p := 8) z) b7 b6 (dg e1).1 <| aa [.fa 71 5 7 mh] z <| fQ (off := 7) [I J e0.1] (p := 8) (c' := [_, _, _, _, _, _, _, _, _, _, _, _]) z z z z z (by first | rfl | simp only [dG, eg, dD]) z ty3 z z (al z) z z z kp <| ay <| ca <| az <| ak <| CW.weak (C' := St w j [_, _, _, _, _, _, _, _, _, _]) ?_ (ss [0, 1, 3, 6, 7, 8, 10, 11, 12, 13] z z)
        exact aT <| o1 z (rx 0 2 _ z bv z) <| sC 0 [S g c.1.a_.length d, I J c.1.j_] [_, _] 1 z bv z <| nT <| gW (fun f a => cz (x0 := u.s_) (x1 := u.l_.g_) (x2 := u.l_.c_) (x4 := u.w_) (x7 := e0.1) (x9 := u.m_) (x10 := u.o_) (x11 := u.p_) [6, 7, 8, 9] a z z) fun v0 => fo (C' := St w j [_, _, _, _, _, _, _, _, _, _, _]) (fun _ h => h) <| gW (fun f a => unf (p := 5) (q := 10) a z z z b7 b6) fun k4 => fo (C' := St w j [_, _, _, _, _, _, _, _, _, _, _, _]) (fun _ h => h) <| aY (rs := [.cell 4 30]) (vs := [.agg #[S g c.1.a_.length d, I J c.1.j_]]) z ⟨⟨_, [S g c.1.a_.length d, I J c.1.j_], _, _, _, z, bv, (bl (T := 30) 0 (bK (i := 1) z) z), z, z⟩, Y⟩ (fun w' hw' => by
         obtain rfl := ai H
         exact ⟨_, z, g, c.1.a_.length, d, k4, z, hw'.sel [11, 4] z z⟩)
       ·refine sR <| oPP z <| nQ <| cI H z (fun H => ?_) (fun H => ?_)
        ·refine cW 11 [(0, y), (1, y), (2, y), (3, y), (4, y), (5, y), (6, y), (7, y), (8, y), (9, n), (10, n)] (St w j [b F 27 [S A p1.b_.length C, S D p1.k_.length E], b G 30 [S N 0 0, I J 0], W (af (aD) 71) m c.1.a_ [S g c.1.a_.length d], b L 30 [S g c.1.a_.length d, I J c.1.j_], Res.nil, Res.nil]) bT (by kernel_rfl) (bF (aV be)) (sm [y, y, y, y, y, n] z) <| aa [.fa 30 0 0 cb] z <| br z (ax z) (r1 0 3 z ef z) <| aa [.p, .p, .fa 30 1 1 mo] z <| br z (ax z) (r1 1 3 z ty3 z) <| aa [.fa 30 1 1 mo] z <| br z (ax z) (r1 1 3 z ty3 z) <| oP z <| bA (val := I J) (h1 := fun _ => z) [(-1), 0, 1, c.1.j_, J.wrap (c.1.j_ + 1)] [(0, [I J (-1)]), (1, [I J 0]), (2, [I J 1]), (3, [I J c.1.j_]), (4, [I J (J.wrap (c.1.j_ + 1))])] z z z z z aO ty3 z z z ⟨z, z, nl z, z, z, nl z, z, z, nl z, z, z, nl z, z, z, nl z, Y⟩ z z (fun _ => (sm [y, y, y, y, y, n] z)) fun v1 => bE H fun e2 k5 H => aq z jk z z z z (fun f a => aW f k5 (a.carve [5] z z) (rdB [5] z z a g_p0b) (rdO 6 [5] z a z z)) fun v2 f P a f6 => ?_
         obtain ⟨rfl, f7⟩ := f6
         refine ⟨St w j [_, _, _, _, _, _, _, _], a.comp [5] z z f7, (sm [y, y, y, y, y, n] z), ?_⟩
         refine aJ <| iY <| bE H fun x e3 H => nB z (fun f a => foc (r := 2) a z e3) fun v3 v4 v5 v6 => cg z (fun f a => a.1) fun k6 => ?_
         obtain ⟨b8, b9⟩ := k6
         refine eU (C' := St w j [_, _, _, _, _, _, _, _, _, _]) z (fun f a => a.2) <| dH z (fun f a => dy (i := 9) a z) fun v7 v8 v9 => dH z (fun _ h => h) fun w0 w3 w4 => dH z (fun _ h => h) fun w5 w6 w7 => dH z (fun _ h => h) fun w8 w9 x3 => cg z (fun f a => a.1) fun k7 => ?_
         subst k7
         refine eU (C' := St w j [_, _, _, _, _, _, _, _, _, _, _, _, _, _]) z (fun f a => a.2) <| ii z z z z z dZ cc z (gp (p := 8) z) b9 b8 (dg e3).1 <| aa [.fa 71 9 11 nx] z <| fQ (off := 11) [I J e2.1] (p := 8) (c' := [_, _, _, _, _, _, _, _, _, _, _, _]) z z z z z (by first | rfl | simp only [dG, eg, dD]) z ty3 z z (al z) z z z kp <| ay <| ca <| az <| ak <| CW.weak (C' := St w j [_, _, _, _, _, _, _, _, _, _]) ?_ (ss [0, 1, 3, 6, 7, 8, 10, 11, 12, 13] z z)
         exact aT <| o1 z (rx 0 2 _ z bv z) <| sC 0 [S g c.1.a_.length d, I J c.1.j_] [_, _] 1 z bv z <| nT <| gW (fun f a => cz (x0 := x.s_) (x1 := x.l_.g_) (x2 := x.l_.c_) (x4 := x.w_) (x7 := x.v_) (x9 := x.m_) (x10 := x.o_) (x11 := e2.1) [6, 7, 8, 9] a z z) fun x5 => fo (C' := St w j [_, _, _, _, _, _, _, _, _, _, _]) (fun _ h => h) <| gW (fun f a => unf (p := 5) (q := 10) a z z z b9 b8) fun k8 => fo (C' := St w j [_, _, _, _, _, _, _, _, _, _, _, _]) (fun _ h => h) <| aY (rs := [.cell 4 30]) (vs := [.agg #[S g c.1.a_.length d, I J c.1.j_]]) z ⟨⟨_, [S g c.1.a_.length d, I J c.1.j_], _, _, _, z, bv, (bl (T := 30) 0 (bK (i := 1) z) z), z, z⟩, Y⟩ (fun w' hw' => by
          obtain rfl := ai H
          exact ⟨_, z, g, c.1.a_.length, d, k8, z, hw'.sel [11, 4] z z⟩)
        ·refine sR <| oPP z <| nQ <| cI H z (fun H => ?_) (fun H => ?_)
         ·refine bE H fun l b1 H => qZ (fun f a => foc (r := 2) a z b1) fun x6 x8 y0 y1 => ky (fun f a => a.1) fun k9 => ?_
          obtain ⟨a3, a4⟩ := k9
          refine CW.weak (C' := St w j [_, _, _, _, _, _, _, _]) ?_ (fun f a => a.2)
          refine mi (fun f a => dy (i := 7) a z) fun y2 y3 y4 => mi (fun _ h => h) fun y5 y6 y7 => mi (fun _ h => h) fun y8 y9 z0 => mi (fun _ h => h) fun z1 z2 z3 => ky (fun f a => a.1) fun l0 => ?_
          subst l0
          refine CW.weak (C' := St w j [_, _, _, _, _, _, _, _, _, _, _, _]) ?_ (fun f a => a.2)
          refine oa 12 bT (by kernel_rfl) <| aa [.fa 30 0 0 cb] z <| o1 z (r1 0 3 z ef z) <| aa [.p, .fa 30 0 0 cb] z <| o1 z (r1 0 3 z ef z) <| oP z <| ii z z z z z dZ cc z (gp (p := 6) z) a4 a3 (dg b1).1 <| aa [.fa 71 0 0 ls] z <| o1 z (nC 6 0 z z z ty4 (by first | rfl | simp only [dG, eg, dD]) z) <| oP z <| ii z z z z z dZ cc z (gp (p := 6) z) a4 a3 (dg b1).1 <| aa [.fa 71 0 0 ls] z <| cx <| fQ (off := 0) [B (!l.s_)] (p := 6) (c' := [_, _, _, _, _, _, _, _, _, _, _, _]) z z z z z (by first | rfl | simp only [dG, eg, dD]) z ty4 z z (al z) z z z kp <| ay <| ca <| az <| ak <| CW.weak (C' := St w j [_, _, _, _, _, _, _, _, _]) ?_ (ss [0, 1, 3, 5, 6, 8, 9, 10, 11] z z)
          exact aT <| o1 z (rx 0 2 _ z bv z) <| sC 0 [S g c.1.a_.length d, I J c.1.j_] [_, _] 1 z bv z <| nT <| gW (fun f a => cz (x0 := (!l.s_)) (x1 := l.l_.g_) (x2 := l.l_.c_) (x4 := l.w_) (x7 := l.v_) (x9 := l.m_) (x10 := l.o_) (x11 := l.p_) [5, 6, 7, 8] a z z) fun z4 => fo (C' := St w j [_, _, _, _, _, _, _, _, _, _]) (fun _ h => h) <| gW (fun f a => unf (p := 4) (q := 9) a z z z a4 a3) fun l1 => fo (C' := St w j [_, _, _, _, _, _, _, _, _, _, _]) (fun _ h => h) <| aY (rs := [.cell 4 30]) (vs := [.agg #[S g c.1.a_.length d, I J c.1.j_]]) z ⟨⟨_, [S g c.1.a_.length d, I J c.1.j_], _, _, _, z, bv, (bl (T := 30) 0 (bK (i := 1) z) z), z, z⟩, Y⟩ (fun w' hw' => by
           obtain rfl := ai H
           exact ⟨_, z, g, c.1.a_.length, d, l1, z, hw'.sel [10, 3] z z⟩)
         ·refine sR <| oPP z <| nQ <| cI H z (fun H => ?_) (fun H => ?_)
          ·refine cW 6 [(0, y), (1, y), (2, y), (3, y), (4, y), (5, n)] (St w j [b F 27 [S A p1.b_.length C, S D p1.k_.length E], b G 30 [S N 0 0, I J 0], W (af (aD) 71) m c.1.a_ [S g c.1.a_.length d], b L 30 [S g c.1.a_.length d, I J c.1.j_], Res.nil, Res.nil]) bT (by kernel_rfl) (bF (aV be)) (sm [y, y, y, y, y, n] z) <| aa [.fa 30 0 0 cb] z <| br z (ax z) (r1 0 3 z ef z) <| oPP z <| br z (ax z) (rx 0 0 _ z bU z) <| bE H fun a5 l2 H => aq z DT z z z z (fun f a => sX f l2 (a.carve [5] z z) (rdB [5] z z a g_p0b) (ah (rdB [5] z z a a7) (rdB [5] z z a a8))) fun z5 f P a f8 => ?_
           obtain ⟨rfl, f9⟩ := f8
           refine ⟨St w j [_, _, _, _, _, _, _], a.comp [5] z z f9, (sm [y, y, y, y, y, n] z), ?_⟩
           refine aJ <| iY <| bE H fun M e4 H => nB z (fun f a => foc (r := 2) a z e4) fun z6 z7 z8 z9 => cg z (fun f a => a.1) fun l3 => ?_
           obtain ⟨c1, c2⟩ := l3
           refine eU (C' := St w j [_, _, _, _, _, _, _, _, _]) z (fun f a => a.2) <| dH z (fun f a => dy (i := 8) a z) fun A0 A1 A2 => dH z (fun _ h => h) fun A3 A4 A5 => dH z (fun _ h => h) fun A6 A7 A8 => dH z (fun _ h => h) fun A9 B0 B1 => cg z (fun f a => a.1) fun l4 => ?_
           subst l4
           refine eU (C' := St w j [_, _, _, _, _, _, _, _, _, _, _, _, _]) z (fun f a => a.2) <| ii z z z z z dZ cc z (gp (p := 7) z) c2 c1 (dg e4).1 <| aa [.fa 71 1 1 mL] z <| fQ (off := 1) [I J a5.1.g_, I J a5.1.c_] (p := 7) (c' := [_, _, _, _, _, _, _, _, _, _, _, _]) z z z z z (by first | rfl | simp only [dG, eg, dD]) z cH z z (al z) z z z kp <| ay <| ca <| az <| ak <| CW.weak (C' := St w j [_, _, _, _, _, _, _, _, _]) ?_ (ss [0, 1, 3, 6, 7, 9, 10, 11, 12] z z)
           exact aT <| o1 z (rx 0 2 _ z bv z) <| sC 0 [S g c.1.a_.length d, I J c.1.j_] [_, _] 1 z bv z <| nT <| gW (fun f a => cz (x0 := M.s_) (x1 := a5.1.g_) (x2 := a5.1.c_) (x4 := M.w_) (x7 := M.v_) (x9 := M.m_) (x10 := M.o_) (x11 := M.p_) [5, 6, 7, 8] a z z) fun B2 => fo (C' := St w j [_, _, _, _, _, _, _, _, _, _]) (fun _ h => h) <| gW (fun f a => unf (p := 4) (q := 9) a z z z c2 c1) fun l5 => fo (C' := St w j [_, _, _, _, _, _, _, _, _, _, _]) (fun _ h => h) <| aY (rs := [.cell 4 30]) (vs := [.agg #[S g c.1.a_.length d, I J c.1.j_]]) z ⟨⟨_, [S g c.1.a_.length d, I J c.1.j_], _, _, _, z, bv, (bl (T := 30) 0 (bK (i := 1) z) z), z, z⟩, Y⟩ (fun w' hw' => by
            obtain rfl := ai H
            exact ⟨_, z, g, c.1.a_.length, d, l5, z, hw'.sel [10, 3] z z⟩)
          ·refine sR <| oPP z <| nQ <| cI H z (fun H => ?_) (fun H => ?_)
           ·refine cW 6 [(0, y), (1, y), (2, y), (3, y), (4, y), (5, n)] (St w j [b F 27 [S A p1.b_.length C, S D p1.k_.length E], b G 30 [S N 0 0, I J 0], W (af (aD) 71) m c.1.a_ [S g c.1.a_.length d], b L 30 [S g c.1.a_.length d, I J c.1.j_], Res.nil, Res.nil]) bT (by kernel_rfl) (bF (aV be)) (sm [y, y, y, y, y, n] z) <| aa [.fa 30 0 0 cb] z <| br z (ax z) (r1 0 3 z ef z) <| oPP z <| br z (ax z) (rx 0 0 _ z bU z) <| bE H fun l6 l7 H => aq z DQ z z z z (fun f a => rU f l7 (a.carve [5] z z) (rdB [5] z z a g_p0b) (ah (rdB [5] z z a a7) (rdB [5] z z a a8))) fun B3 f P a g0 => ?_
            obtain ⟨l8, B4, l9, B5, rfl, c3⟩ := g0
            obtain rfl := aH (i := 0) c3 z
            refine ⟨St w j [_, _, _, _, _, _, _, _], a.comp [5] z z c3, (sm [y, y, y, y, y, n] z), ?_⟩
            refine aJ <| iY <| bE H fun o e5 H => nB z (fun f a => foc (r := 2) a z e5) fun B6 B7 B8 B9 => cg z (fun f a => a.1) fun m0 => ?_
            obtain ⟨c4, c5⟩ := m0
            refine eU (C' := St w j [_, _, _, _, _, _, _, _, _, _]) z (fun f a => a.2) <| dH z (fun f a => dy (i := 9) a z) fun C0 C1 C2 => dH z (fun _ h => h) fun C3 C4 C5 => dH z (fun _ h => h) fun C6 C7 C8 => dH z (fun _ h => h) fun C9 D0 D1 => cg z (fun f a => a.1) fun m1 => ?_
            subst m1
            refine eU (C' := St w j [_, _, _, _, _, _, _, _, _, _, _, _, _, _]) z (fun f a => a.2) <| ii z z z z z dZ cc z (gp (p := 8) z) c5 c4 (dg e5).1 <| aa [.fa 71 6 8 oX] z <| fQ (off := 8) [S l8 l6.1.length l9] (p := 8) (c' := [_, _, _, _, _, _, _, _, _, _, _, _]) z z z z z (by first | rfl | simp only [dG, eg, dD]) z cw z z (al z) z z z kp <| ay <| ca <| az <| ak <| CW.weak (C' := St w j [_, _, _, _, _, _, _, _, _, _]) ?_ (ss [0, 1, 3, 6, 7, 8, 10, 11, 12, 13] z z)
            exact aT <| o1 z (rx 0 2 _ z bv z) <| sC 0 [S g c.1.a_.length d, I J c.1.j_] [_, _] 1 z bv z <| nT <| gW (fun f a => cz (x0 := o.s_) (x1 := o.l_.g_) (x2 := o.l_.c_) (x4 := o.w_) (x7 := o.v_) (x9 := o.m_) (x10 := o.o_) (x11 := o.p_) [6, 7, 8, 3] a z z) fun D2 => fo (C' := St w j [_, _, _, _, _, _, _, _, _, _, _]) (fun _ h => h) <| gW (fun f a => unf (p := 5) (q := 10) a z z z c5 c4) fun m2 => fo (C' := St w j [_, _, _, _, _, _, _, _, _, _, _, _]) (fun _ h => h) <| aY (rs := [.cell 4 30]) (vs := [.agg #[S g c.1.a_.length d, I J c.1.j_]]) z ⟨⟨_, [S g c.1.a_.length d, I J c.1.j_], _, _, _, z, bv, (bl (T := 30) 0 (bK (i := 1) z) z), z, z⟩, Y⟩ (fun w' hw' => by
             obtain rfl := ai H
             exact ⟨_, z, g, c.1.a_.length, d, m2, z, hw'.sel [11, 4] z z⟩)
           ·refine sR <| oPP z <| nQ <| cI H z (fun H => ?_) (fun H => ?_)
            ·refine cW 6 [(0, y), (1, y), (2, y), (3, y), (4, y), (5, n)] (St w j [b F 27 [S A p1.b_.length C, S D p1.k_.length E], b G 30 [S N 0 0, I J 0], W (af (aD) 71) m c.1.a_ [S g c.1.a_.length d], b L 30 [S g c.1.a_.length d, I J c.1.j_], Res.nil, Res.nil]) bT (by kernel_rfl) (bF (aV be)) (sm [y, y, y, y, y, n] z) <| aa [.fa 30 0 0 cb] z <| br z (ax z) (r1 0 3 z ef z) <| oPP z <| br z (ax z) (rx 0 0 _ z bU z) <| bE H fun e6 m3 H => aq z DA z z z z (fun f a => sA f m3 (a.carve [5] z z) (rdB [5] z z a g_p0b) (ah (rdB [5] z z a a7) (rdB [5] z z a a8))) fun D3 f P a g2 => ?_
             obtain ⟨m4, D4, m5, D5, m6, D6, m7, D7, rfl, a6⟩ := g2
             obtain rfl := aH (i := 0) a6 z
             obtain rfl := aH (i := 1) a6 z
             refine ⟨St w j [_, _, _, _, _, _, _, _, _], a.comp [5] z z a6, (sm [y, y, y, y, y, n] z), ?_⟩
             refine aJ <| iY <| bE H fun s e7 H => nB z (fun f a => foc (r := 2) a z e7) fun D8 D9 E0 E1 => cg z (fun f a => a.1) fun m8 => ?_
             obtain ⟨c6, c7⟩ := m8
             refine eU (C' := St w j [_, _, _, _, _, _, _, _, _, _, _]) z (fun f a => a.2) <| dH z (fun f a => dy (i := 10) a z) fun E2 E3 E4 => dH z (fun _ h => h) fun E5 E6 E7 => dH z (fun _ h => h) fun E8 E9 F1 => dH z (fun _ h => h) fun F2 F3 F4 => cg z (fun f a => a.1) fun m9 => ?_
             subst m9
             refine eU (C' := St w j [_, _, _, _, _, _, _, _, _, _, _, _, _, _, _]) z (fun f a => a.2) <| ii z z z z z dZ cc z (gp (p := 9) z) c7 c6 (dg e7).1 <| aa [.fa 71 4 5 eR] z <| fQ (off := 5) [S m4 e6.1.e_.length m5, S m6 e6.1.d_.length m7] (p := 9) (c' := [_, _, _, _, _, _, _, _, _, _, _, _]) z z z z z (by first | rfl | simp only [dG, eg, dD]) z cP z z (al z) z z z kp <| ay <| ca <| az <| ak <| CW.weak (C' := St w j [_, _, _, _, _, _, _, _, _, _, _]) ?_ (ss [0, 1, 3, 6, 7, 8, 9, 11, 12, 13, 14] z z)
             exact aT <| o1 z (rx 0 2 _ z bv z) <| sC 0 [S g c.1.a_.length d, I J c.1.j_] [_, _] 1 z bv z <| nT <| gW (fun f a => cz (x0 := s.s_) (x1 := s.l_.g_) (x2 := s.l_.c_) (x4 := s.w_) (x7 := s.v_) (x9 := s.m_) (x10 := s.o_) (x11 := s.p_) [7, 3, 4, 10] a z z) fun F5 => fo (C' := St w j [_, _, _, _, _, _, _, _, _, _, _, _]) (fun _ h => h) <| gW (fun f a => unf (p := 6) (q := 11) a z z z c7 c6) fun n1 => fo (C' := St w j [_, _, _, _, _, _, _, _, _, _, _, _, _]) (fun _ h => h) <| aY (rs := [.cell 4 30]) (vs := [.agg #[S g c.1.a_.length d, I J c.1.j_]]) z ⟨⟨_, [S g c.1.a_.length d, I J c.1.j_], _, _, _, z, bv, (bl (T := 30) 0 (bK (i := 1) z) z), z, z⟩, Y⟩ (fun w' hw' => by
              obtain rfl := ai H
              exact ⟨_, z, g, c.1.a_.length, d, n1, z, hw'.sel [12, 5] z z⟩)
            ·refine sR <| oPP z <| nQ <| cI H z (fun H => ?_) (fun H => ?_)
             ·refine aT <| aa [.fa 30 0 0 cb] z <| o1 z (r1 0 3 z ef z) <| aa [.fa 30 0 0 cb] z <| o1 z (r1 0 3 z ef z) <| aa [.lenS 28 71 dZ, .p] z <| bE H fun Z e9 H => sn (e := aD) (xs := c.1.a_) z z z z dZ cc z z z e9 (fun f a => au (e := af (aD) 71) (r := 2) z f a) <| aa [.fa 30 0 0 cb] z <| qB z (fun f a => St.trunc (i := 2) a z e9 z) fun n2 => eU (C' := St w j [_, _, _, _, _, _, _]) z (fun _ h => h) <| sC 0 [S (oS g d (0 : Int).toNat 12) Z.length (d - (0 : Int).toNat)] [_, _] 3 z ef z <| ay <| ca <| az <| ak <| CW.weak (C' := St w j [_, _, _, _, _]) ?_ (ss [0, 1, 3, 5, 6] z z)
              exact aT <| o1 z (rx 0 2 _ z bv z) <| sC 0 [S (oS g d (0 : Int).toNat 12) Z.length (d - (0 : Int).toNat), I J c.1.j_] [_, _] 1 z bv z <| nT <| aY (rs := [.cell 4 30]) (vs := [.agg #[S (oS g d (0 : Int).toNat 12) Z.length (d - (0 : Int).toNat), I J c.1.j_]]) z ⟨⟨_, [S (oS g d (0 : Int).toNat 12) Z.length (d - (0 : Int).toNat), I J c.1.j_], _, _, _, z, bv, (bl (T := 30) 0 (bK (i := 1) z) z), z, z⟩, Y⟩ (fun w' hw' => by
               obtain rfl := ai H
               exact ⟨_, z, (oS g d (0 : Int).toNat 12), Z.length, (d - (0 : Int).toNat), n2, z, hw'.sel [4, 3] z z⟩)
             ·exact aw <| ca <| az <| sR <| o1 z (rx 0 3 _ z bv z) <| sC 0 [S g c.1.a_.length d, I J c.1.j_] [_, _] 1 z bv z <| nT <| aY (rs := [.cell 4 30]) (vs := [.agg #[S g c.1.a_.length d, I J c.1.j_]]) z ⟨⟨_, [S g c.1.a_.length d, I J c.1.j_], _, _, _, z, bv, (bl (T := 30) 0 (bK (i := 1) z) z), z, z⟩, Y⟩ (fun w' hw' => by
               obtain rfl := ai H
               exact ⟨_, z, g, c.1.a_.length, d, m, z, hw'.sel [2, 5] z z⟩)
theorem qm (w : World) {f : List Nat} {p0 : List Int} {a_0 : Option Addr} {n_0 c_0 : Nat} {r : ae × aj} (H : kw p0 = U r) (HS : St w f [] w) (t : (af e8 5).rd w f p0 [S a_0 n_0 c_0]) :
    Calls Tryz.prog 48 #[S a_0 n_0 c_0] w (fun en w' => ∃ v, en = .returned v ∧ ∃ (a0 : Option Addr), ∃ (n0 : Nat), ∃ (c0 : Nat), ∃ (F0 : List Nat), ∃ (a1 : Option Addr), ∃ (n1 : Nat), ∃ (c1 : Nat), ∃ (F1 : List Nat), ∃ (a2 : Option Addr), ∃ (n2 : Nat), ∃ (c2 : Nat), ∃ (F2 : List Nat), v = .tuple #[.agg #[S a0 n0 c0, S a1 n1 c1], .agg #[S a2 n2 c2, I J r.2.j_]] ∧ St w f [W (af (cf) 63) F0 r.1.b_ [S a0 n0 c0], W (af (da) 9) F1 r.1.k_ [S a1 n1 c1], W (af (aD) 71) F2 r.2.a_ [S a2 n2 c2]] w') := by
 obtain rfl := ee t
 unfold kw at H
 refine aG Tryz.func48 z Tryz.ntmps48 z (HS) <| sR <| aC z z z z bU (fun _ => kp) fun Q => aC z z z z bv (fun _ => kp) fun R => nR <| oP z <| bE H fun d2 b8 H => aq z CR z z z z (fun e a => pS e b8 (a.carve [] z z) (ab t e a)) fun d3 e F a a4 => ?_
 obtain ⟨d4, rfl, a5⟩ := a4
 refine ⟨St w f [_, _, _], a.comp [] z z a5, fun _ _ => Y, ?_⟩
 refine oP z <| nR <| oP z <| bE H fun c b9 H => aq z CM z z z z (fun e a => oG e b9 (a.carve [2] z z) (rdB [2] z z a t)) fun d5 e F a a6 => ?_
 obtain ⟨g, d6, h, G, j, d7, k, L, rfl, u⟩ := a6
 obtain rfl := aH (i := 0) u z
 obtain rfl := aH (i := 1) u z
 refine ⟨St w f [_, _, _, _, _, _], a.comp [2] z z u, fun _ _ => Y, ?_⟩
 refine aC z z z z bU (fun _ => kp) fun X => sC 0 [S g c.1.b_.length h, S j c.1.k_.length k] [_, _] 6 z bU z <| nQ <| ak <| sR <| oP z <| bE H fun d8 c3 H => aq z uj z z z z (fun e a => fA e c3 (a.carve [5] z z) (rdB [5] z z a t)) fun d9 e F a a7 => ?_
 obtain ⟨rfl, a8⟩ := a7
 refine ⟨St w f [_, _, _, _, _, _, _, _], a.comp [5] z z a8, fun _ _ => Y, ?_⟩
 refine nQ <| cI H z (fun H => ?_) (fun H => ?_)
 ·refine CW.weak (C' := St w f [_, _, _, _, _, _]) ?_ (ss [0, 1, 3, 4, 6, 7] z z)
  refine aT <| oP z <| bE H fun d c4 H => aq z Dz z z z z (fun e a => th e c4 (a.carve [5] z z) (rdB [5] z z a t)) fun e0 e F a a9 => ?_
  obtain ⟨l, e1, m, Z, o, e2, p, a3, rfl, x⟩ := a9
  obtain rfl := aH (i := 0) x z
  obtain rfl := aH (i := 1) x z
  refine ⟨St w f [_, _, _, _, _, _, _, _, _], a.comp [5] z z x, fun _ _ => Y, ?_⟩
  refine sC 0 [S l d.1.b_.length m, S o d.1.k_.length p] [_, _] 4 z bU z <| nQ <| ak <| cW 4 [(0, y), (1, y), (2, y), (3, n)] (St w f [b Q 27 [S N 0 0, S N 0 0], b R 30 [S N 0 0, I J 0], W (af (cf) 63) G c.1.b_ [S g c.1.b_.length h], W (af (da) 9) L c.1.k_ [S j c.1.k_.length k], b X 27 [S l d.1.b_.length m, S o d.1.k_.length p], Res.nil, W (af (cf) 63) Z d.1.b_ [S l d.1.b_.length m], W (af (da) 9) a3 d.1.k_ [S o d.1.k_.length p], Res.nil]) bT (by kernel_rfl) (aV be) (sm [y, y, y, y, y, y, y, y, n] z) <| br z (ax z) (rx 0 4 _ z bU z) <| oP z <| br z (ax z) (rx 0 4 _ z bU z) <| bE H fun q c5 H => aq z Co z z z z (fun e a => oD e c5 (a.carve [8] z z) (rdB [8] z z a t) (ah (rdO 6 [8] z a z z) (rdO 7 [8] z a z z))) fun e3 e F a b0 => ?_
  obtain ⟨A, e4, C, c6, rfl, M⟩ := b0
  obtain rfl := aH (i := 0) M z
  refine ⟨St w f [_, _, _, _, _, _, _, _, _, _, _], a.comp [8] z z M, (sm [y, y, y, y, y, y, y, y, n] z), ?_⟩
  exact aJ <| iY <| sC 0 [S l d.1.b_.length m, S o d.1.k_.length p] [_, _] 0 z bU z <| sC 0 [S A q.1.a_.length C, I J q.1.j_] [_, _] 1 z bv z <| nT <| aY (rs := [.cell 2 27, .cell 3 30]) (vs := [.agg #[S l d.1.b_.length m, S o d.1.k_.length p], .agg #[S A q.1.a_.length C, I J q.1.j_]]) z ⟨⟨_, [S l d.1.b_.length m, S o d.1.k_.length p], _, _, _, z, bU, (bl (T := 27) 0 (bK (i := 0) z) z), z, z⟩, ⟨_, [S A q.1.a_.length C, I J q.1.j_], _, _, _, z, bv, (bl (T := 30) 0 (bK (i := 1) z) z), z, z⟩, Y⟩ (fun w' hw' => by
   obtain rfl := ai H
   exact ⟨_, z, l, d.1.b_.length, m, Z, o, d.1.k_.length, p, a3, A, q.1.a_.length, C, c6, z, hw'.sel [6, 7, 9] z z⟩)
 ·refine aw <| az <| ak <| CW.weak (C' := St w f [_, _, _, _, _, _]) ?_ (ss [0, 1, 3, 4, 6, 7] z z)
  refine cW 4 [(0, y), (1, y), (2, y), (3, n)] (St w f [b Q 27 [S N 0 0, S N 0 0], b R 30 [S N 0 0, I J 0], W (af (cf) 63) G c.1.b_ [S g c.1.b_.length h], W (af (da) 9) L c.1.k_ [S j c.1.k_.length k], b X 27 [S g c.1.b_.length h, S j c.1.k_.length k], Res.nil]) bT (by kernel_rfl) (aV be) (sm [y, y, y, y, y, n] z) <| br z (ax z) (rx 0 4 _ z bU z) <| oP z <| br z (ax z) (rx 0 4 _ z bU z) <| bE H fun s c7 H => aq z Co z z z z (fun e a => oD e c7 (a.carve [5] z z) (rdB [5] z z a t) (ah (rdO 2 [5] z a z z) (rdO 3 [5] z a z z))) fun e5 e F a b1 => ?_
  obtain ⟨D, e6, E, c8, rfl, P⟩ := b1
  obtain rfl := aH (i := 0) P z
  refine ⟨St w f [_, _, _, _, _, _, _, _], a.comp [5] z z P, (sm [y, y, y, y, y, n] z), ?_⟩
  exact aJ <| iY <| sC 0 [S g c.1.b_.length h, S j c.1.k_.length k] [_, _] 0 z bU z <| sC 0 [S D s.1.a_.length E, I J s.1.j_] [_, _] 1 z bv z <| nT <| aY (rs := [.cell 2 27, .cell 3 30]) (vs := [.agg #[S g c.1.b_.length h, S j c.1.k_.length k], .agg #[S D s.1.a_.length E, I J s.1.j_]]) z ⟨⟨_, [S g c.1.b_.length h, S j c.1.k_.length k], _, _, _, z, bU, (bl (T := 27) 0 (bK (i := 0) z) z), z, z⟩, ⟨_, [S D s.1.a_.length E, I J s.1.j_], _, _, _, z, bv, (bl (T := 30) 0 (bK (i := 1) z) z), z, z⟩, Y⟩ (fun w' hw' => by
   obtain rfl := ai H
   exact ⟨_, z, g, c.1.b_.length, h, G, j, c.1.k_.length, k, L, D, s.1.a_.length, E, c8, z, hw'.sel [2, 3, 6] z z⟩)
theorem pl (w : World) {l : List Nat} {p0 : List Int} {a_0 : Option Addr} {n_0 c_0 : Nat} {r : ae × aj} (H : iv p0 = U r) (HS : St w l [] w) (p : (af e8 5).rd w l p0 [S a_0 n_0 c_0]) :
    Calls Tryz.prog 18 #[S a_0 n_0 c_0] w (fun en w' => ∃ v, en = .returned v ∧ ∃ (q : Option Addr), ∃ (s : Nat), ∃ (c0 : Nat), ∃ (G : List Nat), ∃ (t : Option Addr), ∃ (u : Nat), ∃ (c1 : Nat), ∃ (L : List Nat), ∃ (x : Option Addr), ∃ (A : Nat), ∃ (c2 : Nat), ∃ (M : List Nat), v = .tuple #[.agg #[S q s c0, S t u c1], .agg #[S x A c2, I J r.2.j_]] ∧ St w l [W (af (cf) 63) G r.1.b_ [S q s c0], W (af (da) 9) L r.1.k_ [S t u c1], W (af (aD) 71) M r.2.a_ [S x A c2]] w') := by
 obtain rfl := ee p
 unfold iv at H
 refine aG Tryz.func18 z Tryz.ntmps18 z (HS) <| sR <| aC z z z z bU (fun _ => kp) fun P => aC z z z z bv (fun _ => kp) fun Q => nR <| oP z <| bE H fun a C H => aq z DW z z z z (fun m d => qm m C (d.carve [] z z) (ab p m d)) fun R m w2 d o => ?_
 obtain ⟨e, X, f, D, g, Z, h, E, j, a3, k, F, rfl, c⟩ := o
 obtain rfl := aH (i := 0) c z
 obtain rfl := aH (i := 1) c z
 obtain rfl := aH (i := 2) c z
 refine ⟨St w l [_, _, _, _, _], d.comp [] z z c, fun _ _ => Y, ?_⟩
 exact oPP z <| sC 0 [S e a.1.b_.length f, S g a.1.k_.length h] [_, _] 0 z bU z <| sC 0 [S j a.2.a_.length k, I J a.2.j_] [_, _] 1 z bv z <| nT <| aY (rs := [.cell 2 27, .cell 3 30]) (vs := [.agg #[S e a.1.b_.length f, S g a.1.k_.length h], .agg #[S j a.2.a_.length k, I J a.2.j_]]) z ⟨⟨_, [S e a.1.b_.length f, S g a.1.k_.length h], _, _, _, z, bU, (bl (T := 27) 0 (bK (i := 0) z) z), z, z⟩, ⟨_, [S j a.2.a_.length k, I J a.2.j_], _, _, _, z, bv, (bl (T := 30) 0 (bK (i := 1) z) z), z, z⟩, Y⟩ (fun w' hw' => by
  obtain rfl := ai H
  exact ⟨_, z, e, a.1.b_.length, f, D, g, a.1.k_.length, h, E, j, a.2.a_.length, k, F, z, hw'.sel [2, 3, 4] z z⟩)
theorem rL (w : World) {d : List Nat} {p0 : List Int} {a_0 : Option Addr} {n_0 c_0 : Nat} {r : List Int} (H : mv p0 = U r) (HS : St w d [] w) (f : (af e8 5).rd w d p0 [S a_0 n_0 c_0]) :
    Calls Tryz.prog 49 #[S a_0 n_0 c_0] w (fun en w' => ∃ v, en = .returned v ∧ ∃ (q : Option Addr), ∃ (s : Nat), ∃ (c0 : Nat), ∃ (D : List Nat), v = S q s c0 ∧ St w d [W (af e8 5) D r [S q s c0]] w') := by
 obtain rfl := ee f
 unfold mv at H
 refine aG Tryz.func49 z Tryz.ntmps49 z (HS) <| sR <| oP z <| nR <| oP z <| bE H fun E t H => aq z CR z z z z (fun c a => pS c t (a.carve [] z z) (ab f c a)) fun F c u a k => ?_
 obtain ⟨G, rfl, l⟩ := k
 refine ⟨St w d [_], a.comp [] z z l, fun _ _ => Y, ?_⟩
 refine oP z <| nR <| oPP z <| bA (val := I J) (h1 := fun _ => z) [0, 1, 4, 9, 40] [(0, [I J 0]), (1, [I J 1]), (2, [I J 4]), (3, [I J 9]), (4, [I J 40])] z z z z z aO ty3 z z z ⟨z, z, nl z, z, z, nl z, z, z, nl z, z, z, nl z, z, z, nl z, Y⟩ z z (fun _ => kp) fun L => bE H fun M x H => aq z jk z z z z (fun c a => aW c x (a.carve [0] z z) (rdB [0] z z a f) (rdO 1 [0] z a z z)) fun P c u a m => ?_
 obtain ⟨rfl, o⟩ := m
 refine ⟨St w d [_, _, _], a.comp [0] z z o, fun _ _ => Y, ?_⟩
 refine bE H fun g A H => aq z CI z z z z (fun c a => nG c A (a.carve [2] z z) (rdB [2] z z a f)) fun Q c u a p => ?_
 obtain ⟨h, R, j, C, rfl, e⟩ := p
 obtain rfl := aH (i := 0) e z
 refine ⟨St w d [_, _, _, _, _], a.comp [2] z z e, fun _ _ => Y, ?_⟩
 exact oP z <| nT <| aY (rs := [.tmp 2]) (vs := [S h g.1.length j]) z ⟨z, Y⟩ (fun w' hw' => by
  obtain rfl := ai H
  exact ⟨_, z, h, g.1.length, j, C, z, hw'.sel [3] z z⟩)
theorem pM (w : World) {d : List Nat} {p0 : List Int} {a_0 : Option Addr} {n_0 c_0 : Nat} {r : List Int} (H : iZ p0 = U r) (HS : St w d [] w) (k : (af e8 5).rd w d p0 [S a_0 n_0 c_0]) :
    Calls Tryz.prog 19 #[S a_0 n_0 c_0] w (fun en w' => ∃ v, en = .returned v ∧ ∃ (l : Option Addr), ∃ (m : Nat), ∃ (c0 : Nat), ∃ (q : List Nat), v = S l m c0 ∧ St w d [W (af e8 5) q r [S l m c0]] w') := by
 obtain rfl := ee k
 unfold iZ at H
 refine aG Tryz.func19 z Tryz.ntmps19 z (HS) <| sR <| oP z <| nR <| oP z <| bE H fun e o H => aq z Dv z z z z (fun h a => rL h o (a.carve [] z z) (ab k h a)) fun s h u a j => ?_
 obtain ⟨f, t, g, p, rfl, c⟩ := j
 obtain rfl := aH (i := 0) c z
 refine ⟨St w d [_], a.comp [] z z c, fun _ _ => Y, ?_⟩
 exact oP z <| nT <| aY (rs := [.tmp 2]) (vs := [S f e.length g]) z ⟨z, Y⟩ (fun w' hw' => by
  obtain rfl := ai H
  exact ⟨_, z, f, e.length, g, p, z, hw'.sel [0] z z⟩)
theorem cE (w : World) {p0 : Int} {p1 : Int} {p2 : Int} {r : Bool} (H : bL p0 p1 p2 = U r)   :
    Calls Tryz.prog 39 #[I J p0, I J p1, I J p2] w (fun en w' => en = .returned (B r) ∧ Ext [] w w') := by
 unfold bL at H
 refine aG Tryz.func39 z Tryz.ntmps39 z (St.init w []) <| sR <| oP z <| nR <| aa [.p, .p, .p, .p] z <| aQ [(14, B ((decide (p0 ≥ p1)) && (decide (p0 ≤ p2)))), (6, B n)] 4 ?_ (fun key => OW.sub (R := [(0, I J p0), (2, I J p2), (6, B n), (10, B (decide (p0 ≥ p1)))]) ?_ (sb z))
 ·exact oP z <| nT <| xr 6 z (by cases H; exact q1)
 ·generalize (decide (p0 ≥ p1)) = a at key ⊢
  cases a
  ·exact aa [.p, .p, .p, .p] z <| OW.sub key (sb z)
  ·exact aa [.p, .p, .p] z <| oP z <| OW.sub key (sb z)
theorem oT (w : World) {p0 : List UInt8} {r : Bool} (H : kN p0 = U r)   :
    Calls Tryz.prog 106 #[vS p0] w (fun en w' => en = .returned (B r) ∧ Ext [] w w') := by
 unfold kN at H
 refine aG Tryz.func106 z Tryz.ntmps106 z (St.init w []) <| sR <| oP z <| nQ <| ak <| sR <| aa [.p, .lenT 9 st9] z <| bE H fun l f H => oq z (qc z oR (fun k m => cE k f)) tt2 <| oP z <| nQ <| cI H z (fun H => ?_) (fun H => ?_)
 ·exact sR <| oP z <| nT <| ap <| xr 2 z (by cases H; exact q1)
 ·refine aw <| az <| ak <| sR <| aa [.p, .lenT 9 st9, .p] z <| nQ <| aB <| CW.at (fL (fun (a : Int) => St w [] []) (fun a => [(0, vS p0), (9, I J (p0.length : Int)), (10, I J a)]) (fun kk => fun a => gS p0 kk a = U r) (fun _ H => ?_) (fun q e a H => ?_) bh (0) (H)) (ss [] z z) (sb z)
  ·unfold gS at H
   exact absurd H (by simp)
  ·unfold gS at H
   refine sR <| oP z <| nQ <| ak <| cI H z (fun H => ?_) (fun H => ?_)
   ·refine aw <| az <| ak <| aB <| sR <| oPP z <| nR <| oPP z <| bE H fun d g H => o1 z (lO (s := p0) z z z st9 g) <| oPP z <| bE H fun h c H => aQ [(22, B h), (0, vS p0), (9, I J (p0.length : Int)), (10, I J a)] 5 ?_ (fun key => OW.sub (R := [(0, vS p0), (3, I J a), (9, I J (p0.length : Int)), (10, I J a), (17, B (decide ((d.toNat : Int) < 97)))]) ?_ (sb z))
    ·refine nQ <| cI H z (fun H => ?_) (fun H => ?_)
     ·exact sR <| oP z <| nT <| aP <| ap <| bZ <| aP <| ap <| xr 2 z (by cases H; exact q1)
     ·exact aw <| ca <| az <| aT <| oPP z <| ay <| cQ (RW.at (e (J.wrap (a + 1)) (H)) (ss [] z z) (sb z))
    ·clear H
     have H := c
     clear c
     generalize (decide ((d.toNat : Int) < 97)) = i at H key ⊢
     cases i
     ·have H := ba z H
      refine oPP z <| bE H fun o j H => o1 z (lO (s := p0) z z z st9 j) <| oP z <| oP z <| ?_
      obtain rfl := ai H
      exact OW.sub key (sb z)
     ·have H := bb z H
      refine aa [.p, .p, .p, .p, .p] z ?_
      obtain rfl := ai H
      exact OW.sub key (sb z)
   ·exact bH <| aN <| aS <| aM <| az <| sR <| oP z <| nT <| xr 2 z (by cases H; exact q1)
theorem kc (w : World) {p0 : List (List UInt8)} {p1 : List UInt8} {a_0 : Option Addr} {n_0 c_0 : Nat} {r : Int} (H : dR p0 p1 = U r) (d : (af (da) 9).rd w [] p0 [S a_0 n_0 c_0]) :
    Calls Tryz.prog 132 #[S a_0 n_0 c_0, vS p1] w (fun en w' => en = .returned (I J r) ∧ Ext [] w w') := by
 obtain rfl := ee d
 unfold dR at H
 refine aG Tryz.func132 z Tryz.ntmps132 z (St.init w []) <| sR <| oP z <| nQ <| ak <| sR <| aa [.p, .lenS 25 9 ek, .p] z <| nQ <| aB <| CW.at (fL (fun (a : Int) => St w [] []) (fun a => [(0, S a_0 p0.length c_0), (1, vS p1), (7, I J (p0.length : Int)), (8, I J a)]) (fun kk => fun a => cm p0 p1 kk a = U r) (fun _ H => ?_) (fun h f a H => ?_) bh (0) (H)) (ss [] z z) (sb z)
 ·unfold cm at H
  exact absurd H (by simp)
 ·unfold cm at H
  refine sR <| oP z <| nQ <| ak <| cI H z (fun H => ?_) (fun H => ?_)
  ·refine aw <| az <| ak <| aB <| sR <| oPP z <| nR <| aa [.p, .p, .p] z <| bE H fun g c H => bq (e := da) (xs := p0) (j := a) z z z z z ek ty9 z (ab d) c (by rw [Nat.mul_one]) <| o1 z (aF z z ty9 (bC (ab d) c)) <| oP z <| nQ <| cI H z (fun H => ?_) (fun H => ?_)
   ·exact sR <| oPP z <| nT <| aP <| ap <| bZ <| aP <| ap <| xr 4 z (by cases H; exact q1)
   ·exact aw <| ca <| az <| aT <| oPP z <| ay <| cQ (RW.at (f (J.wrap (a + 1)) (H)) (ss [] z z) (sb z))
  ·exact bH <| aN <| aS <| aM <| az <| sR <| oP z <| nT <| xr 4 z (by cases H; exact q1)
theorem jy (w : World) {p0 : List (List UInt8)} {p1 : List UInt8} {a_0 : Option Addr} {n_0 c_0 : Nat} {r : Bool} (H : du p0 p1 = U r) (a : (af (da) 9).rd w [] p0 [S a_0 n_0 c_0]) :
    Calls Tryz.prog 109 #[S a_0 n_0 c_0, vS p1] w (fun en w' => en = .returned (B r) ∧ Ext [] w w') := by
 obtain rfl := ee a
 unfold du at H
 exact aG Tryz.func109 z Tryz.ntmps109 z (St.init w []) <| sR <| oP z <| nR <| oPP z <| bE H fun f c H => oq z (qc z Ce (fun d e => kc d c (ab a d e))) tt2 <| oPP z <| nT <| xr 4 z (by cases H; exact q1)
end Go.Vk
