/- The code does what the functions of data say. Printed by program. -/
import Derived.Test.YtdckhcfbccnjiaaGreatDoorWWyE
namespace Go.Vk
open Value renaming int → I, slice → S, pointer → O, bool → B
open IntKind renaming i64 → J, u8 → K
open Bool renaming true → y, false → n
open Option renaming some → U, none → N
open Res renaming box → b, own → W
open Go.Proofs Go.RowKit
set_option maxHeartbeats 4000000
set_option maxRecDepth 100000
theorem ph (w : World) {p0 : ab} {p1 : aq} {p2 : Int} {k : List Value} {r : Int} (H : km p0 p1 p2 = U r) (g0 : (aJ).rd w [] p0 k) :
    Calls Tryz.prog 66 #[.agg k.toArray, .agg #[I J p1.j_, I J p1.c_], I J p2] w (fun en w' => en = .returned (I J r) ∧ Ext [] w w') := by
 obtain ⟨a6, a7, rfl, d, l⟩ := aB g0
 obtain ⟨a8, a9, rfl⟩ := aj d
 obtain ⟨b0, b1, rfl⟩ := aj l
 unfold km at H
 refine aH Tryz.func66 z Tryz.ntmps66 z (St.init w []) <| sR <| ob _ z fun f => ob _ z fun e => oP z <| nQ <| ak <| sR <| o1 z (rx 0 0 _ z cg z) <| o1 z (rx 0 1 _ z cM z) <| bE H fun m x H => oq z (qc z EV (fun c a => pX c (p1 := p1) x (af (ad d c a) (ad l c a)))) tt2 <| oPP z <| bE H fun A g H => aS [(23, B A), (2, I J p2), (3, O (U ⟨f, 0, N⟩)), (4, O (U ⟨e, 0, N⟩))] 12 ?_ (fun key => OW.sub (R := [(2, I J p2), (3, O (U ⟨f, 0, N⟩)), (4, O (U ⟨e, 0, N⟩)), (11, B (!m))]) ?_ (sb z))
 ·refine nQ <| cI H z (fun H => ?_) (fun H => ?_)
  ·exact sR <| oP z <| nT <| am <| xr 6 z (by cases H; exact q1)
  ·refine ar <| ax <| ak <| az <| sR <| aa [.fa 66 1 1 mR] z <| o1 z (r1 1 1 z ty3 z) <| oPP z <| nQ <| cI H z (fun H => ?_) (fun H => ?_)
   ·exact sR <| oPP z <| nT <| aL <| am <| xr 6 z (by cases H; exact q1)
   ·refine sR <| aa [.p, .fa 66 1 1 mR] z <| o1 z (r1 1 1 z ty3 z) <| oPP z <| bE H fun C h H => aS [(50, B C)] 16 ?_ (fun key => OW.sub (R := [(2, I J p2), (3, O (U ⟨f, 0, N⟩)), (4, O (U ⟨e, 0, N⟩)), (34, B (p2 == p1.c_))]) ?_ (sb z))
    ·refine oP z <| nQ <| cI H z (fun H => ?_) (fun H => ?_)
     ·exact sR <| oP z <| nT <| aL <| am <| xr 6 z (by cases H; exact q1)
     ·exact ar <| cd <| ax <| sR <| oP z <| nT <| xr 6 z (by cases H; exact q1)
    ·clear H
     have H := h
     clear h
     generalize (p2 == p1.c_) = D at H key ⊢
     cases D
     ·have H := ba z H
      refine aa [.fa 27 0 0 cY] z <| o1 z (r1 0 0 z hZ z) <| aa [.fa 66 0 0 jI] z <| o1 z (r1 0 1 z ty3 z) <| bE H fun i E H => cn z z z z z gD dD z d E fun b2 b3 s t => ?_
      obtain ⟨b4, b5, b6, rfl, F, G, L⟩ := bA s
      obtain rfl := F
      obtain ⟨b7, b8, rfl⟩ := aj G
      obtain ⟨b9, c0, rfl⟩ := aj L
      refine aa [.fa 63 1 1 iY] z <| o1 z (aD z z cq (bW bor (lz t 1 1))) <| aa [.lenS 31 3 aP, .p, .p] z <| aS [(49, B ((decide ((i.u_.length : Int) > 0)) && (decide (p2 < p1.c_)))), (34, B n)] 5 ?_ (fun key => OW.sub (R := [(2, I J p2), (4, O (U ⟨e, 0, N⟩)), (34, B n), (44, B (decide ((i.u_.length : Int) > 0)))]) ?_ (sb z))
      ·refine aa [.p] z ?_
       obtain rfl := ai H
       exact OW.sub key ⟨z, Y⟩
      ·generalize (decide ((i.u_.length : Int) > 0)) = M at key ⊢
       cases M
       ·exact aa [.p, .p, .p, .p, .p] z <| OW.sub key (sb z)
       ·exact aa [.p, .fa 66 1 1 mR] z <| o1 z (r1 1 1 z ty3 z) <| oP z <| oP z <| OW.sub key (sb z)
     ·have H := aZ z H
      refine aa [.p, .p, .p, .p, .p, .p, .p, .p, .p, .p, .p, .p, .p, .p, .p, .p] z ?_
      obtain rfl := ai H
      exact OW.sub key ⟨z, Y⟩
 ·clear H
  have H := g
  clear g
  generalize (!m) = P at H key ⊢
  cases P
  ·have H := ba z H
   refine aa [.p, .fa 27 0 0 cY] z <| o1 z (r1 0 0 z hZ z) <| aa [.fa 66 0 0 jI] z <| o1 z (r1 0 1 z ty3 z) <| bE H fun j Q H => cn z z z z z gD dD z d Q fun c1 c2 u v => ?_
   obtain ⟨c3, c4, c5, rfl, X, o, q⟩ := bA u
   obtain rfl := X
   obtain ⟨Z, a0, rfl⟩ := aj o
   obtain ⟨a1, a2, rfl⟩ := aj q
   refine o1 z (cA (cs := [vS j.B_, S Z j.u_.length a0, S a1 j.A_.length a2]) z z dD (bW bor v) z) <| bE H fun c6 a3 H => oq z (qc z vf (fun c a => gE c a3 (bO z (ad o c a) (ad q c a)))) tt2 <| oP z <| bE H fun c7 a4 H => oq z (qc z nP (fun c a => ck c a4)) tt2 <| oP z <| oP z <| ?_
   obtain rfl := ai H
   exact OW.sub key (sb z)
  ·have H := aZ z H
   refine aa [.p, .p, .p, .p, .p, .p, .p, .p, .p, .p, .p, .p] z ?_
   obtain rfl := ai H
   exact OW.sub key (sb z)
theorem rq (w : World) {p0 : ab} {p1 : aT} {p2 : Int} {i : List Value} {j : List Value} {r : Int} (H : ki p0 p1 p2 = U r) (g0 : (aJ).rd w [] p0 i) (g1 : (aC).rd w [] p1 j) :
    Calls Tryz.prog 30 #[.agg i.toArray, .agg j.toArray, I J p2] w (fun en w' => en = .returned (I J r) ∧ Ext [] w w') := by
 obtain ⟨c1, c2, rfl, f, k⟩ := aB g0
 obtain ⟨v, x, rfl⟩ := aj f
 obtain ⟨A, C, rfl⟩ := aj k
 obtain ⟨c3, c4, c5, c6, c7, c8, c9, d0, d1, d2, rfl, D, E, F, G, L, M, P, Q, R, X⟩ := bj g1
 obtain rfl := D
 obtain rfl := E
 obtain ⟨Z, a0, rfl⟩ := aj F
 obtain rfl := G
 obtain ⟨d3, d4, rfl, a1, a2⟩ := aK L
 obtain ⟨a3, a4, rfl⟩ := aj a1
 obtain ⟨a5, a6, rfl⟩ := aj a2
 obtain rfl := M
 obtain ⟨a7, a8, rfl⟩ := aj P
 obtain rfl := Q
 obtain rfl := R
 obtain rfl := X
 unfold ki at H
 refine aH Tryz.func30 z Tryz.ntmps30 z (St.init w []) <| sR <| ob _ z fun l => ob _ z fun m => oP z <| nR <| oP z <| nQ <| ak <| sR <| aa [.fa 27 0 0 cY] z <| o1 z (r1 0 0 z hZ z) <| aa [.fa 71 1 1 mf, .fa 66 0 0 jI] z <| o1 z (r1 1 1 z ty3 z) <| bE H fun g a9 H => cn z z z z z gD dD z f a9 fun d5 d6 t u => ?_
 obtain ⟨d7, d8, d9, rfl, b0, o, q⟩ := bA t
 obtain rfl := b0
 obtain ⟨b1, b2, rfl⟩ := aj o
 obtain ⟨b3, b4, rfl⟩ := aj q
 refine o1 z (cA (cs := [vS g.B_, S b1 g.u_.length b2, S b3 g.A_.length b4]) z z dD (bW bor u) z) <| bE H fun s b5 H => oq z (qc z vf (fun e d => gE e b5 (bO z (ad o e d) (ad q e d)))) tt2 <| oP z <| nQ <| az <| CW.at (hI (fun (a : Int) (c : Int) => St w [] [b l 27 [S v p0.b_.length x, S A p0.l_.length C], b m 71 [B p1.q_, I J p1.g_.j_, I J p1.g_.c_, S Z p1.r_.length a0, I J p1.w_, S a3 p1.n_.e_.length a4, S a5 p1.n_.d_.length a6, I J p1.x_, S a7 p1.b_.length a8, I J p1.m_, I J p1.p_, I J p1.s_]]) (fun a c => [(2, I J p2), (3, O (U ⟨l, 0, N⟩)), (4, O (U ⟨m, 0, N⟩)), (7, I J c), (16, I J s), (17, I J a)]) (fun kk => fun a c => cX s p0 p1 p2 kk a c = U r) (fun _ _ H => ?_) (fun k1 h a c H => ?_) be (0) (0) (H)) (ss [0, 1] z z) (sb z)
 ·unfold cX at H
  exact absurd H (by simp)
 ·unfold cX at H
  refine sR <| oP z <| nQ <| ak <| cI H z (fun H => ?_) (fun H => ?_)
  ·refine ar <| ax <| ak <| az <| sR <| oPP z <| nR <| o1 z (rx 0 0 _ z cg z) <| aa [.fa 71 1 1 mf] z <| o1 z (rx 1 1 _ z cM z) <| oP z <| bE H fun e0 b6 H => oq z (qc z EQ (fun e d => ph e (p1 := p1.g_) b6 (af (ad f e d) (ad k e d)))) tt2 <| oPP z <| nQ <| cI H z (fun H => ?_) (fun H => ?_)
   ·exact aW <| oPP z <| bE H fun b7 b8 H => o1 z (xR z z z b8) <| oPP z <| ay <| cd <| ax <| aW <| oPP z <| ay <| cD (RW.at (h (J.wrap (a + 1)) (bi .or J c b7) (H)) (ss [0, 1] z z) (sb z))
   ·exact ar <| cd <| ax <| aW <| oPP z <| ay <| cD (RW.at (h (J.wrap (a + 1)) (c) (H)) (ss [0, 1] z z) (sb z))
  ·refine bF <| aN <| aR <| aO <| ax <| ak <| sR <| aa [.fa 71 3 4 pR] z <| o1 z (r1 4 1 z ty3 z) <| oPP z <| nQ <| cI H z (fun H => ?_) (fun H => ?_)
   ·exact aW <| aa [.p, .p, .p] z <| nR <| oPP z <| nT <| xr 6 z (by cases H; exact q1)
   ·exact ar <| ax <| sR <| oPP z <| nT <| xr 6 z (by cases H; exact q1)
theorem uA (w : World) {R : List Nat} {p0 : ab} {p1 : ah} {j9 : List Value} {k0 : List Value} {r : List bf} (H : kx p0 p1 = U r) (HS : St w R [] w) (g0 : (aJ).rd w R p0 j9) (g1 : (cz).rd w R p1 k0) :
    Calls Tryz.prog 7 #[.agg j9.toArray, .agg k0.toArray] w (fun en w' => ∃ v, en = .returned v ∧ ∃ (a0 : Option Addr), ∃ (n0 : Nat), ∃ (c0 : Nat), ∃ (F0 : List Nat), v = S a0 n0 c0 ∧ St w R [W (ae (dA) 41) F0 r [S a0 n0 c0]] w') := by
 obtain ⟨t5, t6, rfl, b3, d5⟩ := aB g0
 obtain ⟨X, Z, rfl⟩ := aj b3
 obtain ⟨a8, a9, rfl⟩ := aj d5
 obtain ⟨t7, t8, rfl, a1, l1⟩ := bZ g1
 obtain ⟨b0, b1, rfl⟩ := aj a1
 obtain rfl := l1
 unfold kx at H
 refine aH Tryz.func7 z Tryz.ntmps7 z (HS) <| sR <| ob _ z fun L => ob _ z fun M => oP z <| nQ <| ak <| sR <| o1 z (rx 0 0 _ z cg z) <| o1 z (rx 0 1 _ z bx z) <| bE H fun t9 l2 H => oq z (qc z Fz (fun t f => qe t l2 (af (ad b3 t f) (ad d5 t f)) (aM (ad a1 t f) z))) tt2 <| oP z <| nQ <| cI H z (fun H => ?_) (fun H => ?_)
 ·exact sR <| oP z <| nT <| am <| fq (fun _ h => St.pushNil (e := dA) (T := 41) h) <| bg (rs := [.tmp 4]) (vs := [S N 0 0]) z ⟨z, Y⟩ (fun w' hw' => by
   obtain rfl := ai H
   exact ⟨_, z, N, 0, 0, [], z, hw'.sel [2] z z⟩)
 ·refine ar <| ax <| sR <| ce (e := dA) z z z z uh pA (fun _ => kp) fun k4 => oP z <| nQ <| ak <| sR <| o1 z (rx 0 1 _ z bx z) <| bE H fun m l3 H => au z FF z z z z (fun t f => qz t l3 (f.carve [] z z) (aM (ad a1 t f) z)) fun u0 t w2 f k5 => ?_
  obtain ⟨P, u1, Q, b2, rfl, d6⟩ := k5
  obtain rfl := aI (i := 0) d6 z
  refine ⟨St w R [_, _, _, _], f.comp [] z z d6, fun _ _ => Y, ?_⟩
  refine aa [.lenS 31 3 aP, .p] z <| nQ <| az <| CW.at (iX (fun (A : Int) (d : List bf) (o : Option Addr) (s : Nat) (C : List Nat) => St w R [W (ae eI 3) b2 m [S P m.length Q], b L 27 [S X p0.b_.length Z, S a8 p0.l_.length a9], b M 30 [S b0 p1.a_.length b1, I J p1.k_], W (ae (dA) 41) C d [S o d.length s]]) (fun A d o s C => [(2, O (U ⟨L, 0, N⟩)), (3, O (U ⟨M, 0, N⟩)), (5, S o d.length s), (19, S P m.length Q), (20, I J (m.length : Int)), (21, I J A)]) (fun kk => fun A d o s C => cF m p0 p1 kk A d = U r) (fun _ _ _ _ _ H => ?_) (fun k1 k6 A d o s C H => ?_) be (0) (([] : List bf)) ((U ⟨k4, 0, N⟩)) (0) ([k4]) (H)) (ss [3, 0, 1, 2] z z) (sb z)
  ·unfold cF at H
   exact absurd H (by simp)
  ·unfold cF at H
   refine sR <| oP z <| nQ <| ak <| cI H z (fun H => ?_) (fun H => ?_)
   ·refine ar <| ax <| ak <| az <| sR <| bE H fun g b4 H => bo (e := eI) (xs := m) (j := A) z z z z z aP ty3 z (ap (e := ae eI 3) (r := 0) z) b4 (by rw [Nat.mul_one]) <| o1 z (aD z z ty3 (bD (ap (e := ae eI 3) (r := 0) z) b4)) <| oP z <| nR <| oP z <| o1 z (bL [(0, [I J g])] [I J g, S N 0 0] z z pA Gh z ⟨z, z, nl z, Y⟩ z) <| aA z z z z pA (fun _ => kp) fun E => sC 0 [I J g, S N 0 0] [_, _] 4 z pA z <| nQ <| ak <| sR <| aa [.fa 27 0 0 cY] z <| o1 z (r1 0 1 z hZ z) <| aa [.lenS 24 63 gD, .p] z <| nQ <| az <| CW.weak ?_ (fun _ h => St.pushNil (e := eI) (T := 3) h)
    refine CW.at (iX (fun (F : Int) (c : List Int) (k : Option Addr) (l : Nat) (D : List Nat) => St w R [W (ae eI 3) b2 m [S P m.length Q], b L 27 [S X p0.b_.length Z, S a8 p0.l_.length a9], b M 30 [S b0 p1.a_.length b1, I J p1.k_], W (ae (dA) 41) C d [S o d.length s], b E 41 [I J g, S k c.length l], W (ae eI 3) D c [S k c.length l]]) (fun F c k l D => [(2, O (U ⟨L, 0, N⟩)), (3, O (U ⟨M, 0, N⟩)), (5, S o d.length s), (7, I J g), (8, O (U ⟨E, 0, N⟩)), (19, S P m.length Q), (20, I J (m.length : Int)), (21, I J A), (28, S X p0.b_.length Z), (29, I J (p0.b_.length : Int)), (30, I J F)]) (fun kk => fun F c k l D => ef p0 p1 d g (cF m p0 p1 k1) A kk F c = U r) (fun _ _ _ _ _ H => ?_) (fun k2 k7 F c k l D H => ?_) be (0) (([] : List Int)) (N) (0) ([]) (H)) (ss [0, 1, 2, 3, 4, 5] z z) (sb z)
    ·unfold ef at H
     exact absurd H (by simp)
    ·unfold ef at H
     refine sR <| oP z <| nQ <| ak <| cI H z (fun H => ?_) (fun H => ?_)
     ·refine ar <| ax <| ak <| az <| sR <| bE H fun u e5 H => cn z z z z z gD dD z b3 e5 fun l6 l7 d7 d8 => ?_
      obtain ⟨l8, l9, m0, rfl, e6, b5, b6⟩ := bA d7
      obtain rfl := e6
      obtain ⟨a2, a3, rfl⟩ := aj b5
      obtain ⟨a4, a5, rfl⟩ := aj b6
      exact o1 z (cA (cs := [vS u.B_, S a2 u.u_.length a3, S a4 u.A_.length a5]) z z dD (bW bor d8) z) <| aA z z z z dD (fun _ => kp) fun e7 => sC 0 [vS u.B_, S a2 u.u_.length a3, S a4 u.A_.length a5] [_, _, _] 6 z dD z <| nQ <| dj 5 [(0, y), (1, y), (2, y), (3, n), (4, n)] (St w R [W (ae eI 3) b2 m [S P m.length Q], b L 27 [S X p0.b_.length Z, S a8 p0.l_.length a9], b M 30 [S b0 p1.a_.length b1, I J p1.k_], W (ae (dA) 41) C d [S o d.length s], b E 41 [I J g, S k c.length l], W (ae eI 3) D c [S k c.length l], b e7 63 [vS u.B_, S a2 u.u_.length a3, S a4 u.A_.length a5]]) cj (by kernel_rfl) (bv (aX (dI (bv (aX (bv (aX (dI (bv (aX bn)))))))))) (tk 7 z) <| aa [.fa 41 1 1 pZ] z <| bu z (aw z) (r1 1 4 z cq z) <| bu z (aw z) (rx 0 6 _ z dD z) <| bE H fun a6 e9 H => oq z (qc z DW (fun t f => mK t e9 (bO z (ad b5 t f) (ad b6 t f)))) (tk 7 z) <| bQ (val := I J) (h1 := fun _ => z) [a6] [(0, [I J a6])] z z z z z aP ty3 z z z ⟨z, z, nl z, Y⟩ z z (fun _ => (tk 7 z)) fun m1 => aQ <| kd <| bE H fun b7 b8 H => cm (r := 5) (ys := ([a6] : List Int)) z z z z z z aP ty3 z z z (ap (e := ae eI 3) (r := 7) z) b8 (fun _ _ _ => kp) fun b9 c1 f0 => ct z (fun t f => fh (i := 5) f z (ff b8)) fun l5 => aa [.fa 41 1 1 pZ] z <| sC 1 [S b9 b7.length c1] [_, _] 4 z cq z <| ay <| cd <| ax <| aW <| oPP z <| ay <| cD (RW.at (k7 (J.wrap (F + 1)) (b7) (b9) (c1) (f0) (H)) (ss [0, 1, 2, 3, 4, 5] z z) (sb z))
     ·refine bF <| aN <| aR <| aO <| ax <| ak <| sR <| oPP z <| nQ <| az <| CW.at (hI (fun (G : Int) (x : List Int) => St w R [W (ae eI 3) b2 m [S P m.length Q], b L 27 [S X p0.b_.length Z, S a8 p0.l_.length a9], b M 30 [S b0 p1.a_.length b1, I J p1.k_], W (ae (dA) 41) C d [S o d.length s], b E 41 [I J g, S k c.length l], W (ae eI 3) D x [S k c.length l]]) (fun G x => [(2, O (U ⟨L, 0, N⟩)), (3, O (U ⟨M, 0, N⟩)), (5, S o d.length s), (8, O (U ⟨E, 0, N⟩)), (11, I J G), (19, S P m.length Q), (20, I J (m.length : Int)), (21, I J A)]) (fun kk => fun G x => gN p1 p0 d g (cF m p0 p1 k1) A kk G x = U r) (fun _ _ H => ?_) (fun k3 k8 G x H => ?_) be (g) (c) (H)) (ss [0, 1, 2, 3, 4, 5] z z) (sb z)
      ·unfold gN at H
       exact absurd H (by simp)
      ·unfold gN at H
       refine ak <| sR <| oPP z <| nQ <| cI H z (fun H => ?_) (fun H => ?_)
       ·refine ar <| ax <| ak <| az <| ak <| dj 11 [(0, y), (1, y), (2, y), (3, y), (4, y), (5, y), (6, y), (7, y), (8, y), (9, y), (10, n)] (St w R [W (ae eI 3) b2 m [S P m.length Q], b L 27 [S X p0.b_.length Z, S a8 p0.l_.length a9], b M 30 [S b0 p1.a_.length b1, I J p1.k_], W (ae (dA) 41) C d [S o d.length s], b E 41 [I J g, S k c.length l], W (ae eI 3) D x [S k c.length l]]) cj (by kernel_rfl) (aX (bv (aX (dI (bv (aX (bv (aX (dI (bv (aX bn))))))))))) (tk 6 z) <| aa [.fa 30 0 0 cc] z <| bu z (aw z) (r1 0 2 z eC z) <| aa [.fa 30 0 0 cc] z <| bu z (aw z) (r1 0 2 z eC z) <| oP z <| bE H fun m2 f1 H => cn z z z z z dX ca z a1 f1 fun m3 m4 d9 e0 => ?_
        obtain ⟨m5, m6, m7, m8, m9, n1, n2, n3, n4, n5, rfl, f2, f3, f4, f5, f6, f7, f8, f9, g2, g3⟩ := bj d9
        obtain rfl := f2
        obtain rfl := f3
        obtain ⟨n6, n7, rfl⟩ := aj f4
        obtain rfl := f5
        obtain ⟨n8, n9, rfl, g4, g5⟩ := aK f6
        obtain ⟨o0, o2, rfl⟩ := aj g4
        obtain ⟨o3, o4, rfl⟩ := aj g5
        obtain rfl := f7
        obtain ⟨o5, o6, rfl⟩ := aj f8
        obtain rfl := f9
        obtain rfl := g2
        obtain rfl := g3
        refine aa [.fa 71 8 10 nz] z <| bu z (aw z) (aD z z ty3 (bW (fun _ h => h.ext) (lz e0 10 1))) <| bE H fun a g6 H => cn z z z z z dX ca z a1 g6 fun o7 o8 e1 e2 => ?_
        obtain ⟨o9, p2, p3, p4, p5, p6, p7, p8, p9, q0, rfl, g7, g8, a7, g9, h0, h2, c2, h3, h4, h5⟩ := bj e1
        obtain rfl := g7
        obtain rfl := g8
        obtain ⟨c3, c4, rfl⟩ := aj a7
        obtain rfl := g9
        obtain ⟨q2, q3, rfl, c5, c6⟩ := aK h0
        obtain ⟨c7, c8, rfl⟩ := aj c5
        obtain ⟨c9, d0, rfl⟩ := aj c6
        obtain rfl := h2
        obtain ⟨d1, d2, rfl⟩ := aj c2
        obtain rfl := h3
        obtain rfl := h4
        obtain rfl := h5
        refine bu z (aw z) (cA (cs := [B a.q_, I J a.g_.j_, I J a.g_.c_, S c3 a.r_.length c4, I J a.w_, S c7 a.n_.e_.length c8, S c9 a.n_.d_.length d0, I J a.x_, S d1 a.b_.length d2, I J a.m_, I J a.p_, I J a.s_]) z z ca (bW (fun _ h => h.ext) e2) z) <| aA z z z z ca (fun _ => (tk 6 z)) fun q4 => aQ <| kd <| sC 0 [B a.q_, I J a.g_.j_, I J a.g_.c_, S c3 a.r_.length c4, I J a.w_, S c7 a.n_.e_.length c8, S c9 a.n_.d_.length d0, I J a.x_, S d1 a.b_.length d2, I J a.m_, I J a.p_, I J a.s_] [_, _, _, _, _, _, _, _, _, _, _, _] 6 z ca z <| nQ <| qA 16 cj (by kernel_rfl) <| aa [.fa 41 1 1 pZ] z <| o1 z (r1 1 4 z cq z) <| aa [.fa 71 1 1 mf, .fa 66 0 0 jI] z <| o1 z (r1 1 6 z ty3 z) <| bE H fun h6 d3 H => bo (e := eI) (xs := x) (j := a.g_.j_) z z z z z aP ty3 z (ap (e := ae eI 3) (r := 5) z) d3 (by rw [Nat.mul_one]) <| o1 z (aD z z ty3 (bD (ap (e := ae eI 3) (r := 5) z) d3)) <| o1 z (rx 0 1 _ z cg z) <| o1 z (rx 0 6 _ z ca z) <| aa [.fa 71 2 3 ik] z <| o1 z (r1 3 6 z cq z) <| oP z <| bE H fun q5 h7 H => oq z (qc z EZ (fun t f => jL t h7 (ad a7 t f))) tt2 <| bE H fun h8 h9 H => oq z (qc z Gx (fun t f => rq t h9 (af (ad b3 t f) (ad d5 t f)) (iQ z z (ad a7 t f) z (aF (ad c5 t f) (ad c6 t f)) z (ad c2 t f) z z z))) tt2 <| oP z <| bE H fun q6 d4 H => bo (e := eI) (xs := x) (j := a.g_.j_) z z z z z aP ty3 z (ap (e := ae eI 3) (r := 5) z) d4 (by rw [Nat.mul_one]) <| cC <| jN (i := 5) (j := a.g_.j_) z z z z z z ty3 z d4 (fun _ => z) kp <| ay <| cd <| ax <| aW <| aa [.fa 30 0 0 cc] z <| o1 z (r1 0 2 z eC z) <| oP z <| bE H fun i0 i1 H => cn z z z z z dX ca z a1 i1 fun q7 q8 e3 e4 => ?_
        obtain ⟨q9, r0, r2, r3, r4, r5, r6, r7, r8, r9, rfl, i2, i3, i4, i5, i6, i7, i8, i9, j0, j1⟩ := bj e3
        obtain rfl := i2
        obtain rfl := i3
        obtain ⟨s0, s1, rfl⟩ := aj i4
        obtain rfl := i5
        obtain ⟨s2, s3, rfl, j2, j3⟩ := aK i6
        obtain ⟨s4, s5, rfl⟩ := aj j2
        obtain ⟨s6, s7, rfl⟩ := aj j3
        obtain rfl := i7
        obtain ⟨s8, s9, rfl⟩ := aj i8
        obtain rfl := i9
        obtain rfl := j0
        obtain rfl := j1
        exact aa [.fa 71 8 10 nz] z <| o1 z (aD z z ty3 (bW bor (lz e4 10 1))) <| oP z <| ay <| cD (RW.at (k8 (i0.p_) ((x.set a.g_.j_.toNat (bi .and J h6 h8))) (H)) (ss [0, 1, 2, 3, 4, 5] z z) (sb z))
       ·refine bF <| aN <| aR <| aO <| ax <| aW <| oP z <| o1 z (rx 0 4 _ z pA z) <| sX z (fun t f => oQ (x0 := g) [5] f z z) fun t0 => fp (C' := St w R [_, _, _, _, _, _, _]) z (fun _ h => h) <| iZ [(0, [I J g, S k c.length l])] z z z z z uh pA z z ⟨z, z, nl z, Y⟩ [I J g, S k c.length l] z (fun _ => kp) fun t1 => fp z (fun _ h => vc (p := 7) (q := 6) h z z z) <| bE H fun j4 j5 H => nC (r := 3) (j := 8) z z z z z z uh pA z z z z z z z j5 (fun _ _ _ => kp) fun j6 j7 j8 => oP z <| ay <| cd <| ax <| CW.weak (C' := St w R [_, _, _, _, _]) ?_ (ss [0, 1, 2, 4, 9] z z)
        exact aW <| oPP z <| ay <| cD (RW.at (k6 (J.wrap (A + 1)) (j4) (j6) (j7) (j8) (H)) (ss [0, 1, 2, 4] z z) (sb z))
   ·exact bF <| aN <| aR <| aO <| ax <| sR <| oPP z <| nT <| bg (rs := [.tmp 4]) (vs := [S o d.length s]) z ⟨z, Y⟩ (fun w' hw' => by
     obtain rfl := ai H
     exact ⟨_, z, o, d.length, s, C, z, hw'.sel [3] z z⟩)
theorem na (w : World) {p0 : ab} {p1 : bf} {o : List Value} {q : List Value} {r : Bool} (H : kb p0 p1 = U r) (g0 : (aJ).rd w [] p0 o) (g1 : (dA).rd w [] p1 q) :
    Calls Tryz.prog 10 #[.agg o.toArray, .agg q.toArray] w (fun en w' => en = .returned (B r) ∧ Ext [] w w') := by
 obtain ⟨b1, b2, rfl, i, s⟩ := aB g0
 obtain ⟨E, F, rfl⟩ := aj i
 obtain ⟨G, L, rfl⟩ := aj s
 obtain ⟨b3, b4, rfl, M, k⟩ := mU g1
 obtain rfl := M
 obtain ⟨P, Q, rfl⟩ := aj k
 unfold kb at H
 refine aH Tryz.func10 z Tryz.ntmps10 z (St.init w []) <| sR <| ob _ z fun c => ob _ z fun g => oP z <| nQ <| ak <| sR <| o1 z (rx 0 0 _ z cg z) <| bE H fun t X H => oq z (qc z ya (fun f d => gw f X (af (ad i f d) (ad s f d)))) tt2 <| oPP z <| bE H fun h l H => aS [(15, B h), (2, O (U ⟨c, 0, N⟩)), (3, O (U ⟨g, 0, N⟩))] 5 ?_ (fun key => OW.sub (R := [(2, O (U ⟨c, 0, N⟩)), (3, O (U ⟨g, 0, N⟩)), (10, B (!t))]) ?_ (sb z))
 ·refine oP z <| aS [(24, B (h || ((p1.y_.length : Int) != (p0.b_.length : Int)))), (2, O (U ⟨c, 0, N⟩)), (3, O (U ⟨g, 0, N⟩))] 8 ?_ (fun key => OW.sub (R := [(2, O (U ⟨c, 0, N⟩)), (3, O (U ⟨g, 0, N⟩)), (16, B h)]) ?_ (sb z))
  ·refine nQ <| cI H z (fun H => ?_) (fun H => ?_)
   ·exact sR <| oP z <| nT <| am <| xr 4 z (by cases H; exact q1)
   ·refine ar <| ax <| ak <| sR <| aa [.fa 41 1 1 pZ] z <| o1 z (r1 1 1 z cq z) <| aa [.lenS 31 3 aP, .p] z <| nQ <| az <| CW.at (fG (fun (a : Int) => St w [] [b c 27 [S E p0.b_.length F, S G p0.l_.length L]]) (fun a => [(2, O (U ⟨c, 0, N⟩)), (26, S P p1.y_.length Q), (27, I J (p1.y_.length : Int)), (28, I J a)]) (fun kk => fun a => ix p1 p0 kk a = U r) (fun _ H => ?_) (fun k1 A a H => ?_) be (0) (H)) (ss [0] z z) (sb z)
    ·unfold ix at H
     exact absurd H (by simp)
    ·unfold ix at H
     refine sR <| oP z <| nQ <| ak <| cI H z (fun H => ?_) (fun H => ?_)
     ·refine ar <| ax <| ak <| az <| sR <| oP z <| bE H fun b5 u H => bo (e := eI) (xs := p1.y_) (j := a) z z z z z aP ty3 z (ad k) u (by rw [Nat.mul_one]) <| o1 z (aD z z ty3 (bD (ad k) u)) <| oPP z <| nR <| aa [.p, .fa 27 0 0 cY] z <| o1 z (r1 0 0 z hZ z) <| oP z <| bE H fun m Z H => cn z z z z z gD dD z i Z fun b6 b7 C D => ?_
      obtain ⟨b8, b9, c0, rfl, a0, v, x⟩ := bA C
      obtain rfl := a0
      obtain ⟨a1, a2, rfl⟩ := aj v
      obtain ⟨a3, a4, rfl⟩ := aj x
      refine o1 z (cA (cs := [vS m.B_, S a1 m.u_.length a2, S a3 m.A_.length a4]) z z dD (bW bor D) z) <| bE H fun c1 a5 H => oq z (qc z DW (fun f d => mK f a5 (bO z (ad v f d) (ad x f d)))) tt2 <| oPP z <| nQ <| cI H z (fun H => ?_) (fun H => ?_)
      ·exact sR <| oP z <| nT <| aL <| am <| bU <| aL <| am <| xr 4 z (by cases H; exact q1)
      ·exact ar <| cd <| ax <| aW <| oPP z <| ay <| cD (RW.at (A (J.wrap (a + 1)) (H)) (ss [0] z z) (sb z))
     ·exact bF <| aN <| aR <| aO <| ax <| sR <| oP z <| nT <| xr 4 z (by cases H; exact q1)
  ·generalize h = a6 at key ⊢
   cases a6
   ·exact aa [.fa 41 1 1 pZ] z <| o1 z (r1 1 1 z cq z) <| aa [.lenS 31 3 aP, .fa 27 0 0 cY] z <| o1 z (r1 0 0 z hZ z) <| aa [.lenS 24 63 gD, .p] z <| oP z <| OW.sub key (sb z)
   ·exact aa [.p, .p, .p, .p, .p, .p, .p, .p] z <| OW.sub key (sb z)
 ·clear H
  have H := l
  clear l
  generalize (!t) = a7 at H key ⊢
  cases a7
  ·have H := ba z H
   refine aa [.fa 41 0 0 Bz] z <| o1 z (r1 0 1 z ty3 z) <| bE H fun c2 a8 H => oq z (qc z nP (fun f d => ck f a8)) tt2 <| oP z <| oP z <| ?_
   obtain rfl := ai H
   exact OW.sub key (sb z)
  ·have H := aZ z H
   refine aa [.p, .p, .p, .p, .p] z ?_
   obtain rfl := ai H
   exact OW.sub key (sb z)
theorem oY (w : World) {p0 : Int} {r : Int} (H : kH p0 = U r)   :
    Calls Tryz.prog 75 #[I .u64 p0] w (fun en w' => en = .returned (I J r) ∧ Ext [] w w') := by
 unfold kH at H
 refine aH Tryz.func75 z Tryz.ntmps75 z (St.init w []) <| sR <| oP z <| nR <| aa [.p, .p, .p, .p, .p, .p, .p] z <| nR <| aa [.p, .p, .p, .p, .p, .p, .p] z <| nR <| aa [.p, .p, .p, .p, .p, .p] z <| nR <| aa [.p, .p, .p, .p, .p] z <| nR <| aa [.p, .p, .p, .p, .p] z <| nR <| aa [.p, .p, .p, .p, .p] z <| nR <| aa [.p, .cv 110 3 J Fs9 in3, .p, .p] z <| ay <| ?_
 exact ax <| qT <| xr 2 z (by cases H; exact q1)
theorem pO (w : World) {p0 : Int} {r : Int} (H : fE p0 = U r)   :
    Calls Tryz.prog 37 #[I .u64 p0] w (fun en w' => en = .returned (I J r) ∧ Ext [] w w') := by
 unfold fE at H
 refine aH Tryz.func37 z Tryz.ntmps37 z (St.init w []) <| sR <| oP z <| nQ <| ak <| Fd z (fun hb => ?_) (fun hb => ?_)
 ·exact absurd hb (by decide)
 ·exact ar <| ax <| sR <| oP z <| bE H fun d a H => oq z (qc z GG (fun c e => oY c a)) tt2 <| oP z <| nT <| xr 2 z (by cases H; exact q1)
theorem tJ (w : World) {p0 : ab} {p1 : bf} {h : List Value} {i : List Value} {r : Int} (H : mi p0 p1 = U r) (A : (aJ).rd w [] p0 h) (C : (dA).rd w [] p1 i) :
    Calls Tryz.prog 9 #[.agg h.toArray, .agg i.toArray] w (fun en w' => en = .returned (I J r) ∧ Ext [] w w') := by
 obtain ⟨D, E, rfl, k, l⟩ := aB A
 obtain ⟨F, G, rfl⟩ := aj k
 obtain ⟨L, M, rfl⟩ := aj l
 obtain ⟨P, Q, rfl, q, d⟩ := mU C
 obtain rfl := q
 obtain ⟨s, t, rfl⟩ := aj d
 unfold mi at H
 refine aH Tryz.func9 z Tryz.ntmps9 z (St.init w []) <| sR <| ob _ z fun R => ob _ z fun X => oP z <| nQ <| ak <| sR <| o1 z (rx 0 0 _ z cg z) <| o1 z (rx 0 1 _ z pA z) <| bE H fun Z u H => oq z (qc z CM (fun g f => na g u (af (ad k g f) (ad l g f)) (jv z (ad d g f)))) tt2 <| oP z <| nQ <| cI H z (fun H => ?_) (fun H => ?_)
 ·exact sR <| oP z <| nT <| am <| xr 4 z (by cases H; exact q1)
 ·refine ar <| ax <| sR <| oP z <| nQ <| ak <| sR <| aa [.fa 41 1 1 pZ] z <| o1 z (r1 1 1 z cq z) <| aa [.lenS 31 3 aP, .p] z <| nQ <| az <| CW.at (hI (fun (a : Int) (c : Int) => St w [] []) (fun a c => [(5, I J c), (13, S s p1.y_.length t), (14, I J (p1.y_.length : Int)), (15, I J a)]) (fun kk => fun a c => gf p1 kk a c = U r) (fun _ _ H => ?_) (fun k1 o a c H => ?_) be (0) (1) (H)) (ss [] z z) (sb z)
  ·unfold gf at H
   exact absurd H (by simp)
  ·unfold gf at H
   refine sR <| oP z <| nQ <| ak <| cI H z (fun H => ?_) (fun H => ?_)
   ·exact ar <| ax <| ak <| az <| sR <| bE H fun a0 m H => bo (e := eI) (xs := p1.y_) (j := a) z z z z z aP ty3 z (ad d) m (by rw [Nat.mul_one]) <| o1 z (aD z z ty3 (bD (ad d) m)) <| oP z <| nQ <| aW <| aa [.p, .p, .cv 3 80 .u64 us3 GB] z <| bE H fun v x H => oq z (qc z Gn (fun g f => pO g x)) tt2 <| oPP z <| ay <| cd <| ax <| aW <| oPP z <| ay <| cD (RW.at (o (J.wrap (a + 1)) (J.wrap (c * v)) (H)) (ss [] z z) (sb z))
   ·exact bF <| aN <| aR <| aO <| ax <| sR <| oPP z <| nT <| xr 4 z (by cases H; exact q1)
theorem sc (w : World) {p0 : bc} {p1 : Int} {h : List Value} {r : List UInt8} (H : ll p0 p1 = U r) (D : (cb).rd w [] p0 h) (gT : (sf Tryz.prog).rd w [] () []) :
    Calls Tryz.prog 41 #[.agg h.toArray, I J p1] w (fun en w' => en = .returned (vS r) ∧ Ext [] w w') := by
 obtain ⟨E, F, G, rfl, q, d, f⟩ := bA D
 obtain rfl := q
 obtain ⟨L, M, rfl⟩ := aj d
 obtain ⟨P, Q, rfl⟩ := aj f
 unfold ll at H
 refine aH Tryz.func41 z Tryz.ntmps41 z (St.init w []) <| sR <| ob _ z fun i => oP z <| nQ <| ak <| az <| sR <| o1 z (rx 0 0 _ z dD z) <| bE H fun k s H => oq z (qc z DS (fun c a => oe c s (bO z (ad d c a) (ad f c a)))) tt2 <| oPP z <| bE H fun t g H => aS [(16, B t), (1, I J p1), (2, O (U ⟨i, 0, N⟩))] 7 ?_ (fun key => OW.sub (R := [(1, I J p1), (2, O (U ⟨i, 0, N⟩)), (9, B (!k))]) ?_ (sb z))
 ·refine oP z <| nQ <| cI H z (fun H => ?_) (fun H => ?_)
  ·exact sR <| oP z <| nT <| aL <| am <| xr 4 z (by cases H; exact q1)
  ·refine sR <| aa [.p, .p, .p] z <| nQ <| cI H z (fun H => ?_) (fun H => ?_)
   ·exact sR <| oP z <| nT <| aL <| am <| xr 4 z (by cases H; exact q1)
   ·refine sR <| aa [.fa 63 2 2 ny] z <| o1 z (r1 2 0 z kV z) <| aa [.lenS 25 9 go, .p, .p] z <| nQ <| cI H z (fun H => ?_) (fun H => ?_)
    ·exact sR <| aa [.fa 63 2 2 ny] z <| o1 z (r1 2 0 z kV z) <| oP z <| bE H fun X l H => bo (e := dF) (xs := p0.A_) (j := p1) z z z z z go ty9 z (ad f) l (by rw [Nat.mul_one]) <| o1 z (aD z z ty9 (bD (ad f) l)) <| oP z <| nT <| aL <| am <| xr 4 z (by cases H; exact q1)
    ·refine sR <| aa [.p, .fa 63 1 1 iY] z <| o1 z (r1 1 0 z cq z) <| aa [.lenS 31 3 aP, .p, .p] z <| nQ <| cI H z (fun H => ?_) (fun H => ?_)
     ·exact sR <| aa [.fa 63 1 1 iY] z <| o1 z (r1 1 0 z cq z) <| oP z <| bE H fun Z m H => bo (e := eI) (xs := p0.u_) (j := p1) z z z z z aP ty3 z (ad d) m (by rw [Nat.mul_one]) <| o1 z (aD z z ty3 (bD (ad d) m)) <| bE H fun a0 u H => oq z (qc z EH (fun c a => qa c u (ad gT c a))) tt2 <| oP z <| nT <| aL <| am <| xr 4 z (by cases H; exact q1)
     ·exact ar <| cd <| ax <| sR <| aa [.fa 63 1 1 iY] z <| o1 z (r1 1 0 z cq z) <| oPP z <| bE H fun a1 o H => bo (e := eI) (xs := p0.u_) (j := J.wrap (p1 - 1)) z z z z z aP ty3 z (ad d) o (by rw [Nat.mul_one]) <| o1 z (aD z z ty3 (bD (ad d) o)) <| oP z <| bE H fun a2 v H => oq z (qc z EH (fun c a => qa c v (ad gT c a))) tt2 <| oP z <| nT <| xr 4 z (by cases H; exact q1)
 ·clear H
  have H := g
  clear g
  generalize (!k) = x at H key ⊢
  cases x
  ·have H := ba z H
   refine oP z <| o1 z (rx 0 0 _ z dD z) <| bE H fun a3 A H => oq z (qc z vf (fun c a => gE c A (bO z (ad d c a) (ad f c a)))) tt2 <| oP z <| bE H fun a4 C H => oq z (qc z nP (fun c a => ck c C)) tt2 <| oP z <| oP z <| ?_
   obtain rfl := ai H
   exact OW.sub key (sb z)
  ·have H := aZ z H
   refine aa [.p, .p, .p, .p, .p, .p, .p] z ?_
   obtain rfl := ai H
   exact OW.sub key (sb z)
theorem tw (w : World) {p0 : ab} {p1 : bf} {c2 : List Value} {c3 : List Value} {r : List UInt8} (H : kM p0 p1 = U r) (g0 : (aJ).rd w [] p0 c2) (g1 : (dA).rd w [] p1 c3) (gT : (sf Tryz.prog).rd w [] () []) :
    Calls Tryz.prog 11 #[.agg c2.toArray, .agg c3.toArray] w (fun en w' => en = .returned (vS r) ∧ Ext [] w w') := by
 obtain ⟨h4, h5, rfl, a4, c4⟩ := aB g0
 obtain ⟨X, Z, rfl⟩ := aj a4
 obtain ⟨a0, a1, rfl⟩ := aj c4
 obtain ⟨h6, h7, rfl, f0, a2⟩ := mU g1
 obtain rfl := f0
 obtain ⟨a5, a6, rfl⟩ := aj a2
 unfold kM at H
 refine aH Tryz.func11 z Tryz.ntmps11 z (St.init w []) <| sR <| ob _ z fun A => ob _ z fun h8 => oP z <| nQ <| ak <| sR <| o1 z (rx 0 0 _ z cg z) <| o1 z (rx 0 1 _ z pA z) <| bE H fun h9 f1 H => oq z (qc z CM (fun f a => na f f1 (af (ad a4 f a) (ad c4 f a)) (jv z (ad a2 f a)))) tt2 <| oP z <| nQ <| cI H z (fun H => ?_) (fun H => ?_)
 ·exact sR <| oP z <| nT <| am <| xr 4 z (by cases H; exact q1)
 ·refine ar <| ax <| sR <| ce (e := dF) z z z z go ty9 (fun _ => kp) fun c5 => oP z <| nQ <| ak <| sR <| aa [.fa 41 1 1 pZ] z <| o1 z (r1 1 1 z cq z) <| aa [.lenS 31 3 aP, .p] z <| nQ <| az <| CW.at (iX (fun (g : Int) (c : List (List UInt8)) (h : Option Addr) (k : Nat) (o : List Nat) => St w [] [b A 27 [S X p0.b_.length Z, S a0 p0.l_.length a1], W (ae (dF) 9) o c [S h c.length k]]) (fun g c h k o => [(2, O (U ⟨A, 0, N⟩)), (5, S h c.length k), (17, S a5 p1.y_.length a6), (18, I J (p1.y_.length : Int)), (19, I J g)]) (fun kk => fun g c h k o => h.isNone = n ∧ cZ p1 p0 kk g c = U r) (fun _ _ _ _ _ H => ?_) (fun k1 a7 g c h k o ⟨b6, H⟩ => ?_) be (0) (([] : List (List UInt8))) ((U ⟨c5, 0, N⟩)) (0) ([c5]) (⟨z, H⟩)) (ss [0, 2] z z) (sb z)
  ·unfold cZ at H
   exact absurd H (by simp)
  ·unfold cZ at H
   refine sR <| oP z <| nQ <| ak <| cI H z (fun H => ?_) (fun H => ?_)
   ·refine ar <| ax <| ak <| az <| sR <| oP z <| bE H fun a8 a9 H => bo (e := eI) (xs := p1.y_) (j := g) z z z z z aP ty3 z (ad a2) a9 (by rw [Nat.mul_one]) <| o1 z (aD z z ty3 (bD (ad a2) a9)) <| oPP z <| nR <| aa [.fa 27 0 0 cY] z <| o1 z (r1 0 0 z hZ z) <| oP z <| bE H fun d c6 H => cn z z z z z gD dD z a4 c6 fun f7 f8 b7 b8 => ?_
    obtain ⟨f9, g2, g3, rfl, c7, M, P⟩ := bA b7
    obtain rfl := c7
    obtain ⟨C, D, rfl⟩ := aj M
    obtain ⟨E, F, rfl⟩ := aj P
    refine o1 z (cA (cs := [vS d.B_, S C d.u_.length D, S E d.A_.length F]) z z dD (bW bor b8) z) <| aA z z z z dD (fun _ => kp) fun G => sC 0 [vS d.B_, S C d.u_.length D, S E d.A_.length F] [_, _, _] 2 z dD z <| nQ <| ak <| sR <| oP z <| o1 z (rx 0 2 _ z dD z) <| bE H fun g4 c8 H => oq z (qc z DW (fun f a => mK f c8 (bO z (ad M f a) (ad P f a)))) tt2 <| oP z <| nQ <| cI H z (fun H => ?_) (fun H => ?_)
    ·exact bF <| aN <| aO <| ax <| aW <| oPP z <| ay <| cD (RW.at (a7 (J.wrap (g + 1)) (c) (h) (k) (o) (⟨b6, H⟩)) (ss [0, 1] z z) (sb z))
    ·refine ar <| ax <| sR <| ce (e := dF) z z z z go ty9 (fun _ => kp) fun b0 => oP z <| nQ <| ak <| sR <| o1 z (rx 0 2 _ z dD z) <| bE H fun b1 c9 H => oq z (qc z vf (fun f a => gE f c9 (bO z (ad M f a) (ad P f a)))) tt2 <| oP z <| nQ <| az <| CW.at (iX (fun (s : Int) (l : List (List UInt8)) (q : Option Addr) (t : Nat) (v : List Nat) => St w [] [b A 27 [S X p0.b_.length Z, S a0 p0.l_.length a1], W (ae (dF) 9) o c [S h c.length k], b G 63 [vS d.B_, S C d.u_.length D, S E d.A_.length F], W (ae (dF) 9) v l [S q l.length t]]) (fun s l q t v => [(2, O (U ⟨A, 0, N⟩)), (5, S h c.length k), (7, I J a8), (8, O (U ⟨G, 0, N⟩)), (9, S q l.length t), (17, S a5 p1.y_.length a6), (18, I J (p1.y_.length : Int)), (19, I J g), (35, I J b1), (36, I J s)]) (fun kk => fun s l q t v => q.isNone = n ∧ ec b1 a8 d c (cZ p1 p0 k1) g kk s l = U r) (fun _ _ _ _ _ H => ?_) (fun k2 b2 s l q t v ⟨a3, H⟩ => ?_) be (0) (([] : List (List UInt8))) ((U ⟨b0, 0, N⟩)) (0) ([b0]) (⟨z, H⟩)) (ss [0, 1, 2, 3] z z) (sb z)
     ·unfold ec at H
      exact absurd H (by simp)
     ·unfold ec at H
      refine sR <| oP z <| nQ <| ak <| cI H z (fun H => ?_) (fun H => ?_)
      ·refine ar <| ax <| ak <| az <| sR <| oPP z <| nR <| oPP z <| bE H fun g5 d0 H => o1 z (Ee z z z d0) <| oPP z <| nQ <| cI H z (fun H => ?_) (fun H => ?_)
       ·exact aW <| oP z <| o1 z (rx 0 2 _ z dD z) <| oP z <| bE H fun Q d1 H => oq z (qc z Gp (fun f a => sc f d1 (bO z (ad M f a) (ad P f a)) (ad gT f a))) tt2 <| bQ (val := vS) (h1 := fun _ => z) [Q] [(0, [vS Q])] z z z z z go ty9 z z z ⟨z, z, nl z, Y⟩ z z (fun _ => kp) fun g6 => bE H fun d2 b3 H => cm (r := 3) (ys := ([Q] : List (List UInt8))) z z z z z z go ty9 z z z (fun f a => ap (e := ae (dF) 9) (r := 4) z f a) b3 (fun _ _ _ => kp) fun d3 d4 d5 => ct z (fun f a => fh (i := 3) a z (ff b3)) fun b9 => oP z <| ay <| cd <| ax <| aW <| oPP z <| ay <| cD (RW.at (b2 (J.wrap (s + 1)) (d2) (d3) (d4) (d5) (⟨b9, H⟩)) (ss [0, 1, 2, 3] z z) (sb z))
       ·exact ar <| cd <| ax <| aW <| oPP z <| ay <| cD (RW.at (b2 (J.wrap (s + 1)) (l) (q) (t) (v) (⟨a3, H⟩)) (ss [0, 1, 2, 3] z z) (sb z))
      ·refine bF <| aN <| aR <| aO <| ax <| Ci (fun (m : List (List UInt8)) (u : Option Addr) (x : Nat) (L : List Nat) => St w [] [b A 27 [S X p0.b_.length Z, S a0 p0.l_.length a1], W (ae (dF) 9) o c [S h c.length k], b G 63 [vS d.B_, S C d.u_.length D, S E d.A_.length F], W (ae (dF) 9) L m [S u m.length x]]) (fun m u x L => [(2, O (U ⟨A, 0, N⟩)), (5, S h c.length k), (8, O (U ⟨G, 0, N⟩)), (9, S u m.length x), (17, S a5 p1.y_.length a6), (18, I J (p1.y_.length : Int)), (19, I J g)]) (fun m u x L => u.isNone = n ∧ ie d c (cZ p1 p0 k1) g m = U r) (fun m u x L ⟨f4, H⟩ => ?_) (fun J1 => ?_)
       ·unfold ie at H
        exact dj 9 [(0, y), (1, y), (2, y), (3, y), (4, y), (5, n), (6, y), (7, y), (8, n)] (St w [] [b A 27 [S X p0.b_.length Z, S a0 p0.l_.length a1], W (ae (dF) 9) o c [S h c.length k], b G 63 [vS d.B_, S C d.u_.length D, S E d.A_.length F], W (ae (dF) 9) L m [S u m.length x]]) cj (by kernel_rfl) (bv (aX (dI (bv (aX bn))))) (tk 4 z) <| aa [.p, .fa 63 0 0 sg] z <| bu z (aw z) (r1 0 2 z ty9 z) <| bE H fun g7 d6 H => bu z (aw z) (wl z z z d6) <| oP z <| bE H fun g8 d7 H => oq z (qc z ED (fun f a => yv (T := 9) Tryz.lays156 Tryz.Builder_Extra_156 f d7 (ap (e := ae (dF) 9) (r := 3) z f a))) (tk 4 z) <| bE H fun g9 d8 H => bu z (aw z) (wl z z z d8) <| bE H fun R d9 H => bu z (aw z) (wl z z z d9) <| bQ (val := vS) (h1 := fun _ => z) [R] [(0, [vS R])] z z z z z go ty9 z z z ⟨z, z, nl z, Y⟩ z z (fun _ => (tk 4 z)) fun h0 => aQ <| kd <| bE H fun e0 b4 H => cm (r := 1) (ys := ([R] : List (List UInt8))) z z z z z z go ty9 z z z (fun f a => ap (e := ae (dF) 9) (r := 4) z f a) b4 (fun _ _ _ => kp) fun e1 e2 e3 => ct z (fun f a => fh (i := 1) a z (ff b4)) fun c0 => oP z <| ay <| cd <| ax <| aW <| oPP z <| ay <| cD (RW.at (a7 (J.wrap (g + 1)) (e0) (e1) (e2) (e3) (⟨c0, H⟩)) (ss [0, 1] z z) (sb z))
       ·refine sR <| aa [.p, .p, .p] z <| nQ <| cI H z (fun H => ?_) (fun H => ?_)
        ·exact aW <| oP z <| bQ (val := vS) (h1 := fun _ => z) [([63] : List UInt8)] [(0, [vS ([63] : List UInt8)])] z z z z z go ty9 z z z ⟨z, z, nl z, Y⟩ z z (fun _ => kp) fun h2 => bE H fun e4 b5 H => cm (r := 3) (ys := ([([63] : List UInt8)] : List (List UInt8))) z z z z z z go ty9 z z z (fun f a => ap (e := ae (dF) 9) (r := 4) z f a) b5 (fun _ _ _ => kp) fun e5 e6 e7 => ct z (fun f a => fh (i := 3) a z (ff b5)) fun c1 => oP z <| ay <| XW.at (J1 (e4) (e5) (e6) (e7) (⟨c1, H⟩)) (ss [0, 1, 2, 3] z z) (sb z)
        ·exact ar <| XW.at (J1 (l) (q) (t) (v) (⟨a3, H⟩)) (ss [0, 1, 2, 3] z z) (sb z)
   ·refine bF <| aN <| aR <| aO <| ax <| ak <| sR <| aa [.p, .lenS 25 9 go, .p] z <| nQ <| cI H z (fun H => ?_) (fun H => ?_)
    ·exact sR <| oP z <| nT <| am <| xr 4 z (by cases H; exact q1)
    ·exact ar <| ax <| sR <| oP z <| bE H fun h3 e9 H => oq z (qc z ED (fun f a => yv (T := 9) Tryz.lays156 Tryz.Builder_Extra_156 f e9 (ap (e := ae (dF) 9) (r := 1) z f a))) tt2 <| oP z <| nT <| xr 4 z (by cases H; exact q1)
theorem rF (w : World) {p0 : ab} {p1 : aY} {o : List Value} {q : List Value} {r : Bool} (H : mJ p0 p1 = U r) (g0 : (aJ).rd w [] p0 o) (g1 : (ew).rd w [] p1 q) :
    Calls Tryz.prog 43 #[.agg o.toArray, .agg q.toArray] w (fun en w' => en = .returned (B r) ∧ Ext [] w w') := by
 obtain ⟨b4, b5, rfl, i, s⟩ := aB g0
 obtain ⟨F, G, rfl⟩ := aj i
 obtain ⟨L, M, rfl⟩ := aj s
 obtain ⟨b6, b7, rfl, k, P⟩ := fT g1
 obtain ⟨Q, X, rfl⟩ := aj k
 obtain rfl := P
 unfold mJ at H
 refine aH Tryz.func43 z Tryz.ntmps43 z (St.init w []) <| sR <| ob _ z fun f => ob _ z fun h => oP z <| nQ <| ak <| sR <| o1 z (rx 0 0 _ z cg z) <| bE H fun g Z H => oq z (qc z ya (fun a c => gw a Z (af (ad i a c) (ad s a c)))) tt2 <| oPP z <| aS [(18, B ((!g) || ((p1.o_.length : Int) != (p0.b_.length : Int)))), (2, O (U ⟨f, 0, N⟩)), (3, O (U ⟨h, 0, N⟩))] 8 ?_ (fun key => OW.sub (R := [(2, O (U ⟨f, 0, N⟩)), (3, O (U ⟨h, 0, N⟩)), (10, B (!g))]) ?_ (sb z))
 ·refine oP z <| bE H fun a0 l H => aS [(28, B a0), (2, O (U ⟨f, 0, N⟩)), (3, O (U ⟨h, 0, N⟩))] 9 ?_ (fun key => OW.sub (R := [(2, O (U ⟨f, 0, N⟩)), (3, O (U ⟨h, 0, N⟩)), (19, B ((!g) || ((p1.o_.length : Int) != (p0.b_.length : Int))))]) ?_ (sb z))
  ·refine nQ <| cI H z (fun H => ?_) (fun H => ?_)
   ·exact sR <| oP z <| nT <| am <| xr 4 z (by cases H; exact q1)
   ·refine ar <| ax <| ak <| sR <| aa [.fa 33 0 0 jW] z <| o1 z (r1 0 1 z cq z) <| aa [.lenS 31 3 aP, .p] z <| nQ <| az <| CW.at (fG (fun (d : Int) => St w [] [b f 27 [S F p0.b_.length G, S L p0.l_.length M]]) (fun d => [(2, O (U ⟨f, 0, N⟩)), (30, S Q p1.o_.length X), (31, I J (p1.o_.length : Int)), (32, I J d)]) (fun kk => fun d => jm p1 p0 kk d = U r) (fun _ H => ?_) (fun k1 x d H => ?_) be (0) (H)) (ss [0] z z) (sb z)
    ·unfold jm at H
     exact absurd H (by simp)
    ·unfold jm at H
     refine sR <| oP z <| nQ <| ak <| cI H z (fun H => ?_) (fun H => ?_)
     ·refine ar <| ax <| ak <| az <| sR <| oP z <| bE H fun b8 t H => bo (e := eI) (xs := p1.o_) (j := d) z z z z z aP ty3 z (ad k) t (by rw [Nat.mul_one]) <| o1 z (aD z z ty3 (bD (ad k) t)) <| oPP z <| nR <| aa [.p, .fa 27 0 0 cY] z <| o1 z (r1 0 0 z hZ z) <| oP z <| bE H fun m a1 H => cn z z z z z gD dD z i a1 fun b9 c0 A C => ?_
      obtain ⟨c1, c2, c3, rfl, a2, u, v⟩ := bA A
      obtain rfl := a2
      obtain ⟨a3, a4, rfl⟩ := aj u
      obtain ⟨a5, a6, rfl⟩ := aj v
      refine o1 z (cA (cs := [vS m.B_, S a3 m.u_.length a4, S a5 m.A_.length a6]) z z dD (bW bor C) z) <| bE H fun b2 D H => oq z (qc z vf (fun a c => gE a D (bO z (ad u a c) (ad v a c)))) tt2 <| oP z <| bE H fun b3 E H => oq z (qc z nP (fun a c => ck a E)) tt2 <| oP z <| nQ <| cI H z (fun H => ?_) (fun H => ?_)
      ·exact sR <| oP z <| nT <| aL <| am <| bU <| aL <| am <| xr 4 z (by cases H; exact q1)
      ·exact ar <| cd <| ax <| aW <| oPP z <| ay <| cD (RW.at (x (J.wrap (d + 1)) (H)) (ss [0] z z) (sb z))
     ·exact bF <| aN <| aR <| aO <| ax <| sR <| oP z <| nT <| xr 4 z (by cases H; exact q1)
  ·clear H
   have H := l
   clear l
   generalize ((!g) || ((p1.o_.length : Int) != (p0.b_.length : Int))) = a7 at H key ⊢
   cases a7
   ·have H := ba z H
    refine aa [.fa 33 1 1 oR] z <| o1 z (r1 1 1 z ty3 z) <| aa [.fa 27 1 1 iW] z <| o1 z (r1 1 0 z kV z) <| aa [.lenS 25 9 go, .p] z <| bE H fun c4 a8 H => oq z (qc z nP (fun a c => ck a a8)) tt2 <| oP z <| oP z <| ?_
    obtain rfl := ai H
    exact OW.sub key (sb z)
   ·have H := aZ z H
    refine aa [.p, .p, .p, .p, .p, .p, .p, .p, .p] z ?_
    obtain rfl := ai H
    exact OW.sub key (sb z)
 ·generalize (!g) = a9 at key ⊢
  cases a9
  ·exact aa [.fa 33 0 0 jW] z <| o1 z (r1 0 1 z cq z) <| aa [.lenS 31 3 aP, .fa 27 0 0 cY] z <| o1 z (r1 0 0 z hZ z) <| aa [.lenS 24 63 gD, .p] z <| oP z <| OW.sub key (sb z)
  ·exact aa [.p, .p, .p, .p, .p, .p, .p, .p] z <| OW.sub key (sb z)
theorem sh (w : World) {p0 : ab} {p1 : bf} {p2 : aY} {o : List Value} {q : List Value} {s : List Value} {r : Bool} (H : iy p0 p1 p2 = U r) (g0 : (aJ).rd w [] p0 o) (g1 : (dA).rd w [] p1 q) (g2 : (ew).rd w [] p2 s) :
    Calls Tryz.prog 12 #[.agg o.toArray, .agg q.toArray, .agg s.toArray] w (fun en w' => en = .returned (B r) ∧ Ext [] w w') := by
 obtain ⟨a7, a8, rfl, k, l⟩ := aB g0
 obtain ⟨a9, b0, rfl⟩ := aj k
 obtain ⟨b1, b2, rfl⟩ := aj l
 obtain ⟨b3, b4, rfl, G, h⟩ := mU g1
 obtain rfl := G
 obtain ⟨t, u, rfl⟩ := aj h
 obtain ⟨b5, b6, rfl, i, L⟩ := fT g2
 obtain ⟨v, x, rfl⟩ := aj i
 obtain rfl := L
 unfold iy at H
 refine aH Tryz.func12 z Tryz.ntmps12 z (St.init w []) <| sR <| ob _ z fun M => ob _ z fun d => ob _ z fun A => oP z <| nQ <| ak <| sR <| o1 z (rx 0 0 _ z cg z) <| o1 z (rx 0 1 _ z pA z) <| bE H fun C P H => oq z (qc z CM (fun f c => na f P (af (ad k f c) (ad l f c)) (jv z (ad h f c)))) tt2 <| oPP z <| bE H fun Q m H => aS [(19, B Q), (4, O (U ⟨d, 0, N⟩)), (5, O (U ⟨A, 0, N⟩))] 5 ?_ (fun key => OW.sub (R := [(3, O (U ⟨M, 0, N⟩)), (4, O (U ⟨d, 0, N⟩)), (5, O (U ⟨A, 0, N⟩)), (14, B (!C))]) ?_ (sb z))
 ·refine nQ <| cI H z (fun H => ?_) (fun H => ?_)
  ·exact sR <| oP z <| nT <| am <| xr 6 z (by cases H; exact q1)
  ·refine ar <| ax <| ak <| sR <| aa [.fa 33 0 0 jW] z <| o1 z (r1 0 2 z cq z) <| aa [.lenS 31 3 aP, .p] z <| nQ <| az <| CW.at (fG (fun (a : Int) => St w [] [b d 41 [I J p1.q_, S t p1.y_.length u]]) (fun a => [(4, O (U ⟨d, 0, N⟩)), (21, S v p2.o_.length x), (22, I J (p2.o_.length : Int)), (23, I J a)]) (fun kk => fun a => dP p2 p1 kk a = U r) (fun _ H => ?_) (fun k1 F a H => ?_) be (0) (H)) (ss [1] z z) (sb z)
   ·unfold dP at H
    exact absurd H (by simp)
   ·unfold dP at H
    refine sR <| oP z <| nQ <| ak <| cI H z (fun H => ?_) (fun H => ?_)
    ·refine ar <| ax <| ak <| az <| sR <| oP z <| bE H fun b7 D H => bo (e := eI) (xs := p2.o_) (j := a) z z z z z aP ty3 z (ad i) D (by rw [Nat.mul_one]) <| o1 z (aD z z ty3 (bD (ad i) D)) <| oPP z <| nR <| oP z <| nQ <| wy (fun (g : Int) => St w [] [b d 41 [I J p1.q_, S t p1.y_.length u]]) (fun g => [(4, O (U ⟨d, 0, N⟩)), (7, I J a), (9, I J g), (21, S v p2.o_.length x), (22, I J (p2.o_.length : Int)), (23, I J a)]) (fun g => iH p1 a (dP p2 p1 k1) g = U r) (fun g H => ?_) (fun X => ?_)
     ·unfold iH at H
      refine sR <| aa [.fa 41 1 1 pZ] z <| o1 z (r1 1 0 z cq z) <| oP z <| bE H fun b8 E H => bo (e := eI) (xs := p1.y_) (j := a) z z z z z aP ty3 z (ad h) E (by rw [Nat.mul_one]) <| o1 z (aD z z ty3 (bD (ad h) E)) <| aa [.p, .p, .p] z <| nQ <| cI H z (fun H => ?_) (fun H => ?_)
      ·exact sR <| oP z <| nT <| aL <| am <| bU <| aL <| am <| xr 6 z (by cases H; exact q1)
      ·exact ar <| cd <| ax <| aW <| oPP z <| ay <| cD (RW.at (F (J.wrap (a + 1)) (H)) (ss [0] z z) (sb z))
     ·refine sR <| oPP z <| nQ <| cI H z (fun H => ?_) (fun H => ?_)
      ·exact aW <| oP z <| bE H fun Z a0 H => o1 z (xR z z z a0) <| oP z <| ay <| XW.at (X (Z) (H)) (ss [0] z z) (sb z)
      ·exact ar <| XW.at (X (16) (H)) (ss [0] z z) (sb z)
    ·exact bF <| aN <| aR <| aO <| ax <| sR <| oP z <| nT <| xr 6 z (by cases H; exact q1)
 ·clear H
  have H := m
  clear m
  generalize (!C) = a1 at H key ⊢
  cases a1
  ·have H := ba z H
   refine o1 z (rx 0 0 _ z cg z) <| o1 z (rx 0 2 _ z gm z) <| bE H fun b9 a2 H => oq z (qc z FE (fun f c => rF f a2 (af (ad k f c) (ad l f c)) (bM (ad i f c) z))) tt2 <| oP z <| oP z <| ?_
   obtain rfl := ai H
   exact OW.sub key (sb z)
  ·have H := aZ z H
   refine aa [.p, .p, .p, .p, .p] z ?_
   obtain rfl := ai H
   exact OW.sub key (sb z)
theorem tB (w : World) {p0 : ab} {h : List Value} {r : Int} (H : mw p0 = U r) (P : (aJ).rd w [] p0 h) :
    Calls Tryz.prog 13 #[.agg h.toArray] w (fun en w' => en = .returned (I J r) ∧ Ext [] w w') := by
 obtain ⟨Q, R, rfl, f, i⟩ := aB P
 obtain ⟨s, t, rfl⟩ := aj f
 obtain ⟨u, v, rfl⟩ := aj i
 unfold mw at H
 refine aH Tryz.func13 z Tryz.ntmps13 z (St.init w []) <| sR <| ob _ z fun j => oP z <| nQ <| ak <| sR <| o1 z (rx 0 0 _ z cg z) <| bE H fun X x H => oq z (qc z xY (fun e d => gB e x (af (ad f e d) (ad i e d)))) tt2 <| oP z <| nQ <| cI H z (fun H => ?_) (fun H => ?_)
 ·exact sR <| oP z <| nT <| am <| xr 2 z (by cases H; exact q1)
 ·refine ar <| ax <| sR <| oP z <| nQ <| ak <| sR <| oP z <| nQ <| az <| CW.at (hI (fun (a : Int) (c : Int) => St w [] [b j 27 [S s p0.b_.length t, S u p0.l_.length v]]) (fun a c => [(1, O (U ⟨j, 0, N⟩)), (3, I J a), (4, I J c)]) (fun kk => fun a c => gb p0 kk a c = U r) (fun _ _ H => ?_) (fun k1 m a c H => ?_) be (1) (0) (H)) (ss [0] z z) (sb z)
  ·unfold gb at H
   exact absurd H (by simp)
  ·unfold gb at H
   refine ak <| sR <| aa [.p, .fa 27 0 0 cY] z <| o1 z (r1 0 0 z hZ z) <| aa [.lenS 24 63 gD, .p] z <| nQ <| cI H z (fun H => ?_) (fun H => ?_)
   ·refine ar <| ax <| ak <| az <| aW <| aa [.p, .fa 27 0 0 cY] z <| o1 z (r1 0 0 z hZ z) <| oP z <| bE H fun g A H => cn z z z z z gD dD z f A fun Z a0 o q => ?_
    obtain ⟨a1, a2, a3, rfl, C, k, l⟩ := bA o
    obtain rfl := C
    obtain ⟨D, E, rfl⟩ := aj k
    obtain ⟨F, G, rfl⟩ := aj l
    exact o1 z (cA (cs := [vS g.B_, S D g.u_.length E, S F g.A_.length G]) z z dD (bW bor q) z) <| bE H fun L M H => oq z (qc z vi (fun e d => gF e M (bO z (ad k e d) (ad l e d)))) tt2 <| aa [.p, .p, .p] z <| ay <| cd <| ax <| aW <| aa [.p, .p, .p] z <| ay <| cD (RW.at (m (J.wrap (a * (J.wrap (L + 1)))) (J.wrap (c + 1)) (H)) (ss [0] z z) (sb z))
   ·exact bF <| aN <| aR <| aO <| ax <| sR <| oPP z <| nT <| xr 2 z (by cases H; exact q1)
theorem tF (w : World) {p0 : ab} {h : List Value} {r : Int} (H : me p0 = U r) (G : (aJ).rd w [] p0 h) :
    Calls Tryz.prog 15 #[.agg h.toArray] w (fun en w' => en = .returned (I J r) ∧ Ext [] w w') := by
 obtain ⟨L, M, rfl, g, i⟩ := aB G
 obtain ⟨v, x, rfl⟩ := aj g
 obtain ⟨P, Q, rfl⟩ := aj i
 unfold me at H
 refine aH Tryz.func15 z Tryz.ntmps15 z (St.init w []) <| sR <| ob _ z fun R => oP z <| nQ <| ak <| sR <| o1 z (rx 0 0 _ z cg z) <| bE H fun X A H => oq z (qc z ya (fun f e => gw f A (af (ad g f e) (ad i f e)))) tt2 <| oP z <| nQ <| cI H z (fun H => ?_) (fun H => ?_)
 ·exact sR <| oP z <| nT <| am <| xr 2 z (by cases H; exact q1)
 ·refine ar <| ax <| sR <| oP z <| nQ <| ak <| sR <| aa [.fa 27 0 0 cY] z <| o1 z (r1 0 0 z hZ z) <| aa [.lenS 24 63 gD, .p] z <| nQ <| az <| CW.at (hI (fun (a : Int) (c : Int) => St w [] []) (fun a c => [(3, I J c), (10, S v p0.b_.length x), (11, I J (p0.b_.length : Int)), (12, I J a)]) (fun kk => fun a c => ei p0 kk a c = U r) (fun _ _ H => ?_) (fun k1 s a c H => ?_) be (0) (1) (H)) (ss [] z z) (sb z)
  ·unfold ei at H
   exact absurd H (by simp)
  ·unfold ei at H
   refine sR <| oP z <| nQ <| ak <| cI H z (fun H => ?_) (fun H => ?_)
   ·refine ar <| ax <| ak <| az <| sR <| bE H fun d C H => cn z z z z z gD dD z g C fun Z a0 t u => ?_
    obtain ⟨a1, a2, a3, rfl, D, j, k⟩ := bA t
    obtain rfl := D
    obtain ⟨l, m, rfl⟩ := aj j
    obtain ⟨o, q, rfl⟩ := aj k
    exact o1 z (cA (cs := [vS d.B_, S l d.u_.length m, S o d.A_.length q]) z z dD (bW bor u) z) <| aA z z z z dD (fun _ => kp) fun a4 => sC 0 [vS d.B_, S l d.u_.length m, S o d.A_.length q] [_, _, _] 0 z dD z <| nQ <| aW <| oP z <| o1 z (rx 0 0 _ z dD z) <| bE H fun E F H => oq z (qc z vf (fun f e => gE f F (bO z (ad j f e) (ad k f e)))) tt2 <| aa [.p, .p, .p] z <| ay <| cd <| ax <| aW <| oPP z <| ay <| cD (RW.at (s (J.wrap (a + 1)) (J.wrap (c * (J.wrap (E + 1)))) (H)) (ss [] z z) (sb z))
   ·exact bF <| aN <| aR <| aO <| ax <| sR <| oPP z <| nT <| xr 2 z (by cases H; exact q1)
theorem ur (w : World) {l : List Nat} {p0 : ab} {p1 : ah} {p2 : aY} {b4 : List Value} {b5 : List Value} {b6 : List Value} {r : (List Int) × Bool} (H : oz p0 p1 p2 = U r) (HS : St w l [] w) (g0 : (aJ).rd w l p0 b4) (g1 : (cz).rd w l p1 b5) (g2 : (ew).rd w l p2 b6) :
    Calls Tryz.prog 80 #[.agg b4.toArray, .agg b5.toArray, .agg b6.toArray] w (fun en w' => ∃ v, en = .returned v ∧ ∃ (a0 : Option Addr), ∃ (n0 : Nat), ∃ (c0 : Nat), ∃ (F0 : List Nat), v = S a0 n0 c0 ∧ a0.isNone = r.2 ∧ St w l [W (ae eI 3) F0 r.1 [S a0 n0 c0]] w') := by
 obtain ⟨h3, h4, rfl, b7, b8⟩ := aB g0
 obtain ⟨M, P, rfl⟩ := aj b7
 obtain ⟨Q, R, rfl⟩ := aj b8
 obtain ⟨h5, h6, rfl, b9, e3⟩ := bZ g1
 obtain ⟨X, Z, rfl⟩ := aj b9
 obtain rfl := e3
 obtain ⟨h7, h8, rfl, a1, e4⟩ := fT g2
 obtain ⟨a2, a3, rfl⟩ := aj a1
 obtain rfl := e4
 unfold oz at H
 refine aH Tryz.func80 z Tryz.ntmps80 z (HS) <| sR <| ob _ z fun m => ob _ z fun o => ob _ z fun q => oP z <| nR <| bQ (val := I J) (h1 := fun _ => z) [0] [(0, [I J 0])] z z z z z aP ty3 z z z ⟨z, z, nl z, Y⟩ z z (fun _ => kp) fun c1 => oP z <| nQ <| az <| CW.at (EB (fun (c : List Int) (d : Option Addr) (f : Nat) (g : List Nat) => St w l [b m 27 [S M p0.b_.length P, S Q p0.l_.length R], b o 30 [S X p1.a_.length Z, I J p1.k_], b q 33 [S a2 p2.o_.length a3, I J p2.v_], W (ae eI 3) g c [S d c.length f]]) (fun c d f g => [(3, O (U ⟨m, 0, N⟩)), (4, O (U ⟨o, 0, N⟩)), (5, O (U ⟨q, 0, N⟩)), (7, S d c.length f)]) (fun kk => fun c d f g => d.isNone = n ∧ fo p1 p2 p0 kk c = U r) (fun _ _ _ _ H => ?_) (fun k1 c3 c d f g ⟨a9, H⟩ => ?_) be (([0] : List Int)) ((U ⟨c1, 0, N⟩)) (1) ([c1]) (⟨z, H⟩)) (ss [0, 1, 2, 3] z z) (sb z)
 ·unfold fo at H
  exact absurd H (by simp)
 ·unfold fo at H
  refine az <| ak <| dj 11 [(0, y), (1, y), (2, y), (3, y), (4, y), (5, y), (6, y), (7, y), (8, y), (9, y), (10, n)] (St w l [b m 27 [S M p0.b_.length P, S Q p0.l_.length R], b o 30 [S X p1.a_.length Z, I J p1.k_], b q 33 [S a2 p2.o_.length a3, I J p2.v_], W (ae eI 3) g c [S d c.length f]]) cj (by kernel_rfl) (aX (bv (dI (bv bn)))) (tk 4 z) <| aa [.fa 30 0 0 cc] z <| bu z (aw z) (r1 0 1 z eC z) <| aa [.p, .p, .lenS 31 3 aP, .p] z <| bE H fun f2 a4 H => bo (e := eI) (xs := c) (j := J.wrap ((c.length : Int) - 1)) z z z z z aP ty3 z (ap (e := ae eI 3) (r := 3) z) a4 (by rw [Nat.mul_one]) <| bu z (aw z) (aD z z ty3 (bD (ap (e := ae eI 3) (r := 3) z) a4)) <| bE H fun a c4 H => cn z z z z z dX ca z b9 c4 fun f3 f4 b0 b1 => ?_
  obtain ⟨f5, f6, f7, f8, f9, g3, g4, g5, g6, g7, rfl, c5, c6, s, c7, c8, c9, d0, d1, d2, d3⟩ := bj b0
  obtain rfl := c5
  obtain rfl := c6
  obtain ⟨t, u, rfl⟩ := aj s
  obtain rfl := c7
  obtain ⟨g8, g9, rfl, d4, d5⟩ := aK c8
  obtain ⟨x, A, rfl⟩ := aj d4
  obtain ⟨C, D, rfl⟩ := aj d5
  obtain rfl := c9
  obtain ⟨E, F, rfl⟩ := aj d0
  obtain rfl := d1
  obtain rfl := d2
  obtain rfl := d3
  refine bu z (aw z) (cA (cs := [B a.q_, I J a.g_.j_, I J a.g_.c_, S t a.r_.length u, I J a.w_, S x a.n_.e_.length A, S C a.n_.d_.length D, I J a.x_, S E a.b_.length F, I J a.m_, I J a.p_, I J a.s_]) z z ca (bW (fun _ h => h.ext) b1) z) <| aA z z z z ca (fun _ => (tk 4 z)) fun a5 => aQ <| kd <| sC 0 [B a.q_, I J a.g_.j_, I J a.g_.c_, S t a.r_.length u, I J a.w_, S x a.n_.e_.length A, S C a.n_.d_.length D, I J a.x_, S E a.b_.length F, I J a.m_, I J a.p_, I J a.s_] [_, _, _, _, _, _, _, _, _, _, _, _] 4 z ca z <| nQ <| ak <| sR <| aa [.fa 71 0 0 mg] z <| o1 z (r1 0 4 z ty4 z) <| nQ <| cI H z (fun H => ?_) (fun H => ?_)
  ·exact sR <| oPP z <| nT <| am <| aL <| bU <| aL <| bg (rs := [.tmp 6]) (vs := [S d c.length f]) z ⟨z, Y⟩ (fun w' hw' => by
    obtain rfl := ai H
    exact ⟨_, z, d, c.length, f, g, z, a9, hw'.sel [3] z z⟩)
  ·refine ar <| ax <| sR <| aa [.fa 71 3 4 pR] z <| o1 z (r1 4 4 z ty3 z) <| oP z <| nQ <| wy (fun (k : Int) => St w l [b m 27 [S M p0.b_.length P, S Q p0.l_.length R], b o 30 [S X p1.a_.length Z, I J p1.k_], b q 33 [S a2 p2.o_.length a3, I J p2.v_], W (ae eI 3) g c [S d c.length f], b a5 71 [B a.q_, I J a.g_.j_, I J a.g_.c_, S t a.r_.length u, I J a.w_, S x a.n_.e_.length A, S C a.n_.d_.length D, I J a.x_, S E a.b_.length F, I J a.m_, I J a.p_, I J a.s_]]) (fun k => [(3, O (U ⟨m, 0, N⟩)), (4, O (U ⟨o, 0, N⟩)), (5, O (U ⟨q, 0, N⟩)), (7, S d c.length f), (8, O (U ⟨a5, 0, N⟩)), (9, I J k)]) (fun k => jB a c (fo p1 p2 p0 k1) k = U r) (fun k H => ?_) (fun J1 => ?_)
   ·unfold jB at H
    exact aW <| aa [.p, .fa 71 2 3 ik] z <| o1 z (r1 3 4 z cq z) <| oP z <| bE H fun G a6 H => bo (e := eI) (xs := a.r_) (j := k) z z z z z aP ty3 z (ad s) a6 (by rw [Nat.mul_one]) <| o1 z (aD z z ty3 (bD (ad s) a6)) <| bQ (val := I J) (h1 := fun _ => z) [G] [(0, [I J G])] z z z z z aP ty3 z z z ⟨z, z, nl z, Y⟩ z z (fun _ => kp) fun h0 => bE H fun d6 a7 H => cm (r := 3) (ys := ([G] : List Int)) z z z z z z aP ty3 z z z (ap (e := ae eI 3) (r := 5) z) a7 (fun _ _ _ => kp) fun d7 d8 d9 => ct z (fun w1 L => fh (i := 3) L z (ff a7)) fun b3 => oP z <| ay <| cd <| cD (RW.at (c3 (d6) (d7) (d8) (d9) (⟨b3, H⟩)) (ss [0, 1, 2, 3] z z) (sb z))
   ·refine sR <| aa [.fa 33 0 0 jW] z <| o1 z (r1 0 2 z cq z) <| aa [.fa 71 1 1 mf, .fa 66 0 0 jI] z <| o1 z (r1 1 4 z ty3 z) <| bE H fun h2 a8 H => bo (e := eI) (xs := p2.o_) (j := a.g_.j_) z z z z z aP ty3 z (ad a1) a8 (by rw [Nat.mul_one]) <| o1 z (aD z z ty3 (bD (ad a1) a8)) <| oP z <| nR <| oPP z <| nQ <| cI H z (fun H => ?_) (fun H => ?_)
    ·exact aW <| o1 z (rx 0 0 _ z cg z) <| aa [.fa 71 1 1 mf] z <| o1 z (rx 1 4 _ z cM z) <| oP z <| bE H fun e0 e1 H => oq z (qc z EQ (fun w1 L => ph w1 (p1 := a.g_) e1 (af (ad b7 w1 L) (ad b8 w1 L)))) tt2 <| oP z <| ay <| XW.at (J1 (e0) (H)) (ss [0, 1, 2, 3, 4] z z) (sb z)
    ·exact ar <| XW.at (J1 (a.w_) (H)) (ss [0, 1, 2, 3, 4] z z) (sb z)
theorem ut (w : World) {g : List Nat} {p0 : ab} {p1 : ah} {p2 : aY} {o : List Value} {q : List Value} {s : List Value} {r : (List Int) × Bool} (H : oK p0 p1 p2 = U r) (HS : St w g [] w) (g0 : (aJ).rd w g p0 o) (g1 : (cz).rd w g p1 q) (g2 : (ew).rd w g p2 s) :
    Calls Tryz.prog 47 #[.agg o.toArray, .agg q.toArray, .agg s.toArray] w (fun en w' => ∃ v, en = .returned v ∧ ∃ (F : Option Addr), ∃ (M : Nat), ∃ (c0 : Nat), ∃ (F0 : List Nat), v = S F M c0 ∧ F.isNone = r.2 ∧ St w g [W (ae eI 3) F0 r.1 [S F M c0]] w') := by
 obtain ⟨a9, b0, rfl, d, f⟩ := aB g0
 obtain ⟨b1, b2, rfl⟩ := aj d
 obtain ⟨b3, b4, rfl⟩ := aj f
 obtain ⟨b5, b6, rfl, j, P⟩ := bZ g1
 obtain ⟨b7, b8, rfl⟩ := aj j
 obtain rfl := P
 obtain ⟨b9, c1, rfl, k, Q⟩ := fT g2
 obtain ⟨c2, c3, rfl⟩ := aj k
 obtain rfl := Q
 unfold oK at H
 refine aH Tryz.func47 z Tryz.ntmps47 z (HS) <| sR <| ob _ z fun t => ob _ z fun u => ob _ z fun x => oP z <| nQ <| ak <| sR <| o1 z (rx 0 0 _ z cg z) <| o1 z (rx 0 1 _ z bx z) <| bE H fun A X H => oq z (qc z Fz (fun c a => qe c X (af (ad d c a) (ad f c a)) (aM (ad j c a) z))) tt2 <| oPP z <| bE H fun Z l H => aS [(16, B Z), (3, O (U ⟨t, 0, N⟩)), (4, O (U ⟨u, 0, N⟩)), (5, O (U ⟨x, 0, N⟩))] 5 ?_ (fun key => OW.sub (R := [(3, O (U ⟨t, 0, N⟩)), (4, O (U ⟨u, 0, N⟩)), (5, O (U ⟨x, 0, N⟩)), (11, B (!A))]) ?_ (sb z))
 ·refine nQ <| cI H z (fun H => ?_) (fun H => ?_)
  ·exact sR <| oP z <| nT <| am <| fq (fun _ h => St.pushNil (e := eI) (T := 3) h) <| bg (rs := [.tmp 6]) (vs := [S N 0 0]) z ⟨z, Y⟩ (fun w' hw' => by
    obtain rfl := ai H
    exact ⟨_, z, N, 0, 0, [], z, z, hw'.sel [3] z z⟩)
  ·refine ar <| ax <| sR <| o1 z (rx 0 0 _ z cg z) <| o1 z (rx 0 1 _ z bx z) <| o1 z (rx 0 2 _ z gm z) <| bE H fun C a1 H => au z Gw z z z z (fun c a => ur c a1 (a.carve [] z z) (af (ad d c a) (ad f c a)) (aM (ad j c a) z) (bM (ad k c a) z)) fun c4 c w2 a G => ?_
   obtain ⟨D, c5, E, a2, rfl, L, m⟩ := G
   obtain rfl := aI (i := 0) m z
   refine ⟨St w g [_, _, _, _], a.comp [] z z m, fun _ _ => Y, ?_⟩
   exact oP z <| nT <| bg (rs := [.tmp 6]) (vs := [S D C.1.length E]) z ⟨z, Y⟩ (fun w' hw' => by
    obtain rfl := ai H
    exact ⟨_, z, D, C.1.length, E, a2, z, L, hw'.sel [3] z z⟩)
 ·clear H
  have H := l
  clear l
  generalize (!A) = a3 at H key ⊢
  cases a3
  ·have H := ba z H
   refine o1 z (rx 0 0 _ z cg z) <| o1 z (rx 0 2 _ z gm z) <| bE H fun c6 a4 H => oq z (qc z FE (fun c a => rF c a4 (af (ad d c a) (ad f c a)) (bM (ad k c a) z))) tt2 <| oP z <| oP z <| ?_
   obtain rfl := ai H
   exact OW.sub key (sb z)
  ·have H := aZ z H
   refine aa [.p, .p, .p, .p, .p] z ?_
   obtain rfl := ai H
   exact OW.sub key (sb z)
theorem tp (w : World) {p0 : ab} {p1 : ah} {p2 : aY} {f : List Value} {g : List Value} {h : List Value} {r : Int} (H : kX p0 p1 p2 = U r) (A : (aJ).rd w [] p0 f) (C : (cz).rd w [] p1 g) (D : (ew).rd w [] p2 h) :
    Calls Tryz.prog 17 #[.agg f.toArray, .agg g.toArray, .agg h.toArray] w (fun en w' => en = .returned (I J r) ∧ Ext [] w w') := by
 obtain ⟨F, G, rfl, k, l⟩ := aB A
 obtain ⟨L, M, rfl⟩ := aj k
 obtain ⟨P, Q, rfl⟩ := aj l
 obtain ⟨R, X, rfl, m, u⟩ := bZ C
 obtain ⟨Z, a0, rfl⟩ := aj m
 obtain rfl := u
 obtain ⟨a1, a2, rfl, o, v⟩ := fT D
 obtain ⟨a3, a4, rfl⟩ := aj o
 obtain rfl := v
 unfold kX at H
 refine aH Tryz.func17 z Tryz.ntmps17 z (St.init w []) <| sR <| ob _ z fun a5 => ob _ z fun a6 => ob _ z fun a7 => oP z <| nR <| o1 z (rx 0 0 _ z cg z) <| o1 z (rx 0 1 _ z bx z) <| o1 z (rx 0 2 _ z gm z) <| bE H fun q x H => au z Ge z z z z (fun c a => ut c x (a.carve [] z z) (af (ad k c a) (ad l c a)) (aM (ad m c a) z) (bM (ad o c a) z)) fun a8 c w2 a t => ?_
 obtain ⟨a9, b0, b1, b2, rfl, E, d⟩ := t
 obtain rfl := aI (i := 0) d z
 refine ⟨St w [] [_, _, _, _], a.comp [] z z d, fun _ _ => Y, ?_⟩
 refine oP z <| nQ <| ak <| sR <| aa [.p, .lenS 31 3 aP, .p] z <| nQ <| cI H z (fun H => ?_) (fun H => ?_)
 ·exact sR <| oP z <| nT <| am <| xr 6 z (by cases H; exact q1)
 ·exact ar <| ax <| sR <| aa [.p, .p, .lenS 31 3 aP, .p] z <| bE H fun b3 s H => bo (e := eI) (xs := q.1) (j := J.wrap ((q.1.length : Int) - 1)) z z z z z aP ty3 z (ap (e := ae eI 3) (r := 3) z) s (by rw [Nat.mul_one]) <| o1 z (aD z z ty3 (bD (ap (e := ae eI 3) (r := 3) z) s)) <| oP z <| nT <| xr 6 z (by cases H; exact q1)
theorem uf (w : World) {p0 : List Int} {a_0 : Option Addr} {n_0 c_0 : Nat} {r : Bool} (H : oy p0 = U r) (g0 : (ae e8 5).rd w [] p0 [S a_0 n_0 c_0]) (gT : (sf Tryz.prog).rd w [] () []) :
    Calls Tryz.prog 3 #[S a_0 n_0 c_0] w (fun en w' => en = .returned (B r) ∧ Ext [] w w') := by
 obtain rfl := fM g0
 unfold oy at H
 refine aH Tryz.func3 z Tryz.ntmps3 z (St.init w []) <| sR <| oP z <| nQ <| ak <| sR <| oP z <| bE H fun h1 e1 H => oq z (qc z fn5 (fun d a => wS d e1 (ad g0 d a))) tt2 <| nQ <| cI H z (fun H => ?_) (fun H => ?_)
 ·exact sR <| oP z <| nT <| am <| xr 2 z (by cases H; exact q1)
 ·refine ar <| ax <| sR <| oP z <| bE H fun c e2 H => au z fn6 z z z z (fun d a => rk d e2 (a.carve [] z z) (ad g0 d a)) fun h2 d w2 a b7 => ?_
  obtain ⟨k, h3, l, e4, m, h4, o, e5, L, h5, M, e6, Z, h6, a0, e7, rfl, P⟩ := b7
  obtain rfl := aI (i := 0) P z
  obtain rfl := aI (i := 1) P z
  obtain rfl := aI (i := 2) P z
  obtain rfl := aI (i := 3) P z
  refine ⟨St w [] [_, _, _, _], a.comp [] z z P, fun _ _ => Y, ?_⟩
  refine aa [.p, .p, .p, .p] z <| aA z z z z cg (fun _ => kp) fun D => aA z z z z bx (fun _ => kp) fun E => aA z z z z gm (fun _ => kp) fun F => sC 0 [S k c.1.b_.length l, S m c.1.l_.length o] [_, _] 4 z cg z <| sC 0 [S L c.2.1.a_.length M, I J c.2.1.k_] [_, _] 5 z bx z <| sC 0 [S Z c.2.2.o_.length a0, I J c.2.2.v_] [_, _] 6 z gm z <| nR <| o1 z (rx 0 4 _ z cg z) <| o1 z (rx 0 5 _ z bx z) <| bE H fun Q e9 H => au z fn7 z z z z (fun d a => uA d e9 (a.carve [] z z) (af (x := c.1) (c0 := [S k c.1.b_.length l]) (c1 := [S m c.1.l_.length o]) (ap (e := ae (cb) 63) (r := 0) z d a) (ap (e := ae (dF) 9) (r := 1) z d a)) (aM (x := c.2.1) (c0 := [S L c.2.1.a_.length M]) (c1 := [I J c.2.1.k_]) (ap (e := ae (aC) 71) (r := 2) z d a) z)) fun h7 d w2 a b8 => ?_
  obtain ⟨a2, h8, a3, f0, rfl, b1⟩ := b8
  obtain rfl := aI (i := 0) b1 z
  refine ⟨St w [] [_, _, _, _, _, _, _, _], a.comp [] z z b1, fun _ _ => Y, ?_⟩
  refine oP z <| nQ <| ak <| sR <| o1 z (rx 0 4 _ z cg z) <| o1 z (rx 0 5 _ z bx z) <| bE H fun h9 f1 H => oq z (qc z fn8 (fun d a => jH d f1 (af (x := c.1) (c0 := [S k c.1.b_.length l]) (c1 := [S m c.1.l_.length o]) (ap (e := ae (cb) 63) (r := 0) z d a) (ap (e := ae (dF) 9) (r := 1) z d a)) (aM (x := c.2.1) (c0 := [S L c.2.1.a_.length M]) (c1 := [I J c.2.1.k_]) (ap (e := ae (aC) 71) (r := 2) z d a) z))) tt2 <| oP z <| nQ <| cI H z (fun H => ?_) (fun H => ?_)
  ·exact sR <| aa [.p, .lenS 36 41 uh, .p, .p] z <| nT <| am <| xr 2 z (by cases H; exact q1)
  ·refine ar <| ax <| sR <| oP z <| nR <| oP z <| nR <| oP z <| nQ <| ak <| sR <| oP z <| nQ <| az <| CW.at (wB (fun (v : Int) (X : List bf) (a5 : List Nat) (j : Int) (g : Int) (s : Int) => St w [] [b D 27 [S k c.1.b_.length l, S m c.1.l_.length o], W (ae (cb) 63) e4 c.1.b_ [S k c.1.b_.length l], W (ae (dF) 9) e5 c.1.l_ [S m c.1.l_.length o], b E 30 [S L c.2.1.a_.length M, I J c.2.1.k_], W (ae (aC) 71) e6 c.2.1.a_ [S L c.2.1.a_.length M], b F 33 [S Z c.2.2.o_.length a0, I J c.2.2.v_], W (ae eI 3) e7 c.2.2.o_ [S Z c.2.2.o_.length a0], W (ae (dA) 41) a5 X [S a2 Q.length a3]]) (fun v X a5 j g s => [(3, O (U ⟨D, 0, N⟩)), (4, O (U ⟨E, 0, N⟩)), (5, O (U ⟨F, 0, N⟩)), (6, S a2 Q.length a3), (7, I J j), (8, I J g), (9, I J s), (10, I J v)]) (fun kk => fun v X a5 j g s => dL Q c kk v X j g s = U r) (fun _ _ _ _ _ _ H => ?_) (fun k1 b2 v X a5 j g s H => ?_) be (0) (Q) (f0) (0) (0) ((-1)) (H)) (ss [4, 0, 1, 5, 2, 6, 3, 7] z z) (sb z)
   ·unfold dL at H
    exact absurd H (by simp)
   ·unfold dL at H
    refine ak <| sR <| aa [.p, .p, .lenS 36 41 uh, .p] z <| nQ <| cI H z (fun H => ?_) (fun H => ?_)
    ·refine ar <| ax <| ak <| az <| ak <| bE H fun f G H => rt (fun d a => foc (r := 7) a z G) fun f2 f3 f4 f5 => ku (fun d a => a.1) fun b9 => ?_
     obtain ⟨t, u⟩ := b9
     refine CW.weak (C' := St w [] [_, _, _, _, _, _, _, _, _, _]) ?_ (fun d a => a.2)
     refine mM (fun d a => va (i := 9) a z) fun A C f6 => ku (fun d a => a.1) fun c2 => ?_
     subst c2
     refine CW.weak (C' := St w [] [_, _, _, _, _, _, _, _, _, _, _]) ?_ (fun d a => a.2)
     refine dW cj (by kernel_rfl) <| oP z <| o1 z (rx 0 0 _ z cg z) <| oPP z <| gx z z z z z uh pA z (fU (p := 8) z) u t (cL G).1 <| o1 z (qt [I J f.q_, S A f.y_.length C] 8 0 z z z pA (by first | rfl | simp only [dm, dB, dd]) z z) <| bE H fun a1 c3 H => oq z (qc z fn9 (fun d a => tJ d c3 (af (x := c.1) (c0 := [S k c.1.b_.length l]) (c1 := [S m c.1.l_.length o]) (ap (e := ae (cb) 63) (r := 1) z d a) (ap (e := ae (dF) 9) (r := 2) z d a)) (jv (x := f) (c0 := [I J f.q_]) (c1 := [S A f.y_.length C]) z (ap (e := ae eI 3) (r := 10) z d a)))) tt2 <| oPP z <| cC <| ax <| ak <| ak <| CW.weak (C' := St w [] [_, _, _, _, _, _, _, _, _]) ?_ (ss [0, 1, 2, 3, 4, 5, 6, 8, 10] z z)
     refine dW cj (by kernel_rfl) <| o1 z (rx 0 0 _ z cg z) <| oPP z <| gx z z z z z uh pA z (fU (p := 7) z) u t (cL G).1 <| o1 z (qt [I J f.q_, S A f.y_.length C] 7 0 z z z pA (by first | rfl | simp only [dm, dB, dd]) z z) <| bE H fun b3 c4 H => oq z (qc z CM (fun d a => na d c4 (af (x := c.1) (c0 := [S k c.1.b_.length l]) (c1 := [S m c.1.l_.length o]) (ap (e := ae (cb) 63) (r := 1) z d a) (ap (e := ae (dF) 9) (r := 2) z d a)) (jv (x := f) (c0 := [I J f.q_]) (c1 := [S A f.y_.length C]) z (ap (e := ae eI 3) (r := 8) z d a)))) tt2 <| oPP z <| bE H fun c5 a6 H => aS [(58, B c5), (3, O (U ⟨D, 0, N⟩)), (4, O (U ⟨E, 0, N⟩)), (5, O (U ⟨F, 0, N⟩)), (6, S a2 Q.length a3), (7, I J (J.wrap (j + a1))), (8, I J g), (9, I J s), (10, I J v)] 8 ?_ (fun key => OW.sub (R := [(3, O (U ⟨D, 0, N⟩)), (4, O (U ⟨E, 0, N⟩)), (5, O (U ⟨F, 0, N⟩)), (6, S a2 Q.length a3), (7, I J (J.wrap (j + a1))), (8, I J g), (9, I J s), (10, I J v), (50, B (!b3))]) ?_ (sb z))
     ·refine cC <| ax <| cI H z (fun H => ?_) (fun H => ?_)
      ·exact sR <| oP z <| nT <| am <| aL <| am <| bU <| aL <| am <| xr 2 z (by cases H; exact q1)
      ·refine ar <| ax <| ak <| dW cj (by kernel_rfl) <| o1 z (rx 0 0 _ z cg z) <| oPP z <| gx z z z z z uh pA z (fU (p := 7) z) u t (cL G).1 <| o1 z (qt [I J f.q_, S A f.y_.length C] 7 0 z z z pA (by first | rfl | simp only [dm, dB, dd]) z z) <| o1 z (rx 0 5 _ z gm z) <| bE H fun f7 c6 H => oq z (qc z GC (fun d a => sh d c6 (af (x := c.1) (c0 := [S k c.1.b_.length l]) (c1 := [S m c.1.l_.length o]) (ap (e := ae (cb) 63) (r := 1) z d a) (ap (e := ae (dF) 9) (r := 2) z d a)) (jv (x := f) (c0 := [I J f.q_]) (c1 := [S A f.y_.length C]) z (ap (e := ae eI 3) (r := 8) z d a)) (bM (x := c.2.2) (c0 := [S Z c.2.2.o_.length a0]) (c1 := [I J c.2.2.v_]) (ap (e := ae eI 3) (r := 6) z d a) z))) tt2 <| cC <| ax <| cI H z (fun H => ?_) (fun H => ?_)
       ·exact sR <| aa [.p, .p, .p] z <| nQ <| aW <| oPP z <| gx z z z z z uh pA z (fU (p := 7) z) u t (cL G).1 <| aa [.fa 41 0 0 Bz] z <| o1 z (ow 7 0 z z z ty3 (by first | rfl | simp only [dm, dB, dd]) z) <| oP z <| ay <| cd <| ax <| aW <| aa [.p, .p, .p] z <| ay <| gO (fun d a => oQ (x0 := f.q_) [8] a z z) fun f8 => fq (C' := St w [] [_, _, _, _, _, _, _, _, _, _]) (fun _ h => h) <| gO (fun d a => unf (p := 7) (q := 9) a z z z u t) fun c7 => fq (C' := St w [] [_, _, _, _, _, _, _, _, _, _, _]) (fun _ h => h) <| cD (RW.at (b2 (J.wrap (v + 1)) ((X.set v.toNat f)) (c7) (J.wrap (j + a1)) (J.wrap (g + 1)) (f.q_) (H)) (ss [0, 1, 2, 3, 4, 5, 6, 10] z z) (sb z))
       ·exact ar <| cd <| ax <| aW <| aa [.p, .p, .p] z <| ay <| gO (fun d a => oQ (x0 := f.q_) [8] a z z) fun f9 => fq (C' := St w [] [_, _, _, _, _, _, _, _, _, _]) (fun _ h => h) <| gO (fun d a => unf (p := 7) (q := 9) a z z z u t) fun c8 => fq (C' := St w [] [_, _, _, _, _, _, _, _, _, _, _]) (fun _ h => h) <| cD (RW.at (b2 (J.wrap (v + 1)) ((X.set v.toNat f)) (c8) (J.wrap (j + a1)) (g) (s) (H)) (ss [0, 1, 2, 3, 4, 5, 6, 10] z z) (sb z))
     ·clear H
      have H := a6
      clear a6
      generalize (!b3) = c9 at H key ⊢
      cases c9
      ·have H := ba z H
       refine o1 z (rx 0 0 _ z cg z) <| oPP z <| gx z z z z z uh pA z (fU (p := 7) z) u t (cL G).1 <| o1 z (qt [I J f.q_, S A f.y_.length C] 7 0 z z z pA (by first | rfl | simp only [dm, dB, dd]) z z) <| bE H fun g1 d0 H => oq z (qc z Gm (fun d a => tw d d0 (af (x := c.1) (c0 := [S k c.1.b_.length l]) (c1 := [S m c.1.l_.length o]) (ap (e := ae (cb) 63) (r := 1) z d a) (ap (e := ae (dF) 9) (r := 2) z d a)) (jv (x := f) (c0 := [I J f.q_]) (c1 := [S A f.y_.length C]) z (ap (e := ae eI 3) (r := 8) z d a)) (ad gT d a))) tt2 <| oP z <| oP z <| ?_
       obtain rfl := ai H
       exact OW.sub key (sb z)
      ·have H := aZ z H
       refine aa [.p, .p, .p, .p, .p, .p, .p, .p] z ?_
       obtain rfl := ai H
       exact OW.sub key (sb z)
    ·refine bF <| aN <| aR <| aO <| ax <| ak <| sR <| oP z <| o1 z (rx 0 0 _ z cg z) <| bE H fun b4 d1 H => oq z (qc z GJ (fun d a => tB d d1 (af (x := c.1) (c0 := [S k c.1.b_.length l]) (c1 := [S m c.1.l_.length o]) (ap (e := ae (cb) 63) (r := 1) z d a) (ap (e := ae (dF) 9) (r := 2) z d a)))) tt2 <| oPP z <| bE H fun a4 a7 H => aS [(84, B a4), (3, O (U ⟨D, 0, N⟩)), (4, O (U ⟨E, 0, N⟩)), (5, O (U ⟨F, 0, N⟩)), (7, I J j), (8, I J g), (9, I J s)] 7 ?_ (fun key => OW.sub (R := [(3, O (U ⟨D, 0, N⟩)), (4, O (U ⟨E, 0, N⟩)), (5, O (U ⟨F, 0, N⟩)), (6, S a2 Q.length a3), (7, I J j), (8, I J g), (9, I J s), (77, B (j != b4))]) ?_ (sb z))
     ·refine oP z <| bE H fun d2 a8 H => aS [(90, B d2), (3, O (U ⟨D, 0, N⟩)), (4, O (U ⟨E, 0, N⟩)), (5, O (U ⟨F, 0, N⟩)), (8, I J g), (9, I J s)] 5 ?_ (fun key => OW.sub (R := [(3, O (U ⟨D, 0, N⟩)), (4, O (U ⟨E, 0, N⟩)), (5, O (U ⟨F, 0, N⟩)), (7, I J j), (8, I J g), (9, I J s), (85, B a4)]) ?_ (sb z))
      ·refine nQ <| cI H z (fun H => ?_) (fun H => ?_)
       ·exact sR <| oP z <| nT <| am <| xr 2 z (by cases H; exact q1)
       ·refine ar <| ax <| ak <| sR <| o1 z (rx 0 0 _ z cg z) <| o1 z (rx 0 5 _ z gm z) <| bE H fun g2 d3 H => oq z (qc z Ca (fun d a => nK d d3 (af (x := c.1) (c0 := [S k c.1.b_.length l]) (c1 := [S m c.1.l_.length o]) (ap (e := ae (cb) 63) (r := 1) z d a) (ap (e := ae (dF) 9) (r := 2) z d a)) (bM (x := c.2.2) (c0 := [S Z c.2.2.o_.length a0]) (c1 := [I J c.2.2.v_]) (ap (e := ae eI 3) (r := 6) z d a) z))) tt2 <| oP z <| nQ <| cI H z (fun H => ?_) (fun H => ?_)
        ·exact sR <| aa [.p, .p, .p] z <| nT <| am <| xr 2 z (by cases H; exact q1)
        ·refine ar <| ax <| sR <| aa [.p, .p, .p] z <| bE H fun d4 a9 H => aS [(106, B d4)] 7 ?_ (fun key => OW.sub (R := [(3, O (U ⟨D, 0, N⟩)), (4, O (U ⟨E, 0, N⟩)), (5, O (U ⟨F, 0, N⟩)), (9, I J s), (99, B (g == 1))]) ?_ (sb z))
         ·exact oP z <| nT <| xr 2 z (by cases H; exact q1)
         ·clear H
          have H := a9
          clear a9
          generalize (g == 1) = d5 at H key ⊢
          cases d5
          ·have H := ba z H
           refine aa [.p, .p, .p, .p, .p, .p, .p] z ?_
           obtain rfl := ai H
           exact OW.sub key ⟨z, Y⟩
          ·have H := aZ z H
           refine oP z <| o1 z (rx 0 0 _ z cg z) <| o1 z (rx 0 3 _ z bx z) <| o1 z (rx 0 5 _ z gm z) <| bE H fun g3 d6 H => oq z (qc z Gb (fun d a => tp d d6 (af (x := c.1) (c0 := [S k c.1.b_.length l]) (c1 := [S m c.1.l_.length o]) (ap (e := ae (cb) 63) (r := 1) z d a) (ap (e := ae (dF) 9) (r := 2) z d a)) (aM (x := c.2.1) (c0 := [S L c.2.1.a_.length M]) (c1 := [I J c.2.1.k_]) (ap (e := ae (aC) 71) (r := 4) z d a) z) (bM (x := c.2.2) (c0 := [S Z c.2.2.o_.length a0]) (c1 := [I J c.2.2.v_]) (ap (e := ae eI 3) (r := 6) z d a) z))) tt2 <| oP z <| oP z <| ?_
           obtain rfl := ai H
           exact OW.sub key ⟨z, Y⟩
      ·clear H
       have H := a8
       clear a8
       generalize a4 = d7 at H key ⊢
       cases d7
       ·have H := ba z H
        refine o1 z (rx 0 0 _ z cg z) <| bE H fun g4 d8 H => oq z (qc z GR (fun d a => tF d d8 (af (x := c.1) (c0 := [S k c.1.b_.length l]) (c1 := [S m c.1.l_.length o]) (ap (e := ae (cb) 63) (r := 1) z d a) (ap (e := ae (dF) 9) (r := 2) z d a)))) tt2 <| oPP z <| oP z <| ?_
        obtain rfl := ai H
        exact OW.sub key (sb z)
       ·have H := aZ z H
        refine aa [.p, .p, .p, .p, .p] z ?_
        obtain rfl := ai H
        exact OW.sub key (sb z)
     ·clear H
      have H := a7
      clear a7
      generalize (j != b4) = d9 at H key ⊢
      cases d9
      ·have H := ba z H
       refine aa [.p, .lenS 36 41 uh] z <| o1 z (rx 0 3 _ z bx z) <| bE H fun g5 e0 H => au z FF z z z z (fun d a => qz d e0 (a.carve [] z z) (aM (x := c.2.1) (c0 := [S L c.2.1.a_.length M]) (c1 := [I J c.2.1.k_]) (ap (e := ae (aC) 71) (r := 4) z d a) z)) fun g6 d w2 a b5 => ?_
       obtain ⟨g7, g8, g9, h0, rfl, b0⟩ := b5
       obtain rfl := aI (i := 0) b0 z
       refine ⟨St w [] [_, _, _, _, _, _, _, _, _], a.comp [] z z b0, fun _ _ => Y, ?_⟩
       refine aa [.lenS 31 3 aP, .p] z <| fp z (C' := St w [] [_, _, _, _, _, _, _, _]) (ss [0, 1, 2, 3, 4, 5, 6, 7] z z) <| oP z <| ?_
       obtain rfl := ai H
       exact OW.sub key (sb z)
      ·have H := aZ z H
       refine aa [.p, .p, .p, .p, .p, .p, .p] z ?_
       obtain rfl := ai H
       exact OW.sub key (sb z)
end Go.Vk
