/- The code does what the functions of data say. Printed by program. -/
import Derived.Test.YtdckhcfbccnjiaaGreatDoorWWyA
namespace Go.Vk
open Value renaming int → I, slice → S, pointer → O, bool → B
open IntKind renaming i64 → J, u8 → K
open Bool renaming true → y, false → n
open Option renaming some → U, none → N
open Res renaming box → b, own → W
open Go.Proofs Go.RowKit
set_option maxHeartbeats 4000000
set_option maxRecDepth 100000
theorem jH (w : World) {p0 : ab} {p1 : ah} {b9 : List Value} {c0 : List Value} {r : Bool} (H : gV p0 p1 = U r) (g0 : (aJ).rd w [] p0 b9) (g1 : (cz).rd w [] p1 c0) :
    Calls Tryz.prog 8 #[.agg b9.toArray, .agg c0.toArray] w (fun en w' => en = .returned (B r) ∧ Ext [] w w') := by
 obtain ⟨l3, l4, rfl, m, o⟩ := aB g0
 obtain ⟨g4, g5, rfl⟩ := aj m
 obtain ⟨g6, g7, rfl⟩ := aj o
 obtain ⟨l5, l6, rfl, q, g8⟩ := bZ g1
 obtain ⟨g9, h0, rfl⟩ := aj q
 obtain rfl := g8
 unfold gV at H
 refine aH Tryz.func8 z Tryz.ntmps8 z (St.init w []) <| sR <| ob _ z fun e => ob _ z fun f => oP z <| nQ <| ak <| sR <| o1 z (rx 0 0 _ z cg z) <| bE H fun c1 h1 H => oq z (qc z xY (fun i h => gB i h1 (af (ad m i h) (ad o i h)))) tt2 <| oPP z <| bE H fun C D H => aS [(17, B C), (2, O (U ⟨e, 0, N⟩)), (3, O (U ⟨f, 0, N⟩))] 6 ?_ (fun key => OW.sub (R := [(2, O (U ⟨e, 0, N⟩)), (3, O (U ⟨f, 0, N⟩)), (11, B (!c1))]) ?_ (sb z))
 ·refine oP z <| bE H fun h2 E H => aS [(23, B h2), (2, O (U ⟨e, 0, N⟩)), (3, O (U ⟨f, 0, N⟩))] 5 ?_ (fun key => OW.sub (R := [(2, O (U ⟨e, 0, N⟩)), (3, O (U ⟨f, 0, N⟩)), (18, B C)]) ?_ (sb z))
  ·refine nQ <| cI H z (fun H => ?_) (fun H => ?_)
   ·exact sR <| oP z <| nT <| am <| xr 4 z (by cases H; exact q1)
   ·refine ar <| ax <| ak <| sR <| oP z <| nQ <| az <| CW.at (fG (fun (d : Int) => St w [] [b e 27 [S g4 p0.b_.length g5, S g6 p0.l_.length g7], b f 30 [S g9 p1.a_.length h0, I J p1.k_]]) (fun d => [(2, O (U ⟨e, 0, N⟩)), (3, O (U ⟨f, 0, N⟩)), (5, I J d)]) (fun kk => fun d => dQ p1 p0 kk d = U r) (fun _ H => ?_) (fun k1 F d H => ?_) be (0) (H)) (ss [0, 1] z z) (sb z)
    ·unfold dQ at H
     exact absurd H (by simp)
    ·unfold dQ at H
     refine ak <| sR <| aa [.p, .fa 30 0 0 cc] z <| o1 z (r1 0 1 z eC z) <| aa [.lenS 28 71 dX, .p] z <| nQ <| cI H z (fun H => ?_) (fun H => ?_)
     ·refine ar <| ax <| ak <| az <| sR <| aa [.fa 30 0 0 cc] z <| o1 z (r1 0 1 z eC z) <| oP z <| bE H fun a c2 H => cn z z z z z dX ca z q c2 fun h9 i0 b5 b6 => ?_
      obtain ⟨i1, i2, i3, i4, i5, i6, i7, i8, i9, j0, rfl, c3, c4, G, c5, c6, c7, L, c8, c9, d0⟩ := bj b5
      obtain rfl := c3
      obtain rfl := c4
      obtain ⟨M, P, rfl⟩ := aj G
      obtain rfl := c5
      obtain ⟨j1, j2, rfl, Q, X⟩ := aK c6
      obtain ⟨Z, a0, rfl⟩ := aj Q
      obtain ⟨a1, a2, rfl⟩ := aj X
      obtain rfl := c7
      obtain ⟨a3, a4, rfl⟩ := aj L
      obtain rfl := c8
      obtain rfl := c9
      obtain rfl := d0
      refine o1 z (cA (cs := [B a.q_, I J a.g_.j_, I J a.g_.c_, S M a.r_.length P, I J a.w_, S Z a.n_.e_.length a0, S a1 a.n_.d_.length a2, I J a.x_, S a3 a.b_.length a4, I J a.m_, I J a.p_, I J a.s_]) z z ca (bW bor b6) z) <| aA z z z z ca (fun _ => kp) fun g => sC 0 [B a.q_, I J a.g_.j_, I J a.g_.c_, S M a.r_.length P, I J a.w_, S Z a.n_.e_.length a0, S a1 a.n_.d_.length a2, I J a.x_, S a3 a.b_.length a4, I J a.m_, I J a.p_, I J a.s_] [_, _, _, _, _, _, _, _, _, _, _, _] 2 z ca z <| nQ <| ak <| sR <| aa [.fa 71 7 9 lE] z <| o1 z (r1 9 2 z ty3 z) <| bE H fun a5 d1 H => oq z (qc z iF (fun i h => bl i d1)) tt2 <| oPP z <| bE H fun d2 s H => aS [(47, B d2), (2, O (U ⟨e, 0, N⟩)), (3, O (U ⟨f, 0, N⟩)), (5, I J d), (6, O (U ⟨g, 0, N⟩))] 7 ?_ (fun key => OW.sub (R := [(2, O (U ⟨e, 0, N⟩)), (3, O (U ⟨f, 0, N⟩)), (5, I J d), (6, O (U ⟨g, 0, N⟩)), (40, B (!a5))]) ?_ (sb z))
      ·refine nQ <| cI H z (fun H => ?_) (fun H => ?_)
       ·exact sR <| oP z <| nT <| am <| aL <| am <| bU <| aL <| am <| xr 4 z (by cases H; exact q1)
       ·refine ar <| ax <| ak <| sR <| aa [.fa 71 0 0 mg] z <| o1 z (r1 0 2 z ty4 z) <| oP z <| bE H fun l t H => aS [(55, B l), (2, O (U ⟨e, 0, N⟩)), (3, O (U ⟨f, 0, N⟩)), (5, I J d), (6, O (U ⟨g, 0, N⟩))] 5 ?_ (fun key => OW.sub (R := [(2, O (U ⟨e, 0, N⟩)), (3, O (U ⟨f, 0, N⟩)), (5, I J d), (6, O (U ⟨g, 0, N⟩)), (50, B a.q_)]) ?_ (sb z))
        ·refine oP z <| bE H fun d3 u H => aS [(67, B d3), (2, O (U ⟨e, 0, N⟩)), (3, O (U ⟨f, 0, N⟩)), (5, I J d), (6, O (U ⟨g, 0, N⟩))] 11 ?_ (fun key => OW.sub (R := [(2, O (U ⟨e, 0, N⟩)), (3, O (U ⟨f, 0, N⟩)), (5, I J d), (6, O (U ⟨g, 0, N⟩)), (56, B l)]) ?_ (sb z))
         ·refine nQ <| cI H z (fun H => ?_) (fun H => ?_)
          ·exact sR <| oP z <| nT <| am <| aL <| am <| bU <| aL <| am <| xr 4 z (by cases H; exact q1)
          ·refine ar <| ax <| ak <| sR <| oPP z <| nQ <| cI H z (fun H => ?_) (fun H => ?_)
           ·refine ak <| sR <| aa [.fa 71 8 10 nz] z <| o1 z (r1 10 2 z ty3 z) <| oPP z <| aS [(77, B ((a.p_ != (-1)) || (a.m_ != 0))), (2, O (U ⟨e, 0, N⟩)), (3, O (U ⟨f, 0, N⟩)), (5, I J d), (6, O (U ⟨g, 0, N⟩))] 4 ?_ (fun key => OW.sub (R := [(2, O (U ⟨e, 0, N⟩)), (3, O (U ⟨f, 0, N⟩)), (5, I J d), (6, O (U ⟨g, 0, N⟩)), (73, B (a.p_ != (-1)))]) ?_ (sb z))
            ·refine oP z <| aS [(82, B (((a.p_ != (-1)) || (a.m_ != 0)) || (a.s_ != 0))), (2, O (U ⟨e, 0, N⟩)), (3, O (U ⟨f, 0, N⟩)), (5, I J d)] 4 ?_ (fun key => OW.sub (R := [(2, O (U ⟨e, 0, N⟩)), (3, O (U ⟨f, 0, N⟩)), (5, I J d), (6, O (U ⟨g, 0, N⟩)), (78, B ((a.p_ != (-1)) || (a.m_ != 0)))]) ?_ (sb z))
             ·refine nQ <| cI H z (fun H => ?_) (fun H => ?_)
              ·exact sR <| oP z <| nT <| am <| am <| aL <| am <| bU <| aL <| am <| xr 4 z (by cases H; exact q1)
              ·exact ar <| ax <| bF <| aN <| aO <| ax <| aW <| aa [.p, .p, .p] z <| ay <| cD (RW.at (F (J.wrap (d + 1)) (H)) (ss [0, 1] z z) (sb z))
             ·generalize ((a.p_ != (-1)) || (a.m_ != 0)) = d4 at key ⊢
              cases d4
              ·exact aa [.fa 71 9 11 oT] z <| o1 z (r1 11 2 z ty3 z) <| oP z <| oP z <| OW.sub key (sb z)
              ·exact aa [.p, .p, .p, .p] z <| OW.sub key (sb z)
            ·generalize (a.p_ != (-1)) = d5 at key ⊢
             cases d5
             ·exact aa [.fa 71 7 9 lE] z <| o1 z (r1 9 2 z ty3 z) <| oP z <| oP z <| OW.sub key (sb z)
             ·exact aa [.p, .p, .p, .p] z <| OW.sub key (sb z)
           ·refine ar <| ax <| ak <| sR <| aa [.fa 71 8 10 nz] z <| o1 z (r1 10 2 z ty3 z) <| oPP z <| bE H fun j3 d6 H => oq z (qc z iF (fun i h => bl i d6)) tt2 <| oP z <| nQ <| cI H z (fun H => ?_) (fun H => ?_)
            ·exact sR <| oP z <| nT <| am <| aL <| am <| bU <| aL <| am <| xr 4 z (by cases H; exact q1)
            ·refine ar <| ax <| sR <| aa [.fa 30 0 0 cc] z <| o1 z (r1 0 1 z eC z) <| aa [.fa 71 8 10 nz] z <| o1 z (r1 10 2 z ty3 z) <| bE H fun c d7 H => cn z z z z z dX ca z q d7 fun j4 j5 b7 b8 => ?_
             obtain ⟨j6, j7, j8, j9, k0, k2, k3, k4, k5, k6, rfl, d8, d9, a6, e0, e1, e2, e3, e4, e5, e6⟩ := bj b7
             obtain rfl := d8
             obtain rfl := d9
             obtain ⟨a7, a8, rfl⟩ := aj a6
             obtain rfl := e0
             obtain ⟨k7, k8, rfl, e7, e9⟩ := aK e1
             obtain ⟨a9, b0, rfl⟩ := aj e7
             obtain ⟨b1, b2, rfl⟩ := aj e9
             obtain rfl := e2
             obtain ⟨b3, b4, rfl⟩ := aj e3
             obtain rfl := e4
             obtain rfl := e5
             obtain rfl := e6
             refine o1 z (cA (cs := [B c.q_, I J c.g_.j_, I J c.g_.c_, S a7 c.r_.length a8, I J c.w_, S a9 c.n_.e_.length b0, S b1 c.n_.d_.length b2, I J c.x_, S b3 c.b_.length b4, I J c.m_, I J c.p_, I J c.s_]) z z ca (bW bor b8) z) <| aA z z z z ca (fun _ => kp) fun k => sC 0 [B c.q_, I J c.g_.j_, I J c.g_.c_, S a7 c.r_.length a8, I J c.w_, S a9 c.n_.e_.length b0, S b1 c.n_.d_.length b2, I J c.x_, S b3 c.b_.length b4, I J c.m_, I J c.p_, I J c.s_] [_, _, _, _, _, _, _, _, _, _, _, _] 3 z ca z <| nR <| aa [.fa 71 0 0 mg] z <| o1 z (r1 0 3 z ty4 z) <| oP z <| bE H fun j v H => aS [(103, B j), (2, O (U ⟨e, 0, N⟩)), (3, O (U ⟨f, 0, N⟩)), (5, I J d), (6, O (U ⟨g, 0, N⟩)), (7, O (U ⟨k, 0, N⟩))] 6 ?_ (fun key => OW.sub (R := [(2, O (U ⟨e, 0, N⟩)), (3, O (U ⟨f, 0, N⟩)), (5, I J d), (6, O (U ⟨g, 0, N⟩)), (7, O (U ⟨k, 0, N⟩)), (97, B c.q_)]) ?_ (sb z))
             ·refine oP z <| aS [(111, B (j || ((J.wrap (c.m_ + 1)) != a.m_))), (2, O (U ⟨e, 0, N⟩)), (3, O (U ⟨f, 0, N⟩)), (5, I J d), (6, O (U ⟨g, 0, N⟩)), (7, O (U ⟨k, 0, N⟩))] 7 ?_ (fun key => OW.sub (R := [(2, O (U ⟨e, 0, N⟩)), (3, O (U ⟨f, 0, N⟩)), (5, I J d), (6, O (U ⟨g, 0, N⟩)), (7, O (U ⟨k, 0, N⟩)), (104, B j)]) ?_ (sb z))
              ·refine oP z <| aS [(118, B ((j || ((J.wrap (c.m_ + 1)) != a.m_)) || (decide (c.s_ > a.s_)))), (2, O (U ⟨e, 0, N⟩)), (3, O (U ⟨f, 0, N⟩)), (5, I J d)] 6 ?_ (fun key => OW.sub (R := [(2, O (U ⟨e, 0, N⟩)), (3, O (U ⟨f, 0, N⟩)), (5, I J d), (6, O (U ⟨g, 0, N⟩)), (7, O (U ⟨k, 0, N⟩)), (112, B (j || ((J.wrap (c.m_ + 1)) != a.m_)))]) ?_ (sb z))
               ·refine nQ <| cI H z (fun H => ?_) (fun H => ?_)
                ·exact sR <| oP z <| nT <| aL <| am <| bU <| aL <| am <| xr 4 z (by cases H; exact q1)
                ·exact ar <| cd <| ax <| aW <| aa [.p, .p, .p] z <| ay <| cD (RW.at (F (J.wrap (d + 1)) (H)) (ss [0, 1] z z) (sb z))
               ·generalize (j || ((J.wrap (c.m_ + 1)) != a.m_)) = f0 at key ⊢
                cases f0
                ·exact aa [.fa 71 9 11 oT] z <| o1 z (r1 11 3 z ty3 z) <| aa [.fa 71 9 11 oT] z <| o1 z (r1 11 2 z ty3 z) <| oP z <| oP z <| OW.sub key (sb z)
                ·exact aa [.p, .p, .p, .p, .p, .p] z <| OW.sub key (sb z)
              ·generalize j = f1 at key ⊢
               cases f1
               ·exact aa [.fa 71 7 9 lE] z <| o1 z (r1 9 3 z ty3 z) <| aa [.p, .fa 71 7 9 lE] z <| o1 z (r1 9 2 z ty3 z) <| oP z <| oP z <| OW.sub key (sb z)
               ·exact aa [.p, .p, .p, .p, .p, .p, .p] z <| OW.sub key (sb z)
             ·clear H
              have H := v
              clear v
              generalize c.q_ = f2 at H key ⊢
              cases f2
              ·have H := ba z H
               refine aa [.fa 71 2 3 ik] z <| o1 z (r1 3 3 z cq z) <| oP z <| bE H fun k9 f3 H => oq z (qc z Gt (fun i h => sq i f3 (ad a6 i h))) tt2 <| oP z <| oP z <| ?_
               obtain rfl := ai H
               exact OW.sub key (sb z)
              ·have H := aZ z H
               refine aa [.p, .p, .p, .p, .p, .p] z ?_
               obtain rfl := ai H
               exact OW.sub key (sb z)
         ·clear H
          have H := u
          clear u
          generalize l = f4 at H key ⊢
          cases f4
          ·have H := ba z H
           refine aa [.fa 71 0 0 mg] z <| o1 z (r1 0 2 z ty4 z) <| oPP z <| bE H fun f5 A H => aS [(66, B f5), (2, O (U ⟨e, 0, N⟩)), (3, O (U ⟨f, 0, N⟩)), (5, I J d), (6, O (U ⟨g, 0, N⟩)), (56, B n)] 6 ?_ (fun key => OW.sub (R := [(2, O (U ⟨e, 0, N⟩)), (3, O (U ⟨f, 0, N⟩)), (5, I J d), (6, O (U ⟨g, 0, N⟩)), (56, B n), (60, B (!a.q_))]) ?_ (sb z))
           ·refine aa [.p] z ?_
            obtain rfl := ai H
            exact OW.sub key (sb z)
           ·clear H
            have H := A
            clear A
            generalize (!a.q_) = f6 at H key ⊢
            cases f6
            ·have H := ba z H
             refine aa [.p, .p, .p, .p, .p, .p] z ?_
             obtain rfl := ai H
             exact OW.sub key (sb z)
            ·have H := aZ z H
             refine o1 z (rx 0 0 _ z cg z) <| o1 z (rx 0 1 _ z bx z) <| oP z <| bE H fun l0 f7 H => oq z (qc z Gs (fun i h => sw i f7 (af (ad m i h) (ad o i h)) (aM (ad q i h) z))) tt2 <| oP z <| oP z <| ?_
             obtain rfl := ai H
             exact OW.sub key (sb z)
          ·have H := aZ z H
           refine aa [.p, .p, .p, .p, .p, .p, .p, .p, .p, .p, .p] z ?_
           obtain rfl := ai H
           exact OW.sub key (sb z)
        ·clear H
         have H := t
         clear t
         generalize a.q_ = f8 at H key ⊢
         cases f8
         ·have H := ba z H
          refine aa [.p, .p, .p, .p, .p] z ?_
          obtain rfl := ai H
          exact OW.sub key (sb z)
         ·have H := aZ z H
          refine o1 z (rx 0 0 _ z cg z) <| o1 z (rx 0 2 _ z ca z) <| bE H fun l1 f9 H => oq z (qc z GD (fun i h => tn i f9 (af (ad m i h) (ad o i h)) (iQ (x := ({ a with q_ := y })) z z (ad G i h) z (aF (ad Q i h) (ad X i h)) z (ad L i h) z z z))) tt2 <| oP z <| oP z <| ?_
          obtain rfl := ai H
          exact OW.sub key (sb z)
      ·clear H
       have H := s
       clear s
       generalize (!a5) = g2 at H key ⊢
       cases g2
       ·have H := ba z H
        refine aa [.fa 71 9 11 oT] z <| o1 z (r1 11 2 z ty3 z) <| aa [.fa 30 1 1 nt] z <| o1 z (r1 1 1 z ty3 z) <| bE H fun l2 g3 H => oq z (qc z iF (fun i h => bl i g3)) tt2 <| oP z <| oP z <| ?_
        obtain rfl := ai H
        exact OW.sub key (sb z)
       ·have H := aZ z H
        refine aa [.p, .p, .p, .p, .p, .p, .p] z ?_
        obtain rfl := ai H
        exact OW.sub key (sb z)
     ·exact bF <| aN <| aR <| aO <| ax <| sR <| oP z <| nT <| xr 4 z (by cases H; exact q1)
  ·clear H
   have H := E
   clear E
   generalize C = h3 at H key ⊢
   cases h3
   ·have H := ba z H
    refine aa [.fa 30 1 1 nt] z <| o1 z (r1 1 1 z ty3 z) <| bE H fun l7 h4 H => oq z (qc z iF (fun i h => bl i h4)) tt2 <| oP z <| oP z <| ?_
    obtain rfl := ai H
    exact OW.sub key (sb z)
   ·have H := aZ z H
    refine aa [.p, .p, .p, .p, .p] z ?_
    obtain rfl := ai H
    exact OW.sub key (sb z)
 ·clear H
  have H := D
  clear D
  generalize (!c1) = h5 at H key ⊢
  cases h5
  ·have H := ba z H
   refine aa [.fa 30 0 0 cc] z <| o1 z (r1 0 1 z eC z) <| aa [.lenS 28 71 dX] z <| bE H fun l8 h6 H => oq z (qc z iF (fun i h => bl i h6)) tt2 <| oP z <| oP z <| ?_
   obtain rfl := ai H
   exact OW.sub key (sb z)
  ·have H := aZ z H
   refine aa [.p, .p, .p, .p, .p, .p] z ?_
   obtain rfl := ai H
   exact OW.sub key (sb z)
theorem nO (w : World) {p0 : cB} {r : Bool} (H : kF p0 = U r)   :
    Calls Tryz.prog 152 #[.agg #[I J p0.G_, I J p0.H_, I J p0.I_, I J p0.m_, I J p0.a_, I J p0.E_, B p0.F_]] w (fun en w' => en = .returned (B r) ∧ Ext [] w w') := by
 unfold kF at H
 refine aH Tryz.func152 z Tryz.ntmps152 z (St.init w []) <| sR <| ob _ z fun a => oP z <| nR <| aa [.fa 130 0 0 vT] z <| o1 z (r1 0 0 z ty3 z) <| bE H fun o q H => oq z (qc z iF (fun c d => bl c q)) tt2 <| oP z <| bE H fun e f H => aS [(10, B e), (1, O (U ⟨a, 0, N⟩)), (2, B n)] 4 ?_ (fun key => OW.sub (R := [(1, O (U ⟨a, 0, N⟩)), (2, B n), (6, B o)]) ?_ (sb z))
 ·refine oP z <| bE H fun g h H => aS [(15, B g), (1, O (U ⟨a, 0, N⟩)), (2, B n)] 4 ?_ (fun key => OW.sub (R := [(1, O (U ⟨a, 0, N⟩)), (2, B n), (11, B e)]) ?_ (sb z))
  ·refine oP z <| bE H fun i j H => aS [(20, B i), (1, O (U ⟨a, 0, N⟩)), (2, B n)] 4 ?_ (fun key => OW.sub (R := [(1, O (U ⟨a, 0, N⟩)), (2, B n), (16, B g)]) ?_ (sb z))
   ·refine oP z <| bE H fun k l H => aS [(25, B k), (1, O (U ⟨a, 0, N⟩)), (2, B n)] 4 ?_ (fun key => OW.sub (R := [(1, O (U ⟨a, 0, N⟩)), (2, B n), (21, B i)]) ?_ (sb z))
    ·refine oP z <| bE H fun s m H => aS [(30, B s), (2, B n)] 4 ?_ (fun key => OW.sub (R := [(1, O (U ⟨a, 0, N⟩)), (2, B n), (26, B k)]) ?_ (sb z))
     ·exact oP z <| nT <| xr 2 z (by cases H; exact q1)
     ·clear H
      have H := m
      clear m
      generalize k = t at H key ⊢
      cases t
      ·have H := ba z H
       refine aa [.p, .p, .p, .p] z ?_
       obtain rfl := ai H
       exact OW.sub key (sb z)
      ·have H := aZ z H
       refine aa [.fa 130 5 5 rA] z <| o1 z (r1 5 0 z ty3 z) <| bE H fun L u H => oq z (qc z iF (fun c d => bl c u)) tt2 <| oP z <| ?_
       obtain rfl := ai H
       exact OW.sub key (sb z)
    ·clear H
     have H := l
     clear l
     generalize i = v at H key ⊢
     cases v
     ·have H := ba z H
      refine aa [.p, .p, .p, .p] z ?_
      obtain rfl := ai H
      exact OW.sub key (sb z)
     ·have H := aZ z H
      refine aa [.fa 130 4 4 wv] z <| o1 z (r1 4 0 z ty3 z) <| bE H fun M x H => oq z (qc z iF (fun c d => bl c x)) tt2 <| oP z <| ?_
      obtain rfl := ai H
      exact OW.sub key (sb z)
   ·clear H
    have H := j
    clear j
    generalize g = A at H key ⊢
    cases A
    ·have H := ba z H
     refine aa [.p, .p, .p, .p] z ?_
     obtain rfl := ai H
     exact OW.sub key (sb z)
    ·have H := aZ z H
     refine aa [.fa 130 3 3 vP] z <| o1 z (r1 3 0 z ty3 z) <| bE H fun P C H => oq z (qc z iF (fun c d => bl c C)) tt2 <| oP z <| ?_
     obtain rfl := ai H
     exact OW.sub key (sb z)
  ·clear H
   have H := h
   clear h
   generalize e = D at H key ⊢
   cases D
   ·have H := ba z H
    refine aa [.p, .p, .p, .p] z ?_
    obtain rfl := ai H
    exact OW.sub key (sb z)
   ·have H := aZ z H
    refine aa [.fa 130 2 2 yV] z <| o1 z (r1 2 0 z ty3 z) <| bE H fun Q E H => oq z (qc z iF (fun c d => bl c E)) tt2 <| oP z <| ?_
    obtain rfl := ai H
    exact OW.sub key (sb z)
 ·clear H
  have H := f
  clear f
  generalize o = F at H key ⊢
  cases F
  ·have H := ba z H
   refine aa [.p, .p, .p, .p] z ?_
   obtain rfl := ai H
   exact OW.sub key (sb z)
  ·have H := aZ z H
   refine aa [.fa 130 1 1 wD] z <| o1 z (r1 1 0 z ty3 z) <| bE H fun X G H => oq z (qc z iF (fun c d => bl c G)) tt2 <| oP z <| ?_
   obtain rfl := ai H
   exact OW.sub key (sb z)
theorem tm (w : World) {p0 : ah} {l : List Value} {r : Int} (H : ml p0 = U r) (g0 : (cz).rd w [] p0 l) :
    Calls Tryz.prog 153 #[.agg l.toArray] w (fun en w' => en = .returned (I J r) ∧ Ext [] w w') := by
 obtain ⟨f9, g1, rfl, f, a9⟩ := bZ g0
 obtain ⟨b0, b1, rfl⟩ := aj f
 obtain rfl := a9
 unfold ml at H
 refine aH Tryz.func153 z Tryz.ntmps153 z (St.init w []) <| sR <| ob _ z fun d => oP z <| nR <| oP z <| nQ <| ak <| sR <| oP z <| nQ <| az <| CW.at (hI (fun (c : Int) (a : Int) => St w [] [b d 30 [S b0 p0.a_.length b1, I J p0.k_]]) (fun c a => [(1, O (U ⟨d, 0, N⟩)), (3, I J c), (4, I J a)]) (fun kk => fun c a => fA p0 kk c a = U r) (fun _ _ H => ?_) (fun k1 g c a H => ?_) be (0) (0) (H)) (ss [0] z z) (sb z)
 ·unfold fA at H
  exact absurd H (by simp)
 ·unfold fA at H
  refine ak <| sR <| aa [.p, .fa 30 0 0 cc] z <| o1 z (r1 0 0 z eC z) <| aa [.lenS 28 71 dX, .p] z <| nQ <| cI H z (fun H => ?_) (fun H => ?_)
  ·refine ar <| ax <| ak <| az <| sR <| aa [.p, .p, .p] z <| bE H fun m e H => aS [(23, B m), (1, O (U ⟨d, 0, N⟩)), (3, I J c), (4, I J a)] 9 ?_ (fun key => OW.sub (R := [(1, O (U ⟨d, 0, N⟩)), (3, I J c), (4, I J a), (14, B (a == 0))]) ?_ (sb z))
   ·refine nQ <| cI H z (fun H => ?_) (fun H => ?_)
    ·refine aW <| aa [.fa 30 0 0 cc] z <| o1 z (r1 0 0 z eC z) <| oP z <| bE H fun o q H => cn z z z z z dX ca z f q fun b3 b4 h i => ?_
     obtain ⟨b5, b6, b7, b8, b9, c0, c1, c2, c3, c4, rfl, s, t, u, v, x, A, C, D, E, F⟩ := bj h
     obtain rfl := s
     obtain rfl := t
     obtain ⟨c5, c6, rfl⟩ := aj u
     obtain rfl := v
     obtain ⟨c7, c8, rfl, G, L⟩ := aK x
     obtain ⟨c9, d0, rfl⟩ := aj G
     obtain ⟨d1, d2, rfl⟩ := aj L
     obtain rfl := A
     obtain ⟨d3, d4, rfl⟩ := aj C
     obtain rfl := D
     obtain rfl := E
     obtain rfl := F
     exact aa [.fa 71 7 9 lE] z <| o1 z (aD z z ty3 (bW bor (lz i 9 1))) <| oP z <| ay <| cd <| ax <| aW <| aa [.p, .p, .p] z <| ay <| cD (RW.at (g (o.m_) (J.wrap (a + 1)) (H)) (ss [0] z z) (sb z))
    ·exact ar <| cd <| ax <| aW <| aa [.p, .p, .p] z <| ay <| cD (RW.at (g (c) (J.wrap (a + 1)) (H)) (ss [0] z z) (sb z))
   ·clear H
    have H := e
    clear e
    generalize (a == 0) = M at H key ⊢
    cases M
    ·have H := ba z H
     refine aa [.fa 30 0 0 cc] z <| o1 z (r1 0 0 z eC z) <| oP z <| bE H fun d5 P H => cn z z z z z dX ca z f P fun d6 d7 j k => ?_
     obtain ⟨d8, d9, e0, e1, e2, e3, e4, e5, e6, e7, rfl, Q, X, Z, a0, a1, a2, a3, a4, a5, a6⟩ := bj j
     obtain rfl := Q
     obtain rfl := X
     obtain ⟨e9, f0, rfl⟩ := aj Z
     obtain rfl := a0
     obtain ⟨f1, f2, rfl, a7, a8⟩ := aK a1
     obtain ⟨f3, f4, rfl⟩ := aj a7
     obtain ⟨f5, f6, rfl⟩ := aj a8
     obtain rfl := a2
     obtain ⟨f7, f8, rfl⟩ := aj a3
     obtain rfl := a4
     obtain rfl := a5
     obtain rfl := a6
     refine aa [.fa 71 7 9 lE] z <| o1 z (aD z z ty3 (bW bor (lz k 9 1))) <| oPP z <| oP z <| ?_
     obtain rfl := ai H
     exact OW.sub key (sb z)
    ·have H := aZ z H
     refine aa [.p, .p, .p, .p, .p, .p, .p, .p, .p] z ?_
     obtain rfl := ai H
     exact OW.sub key (sb z)
  ·exact bF <| aN <| aR <| aO <| ax <| sR <| oPP z <| nT <| xr 2 z (by cases H; exact q1)
theorem tz (w : World) {p0 : aT} {d : List Value} {r : Int} (H : mA p0 = U r) (R : (aC).rd w [] p0 d) :
    Calls Tryz.prog 168 #[.agg d.toArray] w (fun en w' => en = .returned (I J r) ∧ Ext [] w w') := by
 obtain ⟨X, Z, a0, a1, a2, a3, a4, a5, a6, a7, rfl, j, k, l, m, o, q, s, t, u, v⟩ := bj R
 obtain rfl := j
 obtain rfl := k
 obtain ⟨x, A, rfl⟩ := aj l
 obtain rfl := m
 obtain ⟨a8, a9, rfl, C, e⟩ := aK o
 obtain ⟨D, E, rfl⟩ := aj C
 obtain ⟨F, G, rfl⟩ := aj e
 obtain rfl := q
 obtain ⟨L, M, rfl⟩ := aj s
 obtain rfl := t
 obtain rfl := u
 obtain rfl := v
 unfold mA at H
 refine aH Tryz.func168 z Tryz.ntmps168 z (St.init w []) <| sR <| ob _ z fun f => oP z <| nQ <| ak <| sR <| aa [.fa 71 0 0 mg] z <| o1 z (r1 0 0 z ty4 z) <| oP z <| nQ <| cI H z (fun H => ?_) (fun H => ?_)
 ·exact sR <| oP z <| nT <| am <| xr 2 z (by cases H; exact q1)
 ·refine ar <| ax <| sR <| oP z <| nQ <| ak <| sR <| oP z <| nQ <| az <| CW.at (hI (fun (a : Int) (c : Int) => St w [] [b f 71 [B p0.q_, I J p0.g_.j_, I J p0.g_.c_, S x p0.r_.length A, I J p0.w_, S D p0.n_.e_.length E, S F p0.n_.d_.length G, I J p0.x_, S L p0.b_.length M, I J p0.m_, I J p0.p_, I J p0.s_]]) (fun a c => [(1, O (U ⟨f, 0, N⟩)), (3, I J a), (4, I J c)]) (fun kk => fun a c => gc p0 kk a c = U r) (fun _ _ H => ?_) (fun k1 g a c H => ?_) be (2) (0) (H)) (ss [0] z z) (sb z)
  ·unfold gc at H
   exact absurd H (by simp)
  ·unfold gc at H
   refine ak <| sR <| aa [.p, .fa 71 4 5 gk, .fa 69 1 1 eE] z <| o1 z (r1 6 0 z kq z) <| aa [.lenS 67 31 iR, .p] z <| nQ <| cI H z (fun H => ?_) (fun H => ?_)
   ·refine ar <| ax <| ak <| az <| aW <| aa [.p, .fa 71 4 5 gk, .fa 69 1 1 eE] z <| o1 z (r1 6 0 z kq z) <| oP z <| bE H fun P Q H => cn z z z z z iR cq z e Q fun b0 b1 h i => ?_
    obtain ⟨b2, b3, rfl⟩ := aj h
    exact o1 z (aD z z cq (bW bor i)) <| aa [.lenS 31 3 aP, .p, .p] z <| ay <| cd <| ax <| aW <| aa [.p, .p, .p] z <| ay <| cD (RW.at (g (J.wrap (a + (P.length : Int))) (J.wrap (c + 1)) (H)) (ss [0] z z) (sb z))
   ·exact bF <| aN <| aR <| aO <| ax <| sR <| oPP z <| nT <| xr 2 z (by cases H; exact q1)
theorem oF (w : World) {p0 : ah} {m : List Value} {r : Int} (H : jM p0 = U r) (g0 : (cz).rd w [] p0 m) :
    Calls Tryz.prog 154 #[.agg m.toArray] w (fun en w' => en = .returned (I J r) ∧ Ext [] w w') := by
 obtain ⟨c0, c1, rfl, o, a2⟩ := bZ g0
 obtain ⟨a3, a4, rfl⟩ := aj o
 obtain rfl := a2
 unfold jM at H
 refine aH Tryz.func154 z Tryz.ntmps154 z (St.init w []) <| sR <| ob _ z fun q => oP z <| nR <| oP z <| nQ <| ak <| sR <| oP z <| nQ <| az <| CW.at (hI (fun (c : Int) (d : Int) => St w [] [b q 30 [S a3 p0.a_.length a4, I J p0.k_]]) (fun c d => [(1, O (U ⟨q, 0, N⟩)), (3, I J c), (4, I J d)]) (fun kk => fun c d => fj p0 kk c d = U r) (fun _ _ H => ?_) (fun k1 s c d H => ?_) be (0) (0) (H)) (ss [0] z z) (sb z)
 ·unfold fj at H
  exact absurd H (by simp)
 ·unfold fj at H
  refine ak <| sR <| aa [.p, .fa 30 0 0 cc] z <| o1 z (r1 0 0 z eC z) <| aa [.lenS 28 71 dX, .p] z <| nQ <| cI H z (fun H => ?_) (fun H => ?_)
  ·refine ar <| ax <| ak <| az <| aW <| aa [.p, .fa 30 0 0 cc] z <| o1 z (r1 0 0 z eC z) <| oP z <| bE H fun a t H => cn z z z z z dX ca z o t fun a6 a7 k l => ?_
   obtain ⟨a8, a9, b0, b1, b2, b3, b4, b5, b6, b7, rfl, u, v, f, x, A, C, g, D, E, F⟩ := bj k
   obtain rfl := u
   obtain rfl := v
   obtain ⟨G, L, rfl⟩ := aj f
   obtain rfl := x
   obtain ⟨b8, b9, rfl, h, i⟩ := aK A
   obtain ⟨M, P, rfl⟩ := aj h
   obtain ⟨Q, R, rfl⟩ := aj i
   obtain rfl := C
   obtain ⟨X, Z, rfl⟩ := aj g
   obtain rfl := D
   obtain rfl := E
   obtain rfl := F
   exact o1 z (cA (cs := [B a.q_, I J a.g_.j_, I J a.g_.c_, S G a.r_.length L, I J a.w_, S M a.n_.e_.length P, S Q a.n_.d_.length R, I J a.x_, S X a.b_.length Z, I J a.m_, I J a.p_, I J a.s_]) z z ca (bW bor l) z) <| bE H fun a0 a1 H => oq z (qc z FG (fun j e => tz j a1 (iQ z z (ad f j e) z (aF (ad h j e) (ad i j e)) z (ad g j e) z z z))) tt2 <| oPP z <| ay <| cd <| ax <| aW <| aa [.p, .p, .p] z <| ay <| cD (RW.at (s (J.wrap (c + a0)) (J.wrap (d + 1)) (H)) (ss [0] z z) (sb z))
  ·exact bF <| aN <| aR <| aO <| ax <| sR <| oPP z <| nT <| xr 2 z (by cases H; exact q1)
theorem wh (w : World) {p0 : ab} {p1 : cB} {p2 : ah} {l : List Value} {m : List Value} {r : Bool} (H : pm p0 p1 p2 = U r) (L : (aJ).rd w [] p0 l) (M : (cz).rd w [] p2 m) :
    Calls Tryz.prog 137 #[.agg l.toArray, .agg #[I J p1.G_, I J p1.H_, I J p1.I_, I J p1.m_, I J p1.a_, I J p1.E_, B p1.F_], .agg m.toArray] w (fun en w' => en = .returned (B r) ∧ Ext [] w w') := by
 obtain ⟨P, Q, rfl, o, q⟩ := aB L
 obtain ⟨X, Z, rfl⟩ := aj o
 obtain ⟨a0, a1, rfl⟩ := aj q
 obtain ⟨a2, a3, rfl, g, t⟩ := bZ M
 obtain ⟨a4, a5, rfl⟩ := aj g
 obtain rfl := t
 unfold pm at H
 refine aH Tryz.func137 z Tryz.ntmps137 z (St.init w []) <| sR <| ob _ z fun a6 => ob _ z fun d => ob _ z fun e => oP z <| nQ <| ak <| dW cj (by kernel_rfl) <| o1 z (rx 0 0 _ z cg z) <| o1 z (rx 0 2 _ z bx z) <| bE H fun s u H => oq z (qc z fn8 (fun c a => jH c u (af (ad o c a) (ad q c a)) (aM (ad g c a) z))) tt2 <| oP z <| bE H fun f h H => aS [(13, B f), (4, O (U ⟨d, 0, N⟩)), (5, O (U ⟨e, 0, N⟩)), (6, B n)] 3 ?_ (fun key => OW.sub (R := [(4, O (U ⟨d, 0, N⟩)), (5, O (U ⟨e, 0, N⟩)), (6, B n), (10, B s)]) ?_ (sb z))
 ·refine oP z <| aS [(21, B (f && (decide ((p2.a_.length : Int) ≤ p1.a_)))), (4, O (U ⟨d, 0, N⟩)), (5, O (U ⟨e, 0, N⟩)), (6, B n)] 7 ?_ (fun key => OW.sub (R := [(4, O (U ⟨d, 0, N⟩)), (5, O (U ⟨e, 0, N⟩)), (6, B n), (14, B f)]) ?_ (sb z))
  ·refine oP z <| bE H fun i j H => aS [(28, B i), (4, O (U ⟨d, 0, N⟩)), (5, O (U ⟨e, 0, N⟩)), (6, B n)] 6 ?_ (fun key => OW.sub (R := [(4, O (U ⟨d, 0, N⟩)), (5, O (U ⟨e, 0, N⟩)), (6, B n), (22, B (f && (decide ((p2.a_.length : Int) ≤ p1.a_))))]) ?_ (sb z))
   ·refine oP z <| bE H fun v k H => aS [(35, B v), (6, B n)] 6 ?_ (fun key => OW.sub (R := [(4, O (U ⟨d, 0, N⟩)), (5, O (U ⟨e, 0, N⟩)), (6, B n), (29, B i)]) ?_ (sb z))
    ·exact oP z <| cC <| ax <| qT <| xr 6 z (by cases H; exact q1)
    ·clear H
     have H := k
     clear k
     generalize i = x at H key ⊢
     cases x
     ·have H := ba z H
      refine aa [.p, .p, .p, .p, .p, .p] z ?_
      obtain rfl := ai H
      exact OW.sub key (sb z)
     ·have H := aZ z H
      refine o1 z (rx 0 2 _ z bx z) <| bE H fun a7 A H => oq z (qc z DG (fun c a => oF c A (aM (ad g c a) z))) tt2 <| aa [.fa 130 5 5 rA] z <| o1 z (r1 5 1 z ty3 z) <| oP z <| oP z <| ?_
      obtain rfl := ai H
      exact OW.sub key (sb z)
   ·clear H
    have H := j
    clear j
    generalize (f && (decide ((p2.a_.length : Int) ≤ p1.a_))) = C at H key ⊢
    cases C
    ·have H := ba z H
     refine aa [.p, .p, .p, .p, .p, .p] z ?_
     obtain rfl := ai H
     exact OW.sub key (sb z)
    ·have H := aZ z H
     refine o1 z (rx 0 2 _ z bx z) <| bE H fun a8 D H => oq z (qc z Fk (fun c a => tm c D (aM (ad g c a) z))) tt2 <| aa [.fa 130 3 3 vP] z <| o1 z (r1 3 1 z ty3 z) <| oP z <| oP z <| ?_
     obtain rfl := ai H
     exact OW.sub key (sb z)
  ·generalize f = E at key ⊢
   cases E
   ·exact aa [.p, .p, .p, .p, .p, .p, .p] z <| OW.sub key (sb z)
   ·exact aa [.fa 30 0 0 cc] z <| o1 z (r1 0 2 z eC z) <| aa [.lenS 28 71 dX, .fa 130 4 4 wv] z <| o1 z (r1 4 1 z ty3 z) <| oP z <| oP z <| OW.sub key (sb z)
 ·clear H
  have H := h
  clear h
  generalize s = F at H key ⊢
  cases F
  ·have H := ba z H
   refine aa [.p, .p, .p] z ?_
   obtain rfl := ai H
   exact OW.sub key (sb z)
  ·have H := aZ z H
   refine o1 z (rx 0 1 _ z nU z) <| bE H fun a9 G H => oq z (qc z Am (fun c a => nO c (p0 := p1) G)) tt2 <| oP z <| ?_
   obtain rfl := ai H
   exact OW.sub key (sb z)
theorem nK (w : World) {p0 : ab} {p1 : aY} {o : List Value} {q : List Value} {r : Bool} (H : kY p0 p1 = U r) (g0 : (aJ).rd w [] p0 o) (g1 : (ew).rd w [] p1 q) :
    Calls Tryz.prog 16 #[.agg o.toArray, .agg q.toArray] w (fun en w' => en = .returned (B r) ∧ Ext [] w w') := by
 obtain ⟨b4, b5, rfl, i, s⟩ := aB g0
 obtain ⟨F, G, rfl⟩ := aj i
 obtain ⟨L, M, rfl⟩ := aj s
 obtain ⟨b6, b7, rfl, k, P⟩ := fT g1
 obtain ⟨Q, X, rfl⟩ := aj k
 obtain rfl := P
 unfold kY at H
 refine aH Tryz.func16 z Tryz.ntmps16 z (St.init w []) <| sR <| ob _ z fun f => ob _ z fun g => oP z <| nQ <| ak <| sR <| o1 z (rx 0 0 _ z cg z) <| bE H fun h Z H => oq z (qc z xY (fun a c => gB a Z (af (ad i a c) (ad s a c)))) tt2 <| oPP z <| aS [(17, B ((!h) || ((p1.o_.length : Int) != (p0.b_.length : Int)))), (2, O (U ⟨f, 0, N⟩)), (3, O (U ⟨g, 0, N⟩))] 8 ?_ (fun key => OW.sub (R := [(2, O (U ⟨f, 0, N⟩)), (3, O (U ⟨g, 0, N⟩)), (9, B (!h))]) ?_ (sb z))
 ·refine oP z <| bE H fun a0 l H => aS [(27, B a0), (2, O (U ⟨f, 0, N⟩)), (3, O (U ⟨g, 0, N⟩))] 9 ?_ (fun key => OW.sub (R := [(2, O (U ⟨f, 0, N⟩)), (3, O (U ⟨g, 0, N⟩)), (18, B ((!h) || ((p1.o_.length : Int) != (p0.b_.length : Int))))]) ?_ (sb z))
  ·refine nQ <| cI H z (fun H => ?_) (fun H => ?_)
   ·exact sR <| oP z <| nT <| am <| xr 4 z (by cases H; exact q1)
   ·refine ar <| ax <| ak <| sR <| oP z <| nQ <| az <| CW.at (fG (fun (d : Int) => St w [] [b f 27 [S F p0.b_.length G, S L p0.l_.length M], b g 33 [S Q p1.o_.length X, I J p1.v_]]) (fun d => [(2, O (U ⟨f, 0, N⟩)), (3, O (U ⟨g, 0, N⟩)), (5, I J d)]) (fun kk => fun d => jl p1 p0 kk d = U r) (fun _ H => ?_) (fun k1 x d H => ?_) be (0) (H)) (ss [0, 1] z z) (sb z)
    ·unfold jl at H
     exact absurd H (by simp)
    ·unfold jl at H
     refine ak <| sR <| aa [.p, .fa 33 0 0 jW] z <| o1 z (r1 0 1 z cq z) <| aa [.lenS 31 3 aP, .p] z <| nQ <| cI H z (fun H => ?_) (fun H => ?_)
     ·refine ar <| ax <| ak <| az <| ak <| dW cj (by kernel_rfl) <| aa [.fa 33 0 0 jW] z <| o1 z (r1 0 1 z cq z) <| oP z <| bE H fun b8 t H => bo (e := eI) (xs := p1.o_) (j := d) z z z z z aP ty3 z (ad k) t (by rw [Nat.mul_one]) <| o1 z (aD z z ty3 (bD (ad k) t)) <| aa [.fa 27 0 0 cY] z <| o1 z (r1 0 0 z hZ z) <| oP z <| bE H fun m a1 H => cn z z z z z gD dD z i a1 fun b9 c0 A C => ?_
      obtain ⟨c1, c2, c3, rfl, a2, u, v⟩ := bA A
      obtain rfl := a2
      obtain ⟨a3, a4, rfl⟩ := aj u
      obtain ⟨a5, a6, rfl⟩ := aj v
      refine o1 z (cA (cs := [vS m.B_, S a3 m.u_.length a4, S a5 m.A_.length a6]) z z dD (bW bor C) z) <| bE H fun b2 D H => oq z (qc z vi (fun a c => gF a D (bO z (ad u a c) (ad v a c)))) tt2 <| oP z <| bE H fun b3 E H => oq z (qc z iF (fun a c => bl a E)) tt2 <| oP z <| cC <| ax <| cI H z (fun H => ?_) (fun H => ?_)
      ·exact sR <| oP z <| nT <| aL <| am <| bU <| aL <| am <| xr 4 z (by cases H; exact q1)
      ·exact ar <| cd <| ax <| aW <| aa [.p, .p, .p] z <| ay <| cD (RW.at (x (J.wrap (d + 1)) (H)) (ss [0, 1] z z) (sb z))
     ·exact bF <| aN <| aR <| aO <| ax <| sR <| oP z <| nT <| xr 4 z (by cases H; exact q1)
  ·clear H
   have H := l
   clear l
   generalize ((!h) || ((p1.o_.length : Int) != (p0.b_.length : Int))) = a7 at H key ⊢
   cases a7
   ·have H := ba z H
    refine aa [.fa 33 1 1 oR] z <| o1 z (r1 1 1 z ty3 z) <| aa [.fa 27 1 1 iW] z <| o1 z (r1 1 0 z kV z) <| aa [.lenS 25 9 go, .p] z <| bE H fun c4 a8 H => oq z (qc z iF (fun a c => bl a a8)) tt2 <| oP z <| oP z <| ?_
    obtain rfl := ai H
    exact OW.sub key (sb z)
   ·have H := aZ z H
    refine aa [.p, .p, .p, .p, .p, .p, .p, .p, .p] z ?_
    obtain rfl := ai H
    exact OW.sub key (sb z)
 ·generalize (!h) = a9 at key ⊢
  cases a9
  ·exact aa [.fa 33 0 0 jW] z <| o1 z (r1 0 1 z cq z) <| aa [.lenS 31 3 aP, .fa 27 0 0 cY] z <| o1 z (r1 0 0 z hZ z) <| aa [.lenS 24 63 gD, .p] z <| oP z <| OW.sub key (sb z)
  ·exact aa [.p, .p, .p, .p, .p, .p, .p, .p] z <| OW.sub key (sb z)
theorem pT (w : World) {p0 : bh} {c : List Value} {r : Bool} (H : lT p0 = U r) (j : (jn).rd w [] p0 c) :
    Calls Tryz.prog 138 #[.agg c.toArray] w (fun en w' => en = .returned (B r) ∧ Ext [] w w') := by
 obtain ⟨l, m, rfl, d, e⟩ := iK j
 obtain ⟨o, q, rfl⟩ := aj d
 obtain rfl := e
 unfold lT at H
 refine aH Tryz.func138 z Tryz.ntmps138 z (St.init w []) <| sR <| ob _ z fun f => oP z <| nR <| aa [.fa 152 0 0 qG] z <| o1 z (r1 0 0 z xa z) <| aa [.lenS 22 5 qN, .p, .p] z <| bE H fun g a H => aS [(14, B g), (2, B n)] 7 ?_ (fun key => OW.sub (R := [(1, O (U ⟨f, 0, N⟩)), (2, B n), (7, B (decide ((p0.t_.length : Int) ≤ 600)))]) ?_ (sb z))
 ·exact oP z <| nT <| xr 2 z (by cases H; exact q1)
 ·clear H
  have H := a
  clear a
  generalize (decide ((p0.t_.length : Int) ≤ 600)) = h at H key ⊢
  cases h
  ·have H := ba z H
   refine aa [.p, .p, .p, .p, .p, .p, .p] z ?_
   obtain rfl := ai H
   exact OW.sub key (sb z)
  ·have H := aZ z H
   refine aa [.fa 152 1 1 pB] z <| o1 z (r1 1 0 z ty3 z) <| aa [.fa 152 0 0 qG] z <| o1 z (r1 0 0 z xa z) <| aa [.lenS 22 5 qN] z <| bE H fun s i H => oq z (qc z iF (fun k t => bl k i)) tt2 <| oP z <| ?_
   obtain rfl := ai H
   exact OW.sub key (sb z)
theorem pS (w : World) {s : List Nat} {p0 : av} {P : List Value} {r : av} (H : lS p0 = U r) (HS : St w s [] w) (g0 : (cu).rd w s p0 P) :
    Calls Tryz.prog 147 #[.agg P.toArray] w (fun en w' => ∃ v, en = .returned v ∧ ∃ (a0 : Option Addr), ∃ (n0 : Nat), ∃ (c0 : Nat), ∃ (F0 : List Nat), ∃ (a1 : Option Addr), ∃ (n1 : Nat), ∃ (c1 : Nat), ∃ (F1 : List Nat), v = .agg #[S a0 n0 c0, S a1 n1 c1] ∧ St w s [W (ae eI 3) F0 r.e_ [S a0 n0 c0], W (ae (ae eI 3) 31) F1 r.d_ [S a1 n1 c1]] w') := by
 obtain ⟨c7, c8, rfl, Q, R⟩ := aK g0
 obtain ⟨X, Z, rfl⟩ := aj Q
 obtain ⟨a2, a3, rfl⟩ := aj R
 unfold lS at H
 refine aH Tryz.func147 z Tryz.ntmps147 z (HS) <| sR <| ob _ z fun t => aA z z z z cT (fun _ => kp) fun u => nR <| ce (e := eI) z z z z aP ty3 (fun _ => kp) fun c9 => aa [.fa 69 0 0 jz] z <| o1 z (r1 0 0 z cq z) <| bE H fun a b4 H => cm (r := 2) (ys := p0.e_) z z z z z z aP ty3 z z z (ad Q) b4 (fun _ _ _ => kp) fun d f x => o1 z (bL [(0, [S d a.length f])] [S d a.length f, S N 0 0] z z cT CX z ⟨z, z, nl z, Y⟩ z) <| aA z z z z cT (fun _ => kp) fun A => sC 0 [S d a.length f, S N 0 0] [_, _] 3 z cT z <| nQ <| ak <| sR <| oP z <| nQ <| az <| CW.weak ?_ (fun _ h => St.pushNil (e := ae eI 3) (T := 31) h)
 refine CW.at (iX (fun (c : List (List Int)) (g : Option Addr) (k : Nat) (l : List Nat) (m : Int) => St w s [b t 69 [S X p0.e_.length Z, S a2 p0.d_.length a3], b u 69 [S N 0 0, S N 0 0], b A 69 [S d a.length f, S g c.length k], W (ae eI 3) x a [S d a.length f], W (ae (ae eI 3) 31) l c [S g c.length k]]) (fun c g k l m => [(1, O (U ⟨t, 0, N⟩)), (2, O (U ⟨u, 0, N⟩)), (3, O (U ⟨A, 0, N⟩)), (4, I J m)]) (fun kk => fun c g k l m => gQ p0 a kk c m = U r) (fun _ _ _ _ _ H => ?_) (fun k1 a4 c g k l m H => ?_) be (([] : List (List Int))) (N) (0) ([]) (0) (H)) (ss [0, 1, 3, 2, 4] z z) (sb z)
 ·unfold gQ at H
  exact absurd H (by simp)
 ·unfold gQ at H
  refine ak <| sR <| aa [.p, .fa 69 1 1 eE] z <| o1 z (r1 1 0 z kq z) <| aa [.lenS 67 31 iR, .p] z <| nQ <| cI H z (fun H => ?_) (fun H => ?_)
  ·refine ar <| ax <| ak <| az <| dj 10 [(0, y), (1, y), (3, y), (4, y), (5, y), (6, y), (7, y), (2, n), (8, n), (9, n)] (St w s [b t 69 [S X p0.e_.length Z, S a2 p0.d_.length a3], b u 69 [S N 0 0, S N 0 0], b A 69 [S d a.length f, S g c.length k], W (ae eI 3) x a [S d a.length f], W (ae (ae eI 3) 31) l c [S g c.length k]]) cj (by kernel_rfl) (bv (aX (dI (bv (aX bn))))) (tk 5 z) <| aa [.fa 69 1 1 eE] z <| bu z (aw z) (r1 1 2 z kq z) <| aa [.fa 69 1 1 eE] z <| bu z (aw z) (r1 1 0 z kq z) <| oP z <| bE H fun a5 a6 H => cn z z z z z iR cq z R a6 fun b8 b9 o M => ?_
   obtain ⟨c2, c3, rfl⟩ := aj o
   refine bu z (aw z) (aD z z cq (bW (fun _ h => h.ext) M)) <| ce (e := eI) z z z z aP ty3 (fun _ => (tk 5 z)) fun c4 => bE H fun C a7 H => cm (r := 5) (ys := a5) z z z z z z aP ty3 z z z (ad o) a7 (fun _ _ _ => (tk 5 z)) fun D E c5 => iZ [(0, [S D C.length E])] z z z z z iR cq z z ⟨z, z, nl z, Y⟩ [S D C.length E] z (fun _ => (tk 5 z)) fun c6 => fp z (fun _ h => vc (p := 6) (q := 5) h z z z) <| aQ <| kd <| bE H fun F a8 H => nC (r := 4) (j := 7) z z z z z z iR cq z z z z z z z a8 (fun _ _ _ => kp) fun G L a9 => aa [.fa 69 1 1 eE] z <| sC 1 [S G F.length L] [_, _] 2 z kq z <| ay <| cd <| ax <| CW.weak (C' := St w s [_, _, _, _, _]) ?_ (ss [0, 1, 2, 3, 8] z z)
   exact aW <| aa [.p, .p, .p] z <| ay <| cD (RW.at (a4 (F) (G) (L) (a9) (J.wrap (m + 1)) (H)) (ss [0, 1, 2, 3, 4] z z) (sb z))
  ·exact bF <| aN <| aR <| aO <| ax <| sR <| o1 z (rx 0 2 _ z cT z) <| sC 0 [S d a.length f, S g c.length k] [_, _] 1 z cT z <| nT <| bg (rs := [.cell 2 69]) (vs := [.agg #[S d a.length f, S g c.length k]]) z ⟨⟨_, [S d a.length f, S g c.length k], _, _, _, z, cT, (bB (T := 69) 0 (bX (i := 1) z) z), z, z⟩, Y⟩ (fun w' hw' => by
    obtain rfl := ai H
    exact ⟨_, z, d, a.length, f, x, g, c.length, k, l, z, hw'.sel [3, 4] z z⟩)
theorem nB (w : World) {s : List Nat} {p0 : aT} {u : List Value} {r : aT} (H : iE p0 = U r) (HS : St w s [] w) (g0 : (aC).rd w s p0 u) :
    Calls Tryz.prog 142 #[.agg u.toArray] w (fun en w' => ∃ v, en = .returned v ∧ ∃ (F : Option Addr), ∃ (G : Nat), ∃ (c0 : Nat), ∃ (F0 : List Nat), ∃ (L : Option Addr), ∃ (M : Nat), ∃ (c1 : Nat), ∃ (F1 : List Nat), ∃ (P : Option Addr), ∃ (Q : Nat), ∃ (c2 : Nat), ∃ (F2 : List Nat), ∃ (R : Option Addr), ∃ (X : Nat), ∃ (c3 : Nat), ∃ (F3 : List Nat), v = .agg #[B r.q_, I J r.g_.j_, I J r.g_.c_, S F G c0, I J r.w_, S L M c1, S P Q c2, I J r.x_, S R X c3, I J r.m_, I J r.p_, I J r.s_] ∧ St w s [W (ae eI 3) F0 r.r_ [S F G c0], W (ae eI 3) F1 r.n_.e_ [S L M c1], W (ae (ae eI 3) 31) F2 r.n_.d_ [S P Q c2], W (ae eI 3) F3 r.b_ [S R X c3]] w') := by
 obtain ⟨d5, d6, d7, d8, d9, e0, e1, e2, e3, e4, rfl, Z, a4, x, a5, a6, a7, A, a8, a9, b0⟩ := bj g0
 obtain rfl := Z
 obtain rfl := a4
 obtain ⟨b1, b2, rfl⟩ := aj x
 obtain rfl := a5
 obtain ⟨e5, e6, rfl, C, D⟩ := aK a6
 obtain ⟨b3, b4, rfl⟩ := aj C
 obtain ⟨b5, b6, rfl⟩ := aj D
 obtain rfl := a7
 obtain ⟨b7, b8, rfl⟩ := aj A
 obtain rfl := a8
 obtain rfl := a9
 obtain rfl := b0
 unfold iE at H
 refine aH Tryz.func142 z Tryz.ntmps142 z (HS) <| sR <| ob _ z fun e7 => aA z z z z ca (fun _ => kp) fun e9 => nR <| o1 z (rx 0 0 _ z ca z) <| aA z z z z ca (fun _ => kp) fun f0 => sC 0 [B p0.q_, I J p0.g_.j_, I J p0.g_.c_, S b1 p0.r_.length b2, I J p0.w_, S b3 p0.n_.e_.length b4, S b5 p0.n_.d_.length b6, I J p0.x_, S b7 p0.b_.length b8, I J p0.m_, I J p0.p_, I J p0.s_] [_, _, _, _, _, _, _, _, _, _, _, _] 2 z ca z <| nR <| ce (e := eI) z z z z aP ty3 (fun _ => kp) fun f1 => aa [.fa 71 2 3 ik] z <| o1 z (r1 3 0 z cq z) <| bE H fun c b9 H => cm (r := 3) (ys := p0.r_) z z z z z z aP ty3 z z z (ad x) b9 (fun _ _ _ => kp) fun d f c4 => aa [.fa 71 2 3 ik] z <| sC 3 [S d c.length f] [_, _, _, _, _, _, _, _, _, _, _, _] 2 z cq z <| nR <| ce (e := eI) z z z z aP ty3 (fun _ => kp) fun f2 => aa [.fa 71 6 8 qo] z <| o1 z (r1 8 0 z cq z) <| bE H fun g c5 H => cm (r := 4) (ys := p0.b_) z z z z z z aP ty3 z z z (ad A) c5 (fun _ _ _ => kp) fun h j c6 => aa [.fa 71 6 8 qo] z <| sC 8 [S h g.length j] [_, _, _, _, _, _, _, _, _, _, _, _] 2 z cq z <| nR <| aa [.fa 71 4 5 gk] z <| o1 z (rx 5 0 _ z cT z) <| ?_
 refine bE H fun a c7 H => au z Dm z z z z (fun t k => pS t c7 (k.carve [] z z) (aF (ad C t k) (ad D t k))) fun f3 t w2 k E => ?_
 obtain ⟨l, f4, m, c8, o, f5, p, c9, rfl, q⟩ := E
 obtain rfl := aI (i := 0) q z
 obtain rfl := aI (i := 1) q z
 refine ⟨St w s [_, _, _, _, _, _, _], k.comp [] z z q, fun _ _ => Y, ?_⟩
 exact aa [.fa 71 4 5 gk] z <| sC 5 [S l a.e_.length m, S o a.d_.length p] [_, _, _, _, _, _, _, _, _, _, _, _] 2 z cT z <| nR <| o1 z (rx 0 2 _ z ca z) <| sC 0 [B p0.q_, I J p0.g_.j_, I J p0.g_.c_, S d c.length f, I J p0.w_, S l a.e_.length m, S o a.d_.length p, I J p0.x_, S h g.length j, I J p0.m_, I J p0.p_, I J p0.s_] [_, _, _, _, _, _, _, _, _, _, _, _] 1 z ca z <| nT <| bg (rs := [.cell 2 71]) (vs := [.agg #[B p0.q_, I J p0.g_.j_, I J p0.g_.c_, S d c.length f, I J p0.w_, S l a.e_.length m, S o a.d_.length p, I J p0.x_, S h g.length j, I J p0.m_, I J p0.p_, I J p0.s_]]) z ⟨⟨_, [B p0.q_, I J p0.g_.j_, I J p0.g_.c_, S d c.length f, I J p0.w_, S l a.e_.length m, S o a.d_.length p, I J p0.x_, S h g.length j, I J p0.m_, I J p0.p_, I J p0.s_], _, _, _, z, ca, (bB (T := 71) 0 (bX (i := 1) z) z), z, z⟩, Y⟩ (fun w' hw' => by
  obtain rfl := ai H
  exact ⟨_, z, d, c.length, f, c4, l, a.e_.length, m, c8, o, a.d_.length, p, c9, h, g.length, j, c6, z, hw'.sel [3, 5, 6, 4] z z⟩)
theorem je (w : World) {s : List Nat} {p0 : ah} {a7 : List Value} {r : ah} (H : gJ p0 = U r) (HS : St w s [] w) (g0 : (cz).rd w s p0 a7) :
    Calls Tryz.prog 139 #[.agg a7.toArray] w (fun en w' => ∃ v, en = .returned v ∧ ∃ (a0 : Option Addr), ∃ (n0 : Nat), ∃ (c0 : Nat), ∃ (F0 : List Nat), v = .agg #[S a0 n0 c0, I J r.k_] ∧ St w s [W (ae (aC) 71) F0 r.a_ [S a0 n0 c0]] w') := by
 obtain ⟨g5, g6, rfl, a8, d5⟩ := bZ g0
 obtain ⟨a9, b0, rfl⟩ := aj a8
 obtain rfl := d5
 unfold gJ at H
 refine aH Tryz.func139 z Tryz.ntmps139 z (HS) <| sR <| ob _ z fun u => aA z z z z bx (fun _ => kp) fun x => nR <| aa [.fa 30 1 1 nt] z <| o1 z (r1 1 0 z ty3 z) <| o1 z (bL [(1, [I J p0.k_])] [S N 0 0, I J p0.k_] z z bx Ex z ⟨z, z, nl z, Y⟩ z) <| aA z z z z bx (fun _ => kp) fun A => sC 0 [S N 0 0, I J p0.k_] [_, _] 2 z bx z <| nQ <| ak <| sR <| oP z <| nQ <| az <| CW.weak ?_ (fun _ h => St.pushNil (e := aC) (T := 71) h)
 refine CW.at (iX (fun (c : List aT) (f : Option Addr) (g : Nat) (m : List Nat) (o : Int) => St w s [b u 30 [S a9 p0.a_.length b0, I J p0.k_], b x 30 [S N 0 0, I J 0], b A 30 [S f c.length g, I J p0.k_], W (ae (aC) 71) m c [S f c.length g]]) (fun c f g m o => [(1, O (U ⟨u, 0, N⟩)), (2, O (U ⟨x, 0, N⟩)), (3, O (U ⟨A, 0, N⟩)), (4, I J o)]) (fun kk => fun c f g m o => gg p0 kk c o = U r) (fun _ _ _ _ _ H => ?_) (fun k1 b1 c f g m o H => ?_) be (([] : List aT)) (N) (0) ([]) (0) (H)) (ss [0, 1, 2, 3] z z) (sb z)
 ·unfold gg at H
  exact absurd H (by simp)
 ·unfold gg at H
  refine ak <| sR <| aa [.p, .fa 30 0 0 cc] z <| o1 z (r1 0 0 z eC z) <| aa [.lenS 28 71 dX, .p] z <| nQ <| cI H z (fun H => ?_) (fun H => ?_)
  ·refine ar <| ax <| ak <| az <| dj 9 [(0, y), (1, y), (2, y), (3, y), (4, y), (5, y), (6, y), (7, n), (8, n)] (St w s [b u 30 [S a9 p0.a_.length b0, I J p0.k_], b x 30 [S N 0 0, I J 0], b A 30 [S f c.length g, I J p0.k_], W (ae (aC) 71) m c [S f c.length g]]) cj (by kernel_rfl) (bv (aX (dI (bv (aX bn))))) (tk 4 z) <| aa [.fa 30 0 0 cc] z <| bu z (aw z) (r1 0 2 z eC z) <| aa [.fa 30 0 0 cc] z <| bu z (aw z) (r1 0 0 z eC z) <| oP z <| bE H fun d b2 H => cn z z z z z dX ca z a8 b2 fun d8 d9 a4 a5 => ?_
   obtain ⟨e0, e1, e2, e3, e4, e5, e6, e7, e9, f0, rfl, b3, b4, C, b5, b6, b7, D, b8, b9, c1⟩ := bj a4
   obtain rfl := b3
   obtain rfl := b4
   obtain ⟨c2, c3, rfl⟩ := aj C
   obtain rfl := b5
   obtain ⟨f1, f2, rfl, E, F⟩ := aK b6
   obtain ⟨c4, c5, rfl⟩ := aj E
   obtain ⟨c6, c7, rfl⟩ := aj F
   obtain rfl := b7
   obtain ⟨c8, c9, rfl⟩ := aj D
   obtain rfl := b8
   obtain rfl := b9
   obtain rfl := c1
   refine bu z (aw z) (cA (cs := [B d.q_, I J d.g_.j_, I J d.g_.c_, S c2 d.r_.length c3, I J d.w_, S c4 d.n_.e_.length c5, S c6 d.n_.d_.length c7, I J d.x_, S c8 d.b_.length c9, I J d.m_, I J d.p_, I J d.s_]) z z ca (bW (fun _ h => h.ext) a5) z) <| bE H fun a d0 H => au z Dq z z z z (fun t k => nB t d0 (k.carve [] z z) (iQ z z (ad C t k) z (aF (ad E t k) (ad F t k)) z (ad D t k) z z z)) fun f3 t w2 k a6 => ?_
   obtain ⟨G, f4, L, f5, M, f6, P, f7, Q, f8, R, f9, X, g1, Z, g2, rfl, l⟩ := a6
   obtain rfl := aI (i := 0) l z
   obtain rfl := aI (i := 1) l z
   obtain rfl := aI (i := 2) l z
   obtain rfl := aI (i := 3) l z
   refine ⟨St w s [_, _, _, _, _, _, _, _], k.comp [] z z l, (tk 4 z), ?_⟩
   refine sX z (fun t k => cE (x0 := a.q_) (x1 := a.g_.j_) (x2 := a.g_.c_) (x4 := a.w_) (x7 := a.x_) (x9 := a.m_) (x10 := a.p_) (x11 := a.s_) [4, 5, 6, 7] k z z) fun g3 => fp (C' := St w s [_, _, _, _, _, _, _, _, _]) z (fun _ h => h) <| iZ [(0, [B a.q_, I J a.g_.j_, I J a.g_.c_, S G a.r_.length L, I J a.w_, S M a.n_.e_.length P, S Q a.n_.d_.length R, I J a.x_, S X a.b_.length Z, I J a.m_, I J a.p_, I J a.s_])] z z z z z dX ca z z ⟨z, z, nl z, Y⟩ [B a.q_, I J a.g_.j_, I J a.g_.c_, S G a.r_.length L, I J a.w_, S M a.n_.e_.length P, S Q a.n_.d_.length R, I J a.x_, S X a.b_.length Z, I J a.m_, I J a.p_, I J a.s_] z (fun _ => (tk 4 z)) fun g4 => fp z (fun _ h => vc (p := 9) (q := 8) h z z z) <| aQ <| kd <| bE H fun a1 d1 H => nC (r := 3) (j := 10) z z z z z z dX ca z z z z z z z d1 (fun _ _ _ => kp) fun a2 a3 d2 => aa [.fa 30 0 0 cc] z <| sC 0 [S a2 a1.length a3] [_, _] 2 z eC z <| ay <| cd <| ax <| CW.weak (C' := St w s [_, _, _, _]) ?_ (ss [0, 1, 2, 11] z z)
   exact aW <| aa [.p, .p, .p] z <| ay <| cD (RW.at (b1 (a1) (a2) (a3) (d2) (J.wrap (o + 1)) (H)) (ss [0, 1, 2, 3] z z) (sb z))
  ·exact bF <| aN <| aR <| aO <| ax <| sR <| o1 z (rx 0 2 _ z bx z) <| sC 0 [S f c.length g, I J p0.k_] [_, _] 1 z bx z <| nT <| bg (rs := [.cell 2 30]) (vs := [.agg #[S f c.length g, I J p0.k_]]) z ⟨⟨_, [S f c.length g, I J p0.k_], _, _, _, z, bx, (bB (T := 30) 0 (bX (i := 1) z) z), z, z⟩, Y⟩ (fun w' hw' => by
    obtain rfl := ai H
    exact ⟨_, z, f, c.length, g, m, z, hw'.sel [3] z z⟩)
theorem fz (w : World) {f : List Nat} {p0 : bh} {g : List Value} {r : bh} (H : eY p0 = U r) (HS : St w f [] w) (u : (jn).rd w f p0 g) :
    Calls Tryz.prog 140 #[.agg g.toArray] w (fun en w' => ∃ v, en = .returned v ∧ ∃ (j : Option Addr), ∃ (k : Nat), ∃ (c0 : Nat), ∃ (x : List Nat), v = .agg #[S j k c0, I J r.c_] ∧ St w f [W (ae e8 5) x r.t_ [S j k c0]] w') := by
 obtain ⟨A, C, rfl, h, l⟩ := iK u
 obtain ⟨m, o, rfl⟩ := aj h
 obtain rfl := l
 unfold eY at H
 exact aH Tryz.func140 z Tryz.ntmps140 z (HS) <| sR <| ob _ z fun p => aA z z z z bR (fun _ => kp) fun q => nQ <| ak <| dj 6 [(1, y), (2, y), (4, y), (5, y), (0, n), (3, n)] (St w f [b p 152 [S m p0.t_.length o, I J p0.c_], b q 152 [S N 0 0, I J 0]]) cj (by kernel_rfl) (aX bn) (tk 2 z) <| aa [.fa 152 0 0 qG] z <| bu z (aw z) (r1 0 0 z xa z) <| aa [.fa 152 1 1 pB] z <| bu z (aw z) (r1 1 0 z ty3 z) <| ce (e := e8) z z z z qN ty5 (fun _ => (tk 2 z)) fun D => bE H fun a s H => cm (r := 2) (ys := p0.t_) z z z z z z qN ty5 z z z (ad h) s (fun _ _ _ => (tk 2 z)) fun c d t => aQ <| kd <| o1 z (bL [(0, [S c a.length d]), (1, [I J p0.c_])] [S c a.length d, I J p0.c_] z z bR DE z ⟨z, z, nl z, z, z, nl z, Y⟩ z) <| sC 0 [S c a.length d, I J p0.c_] [_, _] 1 z bR z <| nT <| bg (rs := [.cell 2 152]) (vs := [.agg #[S c a.length d, I J p0.c_]]) z ⟨⟨_, [S c a.length d, I J p0.c_], _, _, _, z, bR, (bB (T := 152) 0 (bX (i := 1) z) z), z, z⟩, Y⟩ (fun w' hw' => by
  obtain rfl := ai H
  exact ⟨_, z, c, a.length, d, t, z, hw'.sel [2] z z⟩)
theorem qX (w : World) {p0 : Bool} {r : Int} (H : nY p0 = U r)   :
    Calls Tryz.prog 193 #[B p0] w (fun en w' => en = .returned (I J r) ∧ Ext [] w w') := by
 unfold nY at H
 refine aH Tryz.func193 z Tryz.ntmps193 z (St.init w []) <| sR <| oP z <| nQ <| ak <| sR <| oP z <| nQ <| cI H z (fun H => ?_) (fun H => ?_)
 ·exact sR <| oP z <| nT <| am <| xr 2 z (by cases H; exact q1)
 ·exact ar <| ax <| sR <| oP z <| nT <| xr 2 z (by cases H; exact q1)
theorem oX (w : World) {p0 : ab} {p1 : aq} {p2 : Int} {g : List Value} {r : Int} (H : js p0 p1 p2 = U r) (g0 : (aJ).rd w [] p0 g) :
    Calls Tryz.prog 183 #[.agg g.toArray, .agg #[I J p1.j_, I J p1.c_], I J p2] w (fun en w' => en = .returned (I J r) ∧ Ext [] w w') := by
 obtain ⟨a3, a4, rfl, d, h⟩ := aB g0
 obtain ⟨a5, a6, rfl⟩ := aj d
 obtain ⟨a7, a8, rfl⟩ := aj h
 unfold js at H
 refine aH Tryz.func183 z Tryz.ntmps183 z (St.init w []) <| sR <| ob _ z fun i => ob _ z fun j => oP z <| nQ <| ak <| sR <| o1 z (rx 0 0 _ z cg z) <| o1 z (rx 0 1 _ z cM z) <| bE H fun k u H => oq z (qc z xE (fun a c => gK a (p1 := p1) u (af (ad d a c) (ad h a c)))) tt2 <| oPP z <| bE H fun v e H => aS [(23, B v), (2, I J p2), (3, O (U ⟨i, 0, N⟩)), (4, O (U ⟨j, 0, N⟩))] 12 ?_ (fun key => OW.sub (R := [(2, I J p2), (3, O (U ⟨i, 0, N⟩)), (4, O (U ⟨j, 0, N⟩)), (11, B (!k))]) ?_ (sb z))
 ·refine nQ <| cI H z (fun H => ?_) (fun H => ?_)
  ·exact sR <| oP z <| nT <| am <| xr 6 z (by cases H; exact q1)
  ·refine ar <| ax <| ak <| sR <| aa [.fa 66 1 1 mR] z <| o1 z (r1 1 1 z ty3 z) <| oP z <| nQ <| cI H z (fun H => ?_) (fun H => ?_)
   ·exact sR <| oPP z <| nT <| am <| xr 6 z (by cases H; exact q1)
   ·refine ar <| ax <| ak <| sR <| aa [.fa 27 0 0 cY] z <| o1 z (r1 0 0 z hZ z) <| aa [.fa 66 0 0 jI] z <| o1 z (r1 0 1 z ty3 z) <| bE H fun a9 x H => cn z z z z z gD dD z d x fun b0 b1 o q => ?_
    obtain ⟨b2, b3, b4, rfl, A, C, D⟩ := bA o
    obtain rfl := A
    obtain ⟨b5, b6, rfl⟩ := aj C
    obtain ⟨b7, b8, rfl⟩ := aj D
    refine aa [.fa 63 1 1 iY] z <| o1 z (aD z z cq (bW bor (lz q 1 1))) <| aa [.lenS 31 3 aP, .p] z <| nQ <| cI H z (fun H => ?_) (fun H => ?_)
    ·exact sR <| aa [.p, .fa 66 1 1 mR] z <| o1 z (r1 1 1 z ty3 z) <| oP z <| bE H fun b9 E H => oq z (qc z Dw (fun a c => qX a E)) tt2 <| oP z <| nT <| am <| xr 6 z (by cases H; exact q1)
    ·exact ar <| ax <| sR <| aa [.p, .fa 66 1 1 mR] z <| o1 z (r1 1 1 z ty3 z) <| oP z <| bE H fun c0 F H => oq z (qc z Dw (fun a c => qX a F)) tt2 <| oP z <| nT <| xr 6 z (by cases H; exact q1)
 ·clear H
  have H := e
  clear e
  generalize (!k) = G at H key ⊢
  cases G
  ·have H := ba z H
   refine aa [.p, .fa 27 0 0 cY] z <| o1 z (r1 0 0 z hZ z) <| aa [.fa 66 0 0 jI] z <| o1 z (r1 0 1 z ty3 z) <| bE H fun f L H => cn z z z z z gD dD z d L fun c1 c2 s t => ?_
   obtain ⟨c3, c4, c5, rfl, M, l, m⟩ := bA s
   obtain rfl := M
   obtain ⟨P, Q, rfl⟩ := aj l
   obtain ⟨X, Z, rfl⟩ := aj m
   refine o1 z (cA (cs := [vS f.B_, S P f.u_.length Q, S X f.A_.length Z]) z z dD (bW bor t) z) <| bE H fun c6 a0 H => oq z (qc z vi (fun a c => gF a a0 (bO z (ad l a c) (ad m a c)))) tt2 <| oP z <| bE H fun c7 a1 H => oq z (qc z iF (fun a c => bl a a1)) tt2 <| oP z <| oP z <| ?_
   obtain rfl := ai H
   exact OW.sub key (sb z)
  ·have H := aZ z H
   refine aa [.p, .p, .p, .p, .p, .p, .p, .p, .p, .p, .p, .p] z ?_
   obtain rfl := ai H
   exact OW.sub key (sb z)
theorem tt (w : World) {p : List Nat} {p0 : ab} {p1 : ah} {p2 : aY} {b1 : List Value} {b2 : List Value} {b3 : List Value} {r : List Int} (H : nI p0 p1 p2 = U r) (HS : St w p [] w) (g0 : (aJ).rd w p p0 b1) (g1 : (cz).rd w p p1 b2) (g2 : (ew).rd w p p2 b3) :
    Calls Tryz.prog 169 #[.agg b1.toArray, .agg b2.toArray, .agg b3.toArray] w (fun en w' => ∃ v, en = .returned v ∧ ∃ (a0 : Option Addr), ∃ (n0 : Nat), ∃ (c0 : Nat), ∃ (F0 : List Nat), v = S a0 n0 c0 ∧ St w p [W (ae eI 3) F0 r [S a0 n0 c0]] w') := by
 obtain ⟨l7, l8, rfl, b4, b5⟩ := aB g0
 obtain ⟨f4, f5, rfl⟩ := aj b4
 obtain ⟨f6, f7, rfl⟩ := aj b5
 obtain ⟨l9, m0, rfl, q, f8⟩ := bZ g1
 obtain ⟨f9, g3, rfl⟩ := aj q
 obtain rfl := f8
 obtain ⟨m1, m2, rfl, m, g4⟩ := fT g2
 obtain ⟨g5, g6, rfl⟩ := aj m
 obtain rfl := g4
 unfold nI at H
 refine aH Tryz.func169 z Tryz.ntmps169 z (HS) <| sR <| ob _ z fun b6 => ob _ z fun b7 => ob _ z fun b8 => oP z <| nR <| ce (e := eI) z z z z aP ty3 (fun _ => kp) fun b9 => oP z <| nR <| oP z <| nQ <| ak <| az <| CW.at (iX (fun (d : List Int) (f : Option Addr) (g : Nat) (l : List Nat) (c : Int) => St w p [b b6 27 [S f4 p0.b_.length f5, S f6 p0.l_.length f7], b b7 30 [S f9 p1.a_.length g3, I J p1.k_], b b8 33 [S g5 p2.o_.length g6, I J p2.v_], W (ae eI 3) l d [S f d.length g]]) (fun d f g l c => [(3, O (U ⟨b6, 0, N⟩)), (4, O (U ⟨b7, 0, N⟩)), (5, O (U ⟨b8, 0, N⟩)), (7, S f d.length g), (8, I J c)]) (fun kk => fun d f g l c => f.isNone = n ∧ gd p1 p2 p0 kk d c = U r) (fun _ _ _ _ _ H => ?_) (fun k1 s d f g l c ⟨g7, H⟩ => ?_) be (([] : List Int)) ((U ⟨b9, 0, N⟩)) (0) ([b9]) (0) (⟨z, H⟩)) (ss [0, 1, 2, 3] z z) (sb z)
 ·unfold gd at H
  exact absurd H (by simp)
 ·unfold gd at H
  refine ak <| sR <| aa [.fa 30 0 0 cc] z <| o1 z (r1 0 1 z eC z) <| oP z <| bE H fun h4 c1 H => cn z z z z z dX ca z q c1 fun h5 h6 a7 a8 => ?_
  obtain ⟨h7, h8, h9, i0, i1, i2, i3, i4, i5, i6, rfl, c2, c3, c4, c5, c6, c7, c8, c9, d0, d1⟩ := bj a7
  obtain rfl := c2
  obtain rfl := c3
  obtain ⟨i7, i8, rfl⟩ := aj c4
  obtain rfl := c5
  obtain ⟨i9, j0, rfl, d2, d3⟩ := aK c6
  obtain ⟨j1, j2, rfl⟩ := aj d2
  obtain ⟨j3, j4, rfl⟩ := aj d3
  obtain rfl := c7
  obtain ⟨j5, j6, rfl⟩ := aj c8
  obtain rfl := c9
  obtain rfl := d0
  obtain rfl := d1
  refine aa [.fa 71 0 0 mg] z <| o1 z (aD z z ty4 (bW bor (lz a8 0 1))) <| oP z <| nQ <| cI H z (fun H => ?_) (fun H => ?_)
  ·refine ar <| ax <| az <| sR <| oPP z <| bQ (val := I J) (h1 := fun _ => z) [c] [(0, [I J c])] z z z z z aP ty3 z z z ⟨z, z, nl z, Y⟩ z z (fun _ => kp) fun j7 => bE H fun t u H => cm (r := 3) (ys := ([c] : List Int)) z z z z z z aP ty3 z z z (ap (e := ae eI 3) (r := 4) z) u (fun _ _ _ => kp) fun x A C => ct z (fun D k => fh (i := 3) k z (ff u)) fun o => oP z <| nR <| aa [.fa 30 0 0 cc] z <| o1 z (r1 0 1 z eC z) <| oP z <| bE H fun a d4 H => cn z z z z z dX ca z q d4 fun j8 j9 a9 b0 => ?_
   obtain ⟨k0, k2, k3, k4, k5, k6, k7, k8, k9, l0, rfl, d5, d6, h, d7, d8, d9, e0, e1, e2, e3⟩ := bj a9
   obtain rfl := d5
   obtain rfl := d6
   obtain ⟨E, F, rfl⟩ := aj h
   obtain rfl := d7
   obtain ⟨l1, l2, rfl, e4, e5⟩ := aK d8
   obtain ⟨G, L, rfl⟩ := aj e4
   obtain ⟨M, P, rfl⟩ := aj e5
   obtain rfl := d9
   obtain ⟨Q, R, rfl⟩ := aj e0
   obtain rfl := e1
   obtain rfl := e2
   obtain rfl := e3
   refine o1 z (cA (cs := [B a.q_, I J a.g_.j_, I J a.g_.c_, S E a.r_.length F, I J a.w_, S G a.n_.e_.length L, S M a.n_.d_.length P, I J a.x_, S Q a.b_.length R, I J a.m_, I J a.p_, I J a.s_]) z z ca (bW bor b0) z) <| aA z z z z ca (fun _ => kp) fun l3 => sC 0 [B a.q_, I J a.g_.j_, I J a.g_.c_, S E a.r_.length F, I J a.w_, S G a.n_.e_.length L, S M a.n_.d_.length P, I J a.x_, S Q a.b_.length R, I J a.m_, I J a.p_, I J a.s_] [_, _, _, _, _, _, _, _, _, _, _, _] 5 z ca z <| nR <| aa [.fa 71 3 4 pR] z <| o1 z (r1 4 5 z ty3 z) <| oP z <| nQ <| ak <| sR <| aa [.fa 33 0 0 jW] z <| o1 z (r1 0 2 z cq z) <| aa [.fa 71 1 1 mf, .fa 66 0 0 jI] z <| o1 z (r1 1 5 z ty3 z) <| bE H fun l4 X H => bo (e := eI) (xs := p2.o_) (j := a.g_.j_) z z z z z aP ty3 z (ad m) X (by rw [Nat.mul_one]) <| o1 z (aD z z ty3 (bD (ad m) X)) <| oP z <| nQ <| cI H z (fun H => ?_) (fun H => ?_)
   ·exact dW cj (by kernel_rfl) <| o1 z (rx 0 0 _ z cg z) <| aa [.fa 71 1 1 mf] z <| o1 z (rx 1 5 _ z cM z) <| aa [.fa 33 0 0 jW] z <| o1 z (r1 0 2 z cq z) <| aa [.fa 71 1 1 mf, .fa 66 0 0 jI] z <| o1 z (r1 1 5 z ty3 z) <| bE H fun l5 Z H => bo (e := eI) (xs := p2.o_) (j := a.g_.j_) z z z z z aP ty3 z (ad m) Z (by rw [Nat.mul_one]) <| o1 z (aD z z ty3 (bD (ad m) Z)) <| bE H fun e6 e7 H => oq z (qc z DK (fun D k => oX D (p1 := a.g_) e7 (af (ad b4 D k) (ad b5 D k)))) tt2 <| oP z <| cC <| ax <| aW <| aa [.fa 71 2 3 ik] z <| o1 z (r1 3 5 z cq z) <| oP z <| bE H fun e9 a1 H => bo (e := eI) (xs := a.r_) (j := e6) z z z z z aP ty3 z (ad h) a1 (by rw [Nat.mul_one]) <| o1 z (aD z z ty3 (bD (ad h) a1)) <| oP z <| ay <| cd <| cD (RW.at (s (t) (x) (A) (C) (e9) (⟨o, H⟩)) (ss [0, 1, 2, 3] z z) (sb z))
   ·exact ar <| ax <| aW <| aa [.fa 71 2 3 ik] z <| o1 z (r1 3 5 z cq z) <| oP z <| bE H fun f0 a2 H => bo (e := eI) (xs := a.r_) (j := a.w_) z z z z z aP ty3 z (ad h) a2 (by rw [Nat.mul_one]) <| o1 z (aD z z ty3 (bD (ad h) a2)) <| oP z <| ay <| cd <| cD (RW.at (s (t) (x) (A) (C) (f0) (⟨o, H⟩)) (ss [0, 1, 2, 3] z z) (sb z))
  ·exact bF <| aN <| aR <| aO <| ax <| sR <| oPP z <| bQ (val := I J) (h1 := fun _ => z) [c] [(0, [I J c])] z z z z z aP ty3 z z z ⟨z, z, nl z, Y⟩ z z (fun _ => kp) fun l6 => bE H fun a3 a4 H => cm (r := 3) (ys := ([c] : List Int)) z z z z z z aP ty3 z z z (ap (e := ae eI 3) (r := 4) z) a4 (fun _ _ _ => kp) fun a5 a6 f1 => ct z (fun D k => fh (i := 3) k z (ff a4)) fun g8 => oP z <| nT <| bg (rs := [.tmp 6]) (vs := [S a5 a3.length a6]) z ⟨z, Y⟩ (fun w' hw' => by
    obtain rfl := ai H
    exact ⟨_, z, a5, a3.length, a6, f1, z, hw'.sel [3] z z⟩)
theorem uE (w : World) {g : List Nat} {p0 : ab} {p1 : ah} {p2 : aY} {o : List Value} {q : List Value} {s : List Value} {r : List Int} (H : oI p0 p1 p2 = U r) (HS : St w g [] w) (g0 : (aJ).rd w g p0 o) (g1 : (cz).rd w g p1 q) (g2 : (ew).rd w g p2 s) :
    Calls Tryz.prog 155 #[.agg o.toArray, .agg q.toArray, .agg s.toArray] w (fun en w' => ∃ v, en = .returned v ∧ ∃ (G : Option Addr), ∃ (L : Nat), ∃ (c0 : Nat), ∃ (F0 : List Nat), v = S G L c0 ∧ St w g [W (ae eI 3) F0 r [S G L c0]] w') := by
 obtain ⟨a8, a9, rfl, d, f⟩ := aB g0
 obtain ⟨b0, b1, rfl⟩ := aj d
 obtain ⟨b2, b3, rfl⟩ := aj f
 obtain ⟨b4, b5, rfl, h, M⟩ := bZ g1
 obtain ⟨b6, b7, rfl⟩ := aj h
 obtain rfl := M
 obtain ⟨b8, b9, rfl, j, P⟩ := fT g2
 obtain ⟨c1, c2, rfl⟩ := aj j
 obtain rfl := P
 unfold oI at H
 refine aH Tryz.func155 z Tryz.ntmps155 z (HS) <| sR <| ob _ z fun t => ob _ z fun u => ob _ z fun x => oP z <| nQ <| ak <| sR <| o1 z (rx 0 0 _ z cg z) <| o1 z (rx 0 1 _ z bx z) <| bE H fun A Q H => oq z (qc z fn8 (fun c a => jH c Q (af (ad d c a) (ad f c a)) (aM (ad h c a) z))) tt2 <| oPP z <| bE H fun X k H => aS [(16, B X), (3, O (U ⟨t, 0, N⟩)), (4, O (U ⟨u, 0, N⟩)), (5, O (U ⟨x, 0, N⟩))] 5 ?_ (fun key => OW.sub (R := [(3, O (U ⟨t, 0, N⟩)), (4, O (U ⟨u, 0, N⟩)), (5, O (U ⟨x, 0, N⟩)), (11, B (!A))]) ?_ (sb z))
 ·refine nQ <| cI H z (fun H => ?_) (fun H => ?_)
  ·exact sR <| ce (e := eI) z z z z aP ty3 (fun _ => kp) fun l => oP z <| nT <| am <| bg (rs := [.tmp 6]) (vs := [S (U ⟨l, 0, N⟩) 0 0]) z ⟨z, Y⟩ (fun w' hw' => by
    obtain rfl := ai H
    exact ⟨_, z, (U ⟨l, 0, N⟩), 0, 0, [l], z, hw'.sel [3] z z⟩)
  ·refine ar <| ax <| sR <| o1 z (rx 0 0 _ z cg z) <| o1 z (rx 0 1 _ z bx z) <| o1 z (rx 0 2 _ z gm z) <| bE H fun C Z H => au z Fm z z z z (fun c a => tt c Z (a.carve [] z z) (af (ad d c a) (ad f c a)) (aM (ad h c a) z) (bM (ad j c a) z)) fun c3 c w2 a F => ?_
   obtain ⟨D, c4, E, a1, rfl, m⟩ := F
   obtain rfl := aI (i := 0) m z
   refine ⟨St w g [_, _, _, _], a.comp [] z z m, fun _ _ => Y, ?_⟩
   exact oP z <| nT <| bg (rs := [.tmp 6]) (vs := [S D C.length E]) z ⟨z, Y⟩ (fun w' hw' => by
    obtain rfl := ai H
    exact ⟨_, z, D, C.length, E, a1, z, hw'.sel [3] z z⟩)
 ·clear H
  have H := k
  clear k
  generalize (!A) = a2 at H key ⊢
  cases a2
  ·have H := ba z H
   refine o1 z (rx 0 0 _ z cg z) <| o1 z (rx 0 2 _ z gm z) <| bE H fun c5 a3 H => oq z (qc z Ca (fun c a => nK c a3 (af (ad d c a) (ad f c a)) (bM (ad j c a) z))) tt2 <| oP z <| oP z <| ?_
   obtain rfl := ai H
   exact OW.sub key (sb z)
  ·have H := aZ z H
   refine aa [.p, .p, .p, .p, .p] z ?_
   obtain rfl := ai H
   exact OW.sub key (sb z)
theorem tN (w : World) {p0 : ab} {p1 : ah} {p2 : aY} {f : List Value} {g : List Value} {h : List Value} {r : Int} (H : mn p0 p1 p2 = U r) (A : (aJ).rd w [] p0 f) (C : (cz).rd w [] p1 g) (D : (ew).rd w [] p2 h) :
    Calls Tryz.prog 141 #[.agg f.toArray, .agg g.toArray, .agg h.toArray] w (fun en w' => en = .returned (I J r) ∧ Ext [] w w') := by
 obtain ⟨E, F, rfl, k, l⟩ := aB A
 obtain ⟨G, L, rfl⟩ := aj k
 obtain ⟨M, P, rfl⟩ := aj l
 obtain ⟨Q, R, rfl, m, u⟩ := bZ C
 obtain ⟨X, Z, rfl⟩ := aj m
 obtain rfl := u
 obtain ⟨a0, a1, rfl, o, v⟩ := fT D
 obtain ⟨a2, a3, rfl⟩ := aj o
 obtain rfl := v
 unfold mn at H
 refine aH Tryz.func141 z Tryz.ntmps141 z (St.init w []) <| sR <| ob _ z fun a4 => ob _ z fun a5 => ob _ z fun a6 => oP z <| nR <| o1 z (rx 0 0 _ z cg z) <| o1 z (rx 0 1 _ z bx z) <| o1 z (rx 0 2 _ z gm z) <| bE H fun q x H => au z FK z z z z (fun c a => uE c x (a.carve [] z z) (af (ad k c a) (ad l c a)) (aM (ad m c a) z) (bM (ad o c a) z)) fun a7 c w2 a t => ?_
 obtain ⟨a8, a9, b0, b1, rfl, d⟩ := t
 obtain rfl := aI (i := 0) d z
 refine ⟨St w [] [_, _, _, _], a.comp [] z z d, fun _ _ => Y, ?_⟩
 refine oP z <| nQ <| ak <| sR <| aa [.p, .lenS 31 3 aP, .p] z <| nQ <| cI H z (fun H => ?_) (fun H => ?_)
 ·exact sR <| oP z <| nT <| am <| xr 6 z (by cases H; exact q1)
 ·exact ar <| ax <| sR <| aa [.p, .p, .lenS 31 3 aP, .p] z <| bE H fun b2 s H => bo (e := eI) (xs := q) (j := J.wrap ((q.length : Int) - 1)) z z z z z aP ty3 z (ap (e := ae eI 3) (r := 3) z) s (by rw [Nat.mul_one]) <| o1 z (aD z z ty3 (bD (ap (e := ae eI 3) (r := 3) z) s)) <| oP z <| nT <| xr 6 z (by cases H; exact q1)
theorem kQ (w : World) {C : List Nat} {p0 : ab} {p1 : av} {p2 : aY} {p3 : Int} {b5 : List Value} {b6 : List Value} {b7 : List Value} {r : av × Bool} (H : iz p0 p1 p2 p3 = U r) (HS : St w C [] w) (g0 : (aJ).rd w C p0 b5) (g1 : (cu).rd w C p1 b6) (g2 : (ew).rd w C p2 b7) :
    Calls Tryz.prog 127 #[.agg b5.toArray, .agg b6.toArray, .agg b7.toArray, I J p3] w (fun en w' => ∃ v, en = .returned v ∧ ∃ (a0 : Option Addr), ∃ (n0 : Nat), ∃ (c0 : Nat), ∃ (F0 : List Nat), ∃ (a1 : Option Addr), ∃ (n1 : Nat), ∃ (c1 : Nat), ∃ (F1 : List Nat), v = .tuple #[.agg #[S a0 n0 c0, S a1 n1 c1], B r.2] ∧ St w C [W (ae eI 3) F0 r.1.e_ [S a0 n0 c0], W (ae (ae eI 3) 31) F1 r.1.d_ [S a1 n1 c1]] w') := by
 obtain ⟨g8, g9, rfl, Z, a2⟩ := aB g0
 obtain ⟨d4, d5, rfl⟩ := aj Z
 obtain ⟨d6, d7, rfl⟩ := aj a2
 obtain ⟨h0, h1, rfl, a3, a4⟩ := aK g1
 obtain ⟨h2, h3, rfl⟩ := aj a3
 obtain ⟨h4, h5, rfl⟩ := aj a4
 obtain ⟨h6, h7, rfl, D, d8⟩ := fT g2
 obtain ⟨d9, e0, rfl⟩ := aj D
 obtain rfl := d8
 unfold iz at H
 refine aH Tryz.func127 z Tryz.ntmps127 z (HS) <| sR <| ob _ z fun o => ob _ z fun x => ob _ z fun s => aA z z z z cT (fun _ => kp) fun t => oP z <| nR <| o1 z (rx 0 1 _ z cT z) <| bE H fun c e1 H => au z Dm z z z z (fun d a => pS d e1 (a.carve [] z z) (aF (ad a3 d a) (ad a4 d a))) fun h8 d w2 a c5 => ?_
 obtain ⟨g, h9, k, a5, l, i0, m, b8, rfl, P⟩ := c5
 obtain rfl := aI (i := 0) P z
 obtain rfl := aI (i := 1) P z
 refine ⟨St w C [_, _, _, _, _, _], a.comp [] z z P, fun _ _ => Y, ?_⟩
 refine aA z z z z cT (fun _ => kp) fun u => sC 0 [S g c.e_.length k, S l c.d_.length m] [_, _] 6 z cT z <| nQ <| ak <| sR <| o1 z (rx 0 0 _ z cg z) <| o1 z (rx 0 1 _ z cT z) <| bE H fun b9 e2 H => oq z (qc z vR (fun d a => fB d e2 (af (ad Z d a) (ad a2 d a)) (aF (ad a3 d a) (ad a4 d a)))) tt2 <| oPP z <| bE H fun E a6 H => aS [(24, B E), (3, I J p3), (4, O (U ⟨o, 0, N⟩)), (5, O (U ⟨x, 0, N⟩)), (6, O (U ⟨s, 0, N⟩)), (8, O (U ⟨t, 0, N⟩)), (10, O (U ⟨u, 0, N⟩))] 5 ?_ (fun key => OW.sub (R := [(3, I J p3), (4, O (U ⟨o, 0, N⟩)), (5, O (U ⟨x, 0, N⟩)), (6, O (U ⟨s, 0, N⟩)), (8, O (U ⟨t, 0, N⟩)), (10, O (U ⟨u, 0, N⟩)), (19, B (!b9))]) ?_ (sb z))
 ·refine oP z <| aS [(29, B (E || (decide (p2.v_ < 0)))), (3, I J p3), (4, O (U ⟨o, 0, N⟩)), (5, O (U ⟨x, 0, N⟩)), (6, O (U ⟨s, 0, N⟩)), (8, O (U ⟨t, 0, N⟩)), (10, O (U ⟨u, 0, N⟩))] 4 ?_ (fun key => OW.sub (R := [(3, I J p3), (4, O (U ⟨o, 0, N⟩)), (5, O (U ⟨x, 0, N⟩)), (6, O (U ⟨s, 0, N⟩)), (8, O (U ⟨t, 0, N⟩)), (10, O (U ⟨u, 0, N⟩)), (25, B E)]) ?_ (sb z))
  ·refine oP z <| bE H fun a7 a8 H => aS [(34, B a7), (3, I J p3), (4, O (U ⟨o, 0, N⟩)), (5, O (U ⟨x, 0, N⟩)), (6, O (U ⟨s, 0, N⟩)), (8, O (U ⟨t, 0, N⟩)), (10, O (U ⟨u, 0, N⟩))] 4 ?_ (fun key => OW.sub (R := [(3, I J p3), (4, O (U ⟨o, 0, N⟩)), (5, O (U ⟨x, 0, N⟩)), (6, O (U ⟨s, 0, N⟩)), (8, O (U ⟨t, 0, N⟩)), (10, O (U ⟨u, 0, N⟩)), (30, B (E || (decide (p2.v_ < 0))))]) ?_ (sb z))
   ·refine oP z <| bE H fun e3 a9 H => aS [(42, B e3), (3, I J p3), (4, O (U ⟨o, 0, N⟩)), (6, O (U ⟨s, 0, N⟩)), (8, O (U ⟨t, 0, N⟩)), (10, O (U ⟨u, 0, N⟩))] 7 ?_ (fun key => OW.sub (R := [(3, I J p3), (4, O (U ⟨o, 0, N⟩)), (5, O (U ⟨x, 0, N⟩)), (6, O (U ⟨s, 0, N⟩)), (8, O (U ⟨t, 0, N⟩)), (10, O (U ⟨u, 0, N⟩)), (35, B a7)]) ?_ (sb z))
    ·refine nQ <| cI H z (fun H => ?_) (fun H => ?_)
     ·exact sR <| o1 z (rx 0 6 _ z cT z) <| sC 0 [S g c.e_.length k, S l c.d_.length m] [_, _] 3 z cT z <| oP z <| nT <| am <| bg (rs := [.cell 8 69, .tmp 9]) (vs := [.agg #[S g c.e_.length k, S l c.d_.length m], B n]) z ⟨⟨_, [S g c.e_.length k, S l c.d_.length m], _, _, _, z, cT, (bB (T := 69) 0 (bX (i := 3) z) z), z, z⟩, z, Y⟩ (fun w' hw' => by
       obtain rfl := ai H
       exact ⟨_, z, g, c.e_.length, k, a5, l, c.d_.length, m, b8, z, hw'.sel [4, 5] z z⟩)
     ·refine ar <| ax <| ak <| qA 13 cj (by kernel_rfl) <| aa [.fa 69 0 0 jz] z <| o1 z (r1 0 6 z cq z) <| aa [.fa 33 1 1 oR] z <| o1 z (r1 1 2 z ty3 z) <| aa [.fa 69 0 0 jz] z <| o1 z (r1 0 6 z cq z) <| aa [.fa 33 1 1 oR] z <| o1 z (r1 1 2 z ty3 z) <| bE H fun c2 c3 H => bo (e := eI) (xs := c.e_) (j := p2.v_) z z z z z aP ty3 z (ap (e := ae eI 3) (r := 4) z) c3 (by rw [Nat.mul_one]) <| o1 z (aD z z ty3 (bD (ap (e := ae eI 3) (r := 4) z) c3)) <| oPP z <| bE H fun i1 c4 H => bo (e := eI) (xs := c.e_) (j := p2.v_) z z z z z aP ty3 z (ap (e := ae eI 3) (r := 4) z) c4 (by rw [Nat.mul_one]) <| cC <| jN (i := 4) (j := p2.v_) z z z z z z ty3 z c4 (fun _ => z) kp <| nQ <| ak <| sR <| oP z <| nQ <| az <| CW.at (AV (fun (A : List (List Int)) (F : List Nat) (f : Int) => St w C [b u 69 [S g c.e_.length k, S l c.d_.length m], W (ae eI 3) a5 (c.e_.set p2.v_.toNat (J.wrap (c2 + p3))) [S g c.e_.length k], W (ae (ae eI 3) 31) F A [S l c.d_.length m], b o 27 [S d4 p0.b_.length d5, S d6 p0.l_.length d7], b s 33 [S d9 p2.o_.length e0, I J p2.v_], b t 69 [S N 0 0, S N 0 0]]) (fun A F f => [(3, I J p3), (4, O (U ⟨o, 0, N⟩)), (6, O (U ⟨s, 0, N⟩)), (8, O (U ⟨t, 0, N⟩)), (10, O (U ⟨u, 0, N⟩)), (11, I J f)]) (fun kk => fun A F f => eX c p2 p0 p3 c2 kk A f = U r) (fun _ _ _ H => ?_) (fun k1 b0 A F f H => ?_) be (c.d_) (b8) (0) (H)) (ss [6, 4, 5, 0, 2, 3] z z) (sb z)
      ·unfold eX at H
       exact absurd H (by simp)
      ·unfold eX at H
       refine ak <| sR <| aa [.p, .fa 69 1 1 eE] z <| o1 z (r1 1 0 z kq z) <| aa [.lenS 67 31 iR, .p] z <| nQ <| cI H z (fun H => ?_) (fun H => ?_)
       ·refine ar <| ax <| ak <| az <| sR <| aa [.fa 33 0 0 jW] z <| o1 z (r1 0 4 z cq z) <| oP z <| bE H fun f7 b1 H => bo (e := eI) (xs := p2.o_) (j := f) z z z z z aP ty3 z (ad D) b1 (by rw [Nat.mul_one]) <| o1 z (aD z z ty3 (bD (ad D) b1)) <| oP z <| nQ <| cI H z (fun H => ?_) (fun H => ?_)
        ·refine ak <| dW cj (by kernel_rfl) <| aa [.fa 33 0 0 jW] z <| o1 z (r1 0 4 z cq z) <| oP z <| bE H fun G b2 H => bo (e := eI) (xs := p2.o_) (j := f) z z z z z aP ty3 z (ad D) b2 (by rw [Nat.mul_one]) <| o1 z (aD z z ty3 (bD (ad D) b2)) <| aa [.fa 27 1 1 iW] z <| o1 z (r1 1 3 z kV z) <| aa [.lenS 25 9 go, .p, .fa 33 1 1 oR] z <| o1 z (r1 1 4 z ty3 z) <| oPP z <| cC <| ax <| bE H fun Q X H => rt (fun d a => foc (r := 2) a z X) fun f8 f9 g3 g4 => ku (fun d a => a.1) fun c6 => ?_
         obtain ⟨L, M⟩ := c6
         refine CW.weak (C' := St w C [_, _, _, _, _, _, _, _]) ?_ (fun d a => a.2)
         refine yn (fun d a => yb (i := 7) a z) fun g5 g6 => ku (fun d a => a.1) fun c7 => ?_
         subst c7
         refine CW.weak (C' := St w C [_, _, _, _, _, _, _, _]) ?_ (fun d a => a.2)
         exact qA 17 cj (by kernel_rfl) <| aa [.fa 69 1 1 eE] z <| o1 z (r1 1 0 z kq z) <| oP z <| gx z z z z z iR cq z (fU (p := 6) z) M L (cL X).1 <| o1 z (ow 6 0 z z z cq (by first | rfl | simp only [dm, dB, dd]) z) <| aa [.p, .fa 69 1 1 eE] z <| o1 z (r1 1 0 z kq z) <| oP z <| gx z z z z z iR cq z (fU (p := 6) z) M L (cL X).1 <| o1 z (ow 6 0 z z z cq (by first | rfl | simp only [dm, dB, dd]) z) <| oP z <| bE H fun c8 b3 H => bo (e := eI) (xs := Q) (j := J.wrap ((J.wrap (G * (p0.l_.length : Int))) + p2.v_)) z z z z z aP ty3 z (ap (e := ae eI 3) (r := 7) z) b3 (by rw [Nat.mul_one]) <| o1 z (aD z z ty3 (bD (ap (e := ae eI 3) (r := 7) z) b3)) <| oPP z <| bE H fun g7 b4 H => bo (e := eI) (xs := Q) (j := J.wrap ((J.wrap (G * (p0.l_.length : Int))) + p2.v_)) z z z z z aP ty3 z (ap (e := ae eI 3) (r := 7) z) b4 (by rw [Nat.mul_one]) <| cC <| jN (i := 7) (j := J.wrap ((J.wrap (G * (p0.l_.length : Int))) + p2.v_)) z z z z z z ty3 z b4 (fun _ => z) kp <| ay <| cd <| ax <| aW <| aa [.p, .p, .p] z <| ay <| gO (fun d a => unf (p := 6) (q := 7) a z z z M L) fun c9 => fq (C' := St w C [_, _, _, _, _, _, _, _, _]) (fun _ h => h) <| cD (RW.at (b0 ((A.set f.toNat (Q.set (J.wrap ((J.wrap (G * (p0.l_.length : Int))) + p2.v_)).toNat (J.wrap (c8 + p3))))) (c9) (J.wrap (f + 1)) (H)) (ss [0, 1, 8, 3, 4, 5] z z) (sb z))
        ·exact ar <| cd <| ax <| aW <| aa [.p, .p, .p] z <| ay <| cD (RW.at (b0 (A) (F) (J.wrap (f + 1)) (H)) (ss [0, 1, 2, 3, 4, 5] z z) (sb z))
       ·exact bF <| aN <| aR <| aO <| ax <| sR <| o1 z (rx 0 0 _ z cT z) <| sC 0 [S g c.e_.length k, S l c.d_.length m] [_, _] 5 z cT z <| oP z <| nT <| bg (rs := [.cell 8 69, .tmp 9]) (vs := [.agg #[S g c.e_.length k, S l c.d_.length m], B y]) z ⟨⟨_, [S g c.e_.length k, S l c.d_.length m], _, _, _, z, cT, (bB (T := 69) 0 (bX (i := 5) z) z), z, z⟩, z, Y⟩ (fun w' hw' => by
         obtain rfl := ai H
         exact ⟨_, z, g, c.e_.length, k, a5, l, c.d_.length, m, F, z, hw'.sel [1, 2] z z⟩)
    ·clear H
     have H := a9
     clear a9
     generalize a7 = e4 at H key ⊢
     cases e4
     ·have H := ba z H
      refine o1 z (rx 0 0 _ z cg z) <| o1 z (rx 0 1 _ z cT z) <| bE H fun i2 e5 H => oq z (qc z AR (fun d a => iM d e5 (af (ad Z d a) (ad a2 d a)) (aF (ad a3 d a) (ad a4 d a)))) tt2 <| aa [.p, .p, .p] z <| oP z <| ?_
      obtain rfl := ai H
      exact OW.sub key (sb z)
     ·have H := aZ z H
      refine aa [.p, .p, .p, .p, .p, .p, .p] z ?_
      obtain rfl := ai H
      exact OW.sub key (sb z)
   ·clear H
    have H := a8
    clear a8
    generalize (E || (decide (p2.v_ < 0))) = e6 at H key ⊢
    cases e6
    ·have H := ba z H
     refine oP z <| bE H fun i3 e7 H => oq z (qc z iF (fun d a => bl d e7)) tt2 <| oP z <| oP z <| ?_
     obtain rfl := ai H
     exact OW.sub key (sb z)
    ·have H := aZ z H
     refine aa [.p, .p, .p, .p] z ?_
     obtain rfl := ai H
     exact OW.sub key (sb z)
  ·generalize E = e9 at key ⊢
   cases e9
   ·exact aa [.fa 33 1 1 oR] z <| o1 z (r1 1 2 z ty3 z) <| oP z <| oP z <| OW.sub key (sb z)
   ·exact aa [.p, .p, .p, .p] z <| OW.sub key (sb z)
 ·clear H
  have H := a6
  clear a6
  generalize (!b9) = f0 at H key ⊢
  cases f0
  ·have H := ba z H
   refine o1 z (rx 0 0 _ z cg z) <| o1 z (rx 0 2 _ z gm z) <| bE H fun i4 f1 H => oq z (qc z Ca (fun d a => nK d f1 (af (ad Z d a) (ad a2 d a)) (bM (ad D d a) z))) tt2 <| oP z <| oP z <| ?_
   obtain rfl := ai H
   exact OW.sub key (sb z)
  ·have H := aZ z H
   refine aa [.p, .p, .p, .p, .p] z ?_
   obtain rfl := ai H
   exact OW.sub key (sb z)
theorem rj (w : World) {A : List Nat} {p0 : ab} {p1 : List Int} {p2 : Bool} {b4 : List Value} {a_1 : Option Addr} {n_1 c_1 : Nat} {r : List aq} (H : ke p0 p1 p2 = U r) (HS : St w A [] w) (g0 : (aJ).rd w A p0 b4) (C : (ae eI 3).rd w A p1 [S a_1 n_1 c_1]) :
    Calls Tryz.prog 194 #[.agg b4.toArray, S a_1 n_1 c_1, B p2] w (fun en w' => ∃ v, en = .returned v ∧ ∃ (a0 : Option Addr), ∃ (n0 : Nat), ∃ (c0 : Nat), ∃ (F0 : List Nat), v = S a0 n0 c0 ∧ St w A [W (ae (bH) 66) F0 r [S a0 n0 c0]] w') := by
 obtain ⟨e9, f0, rfl, F, X⟩ := aB g0
 obtain ⟨G, L, rfl⟩ := aj F
 obtain ⟨M, P, rfl⟩ := aj X
 obtain rfl := fM C
 unfold ke at H
 refine aH Tryz.func194 z Tryz.ntmps194 z (HS) <| sR <| ob _ z fun x => oP z <| nR <| ce (e := bH) z z z z nW cM (fun _ => kp) fun D => oP z <| nQ <| ak <| sR <| o1 z (rx 0 0 _ z cg z) <| oP z <| bE H fun f1 d3 H => oq z (qc z zA (fun u k => jb u d3 (af (ad F u k) (ad X u k)) (ad C u k))) tt2 <| oP z <| nQ <| cI H z (fun H => ?_) (fun H => ?_)
 ·exact sR <| oPP z <| nT <| am <| bg (rs := [.tmp 6]) (vs := [S (U ⟨D, 0, N⟩) 0 0]) z ⟨z, Y⟩ (fun w' hw' => by
   obtain rfl := ai H
   exact ⟨_, z, (U ⟨D, 0, N⟩), 0, 0, [D], z, hw'.sel [1] z z⟩)
 ·refine ar <| ax <| ak <| sR <| oP z <| nQ <| az <| CW.at (iX (fun (c : List aq) (f : Option Addr) (g : Nat) (q : List Nat) (d : Int) => St w A [b x 27 [S G p0.b_.length L, S M p0.l_.length P], W (ae (bH) 66) q c [S f c.length g]]) (fun c f g q d => [(1, S a_1 p1.length c_1), (2, B p2), (3, O (U ⟨x, 0, N⟩)), (7, S f c.length g), (8, I J d)]) (fun kk => fun c f g q d => f.isNone = n ∧ dl p1 p0 p2 kk c d = U r) (fun _ _ _ _ _ H => ?_) (fun k1 Z c f g q d ⟨a9, H⟩ => ?_) be (([] : List aq)) ((U ⟨D, 0, N⟩)) (0) ([D]) (0) (⟨z, H⟩)) (ss [0, 1] z z) (sb z)
  ·unfold dl at H
   exact absurd H (by simp)
  ·unfold dl at H
   refine ak <| sR <| aa [.p, .p, .lenS 31 3 aP, .p] z <| nQ <| cI H z (fun H => ?_) (fun H => ?_)
   ·refine ar <| ax <| ak <| az <| ak <| ak <| dW cj (by kernel_rfl) <| aa [.fa 27 0 0 cY] z <| o1 z (r1 0 0 z hZ z) <| oPP z <| bE H fun d7 a1 H => bo (e := eI) (xs := p1) (j := d) z z z z z aP ty3 z (ad C) a1 (by rw [Nat.mul_one]) <| o1 z (aD z z ty3 (bD (ad C) a1)) <| bE H fun E b5 H => cn z z z z z gD dD z F b5 fun d8 d9 b0 b1 => ?_
    obtain ⟨e0, e1, e2, rfl, b6, b7, b8⟩ := bA b0
    obtain rfl := b6
    obtain ⟨e3, e4, rfl⟩ := aj b7
    obtain ⟨e5, e6, rfl⟩ := aj b8
    refine aa [.fa 63 1 1 iY] z <| o1 z (aD z z cq (bW bor (lz b1 1 1))) <| aa [.lenS 31 3 aP, .p, .p] z <| aS [(37, B (((E.u_.length : Int) == 0) && (!p2))), (1, S a_1 p1.length c_1), (2, B p2), (3, O (U ⟨x, 0, N⟩)), (7, S f c.length g), (8, I J d)] 3 ?_ (fun key => OW.sub (R := [(1, S a_1 p1.length c_1), (2, B p2), (3, O (U ⟨x, 0, N⟩)), (7, S f c.length g), (8, I J d), (34, B ((E.u_.length : Int) == 0))]) ?_ (sb z))
    ·refine cC <| ax <| cI H z (fun H => ?_) (fun H => ?_)
     ·refine sR <| aa [.p, .p, .p] z <| bE H fun s a2 H => bo (e := eI) (xs := p1) (j := d) z z z z z aP ty3 z (ad C) a2 (by rw [Nat.mul_one]) <| o1 z (aD z z ty3 (bD (ad C) a2)) <| o1 z (bL [(0, [I J s]), (1, [I J (-1)])] [I J s, I J (-1)] z z cM wE z ⟨z, z, nl z, z, z, nl z, Y⟩ z) <| rH ([(aq.mk s (-1))] : List aq) [(0, [I J s, I J (-1)])] z z z z z nW cM z z z z ⟨z, z, nl z, Y⟩ z (fun _ => kp) (fun a3 => (?_ : OW _ _ _ (St w A [b x 27 [S G p0.b_.length L, S M p0.l_.length P], W (ae (bH) 66) q c [S f c.length g], W (ae (bH) 66) [a3] [(aq.mk s (-1))] [S (U ⟨a3, 0, N⟩) ([(aq.mk s (-1))] : List aq).length 1]]) _ _ _))
      exact bE H fun b9 a4 H => qK (r := 1) (ys := ([(aq.mk s (-1))] : List aq)) z z z z z z nW cM z z z z z (fun u k => ap (e := ae (bH) 66) (r := 2) z u k) a4 (fun _ _ _ => kp) fun c1 c2 c3 => ct z (fun u k => fh (i := 1) k z (ff a4)) fun b2 => oP z <| nQ <| bF <| aN <| aO <| ax <| aW <| aa [.p, .p, .p] z <| ay <| cD (RW.at (Z (b9) (c1) (c2) (c3) (J.wrap (d + 1)) (⟨b2, H⟩)) (ss [0, 1] z z) (sb z))
     ·refine ar <| ax <| sR <| oP z <| nQ <| az <| CW.at (iX (fun (h : List aq) (m : Option Addr) (o : Nat) (t : List Nat) (a : Int) => St w A [b x 27 [S G p0.b_.length L, S M p0.l_.length P], W (ae (bH) 66) t h [S m h.length o]]) (fun h m o t a => [(1, S a_1 p1.length c_1), (2, B p2), (3, O (U ⟨x, 0, N⟩)), (7, S m h.length o), (8, I J d), (9, I J a)]) (fun kk => fun h m o t a => m.isNone = n ∧ dk p1 d p0 (dl p1 p0 p2 k1) kk h a = U r) (fun _ _ _ _ _ H => ?_) (fun k2 a5 h m o t a ⟨Q, H⟩ => ?_) be (c) (f) (g) (q) (0) (⟨a9, H⟩)) (ss [0, 1] z z) (sb z)
      ·unfold dk at H
       exact absurd H (by simp)
      ·unfold dk at H
       refine ak <| sR <| oPP z <| nQ <| cI H z (fun H => ?_) (fun H => ?_)
       ·refine ar <| ax <| ak <| az <| sR <| oPP z <| bE H fun l a6 H => bo (e := eI) (xs := p1) (j := d) z z z z z aP ty3 z (ad C) a6 (by rw [Nat.mul_one]) <| o1 z (aD z z ty3 (bD (ad C) a6)) <| oP z <| o1 z (bL [(0, [I J l]), (1, [I J a])] [I J l, I J a] z z cM wE z ⟨z, z, nl z, z, z, nl z, Y⟩ z) <| aA z z z z cM (fun _ => kp) fun c4 => sC 0 [I J l, I J a] [_, _] 2 z cM z <| nR <| o1 z (rx 0 0 _ z cg z) <| o1 z (rx 0 2 _ z cM z) <| bE H fun e7 c5 H => oq z (qc z xE (fun u k => gK u (p1 := (aq.mk l a)) c5 (af (ad F u k) (ad X u k)))) tt2 <| nQ <| cI H z (fun H => ?_) (fun H => ?_)
        ·refine aW <| oP z <| o1 z (rx 0 2 _ z cM z) <| rH ([(aq.mk l a)] : List aq) [(0, [I J l, I J a])] z z z z z nW cM z z z z ⟨z, z, nl z, Y⟩ z (fun _ => kp) (fun a7 => (?_ : OW _ _ _ (St w A [b x 27 [S G p0.b_.length L, S M p0.l_.length P], W (ae (bH) 66) t h [S m h.length o], b c4 66 [I J l, I J a], W (ae (bH) 66) [a7] [(aq.mk l a)] [S (U ⟨a7, 0, N⟩) ([(aq.mk l a)] : List aq).length 1]]) _ _ _))
         exact bE H fun c6 a8 H => qK (r := 1) (ys := ([(aq.mk l a)] : List aq)) z z z z z z nW cM z z z z z (fun u k => ap (e := ae (bH) 66) (r := 3) z u k) a8 (fun _ _ _ => kp) fun c7 c8 c9 => ct z (fun u k => fh (i := 1) k z (ff a8)) fun b3 => oP z <| ay <| cd <| ax <| aW <| aa [.p, .p, .p] z <| ay <| cD (RW.at (a5 (c6) (c7) (c8) (c9) (J.wrap (a + 1)) (⟨b3, H⟩)) (ss [0, 1] z z) (sb z))
        ·exact ar <| cd <| ax <| aW <| aa [.p, .p, .p] z <| ay <| cD (RW.at (a5 (h) (m) (o) (t) (J.wrap (a + 1)) (⟨Q, H⟩)) (ss [0, 1] z z) (sb z))
       ·exact bF <| aN <| aR <| aO <| cd <| ax <| aW <| aa [.p, .p, .p] z <| ay <| cD (RW.at (Z (h) (m) (o) (t) (J.wrap (d + 1)) (⟨Q, H⟩)) (ss [0, 1] z z) (sb z))
    ·generalize ((E.u_.length : Int) == 0) = d0 at key ⊢
     cases d0
     ·exact aa [.p, .p, .p] z <| OW.sub key (sb z)
     ·exact oPP z <| oP z <| OW.sub key (sb z)
   ·exact bF <| aN <| aR <| aO <| ax <| sR <| oPP z <| nT <| bg (rs := [.tmp 6]) (vs := [S f c.length g]) z ⟨z, Y⟩ (fun w' hw' => by
     obtain rfl := ai H
     exact ⟨_, z, f, c.length, g, q, z, hw'.sel [1] z z⟩)
theorem nr (w : World) {C : List Nat} {p0 : ab} {p1 : av} {p2 : aq} {p3 : Int} {a5 : List Value} {a6 : List Value} {r : List Int} (H : gZ p0 p1 p2 p3 = U r) (HS : St w C [] w) (g0 : (aJ).rd w C p0 a5) (g1 : (cu).rd w C p1 a6) :
    Calls Tryz.prog 176 #[.agg a5.toArray, .agg a6.toArray, .agg #[I J p2.j_, I J p2.c_], I J p3] w (fun en w' => ∃ v, en = .returned v ∧ ∃ (a0 : Option Addr), ∃ (n0 : Nat), ∃ (c0 : Nat), ∃ (F0 : List Nat), v = S a0 n0 c0 ∧ St w C [W (ae eI 3) F0 r [S a0 n0 c0]] w') := by
 obtain ⟨f8, f9, rfl, s, u⟩ := aB g0
 obtain ⟨a7, a8, rfl⟩ := aj s
 obtain ⟨a9, b0, rfl⟩ := aj u
 obtain ⟨g2, g3, rfl, b1, D⟩ := aK g1
 obtain ⟨b2, b3, rfl⟩ := aj b1
 obtain ⟨b4, b5, rfl⟩ := aj D
 unfold gZ at H
 refine aH Tryz.func176 z Tryz.ntmps176 z (HS) <| sR <| ob _ z fun k => ob _ z fun l => ob _ z fun m => oP z <| nQ <| ak <| sR <| o1 z (rx 0 0 _ z cg z) <| o1 z (rx 0 1 _ z cT z) <| bE H fun x d2 H => oq z (qc z vR (fun d a => fB d d2 (af (ad s d a) (ad u d a)) (aF (ad b1 d a) (ad D d a)))) tt2 <| oPP z <| aS [(21, B ((!x) || ((p1.d_.length : Int) == 0))), (3, I J p3), (4, O (U ⟨k, 0, N⟩)), (5, O (U ⟨l, 0, N⟩)), (6, O (U ⟨m, 0, N⟩))] 5 ?_ (fun key => OW.sub (R := [(3, I J p3), (4, O (U ⟨k, 0, N⟩)), (5, O (U ⟨l, 0, N⟩)), (6, O (U ⟨m, 0, N⟩)), (16, B (!x))]) ?_ (sb z))
 ·refine oP z <| bE H fun E F H => aS [(27, B E), (3, I J p3), (4, O (U ⟨k, 0, N⟩)), (5, O (U ⟨l, 0, N⟩)), (6, O (U ⟨m, 0, N⟩))] 5 ?_ (fun key => OW.sub (R := [(3, I J p3), (4, O (U ⟨k, 0, N⟩)), (5, O (U ⟨l, 0, N⟩)), (6, O (U ⟨m, 0, N⟩)), (22, B ((!x) || ((p1.d_.length : Int) == 0)))]) ?_ (sb z))
  ·refine oP z <| bE H fun d3 G H => aS [(36, B d3), (3, I J p3), (4, O (U ⟨k, 0, N⟩)), (5, O (U ⟨l, 0, N⟩)), (6, O (U ⟨m, 0, N⟩))] 8 ?_ (fun key => OW.sub (R := [(3, I J p3), (4, O (U ⟨k, 0, N⟩)), (5, O (U ⟨l, 0, N⟩)), (6, O (U ⟨m, 0, N⟩)), (28, B E)]) ?_ (sb z))
   ·refine nQ <| cI H z (fun H => ?_) (fun H => ?_)
    ·exact sR <| ce (e := eI) z z z z aP ty3 (fun _ => kp) fun L => oP z <| nT <| am <| bg (rs := [.tmp 8]) (vs := [S (U ⟨L, 0, N⟩) 0 0]) z ⟨z, Y⟩ (fun w' hw' => by
      obtain rfl := ai H
      exact ⟨_, z, (U ⟨L, 0, N⟩), 0, 0, [L], z, hw'.sel [3] z z⟩)
    ·refine ar <| ax <| sR <| aa [.fa 27 1 1 iW] z <| o1 z (r1 1 0 z kV z) <| aa [.lenS 25 9 go] z <| bE H fun c d4 H => qI (e := eI) (zero := (0 : Int)) z z z z z z aP ty3 z z z z (fun _ => ⟨z, z⟩) d4 (fun _ => kp) fun q => oP z <| nQ <| ak <| sR <| oP z <| nQ <| az <| CW.at (hI (fun (g : Int) (o : List Int) => St w C [b k 27 [S a7 p0.b_.length a8, S a9 p0.l_.length b0], b l 69 [S b2 p1.e_.length b3, S b4 p1.d_.length b5], b m 66 [I J p2.j_, I J p2.c_], W (ae eI 3) [q] o [S (U ⟨q, 0, N⟩) c.length c.length]]) (fun g o => [(3, I J p3), (4, O (U ⟨k, 0, N⟩)), (5, O (U ⟨l, 0, N⟩)), (6, O (U ⟨m, 0, N⟩)), (9, S (U ⟨q, 0, N⟩) c.length c.length), (10, I J g)]) (fun kk => fun g o => cy p0 p2 p3 c p1 kk g o = U r) (fun _ _ H => ?_) (fun k1 M g o H => ?_) be (0) (c) (H)) (ss [0, 1, 2, 3] z z) (sb z)
     ·unfold cy at H
      exact absurd H (by simp)
     ·unfold cy at H
      refine ak <| sR <| aa [.p, .fa 27 0 0 cY] z <| o1 z (r1 0 0 z hZ z) <| aa [.fa 66 0 0 jI] z <| o1 z (r1 0 2 z ty3 z) <| bE H fun A b6 H => cn z z z z z gD dD z s b6 fun e5 e6 a2 a3 => ?_
      obtain ⟨e7, e9, f0, rfl, b7, P, Q⟩ := bA a2
      obtain rfl := b7
      obtain ⟨b8, b9, rfl⟩ := aj P
      obtain ⟨c1, c2, rfl⟩ := aj Q
      refine o1 z (cA (cs := [vS A.B_, S b8 A.u_.length b9, S c1 A.A_.length c2]) z z dD (bW bor a3) z) <| bE H fun f1 c3 H => oq z (qc z vi (fun d a => gF d c3 (bO z (ad P d a) (ad Q d a)))) tt2 <| oP z <| nQ <| cI H z (fun H => ?_) (fun H => ?_)
      ·refine ar <| ax <| ak <| az <| sR <| o1 z (rx 0 0 _ z cg z) <| o1 z (rx 0 2 _ z cM z) <| oP z <| bE H fun f2 c4 H => oq z (qc z DK (fun d a => oX d (p1 := p2) c4 (af (ad s d a) (ad u d a)))) tt2 <| oPP z <| nQ <| cI H z (fun H => ?_) (fun H => ?_)
       ·refine sR <| oP z <| nQ <| az <| CW.at (hI (fun (f : Int) (h : List Int) => St w C [b k 27 [S a7 p0.b_.length a8, S a9 p0.l_.length b0], b l 69 [S b2 p1.e_.length b3, S b4 p1.d_.length b5], b m 66 [I J p2.j_, I J p2.c_], W (ae eI 3) [q] h [S (U ⟨q, 0, N⟩) c.length c.length]]) (fun f h => [(3, I J p3), (4, O (U ⟨k, 0, N⟩)), (5, O (U ⟨l, 0, N⟩)), (6, O (U ⟨m, 0, N⟩)), (9, S (U ⟨q, 0, N⟩) c.length c.length), (10, I J g), (11, I J f)]) (fun kk => fun f h => dc c p1 p2 g p0 (cy p0 p2 p3 c p1 k1) kk f h = U r) (fun _ _ H => ?_) (fun k2 c5 f h H => ?_) be (0) (o) (H)) (ss [0, 1, 2, 3] z z) (sb z)
        ·unfold dc at H
         exact absurd H (by simp)
        ·unfold dc at H
         refine ak <| sR <| aa [.p, .p, .lenS 31 3 aP, .p] z <| nQ <| cI H z (fun H => ?_) (fun H => ?_)
         ·refine ar <| ax <| ak <| az <| qA 23 cj (by kernel_rfl) <| aa [.p, .p, .p, .p] z <| bE H fun c6 X H => bo (e := eI) (xs := h) (j := f) z z z z z aP ty3 z (ap (e := ae eI 3) (r := 3) z) X (by rw [Nat.mul_one]) <| o1 z (aD z z ty3 (bD (ap (e := ae eI 3) (r := 3) z) X)) <| aa [.fa 69 1 1 eE] z <| o1 z (r1 1 1 z kq z) <| aa [.fa 66 0 0 jI] z <| o1 z (r1 0 2 z ty3 z) <| bE H fun c7 c8 H => cn z z z z z iR cq z D c8 fun f3 f4 t a4 => ?_
          obtain ⟨f5, f6, rfl⟩ := aj t
          exact o1 z (aD z z cq (bW bor a4)) <| aa [.p, .fa 27 1 1 iW] z <| o1 z (r1 1 0 z kV z) <| aa [.lenS 25 9 go, .p, .p, .p] z <| bE H fun c9 Z H => bo (e := eI) (xs := c7) (j := J.wrap ((J.wrap (g * (p0.l_.length : Int))) + f)) z z z z z aP ty3 z (ad t) Z (by rw [Nat.mul_one]) <| o1 z (aD z z ty3 (bD (ad t) Z)) <| oP z <| bE H fun f7 a1 H => bo (e := eI) (xs := h) (j := f) z z z z z aP ty3 z (ap (e := ae eI 3) (r := 3) z) a1 (by rw [Nat.mul_one]) <| cC <| jN (i := 3) (j := f) z z z z z z ty3 z a1 (fun _ => z) kp <| ay <| cd <| ax <| aW <| aa [.p, .p, .p] z <| ay <| cD (RW.at (c5 (J.wrap (f + 1)) ((h.set f.toNat (J.wrap (c6 + c9)))) (H)) (ss [0, 1, 2, 3] z z) (sb z))
         ·exact bF <| aN <| aR <| aO <| cd <| ax <| aW <| aa [.p, .p, .p] z <| ay <| cD (RW.at (M (J.wrap (g + 1)) (h) (H)) (ss [0, 1, 2, 3] z z) (sb z))
       ·exact ar <| cd <| ax <| aW <| aa [.p, .p, .p] z <| ay <| cD (RW.at (M (J.wrap (g + 1)) (o) (H)) (ss [0, 1, 2, 3] z z) (sb z))
      ·exact bF <| aN <| aR <| aO <| ax <| sR <| oPP z <| nT <| bg (rs := [.tmp 8]) (vs := [S (U ⟨q, 0, N⟩) c.length c.length]) z ⟨z, Y⟩ (fun w' hw' => by
        obtain rfl := ai H
        exact ⟨_, z, (U ⟨q, 0, N⟩), c.length, c.length, [q], z, hw'.sel [3] z z⟩)
   ·clear H
    have H := G
    clear G
    generalize E = d5 at H key ⊢
    cases d5
    ·have H := ba z H
     refine oP z <| o1 z (rx 0 0 _ z cg z) <| o1 z (rx 0 2 _ z cM z) <| bE H fun g4 d6 H => oq z (qc z yi (fun d a => gv d (p1 := p2) d6 (af (ad s d a) (ad u d a)))) tt2 <| oP z <| bE H fun g5 d7 H => oq z (qc z iF (fun d a => bl d d7)) tt2 <| oP z <| oP z <| ?_
     obtain rfl := ai H
     exact OW.sub key (sb z)
    ·have H := aZ z H
     refine aa [.p, .p, .p, .p, .p, .p, .p, .p] z ?_
     obtain rfl := ai H
     exact OW.sub key (sb z)
  ·clear H
   have H := F
   clear F
   generalize ((!x) || ((p1.d_.length : Int) == 0)) = d8 at H key ⊢
   cases d8
   ·have H := ba z H
    refine o1 z (rx 0 0 _ z cg z) <| o1 z (rx 0 2 _ z cM z) <| bE H fun g6 d9 H => oq z (qc z xE (fun d a => gK d (p1 := p2) d9 (af (ad s d a) (ad u d a)))) tt2 <| oP z <| oP z <| ?_
    obtain rfl := ai H
    exact OW.sub key (sb z)
   ·have H := aZ z H
    refine aa [.p, .p, .p, .p, .p] z ?_
    obtain rfl := ai H
    exact OW.sub key (sb z)
 ·generalize (!x) = e0 at key ⊢
  cases e0
  ·exact aa [.fa 69 1 1 eE] z <| o1 z (r1 1 1 z kq z) <| aa [.lenS 67 31 iR, .p] z <| oP z <| OW.sub key (sb z)
  ·exact aa [.p, .p, .p, .p, .p] z <| OW.sub key (sb z)
theorem mD (w : World) {p0 : List Int} {a_0 : Option Addr} {n_0 c_0 : Nat} {r : Int} (H : jS p0 = U r) (f : (ae eI 3).rd w [] p0 [S a_0 n_0 c_0]) :
    Calls Tryz.prog 177 #[S a_0 n_0 c_0] w (fun en w' => en = .returned (I J r) ∧ Ext [] w w') := by
 obtain rfl := fM f
 unfold jS at H
 refine aH Tryz.func177 z Tryz.ntmps177 z (St.init w []) <| sR <| oP z <| nR <| oP z <| nQ <| ak <| sR <| oP z <| nQ <| az <| CW.at (hI (fun (c : Int) (a : Int) => St w [] []) (fun c a => [(0, S a_0 p0.length c_0), (3, I J c), (4, I J a)]) (fun kk => fun c a => gS p0 kk c a = U r) (fun _ _ H => ?_) (fun i g c a H => ?_) be (0) (0) (H)) (ss [] z z) (sb z)
 ·unfold gS at H
  exact absurd H (by simp)
 ·unfold gS at H
  refine ak <| sR <| aa [.p, .p, .lenS 31 3 aP, .p] z <| nQ <| cI H z (fun H => ?_) (fun H => ?_)
  ·exact ar <| ax <| ak <| az <| aW <| aa [.p, .p, .p] z <| bE H fun h d H => bo (e := eI) (xs := p0) (j := a) z z z z z aP ty3 z (ad f) d (by rw [Nat.mul_one]) <| o1 z (aD z z ty3 (bD (ad f) d)) <| oPP z <| ay <| cd <| ax <| aW <| aa [.p, .p, .p] z <| ay <| cD (RW.at (g (J.wrap (c + h)) (J.wrap (a + 1)) (H)) (ss [] z z) (sb z))
  ·exact bF <| aN <| aR <| aO <| ax <| sR <| oPP z <| nT <| xr 2 z (by cases H; exact q1)
theorem pJ (w : World) {p0 : List Int} {a_0 : Option Addr} {n_0 c_0 : Nat} {r : Int} (H : lc p0 = U r) (d : (ae eI 3).rd w [] p0 [S a_0 n_0 c_0]) :
    Calls Tryz.prog 202 #[S a_0 n_0 c_0] w (fun en w' => en = .returned (I J r) ∧ Ext [] w w') := by
 obtain rfl := fM d
 unfold lc at H
 refine aH Tryz.func202 z Tryz.ntmps202 z (St.init w []) <| sR <| oP z <| nQ <| ak <| sR <| aa [.p, .lenS 31 3 aP, .p] z <| nQ <| cI H z (fun H => ?_) (fun H => ?_)
 ·exact sR <| oP z <| nT <| am <| xr 2 z (by cases H; exact q1)
 ·refine ar <| ax <| sR <| oP z <| nQ <| ak <| sR <| oP z <| nQ <| az <| CW.at (hI (fun (c : Int) (a : Int) => St w [] []) (fun c a => [(0, S a_0 p0.length c_0), (3, I J c), (4, I J a)]) (fun kk => fun c a => gj p0 kk c a = U r) (fun _ _ H => ?_) (fun u i c a H => ?_) be (0) (0) (H)) (ss [] z z) (sb z)
  ·unfold gj at H
   exact absurd H (by simp)
  ·unfold gj at H
   refine ak <| sR <| aa [.p, .p, .lenS 31 3 aP, .p] z <| nQ <| cI H z (fun H => ?_) (fun H => ?_)
   ·refine ar <| ax <| ak <| az <| ak <| sR <| oPP z <| bE H fun q f H => bo (e := eI) (xs := p0) (j := a) z z z z z aP ty3 z (ad d) f (by rw [Nat.mul_one]) <| o1 z (aD z z ty3 (bD (ad d) f)) <| bE H fun s k H => oq z (qc z iF (fun o t => bl o k)) tt2 <| oP z <| nQ <| cI H z (fun H => ?_) (fun H => ?_)
    ·exact sR <| oP z <| nT <| am <| aL <| am <| bU <| aL <| am <| xr 2 z (by cases H; exact q1)
    ·exact ar <| ax <| dW cj (by kernel_rfl) <| aa [.p, .p, .p] z <| bE H fun l g H => bo (e := eI) (xs := p0) (j := a) z z z z z aP ty3 z (ad d) g (by rw [Nat.mul_one]) <| o1 z (aD z z ty3 (bD (ad d) g)) <| oPP z <| bE H fun m h H => bo (e := eI) (xs := p0) (j := a) z z z z z aP ty3 z (ad d) h (by rw [Nat.mul_one]) <| o1 z (aD z z ty3 (bD (ad d) h)) <| aa [.p, .p, .p] z <| cC <| cd <| ax <| aW <| aa [.p, .p, .p] z <| ay <| cD (RW.at (i (J.wrap (c + (J.wrap (l * m)))) (J.wrap (a + 1)) (H)) (ss [] z z) (sb z))
   ·exact bF <| aN <| aR <| aO <| ax <| sR <| oPP z <| nT <| xr 2 z (by cases H; exact q1)
theorem jK (w : World) {p0 : bd} {r : Bool} (H : io p0 = U r)   :
    Calls Tryz.prog 186 #[.agg #[I J p0.D_, I J p0.C_]] w (fun en w' => en = .returned (B r) ∧ Ext [] w w') := by
 unfold io at H
 refine aH Tryz.func186 z Tryz.ntmps186 z (St.init w []) <| sR <| ob _ z fun e => oP z <| nR <| aa [.fa 186 0 0 nD] z <| o1 z (r1 0 0 z ty3 z) <| bE H fun c f H => oq z (qc z iF (fun d g => bl d f)) tt2 <| oP z <| bE H fun h a H => aS [(10, B h), (2, B n)] 4 ?_ (fun key => OW.sub (R := [(1, O (U ⟨e, 0, N⟩)), (2, B n), (6, B c)]) ?_ (sb z))
 ·exact oP z <| nT <| xr 2 z (by cases H; exact q1)
 ·clear H
  have H := a
  clear a
  generalize c = i at H key ⊢
  cases i
  ·have H := ba z H
   refine aa [.p, .p, .p, .p] z ?_
   obtain rfl := ai H
   exact OW.sub key (sb z)
  ·have H := aZ z H
   refine aa [.fa 186 1 1 mS] z <| o1 z (r1 1 0 z ty3 z) <| bE H fun k j H => oq z (qc z iF (fun d g => bl d j)) tt2 <| oP z <| ?_
   obtain rfl := ai H
   exact OW.sub key (sb z)
theorem wR (w : World) {p0 : Int} {p1 : Int} {r : Int} (H : qm p0 p1 = U r)   :
    Calls Tryz.prog 204 #[I J p0, I J p1] w (fun en w' => en = .returned (I J r) ∧ Ext [] w w') := by
 unfold qm at H
 refine aH Tryz.func204 z Tryz.ntmps204 z (St.init w []) <| sR <| oP z <| nQ <| ak <| sR <| aa [.p, .p, .p] z <| aS [(11, B ((decide (p0 < 0)) || (decide (p1 < 0)))), (0, I J p0), (1, I J p1)] 3 ?_ (fun key => OW.sub (R := [(0, I J p0), (1, I J p1), (8, B (decide (p0 < 0)))]) ?_ (sb z))
 ·refine nQ <| cI H z (fun H => ?_) (fun H => ?_)
  ·exact sR <| oP z <| nT <| am <| xr 4 z (by cases H; exact q1)
  ·refine ar <| ax <| ak <| az <| CW.at (hI (fun (c : Int) (a : Int) => St w [] []) (fun c a => [(0, I J c), (1, I J a)]) (fun kk => fun c a => jk kk c a = U r) (fun _ _ H => ?_) (fun h d c a H => ?_) be (p0) (p1) (H)) (ss [] z z) (sb z)
   ·unfold jk at H
    exact absurd H (by simp)
   ·unfold jk at H
    refine ak <| sR <| oPP z <| nQ <| cI H z (fun H => ?_) (fun H => ?_)
    ·exact ar <| ax <| az <| sR <| oPP z <| bE H fun e f H => o1 z (pY z z z f) <| oP z <| nR <| oPP z <| nQ <| aW <| oPP z <| ay <| cd <| cD (RW.at (d (a) (e) (H)) (ss [] z z) (sb z))
    ·exact bF <| aN <| aR <| aO <| ax <| sR <| oPP z <| nT <| xr 4 z (by cases H; exact q1)
 ·generalize (decide (p0 < 0)) = g at key ⊢
  cases g
  ·exact oPP z <| oP z <| OW.sub key (sb z)
  ·exact aa [.p, .p, .p] z <| OW.sub key (sb z)
theorem tr (w : World) {p0 : bd} {r : bd} (H : mH p0 = U r)   :
    Calls Tryz.prog 203 #[.agg #[I J p0.D_, I J p0.C_]] w (fun en w' => en = .returned (.agg #[I J r.D_, I J r.C_]) ∧ Ext [] w w') := by
 unfold mH at H
 refine aH Tryz.func203 z Tryz.ntmps203 z (St.init w []) <| sR <| ob _ z fun k => aA z z z z cx (fun _ => kp) fun l => nQ <| ak <| sR <| o1 z (rx 0 0 _ z cx z) <| bE H fun m e H => oq z (qc z vI (fun d f => jK d (p0 := p0) e)) tt2 <| oP z <| nQ <| cI H z (fun H => ?_) (fun H => ?_)
 ·exact sR <| o1 z (bL [] [I J 0, I J 0] z z cx sW z Y z) <| sC 0 [I J 0, I J 0] [_, _] 1 z cx z <| nT <| am <| bg (rs := [.cell 2 186]) (vs := [.agg #[I J 0, I J 0]]) z ⟨⟨_, [I J 0, I J 0], _, _, _, z, cx, (bB (T := 186) 0 (bX (i := 1) z) z), z, z⟩, Y⟩ (fun w' hw' => by
   obtain rfl := ai H
   exact ⟨z, hw'.ext⟩)
 ·exact ar <| ax <| sR <| aa [.fa 186 0 0 nD] z <| o1 z (r1 0 0 z ty3 z) <| aa [.fa 186 1 1 mS] z <| o1 z (r1 1 0 z ty3 z) <| bE H fun o g H => oq z (qc z Ff (fun d f => wR d g)) tt2 <| oP z <| nQ <| ak <| qA 9 cj (by kernel_rfl) <| aa [.fa 186 0 0 nD] z <| o1 z (r1 0 0 z ty3 z) <| oP z <| bE H fun a h H => o1 z (xN z z z h) <| aa [.fa 186 1 1 mS] z <| o1 z (r1 1 0 z ty3 z) <| oP z <| bE H fun c j H => o1 z (xN z z z j) <| o1 z (bL [(0, [I J a]), (1, [I J c])] [I J a, I J c] z z cx sW z ⟨z, z, nl z, z, z, nl z, Y⟩ z) <| cC <| sC 0 [I J a, I J c] [_, _] 1 z cx z <| nT <| bg (rs := [.cell 2 186]) (vs := [.agg #[I J a, I J c]]) z ⟨⟨_, [I J a, I J c], _, _, _, z, cx, (bB (T := 186) 0 (bX (i := 1) z) z), z, z⟩, Y⟩ (fun w' hw' => by
   obtain rfl := ai H
   exact ⟨z, hw'.ext⟩)
theorem oS (w : World) {p0 : ab} {p1 : av} {p2 : aq} {c5 : List Value} {c6 : List Value} {r : bd} (H : mP p0 p1 p2 = U r) (g0 : (aJ).rd w [] p0 c5) (g1 : (cu).rd w [] p1 c6) :
    Calls Tryz.prog 195 #[.agg c5.toArray, .agg c6.toArray, .agg #[I J p2.j_, I J p2.c_]] w (fun en w' => en = .returned (.agg #[I J r.D_, I J r.C_]) ∧ Ext [] w w') := by
 obtain ⟨i4, i5, rfl, Z, a0⟩ := aB g0
 obtain ⟨c7, c8, rfl⟩ := aj Z
 obtain ⟨c9, d0, rfl⟩ := aj a0
 obtain ⟨i6, i7, rfl, a6, a7⟩ := aK g1
 obtain ⟨d1, d2, rfl⟩ := aj a6
 obtain ⟨d3, d4, rfl⟩ := aj a7
 unfold mP at H
 refine aH Tryz.func195 z Tryz.ntmps195 z (St.init w []) <| sR <| ob _ z fun M => ob _ z fun P => ob _ z fun Q => aA z z z z cx (fun _ => kp) fun A => nQ <| ak <| sR <| o1 z (rx 0 0 _ z cg z) <| o1 z (rx 0 1 _ z cT z) <| bE H fun a1 g6 H => oq z (qc z vR (fun f a => fB f g6 (af (ad Z f a) (ad a0 f a)) (aF (ad a6 f a) (ad a7 f a)))) tt2 <| oPP z <| aS [(27, B ((!a1) || ((p1.d_.length : Int) == 0))), (3, O (U ⟨M, 0, N⟩)), (4, O (U ⟨P, 0, N⟩)), (5, O (U ⟨Q, 0, N⟩)), (6, O (U ⟨A, 0, N⟩))] 5 ?_ (fun key => OW.sub (R := [(3, O (U ⟨M, 0, N⟩)), (4, O (U ⟨P, 0, N⟩)), (5, O (U ⟨Q, 0, N⟩)), (6, O (U ⟨A, 0, N⟩)), (22, B (!a1))]) ?_ (sb z))
 ·refine oP z <| bE H fun g7 a8 H => aS [(33, B g7), (3, O (U ⟨M, 0, N⟩)), (4, O (U ⟨P, 0, N⟩)), (5, O (U ⟨Q, 0, N⟩)), (6, O (U ⟨A, 0, N⟩))] 5 ?_ (fun key => OW.sub (R := [(3, O (U ⟨M, 0, N⟩)), (4, O (U ⟨P, 0, N⟩)), (5, O (U ⟨Q, 0, N⟩)), (6, O (U ⟨A, 0, N⟩)), (28, B ((!a1) || ((p1.d_.length : Int) == 0)))]) ?_ (sb z))
  ·refine nQ <| cI H z (fun H => ?_) (fun H => ?_)
   ·exact sR <| o1 z (bL [] [I J 0, I J 0] z z cx sW z Y z) <| sC 0 [I J 0, I J 0] [_, _] 3 z cx z <| nT <| am <| bg (rs := [.cell 6 186]) (vs := [.agg #[I J 0, I J 0]]) z ⟨⟨_, [I J 0, I J 0], _, _, _, z, cx, (bB (T := 186) 0 (bX (i := 3) z) z), z, z⟩, Y⟩ (fun w' hw' => by
     obtain rfl := ai H
     exact ⟨z, hw'.ext⟩)
   ·refine ar <| ax <| sR <| aa [.fa 27 1 1 iW] z <| o1 z (r1 1 0 z kV z) <| aa [.lenS 25 9 go] z <| bE H fun l g8 H => qI (e := eI) (zero := (0 : Int)) z z z z z z aP ty3 z z z z (fun _ => ⟨z, z⟩) g8 (fun _ => kp) fun C => oP z <| nR <| ce (e := eI) z z z z aP ty3 (fun _ => kp) fun d5 => oP z <| nR <| ce (e := eI) z z z z aP ty3 (fun _ => kp) fun d6 => oP z <| nQ <| ak <| sR <| oP z <| nQ <| az <| CW.at (yp (fun (v : Int) (t : List Int) (c : List Int) (h : Option Addr) (m : Nat) (D : List Nat) (d : List Int) (k : Option Addr) (o : Nat) (E : List Nat) => St w [] [b M 27 [S c7 p0.b_.length c8, S c9 p0.l_.length d0], b P 69 [S d1 p1.e_.length d2, S d3 p1.d_.length d4], b Q 66 [I J p2.j_, I J p2.c_], b A 186 [I J 0, I J 0], W (ae eI 3) [C] t [S (U ⟨C, 0, N⟩) l.length l.length], W (ae eI 3) D c [S h c.length m], W (ae eI 3) E d [S k d.length o]]) (fun v t c h m D d k o E => [(3, O (U ⟨M, 0, N⟩)), (4, O (U ⟨P, 0, N⟩)), (5, O (U ⟨Q, 0, N⟩)), (6, O (U ⟨A, 0, N⟩)), (7, S (U ⟨C, 0, N⟩) l.length l.length), (8, S h c.length m), (9, S k d.length o), (10, I J v)]) (fun kk => fun v t c h m D d k o E => h.isNone = n ∧ k.isNone = n ∧ eU p0 p2 p1 kk v t c d = U r) (fun _ _ _ _ _ _ _ _ _ _ H => ?_) (fun k1 a9 v t c h m D d k o E ⟨c0, c1, H⟩ => ?_) be (0) (l) (([] : List Int)) ((U ⟨d5, 0, N⟩)) (0) ([d5]) (([] : List Int)) ((U ⟨d6, 0, N⟩)) (0) ([d6]) (⟨z, z, H⟩)) (ss [0, 1, 2, 3, 4, 5, 6] z z) (sb z)
    ·unfold eU at H
     exact absurd H (by simp)
    ·unfold eU at H
     refine ak <| sR <| oP z <| o1 z (rx 0 0 _ z cg z) <| o1 z (rx 0 2 _ z cM z) <| bE H fun h6 d7 H => oq z (qc z yi (fun f a => gv f (p1 := p2) d7 (af (ad Z f a) (ad a0 f a)))) tt2 <| oP z <| nQ <| cI H z (fun H => ?_) (fun H => ?_)
     ·refine ar <| ax <| ak <| az <| sR <| o1 z (rx 0 0 _ z cg z) <| o1 z (rx 0 1 _ z cT z) <| o1 z (rx 0 2 _ z cM z) <| oP z <| bE H fun X d8 H => au z DD z z z z (fun f a => nr f (p2 := p2) d8 (a.carve [] z z) (af (ad Z f a) (ad a0 f a)) (aF (ad a6 f a) (ad a7 f a))) fun h7 f w2 a c2 => ?_
      obtain ⟨b0, h8, b1, d9, rfl, a5⟩ := c2
      obtain rfl := aI (i := 0) a5 z
      refine ⟨St w [] [_, _, _, _, _, _, _, _], a.comp [] z z a5, fun _ _ => Y, ?_⟩
      refine oP z <| nQ <| ak <| sR <| oP z <| nQ <| az <| CW.at (hI (fun (q : Int) (u : List Int) => St w [] [W (ae eI 3) d9 X [S b0 X.length b1], b M 27 [S c7 p0.b_.length c8, S c9 p0.l_.length d0], b P 69 [S d1 p1.e_.length d2, S d3 p1.d_.length d4], b Q 66 [I J p2.j_, I J p2.c_], b A 186 [I J 0, I J 0], W (ae eI 3) [C] u [S (U ⟨C, 0, N⟩) l.length l.length], W (ae eI 3) D c [S h c.length m], W (ae eI 3) E d [S k d.length o]]) (fun q u => [(3, O (U ⟨M, 0, N⟩)), (4, O (U ⟨P, 0, N⟩)), (5, O (U ⟨Q, 0, N⟩)), (6, O (U ⟨A, 0, N⟩)), (7, S (U ⟨C, 0, N⟩) l.length l.length), (8, S h c.length m), (9, S k d.length o), (10, I J v), (11, S b0 X.length b1), (12, I J q)]) (fun kk => fun q u => fN X c d (eU p0 p2 p1 k1) v kk q u = U r) (fun _ _ H => ?_) (fun k2 e0 q u H => ?_) be (0) (t) (H)) (ss [7, 0, 1, 2, 3, 4, 5, 6] z z) (sb z)
      ·unfold fN at H
       exact absurd H (by simp)
      ·unfold fN at H
       refine ak <| sR <| aa [.p, .p, .lenS 31 3 aP, .p] z <| nQ <| cI H z (fun H => ?_) (fun H => ?_)
       ·exact ar <| ax <| ak <| az <| qA 12 cj (by kernel_rfl) <| aa [.p, .p, .p, .p] z <| bE H fun e1 b2 H => bo (e := eI) (xs := u) (j := q) z z z z z aP ty3 z (ap (e := ae eI 3) (r := 5) z) b2 (by rw [Nat.mul_one]) <| o1 z (aD z z ty3 (bD (ap (e := ae eI 3) (r := 5) z) b2)) <| oPP z <| bE H fun e2 b3 H => bo (e := eI) (xs := X) (j := q) z z z z z aP ty3 z (ap (e := ae eI 3) (r := 0) z) b3 (by rw [Nat.mul_one]) <| o1 z (aD z z ty3 (bD (ap (e := ae eI 3) (r := 0) z) b3)) <| oP z <| bE H fun h9 b4 H => bo (e := eI) (xs := u) (j := q) z z z z z aP ty3 z (ap (e := ae eI 3) (r := 5) z) b4 (by rw [Nat.mul_one]) <| cC <| jN (i := 5) (j := q) z z z z z z ty3 z b4 (fun _ => z) kp <| ay <| cd <| ax <| aW <| aa [.p, .p, .p] z <| ay <| cD (RW.at (e0 (J.wrap (q + 1)) ((u.set q.toNat (J.wrap (e1 + e2)))) (H)) (ss [0, 1, 2, 3, 4, 5, 6, 7] z z) (sb z))
       ·refine bF <| aN <| aR <| aO <| ax <| sR <| oP z <| bE H fun i0 e3 H => oq z (qc z yE (fun f a => mD f e3 (ap (e := ae eI 3) (r := 0) z f a))) tt2 <| oP z <| nQ <| cI H z (fun H => ?_) (fun H => ?_)
        ·exact sR <| oPP z <| bE H fun a2 e4 H => oq z (qc z yE (fun f a => mD f e4 (ap (e := ae eI 3) (r := 0) z f a))) tt2 <| bQ (val := I J) (h1 := fun _ => z) [a2] [(0, [I J a2])] z z z z z aP ty3 z z z ⟨z, z, nl z, Y⟩ z z (fun _ => kp) fun i1 => bE H fun e5 b5 H => cm (r := 6) (ys := ([a2] : List Int)) z z z z z z aP ty3 z z z (ap (e := ae eI 3) (r := 8) z) b5 (fun _ _ _ => kp) fun e6 e7 e9 => ct z (fun f a => fh (i := 6) a z (ff b5)) fun c3 => oP z <| nQ <| aW <| oPP z <| bE H fun a3 f0 H => oq z (qc z DI (fun f a => pJ f f0 (ap (e := ae eI 3) (r := 0) z f a))) tt2 <| bQ (val := I J) (h1 := fun _ => z) [a3] [(0, [I J a3])] z z z z z aP ty3 z z z ⟨z, z, nl z, Y⟩ z z (fun _ => kp) fun i2 => bE H fun f1 b6 H => cm (r := 7) (ys := ([a3] : List Int)) z z z z z z aP ty3 z z z (ap (e := ae eI 3) (r := 9) z) b6 (fun _ _ _ => kp) fun f2 f3 f4 => ct z (fun f a => fh (i := 7) a z (ff b6)) fun c4 => oP z <| ay <| cd <| ax <| aW <| aa [.p, .p, .p] z <| ay <| cD (RW.at (a9 (J.wrap (v + 1)) (u) (e5) (e6) (e7) (e9) (f1) (f2) (f3) (f4) (⟨c3, c4, H⟩)) (ss [1, 2, 3, 4, 5, 6, 7] z z) (sb z))
        ·exact ar <| cd <| ax <| aW <| aa [.p, .p, .p] z <| ay <| cD (RW.at (a9 (J.wrap (v + 1)) (u) (c) (h) (m) (D) (d) (k) (o) (E) (⟨c0, c1, H⟩)) (ss [1, 2, 3, 4, 5, 6, 7] z z) (sb z))
     ·refine bF <| aN <| aR <| aO <| ax <| sR <| oP z <| bE H fun s f5 H => oq z (qc z yE (fun f a => mD f f5 (ap (e := ae eI 3) (r := 4) z f a))) tt2 <| oP z <| nQ <| ak <| sR <| oPP z <| nQ <| cI H z (fun H => ?_) (fun H => ?_)
      ·exact sR <| o1 z (bL [(0, [I J 0]), (1, [I J 1])] [I J 0, I J 1] z z cx sW z ⟨z, z, nl z, z, z, nl z, Y⟩ z) <| sC 0 [I J 0, I J 1] [_, _] 3 z cx z <| nT <| am <| bg (rs := [.cell 6 186]) (vs := [.agg #[I J 0, I J 1]]) z ⟨⟨_, [I J 0, I J 1], _, _, _, z, cx, (bB (T := 186) 0 (bX (i := 3) z) z), z, z⟩, Y⟩ (fun w' hw' => by
        obtain rfl := ai H
        exact ⟨z, hw'.ext⟩)
      ·refine ar <| ax <| sR <| oP z <| nQ <| ak <| sR <| oP z <| nQ <| az <| CW.at (hI (fun (g : Int) (G : Int) => St w [] [b A 186 [I J 0, I J 0], W (ae eI 3) [C] t [S (U ⟨C, 0, N⟩) l.length l.length], W (ae eI 3) D c [S h c.length m], W (ae eI 3) E d [S k d.length o]]) (fun g G => [(6, O (U ⟨A, 0, N⟩)), (7, S (U ⟨C, 0, N⟩) l.length l.length), (8, S h c.length m), (9, S k d.length o), (13, I J s), (14, I J g), (15, I J G)]) (fun kk => fun g G => iu c d s t kk g G = U r) (fun _ _ H => ?_) (fun k3 f6 g G H => ?_) be (1) (0) (H)) (ss [3, 4, 5, 6] z z) (sb z)
       ·unfold iu at H
        exact absurd H (by simp)
       ·unfold iu at H
        refine ak <| sR <| aa [.p, .p, .lenS 31 3 aP, .p] z <| nQ <| cI H z (fun H => ?_) (fun H => ?_)
        ·exact ar <| ax <| ak <| az <| aW <| aa [.p, .p, .p] z <| bE H fun f7 b7 H => bo (e := eI) (xs := c) (j := G) z z z z z aP ty3 z (ap (e := ae eI 3) (r := 2) z) b7 (by rw [Nat.mul_one]) <| o1 z (aD z z ty3 (bD (ap (e := ae eI 3) (r := 2) z) b7)) <| oPP z <| ay <| cd <| ax <| aW <| aa [.p, .p, .p] z <| ay <| cD (RW.at (f6 (J.wrap (g * f7)) (J.wrap (G + 1)) (H)) (ss [0, 1, 2, 3] z z) (sb z))
        ·refine bF <| aN <| aR <| aO <| ax <| sR <| oP z <| nQ <| ak <| sR <| oP z <| nQ <| az <| CW.at (hI (fun (x : Int) (F : Int) => St w [] [b A 186 [I J 0, I J 0], W (ae eI 3) [C] t [S (U ⟨C, 0, N⟩) l.length l.length], W (ae eI 3) D c [S h c.length m], W (ae eI 3) E d [S k d.length o]]) (fun x F => [(6, O (U ⟨A, 0, N⟩)), (7, S (U ⟨C, 0, N⟩) l.length l.length), (8, S h c.length m), (9, S k d.length o), (13, I J s), (14, I J g), (16, I J x), (17, I J F)]) (fun kk => fun x F => iv c d g s t kk x F = U r) (fun _ _ H => ?_) (fun k4 f8 x F H => ?_) be (0) (0) (H)) (ss [0, 1, 2, 3] z z) (sb z)
         ·unfold iv at H
          exact absurd H (by simp)
         ·unfold iv at H
          refine ak <| sR <| aa [.p, .p, .lenS 31 3 aP, .p] z <| nQ <| cI H z (fun H => ?_) (fun H => ?_)
          ·exact ar <| ax <| ak <| az <| dW cj (by kernel_rfl) <| aa [.p, .p, .p] z <| bE H fun f9 b8 H => bo (e := eI) (xs := d) (j := F) z z z z z aP ty3 z (ap (e := ae eI 3) (r := 3) z) b8 (by rw [Nat.mul_one]) <| o1 z (aD z z ty3 (bD (ap (e := ae eI 3) (r := 3) z) b8)) <| aa [.p, .p, .p, .p, .p] z <| bE H fun i3 b9 H => bo (e := eI) (xs := c) (j := F) z z z z z aP ty3 z (ap (e := ae eI 3) (r := 2) z) b9 (by rw [Nat.mul_one]) <| o1 z (aD z z ty3 (bD (ap (e := ae eI 3) (r := 2) z) b9)) <| bE H fun g2 g3 H => o1 z (xN z z z g3) <| aa [.p, .p, .p] z <| cC <| cd <| ax <| aW <| aa [.p, .p, .p] z <| ay <| cD (RW.at (f8 (J.wrap (x + (J.wrap ((J.wrap (f9 * s)) * g2)))) (J.wrap (F + 1)) (H)) (ss [0, 1, 2, 3] z z) (sb z))
          ·exact bF <| aN <| aR <| aO <| ax <| sR <| oPP z <| bE H fun a4 g4 H => oq z (qc z DI (fun f a => pJ f g4 (ap (e := ae eI 3) (r := 1) z f a))) tt2 <| aa [.p, .p, .p, .p] z <| nR <| aa [.p, .p, .p, .p, .p, .p] z <| o1 z (bL [(0, [I J (J.wrap (x - (J.wrap (a4 * g))))]), (1, [I J (J.wrap ((J.wrap (s * s)) * g))])] [I J (J.wrap (x - (J.wrap (a4 * g)))), I J (J.wrap ((J.wrap (s * s)) * g))] z z cx sW z ⟨z, z, nl z, z, z, nl z, Y⟩ z) <| bE H fun L g5 H => oq z (qc z EU (fun f a => tr f (p0 := (bd.mk (J.wrap (x - (J.wrap (a4 * g)))) (J.wrap ((J.wrap (s * s)) * g)))) g5)) tt2 <| sC 0 [I J L.D_, I J L.C_] [_, _] 0 z cx z <| nT <| bg (rs := [.cell 6 186]) (vs := [.agg #[I J L.D_, I J L.C_]]) z ⟨⟨_, [I J L.D_, I J L.C_], _, _, _, z, cx, (bB (T := 186) 0 (bX (i := 0) z) z), z, z⟩, Y⟩ (fun w' hw' => by
            obtain rfl := ai H
            exact ⟨z, hw'.ext⟩)
  ·clear H
   have H := a8
   clear a8
   generalize ((!a1) || ((p1.d_.length : Int) == 0)) = g9 at H key ⊢
   cases g9
   ·have H := ba z H
    refine o1 z (rx 0 0 _ z cg z) <| o1 z (rx 0 2 _ z cM z) <| bE H fun i8 h0 H => oq z (qc z xE (fun f a => gK f (p1 := p2) h0 (af (ad Z f a) (ad a0 f a)))) tt2 <| oP z <| oP z <| ?_
    obtain rfl := ai H
    exact OW.sub key (sb z)
   ·have H := aZ z H
    refine aa [.p, .p, .p, .p, .p] z ?_
    obtain rfl := ai H
    exact OW.sub key (sb z)
 ·generalize (!a1) = h2 at key ⊢
  cases h2
  ·exact aa [.fa 69 1 1 eE] z <| o1 z (r1 1 1 z kq z) <| aa [.lenS 67 31 iR, .p] z <| oP z <| OW.sub key (sb z)
  ·exact aa [.p, .p, .p, .p, .p] z <| OW.sub key (sb z)
theorem qZ (w : World) {k : List Nat} {p0 : Int} {r : (List Int) × Bool} (H : mO p0 = U r) (HS : St w k [] w) :
    Calls Tryz.prog 199 #[I J p0] w (fun en w' => ∃ v, en = .returned v ∧ ∃ (o : Option Addr), ∃ (q : Nat), ∃ (c0 : Nat), ∃ (C : List Nat), v = .tuple #[S o q c0, B r.2] ∧ St w k [W (ae eI 3) C r.1 [S o q c0]] w') := by
 unfold mO at H
 refine aH Tryz.func199 z Tryz.ntmps199 z (HS) <| sR <| oPP z <| nR <| ce (e := eI) z z z z aP ty3 (fun _ => kp) fun g => oP z <| nQ <| ak <| sR <| oPP z <| nQ <| cI H z (fun H => ?_) (fun H => ?_)
 ·exact sR <| aa [.p, .p, .p] z <| nT <| am <| bg (rs := [.tmp 2, .tmp 3]) (vs := [S (U ⟨g, 0, N⟩) 0 0, B n]) z ⟨z, z, Y⟩ (fun w' hw' => by
   obtain rfl := ai H
   exact ⟨_, z, (U ⟨g, 0, N⟩), 0, 0, [g], z, hw'.sel [0] z z⟩)
 ·refine ar <| ax <| ak <| az <| CW.at (iX (fun (a : Int) (c : List Int) (d : Option Addr) (f : Nat) (h : List Nat) => St w k [W (ae eI 3) h c [S d c.length f]]) (fun a c d f h => [(0, I J a), (4, S d c.length f)]) (fun kk => fun a c d f h => d.isNone = n ∧ iB kk a c = U r) (fun _ _ _ _ _ H => ?_) (fun F l a c d f h ⟨D, H⟩ => ?_) be (p0) (([] : List Int)) ((U ⟨g, 0, N⟩)) (0) ([g]) (⟨z, H⟩)) (ss [0] z z) (sb z)
  ·unfold iB at H
   exact absurd H (by simp)
  ·unfold iB at H
   refine ak <| sR <| oPP z <| nQ <| cI H z (fun H => ?_) (fun H => ?_)
   ·exact ar <| ax <| az <| sR <| aa [.p, .p, .p] z <| bQ (val := I J) (h1 := fun _ => z) [Int.tmod a 16777216] [(0, [I J (Int.tmod a 16777216)])] z z z z z aP ty3 z z z ⟨z, z, nl z, Y⟩ z z (fun _ => kp) fun E => bE H fun s j H => cm (r := 0) (ys := ([Int.tmod a 16777216] : List Int)) z z z z z z aP ty3 z z z (ap (e := ae eI 3) (r := 1) z) j (fun _ _ _ => kp) fun t u x => ct z (fun G A => fh (i := 0) A z (ff j)) fun m => oP z <| nQ <| aW <| aa [.p, .p, .p] z <| ay <| cd <| cD (RW.at (l (J.wrap (Int.tdiv a 16777216)) (s) (t) (u) (x) (⟨m, H⟩)) (ss [0] z z) (sb z))
   ·exact bF <| aN <| aR <| aO <| ax <| sR <| aa [.p, .p, .p] z <| nT <| bg (rs := [.tmp 2, .tmp 3]) (vs := [S d c.length f, B y]) z ⟨z, z, Y⟩ (fun w' hw' => by
     obtain rfl := ai H
     exact ⟨_, z, d, c.length, f, h, z, hw'.sel [0] z z⟩)
theorem kn (w : World) {p0 : List Int} {a_0 : Option Addr} {n_0 c_0 : Nat} {r : Bool} (H : jr p0 = U r) (c : (ae eI 3).rd w [] p0 [S a_0 n_0 c_0]) :
    Calls Tryz.prog 196 #[S a_0 n_0 c_0] w (fun en w' => en = .returned (B r) ∧ Ext [] w w') := by
 obtain rfl := fM c
 unfold jr at H
 refine aH Tryz.func196 z Tryz.ntmps196 z (St.init w []) <| sR <| oP z <| nQ <| ak <| sR <| aa [.p, .lenS 31 3 aP, .p] z <| nQ <| cI H z (fun H => ?_) (fun H => ?_)
 ·exact sR <| oP z <| nT <| am <| xr 2 z (by cases H; exact q1)
 ·refine ar <| ax <| ak <| sR <| oP z <| nQ <| az <| CW.at (fG (fun (a : Int) => St w [] []) (fun a => [(0, S a_0 p0.length c_0), (3, I J a)]) (fun kk => fun a => fO p0 kk a = U r) (fun _ H => ?_) (fun u h a H => ?_) be (0) (H)) (ss [] z z) (sb z)
  ·unfold fO at H
   exact absurd H (by simp)
  ·unfold fO at H
   refine ak <| sR <| aa [.p, .p, .lenS 31 3 aP, .p] z <| nQ <| cI H z (fun H => ?_) (fun H => ?_)
   ·refine ar <| ax <| ak <| az <| sR <| oPP z <| bE H fun o f H => bo (e := eI) (xs := p0) (j := a) z z z z z aP ty3 z (ad c) f (by rw [Nat.mul_one]) <| o1 z (aD z z ty3 (bD (ad c) f)) <| bE H fun q i H => oq z (qc z iF (fun m s => bl m i)) tt2 <| oP z <| nQ <| cI H z (fun H => ?_) (fun H => ?_)
    ·exact sR <| oP z <| nT <| aL <| am <| bU <| aL <| am <| xr 2 z (by cases H; exact q1)
    ·exact ar <| cd <| ax <| aW <| aa [.p, .p, .p] z <| ay <| cD (RW.at (h (J.wrap (a + 1)) (H)) (ss [] z z) (sb z))
   ·refine bF <| aN <| aR <| aO <| ax <| sR <| aa [.p, .lenS 31 3 aP, .p, .p] z <| bE H fun k d H => aS [(30, B k)] 8 ?_ (fun key => OW.sub (R := [(0, S a_0 p0.length c_0), (22, B ((p0.length : Int) == 0))]) ?_ (sb z))
    ·exact oP z <| nT <| xr 2 z (by cases H; exact q1)
    ·clear H
     have H := d
     clear d
     generalize ((p0.length : Int) == 0) = l at H key ⊢
     cases l
     ·have H := ba z H
      refine aa [.p, .p, .lenS 31 3 aP, .p] z <| bE H fun t g H => bo (e := eI) (xs := p0) (j := J.wrap ((p0.length : Int) - 1)) z z z z z aP ty3 z (ad c) g (by rw [Nat.mul_one]) <| o1 z (aD z z ty3 (bD (ad c) g)) <| oP z <| oP z <| ?_
      obtain rfl := ai H
      exact OW.sub key ⟨z, Y⟩
     ·have H := aZ z H
      refine aa [.p, .p, .p, .p, .p, .p, .p, .p] z ?_
      obtain rfl := ai H
      exact OW.sub key ⟨z, Y⟩
theorem pU (w : World) {d : List Nat} {p0 : List Int} {a_0 : Option Addr} {n_0 c_0 : Nat} {r : List Int} (H : lM p0 = U r) (HS : St w d [] w) (h : (ae eI 3).rd w d p0 [S a_0 n_0 c_0]) :
    Calls Tryz.prog 201 #[S a_0 n_0 c_0] w (fun en w' => ∃ v, en = .returned v ∧ ∃ (q : Option Addr), ∃ (s : Nat), ∃ (c0 : Nat), ∃ (F : List Nat), v = S q s c0 ∧ St w d [W (ae eI 3) F r [S q s c0]] w') := by
 obtain rfl := fM h
 unfold lM at H
 refine aH Tryz.func201 z Tryz.ntmps201 z (HS) <| sR <| oP z <| nR <| aa [.p, .lenS 31 3 aP, .p] z <| nQ <| ak <| az <| CW.at (fG (fun (a : Int) => St w d []) (fun a => [(0, S a_0 p0.length c_0), (3, I J a)]) (fun kk => fun a => gW p0 kk a = U r) (fun _ H => ?_) (fun P o a H => ?_) be ((p0.length : Int)) (H)) (ss [] z z) (sb z)
 ·unfold gW at H
  exact absurd H (by simp)
 ·unfold gW at H
  refine ak <| sR <| aa [.p, .p, .p] z <| bE H fun t f H => aS [(15, B t), (0, S a_0 p0.length c_0), (3, I J a)] 7 ?_ (fun key => OW.sub (R := [(0, S a_0 p0.length c_0), (3, I J a), (8, B (decide (a > 0)))]) ?_ (sb z))
  ·refine nQ <| cI H z (fun H => ?_) (fun H => ?_)
   ·exact ar <| ax <| az <| aW <| aa [.p, .p, .p] z <| ay <| cd <| cD (RW.at (o (J.wrap (a - 1)) (H)) (ss [] z z) (sb z))
   ·refine bF <| aN <| aR <| aO <| ax <| sR <| ce (e := eI) z z z z aP ty3 (fun _ => kp) fun G => oPP z <| bE H fun g u H => yR z z z z aP ty3 z z z u h fun L c => ?_
    obtain ⟨x, A, rfl⟩ := DA c
    have c : (ae eI 3).rd w d g [S x g.length A] := c
    exact bE H fun i C H => cm (r := 0) (ys := g) z z z z z z aP ty3 z z z (ad c) C (fun _ _ _ => kp) fun k l D => oP z <| nT <| bg (rs := [.tmp 2]) (vs := [S k i.length l]) z ⟨z, Y⟩ (fun w' hw' => by
     obtain rfl := ai H
     exact ⟨_, z, k, i.length, l, D, z, hw'.sel [0] z z⟩)
  ·clear H
   have H := f
   clear f
   generalize (decide (a > 0)) = E at H key ⊢
   cases E
   ·have H := ba z H
    refine aa [.p, .p, .p, .p, .p, .p, .p] z ?_
    obtain rfl := ai H
    exact OW.sub key (sb z)
   ·have H := aZ z H
    refine aa [.p, .p, .p] z <| bE H fun M m H => bo (e := eI) (xs := p0) (j := J.wrap (a - 1)) z z z z z aP ty3 z (ad h) m (by rw [Nat.mul_one]) <| o1 z (aD z z ty3 (bD (ad h) m)) <| oP z <| oP z <| ?_
    obtain rfl := ai H
    exact OW.sub key (sb z)
theorem kA (w : World) {o : List Nat} {p0 : List Int} {p1 : List Int} {a_0 : Option Addr} {n_0 c_0 : Nat} {a_1 : Option Addr} {n_1 c_1 : Nat} {r : (List Int) × Bool} (H : ji p0 p1 = U r) (HS : St w o [] w) (Z : (ae eI 3).rd w o p0 [S a_0 n_0 c_0]) (g1 : (ae eI 3).rd w o p1 [S a_1 n_1 c_1]) :
    Calls Tryz.prog 190 #[S a_0 n_0 c_0, S a_1 n_1 c_1] w (fun en w' => ∃ v, en = .returned v ∧ ∃ (a0 : Option Addr), ∃ (n0 : Nat), ∃ (c0 : Nat), ∃ (F0 : List Nat), v = .tuple #[S a0 n0 c0, B r.2] ∧ St w o [W (ae eI 3) F0 r.1 [S a0 n0 c0]] w') := by
 obtain rfl := fM Z
 obtain rfl := fM g1
 unfold ji at H
 refine aH Tryz.func190 z Tryz.ntmps190 z (HS) <| sR <| oPP z <| nQ <| ak <| sR <| oP z <| bE H fun a3 b1 H => oq z (qc z vF (fun m h => kn m b1 (ad Z m h))) tt2 <| oPP z <| bE H fun b2 t H => aS [(18, B b2), (0, S a_0 p0.length c_0), (1, S a_1 p1.length c_1)] 4 ?_ (fun key => OW.sub (R := [(0, S a_0 p0.length c_0), (1, S a_1 p1.length c_1), (14, B (!a3))]) ?_ (sb z))
 ·refine nQ <| cI H z (fun H => ?_) (fun H => ?_)
  ·exact sR <| ce (e := eI) z z z z aP ty3 (fun _ => kp) fun u => oPP z <| nT <| am <| bg (rs := [.tmp 4, .tmp 5]) (vs := [S (U ⟨u, 0, N⟩) 0 0, B n]) z ⟨z, z, Y⟩ (fun w' hw' => by
    obtain rfl := ai H
    exact ⟨_, z, (U ⟨u, 0, N⟩), 0, 0, [u], z, hw'.sel [0] z z⟩)
  ·refine ar <| ax <| sR <| aa [.p, .lenS 31 3 aP, .p, .lenS 31 3 aP, .p, .p] z <| bE H fun g b3 H => qI (e := eI) (zero := (0 : Int)) z z z z z z aP ty3 z z z z (fun _ => ⟨z, z⟩) b3 (fun _ => kp) fun k => oP z <| nQ <| ak <| sR <| oP z <| nQ <| az <| CW.at (hI (fun (l : List Int) (a : Int) => St w o [W (ae eI 3) [k] l [S (U ⟨k, 0, N⟩) g.length g.length]]) (fun l a => [(0, S a_0 p0.length c_0), (1, S a_1 p1.length c_1), (6, S (U ⟨k, 0, N⟩) g.length g.length), (7, I J a)]) (fun kk => fun l a => fu p0 p1 kk l a = U r) (fun _ _ H => ?_) (fun k1 a4 l a H => ?_) be (g) (0) (H)) (ss [0] z z) (sb z)
   ·unfold fu at H
    exact absurd H (by simp)
   ·unfold fu at H
    refine ak <| sR <| aa [.p, .p, .lenS 31 3 aP, .p] z <| nQ <| cI H z (fun H => ?_) (fun H => ?_)
    ·refine ar <| ax <| ak <| az <| sR <| oP z <| nQ <| ak <| sR <| oP z <| nQ <| az <| CW.at (AV (fun (c : List Int) (f : Int) (d : Int) => St w o [W (ae eI 3) [k] c [S (U ⟨k, 0, N⟩) g.length g.length]]) (fun c f d => [(0, S a_0 p0.length c_0), (1, S a_1 p1.length c_1), (6, S (U ⟨k, 0, N⟩) g.length g.length), (7, I J a), (8, I J f), (9, I J d)]) (fun kk => fun c f d => fx p1 a p0 (fu p0 p1 k1) kk c f d = U r) (fun _ _ _ H => ?_) (fun k2 a5 c f d H => ?_) be (l) (0) (0) (H)) (ss [0] z z) (sb z)
     ·unfold fx at H
      exact absurd H (by simp)
     ·unfold fx at H
      refine ak <| sR <| aa [.p, .p, .lenS 31 3 aP, .p] z <| nQ <| cI H z (fun H => ?_) (fun H => ?_)
      ·exact ar <| ax <| ak <| az <| ak <| dW cj (by kernel_rfl) <| aa [.p, .p, .p, .p] z <| bE H fun x A H => bo (e := eI) (xs := c) (j := J.wrap (a + d)) z z z z z aP ty3 z (ap (e := ae eI 3) (r := 0) z) A (by rw [Nat.mul_one]) <| o1 z (aD z z ty3 (bD (ap (e := ae eI 3) (r := 0) z) A)) <| oPP z <| bE H fun C D H => bo (e := eI) (xs := p0) (j := a) z z z z z aP ty3 z (ad Z) D (by rw [Nat.mul_one]) <| o1 z (aD z z ty3 (bD (ad Z) D)) <| oPP z <| bE H fun E F H => bo (e := eI) (xs := p1) (j := d) z z z z z aP ty3 z (ad g1) F (by rw [Nat.mul_one]) <| o1 z (aD z z ty3 (bD (ad g1) F)) <| aa [.p, .p, .p, .p, .p] z <| cC <| ax <| sR <| aa [.p, .p, .p, .p, .p, .p] z <| bE H fun b8 G H => bo (e := eI) (xs := c) (j := J.wrap (a + d)) z z z z z aP ty3 z (ap (e := ae eI 3) (r := 0) z) G (by rw [Nat.mul_one]) <| jN (i := 0) (j := J.wrap (a + d)) z z z z z z ty3 z G (fun _ => z) kp <| nQ <| aW <| aa [.p, .p, .p] z <| ay <| cd <| ax <| aW <| aa [.p, .p, .p] z <| ay <| cD (RW.at (a5 ((c.set (J.wrap (a + d)).toNat (Int.tmod (J.wrap ((J.wrap (x + (J.wrap (C * E)))) + f)) 16777216))) (J.wrap (Int.tdiv (J.wrap ((J.wrap (x + (J.wrap (C * E)))) + f)) 16777216)) (J.wrap (d + 1)) (H)) (ss [0] z z) (sb z))
      ·exact bF <| aN <| aR <| aO <| ax <| aW <| aa [.p, .p, .p, .lenS 31 3 aP, .p, .p, .p, .p, .lenS 31 3 aP, .p] z <| bE H fun a6 L H => bo (e := eI) (xs := c) (j := J.wrap (a + (p1.length : Int))) z z z z z aP ty3 z (ap (e := ae eI 3) (r := 0) z) L (by rw [Nat.mul_one]) <| o1 z (aD z z ty3 (bD (ap (e := ae eI 3) (r := 0) z) L)) <| oPP z <| bE H fun b9 M H => bo (e := eI) (xs := c) (j := J.wrap (a + (p1.length : Int))) z z z z z aP ty3 z (ap (e := ae eI 3) (r := 0) z) M (by rw [Nat.mul_one]) <| jN (i := 0) (j := J.wrap (a + (p1.length : Int))) z z z z z z ty3 z M (fun _ => z) kp <| ay <| cd <| ax <| aW <| aa [.p, .p, .p] z <| ay <| cD (RW.at (a4 ((c.set (J.wrap (a + (p1.length : Int))).toNat (J.wrap (a6 + f)))) (J.wrap (a + 1)) (H)) (ss [0] z z) (sb z))
    ·refine bF <| aN <| aR <| aO <| ax <| sR <| oP z <| bE H fun P a7 H => au z Do z z z z (fun m h => pU m a7 (h.carve [] z z) (ap (e := ae eI 3) (r := 0) z m h)) fun c1 m w2 h a2 => ?_
     obtain ⟨Q, c2, X, a8, rfl, s⟩ := a2
     obtain rfl := aI (i := 0) s z
     refine ⟨St w o [_, _], h.comp [] z z s, fun _ _ => Y, ?_⟩
     refine oP z <| nQ <| ak <| sR <| aa [.p, .lenS 31 3 aP, .p] z <| nQ <| cI H z (fun H => ?_) (fun H => ?_)
     ·exact sR <| ce (e := eI) z z z z aP ty3 (fun _ => kp) fun q => oPP z <| nT <| am <| bg (rs := [.tmp 4, .tmp 5]) (vs := [S (U ⟨q, 0, N⟩) 0 0, B n]) z ⟨z, z, Y⟩ (fun w' hw' => by
       obtain rfl := ai H
       exact ⟨_, z, (U ⟨q, 0, N⟩), 0, 0, [q], z, hw'.sel [2] z z⟩)
     ·exact ar <| ax <| sR <| aa [.p, .p, .p] z <| nT <| bg (rs := [.tmp 4, .tmp 5]) (vs := [S Q P.length X, B y]) z ⟨z, z, Y⟩ (fun w' hw' => by
       obtain rfl := ai H
       exact ⟨_, z, Q, P.length, X, a8, z, hw'.sel [1] z z⟩)
 ·clear H
  have H := t
  clear t
  generalize (!a3) = b4 at H key ⊢
  cases b4
  ·have H := ba z H
   refine oP z <| bE H fun c3 b5 H => oq z (qc z vF (fun m h => kn m b5 (ad g1 m h))) tt2 <| oP z <| oP z <| ?_
   obtain rfl := ai H
   exact OW.sub key (sb z)
  ·have H := aZ z H
   refine aa [.p, .p, .p, .p] z ?_
   obtain rfl := ai H
   exact OW.sub key (sb z)
theorem hY (w : World) {d : List Nat} {p0 : Int} {p1 : Int} {r : List Int} (H : fS p0 p1 = U r) (HS : St w d [] w) :
    Calls Tryz.prog 188 #[I J p0, I J p1] w (fun en w' => ∃ v, en = .returned v ∧ ∃ (s : Option Addr), ∃ (t : Nat), ∃ (c0 : Nat), ∃ (E : List Nat), v = S s t c0 ∧ St w d [W (ae eI 3) E r [S s t c0]] w') := by
 unfold fS at H
 refine aH Tryz.func188 z Tryz.ntmps188 z (HS) <| sR <| oP z <| nR <| oP z <| bE H fun F u H => au z Dr z z z z (fun c a => qZ c u (a.carve [] z z)) fun G c x a m => ?_
 obtain ⟨L, M, P, Q, rfl, f⟩ := m
 obtain rfl := aI (i := 0) f z
 refine ⟨St w d [_], a.comp [] z z f, fun _ _ => Y, ?_⟩
 refine aa [.p, .p, .p, .p, .p] z <| nR <| oP z <| bE H fun R A H => au z Dr z z z z (fun c a => qZ c A (a.carve [] z z)) fun X c x a o => ?_
 obtain ⟨Z, a1, a2, a3, rfl, g⟩ := o
 obtain rfl := aI (i := 0) g z
 refine ⟨St w d [_, _], a.comp [] z z g, fun _ _ => Y, ?_⟩
 refine aa [.p, .p, .p, .p, .p] z <| nR <| oPP z <| bE H fun j C H => au z xb z z z z (fun c a => kA c C (a.carve [] z z) (ap (e := ae eI 3) (r := 0) z c a) (ap (e := ae eI 3) (r := 1) z c a)) fun a4 c x a q => ?_
 obtain ⟨k, a5, l, D, rfl, h⟩ := q
 obtain rfl := aI (i := 0) h z
 refine ⟨St w d [_, _, _], a.comp [] z z h, fun _ _ => Y, ?_⟩
 exact aa [.p, .p, .p, .p, .p] z <| nR <| oPP z <| nT <| bg (rs := [.tmp 4]) (vs := [S k j.1.length l]) z ⟨z, Y⟩ (fun w' hw' => by
  obtain rfl := ai H
  exact ⟨_, z, k, j.1.length, l, D, z, hw'.sel [2] z z⟩)
theorem vg (w : World) {p0 : Int} {p1 : Int} {r : Int} (H : ol p0 p1 = U r)   :
    Calls Tryz.prog 197 #[I J p0, I J p1] w (fun en w' => en = .returned (I J r) ∧ Ext [] w w') := by
 unfold ol at H
 refine aH Tryz.func197 z Tryz.ntmps197 z (St.init w []) <| sR <| oP z <| nQ <| ak <| sR <| aa [.p, .p, .p] z <| nQ <| cI H z (fun H => ?_) (fun H => ?_)
 ·exact sR <| oPP z <| nT <| am <| xr 4 z (by cases H; exact q1)
 ·exact ar <| ax <| sR <| oPP z <| nT <| xr 4 z (by cases H; exact q1)
theorem ov (w : World) {p0 : List Int} {p1 : Int} {a_0 : Option Addr} {n_0 c_0 : Nat} {r : Int} (H : kz p0 p1 = U r) (c : (ae eI 3).rd w [] p0 [S a_0 n_0 c_0]) :
    Calls Tryz.prog 198 #[S a_0 n_0 c_0, I J p1] w (fun en w' => en = .returned (I J r) ∧ Ext [] w w') := by
 obtain rfl := fM c
 unfold kz at H
 refine aH Tryz.func198 z Tryz.ntmps198 z (St.init w []) <| sR <| oP z <| nQ <| ak <| sR <| aa [.p, .p, .lenS 31 3 aP, .p] z <| nQ <| cI H z (fun H => ?_) (fun H => ?_)
 ·exact sR <| oPP z <| bE H fun d a H => bo (e := eI) (xs := p0) (j := p1) z z z z z aP ty3 z (ad c) a (by rw [Nat.mul_one]) <| o1 z (aD z z ty3 (bD (ad c) a)) <| oP z <| nT <| am <| xr 4 z (by cases H; exact q1)
 ·exact ar <| ax <| sR <| oP z <| nT <| xr 4 z (by cases H; exact q1)
theorem nX (w : World) {p0 : List Int} {p1 : List Int} {a_0 : Option Addr} {n_0 c_0 : Nat} {a_1 : Option Addr} {n_1 c_1 : Nat} {r : Int} (H : kC p0 p1 = U r) (g : (ae eI 3).rd w [] p0 [S a_0 n_0 c_0]) (h : (ae eI 3).rd w [] p1 [S a_1 n_1 c_1]) :
    Calls Tryz.prog 187 #[S a_0 n_0 c_0, S a_1 n_1 c_1] w (fun en w' => en = .returned (I J r) ∧ Ext [] w w') := by
 obtain rfl := fM g
 obtain rfl := fM h
 unfold kC at H
 refine aH Tryz.func187 z Tryz.ntmps187 z (St.init w []) <| sR <| oP z <| nQ <| ak <| sR <| oP z <| bE H fun f j H => oq z (qc z vF (fun a c => kn a j (ad g a c))) tt2 <| oPP z <| bE H fun k e H => aS [(15, B k), (0, S a_0 p0.length c_0), (1, S a_1 p1.length c_1)] 4 ?_ (fun key => OW.sub (R := [(0, S a_0 p0.length c_0), (1, S a_1 p1.length c_1), (11, B (!f))]) ?_ (sb z))
 ·refine nQ <| cI H z (fun H => ?_) (fun H => ?_)
  ·exact sR <| oP z <| nT <| am <| xr 4 z (by cases H; exact q1)
  ·refine ar <| ax <| ak <| sR <| aa [.p, .lenS 31 3 aP, .p, .lenS 31 3 aP] z <| bE H fun l m H => oq z (qc z FL (fun a c => vg a m)) tt2 <| oPP z <| nQ <| az <| CW.at (fG (fun (d : Int) => St w [] []) (fun d => [(0, S a_0 p0.length c_0), (1, S a_1 p1.length c_1), (5, I J d)]) (fun kk => fun d => gU p0 p1 kk d = U r) (fun _ H => ?_) (fun A i d H => ?_) be (J.wrap (l - 1)) (H)) (ss [] z z) (sb z)
   ·unfold gU at H
    exact absurd H (by simp)
   ·unfold gU at H
    refine ak <| sR <| oPP z <| nQ <| cI H z (fun H => ?_) (fun H => ?_)
    ·refine ar <| ax <| ak <| az <| sR <| oPP z <| bE H fun u o H => oq z (qc z BI (fun a c => ov a o (ad g a c))) tt2 <| oP z <| nR <| oPP z <| bE H fun v q H => oq z (qc z BI (fun a c => ov a q (ad h a c))) tt2 <| oP z <| nQ <| ak <| sR <| aa [.p, .p, .p] z <| nQ <| cI H z (fun H => ?_) (fun H => ?_)
     ·exact sR <| oP z <| nT <| am <| aL <| am <| bU <| aL <| am <| xr 4 z (by cases H; exact q1)
     ·refine ar <| ax <| sR <| aa [.p, .p, .p] z <| nQ <| cI H z (fun H => ?_) (fun H => ?_)
      ·exact sR <| oP z <| nT <| aL <| am <| bU <| aL <| am <| xr 4 z (by cases H; exact q1)
      ·exact ar <| cd <| ax <| aW <| aa [.p, .p, .p] z <| ay <| cD (RW.at (i (J.wrap (d - 1)) (H)) (ss [] z z) (sb z))
    ·exact bF <| aN <| aR <| aO <| ax <| sR <| oP z <| nT <| xr 4 z (by cases H; exact q1)
 ·clear H
  have H := e
  clear e
  generalize (!f) = s at H key ⊢
  cases s
  ·have H := ba z H
   refine oP z <| bE H fun x t H => oq z (qc z vF (fun a c => kn a t (ad h a c))) tt2 <| oP z <| oP z <| ?_
   obtain rfl := ai H
   exact OW.sub key (sb z)
  ·have H := aZ z H
   refine aa [.p, .p, .p, .p] z ?_
   obtain rfl := ai H
   exact OW.sub key (sb z)
theorem kl (w : World) {p0 : bd} {p1 : bd} {r : Int} (H : im p0 p1 = U r)   :
    Calls Tryz.prog 172 #[.agg #[I J p0.D_, I J p0.C_], .agg #[I J p1.D_, I J p1.C_]] w (fun en w' => en = .returned (I J r) ∧ Ext [] w w') := by
 unfold im at H
 refine aH Tryz.func172 z Tryz.ntmps172 z (St.init w []) <| sR <| ob _ z fun d => ob _ z fun f => oP z <| nQ <| ak <| sR <| o1 z (rx 0 0 _ z cx z) <| bE H fun k o H => oq z (qc z vI (fun c a => jK c (p0 := p0) o)) tt2 <| oPP z <| bE H fun q g H => aS [(12, B q), (2, O (U ⟨d, 0, N⟩)), (3, O (U ⟨f, 0, N⟩))] 4 ?_ (fun key => OW.sub (R := [(2, O (U ⟨d, 0, N⟩)), (3, O (U ⟨f, 0, N⟩)), (8, B (!k))]) ?_ (sb z))
 ·refine nQ <| cI H z (fun H => ?_) (fun H => ?_)
  ·exact sR <| oP z <| nT <| am <| xr 4 z (by cases H; exact q1)
  ·refine ar <| ax <| ak <| dj 9 [(0, y), (1, y), (2, y), (3, y), (5, y), (6, y), (7, y), (8, y), (4, n)] (St w [] [b d 186 [I J p0.D_, I J p0.C_], b f 186 [I J p1.D_, I J p1.C_]]) cj (by kernel_rfl) (aX bn) (tk 2 z) <| aa [.fa 186 0 0 nD] z <| bu z (aw z) (r1 0 0 z ty3 z) <| aa [.fa 186 1 1 mS] z <| bu z (aw z) (r1 1 1 z ty3 z) <| aa [.fa 186 0 0 nD] z <| bu z (aw z) (r1 0 1 z ty3 z) <| aa [.fa 186 1 1 mS] z <| bu z (aw z) (r1 1 0 z ty3 z) <| bE H fun C s H => au z ui z z z z (fun c a => hY c s (a.carve [] z z)) fun D c A a l => ?_
   obtain ⟨E, F, G, L, rfl, h⟩ := l
   obtain rfl := aI (i := 0) h z
   refine ⟨St w [] [_, _, _], a.comp [] z z h, (tk 2 z), ?_⟩
   refine aQ <| kd <| bE H fun M t H => au z ui z z z z (fun c a => hY c t (a.carve [] z z)) fun P c A a m => ?_
   obtain ⟨Q, X, Z, a0, rfl, j⟩ := m
   obtain rfl := aI (i := 0) j z
   refine ⟨St w [] [_, _, _, _], a.comp [] z z j, fun _ _ => Y, ?_⟩
   exact bE H fun a1 u H => oq z (qc z Bm (fun c a => nX c u (ap (e := ae eI 3) (r := 2) z c a) (ap (e := ae eI 3) (r := 3) z c a))) tt2 <| oP z <| nT <| xr 4 z (by cases H; exact q1)
 ·clear H
  have H := g
  clear g
  generalize (!k) = v at H key ⊢
  cases v
  ·have H := ba z H
   refine o1 z (rx 0 1 _ z cx z) <| bE H fun a2 x H => oq z (qc z vI (fun c a => jK c (p0 := p1) x)) tt2 <| oP z <| oP z <| ?_
   obtain rfl := ai H
   exact OW.sub key (sb z)
  ·have H := aZ z H
   refine aa [.p, .p, .p, .p] z ?_
   obtain rfl := ai H
   exact OW.sub key (sb z)
theorem kD (w : World) {p0 : ab} {p1 : av} {p2 : Int} {p3 : Bool} {b7 : List Value} {b8 : List Value} {r : aq × bd} (H : nj p0 p1 p2 p3 = U r) (g0 : (aJ).rd w [] p0 b7) (g1 : (cu).rd w [] p1 b8) :
    Calls Tryz.prog 184 #[.agg b7.toArray, .agg b8.toArray, I J p2, B p3] w (fun en w' => en = .returned (.tuple #[.agg #[I J r.1.j_, I J r.1.c_], .agg #[I J r.2.D_, I J r.2.C_]]) ∧ Ext [] w w') := by
 obtain ⟨d6, d7, rfl, E, F⟩ := aB g0
 obtain ⟨a1, a2, rfl⟩ := aj E
 obtain ⟨a3, a4, rfl⟩ := aj F
 obtain ⟨d8, d9, rfl, X, Z⟩ := aK g1
 obtain ⟨a5, a6, rfl⟩ := aj X
 obtain ⟨a7, a8, rfl⟩ := aj Z
 unfold nj at H
 refine aH Tryz.func184 z Tryz.ntmps184 z (St.init w []) <| sR <| ob _ z fun t => ob _ z fun u => aA z z z z cM (fun _ => kp) fun x => aA z z z z cx (fun _ => kp) fun v => nQ <| ak <| sR <| o1 z (rx 0 0 _ z cg z) <| o1 z (rx 0 1 _ z cT z) <| bE H fun a0 c4 H => oq z (qc z vR (fun c a => fB c c4 (af (ad E c a) (ad F c a)) (aF (ad X c a) (ad Z c a)))) tt2 <| oPP z <| aS [(24, B ((!a0) || ((p1.d_.length : Int) == 0))), (2, I J p2), (3, B p3), (4, O (U ⟨t, 0, N⟩)), (5, O (U ⟨u, 0, N⟩)), (8, O (U ⟨x, 0, N⟩)), (9, O (U ⟨v, 0, N⟩))] 5 ?_ (fun key => OW.sub (R := [(2, I J p2), (3, B p3), (4, O (U ⟨t, 0, N⟩)), (5, O (U ⟨u, 0, N⟩)), (8, O (U ⟨x, 0, N⟩)), (9, O (U ⟨v, 0, N⟩)), (19, B (!a0))]) ?_ (sb z))
 ·refine oP z <| bE H fun c5 b1 H => aS [(33, B c5), (2, I J p2), (3, B p3), (4, O (U ⟨t, 0, N⟩)), (5, O (U ⟨u, 0, N⟩)), (8, O (U ⟨x, 0, N⟩)), (9, O (U ⟨v, 0, N⟩))] 8 ?_ (fun key => OW.sub (R := [(2, I J p2), (3, B p3), (4, O (U ⟨t, 0, N⟩)), (5, O (U ⟨u, 0, N⟩)), (8, O (U ⟨x, 0, N⟩)), (9, O (U ⟨v, 0, N⟩)), (25, B ((!a0) || ((p1.d_.length : Int) == 0)))]) ?_ (sb z))
  ·refine nQ <| cI H z (fun H => ?_) (fun H => ?_)
   ·exact sR <| o1 z (bL [] [I J 0, I J 0] z z cM wE z Y z) <| o1 z (bL [] [I J 0, I J 0] z z cx sW z Y z) <| sC 0 [I J 0, I J 0] [_, _] 2 z cM z <| sC 0 [I J 0, I J 0] [_, _] 3 z cx z <| nT <| am <| bg (rs := [.cell 8 66, .cell 9 186]) (vs := [.agg #[I J 0, I J 0], .agg #[I J 0, I J 0]]) z ⟨⟨_, [I J 0, I J 0], _, _, _, z, cM, (bB (T := 66) 0 (bX (i := 2) z) z), z, z⟩, ⟨_, [I J 0, I J 0], _, _, _, z, cx, (bB (T := 186) 0 (bX (i := 3) z) z), z, z⟩, Y⟩ (fun w' hw' => by
     obtain rfl := ai H
     exact ⟨z, hw'.ext⟩)
   ·refine ar <| ax <| sR <| o1 z (rx 0 0 _ z cg z) <| oP z <| bQ (val := I J) (h1 := fun _ => z) [p2] [(0, [I J p2])] z z z z z aP ty3 z z z ⟨z, z, nl z, Y⟩ z z (fun _ => kp) fun e0 => oP z <| bE H fun d c6 H => au z EJ z z z z (fun c a => rj c c6 (a.carve [] z z) (af (ad E c a) (ad F c a)) (ap (e := ae eI 3) (r := 4) z c a)) fun e1 c w2 a c0 => ?_
    obtain ⟨G, e2, L, a9, rfl, b2⟩ := c0
    obtain rfl := aI (i := 0) b2 z
    refine ⟨St w [] [_, _, _, _, _, _], a.comp [] z z b2, fun _ _ => Y, ?_⟩
    refine oP z <| nR <| oP z <| bE H fun C b9 H => bo (e := bH) (xs := d) (j := 0) z z z z z nW cM z (fun c a => ap (e := ae (bH) 66) (r := 5) z c a) b9 z <| o1 z (cA (cs := [I J C.j_, I J C.c_]) z z cM (oc (oB (fun c a => ap (e := ae (bH) 66) (r := 5) z c a) b9 (fun _ _ h => h)) z) z) <| aA z z z z cM (fun _ => kp) fun M => sC 0 [I J C.j_, I J C.c_] [_, _] 6 z cM z <| nR <| o1 z (rx 0 0 _ z cg z) <| o1 z (rx 0 1 _ z cT z) <| o1 z (rx 0 6 _ z cM z) <| bE H fun b0 c7 H => oq z (qc z AN (fun c a => oS c (p2 := C) c7 (af (ad E c a) (ad F c a)) (aF (ad X c a) (ad Z c a)))) tt2 <| aA z z z z cx (fun _ => kp) fun P => sC 0 [I J b0.D_, I J b0.C_] [_, _] 7 z cx z <| nQ <| ak <| sR <| oP z <| nQ <| az <| CW.at (iX (fun (k : Int) (l : Int) (f : Int) (g : Int) (m : Int) => St w [] [W (ae (bH) 66) a9 d [S G d.length L], b M 66 [I J k, I J l], b P 186 [I J f, I J g], b t 27 [S a1 p0.b_.length a2, S a3 p0.l_.length a4], b u 69 [S a5 p1.e_.length a6, S a7 p1.d_.length a8], b x 66 [I J 0, I J 0], b v 186 [I J 0, I J 0]]) (fun k l f g m => [(4, O (U ⟨t, 0, N⟩)), (5, O (U ⟨u, 0, N⟩)), (8, O (U ⟨x, 0, N⟩)), (9, O (U ⟨v, 0, N⟩)), (10, S G d.length L), (11, O (U ⟨M, 0, N⟩)), (12, O (U ⟨P, 0, N⟩)), (13, I J m)]) (fun kk => fun k l f g m => fX d p0 p1 kk k l f g m = U r) (fun _ _ _ _ _ H => ?_) (fun k1 b3 k l f g m H => ?_) be (C.j_) (C.c_) (b0.D_) (b0.C_) (1) (H)) (ss [5, 6, 7, 0, 1, 2, 3] z z) (sb z)
    ·unfold fX at H
     exact absurd H (by simp)
    ·unfold fX at H
     refine ak <| sR <| aa [.p, .p, .lenS 155 66 nW, .p] z <| nQ <| cI H z (fun H => ?_) (fun H => ?_)
     ·refine ar <| ax <| ak <| az <| wx (fun (D : Nat) (o : Int) (q : Int) => St w [] [W (ae (bH) 66) a9 d [S G d.length L], b M 66 [I J k, I J l], b P 186 [I J f, I J g], b D 186 [I J o, I J q], b t 27 [S a1 p0.b_.length a2, S a3 p0.l_.length a4], b u 69 [S a5 p1.e_.length a6, S a7 p1.d_.length a8], b x 66 [I J 0, I J 0], b v 186 [I J 0, I J 0]]) (fun D o q => [(4, O (U ⟨t, 0, N⟩)), (5, O (U ⟨u, 0, N⟩)), (8, O (U ⟨x, 0, N⟩)), (9, O (U ⟨v, 0, N⟩)), (10, S G d.length L), (11, O (U ⟨M, 0, N⟩)), (12, O (U ⟨P, 0, N⟩)), (13, I J m), (14, O (U ⟨D, 0, N⟩))]) (fun D o q => mv f g d m (fX d p0 p1 k1) k l o q = U r) (fun D o q H => ?_) (fun J1 => ?_)
      ·unfold mv at H
       refine sR <| o1 z (rx 0 3 _ z cx z) <| o1 z (rx 0 2 _ z cx z) <| bE H fun d5 c1 H => oq z (qc z wU (fun c a => kl c (p0 := (bd.mk o q)) (p1 := (bd.mk f g)) c1)) tt2 <| oP z <| nQ <| cI H z (fun H => ?_) (fun H => ?_)
       ·exact sR <| oPP z <| bE H fun A b4 H => bo (e := bH) (xs := d) (j := m) z z z z z nW cM z (fun c a => ap (e := ae (bH) 66) (r := 0) z c a) b4 z <| o1 z (cA (cs := [I J A.j_, I J A.c_]) z z cM (oc (oB (fun c a => ap (e := ae (bH) 66) (r := 0) z c a) b4 (fun _ _ h => h)) z) z) <| sC 0 [I J A.j_, I J A.c_] [_, _] 1 z cM z <| nQ <| aW <| o1 z (rx 0 3 _ z cx z) <| sC 0 [I J o, I J q] [_, _] 2 z cx z <| ay <| cd <| ax <| aW <| aa [.p, .p, .p] z <| ay <| cD (RW.at (b3 (A.j_) (A.c_) (o) (q) (J.wrap (m + 1)) (H)) (ss [0, 1, 2, 4, 5, 6, 7] z z) (sb z))
       ·exact ar <| cd <| ax <| aW <| aa [.p, .p, .p] z <| ay <| cD (RW.at (b3 (k) (l) (f) (g) (J.wrap (m + 1)) (H)) (ss [0, 1, 2, 4, 5, 6, 7] z z) (sb z))
      ·refine bE H fun Q b5 H => bE H fun s b6 H => qw 8 [(0, y), (1, y), (2, y), (3, y), (4, y), (5, y)] (Br.alt 6 (Br.pre [(7, n)] Br.done) (Br.pre [(7, n), (6, n)] Br.done)) (St w [] [W (ae (bH) 66) a9 d [S G d.length L], b M 66 [I J k, I J l], b P 186 [I J f, I J g], b t 27 [S a1 p0.b_.length a2, S a3 p0.l_.length a4], b u 69 [S a5 p1.e_.length a6, S a7 p1.d_.length a8], b x 66 [I J 0, I J 0], b v 186 [I J 0, I J 0]]) cj (by kernel_rfl) (aX (bv (aX (dI (bv (aX bn)))))) (tk 7 z) <| bu z (aw z) (rx 0 3 _ z cg z) <| bu z (aw z) (rx 0 4 _ z cT z) <| oPP z <| bo (e := bH) (xs := d) (j := m) z z z z z nW cM z (fun c a => ap (e := ae (bH) 66) (r := 0) z c a) b5 z <| bu z (aw z) (cA (cs := [I J Q.j_, I J Q.c_]) z z cM (oc (oB (fun c a => ap (e := ae (bH) 66) (r := 0) z c a) b5 (fun _ _ h => h)) z) z) <| aQ <| eM (tk 7 z) z ?_ ?_
       ·exact oq z (qc z AN (fun c a => oS c (p2 := Q) b6 (af (ad E c a) (ad F c a)) (aF (ad X c a) (ad Z c a)))) (tk 7 z) <| aA z z z z cx (fun _ => (tk 7 z)) fun c2 => aQ <| cR <| sC 0 [I J s.D_, I J s.C_] [_, _] 7 z cx z <| ay <| XW.at (J1 (c2) (s.D_) (s.C_) (H)) (ss [0, 1, 2, 7, 3, 4, 5, 6] z z) (sb z)
       exact dM (tk 7 z) z <| aA z z z z cx (fun _ => (tk 7 z)) fun c3 => oq z (qc z AN (fun c a => oS c (p2 := Q) b6 (af (ad E c a) (ad F c a)) (aF (ad X c a) (ad Z c a)))) (tk 7 z) <| aQ <| cR <| sC 0 [I J s.D_, I J s.C_] [_, _] 7 z cx z <| ay <| XW.at (J1 (c3) (s.D_) (s.C_) (H)) (ss [0, 1, 2, 7, 3, 4, 5, 6] z z) (sb z)
     ·exact bF <| aN <| aR <| aO <| ax <| ak <| dj 3 [(0, y), (1, y), (2, n)] (St w [] [W (ae (bH) 66) a9 d [S G d.length L], b M 66 [I J k, I J l], b P 186 [I J f, I J g], b t 27 [S a1 p0.b_.length a2, S a3 p0.l_.length a4], b u 69 [S a5 p1.e_.length a6, S a7 p1.d_.length a8], Res.nil, b v 186 [I J 0, I J 0]]) cj (by kernel_rfl) (aX bn) (sm [y, y, y, y, y, n, y] z) <| bu z (aw z) (rx 0 1 _ z cM z) <| bu z (aw z) (rx 0 2 _ z cx z) <| bq (off := 0) [I J k, I J l] [_, _] (i := 5) z z z z z z cM z z (al z) z z z (sm [y, y, y, y, y, n, y] z) <| aQ <| kd <| sC 0 [I J f, I J g] [_, _] 6 z cx z <| nT <| bg (rs := [.cell 8 66, .cell 9 186]) (vs := [.agg #[I J k, I J l], .agg #[I J f, I J g]]) z ⟨⟨_, [I J k, I J l], _, _, _, z, cM, (bB (T := 66) 0 (bX (i := 5) z) z), z, z⟩, ⟨_, [I J f, I J g], _, _, _, z, cx, (bB (T := 186) 0 (bX (i := 6) z) z), z, z⟩, Y⟩ (fun w' hw' => by
       obtain rfl := ai H
       exact ⟨z, hw'.ext⟩)
  ·clear H
   have H := b1
   clear b1
   generalize ((!a0) || ((p1.d_.length : Int) == 0)) = c9 at H key ⊢
   cases c9
   ·have H := ba z H
    refine aa [.p, .fa 27 0 0 cY] z <| o1 z (r1 0 0 z hZ z) <| aa [.lenS 24 63 gD, .p] z <| bE H fun e3 d0 H => oq z (qc z iF (fun c a => bl c d0)) tt2 <| oP z <| oP z <| ?_
    obtain rfl := ai H
    exact OW.sub key (sb z)
   ·have H := aZ z H
    refine aa [.p, .p, .p, .p, .p, .p, .p, .p] z ?_
    obtain rfl := ai H
    exact OW.sub key (sb z)
 ·generalize (!a0) = d1 at key ⊢
  cases d1
  ·exact aa [.fa 69 1 1 eE] z <| o1 z (r1 1 1 z kq z) <| aa [.lenS 67 31 iR, .p] z <| oP z <| OW.sub key (sb z)
  ·exact aa [.p, .p, .p, .p, .p] z <| OW.sub key (sb z)
end Go.Vk
