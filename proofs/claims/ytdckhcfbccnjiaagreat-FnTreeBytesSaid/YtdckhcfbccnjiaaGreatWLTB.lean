/- The code does what the functions of data say. Printed by program. -/
import Derived.Test.YtdckhcfbccnjiaaGreatWLTA
namespace Go.Vk
open Value renaming int → I, slice → S, pointer → O, bool → B
open IntKind renaming i64 → J, u8 → K
open Bool renaming true → y, false → n
open Option renaming some → U, none → N
open Res renaming box → b, own → W
open Go.Proofs Go.RowKit
set_option maxHeartbeats 4000000
set_option maxRecDepth 100000
theorem kE (w : World) {p0 : ae} {p1 : ai} {b9 : List Value} {c0 : List Value} {r : Bool} (H : jn p0 p1 = U r) (g0 : (bk).rd w [] p0 b9) (g1 : (cW).rd w [] p1 c0) :
    Calls Tryz.prog 96 #[.agg b9.toArray, .agg c0.toArray] w (fun en w' => en = .returned (B r) ∧ Ext [] w w') := by
 obtain ⟨l3, l4, rfl, m, o⟩ := aX g0
 obtain ⟨g4, g5, rfl⟩ := ao m
 obtain ⟨g6, g7, rfl⟩ := ao o
 obtain ⟨l5, l6, rfl, q, g8⟩ := cr g1
 obtain ⟨g9, h0, rfl⟩ := ao q
 obtain rfl := g8
 unfold jn at H
 refine aN Tryz.func96 z Tryz.ntmps96 z (St.init w []) <| sR <| ob _ z fun e => ob _ z fun f => oP z <| nQ <| am <| sR <| o1 z (rx 0 0 _ z cV z) <| bE H fun c1 h1 H => oq z (qc z zV (fun i h => iS i h1 (ah (ab m i h) (ab o i h)))) tt2 <| oPP z <| bE H fun C D H => aV [(17, B C), (2, O (U ⟨e, 0, N⟩)), (3, O (U ⟨f, 0, N⟩))] 6 ?_ (fun key => OW.sub (R := [(2, O (U ⟨e, 0, N⟩)), (3, O (U ⟨f, 0, N⟩)), (11, B (!c1))]) ?_ (sb z))
 ·refine oP z <| bE H fun h2 E H => aV [(23, B h2), (2, O (U ⟨e, 0, N⟩)), (3, O (U ⟨f, 0, N⟩))] 5 ?_ (fun key => OW.sub (R := [(2, O (U ⟨e, 0, N⟩)), (3, O (U ⟨f, 0, N⟩)), (18, B C)]) ?_ (sb z))
  ·refine nQ <| cI H z (fun H => ?_) (fun H => ?_)
   ·exact sR <| oP z <| nT <| aq <| xr 4 z (by cases H; exact q1)
   ·refine av <| az <| am <| sR <| oP z <| nQ <| ay <| CW.at (gF (fun (d : Int) => St w [] [b e 73 [S g4 p0.f_.length g5, S g6 p0.n_.length g7], b f 26 [S g9 p1.a_.length h0, I J p1.g_]]) (fun d => [(2, O (U ⟨e, 0, N⟩)), (3, O (U ⟨f, 0, N⟩)), (5, I J d)]) (fun kk => fun d => dE p1 p0 kk d = U r) (fun _ H => ?_) (fun k1 F d H => ?_) aY (0) (H)) (ss [0, 1] z z) (sb z)
    ·unfold dE at H
     exact absurd H (by simp)
    ·unfold dE at H
     refine am <| sR <| aa [.p, .fa 26 0 0 bR] z <| o1 z (r1 0 1 z ec z) <| aa [.lenS 24 60 dW, .p] z <| nQ <| cI H z (fun H => ?_) (fun H => ?_)
     ·refine av <| az <| am <| ay <| sR <| aa [.fa 26 0 0 bR] z <| o1 z (r1 0 1 z ec z) <| oP z <| bE H fun a c2 H => cf z z z z z dW bZ z q c2 fun h9 i0 b5 b6 => ?_
      obtain ⟨i1, i2, i3, i4, i5, i6, i7, i8, i9, j0, rfl, c3, c4, G, c5, c6, c7, L, c8, c9, d0⟩ := bo b5
      obtain rfl := c3
      obtain rfl := c4
      obtain ⟨M, P, rfl⟩ := ao G
      obtain rfl := c5
      obtain ⟨j1, j2, rfl, Q, X⟩ := aS c6
      obtain ⟨Z, a0, rfl⟩ := ao Q
      obtain ⟨a1, a2, rfl⟩ := ao X
      obtain rfl := c7
      obtain ⟨a3, a4, rfl⟩ := ao L
      obtain rfl := c8
      obtain rfl := c9
      obtain rfl := d0
      refine o1 z (dk (cs := [B a.s_, I J a.k_.j_, I J a.k_.c_, S M a.t_.length P, I J a.x_, S Z a.m_.d_.length a0, S a1 a.m_.b_.length a2, I J a.v_, S a3 a.f_.length a4, I J a.l_, I J a.p_, I J a.q_]) z z bZ (ce bor b6) z) <| aB z z z z bZ (fun _ => kp) fun g => sC 0 [B a.s_, I J a.k_.j_, I J a.k_.c_, S M a.t_.length P, I J a.x_, S Z a.m_.d_.length a0, S a1 a.m_.b_.length a2, I J a.v_, S a3 a.f_.length a4, I J a.l_, I J a.p_, I J a.q_] [_, _, _, _, _, _, _, _, _, _, _, _] 2 z bZ z <| nQ <| am <| sR <| aa [.fa 60 7 9 ky] z <| o1 z (r1 9 2 z ty3 z) <| bE H fun a5 d1 H => oq z (qc z gN (fun i h => be i d1)) tt2 <| oPP z <| bE H fun d2 s H => aV [(47, B d2), (2, O (U ⟨e, 0, N⟩)), (3, O (U ⟨f, 0, N⟩)), (5, I J d), (6, O (U ⟨g, 0, N⟩))] 7 ?_ (fun key => OW.sub (R := [(2, O (U ⟨e, 0, N⟩)), (3, O (U ⟨f, 0, N⟩)), (5, I J d), (6, O (U ⟨g, 0, N⟩)), (40, B (!a5))]) ?_ (sb z))
      ·refine nQ <| cI H z (fun H => ?_) (fun H => ?_)
       ·exact sR <| oP z <| nT <| aq <| ba <| aq <| cd <| ba <| aq <| xr 4 z (by cases H; exact q1)
       ·refine av <| az <| am <| sR <| aa [.fa 60 0 0 mw] z <| o1 z (r1 0 2 z ty4 z) <| oP z <| bE H fun l t H => aV [(55, B l), (2, O (U ⟨e, 0, N⟩)), (3, O (U ⟨f, 0, N⟩)), (5, I J d), (6, O (U ⟨g, 0, N⟩))] 5 ?_ (fun key => OW.sub (R := [(2, O (U ⟨e, 0, N⟩)), (3, O (U ⟨f, 0, N⟩)), (5, I J d), (6, O (U ⟨g, 0, N⟩)), (50, B a.s_)]) ?_ (sb z))
        ·refine oP z <| bE H fun d3 u H => aV [(67, B d3), (2, O (U ⟨e, 0, N⟩)), (3, O (U ⟨f, 0, N⟩)), (5, I J d), (6, O (U ⟨g, 0, N⟩))] 11 ?_ (fun key => OW.sub (R := [(2, O (U ⟨e, 0, N⟩)), (3, O (U ⟨f, 0, N⟩)), (5, I J d), (6, O (U ⟨g, 0, N⟩)), (56, B l)]) ?_ (sb z))
         ·refine nQ <| cI H z (fun H => ?_) (fun H => ?_)
          ·exact sR <| oP z <| nT <| aq <| ba <| aq <| cd <| ba <| aq <| xr 4 z (by cases H; exact q1)
          ·refine av <| az <| am <| sR <| oPP z <| nQ <| cI H z (fun H => ?_) (fun H => ?_)
           ·refine am <| sR <| aa [.fa 60 8 10 nw] z <| o1 z (r1 10 2 z ty3 z) <| oPP z <| aV [(77, B ((a.p_ != (-1)) || (a.l_ != 0))), (2, O (U ⟨e, 0, N⟩)), (3, O (U ⟨f, 0, N⟩)), (5, I J d), (6, O (U ⟨g, 0, N⟩))] 4 ?_ (fun key => OW.sub (R := [(2, O (U ⟨e, 0, N⟩)), (3, O (U ⟨f, 0, N⟩)), (5, I J d), (6, O (U ⟨g, 0, N⟩)), (73, B (a.p_ != (-1)))]) ?_ (sb z))
            ·refine oP z <| aV [(82, B (((a.p_ != (-1)) || (a.l_ != 0)) || (a.q_ != 0))), (2, O (U ⟨e, 0, N⟩)), (3, O (U ⟨f, 0, N⟩)), (5, I J d)] 4 ?_ (fun key => OW.sub (R := [(2, O (U ⟨e, 0, N⟩)), (3, O (U ⟨f, 0, N⟩)), (5, I J d), (6, O (U ⟨g, 0, N⟩)), (78, B ((a.p_ != (-1)) || (a.l_ != 0)))]) ?_ (sb z))
             ·refine nQ <| cI H z (fun H => ?_) (fun H => ?_)
              ·exact sR <| oP z <| nT <| aq <| aq <| ba <| aq <| cd <| ba <| aq <| xr 4 z (by cases H; exact q1)
              ·exact av <| az <| bx <| aK <| aL <| az <| aP <| aa [.p, .p, .p] z <| ax <| ct (RW.at (F (J.wrap (d + 1)) (H)) (ss [0, 1] z z) (sb z))
             ·generalize ((a.p_ != (-1)) || (a.l_ != 0)) = d4 at key ⊢
              cases d4
              ·exact aa [.fa 60 9 11 nx] z <| o1 z (r1 11 2 z ty3 z) <| oP z <| oP z <| OW.sub key (sb z)
              ·exact aa [.p, .p, .p, .p] z <| OW.sub key (sb z)
            ·generalize (a.p_ != (-1)) = d5 at key ⊢
             cases d5
             ·exact aa [.fa 60 7 9 ky] z <| o1 z (r1 9 2 z ty3 z) <| oP z <| oP z <| OW.sub key (sb z)
             ·exact aa [.p, .p, .p, .p] z <| OW.sub key (sb z)
           ·refine av <| az <| am <| sR <| aa [.fa 60 8 10 nw] z <| o1 z (r1 10 2 z ty3 z) <| oPP z <| bE H fun j3 d6 H => oq z (qc z gN (fun i h => be i d6)) tt2 <| oP z <| nQ <| cI H z (fun H => ?_) (fun H => ?_)
            ·exact sR <| oP z <| nT <| aq <| ba <| aq <| cd <| ba <| aq <| xr 4 z (by cases H; exact q1)
            ·refine av <| az <| sR <| aa [.fa 26 0 0 bR] z <| o1 z (r1 0 1 z ec z) <| aa [.fa 60 8 10 nw] z <| o1 z (r1 10 2 z ty3 z) <| bE H fun c d7 H => cf z z z z z dW bZ z q d7 fun j4 j5 b7 b8 => ?_
             obtain ⟨j6, j7, j8, j9, k0, k2, k3, k4, k5, k6, rfl, d8, d9, a6, e0, e1, e2, e3, e4, e5, e6⟩ := bo b7
             obtain rfl := d8
             obtain rfl := d9
             obtain ⟨a7, a8, rfl⟩ := ao a6
             obtain rfl := e0
             obtain ⟨k7, k8, rfl, e7, e9⟩ := aS e1
             obtain ⟨a9, b0, rfl⟩ := ao e7
             obtain ⟨b1, b2, rfl⟩ := ao e9
             obtain rfl := e2
             obtain ⟨b3, b4, rfl⟩ := ao e3
             obtain rfl := e4
             obtain rfl := e5
             obtain rfl := e6
             refine o1 z (dk (cs := [B c.s_, I J c.k_.j_, I J c.k_.c_, S a7 c.t_.length a8, I J c.x_, S a9 c.m_.d_.length b0, S b1 c.m_.b_.length b2, I J c.v_, S b3 c.f_.length b4, I J c.l_, I J c.p_, I J c.q_]) z z bZ (ce bor b8) z) <| aB z z z z bZ (fun _ => kp) fun k => sC 0 [B c.s_, I J c.k_.j_, I J c.k_.c_, S a7 c.t_.length a8, I J c.x_, S a9 c.m_.d_.length b0, S b1 c.m_.b_.length b2, I J c.v_, S b3 c.f_.length b4, I J c.l_, I J c.p_, I J c.q_] [_, _, _, _, _, _, _, _, _, _, _, _] 3 z bZ z <| nR <| aa [.fa 60 0 0 mw] z <| o1 z (r1 0 3 z ty4 z) <| oP z <| bE H fun j v H => aV [(103, B j), (2, O (U ⟨e, 0, N⟩)), (3, O (U ⟨f, 0, N⟩)), (5, I J d), (6, O (U ⟨g, 0, N⟩)), (7, O (U ⟨k, 0, N⟩))] 6 ?_ (fun key => OW.sub (R := [(2, O (U ⟨e, 0, N⟩)), (3, O (U ⟨f, 0, N⟩)), (5, I J d), (6, O (U ⟨g, 0, N⟩)), (7, O (U ⟨k, 0, N⟩)), (97, B c.s_)]) ?_ (sb z))
             ·refine oP z <| aV [(111, B (j || ((J.wrap (c.l_ + 1)) != a.l_))), (2, O (U ⟨e, 0, N⟩)), (3, O (U ⟨f, 0, N⟩)), (5, I J d), (6, O (U ⟨g, 0, N⟩)), (7, O (U ⟨k, 0, N⟩))] 7 ?_ (fun key => OW.sub (R := [(2, O (U ⟨e, 0, N⟩)), (3, O (U ⟨f, 0, N⟩)), (5, I J d), (6, O (U ⟨g, 0, N⟩)), (7, O (U ⟨k, 0, N⟩)), (104, B j)]) ?_ (sb z))
              ·refine oP z <| aV [(118, B ((j || ((J.wrap (c.l_ + 1)) != a.l_)) || (decide (c.q_ > a.q_)))), (2, O (U ⟨e, 0, N⟩)), (3, O (U ⟨f, 0, N⟩)), (5, I J d)] 6 ?_ (fun key => OW.sub (R := [(2, O (U ⟨e, 0, N⟩)), (3, O (U ⟨f, 0, N⟩)), (5, I J d), (6, O (U ⟨g, 0, N⟩)), (7, O (U ⟨k, 0, N⟩)), (112, B (j || ((J.wrap (c.l_ + 1)) != a.l_)))]) ?_ (sb z))
               ·refine nQ <| cI H z (fun H => ?_) (fun H => ?_)
                ·exact sR <| oP z <| nT <| ba <| aq <| cd <| ba <| aq <| xr 4 z (by cases H; exact q1)
                ·exact av <| bW <| az <| aP <| aa [.p, .p, .p] z <| ax <| ct (RW.at (F (J.wrap (d + 1)) (H)) (ss [0, 1] z z) (sb z))
               ·generalize (j || ((J.wrap (c.l_ + 1)) != a.l_)) = f0 at key ⊢
                cases f0
                ·exact aa [.fa 60 9 11 nx] z <| o1 z (r1 11 3 z ty3 z) <| aa [.fa 60 9 11 nx] z <| o1 z (r1 11 2 z ty3 z) <| oP z <| oP z <| OW.sub key (sb z)
                ·exact aa [.p, .p, .p, .p, .p, .p] z <| OW.sub key (sb z)
              ·generalize j = f1 at key ⊢
               cases f1
               ·exact aa [.fa 60 7 9 ky] z <| o1 z (r1 9 3 z ty3 z) <| aa [.p, .fa 60 7 9 ky] z <| o1 z (r1 9 2 z ty3 z) <| oP z <| oP z <| OW.sub key (sb z)
               ·exact aa [.p, .p, .p, .p, .p, .p, .p] z <| OW.sub key (sb z)
             ·clear H
              have H := v
              clear v
              generalize c.s_ = f2 at H key ⊢
              cases f2
              ·have H := bh z H
               refine aa [.fa 60 2 3 iX] z <| o1 z (r1 3 3 z bG z) <| oP z <| bE H fun k9 f3 H => oq z (qc z EY (fun i h => sX i f3 (ab a6 i h))) tt2 <| oP z <| oP z <| ?_
               obtain rfl := af H
               exact OW.sub key (sb z)
              ·have H := bi z H
               refine aa [.p, .p, .p, .p, .p, .p] z ?_
               obtain rfl := af H
               exact OW.sub key (sb z)
         ·clear H
          have H := u
          clear u
          generalize l = f4 at H key ⊢
          cases f4
          ·have H := bh z H
           refine aa [.fa 60 0 0 mw] z <| o1 z (r1 0 2 z ty4 z) <| oPP z <| bE H fun f5 A H => aV [(66, B f5), (2, O (U ⟨e, 0, N⟩)), (3, O (U ⟨f, 0, N⟩)), (5, I J d), (6, O (U ⟨g, 0, N⟩)), (56, B n)] 6 ?_ (fun key => OW.sub (R := [(2, O (U ⟨e, 0, N⟩)), (3, O (U ⟨f, 0, N⟩)), (5, I J d), (6, O (U ⟨g, 0, N⟩)), (56, B n), (60, B (!a.s_))]) ?_ (sb z))
           ·refine aa [.p] z ?_
            obtain rfl := af H
            exact OW.sub key (sb z)
           ·clear H
            have H := A
            clear A
            generalize (!a.s_) = f6 at H key ⊢
            cases f6
            ·have H := bh z H
             refine aa [.p, .p, .p, .p, .p, .p] z ?_
             obtain rfl := af H
             exact OW.sub key (sb z)
            ·have H := bi z H
             refine o1 z (rx 0 0 _ z cV z) <| o1 z (rx 0 1 _ z br z) <| oP z <| bE H fun l0 f7 H => oq z (qc z EE (fun i h => sQ i f7 (ah (ab m i h) (ab o i h)) (aW (ab q i h) z))) tt2 <| oP z <| oP z <| ?_
             obtain rfl := af H
             exact OW.sub key (sb z)
          ·have H := bi z H
           refine aa [.p, .p, .p, .p, .p, .p, .p, .p, .p, .p, .p] z ?_
           obtain rfl := af H
           exact OW.sub key (sb z)
        ·clear H
         have H := t
         clear t
         generalize a.s_ = f8 at H key ⊢
         cases f8
         ·have H := bh z H
          refine aa [.p, .p, .p, .p, .p] z ?_
          obtain rfl := af H
          exact OW.sub key (sb z)
         ·have H := bi z H
          refine o1 z (rx 0 0 _ z cV z) <| o1 z (rx 0 2 _ z bZ z) <| bE H fun l1 f9 H => oq z (qc z Fk (fun i h => tK i f9 (ah (ab m i h) (ab o i h)) (fW (x := ({ a with s_ := y })) z z (ab G i h) z (aH (ab Q i h) (ab X i h)) z (ab L i h) z z z))) tt2 <| oP z <| oP z <| ?_
          obtain rfl := af H
          exact OW.sub key (sb z)
      ·clear H
       have H := s
       clear s
       generalize (!a5) = g2 at H key ⊢
       cases g2
       ·have H := bh z H
        refine aa [.fa 60 9 11 nx] z <| o1 z (r1 11 2 z ty3 z) <| aa [.fa 26 1 1 lH] z <| o1 z (r1 1 1 z ty3 z) <| bE H fun l2 g3 H => oq z (qc z gN (fun i h => be i g3)) tt2 <| oP z <| oP z <| ?_
        obtain rfl := af H
        exact OW.sub key (sb z)
       ·have H := bi z H
        refine aa [.p, .p, .p, .p, .p, .p, .p] z ?_
        obtain rfl := af H
        exact OW.sub key (sb z)
     ·exact bx <| aK <| aR <| aL <| az <| sR <| oP z <| nT <| xr 4 z (by cases H; exact q1)
  ·clear H
   have H := E
   clear E
   generalize C = h3 at H key ⊢
   cases h3
   ·have H := bh z H
    refine aa [.fa 26 1 1 lH] z <| o1 z (r1 1 1 z ty3 z) <| bE H fun l7 h4 H => oq z (qc z gN (fun i h => be i h4)) tt2 <| oP z <| oP z <| ?_
    obtain rfl := af H
    exact OW.sub key (sb z)
   ·have H := bi z H
    refine aa [.p, .p, .p, .p, .p] z ?_
    obtain rfl := af H
    exact OW.sub key (sb z)
 ·clear H
  have H := D
  clear D
  generalize (!c1) = h5 at H key ⊢
  cases h5
  ·have H := bh z H
   refine aa [.fa 26 0 0 bR] z <| o1 z (r1 0 1 z ec z) <| aa [.lenS 24 60 dW] z <| bE H fun l8 h6 H => oq z (qc z gN (fun i h => be i h6)) tt2 <| oP z <| oP z <| ?_
   obtain rfl := af H
   exact OW.sub key (sb z)
  ·have H := bi z H
   refine aa [.p, .p, .p, .p, .p, .p] z ?_
   obtain rfl := af H
   exact OW.sub key (sb z)
theorem nY (w : World) {p0 : cq} {r : Bool} (H : kG p0 = U r)   :
    Calls Tryz.prog 97 #[.agg #[I J p0.J_, I J p0.I_, I J p0.K_, I J p0.l_, I J p0.a_, I J p0.F_, B p0.G_]] w (fun en w' => en = .returned (B r) ∧ Ext [] w w') := by
 unfold kG at H
 refine aN Tryz.func97 z Tryz.ntmps97 z (St.init w []) <| sR <| ob _ z fun a => oP z <| nR <| aa [.fa 103 0 0 wr] z <| o1 z (r1 0 0 z ty3 z) <| bE H fun o q H => oq z (qc z gN (fun c d => be c q)) tt2 <| oP z <| bE H fun e f H => aV [(10, B e), (1, O (U ⟨a, 0, N⟩)), (2, B n)] 4 ?_ (fun key => OW.sub (R := [(1, O (U ⟨a, 0, N⟩)), (2, B n), (6, B o)]) ?_ (sb z))
 ·refine oP z <| bE H fun g h H => aV [(15, B g), (1, O (U ⟨a, 0, N⟩)), (2, B n)] 4 ?_ (fun key => OW.sub (R := [(1, O (U ⟨a, 0, N⟩)), (2, B n), (11, B e)]) ?_ (sb z))
  ·refine oP z <| bE H fun i j H => aV [(20, B i), (1, O (U ⟨a, 0, N⟩)), (2, B n)] 4 ?_ (fun key => OW.sub (R := [(1, O (U ⟨a, 0, N⟩)), (2, B n), (16, B g)]) ?_ (sb z))
   ·refine oP z <| bE H fun k l H => aV [(25, B k), (1, O (U ⟨a, 0, N⟩)), (2, B n)] 4 ?_ (fun key => OW.sub (R := [(1, O (U ⟨a, 0, N⟩)), (2, B n), (21, B i)]) ?_ (sb z))
    ·refine oP z <| bE H fun s m H => aV [(30, B s), (2, B n)] 4 ?_ (fun key => OW.sub (R := [(1, O (U ⟨a, 0, N⟩)), (2, B n), (26, B k)]) ?_ (sb z))
     ·exact oP z <| nT <| xr 2 z (by cases H; exact q1)
     ·clear H
      have H := m
      clear m
      generalize k = t at H key ⊢
      cases t
      ·have H := bh z H
       refine aa [.p, .p, .p, .p] z ?_
       obtain rfl := af H
       exact OW.sub key (sb z)
      ·have H := bi z H
       refine aa [.fa 103 5 5 sg] z <| o1 z (r1 5 0 z ty3 z) <| bE H fun L u H => oq z (qc z gN (fun c d => be c u)) tt2 <| oP z <| ?_
       obtain rfl := af H
       exact OW.sub key (sb z)
    ·clear H
     have H := l
     clear l
     generalize i = v at H key ⊢
     cases v
     ·have H := bh z H
      refine aa [.p, .p, .p, .p] z ?_
      obtain rfl := af H
      exact OW.sub key (sb z)
     ·have H := bi z H
      refine aa [.fa 103 4 4 xb] z <| o1 z (r1 4 0 z ty3 z) <| bE H fun M x H => oq z (qc z gN (fun c d => be c x)) tt2 <| oP z <| ?_
      obtain rfl := af H
      exact OW.sub key (sb z)
   ·clear H
    have H := j
    clear j
    generalize g = A at H key ⊢
    cases A
    ·have H := bh z H
     refine aa [.p, .p, .p, .p] z ?_
     obtain rfl := af H
     exact OW.sub key (sb z)
    ·have H := bi z H
     refine aa [.fa 103 3 3 xk] z <| o1 z (r1 3 0 z ty3 z) <| bE H fun P C H => oq z (qc z gN (fun c d => be c C)) tt2 <| oP z <| ?_
     obtain rfl := af H
     exact OW.sub key (sb z)
  ·clear H
   have H := h
   clear h
   generalize e = D at H key ⊢
   cases D
   ·have H := bh z H
    refine aa [.p, .p, .p, .p] z ?_
    obtain rfl := af H
    exact OW.sub key (sb z)
   ·have H := bi z H
    refine aa [.fa 103 2 2 zB] z <| o1 z (r1 2 0 z ty3 z) <| bE H fun Q E H => oq z (qc z gN (fun c d => be c E)) tt2 <| oP z <| ?_
    obtain rfl := af H
    exact OW.sub key (sb z)
 ·clear H
  have H := f
  clear f
  generalize o = F at H key ⊢
  cases F
  ·have H := bh z H
   refine aa [.p, .p, .p, .p] z ?_
   obtain rfl := af H
   exact OW.sub key (sb z)
  ·have H := bi z H
   refine aa [.fa 103 1 1 wR] z <| o1 z (r1 1 0 z ty3 z) <| bE H fun X G H => oq z (qc z gN (fun c d => be c G)) tt2 <| oP z <| ?_
   obtain rfl := af H
   exact OW.sub key (sb z)
theorem uh (w : World) {p0 : ai} {l : List Value} {r : Int} (H : mH p0 = U r) (g0 : (cW).rd w [] p0 l) :
    Calls Tryz.prog 98 #[.agg l.toArray] w (fun en w' => en = .returned (I J r) ∧ Ext [] w w') := by
 obtain ⟨f9, g1, rfl, f, a9⟩ := cr g0
 obtain ⟨b0, b1, rfl⟩ := ao f
 obtain rfl := a9
 unfold mH at H
 refine aN Tryz.func98 z Tryz.ntmps98 z (St.init w []) <| sR <| ob _ z fun d => oP z <| nR <| oP z <| nQ <| am <| sR <| oP z <| nQ <| ay <| CW.at (jH (fun (c : Int) (a : Int) => St w [] [b d 26 [S b0 p0.a_.length b1, I J p0.g_]]) (fun c a => [(1, O (U ⟨d, 0, N⟩)), (3, I J c), (4, I J a)]) (fun kk => fun c a => fB p0 kk c a = U r) (fun _ _ H => ?_) (fun k1 g c a H => ?_) aY (0) (0) (H)) (ss [0] z z) (sb z)
 ·unfold fB at H
  exact absurd H (by simp)
 ·unfold fB at H
  refine am <| sR <| aa [.p, .fa 26 0 0 bR] z <| o1 z (r1 0 0 z ec z) <| aa [.lenS 24 60 dW, .p] z <| nQ <| cI H z (fun H => ?_) (fun H => ?_)
  ·refine av <| az <| am <| ay <| sR <| aa [.p, .p, .p] z <| bE H fun m e H => aV [(23, B m), (1, O (U ⟨d, 0, N⟩)), (3, I J c), (4, I J a)] 9 ?_ (fun key => OW.sub (R := [(1, O (U ⟨d, 0, N⟩)), (3, I J c), (4, I J a), (14, B (a == 0))]) ?_ (sb z))
   ·refine nQ <| cI H z (fun H => ?_) (fun H => ?_)
    ·refine aP <| aa [.fa 26 0 0 bR] z <| o1 z (r1 0 0 z ec z) <| oP z <| bE H fun o q H => cf z z z z z dW bZ z f q fun b3 b4 h i => ?_
     obtain ⟨b5, b6, b7, b8, b9, c0, c1, c2, c3, c4, rfl, s, t, u, v, x, A, C, D, E, F⟩ := bo h
     obtain rfl := s
     obtain rfl := t
     obtain ⟨c5, c6, rfl⟩ := ao u
     obtain rfl := v
     obtain ⟨c7, c8, rfl, G, L⟩ := aS x
     obtain ⟨c9, d0, rfl⟩ := ao G
     obtain ⟨d1, d2, rfl⟩ := ao L
     obtain rfl := A
     obtain ⟨d3, d4, rfl⟩ := ao C
     obtain rfl := D
     obtain rfl := E
     obtain rfl := F
     exact aa [.fa 60 7 9 ky] z <| o1 z (aM z z ty3 (ce bor (ni i 9 1))) <| oP z <| ax <| bW <| az <| aP <| aa [.p, .p, .p] z <| ax <| ct (RW.at (g (o.l_) (J.wrap (a + 1)) (H)) (ss [0] z z) (sb z))
    ·exact av <| bW <| az <| aP <| aa [.p, .p, .p] z <| ax <| ct (RW.at (g (c) (J.wrap (a + 1)) (H)) (ss [0] z z) (sb z))
   ·clear H
    have H := e
    clear e
    generalize (a == 0) = M at H key ⊢
    cases M
    ·have H := bh z H
     refine aa [.fa 26 0 0 bR] z <| o1 z (r1 0 0 z ec z) <| oP z <| bE H fun d5 P H => cf z z z z z dW bZ z f P fun d6 d7 j k => ?_
     obtain ⟨d8, d9, e0, e1, e2, e3, e4, e5, e6, e7, rfl, Q, X, Z, a0, a1, a2, a3, a4, a5, a6⟩ := bo j
     obtain rfl := Q
     obtain rfl := X
     obtain ⟨e9, f0, rfl⟩ := ao Z
     obtain rfl := a0
     obtain ⟨f1, f2, rfl, a7, a8⟩ := aS a1
     obtain ⟨f3, f4, rfl⟩ := ao a7
     obtain ⟨f5, f6, rfl⟩ := ao a8
     obtain rfl := a2
     obtain ⟨f7, f8, rfl⟩ := ao a3
     obtain rfl := a4
     obtain rfl := a5
     obtain rfl := a6
     refine aa [.fa 60 7 9 ky] z <| o1 z (aM z z ty3 (ce bor (ni k 9 1))) <| oPP z <| oP z <| ?_
     obtain rfl := af H
     exact OW.sub key (sb z)
    ·have H := bi z H
     refine aa [.p, .p, .p, .p, .p, .p, .p, .p, .p] z ?_
     obtain rfl := af H
     exact OW.sub key (sb z)
  ·exact bx <| aK <| aR <| aL <| az <| sR <| oPP z <| nT <| xr 2 z (by cases H; exact q1)
theorem tY (w : World) {p0 : aG} {d : List Value} {r : Int} (H : mc p0 = U r) (R : (aC).rd w [] p0 d) :
    Calls Tryz.prog 113 #[.agg d.toArray] w (fun en w' => en = .returned (I J r) ∧ Ext [] w w') := by
 obtain ⟨X, Z, a0, a1, a2, a3, a4, a5, a6, a7, rfl, j, k, l, m, o, q, s, t, u, v⟩ := bo R
 obtain rfl := j
 obtain rfl := k
 obtain ⟨x, A, rfl⟩ := ao l
 obtain rfl := m
 obtain ⟨a8, a9, rfl, C, e⟩ := aS o
 obtain ⟨D, E, rfl⟩ := ao C
 obtain ⟨F, G, rfl⟩ := ao e
 obtain rfl := q
 obtain ⟨L, M, rfl⟩ := ao s
 obtain rfl := t
 obtain rfl := u
 obtain rfl := v
 unfold mc at H
 refine aN Tryz.func113 z Tryz.ntmps113 z (St.init w []) <| sR <| ob _ z fun f => oP z <| nQ <| am <| sR <| aa [.fa 60 0 0 mw] z <| o1 z (r1 0 0 z ty4 z) <| oP z <| nQ <| cI H z (fun H => ?_) (fun H => ?_)
 ·exact sR <| oP z <| nT <| aq <| xr 2 z (by cases H; exact q1)
 ·refine av <| az <| sR <| oP z <| nQ <| am <| sR <| oP z <| nQ <| ay <| CW.at (jH (fun (a : Int) (c : Int) => St w [] [b f 60 [B p0.s_, I J p0.k_.j_, I J p0.k_.c_, S x p0.t_.length A, I J p0.x_, S D p0.m_.d_.length E, S F p0.m_.b_.length G, I J p0.v_, S L p0.f_.length M, I J p0.l_, I J p0.p_, I J p0.q_]]) (fun a c => [(1, O (U ⟨f, 0, N⟩)), (3, I J a), (4, I J c)]) (fun kk => fun a c => go p0 kk a c = U r) (fun _ _ H => ?_) (fun k1 g a c H => ?_) aY (2) (0) (H)) (ss [0] z z) (sb z)
  ·unfold go at H
   exact absurd H (by simp)
  ·unfold go at H
   refine am <| sR <| aa [.p, .fa 60 4 5 ep, .fa 58 1 1 dt] z <| o1 z (r1 6 0 z cY z) <| aa [.lenS 28 45 cC, .p] z <| nQ <| cI H z (fun H => ?_) (fun H => ?_)
   ·refine av <| az <| am <| ay <| aP <| aa [.p, .fa 60 4 5 ep, .fa 58 1 1 dt] z <| o1 z (r1 6 0 z cY z) <| oP z <| bE H fun P Q H => cf z z z z z cC bG z e Q fun b0 b1 h i => ?_
    obtain ⟨b2, b3, rfl⟩ := ao h
    exact o1 z (aM z z bG (ce bor i)) <| aa [.lenS 45 3 aT, .p, .p] z <| ax <| bW <| az <| aP <| aa [.p, .p, .p] z <| ax <| ct (RW.at (g (J.wrap (a + (P.length : Int))) (J.wrap (c + 1)) (H)) (ss [0] z z) (sb z))
   ·exact bx <| aK <| aR <| aL <| az <| sR <| oPP z <| nT <| xr 2 z (by cases H; exact q1)
theorem oT (w : World) {p0 : ai} {m : List Value} {r : Int} (H : jW p0 = U r) (g0 : (cW).rd w [] p0 m) :
    Calls Tryz.prog 99 #[.agg m.toArray] w (fun en w' => en = .returned (I J r) ∧ Ext [] w w') := by
 obtain ⟨c0, c1, rfl, o, a2⟩ := cr g0
 obtain ⟨a3, a4, rfl⟩ := ao o
 obtain rfl := a2
 unfold jW at H
 refine aN Tryz.func99 z Tryz.ntmps99 z (St.init w []) <| sR <| ob _ z fun q => oP z <| nR <| oP z <| nQ <| am <| sR <| oP z <| nQ <| ay <| CW.at (jH (fun (c : Int) (d : Int) => St w [] [b q 26 [S a3 p0.a_.length a4, I J p0.g_]]) (fun c d => [(1, O (U ⟨q, 0, N⟩)), (3, I J c), (4, I J d)]) (fun kk => fun c d => fi p0 kk c d = U r) (fun _ _ H => ?_) (fun k1 s c d H => ?_) aY (0) (0) (H)) (ss [0] z z) (sb z)
 ·unfold fi at H
  exact absurd H (by simp)
 ·unfold fi at H
  refine am <| sR <| aa [.p, .fa 26 0 0 bR] z <| o1 z (r1 0 0 z ec z) <| aa [.lenS 24 60 dW, .p] z <| nQ <| cI H z (fun H => ?_) (fun H => ?_)
  ·refine av <| az <| am <| ay <| aP <| aa [.p, .fa 26 0 0 bR] z <| o1 z (r1 0 0 z ec z) <| oP z <| bE H fun a t H => cf z z z z z dW bZ z o t fun a6 a7 k l => ?_
   obtain ⟨a8, a9, b0, b1, b2, b3, b4, b5, b6, b7, rfl, u, v, f, x, A, C, g, D, E, F⟩ := bo k
   obtain rfl := u
   obtain rfl := v
   obtain ⟨G, L, rfl⟩ := ao f
   obtain rfl := x
   obtain ⟨b8, b9, rfl, h, i⟩ := aS A
   obtain ⟨M, P, rfl⟩ := ao h
   obtain ⟨Q, R, rfl⟩ := ao i
   obtain rfl := C
   obtain ⟨X, Z, rfl⟩ := ao g
   obtain rfl := D
   obtain rfl := E
   obtain rfl := F
   exact o1 z (dk (cs := [B a.s_, I J a.k_.j_, I J a.k_.c_, S G a.t_.length L, I J a.x_, S M a.m_.d_.length P, S Q a.m_.b_.length R, I J a.v_, S X a.f_.length Z, I J a.l_, I J a.p_, I J a.q_]) z z bZ (ce bor l) z) <| bE H fun a0 a1 H => oq z (qc z FR (fun j e => tY j a1 (fW z z (ab f j e) z (aH (ab h j e) (ab i j e)) z (ab g j e) z z z))) tt2 <| oPP z <| ax <| bW <| az <| aP <| aa [.p, .p, .p] z <| ax <| ct (RW.at (s (J.wrap (c + a0)) (J.wrap (d + 1)) (H)) (ss [0] z z) (sb z))
  ·exact bx <| aK <| aR <| aL <| az <| sR <| oPP z <| nT <| xr 2 z (by cases H; exact q1)
theorem wB (w : World) {p0 : ae} {p1 : cq} {p2 : ai} {l : List Value} {m : List Value} {r : Bool} (H : pt p0 p1 p2 = U r) (L : (bk).rd w [] p0 l) (M : (cW).rd w [] p2 m) :
    Calls Tryz.prog 79 #[.agg l.toArray, .agg #[I J p1.J_, I J p1.I_, I J p1.K_, I J p1.l_, I J p1.a_, I J p1.F_, B p1.G_], .agg m.toArray] w (fun en w' => en = .returned (B r) ∧ Ext [] w w') := by
 obtain ⟨P, Q, rfl, o, q⟩ := aX L
 obtain ⟨X, Z, rfl⟩ := ao o
 obtain ⟨a0, a1, rfl⟩ := ao q
 obtain ⟨a2, a3, rfl, g, t⟩ := cr M
 obtain ⟨a4, a5, rfl⟩ := ao g
 obtain rfl := t
 unfold pt at H
 refine aN Tryz.func79 z Tryz.ntmps79 z (St.init w []) <| sR <| ob _ z fun a6 => ob _ z fun d => ob _ z fun e => oP z <| nQ <| am <| dR bU (by kernel_rfl) <| o1 z (rx 0 0 _ z cV z) <| o1 z (rx 0 2 _ z br z) <| bE H fun s u H => oq z (qc z AA (fun c a => kE c u (ah (ab o c a) (ab q c a)) (aW (ab g c a) z))) tt2 <| oP z <| bE H fun f h H => aV [(13, B f), (4, O (U ⟨d, 0, N⟩)), (5, O (U ⟨e, 0, N⟩)), (6, B n)] 3 ?_ (fun key => OW.sub (R := [(4, O (U ⟨d, 0, N⟩)), (5, O (U ⟨e, 0, N⟩)), (6, B n), (10, B s)]) ?_ (sb z))
 ·refine oP z <| aV [(21, B (f && (decide ((p2.a_.length : Int) ≤ p1.a_)))), (4, O (U ⟨d, 0, N⟩)), (5, O (U ⟨e, 0, N⟩)), (6, B n)] 7 ?_ (fun key => OW.sub (R := [(4, O (U ⟨d, 0, N⟩)), (5, O (U ⟨e, 0, N⟩)), (6, B n), (14, B f)]) ?_ (sb z))
  ·refine oP z <| bE H fun i j H => aV [(28, B i), (4, O (U ⟨d, 0, N⟩)), (5, O (U ⟨e, 0, N⟩)), (6, B n)] 6 ?_ (fun key => OW.sub (R := [(4, O (U ⟨d, 0, N⟩)), (5, O (U ⟨e, 0, N⟩)), (6, B n), (22, B (f && (decide ((p2.a_.length : Int) ≤ p1.a_))))]) ?_ (sb z))
   ·refine oP z <| bE H fun v k H => aV [(35, B v), (6, B n)] 6 ?_ (fun key => OW.sub (R := [(4, O (U ⟨d, 0, N⟩)), (5, O (U ⟨e, 0, N⟩)), (6, B n), (29, B i)]) ?_ (sb z))
    ·exact oP z <| co <| az <| uS <| xr 6 z (by cases H; exact q1)
    ·clear H
     have H := k
     clear k
     generalize i = x at H key ⊢
     cases x
     ·have H := bh z H
      refine aa [.p, .p, .p, .p, .p, .p] z ?_
      obtain rfl := af H
      exact OW.sub key (sb z)
     ·have H := bi z H
      refine o1 z (rx 0 2 _ z br z) <| bE H fun a7 A H => oq z (qc z Fn (fun c a => oT c A (aW (ab g c a) z))) tt2 <| aa [.fa 103 5 5 sg] z <| o1 z (r1 5 1 z ty3 z) <| oP z <| oP z <| ?_
      obtain rfl := af H
      exact OW.sub key (sb z)
   ·clear H
    have H := j
    clear j
    generalize (f && (decide ((p2.a_.length : Int) ≤ p1.a_))) = C at H key ⊢
    cases C
    ·have H := bh z H
     refine aa [.p, .p, .p, .p, .p, .p] z ?_
     obtain rfl := af H
     exact OW.sub key (sb z)
    ·have H := bi z H
     refine o1 z (rx 0 2 _ z br z) <| bE H fun a8 D H => oq z (qc z GM (fun c a => uh c D (aW (ab g c a) z))) tt2 <| aa [.fa 103 3 3 xk] z <| o1 z (r1 3 1 z ty3 z) <| oP z <| oP z <| ?_
     obtain rfl := af H
     exact OW.sub key (sb z)
  ·generalize f = E at key ⊢
   cases E
   ·exact aa [.p, .p, .p, .p, .p, .p, .p] z <| OW.sub key (sb z)
   ·exact aa [.fa 26 0 0 bR] z <| o1 z (r1 0 2 z ec z) <| aa [.lenS 24 60 dW, .fa 103 4 4 xb] z <| o1 z (r1 4 1 z ty3 z) <| oP z <| oP z <| OW.sub key (sb z)
 ·clear H
  have H := h
  clear h
  generalize s = F at H key ⊢
  cases F
  ·have H := bh z H
   refine aa [.p, .p, .p] z ?_
   obtain rfl := af H
   exact OW.sub key (sb z)
  ·have H := bi z H
   refine o1 z (rx 0 1 _ z ou z) <| bE H fun a9 G H => oq z (qc z Ed (fun c a => nY c (p0 := p1) G)) tt2 <| oP z <| ?_
   obtain rfl := af H
   exact OW.sub key (sb z)
theorem pB (w : World) {p0 : ae} {p1 : bB} {o : List Value} {q : List Value} {r : Bool} (H : mN p0 p1 = U r) (g0 : (bk).rd w [] p0 o) (g1 : (gc).rd w [] p1 q) :
    Calls Tryz.prog 80 #[.agg o.toArray, .agg q.toArray] w (fun en w' => en = .returned (B r) ∧ Ext [] w w') := by
 obtain ⟨b4, b5, rfl, i, s⟩ := aX g0
 obtain ⟨F, G, rfl⟩ := ao i
 obtain ⟨L, M, rfl⟩ := ao s
 obtain ⟨b6, b7, rfl, k, P⟩ := lb g1
 obtain ⟨Q, X, rfl⟩ := ao k
 obtain rfl := P
 unfold mN at H
 refine aN Tryz.func80 z Tryz.ntmps80 z (St.init w []) <| sR <| ob _ z fun f => ob _ z fun g => oP z <| nQ <| am <| sR <| o1 z (rx 0 0 _ z cV z) <| bE H fun h Z H => oq z (qc z zV (fun a c => iS a Z (ah (ab i a c) (ab s a c)))) tt2 <| oPP z <| aV [(17, B ((!h) || ((p1.w_.length : Int) != (p0.f_.length : Int)))), (2, O (U ⟨f, 0, N⟩)), (3, O (U ⟨g, 0, N⟩))] 8 ?_ (fun key => OW.sub (R := [(2, O (U ⟨f, 0, N⟩)), (3, O (U ⟨g, 0, N⟩)), (9, B (!h))]) ?_ (sb z))
 ·refine oP z <| bE H fun a0 l H => aV [(27, B a0), (2, O (U ⟨f, 0, N⟩)), (3, O (U ⟨g, 0, N⟩))] 9 ?_ (fun key => OW.sub (R := [(2, O (U ⟨f, 0, N⟩)), (3, O (U ⟨g, 0, N⟩)), (18, B ((!h) || ((p1.w_.length : Int) != (p0.f_.length : Int))))]) ?_ (sb z))
  ·refine nQ <| cI H z (fun H => ?_) (fun H => ?_)
   ·exact sR <| oP z <| nT <| aq <| xr 4 z (by cases H; exact q1)
   ·refine av <| az <| am <| sR <| oP z <| nQ <| ay <| CW.at (gF (fun (d : Int) => St w [] [b f 73 [S F p0.f_.length G, S L p0.n_.length M], b g 113 [S Q p1.w_.length X, I J p1.y_]]) (fun d => [(2, O (U ⟨f, 0, N⟩)), (3, O (U ⟨g, 0, N⟩)), (5, I J d)]) (fun kk => fun d => jr p1 p0 kk d = U r) (fun _ H => ?_) (fun k1 x d H => ?_) aY (0) (H)) (ss [0, 1] z z) (sb z)
    ·unfold jr at H
     exact absurd H (by simp)
    ·unfold jr at H
     refine am <| sR <| aa [.p, .fa 113 0 0 me] z <| o1 z (r1 0 1 z bG z) <| aa [.lenS 45 3 aT, .p] z <| nQ <| cI H z (fun H => ?_) (fun H => ?_)
     ·refine av <| az <| am <| ay <| am <| dR bU (by kernel_rfl) <| aa [.fa 113 0 0 me] z <| o1 z (r1 0 1 z bG z) <| oP z <| bE H fun b8 t H => bF (e := eI) (xs := p1.w_) (j := d) z z z z z aT ty3 z (ab k) t (by rw [Nat.mul_one]) <| o1 z (aM z z ty3 (bO (ab k) t)) <| aa [.fa 73 0 0 fE] z <| o1 z (r1 0 0 z lC z) <| oP z <| bE H fun m a1 H => cf z z z z z lF km z i a1 fun b9 c0 A C => ?_
      obtain ⟨c1, c2, c3, rfl, a2, u, v⟩ := cG A
      obtain rfl := a2
      obtain ⟨a3, a4, rfl⟩ := ao u
      obtain ⟨a5, a6, rfl⟩ := ao v
      refine o1 z (dk (cs := [vS m.D_, S a3 m.A_.length a4, S a5 m.E_.length a6]) z z km (ce bor C) z) <| bE H fun b2 D H => oq z (qc z wA (fun a c => iA a D (eE z (ab u a c) (ab v a c)))) tt2 <| oP z <| bE H fun b3 E H => oq z (qc z gN (fun a c => be a E)) tt2 <| oP z <| co <| az <| cI H z (fun H => ?_) (fun H => ?_)
      ·exact sR <| oP z <| nT <| ba <| aq <| cd <| ba <| aq <| xr 4 z (by cases H; exact q1)
      ·exact av <| bW <| az <| aP <| aa [.p, .p, .p] z <| ax <| ct (RW.at (x (J.wrap (d + 1)) (H)) (ss [0, 1] z z) (sb z))
     ·exact bx <| aK <| aR <| aL <| az <| sR <| oP z <| nT <| xr 4 z (by cases H; exact q1)
  ·clear H
   have H := l
   clear l
   generalize ((!h) || ((p1.w_.length : Int) != (p0.f_.length : Int))) = a7 at H key ⊢
   cases a7
   ·have H := bh z H
    refine aa [.fa 113 1 1 oI] z <| o1 z (r1 1 1 z ty3 z) <| aa [.fa 73 1 1 ks] z <| o1 z (r1 1 0 z nJ z) <| aa [.lenS 71 9 lD, .p] z <| bE H fun c4 a8 H => oq z (qc z gN (fun a c => be a a8)) tt2 <| oP z <| oP z <| ?_
    obtain rfl := af H
    exact OW.sub key (sb z)
   ·have H := bi z H
    refine aa [.p, .p, .p, .p, .p, .p, .p, .p, .p] z ?_
    obtain rfl := af H
    exact OW.sub key (sb z)
 ·generalize (!h) = a9 at key ⊢
  cases a9
  ·exact aa [.fa 113 0 0 me] z <| o1 z (r1 0 1 z bG z) <| aa [.lenS 45 3 aT, .fa 73 0 0 fE] z <| o1 z (r1 0 0 z lC z) <| aa [.lenS 70 90 lF, .p] z <| oP z <| OW.sub key (sb z)
  ·exact aa [.p, .p, .p, .p, .p, .p, .p, .p] z <| OW.sub key (sb z)
theorem qF (w : World) {p0 : bf} {c : List Value} {r : Bool} (H : lQ p0 = U r) (j : (jp).rd w [] p0 c) :
    Calls Tryz.prog 81 #[.agg c.toArray] w (fun en w' => en = .returned (B r) ∧ Ext [] w w') := by
 obtain ⟨l, m, rfl, d, e⟩ := iV j
 obtain ⟨o, q, rfl⟩ := ao d
 obtain rfl := e
 unfold lQ at H
 refine aN Tryz.func81 z Tryz.ntmps81 z (St.init w []) <| sR <| ob _ z fun f => oP z <| nR <| aa [.fa 117 0 0 qQ] z <| o1 z (r1 0 0 z sN z) <| aa [.lenS 22 5 fQ, .p, .p] z <| bE H fun g a H => aV [(14, B g), (2, B n)] 7 ?_ (fun key => OW.sub (R := [(1, O (U ⟨f, 0, N⟩)), (2, B n), (7, B (decide ((p0.r_.length : Int) ≤ 600)))]) ?_ (sb z))
 ·exact oP z <| nT <| xr 2 z (by cases H; exact q1)
 ·clear H
  have H := a
  clear a
  generalize (decide ((p0.r_.length : Int) ≤ 600)) = h at H key ⊢
  cases h
  ·have H := bh z H
   refine aa [.p, .p, .p, .p, .p, .p, .p] z ?_
   obtain rfl := af H
   exact OW.sub key (sb z)
  ·have H := bi z H
   refine aa [.fa 117 1 1 pz] z <| o1 z (r1 1 0 z ty3 z) <| aa [.fa 117 0 0 qQ] z <| o1 z (r1 0 0 z sN z) <| aa [.lenS 22 5 fQ] z <| bE H fun s i H => oq z (qc z gN (fun k t => be k i)) tt2 <| oP z <| ?_
   obtain rfl := af H
   exact OW.sub key (sb z)
theorem qJ (w : World) {s : List Nat} {p0 : ar} {P : List Value} {r : ar} (H : lR p0 = U r) (HS : St w s [] w) (g0 : (cb).rd w s p0 P) :
    Calls Tryz.prog 93 #[.agg P.toArray] w (fun en w' => ∃ v, en = .returned v ∧ ∃ (a0 : Option Addr), ∃ (n0 : Nat), ∃ (c0 : Nat), ∃ (F0 : List Nat), ∃ (a1 : Option Addr), ∃ (n1 : Nat), ∃ (c1 : Nat), ∃ (F1 : List Nat), v = .agg #[S a0 n0 c0, S a1 n1 c1] ∧ St w s [W (ad eI 3) F0 r.d_ [S a0 n0 c0], W (ad (ad eI 3) 45) F1 r.b_ [S a1 n1 c1]] w') := by
 obtain ⟨c7, c8, rfl, Q, R⟩ := aS g0
 obtain ⟨X, Z, rfl⟩ := ao Q
 obtain ⟨a2, a3, rfl⟩ := ao R
 unfold lR at H
 refine aN Tryz.func93 z Tryz.ntmps93 z (HS) <| sR <| ob _ z fun t => aB z z z z cK (fun _ => kp) fun u => nR <| bI (e := eI) z z z z aT ty3 (fun _ => kp) fun c9 => aa [.fa 58 0 0 jc] z <| o1 z (r1 0 0 z bG z) <| bE H fun a b4 H => bC (r := 2) (ys := p0.d_) z z z z z z aT ty3 z z z (ab Q) b4 (fun _ _ _ => kp) fun d f x => o1 z (bu [(0, [S d a.length f])] [S d a.length f, S N 0 0] z z cK CV z ⟨z, z, nl z, Y⟩ z) <| aB z z z z cK (fun _ => kp) fun A => sC 0 [S d a.length f, S N 0 0] [_, _] 3 z cK z <| nQ <| am <| sR <| oP z <| nQ <| ay <| CW.weak ?_ (fun _ h => St.pushNil (e := ad eI 3) (T := 45) h)
 refine CW.at (iw (fun (c : List (List Int)) (g : Option Addr) (k : Nat) (l : List Nat) (m : Int) => St w s [b t 58 [S X p0.d_.length Z, S a2 p0.b_.length a3], b u 58 [S N 0 0, S N 0 0], b A 58 [S d a.length f, S g c.length k], W (ad eI 3) x a [S d a.length f], W (ad (ad eI 3) 45) l c [S g c.length k]]) (fun c g k l m => [(1, O (U ⟨t, 0, N⟩)), (2, O (U ⟨u, 0, N⟩)), (3, O (U ⟨A, 0, N⟩)), (4, I J m)]) (fun kk => fun c g k l m => gY p0 a kk c m = U r) (fun _ _ _ _ _ H => ?_) (fun k1 a4 c g k l m H => ?_) aY (([] : List (List Int))) (N) (0) ([]) (0) (H)) (ss [0, 1, 3, 2, 4] z z) (sb z)
 ·unfold gY at H
  exact absurd H (by simp)
 ·unfold gY at H
  refine am <| sR <| aa [.p, .fa 58 1 1 dt] z <| o1 z (r1 1 0 z cY z) <| aa [.lenS 28 45 cC, .p] z <| nQ <| cI H z (fun H => ?_) (fun H => ?_)
  ·refine av <| az <| am <| ay <| cw 10 [(0, y), (1, y), (3, y), (4, y), (5, y), (6, y), (7, y), (2, n), (8, n), (9, n)] (St w s [b t 58 [S X p0.d_.length Z, S a2 p0.b_.length a3], b u 58 [S N 0 0, S N 0 0], b A 58 [S d a.length f, S g c.length k], W (ad eI 3) x a [S d a.length f], W (ad (ad eI 3) 45) l c [S g c.length k]]) bU (by kernel_rfl) (bj (aJ (db (bj (aJ bb))))) (tk 5 z) <| aa [.fa 58 1 1 dt] z <| bm z (aw z) (r1 1 2 z cY z) <| aa [.fa 58 1 1 dt] z <| bm z (aw z) (r1 1 0 z cY z) <| oP z <| bE H fun a5 a6 H => cf z z z z z cC bG z R a6 fun b8 b9 o M => ?_
   obtain ⟨c2, c3, rfl⟩ := ao o
   refine bm z (aw z) (aM z z bG (ce (fun _ h => h.ext) M)) <| bI (e := eI) z z z z aT ty3 (fun _ => (tk 5 z)) fun c4 => bE H fun C a7 H => bC (r := 5) (ys := a5) z z z z z z aT ty3 z z z (ab o) a7 (fun _ _ _ => (tk 5 z)) fun D E c5 => dV [(0, [S D C.length E])] z z z z z cC bG z z ⟨z, z, nl z, Y⟩ [S D C.length E] z (fun _ => (tk 5 z)) fun c6 => dH z (fun _ h => pg (p := 6) (q := 5) h z z z) <| aQ <| jf <| bE H fun F a8 H => ix (r := 4) (j := 7) z z z z z z cC bG z z z z z z z a8 (fun _ _ _ => kp) fun G L a9 => aa [.fa 58 1 1 dt] z <| sC 1 [S G F.length L] [_, _] 2 z cY z <| ax <| bW <| az <| CW.weak (C' := St w s [_, _, _, _, _]) ?_ (ss [0, 1, 2, 3, 8] z z)
   exact aP <| aa [.p, .p, .p] z <| ax <| ct (RW.at (a4 (F) (G) (L) (a9) (J.wrap (m + 1)) (H)) (ss [0, 1, 2, 3, 4] z z) (sb z))
  ·exact bx <| aK <| aR <| aL <| az <| sR <| o1 z (rx 0 2 _ z cK z) <| sC 0 [S d a.length f, S g c.length k] [_, _] 1 z cK z <| nT <| aO (rs := [.cell 2 58]) (vs := [.agg #[S d a.length f, S g c.length k]]) z ⟨⟨_, [S d a.length f, S g c.length k], _, _, _, z, cK, (bn (T := 58) 0 (bJ (i := 1) z) z), z, z⟩, Y⟩ (fun w' hw' => by
    obtain rfl := af H
    exact ⟨_, z, d, a.length, f, x, g, c.length, k, l, z, hw'.sel [3, 4] z z⟩)
theorem nG (w : World) {s : List Nat} {p0 : aG} {u : List Value} {r : aG} (H : iK p0 = U r) (HS : St w s [] w) (g0 : (aC).rd w s p0 u) :
    Calls Tryz.prog 86 #[.agg u.toArray] w (fun en w' => ∃ v, en = .returned v ∧ ∃ (F : Option Addr), ∃ (G : Nat), ∃ (c0 : Nat), ∃ (F0 : List Nat), ∃ (L : Option Addr), ∃ (M : Nat), ∃ (c1 : Nat), ∃ (F1 : List Nat), ∃ (P : Option Addr), ∃ (Q : Nat), ∃ (c2 : Nat), ∃ (F2 : List Nat), ∃ (R : Option Addr), ∃ (X : Nat), ∃ (c3 : Nat), ∃ (F3 : List Nat), v = .agg #[B r.s_, I J r.k_.j_, I J r.k_.c_, S F G c0, I J r.x_, S L M c1, S P Q c2, I J r.v_, S R X c3, I J r.l_, I J r.p_, I J r.q_] ∧ St w s [W (ad eI 3) F0 r.t_ [S F G c0], W (ad eI 3) F1 r.m_.d_ [S L M c1], W (ad (ad eI 3) 45) F2 r.m_.b_ [S P Q c2], W (ad eI 3) F3 r.f_ [S R X c3]] w') := by
 obtain ⟨d5, d6, d7, d8, d9, e0, e1, e2, e3, e4, rfl, Z, a4, x, a5, a6, a7, A, a8, a9, b0⟩ := bo g0
 obtain rfl := Z
 obtain rfl := a4
 obtain ⟨b1, b2, rfl⟩ := ao x
 obtain rfl := a5
 obtain ⟨e5, e6, rfl, C, D⟩ := aS a6
 obtain ⟨b3, b4, rfl⟩ := ao C
 obtain ⟨b5, b6, rfl⟩ := ao D
 obtain rfl := a7
 obtain ⟨b7, b8, rfl⟩ := ao A
 obtain rfl := a8
 obtain rfl := a9
 obtain rfl := b0
 unfold iK at H
 refine aN Tryz.func86 z Tryz.ntmps86 z (HS) <| sR <| ob _ z fun e7 => aB z z z z bZ (fun _ => kp) fun e9 => nR <| o1 z (rx 0 0 _ z bZ z) <| aB z z z z bZ (fun _ => kp) fun f0 => sC 0 [B p0.s_, I J p0.k_.j_, I J p0.k_.c_, S b1 p0.t_.length b2, I J p0.x_, S b3 p0.m_.d_.length b4, S b5 p0.m_.b_.length b6, I J p0.v_, S b7 p0.f_.length b8, I J p0.l_, I J p0.p_, I J p0.q_] [_, _, _, _, _, _, _, _, _, _, _, _] 2 z bZ z <| nR <| bI (e := eI) z z z z aT ty3 (fun _ => kp) fun f1 => aa [.fa 60 2 3 iX] z <| o1 z (r1 3 0 z bG z) <| bE H fun c b9 H => bC (r := 3) (ys := p0.t_) z z z z z z aT ty3 z z z (ab x) b9 (fun _ _ _ => kp) fun d f c4 => aa [.fa 60 2 3 iX] z <| sC 3 [S d c.length f] [_, _, _, _, _, _, _, _, _, _, _, _] 2 z bG z <| nR <| bI (e := eI) z z z z aT ty3 (fun _ => kp) fun f2 => aa [.fa 60 6 8 mM] z <| o1 z (r1 8 0 z bG z) <| bE H fun g c5 H => bC (r := 4) (ys := p0.f_) z z z z z z aT ty3 z z z (ab A) c5 (fun _ _ _ => kp) fun h j c6 => aa [.fa 60 6 8 mM] z <| sC 8 [S h g.length j] [_, _, _, _, _, _, _, _, _, _, _, _] 2 z bG z <| nR <| aa [.fa 60 4 5 ep] z <| o1 z (rx 5 0 _ z cK z) <| ?_
 refine bE H fun a c7 H => aj z EP z z z z (fun t k => qJ t c7 (k.carve [] z z) (aH (ab C t k) (ab D t k))) fun f3 t w2 k E => ?_
 obtain ⟨l, f4, m, c8, o, f5, p, c9, rfl, q⟩ := E
 obtain rfl := aA (i := 0) q z
 obtain rfl := aA (i := 1) q z
 refine ⟨St w s [_, _, _, _, _, _, _], k.comp [] z z q, fun _ _ => Y, ?_⟩
 exact aa [.fa 60 4 5 ep] z <| sC 5 [S l a.d_.length m, S o a.b_.length p] [_, _, _, _, _, _, _, _, _, _, _, _] 2 z cK z <| nR <| o1 z (rx 0 2 _ z bZ z) <| sC 0 [B p0.s_, I J p0.k_.j_, I J p0.k_.c_, S d c.length f, I J p0.x_, S l a.d_.length m, S o a.b_.length p, I J p0.v_, S h g.length j, I J p0.l_, I J p0.p_, I J p0.q_] [_, _, _, _, _, _, _, _, _, _, _, _] 1 z bZ z <| nT <| aO (rs := [.cell 2 60]) (vs := [.agg #[B p0.s_, I J p0.k_.j_, I J p0.k_.c_, S d c.length f, I J p0.x_, S l a.d_.length m, S o a.b_.length p, I J p0.v_, S h g.length j, I J p0.l_, I J p0.p_, I J p0.q_]]) z ⟨⟨_, [B p0.s_, I J p0.k_.j_, I J p0.k_.c_, S d c.length f, I J p0.x_, S l a.d_.length m, S o a.b_.length p, I J p0.v_, S h g.length j, I J p0.l_, I J p0.p_, I J p0.q_], _, _, _, z, bZ, (bn (T := 60) 0 (bJ (i := 1) z) z), z, z⟩, Y⟩ (fun w' hw' => by
  obtain rfl := af H
  exact ⟨_, z, d, c.length, f, c4, l, a.d_.length, m, c8, o, a.b_.length, p, c9, h, g.length, j, c6, z, hw'.sel [3, 5, 6, 4] z z⟩)
theorem jm (w : World) {s : List Nat} {p0 : ai} {a7 : List Value} {r : ai} (H : gM p0 = U r) (HS : St w s [] w) (g0 : (cW).rd w s p0 a7) :
    Calls Tryz.prog 82 #[.agg a7.toArray] w (fun en w' => ∃ v, en = .returned v ∧ ∃ (a0 : Option Addr), ∃ (n0 : Nat), ∃ (c0 : Nat), ∃ (F0 : List Nat), v = .agg #[S a0 n0 c0, I J r.g_] ∧ St w s [W (ad (aC) 60) F0 r.a_ [S a0 n0 c0]] w') := by
 obtain ⟨g5, g6, rfl, a8, d5⟩ := cr g0
 obtain ⟨a9, b0, rfl⟩ := ao a8
 obtain rfl := d5
 unfold gM at H
 refine aN Tryz.func82 z Tryz.ntmps82 z (HS) <| sR <| ob _ z fun u => aB z z z z br (fun _ => kp) fun x => nR <| aa [.fa 26 1 1 lH] z <| o1 z (r1 1 0 z ty3 z) <| o1 z (bu [(1, [I J p0.g_])] [S N 0 0, I J p0.g_] z z br zX z ⟨z, z, nl z, Y⟩ z) <| aB z z z z br (fun _ => kp) fun A => sC 0 [S N 0 0, I J p0.g_] [_, _] 2 z br z <| nQ <| am <| sR <| oP z <| nQ <| ay <| CW.weak ?_ (fun _ h => St.pushNil (e := aC) (T := 60) h)
 refine CW.at (iw (fun (c : List aG) (f : Option Addr) (g : Nat) (m : List Nat) (o : Int) => St w s [b u 26 [S a9 p0.a_.length b0, I J p0.g_], b x 26 [S N 0 0, I J 0], b A 26 [S f c.length g, I J p0.g_], W (ad (aC) 60) m c [S f c.length g]]) (fun c f g m o => [(1, O (U ⟨u, 0, N⟩)), (2, O (U ⟨x, 0, N⟩)), (3, O (U ⟨A, 0, N⟩)), (4, I J o)]) (fun kk => fun c f g m o => gx p0 kk c o = U r) (fun _ _ _ _ _ H => ?_) (fun k1 b1 c f g m o H => ?_) aY (([] : List aG)) (N) (0) ([]) (0) (H)) (ss [0, 1, 2, 3] z z) (sb z)
 ·unfold gx at H
  exact absurd H (by simp)
 ·unfold gx at H
  refine am <| sR <| aa [.p, .fa 26 0 0 bR] z <| o1 z (r1 0 0 z ec z) <| aa [.lenS 24 60 dW, .p] z <| nQ <| cI H z (fun H => ?_) (fun H => ?_)
  ·refine av <| az <| am <| ay <| cw 9 [(0, y), (1, y), (2, y), (3, y), (4, y), (5, y), (6, y), (7, n), (8, n)] (St w s [b u 26 [S a9 p0.a_.length b0, I J p0.g_], b x 26 [S N 0 0, I J 0], b A 26 [S f c.length g, I J p0.g_], W (ad (aC) 60) m c [S f c.length g]]) bU (by kernel_rfl) (bj (aJ (db (bj (aJ bb))))) (tk 4 z) <| aa [.fa 26 0 0 bR] z <| bm z (aw z) (r1 0 2 z ec z) <| aa [.fa 26 0 0 bR] z <| bm z (aw z) (r1 0 0 z ec z) <| oP z <| bE H fun d b2 H => cf z z z z z dW bZ z a8 b2 fun d8 d9 a4 a5 => ?_
   obtain ⟨e0, e1, e2, e3, e4, e5, e6, e7, e9, f0, rfl, b3, b4, C, b5, b6, b7, D, b8, b9, c1⟩ := bo a4
   obtain rfl := b3
   obtain rfl := b4
   obtain ⟨c2, c3, rfl⟩ := ao C
   obtain rfl := b5
   obtain ⟨f1, f2, rfl, E, F⟩ := aS b6
   obtain ⟨c4, c5, rfl⟩ := ao E
   obtain ⟨c6, c7, rfl⟩ := ao F
   obtain rfl := b7
   obtain ⟨c8, c9, rfl⟩ := ao D
   obtain rfl := b8
   obtain rfl := b9
   obtain rfl := c1
   refine bm z (aw z) (dk (cs := [B d.s_, I J d.k_.j_, I J d.k_.c_, S c2 d.t_.length c3, I J d.x_, S c4 d.m_.d_.length c5, S c6 d.m_.b_.length c7, I J d.v_, S c8 d.f_.length c9, I J d.l_, I J d.p_, I J d.q_]) z z bZ (ce (fun _ h => h.ext) a5) z) <| bE H fun a d0 H => aj z Ff z z z z (fun t k => nG t d0 (k.carve [] z z) (fW z z (ab C t k) z (aH (ab E t k) (ab F t k)) z (ab D t k) z z z)) fun f3 t w2 k a6 => ?_
   obtain ⟨G, f4, L, f5, M, f6, P, f7, Q, f8, R, f9, X, g1, Z, g2, rfl, l⟩ := a6
   obtain rfl := aA (i := 0) l z
   obtain rfl := aA (i := 1) l z
   obtain rfl := aA (i := 2) l z
   obtain rfl := aA (i := 3) l z
   refine ⟨St w s [_, _, _, _, _, _, _, _], k.comp [] z z l, (tk 4 z), ?_⟩
   refine sl z (fun t k => cm (x0 := a.s_) (x1 := a.k_.j_) (x2 := a.k_.c_) (x4 := a.x_) (x7 := a.v_) (x9 := a.l_) (x10 := a.p_) (x11 := a.q_) [4, 5, 6, 7] k z z) fun g3 => dH (C' := St w s [_, _, _, _, _, _, _, _, _]) z (fun _ h => h) <| dV [(0, [B a.s_, I J a.k_.j_, I J a.k_.c_, S G a.t_.length L, I J a.x_, S M a.m_.d_.length P, S Q a.m_.b_.length R, I J a.v_, S X a.f_.length Z, I J a.l_, I J a.p_, I J a.q_])] z z z z z dW bZ z z ⟨z, z, nl z, Y⟩ [B a.s_, I J a.k_.j_, I J a.k_.c_, S G a.t_.length L, I J a.x_, S M a.m_.d_.length P, S Q a.m_.b_.length R, I J a.v_, S X a.f_.length Z, I J a.l_, I J a.p_, I J a.q_] z (fun _ => (tk 4 z)) fun g4 => dH z (fun _ h => pg (p := 9) (q := 8) h z z z) <| aQ <| jf <| bE H fun a1 d1 H => ix (r := 3) (j := 10) z z z z z z dW bZ z z z z z z z d1 (fun _ _ _ => kp) fun a2 a3 d2 => aa [.fa 26 0 0 bR] z <| sC 0 [S a2 a1.length a3] [_, _] 2 z ec z <| ax <| bW <| az <| CW.weak (C' := St w s [_, _, _, _]) ?_ (ss [0, 1, 2, 11] z z)
   exact aP <| aa [.p, .p, .p] z <| ax <| ct (RW.at (b1 (a1) (a2) (a3) (d2) (J.wrap (o + 1)) (H)) (ss [0, 1, 2, 3] z z) (sb z))
  ·exact bx <| aK <| aR <| aL <| az <| sR <| o1 z (rx 0 2 _ z br z) <| sC 0 [S f c.length g, I J p0.g_] [_, _] 1 z br z <| nT <| aO (rs := [.cell 2 26]) (vs := [.agg #[S f c.length g, I J p0.g_]]) z ⟨⟨_, [S f c.length g, I J p0.g_], _, _, _, z, br, (bn (T := 26) 0 (bJ (i := 1) z) z), z, z⟩, Y⟩ (fun w' hw' => by
    obtain rfl := af H
    exact ⟨_, z, f, c.length, g, m, z, hw'.sel [3] z z⟩)
theorem fy (w : World) {f : List Nat} {p0 : bf} {g : List Value} {r : bf} (H : eU p0 = U r) (HS : St w f [] w) (u : (jp).rd w f p0 g) :
    Calls Tryz.prog 83 #[.agg g.toArray] w (fun en w' => ∃ v, en = .returned v ∧ ∃ (j : Option Addr), ∃ (k : Nat), ∃ (c0 : Nat), ∃ (x : List Nat), v = .agg #[S j k c0, I J r.c_] ∧ St w f [W (ad e8 5) x r.r_ [S j k c0]] w') := by
 obtain ⟨A, C, rfl, h, l⟩ := iV u
 obtain ⟨m, o, rfl⟩ := ao h
 obtain rfl := l
 unfold eU at H
 exact aN Tryz.func83 z Tryz.ntmps83 z (HS) <| sR <| ob _ z fun p => aB z z z z bN (fun _ => kp) fun q => nQ <| am <| cw 6 [(1, y), (2, y), (4, y), (5, y), (0, n), (3, n)] (St w f [b p 117 [S m p0.r_.length o, I J p0.c_], b q 117 [S N 0 0, I J 0]]) bU (by kernel_rfl) (aJ bb) (tk 2 z) <| aa [.fa 117 0 0 qQ] z <| bm z (aw z) (r1 0 0 z sN z) <| aa [.fa 117 1 1 pz] z <| bm z (aw z) (r1 1 0 z ty3 z) <| bI (e := e8) z z z z fQ ty5 (fun _ => (tk 2 z)) fun D => bE H fun a s H => bC (r := 2) (ys := p0.r_) z z z z z z fQ ty5 z z z (ab h) s (fun _ _ _ => (tk 2 z)) fun c d t => aQ <| jf <| o1 z (bu [(0, [S c a.length d]), (1, [I J p0.c_])] [S c a.length d, I J p0.c_] z z bN DQ z ⟨z, z, nl z, z, z, nl z, Y⟩ z) <| sC 0 [S c a.length d, I J p0.c_] [_, _] 1 z bN z <| nT <| aO (rs := [.cell 2 117]) (vs := [.agg #[S c a.length d, I J p0.c_]]) z ⟨⟨_, [S c a.length d, I J p0.c_], _, _, _, z, bN, (bn (T := 117) 0 (bJ (i := 1) z) z), z, z⟩, Y⟩ (fun w' hw' => by
  obtain rfl := af H
  exact ⟨_, z, c, a.length, d, t, z, hw'.sel [2] z z⟩)
theorem ll (w : World) {p0 : Bool} {r : Int} (H : io p0 = U r)   :
    Calls Tryz.prog 41 #[B p0] w (fun en w' => en = .returned (I J r) ∧ Ext [] w w') := by
 unfold io at H
 refine aN Tryz.func41 z Tryz.ntmps41 z (St.init w []) <| sR <| oP z <| nQ <| am <| sR <| oP z <| nQ <| cI H z (fun H => ?_) (fun H => ?_)
 ·exact sR <| oP z <| nT <| aq <| xr 2 z (by cases H; exact q1)
 ·exact av <| az <| sR <| oP z <| nT <| xr 2 z (by cases H; exact q1)
theorem pm (w : World) {p0 : ae} {p1 : au} {p2 : Int} {g : List Value} {r : Int} (H : kq p0 p1 p2 = U r) (g0 : (bk).rd w [] p0 g) :
    Calls Tryz.prog 126 #[.agg g.toArray, .agg #[I J p1.j_, I J p1.c_], I J p2] w (fun en w' => en = .returned (I J r) ∧ Ext [] w w') := by
 obtain ⟨a3, a4, rfl, d, h⟩ := aX g0
 obtain ⟨a5, a6, rfl⟩ := ao d
 obtain ⟨a7, a8, rfl⟩ := ao h
 unfold kq at H
 refine aN Tryz.func126 z Tryz.ntmps126 z (St.init w []) <| sR <| ob _ z fun i => ob _ z fun j => oP z <| nQ <| am <| sR <| o1 z (rx 0 0 _ z cV z) <| o1 z (rx 0 1 _ z cL z) <| bE H fun k u H => oq z (qc z xF (fun a c => hY a (p1 := p1) u (ah (ab d a c) (ab h a c)))) tt2 <| oPP z <| bE H fun v e H => aV [(23, B v), (2, I J p2), (3, O (U ⟨i, 0, N⟩)), (4, O (U ⟨j, 0, N⟩))] 12 ?_ (fun key => OW.sub (R := [(2, I J p2), (3, O (U ⟨i, 0, N⟩)), (4, O (U ⟨j, 0, N⟩)), (11, B (!k))]) ?_ (sb z))
 ·refine nQ <| cI H z (fun H => ?_) (fun H => ?_)
  ·exact sR <| oP z <| nT <| aq <| xr 6 z (by cases H; exact q1)
  ·refine av <| az <| am <| sR <| aa [.fa 56 1 1 oB] z <| o1 z (r1 1 1 z ty3 z) <| oP z <| nQ <| cI H z (fun H => ?_) (fun H => ?_)
   ·exact sR <| oPP z <| nT <| aq <| xr 6 z (by cases H; exact q1)
   ·refine av <| az <| am <| sR <| aa [.fa 73 0 0 fE] z <| o1 z (r1 0 0 z lC z) <| aa [.fa 56 0 0 lj] z <| o1 z (r1 0 1 z ty3 z) <| bE H fun a9 x H => cf z z z z z lF km z d x fun b0 b1 o q => ?_
    obtain ⟨b2, b3, b4, rfl, A, C, D⟩ := cG o
    obtain rfl := A
    obtain ⟨b5, b6, rfl⟩ := ao C
    obtain ⟨b7, b8, rfl⟩ := ao D
    refine aa [.fa 90 1 1 mU] z <| o1 z (aM z z bG (ce bor (ni q 1 1))) <| aa [.lenS 45 3 aT, .p] z <| nQ <| cI H z (fun H => ?_) (fun H => ?_)
    ·exact sR <| aa [.p, .fa 56 1 1 oB] z <| o1 z (r1 1 1 z ty3 z) <| oP z <| bE H fun b9 E H => oq z (qc z Ce (fun a c => ll a E)) tt2 <| oP z <| nT <| aq <| xr 6 z (by cases H; exact q1)
    ·exact av <| az <| sR <| aa [.p, .fa 56 1 1 oB] z <| o1 z (r1 1 1 z ty3 z) <| oP z <| bE H fun c0 F H => oq z (qc z Ce (fun a c => ll a F)) tt2 <| oP z <| nT <| xr 6 z (by cases H; exact q1)
 ·clear H
  have H := e
  clear e
  generalize (!k) = G at H key ⊢
  cases G
  ·have H := bh z H
   refine aa [.p, .fa 73 0 0 fE] z <| o1 z (r1 0 0 z lC z) <| aa [.fa 56 0 0 lj] z <| o1 z (r1 0 1 z ty3 z) <| bE H fun f L H => cf z z z z z lF km z d L fun c1 c2 s t => ?_
   obtain ⟨c3, c4, c5, rfl, M, l, m⟩ := cG s
   obtain rfl := M
   obtain ⟨P, Q, rfl⟩ := ao l
   obtain ⟨X, Z, rfl⟩ := ao m
   refine o1 z (dk (cs := [vS f.D_, S P f.A_.length Q, S X f.E_.length Z]) z z km (ce bor t) z) <| bE H fun c6 a0 H => oq z (qc z wA (fun a c => iA a a0 (eE z (ab l a c) (ab m a c)))) tt2 <| oP z <| bE H fun c7 a1 H => oq z (qc z gN (fun a c => be a a1)) tt2 <| oP z <| oP z <| ?_
   obtain rfl := af H
   exact OW.sub key (sb z)
  ·have H := bi z H
   refine aa [.p, .p, .p, .p, .p, .p, .p, .p, .p, .p, .p, .p] z ?_
   obtain rfl := af H
   exact OW.sub key (sb z)
theorem um (w : World) {p : List Nat} {p0 : ae} {p1 : ai} {p2 : bB} {b1 : List Value} {b2 : List Value} {b3 : List Value} {r : List Int} (H : nU p0 p1 p2 = U r) (HS : St w p [] w) (g0 : (bk).rd w p p0 b1) (g1 : (cW).rd w p p1 b2) (g2 : (gc).rd w p p2 b3) :
    Calls Tryz.prog 114 #[.agg b1.toArray, .agg b2.toArray, .agg b3.toArray] w (fun en w' => ∃ v, en = .returned v ∧ ∃ (a0 : Option Addr), ∃ (n0 : Nat), ∃ (c0 : Nat), ∃ (F0 : List Nat), v = S a0 n0 c0 ∧ St w p [W (ad eI 3) F0 r [S a0 n0 c0]] w') := by
 obtain ⟨l7, l8, rfl, b4, b5⟩ := aX g0
 obtain ⟨f4, f5, rfl⟩ := ao b4
 obtain ⟨f6, f7, rfl⟩ := ao b5
 obtain ⟨l9, m0, rfl, q, f8⟩ := cr g1
 obtain ⟨f9, g3, rfl⟩ := ao q
 obtain rfl := f8
 obtain ⟨m1, m2, rfl, m, g4⟩ := lb g2
 obtain ⟨g5, g6, rfl⟩ := ao m
 obtain rfl := g4
 unfold nU at H
 refine aN Tryz.func114 z Tryz.ntmps114 z (HS) <| sR <| ob _ z fun b6 => ob _ z fun b7 => ob _ z fun b8 => oP z <| nR <| bI (e := eI) z z z z aT ty3 (fun _ => kp) fun b9 => oP z <| nR <| oP z <| nQ <| am <| ay <| CW.at (iw (fun (d : List Int) (f : Option Addr) (g : Nat) (l : List Nat) (c : Int) => St w p [b b6 73 [S f4 p0.f_.length f5, S f6 p0.n_.length f7], b b7 26 [S f9 p1.a_.length g3, I J p1.g_], b b8 113 [S g5 p2.w_.length g6, I J p2.y_], W (ad eI 3) l d [S f d.length g]]) (fun d f g l c => [(3, O (U ⟨b6, 0, N⟩)), (4, O (U ⟨b7, 0, N⟩)), (5, O (U ⟨b8, 0, N⟩)), (7, S f d.length g), (8, I J c)]) (fun kk => fun d f g l c => f.isNone = n ∧ gv p1 p2 p0 kk d c = U r) (fun _ _ _ _ _ H => ?_) (fun k1 s d f g l c ⟨g7, H⟩ => ?_) aY (([] : List Int)) ((U ⟨b9, 0, N⟩)) (0) ([b9]) (0) (⟨z, H⟩)) (ss [0, 1, 2, 3] z z) (sb z)
 ·unfold gv at H
  exact absurd H (by simp)
 ·unfold gv at H
  refine am <| sR <| aa [.fa 26 0 0 bR] z <| o1 z (r1 0 1 z ec z) <| oP z <| bE H fun h4 c1 H => cf z z z z z dW bZ z q c1 fun h5 h6 a7 a8 => ?_
  obtain ⟨h7, h8, h9, i0, i1, i2, i3, i4, i5, i6, rfl, c2, c3, c4, c5, c6, c7, c8, c9, d0, d1⟩ := bo a7
  obtain rfl := c2
  obtain rfl := c3
  obtain ⟨i7, i8, rfl⟩ := ao c4
  obtain rfl := c5
  obtain ⟨i9, j0, rfl, d2, d3⟩ := aS c6
  obtain ⟨j1, j2, rfl⟩ := ao d2
  obtain ⟨j3, j4, rfl⟩ := ao d3
  obtain rfl := c7
  obtain ⟨j5, j6, rfl⟩ := ao c8
  obtain rfl := c9
  obtain rfl := d0
  obtain rfl := d1
  refine aa [.fa 60 0 0 mw] z <| o1 z (aM z z ty4 (ce bor (ni a8 0 1))) <| oP z <| nQ <| cI H z (fun H => ?_) (fun H => ?_)
  ·refine av <| az <| ay <| sR <| oPP z <| bq (val := I J) (h1 := fun _ => z) [c] [(0, [I J c])] z z z z z aT ty3 z z z ⟨z, z, nl z, Y⟩ z z (fun _ => kp) fun j7 => bE H fun t u H => bC (r := 3) (ys := ([c] : List Int)) z z z z z z aT ty3 z z z (ap (e := ad eI 3) (r := 4) z) u (fun _ _ _ => kp) fun x A C => cc z (fun D k => fh (i := 3) k z (fe u)) fun o => oP z <| nR <| aa [.fa 26 0 0 bR] z <| o1 z (r1 0 1 z ec z) <| oP z <| bE H fun a d4 H => cf z z z z z dW bZ z q d4 fun j8 j9 a9 b0 => ?_
   obtain ⟨k0, k2, k3, k4, k5, k6, k7, k8, k9, l0, rfl, d5, d6, h, d7, d8, d9, e0, e1, e2, e3⟩ := bo a9
   obtain rfl := d5
   obtain rfl := d6
   obtain ⟨E, F, rfl⟩ := ao h
   obtain rfl := d7
   obtain ⟨l1, l2, rfl, e4, e5⟩ := aS d8
   obtain ⟨G, L, rfl⟩ := ao e4
   obtain ⟨M, P, rfl⟩ := ao e5
   obtain rfl := d9
   obtain ⟨Q, R, rfl⟩ := ao e0
   obtain rfl := e1
   obtain rfl := e2
   obtain rfl := e3
   refine o1 z (dk (cs := [B a.s_, I J a.k_.j_, I J a.k_.c_, S E a.t_.length F, I J a.x_, S G a.m_.d_.length L, S M a.m_.b_.length P, I J a.v_, S Q a.f_.length R, I J a.l_, I J a.p_, I J a.q_]) z z bZ (ce bor b0) z) <| aB z z z z bZ (fun _ => kp) fun l3 => sC 0 [B a.s_, I J a.k_.j_, I J a.k_.c_, S E a.t_.length F, I J a.x_, S G a.m_.d_.length L, S M a.m_.b_.length P, I J a.v_, S Q a.f_.length R, I J a.l_, I J a.p_, I J a.q_] [_, _, _, _, _, _, _, _, _, _, _, _] 5 z bZ z <| nR <| aa [.fa 60 3 4 pb] z <| o1 z (r1 4 5 z ty3 z) <| oP z <| nQ <| am <| sR <| aa [.fa 113 0 0 me] z <| o1 z (r1 0 2 z bG z) <| aa [.fa 60 1 1 kL, .fa 56 0 0 lj] z <| o1 z (r1 1 5 z ty3 z) <| bE H fun l4 X H => bF (e := eI) (xs := p2.w_) (j := a.k_.j_) z z z z z aT ty3 z (ab m) X (by rw [Nat.mul_one]) <| o1 z (aM z z ty3 (bO (ab m) X)) <| oP z <| nQ <| cI H z (fun H => ?_) (fun H => ?_)
   ·exact dR bU (by kernel_rfl) <| o1 z (rx 0 0 _ z cV z) <| aa [.fa 60 1 1 kL] z <| o1 z (rx 1 5 _ z cL z) <| aa [.fa 113 0 0 me] z <| o1 z (r1 0 2 z bG z) <| aa [.fa 60 1 1 kL, .fa 56 0 0 lj] z <| o1 z (r1 1 5 z ty3 z) <| bE H fun l5 Z H => bF (e := eI) (xs := p2.w_) (j := a.k_.j_) z z z z z aT ty3 z (ab m) Z (by rw [Nat.mul_one]) <| o1 z (aM z z ty3 (bO (ab m) Z)) <| bE H fun e6 e7 H => oq z (qc z DH (fun D k => pm D (p1 := a.k_) e7 (ah (ab b4 D k) (ab b5 D k)))) tt2 <| oP z <| co <| az <| aP <| aa [.fa 60 2 3 iX] z <| o1 z (r1 3 5 z bG z) <| oP z <| bE H fun e9 a1 H => bF (e := eI) (xs := a.t_) (j := e6) z z z z z aT ty3 z (ab h) a1 (by rw [Nat.mul_one]) <| o1 z (aM z z ty3 (bO (ab h) a1)) <| oP z <| ax <| bW <| ct (RW.at (s (t) (x) (A) (C) (e9) (⟨o, H⟩)) (ss [0, 1, 2, 3] z z) (sb z))
   ·exact av <| az <| aP <| aa [.fa 60 2 3 iX] z <| o1 z (r1 3 5 z bG z) <| oP z <| bE H fun f0 a2 H => bF (e := eI) (xs := a.t_) (j := a.x_) z z z z z aT ty3 z (ab h) a2 (by rw [Nat.mul_one]) <| o1 z (aM z z ty3 (bO (ab h) a2)) <| oP z <| ax <| bW <| ct (RW.at (s (t) (x) (A) (C) (f0) (⟨o, H⟩)) (ss [0, 1, 2, 3] z z) (sb z))
  ·exact bx <| aK <| aR <| aL <| az <| sR <| oPP z <| bq (val := I J) (h1 := fun _ => z) [c] [(0, [I J c])] z z z z z aT ty3 z z z ⟨z, z, nl z, Y⟩ z z (fun _ => kp) fun l6 => bE H fun a3 a4 H => bC (r := 3) (ys := ([c] : List Int)) z z z z z z aT ty3 z z z (ap (e := ad eI 3) (r := 4) z) a4 (fun _ _ _ => kp) fun a5 a6 f1 => cc z (fun D k => fh (i := 3) k z (fe a4)) fun g8 => oP z <| nT <| aO (rs := [.tmp 6]) (vs := [S a5 a3.length a6]) z ⟨z, Y⟩ (fun w' hw' => by
    obtain rfl := af H
    exact ⟨_, z, a5, a3.length, a6, f1, z, hw'.sel [3] z z⟩)
theorem vu (w : World) {g : List Nat} {p0 : ae} {p1 : ai} {p2 : bB} {o : List Value} {q : List Value} {s : List Value} {r : List Int} (H : oR p0 p1 p2 = U r) (HS : St w g [] w) (g0 : (bk).rd w g p0 o) (g1 : (cW).rd w g p1 q) (g2 : (gc).rd w g p2 s) :
    Calls Tryz.prog 100 #[.agg o.toArray, .agg q.toArray, .agg s.toArray] w (fun en w' => ∃ v, en = .returned v ∧ ∃ (G : Option Addr), ∃ (L : Nat), ∃ (c0 : Nat), ∃ (F0 : List Nat), v = S G L c0 ∧ St w g [W (ad eI 3) F0 r [S G L c0]] w') := by
 obtain ⟨a8, a9, rfl, d, f⟩ := aX g0
 obtain ⟨b0, b1, rfl⟩ := ao d
 obtain ⟨b2, b3, rfl⟩ := ao f
 obtain ⟨b4, b5, rfl, h, M⟩ := cr g1
 obtain ⟨b6, b7, rfl⟩ := ao h
 obtain rfl := M
 obtain ⟨b8, b9, rfl, j, P⟩ := lb g2
 obtain ⟨c1, c2, rfl⟩ := ao j
 obtain rfl := P
 unfold oR at H
 refine aN Tryz.func100 z Tryz.ntmps100 z (HS) <| sR <| ob _ z fun t => ob _ z fun u => ob _ z fun x => oP z <| nQ <| am <| sR <| o1 z (rx 0 0 _ z cV z) <| o1 z (rx 0 1 _ z br z) <| bE H fun A Q H => oq z (qc z AA (fun c a => kE c Q (ah (ab d c a) (ab f c a)) (aW (ab h c a) z))) tt2 <| oPP z <| bE H fun X k H => aV [(16, B X), (3, O (U ⟨t, 0, N⟩)), (4, O (U ⟨u, 0, N⟩)), (5, O (U ⟨x, 0, N⟩))] 5 ?_ (fun key => OW.sub (R := [(3, O (U ⟨t, 0, N⟩)), (4, O (U ⟨u, 0, N⟩)), (5, O (U ⟨x, 0, N⟩)), (11, B (!A))]) ?_ (sb z))
 ·refine nQ <| cI H z (fun H => ?_) (fun H => ?_)
  ·exact sR <| bI (e := eI) z z z z aT ty3 (fun _ => kp) fun l => oP z <| nT <| aq <| aO (rs := [.tmp 6]) (vs := [S (U ⟨l, 0, N⟩) 0 0]) z ⟨z, Y⟩ (fun w' hw' => by
    obtain rfl := af H
    exact ⟨_, z, (U ⟨l, 0, N⟩), 0, 0, [l], z, hw'.sel [3] z z⟩)
  ·refine av <| az <| sR <| o1 z (rx 0 0 _ z cV z) <| o1 z (rx 0 1 _ z br z) <| o1 z (rx 0 2 _ z jU z) <| bE H fun C Z H => aj z EF z z z z (fun c a => um c Z (a.carve [] z z) (ah (ab d c a) (ab f c a)) (aW (ab h c a) z) (bV (ab j c a) z)) fun c3 c w2 a F => ?_
   obtain ⟨D, c4, E, a1, rfl, m⟩ := F
   obtain rfl := aA (i := 0) m z
   refine ⟨St w g [_, _, _, _], a.comp [] z z m, fun _ _ => Y, ?_⟩
   exact oP z <| nT <| aO (rs := [.tmp 6]) (vs := [S D C.length E]) z ⟨z, Y⟩ (fun w' hw' => by
    obtain rfl := af H
    exact ⟨_, z, D, C.length, E, a1, z, hw'.sel [3] z z⟩)
 ·clear H
  have H := k
  clear k
  generalize (!A) = a2 at H key ⊢
  cases a2
  ·have H := bh z H
   refine o1 z (rx 0 0 _ z cV z) <| o1 z (rx 0 2 _ z jU z) <| bE H fun c5 a3 H => oq z (qc z Ew (fun c a => pB c a3 (ah (ab d c a) (ab f c a)) (bV (ab j c a) z))) tt2 <| oP z <| oP z <| ?_
   obtain rfl := af H
   exact OW.sub key (sb z)
  ·have H := bi z H
   refine aa [.p, .p, .p, .p, .p] z ?_
   obtain rfl := af H
   exact OW.sub key (sb z)
theorem tT (w : World) {p0 : ae} {p1 : ai} {p2 : bB} {f : List Value} {g : List Value} {h : List Value} {r : Int} (H : ms p0 p1 p2 = U r) (A : (bk).rd w [] p0 f) (C : (cW).rd w [] p1 g) (D : (gc).rd w [] p2 h) :
    Calls Tryz.prog 84 #[.agg f.toArray, .agg g.toArray, .agg h.toArray] w (fun en w' => en = .returned (I J r) ∧ Ext [] w w') := by
 obtain ⟨E, F, rfl, k, l⟩ := aX A
 obtain ⟨G, L, rfl⟩ := ao k
 obtain ⟨M, P, rfl⟩ := ao l
 obtain ⟨Q, R, rfl, m, u⟩ := cr C
 obtain ⟨X, Z, rfl⟩ := ao m
 obtain rfl := u
 obtain ⟨a0, a1, rfl, o, v⟩ := lb D
 obtain ⟨a2, a3, rfl⟩ := ao o
 obtain rfl := v
 unfold ms at H
 refine aN Tryz.func84 z Tryz.ntmps84 z (St.init w []) <| sR <| ob _ z fun a4 => ob _ z fun a5 => ob _ z fun a6 => oP z <| nR <| o1 z (rx 0 0 _ z cV z) <| o1 z (rx 0 1 _ z br z) <| o1 z (rx 0 2 _ z jU z) <| bE H fun q x H => aj z Fd z z z z (fun c a => vu c x (a.carve [] z z) (ah (ab k c a) (ab l c a)) (aW (ab m c a) z) (bV (ab o c a) z)) fun a7 c w2 a t => ?_
 obtain ⟨a8, a9, b0, b1, rfl, d⟩ := t
 obtain rfl := aA (i := 0) d z
 refine ⟨St w [] [_, _, _, _], a.comp [] z z d, fun _ _ => Y, ?_⟩
 refine oP z <| nQ <| am <| sR <| aa [.p, .lenS 45 3 aT, .p] z <| nQ <| cI H z (fun H => ?_) (fun H => ?_)
 ·exact sR <| oP z <| nT <| aq <| xr 6 z (by cases H; exact q1)
 ·exact av <| az <| sR <| aa [.p, .p, .lenS 45 3 aT, .p] z <| bE H fun b2 s H => bF (e := eI) (xs := q) (j := J.wrap ((q.length : Int) - 1)) z z z z z aT ty3 z (ap (e := ad eI 3) (r := 3) z) s (by rw [Nat.mul_one]) <| o1 z (aM z z ty3 (bO (ap (e := ad eI 3) (r := 3) z) s)) <| oP z <| nT <| xr 6 z (by cases H; exact q1)
theorem kT (w : World) {C : List Nat} {p0 : ae} {p1 : ar} {p2 : bB} {p3 : Int} {b5 : List Value} {b6 : List Value} {b7 : List Value} {r : ar × Bool} (H : iF p0 p1 p2 p3 = U r) (HS : St w C [] w) (g0 : (bk).rd w C p0 b5) (g1 : (cb).rd w C p1 b6) (g2 : (gc).rd w C p2 b7) :
    Calls Tryz.prog 75 #[.agg b5.toArray, .agg b6.toArray, .agg b7.toArray, I J p3] w (fun en w' => ∃ v, en = .returned v ∧ ∃ (a0 : Option Addr), ∃ (n0 : Nat), ∃ (c0 : Nat), ∃ (F0 : List Nat), ∃ (a1 : Option Addr), ∃ (n1 : Nat), ∃ (c1 : Nat), ∃ (F1 : List Nat), v = .tuple #[.agg #[S a0 n0 c0, S a1 n1 c1], B r.2] ∧ St w C [W (ad eI 3) F0 r.1.d_ [S a0 n0 c0], W (ad (ad eI 3) 45) F1 r.1.b_ [S a1 n1 c1]] w') := by
 obtain ⟨g8, g9, rfl, Z, a2⟩ := aX g0
 obtain ⟨d4, d5, rfl⟩ := ao Z
 obtain ⟨d6, d7, rfl⟩ := ao a2
 obtain ⟨h0, h1, rfl, a3, a4⟩ := aS g1
 obtain ⟨h2, h3, rfl⟩ := ao a3
 obtain ⟨h4, h5, rfl⟩ := ao a4
 obtain ⟨h6, h7, rfl, D, d8⟩ := lb g2
 obtain ⟨d9, e0, rfl⟩ := ao D
 obtain rfl := d8
 unfold iF at H
 refine aN Tryz.func75 z Tryz.ntmps75 z (HS) <| sR <| ob _ z fun o => ob _ z fun x => ob _ z fun s => aB z z z z cK (fun _ => kp) fun t => oP z <| nR <| o1 z (rx 0 1 _ z cK z) <| bE H fun c e1 H => aj z EP z z z z (fun d a => qJ d e1 (a.carve [] z z) (aH (ab a3 d a) (ab a4 d a))) fun h8 d w2 a c5 => ?_
 obtain ⟨g, h9, k, a5, l, i0, m, b8, rfl, P⟩ := c5
 obtain rfl := aA (i := 0) P z
 obtain rfl := aA (i := 1) P z
 refine ⟨St w C [_, _, _, _, _, _], a.comp [] z z P, fun _ _ => Y, ?_⟩
 refine aB z z z z cK (fun _ => kp) fun u => sC 0 [S g c.d_.length k, S l c.b_.length m] [_, _] 6 z cK z <| nQ <| am <| sR <| o1 z (rx 0 0 _ z cV z) <| o1 z (rx 0 1 _ z cK z) <| bE H fun b9 e2 H => oq z (qc z wq (fun d a => fz d e2 (ah (ab Z d a) (ab a2 d a)) (aH (ab a3 d a) (ab a4 d a)))) tt2 <| oPP z <| bE H fun E a6 H => aV [(24, B E), (3, I J p3), (4, O (U ⟨o, 0, N⟩)), (5, O (U ⟨x, 0, N⟩)), (6, O (U ⟨s, 0, N⟩)), (8, O (U ⟨t, 0, N⟩)), (10, O (U ⟨u, 0, N⟩))] 5 ?_ (fun key => OW.sub (R := [(3, I J p3), (4, O (U ⟨o, 0, N⟩)), (5, O (U ⟨x, 0, N⟩)), (6, O (U ⟨s, 0, N⟩)), (8, O (U ⟨t, 0, N⟩)), (10, O (U ⟨u, 0, N⟩)), (19, B (!b9))]) ?_ (sb z))
 ·refine oP z <| aV [(29, B (E || (decide (p2.y_ < 0)))), (3, I J p3), (4, O (U ⟨o, 0, N⟩)), (5, O (U ⟨x, 0, N⟩)), (6, O (U ⟨s, 0, N⟩)), (8, O (U ⟨t, 0, N⟩)), (10, O (U ⟨u, 0, N⟩))] 4 ?_ (fun key => OW.sub (R := [(3, I J p3), (4, O (U ⟨o, 0, N⟩)), (5, O (U ⟨x, 0, N⟩)), (6, O (U ⟨s, 0, N⟩)), (8, O (U ⟨t, 0, N⟩)), (10, O (U ⟨u, 0, N⟩)), (25, B E)]) ?_ (sb z))
  ·refine oP z <| bE H fun a7 a8 H => aV [(34, B a7), (3, I J p3), (4, O (U ⟨o, 0, N⟩)), (5, O (U ⟨x, 0, N⟩)), (6, O (U ⟨s, 0, N⟩)), (8, O (U ⟨t, 0, N⟩)), (10, O (U ⟨u, 0, N⟩))] 4 ?_ (fun key => OW.sub (R := [(3, I J p3), (4, O (U ⟨o, 0, N⟩)), (5, O (U ⟨x, 0, N⟩)), (6, O (U ⟨s, 0, N⟩)), (8, O (U ⟨t, 0, N⟩)), (10, O (U ⟨u, 0, N⟩)), (30, B (E || (decide (p2.y_ < 0))))]) ?_ (sb z))
   ·refine oP z <| bE H fun e3 a9 H => aV [(42, B e3), (3, I J p3), (4, O (U ⟨o, 0, N⟩)), (6, O (U ⟨s, 0, N⟩)), (8, O (U ⟨t, 0, N⟩)), (10, O (U ⟨u, 0, N⟩))] 7 ?_ (fun key => OW.sub (R := [(3, I J p3), (4, O (U ⟨o, 0, N⟩)), (5, O (U ⟨x, 0, N⟩)), (6, O (U ⟨s, 0, N⟩)), (8, O (U ⟨t, 0, N⟩)), (10, O (U ⟨u, 0, N⟩)), (35, B a7)]) ?_ (sb z))
    ·refine nQ <| cI H z (fun H => ?_) (fun H => ?_)
     ·exact sR <| o1 z (rx 0 6 _ z cK z) <| sC 0 [S g c.d_.length k, S l c.b_.length m] [_, _] 3 z cK z <| oP z <| nT <| aq <| aO (rs := [.cell 8 58, .tmp 9]) (vs := [.agg #[S g c.d_.length k, S l c.b_.length m], B n]) z ⟨⟨_, [S g c.d_.length k, S l c.b_.length m], _, _, _, z, cK, (bn (T := 58) 0 (bJ (i := 3) z) z), z, z⟩, z, Y⟩ (fun w' hw' => by
       obtain rfl := af H
       exact ⟨_, z, g, c.d_.length, k, a5, l, c.b_.length, m, b8, z, hw'.sel [4, 5] z z⟩)
     ·refine av <| az <| am <| rI 13 bU (by kernel_rfl) <| aa [.fa 58 0 0 jc] z <| o1 z (r1 0 6 z bG z) <| aa [.fa 113 1 1 oI] z <| o1 z (r1 1 2 z ty3 z) <| aa [.fa 58 0 0 jc] z <| o1 z (r1 0 6 z bG z) <| aa [.fa 113 1 1 oI] z <| o1 z (r1 1 2 z ty3 z) <| bE H fun c2 c3 H => bF (e := eI) (xs := c.d_) (j := p2.y_) z z z z z aT ty3 z (ap (e := ad eI 3) (r := 4) z) c3 (by rw [Nat.mul_one]) <| o1 z (aM z z ty3 (bO (ap (e := ad eI 3) (r := 4) z) c3)) <| oPP z <| bE H fun i1 c4 H => bF (e := eI) (xs := c.d_) (j := p2.y_) z z z z z aT ty3 z (ap (e := ad eI 3) (r := 4) z) c4 (by rw [Nat.mul_one]) <| co <| lW (i := 4) (j := p2.y_) z z z z z z ty3 z c4 (fun _ => z) kp <| nQ <| am <| sR <| oP z <| nQ <| ay <| CW.at (Cp (fun (A : List (List Int)) (F : List Nat) (f : Int) => St w C [b u 58 [S g c.d_.length k, S l c.b_.length m], W (ad eI 3) a5 (c.d_.set p2.y_.toNat (J.wrap (c2 + p3))) [S g c.d_.length k], W (ad (ad eI 3) 45) F A [S l c.b_.length m], b o 73 [S d4 p0.f_.length d5, S d6 p0.n_.length d7], b s 113 [S d9 p2.w_.length e0, I J p2.y_], b t 58 [S N 0 0, S N 0 0]]) (fun A F f => [(3, I J p3), (4, O (U ⟨o, 0, N⟩)), (6, O (U ⟨s, 0, N⟩)), (8, O (U ⟨t, 0, N⟩)), (10, O (U ⟨u, 0, N⟩)), (11, I J f)]) (fun kk => fun A F f => eR c p2 p0 p3 c2 kk A f = U r) (fun _ _ _ H => ?_) (fun k1 b0 A F f H => ?_) aY (c.b_) (b8) (0) (H)) (ss [6, 4, 5, 0, 2, 3] z z) (sb z)
      ·unfold eR at H
       exact absurd H (by simp)
      ·unfold eR at H
       refine am <| sR <| aa [.p, .fa 58 1 1 dt] z <| o1 z (r1 1 0 z cY z) <| aa [.lenS 28 45 cC, .p] z <| nQ <| cI H z (fun H => ?_) (fun H => ?_)
       ·refine av <| az <| am <| ay <| sR <| aa [.fa 113 0 0 me] z <| o1 z (r1 0 4 z bG z) <| oP z <| bE H fun f7 b1 H => bF (e := eI) (xs := p2.w_) (j := f) z z z z z aT ty3 z (ab D) b1 (by rw [Nat.mul_one]) <| o1 z (aM z z ty3 (bO (ab D) b1)) <| oP z <| nQ <| cI H z (fun H => ?_) (fun H => ?_)
        ·refine am <| dR bU (by kernel_rfl) <| aa [.fa 113 0 0 me] z <| o1 z (r1 0 4 z bG z) <| oP z <| bE H fun G b2 H => bF (e := eI) (xs := p2.w_) (j := f) z z z z z aT ty3 z (ab D) b2 (by rw [Nat.mul_one]) <| o1 z (aM z z ty3 (bO (ab D) b2)) <| aa [.fa 73 1 1 ks] z <| o1 z (r1 1 3 z nJ z) <| aa [.lenS 71 9 lD, .p, .fa 113 1 1 oI] z <| o1 z (r1 1 4 z ty3 z) <| oPP z <| co <| az <| bE H fun Q X H => nZ (fun d a => foc (r := 2) a z X) fun f8 f9 g3 g4 => gz (fun d a => a.1) fun c6 => ?_
         obtain ⟨L, M⟩ := c6
         refine CW.weak (C' := St w C [_, _, _, _, _, _, _, _]) ?_ (fun d a => a.2)
         refine qG (fun d a => qE (i := 7) a z) fun g5 g6 => gz (fun d a => a.1) fun c7 => ?_
         subst c7
         refine CW.weak (C' := St w C [_, _, _, _, _, _, _, _]) ?_ (fun d a => a.2)
         exact rI 17 bU (by kernel_rfl) <| aa [.fa 58 1 1 dt] z <| o1 z (r1 1 0 z cY z) <| oP z <| eZ z z z z z cC bG z (ez (p := 6) z) M L (cg X).1 <| o1 z (jO 6 0 z z z bG (by first | rfl | simp only [cE, cS, cz]) z) <| aa [.p, .fa 58 1 1 dt] z <| o1 z (r1 1 0 z cY z) <| oP z <| eZ z z z z z cC bG z (ez (p := 6) z) M L (cg X).1 <| o1 z (jO 6 0 z z z bG (by first | rfl | simp only [cE, cS, cz]) z) <| oP z <| bE H fun c8 b3 H => bF (e := eI) (xs := Q) (j := J.wrap ((J.wrap (G * (p0.n_.length : Int))) + p2.y_)) z z z z z aT ty3 z (ap (e := ad eI 3) (r := 7) z) b3 (by rw [Nat.mul_one]) <| o1 z (aM z z ty3 (bO (ap (e := ad eI 3) (r := 7) z) b3)) <| oPP z <| bE H fun g7 b4 H => bF (e := eI) (xs := Q) (j := J.wrap ((J.wrap (G * (p0.n_.length : Int))) + p2.y_)) z z z z z aT ty3 z (ap (e := ad eI 3) (r := 7) z) b4 (by rw [Nat.mul_one]) <| co <| lW (i := 7) (j := J.wrap ((J.wrap (G * (p0.n_.length : Int))) + p2.y_)) z z z z z z ty3 z b4 (fun _ => z) kp <| ax <| bW <| az <| aP <| aa [.p, .p, .p] z <| ax <| gR (fun d a => unf (p := 6) (q := 7) a z z z M L) fun c9 => eG (C' := St w C [_, _, _, _, _, _, _, _, _]) (fun _ h => h) <| ct (RW.at (b0 ((A.set f.toNat (Q.set (J.wrap ((J.wrap (G * (p0.n_.length : Int))) + p2.y_)).toNat (J.wrap (c8 + p3))))) (c9) (J.wrap (f + 1)) (H)) (ss [0, 1, 8, 3, 4, 5] z z) (sb z))
        ·exact av <| bW <| az <| aP <| aa [.p, .p, .p] z <| ax <| ct (RW.at (b0 (A) (F) (J.wrap (f + 1)) (H)) (ss [0, 1, 2, 3, 4, 5] z z) (sb z))
       ·exact bx <| aK <| aR <| aL <| az <| sR <| o1 z (rx 0 0 _ z cK z) <| sC 0 [S g c.d_.length k, S l c.b_.length m] [_, _] 5 z cK z <| oP z <| nT <| aO (rs := [.cell 8 58, .tmp 9]) (vs := [.agg #[S g c.d_.length k, S l c.b_.length m], B y]) z ⟨⟨_, [S g c.d_.length k, S l c.b_.length m], _, _, _, z, cK, (bn (T := 58) 0 (bJ (i := 5) z) z), z, z⟩, z, Y⟩ (fun w' hw' => by
         obtain rfl := af H
         exact ⟨_, z, g, c.d_.length, k, a5, l, c.b_.length, m, F, z, hw'.sel [1, 2] z z⟩)
    ·clear H
     have H := a9
     clear a9
     generalize a7 = e4 at H key ⊢
     cases e4
     ·have H := bh z H
      refine o1 z (rx 0 0 _ z cV z) <| o1 z (rx 0 1 _ z cK z) <| bE H fun i2 e5 H => oq z (qc z Ci (fun d a => iY d e5 (ah (ab Z d a) (ab a2 d a)) (aH (ab a3 d a) (ab a4 d a)))) tt2 <| aa [.p, .p, .p] z <| oP z <| ?_
      obtain rfl := af H
      exact OW.sub key (sb z)
     ·have H := bi z H
      refine aa [.p, .p, .p, .p, .p, .p, .p] z ?_
      obtain rfl := af H
      exact OW.sub key (sb z)
   ·clear H
    have H := a8
    clear a8
    generalize (E || (decide (p2.y_ < 0))) = e6 at H key ⊢
    cases e6
    ·have H := bh z H
     refine oP z <| bE H fun i3 e7 H => oq z (qc z gN (fun d a => be d e7)) tt2 <| oP z <| oP z <| ?_
     obtain rfl := af H
     exact OW.sub key (sb z)
    ·have H := bi z H
     refine aa [.p, .p, .p, .p] z ?_
     obtain rfl := af H
     exact OW.sub key (sb z)
  ·generalize E = e9 at key ⊢
   cases e9
   ·exact aa [.fa 113 1 1 oI] z <| o1 z (r1 1 2 z ty3 z) <| oP z <| oP z <| OW.sub key (sb z)
   ·exact aa [.p, .p, .p, .p] z <| OW.sub key (sb z)
 ·clear H
  have H := a6
  clear a6
  generalize (!b9) = f0 at H key ⊢
  cases f0
  ·have H := bh z H
   refine o1 z (rx 0 0 _ z cV z) <| o1 z (rx 0 2 _ z jU z) <| bE H fun i4 f1 H => oq z (qc z Ew (fun d a => pB d f1 (ah (ab Z d a) (ab a2 d a)) (bV (ab D d a) z))) tt2 <| oP z <| oP z <| ?_
   obtain rfl := af H
   exact OW.sub key (sb z)
  ·have H := bi z H
   refine aa [.p, .p, .p, .p, .p] z ?_
   obtain rfl := af H
   exact OW.sub key (sb z)
theorem rv (w : World) {A : List Nat} {p0 : ae} {p1 : List Int} {p2 : Bool} {b4 : List Value} {a_1 : Option Addr} {n_1 c_1 : Nat} {r : List au} (H : kl p0 p1 p2 = U r) (HS : St w A [] w) (g0 : (bk).rd w A p0 b4) (C : (ad eI 3).rd w A p1 [S a_1 n_1 c_1]) :
    Calls Tryz.prog 136 #[.agg b4.toArray, S a_1 n_1 c_1, B p2] w (fun en w' => ∃ v, en = .returned v ∧ ∃ (a0 : Option Addr), ∃ (n0 : Nat), ∃ (c0 : Nat), ∃ (F0 : List Nat), v = S a0 n0 c0 ∧ St w A [W (ad (bD) 56) F0 r [S a0 n0 c0]] w') := by
 obtain ⟨e9, f0, rfl, F, X⟩ := aX g0
 obtain ⟨G, L, rfl⟩ := ao F
 obtain ⟨M, P, rfl⟩ := ao X
 obtain rfl := fp C
 unfold kl at H
 refine aN Tryz.func136 z Tryz.ntmps136 z (HS) <| sR <| ob _ z fun x => oP z <| nR <| bI (e := bD) z z z z oa cL (fun _ => kp) fun D => oP z <| nQ <| am <| sR <| o1 z (rx 0 0 _ z cV z) <| oP z <| bE H fun f1 d3 H => oq z (qc z zY (fun u k => jg u d3 (ah (ab F u k) (ab X u k)) (ab C u k))) tt2 <| oP z <| nQ <| cI H z (fun H => ?_) (fun H => ?_)
 ·exact sR <| oPP z <| nT <| aq <| aO (rs := [.tmp 6]) (vs := [S (U ⟨D, 0, N⟩) 0 0]) z ⟨z, Y⟩ (fun w' hw' => by
   obtain rfl := af H
   exact ⟨_, z, (U ⟨D, 0, N⟩), 0, 0, [D], z, hw'.sel [1] z z⟩)
 ·refine av <| az <| am <| sR <| oP z <| nQ <| ay <| CW.at (iw (fun (c : List au) (f : Option Addr) (g : Nat) (q : List Nat) (d : Int) => St w A [b x 73 [S G p0.f_.length L, S M p0.n_.length P], W (ad (bD) 56) q c [S f c.length g]]) (fun c f g q d => [(1, S a_1 p1.length c_1), (2, B p2), (3, O (U ⟨x, 0, N⟩)), (7, S f c.length g), (8, I J d)]) (fun kk => fun c f g q d => f.isNone = n ∧ da p1 p0 p2 kk c d = U r) (fun _ _ _ _ _ H => ?_) (fun k1 Z c f g q d ⟨a9, H⟩ => ?_) aY (([] : List au)) ((U ⟨D, 0, N⟩)) (0) ([D]) (0) (⟨z, H⟩)) (ss [0, 1] z z) (sb z)
  ·unfold da at H
   exact absurd H (by simp)
  ·unfold da at H
   refine am <| sR <| aa [.p, .p, .lenS 45 3 aT, .p] z <| nQ <| cI H z (fun H => ?_) (fun H => ?_)
   ·refine av <| az <| am <| ay <| am <| am <| dR bU (by kernel_rfl) <| aa [.fa 73 0 0 fE] z <| o1 z (r1 0 0 z lC z) <| oPP z <| bE H fun d7 a1 H => bF (e := eI) (xs := p1) (j := d) z z z z z aT ty3 z (ab C) a1 (by rw [Nat.mul_one]) <| o1 z (aM z z ty3 (bO (ab C) a1)) <| bE H fun E b5 H => cf z z z z z lF km z F b5 fun d8 d9 b0 b1 => ?_
    obtain ⟨e0, e1, e2, rfl, b6, b7, b8⟩ := cG b0
    obtain rfl := b6
    obtain ⟨e3, e4, rfl⟩ := ao b7
    obtain ⟨e5, e6, rfl⟩ := ao b8
    refine aa [.fa 90 1 1 mU] z <| o1 z (aM z z bG (ce bor (ni b1 1 1))) <| aa [.lenS 45 3 aT, .p, .p] z <| aV [(37, B (((E.A_.length : Int) == 0) && (!p2))), (1, S a_1 p1.length c_1), (2, B p2), (3, O (U ⟨x, 0, N⟩)), (7, S f c.length g), (8, I J d)] 3 ?_ (fun key => OW.sub (R := [(1, S a_1 p1.length c_1), (2, B p2), (3, O (U ⟨x, 0, N⟩)), (7, S f c.length g), (8, I J d), (34, B ((E.A_.length : Int) == 0))]) ?_ (sb z))
    ·refine co <| az <| cI H z (fun H => ?_) (fun H => ?_)
     ·refine sR <| aa [.p, .p, .p] z <| bE H fun s a2 H => bF (e := eI) (xs := p1) (j := d) z z z z z aT ty3 z (ab C) a2 (by rw [Nat.mul_one]) <| o1 z (aM z z ty3 (bO (ab C) a2)) <| o1 z (bu [(0, [I J s]), (1, [I J (-1)])] [I J s, I J (-1)] z z cL xG z ⟨z, z, nl z, z, z, nl z, Y⟩ z) <| sw ([(au.mk s (-1))] : List au) [(0, [I J s, I J (-1)])] z z z z z oa cL z z z z ⟨z, z, nl z, Y⟩ z (fun _ => kp) (fun a3 => (?_ : OW _ _ _ (St w A [b x 73 [S G p0.f_.length L, S M p0.n_.length P], W (ad (bD) 56) q c [S f c.length g], W (ad (bD) 56) [a3] [(au.mk s (-1))] [S (U ⟨a3, 0, N⟩) ([(au.mk s (-1))] : List au).length 1]]) _ _ _))
      exact bE H fun b9 a4 H => qR (r := 1) (ys := ([(au.mk s (-1))] : List au)) z z z z z z oa cL z z z z z (fun u k => ap (e := ad (bD) 56) (r := 2) z u k) a4 (fun _ _ _ => kp) fun c1 c2 c3 => cc z (fun u k => fh (i := 1) k z (fe a4)) fun b2 => oP z <| nQ <| bx <| aK <| aL <| az <| aP <| aa [.p, .p, .p] z <| ax <| ct (RW.at (Z (b9) (c1) (c2) (c3) (J.wrap (d + 1)) (⟨b2, H⟩)) (ss [0, 1] z z) (sb z))
     ·refine av <| az <| sR <| oP z <| nQ <| ay <| CW.at (iw (fun (h : List au) (m : Option Addr) (o : Nat) (t : List Nat) (a : Int) => St w A [b x 73 [S G p0.f_.length L, S M p0.n_.length P], W (ad (bD) 56) t h [S m h.length o]]) (fun h m o t a => [(1, S a_1 p1.length c_1), (2, B p2), (3, O (U ⟨x, 0, N⟩)), (7, S m h.length o), (8, I J d), (9, I J a)]) (fun kk => fun h m o t a => m.isNone = n ∧ dc p1 d p0 (da p1 p0 p2 k1) kk h a = U r) (fun _ _ _ _ _ H => ?_) (fun k2 a5 h m o t a ⟨Q, H⟩ => ?_) aY (c) (f) (g) (q) (0) (⟨a9, H⟩)) (ss [0, 1] z z) (sb z)
      ·unfold dc at H
       exact absurd H (by simp)
      ·unfold dc at H
       refine am <| sR <| oPP z <| nQ <| cI H z (fun H => ?_) (fun H => ?_)
       ·refine av <| az <| am <| ay <| sR <| oPP z <| bE H fun l a6 H => bF (e := eI) (xs := p1) (j := d) z z z z z aT ty3 z (ab C) a6 (by rw [Nat.mul_one]) <| o1 z (aM z z ty3 (bO (ab C) a6)) <| oP z <| o1 z (bu [(0, [I J l]), (1, [I J a])] [I J l, I J a] z z cL xG z ⟨z, z, nl z, z, z, nl z, Y⟩ z) <| aB z z z z cL (fun _ => kp) fun c4 => sC 0 [I J l, I J a] [_, _] 2 z cL z <| nR <| o1 z (rx 0 0 _ z cV z) <| o1 z (rx 0 2 _ z cL z) <| bE H fun e7 c5 H => oq z (qc z xF (fun u k => hY u (p1 := (au.mk l a)) c5 (ah (ab F u k) (ab X u k)))) tt2 <| nQ <| cI H z (fun H => ?_) (fun H => ?_)
        ·refine aP <| oP z <| o1 z (rx 0 2 _ z cL z) <| sw ([(au.mk l a)] : List au) [(0, [I J l, I J a])] z z z z z oa cL z z z z ⟨z, z, nl z, Y⟩ z (fun _ => kp) (fun a7 => (?_ : OW _ _ _ (St w A [b x 73 [S G p0.f_.length L, S M p0.n_.length P], W (ad (bD) 56) t h [S m h.length o], b c4 56 [I J l, I J a], W (ad (bD) 56) [a7] [(au.mk l a)] [S (U ⟨a7, 0, N⟩) ([(au.mk l a)] : List au).length 1]]) _ _ _))
         exact bE H fun c6 a8 H => qR (r := 1) (ys := ([(au.mk l a)] : List au)) z z z z z z oa cL z z z z z (fun u k => ap (e := ad (bD) 56) (r := 3) z u k) a8 (fun _ _ _ => kp) fun c7 c8 c9 => cc z (fun u k => fh (i := 1) k z (fe a8)) fun b3 => oP z <| ax <| bW <| az <| aP <| aa [.p, .p, .p] z <| ax <| ct (RW.at (a5 (c6) (c7) (c8) (c9) (J.wrap (a + 1)) (⟨b3, H⟩)) (ss [0, 1] z z) (sb z))
        ·exact av <| bW <| az <| aP <| aa [.p, .p, .p] z <| ax <| ct (RW.at (a5 (h) (m) (o) (t) (J.wrap (a + 1)) (⟨Q, H⟩)) (ss [0, 1] z z) (sb z))
       ·exact bx <| aK <| aR <| aL <| bW <| az <| aP <| aa [.p, .p, .p] z <| ax <| ct (RW.at (Z (h) (m) (o) (t) (J.wrap (d + 1)) (⟨Q, H⟩)) (ss [0, 1] z z) (sb z))
    ·generalize ((E.A_.length : Int) == 0) = d0 at key ⊢
     cases d0
     ·exact aa [.p, .p, .p] z <| OW.sub key (sb z)
     ·exact oPP z <| oP z <| OW.sub key (sb z)
   ·exact bx <| aK <| aR <| aL <| az <| sR <| oPP z <| nT <| aO (rs := [.tmp 6]) (vs := [S f c.length g]) z ⟨z, Y⟩ (fun w' hw' => by
     obtain rfl := af H
     exact ⟨_, z, f, c.length, g, q, z, hw'.sel [1] z z⟩)
theorem nj (w : World) {C : List Nat} {p0 : ae} {p1 : ar} {p2 : au} {p3 : Int} {a5 : List Value} {a6 : List Value} {r : List Int} (H : ic p0 p1 p2 p3 = U r) (HS : St w C [] w) (g0 : (bk).rd w C p0 a5) (g1 : (cb).rd w C p1 a6) :
    Calls Tryz.prog 121 #[.agg a5.toArray, .agg a6.toArray, .agg #[I J p2.j_, I J p2.c_], I J p3] w (fun en w' => ∃ v, en = .returned v ∧ ∃ (a0 : Option Addr), ∃ (n0 : Nat), ∃ (c0 : Nat), ∃ (F0 : List Nat), v = S a0 n0 c0 ∧ St w C [W (ad eI 3) F0 r [S a0 n0 c0]] w') := by
 obtain ⟨f8, f9, rfl, s, u⟩ := aX g0
 obtain ⟨a7, a8, rfl⟩ := ao s
 obtain ⟨a9, b0, rfl⟩ := ao u
 obtain ⟨g2, g3, rfl, b1, D⟩ := aS g1
 obtain ⟨b2, b3, rfl⟩ := ao b1
 obtain ⟨b4, b5, rfl⟩ := ao D
 unfold ic at H
 refine aN Tryz.func121 z Tryz.ntmps121 z (HS) <| sR <| ob _ z fun k => ob _ z fun l => ob _ z fun m => oP z <| nQ <| am <| sR <| o1 z (rx 0 0 _ z cV z) <| o1 z (rx 0 1 _ z cK z) <| bE H fun x d2 H => oq z (qc z wq (fun d a => fz d d2 (ah (ab s d a) (ab u d a)) (aH (ab b1 d a) (ab D d a)))) tt2 <| oPP z <| aV [(21, B ((!x) || ((p1.b_.length : Int) == 0))), (3, I J p3), (4, O (U ⟨k, 0, N⟩)), (5, O (U ⟨l, 0, N⟩)), (6, O (U ⟨m, 0, N⟩))] 5 ?_ (fun key => OW.sub (R := [(3, I J p3), (4, O (U ⟨k, 0, N⟩)), (5, O (U ⟨l, 0, N⟩)), (6, O (U ⟨m, 0, N⟩)), (16, B (!x))]) ?_ (sb z))
 ·refine oP z <| bE H fun E F H => aV [(27, B E), (3, I J p3), (4, O (U ⟨k, 0, N⟩)), (5, O (U ⟨l, 0, N⟩)), (6, O (U ⟨m, 0, N⟩))] 5 ?_ (fun key => OW.sub (R := [(3, I J p3), (4, O (U ⟨k, 0, N⟩)), (5, O (U ⟨l, 0, N⟩)), (6, O (U ⟨m, 0, N⟩)), (22, B ((!x) || ((p1.b_.length : Int) == 0)))]) ?_ (sb z))
  ·refine oP z <| bE H fun d3 G H => aV [(36, B d3), (3, I J p3), (4, O (U ⟨k, 0, N⟩)), (5, O (U ⟨l, 0, N⟩)), (6, O (U ⟨m, 0, N⟩))] 8 ?_ (fun key => OW.sub (R := [(3, I J p3), (4, O (U ⟨k, 0, N⟩)), (5, O (U ⟨l, 0, N⟩)), (6, O (U ⟨m, 0, N⟩)), (28, B E)]) ?_ (sb z))
   ·refine nQ <| cI H z (fun H => ?_) (fun H => ?_)
    ·exact sR <| bI (e := eI) z z z z aT ty3 (fun _ => kp) fun L => oP z <| nT <| aq <| aO (rs := [.tmp 8]) (vs := [S (U ⟨L, 0, N⟩) 0 0]) z ⟨z, Y⟩ (fun w' hw' => by
      obtain rfl := af H
      exact ⟨_, z, (U ⟨L, 0, N⟩), 0, 0, [L], z, hw'.sel [3] z z⟩)
    ·refine av <| az <| sR <| aa [.fa 73 1 1 ks] z <| o1 z (r1 1 0 z nJ z) <| aa [.lenS 71 9 lD] z <| bE H fun c d4 H => rR (e := eI) (zero := (0 : Int)) z z z z z z aT ty3 z z z z (fun _ => ⟨z, z⟩) d4 (fun _ => kp) fun q => oP z <| nQ <| am <| sR <| oP z <| nQ <| ay <| CW.at (jH (fun (g : Int) (o : List Int) => St w C [b k 73 [S a7 p0.f_.length a8, S a9 p0.n_.length b0], b l 58 [S b2 p1.d_.length b3, S b4 p1.b_.length b5], b m 56 [I J p2.j_, I J p2.c_], W (ad eI 3) [q] o [S (U ⟨q, 0, N⟩) c.length c.length]]) (fun g o => [(3, I J p3), (4, O (U ⟨k, 0, N⟩)), (5, O (U ⟨l, 0, N⟩)), (6, O (U ⟨m, 0, N⟩)), (9, S (U ⟨q, 0, N⟩) c.length c.length), (10, I J g)]) (fun kk => fun g o => cl p0 p2 p3 c p1 kk g o = U r) (fun _ _ H => ?_) (fun k1 M g o H => ?_) aY (0) (c) (H)) (ss [0, 1, 2, 3] z z) (sb z)
     ·unfold cl at H
      exact absurd H (by simp)
     ·unfold cl at H
      refine am <| sR <| aa [.p, .fa 73 0 0 fE] z <| o1 z (r1 0 0 z lC z) <| aa [.fa 56 0 0 lj] z <| o1 z (r1 0 2 z ty3 z) <| bE H fun A b6 H => cf z z z z z lF km z s b6 fun e5 e6 a2 a3 => ?_
      obtain ⟨e7, e9, f0, rfl, b7, P, Q⟩ := cG a2
      obtain rfl := b7
      obtain ⟨b8, b9, rfl⟩ := ao P
      obtain ⟨c1, c2, rfl⟩ := ao Q
      refine o1 z (dk (cs := [vS A.D_, S b8 A.A_.length b9, S c1 A.E_.length c2]) z z km (ce bor a3) z) <| bE H fun f1 c3 H => oq z (qc z wA (fun d a => iA d c3 (eE z (ab P d a) (ab Q d a)))) tt2 <| oP z <| nQ <| cI H z (fun H => ?_) (fun H => ?_)
      ·refine av <| az <| am <| ay <| sR <| o1 z (rx 0 0 _ z cV z) <| o1 z (rx 0 2 _ z cL z) <| oP z <| bE H fun f2 c4 H => oq z (qc z DH (fun d a => pm d (p1 := p2) c4 (ah (ab s d a) (ab u d a)))) tt2 <| oPP z <| nQ <| cI H z (fun H => ?_) (fun H => ?_)
       ·refine sR <| oP z <| nQ <| ay <| CW.at (jH (fun (f : Int) (h : List Int) => St w C [b k 73 [S a7 p0.f_.length a8, S a9 p0.n_.length b0], b l 58 [S b2 p1.d_.length b3, S b4 p1.b_.length b5], b m 56 [I J p2.j_, I J p2.c_], W (ad eI 3) [q] h [S (U ⟨q, 0, N⟩) c.length c.length]]) (fun f h => [(3, I J p3), (4, O (U ⟨k, 0, N⟩)), (5, O (U ⟨l, 0, N⟩)), (6, O (U ⟨m, 0, N⟩)), (9, S (U ⟨q, 0, N⟩) c.length c.length), (10, I J g), (11, I J f)]) (fun kk => fun f h => cX c p1 p2 g p0 (cl p0 p2 p3 c p1 k1) kk f h = U r) (fun _ _ H => ?_) (fun k2 c5 f h H => ?_) aY (0) (o) (H)) (ss [0, 1, 2, 3] z z) (sb z)
        ·unfold cX at H
         exact absurd H (by simp)
        ·unfold cX at H
         refine am <| sR <| aa [.p, .p, .lenS 45 3 aT, .p] z <| nQ <| cI H z (fun H => ?_) (fun H => ?_)
         ·refine av <| az <| am <| ay <| rI 23 bU (by kernel_rfl) <| aa [.p, .p, .p, .p] z <| bE H fun c6 X H => bF (e := eI) (xs := h) (j := f) z z z z z aT ty3 z (ap (e := ad eI 3) (r := 3) z) X (by rw [Nat.mul_one]) <| o1 z (aM z z ty3 (bO (ap (e := ad eI 3) (r := 3) z) X)) <| aa [.fa 58 1 1 dt] z <| o1 z (r1 1 1 z cY z) <| aa [.fa 56 0 0 lj] z <| o1 z (r1 0 2 z ty3 z) <| bE H fun c7 c8 H => cf z z z z z cC bG z D c8 fun f3 f4 t a4 => ?_
          obtain ⟨f5, f6, rfl⟩ := ao t
          exact o1 z (aM z z bG (ce bor a4)) <| aa [.p, .fa 73 1 1 ks] z <| o1 z (r1 1 0 z nJ z) <| aa [.lenS 71 9 lD, .p, .p, .p] z <| bE H fun c9 Z H => bF (e := eI) (xs := c7) (j := J.wrap ((J.wrap (g * (p0.n_.length : Int))) + f)) z z z z z aT ty3 z (ab t) Z (by rw [Nat.mul_one]) <| o1 z (aM z z ty3 (bO (ab t) Z)) <| oP z <| bE H fun f7 a1 H => bF (e := eI) (xs := h) (j := f) z z z z z aT ty3 z (ap (e := ad eI 3) (r := 3) z) a1 (by rw [Nat.mul_one]) <| co <| lW (i := 3) (j := f) z z z z z z ty3 z a1 (fun _ => z) kp <| ax <| bW <| az <| aP <| aa [.p, .p, .p] z <| ax <| ct (RW.at (c5 (J.wrap (f + 1)) ((h.set f.toNat (J.wrap (c6 + c9)))) (H)) (ss [0, 1, 2, 3] z z) (sb z))
         ·exact bx <| aK <| aR <| aL <| bW <| az <| aP <| aa [.p, .p, .p] z <| ax <| ct (RW.at (M (J.wrap (g + 1)) (h) (H)) (ss [0, 1, 2, 3] z z) (sb z))
       ·exact av <| bW <| az <| aP <| aa [.p, .p, .p] z <| ax <| ct (RW.at (M (J.wrap (g + 1)) (o) (H)) (ss [0, 1, 2, 3] z z) (sb z))
      ·exact bx <| aK <| aR <| aL <| az <| sR <| oPP z <| nT <| aO (rs := [.tmp 8]) (vs := [S (U ⟨q, 0, N⟩) c.length c.length]) z ⟨z, Y⟩ (fun w' hw' => by
        obtain rfl := af H
        exact ⟨_, z, (U ⟨q, 0, N⟩), c.length, c.length, [q], z, hw'.sel [3] z z⟩)
   ·clear H
    have H := G
    clear G
    generalize E = d5 at H key ⊢
    cases d5
    ·have H := bh z H
     refine oP z <| o1 z (rx 0 0 _ z cV z) <| o1 z (rx 0 2 _ z cL z) <| bE H fun g4 d6 H => oq z (qc z yT (fun d a => gG d (p1 := p2) d6 (ah (ab s d a) (ab u d a)))) tt2 <| oP z <| bE H fun g5 d7 H => oq z (qc z gN (fun d a => be d d7)) tt2 <| oP z <| oP z <| ?_
     obtain rfl := af H
     exact OW.sub key (sb z)
    ·have H := bi z H
     refine aa [.p, .p, .p, .p, .p, .p, .p, .p] z ?_
     obtain rfl := af H
     exact OW.sub key (sb z)
  ·clear H
   have H := F
   clear F
   generalize ((!x) || ((p1.b_.length : Int) == 0)) = d8 at H key ⊢
   cases d8
   ·have H := bh z H
    refine o1 z (rx 0 0 _ z cV z) <| o1 z (rx 0 2 _ z cL z) <| bE H fun g6 d9 H => oq z (qc z xF (fun d a => hY d (p1 := p2) d9 (ah (ab s d a) (ab u d a)))) tt2 <| oP z <| oP z <| ?_
    obtain rfl := af H
    exact OW.sub key (sb z)
   ·have H := bi z H
    refine aa [.p, .p, .p, .p, .p] z ?_
    obtain rfl := af H
    exact OW.sub key (sb z)
 ·generalize (!x) = e0 at key ⊢
  cases e0
  ·exact aa [.fa 58 1 1 dt] z <| o1 z (r1 1 1 z cY z) <| aa [.lenS 28 45 cC, .p] z <| oP z <| OW.sub key (sb z)
  ·exact aa [.p, .p, .p, .p, .p] z <| OW.sub key (sb z)
theorem mi (w : World) {p0 : List Int} {a_0 : Option Addr} {n_0 c_0 : Nat} {r : Int} (H : ka p0 = U r) (f : (ad eI 3).rd w [] p0 [S a_0 n_0 c_0]) :
    Calls Tryz.prog 122 #[S a_0 n_0 c_0] w (fun en w' => en = .returned (I J r) ∧ Ext [] w w') := by
 obtain rfl := fp f
 unfold ka at H
 refine aN Tryz.func122 z Tryz.ntmps122 z (St.init w []) <| sR <| oP z <| nR <| oP z <| nQ <| am <| sR <| oP z <| nQ <| ay <| CW.at (jH (fun (c : Int) (a : Int) => St w [] []) (fun c a => [(0, S a_0 p0.length c_0), (3, I J c), (4, I J a)]) (fun kk => fun c a => gX p0 kk c a = U r) (fun _ _ H => ?_) (fun i g c a H => ?_) aY (0) (0) (H)) (ss [] z z) (sb z)
 ·unfold gX at H
  exact absurd H (by simp)
 ·unfold gX at H
  refine am <| sR <| aa [.p, .p, .lenS 45 3 aT, .p] z <| nQ <| cI H z (fun H => ?_) (fun H => ?_)
  ·exact av <| az <| am <| ay <| aP <| aa [.p, .p, .p] z <| bE H fun h d H => bF (e := eI) (xs := p0) (j := a) z z z z z aT ty3 z (ab f) d (by rw [Nat.mul_one]) <| o1 z (aM z z ty3 (bO (ab f) d)) <| oPP z <| ax <| bW <| az <| aP <| aa [.p, .p, .p] z <| ax <| ct (RW.at (g (J.wrap (c + h)) (J.wrap (a + 1)) (H)) (ss [] z z) (sb z))
  ·exact bx <| aK <| aR <| aL <| az <| sR <| oPP z <| nT <| xr 2 z (by cases H; exact q1)
theorem pS (w : World) {p0 : List Int} {a_0 : Option Addr} {n_0 c_0 : Nat} {r : Int} (H : lg p0 = U r) (d : (ad eI 3).rd w [] p0 [S a_0 n_0 c_0]) :
    Calls Tryz.prog 144 #[S a_0 n_0 c_0] w (fun en w' => en = .returned (I J r) ∧ Ext [] w w') := by
 obtain rfl := fp d
 unfold lg at H
 refine aN Tryz.func144 z Tryz.ntmps144 z (St.init w []) <| sR <| oP z <| nQ <| am <| sR <| aa [.p, .lenS 45 3 aT, .p] z <| nQ <| cI H z (fun H => ?_) (fun H => ?_)
 ·exact sR <| oP z <| nT <| aq <| xr 2 z (by cases H; exact q1)
 ·refine av <| az <| sR <| oP z <| nQ <| am <| sR <| oP z <| nQ <| ay <| CW.at (jH (fun (c : Int) (a : Int) => St w [] []) (fun c a => [(0, S a_0 p0.length c_0), (3, I J c), (4, I J a)]) (fun kk => fun c a => gn p0 kk c a = U r) (fun _ _ H => ?_) (fun u i c a H => ?_) aY (0) (0) (H)) (ss [] z z) (sb z)
  ·unfold gn at H
   exact absurd H (by simp)
  ·unfold gn at H
   refine am <| sR <| aa [.p, .p, .lenS 45 3 aT, .p] z <| nQ <| cI H z (fun H => ?_) (fun H => ?_)
   ·refine av <| az <| am <| ay <| am <| sR <| oPP z <| bE H fun q f H => bF (e := eI) (xs := p0) (j := a) z z z z z aT ty3 z (ab d) f (by rw [Nat.mul_one]) <| o1 z (aM z z ty3 (bO (ab d) f)) <| bE H fun s k H => oq z (qc z gN (fun o t => be o k)) tt2 <| oP z <| nQ <| cI H z (fun H => ?_) (fun H => ?_)
    ·exact sR <| oP z <| nT <| aq <| ba <| aq <| cd <| ba <| aq <| xr 2 z (by cases H; exact q1)
    ·exact av <| az <| dR bU (by kernel_rfl) <| aa [.p, .p, .p] z <| bE H fun l g H => bF (e := eI) (xs := p0) (j := a) z z z z z aT ty3 z (ab d) g (by rw [Nat.mul_one]) <| o1 z (aM z z ty3 (bO (ab d) g)) <| oPP z <| bE H fun m h H => bF (e := eI) (xs := p0) (j := a) z z z z z aT ty3 z (ab d) h (by rw [Nat.mul_one]) <| o1 z (aM z z ty3 (bO (ab d) h)) <| aa [.p, .p, .p] z <| co <| bW <| az <| aP <| aa [.p, .p, .p] z <| ax <| ct (RW.at (i (J.wrap (c + (J.wrap (l * m)))) (J.wrap (a + 1)) (H)) (ss [] z z) (sb z))
   ·exact bx <| aK <| aR <| aL <| az <| sR <| oPP z <| nT <| xr 2 z (by cases H; exact q1)
theorem jI (w : World) {p0 : aZ} {r : Bool} (H : iC p0 = U r)   :
    Calls Tryz.prog 129 #[.agg #[I J p0.u_, I J p0.B_]] w (fun en w' => en = .returned (B r) ∧ Ext [] w w') := by
 unfold iC at H
 refine aN Tryz.func129 z Tryz.ntmps129 z (St.init w []) <| sR <| ob _ z fun e => oP z <| nR <| aa [.fa 153 0 0 nO] z <| o1 z (r1 0 0 z ty3 z) <| bE H fun c f H => oq z (qc z gN (fun d g => be d f)) tt2 <| oP z <| bE H fun h a H => aV [(10, B h), (2, B n)] 4 ?_ (fun key => OW.sub (R := [(1, O (U ⟨e, 0, N⟩)), (2, B n), (6, B c)]) ?_ (sb z))
 ·exact oP z <| nT <| xr 2 z (by cases H; exact q1)
 ·clear H
  have H := a
  clear a
  generalize c = i at H key ⊢
  cases i
  ·have H := bh z H
   refine aa [.p, .p, .p, .p] z ?_
   obtain rfl := af H
   exact OW.sub key (sb z)
  ·have H := bi z H
   refine aa [.fa 153 1 1 na] z <| o1 z (r1 1 0 z ty3 z) <| bE H fun k j H => oq z (qc z gN (fun d g => be d j)) tt2 <| oP z <| ?_
   obtain rfl := af H
   exact OW.sub key (sb z)
theorem yk (w : World) {p0 : Int} {p1 : Int} {r : Int} (H : qq p0 p1 = U r)   :
    Calls Tryz.prog 146 #[I J p0, I J p1] w (fun en w' => en = .returned (I J r) ∧ Ext [] w w') := by
 unfold qq at H
 refine aN Tryz.func146 z Tryz.ntmps146 z (St.init w []) <| sR <| oP z <| nQ <| am <| sR <| aa [.p, .p, .p] z <| aV [(11, B ((decide (p0 < 0)) || (decide (p1 < 0)))), (0, I J p0), (1, I J p1)] 3 ?_ (fun key => OW.sub (R := [(0, I J p0), (1, I J p1), (8, B (decide (p0 < 0)))]) ?_ (sb z))
 ·refine nQ <| cI H z (fun H => ?_) (fun H => ?_)
  ·exact sR <| oP z <| nT <| aq <| xr 4 z (by cases H; exact q1)
  ·refine av <| az <| am <| ay <| CW.at (jH (fun (c : Int) (a : Int) => St w [] []) (fun c a => [(0, I J c), (1, I J a)]) (fun kk => fun c a => jt kk c a = U r) (fun _ _ H => ?_) (fun h d c a H => ?_) aY (p0) (p1) (H)) (ss [] z z) (sb z)
   ·unfold jt at H
    exact absurd H (by simp)
   ·unfold jt at H
    refine am <| sR <| oPP z <| nQ <| cI H z (fun H => ?_) (fun H => ?_)
    ·exact av <| az <| ay <| sR <| oPP z <| bE H fun e f H => o1 z (uB z z z f) <| oP z <| nR <| oPP z <| nQ <| aP <| oPP z <| ax <| bW <| ct (RW.at (d (a) (e) (H)) (ss [] z z) (sb z))
    ·exact bx <| aK <| aR <| aL <| az <| sR <| oPP z <| nT <| xr 4 z (by cases H; exact q1)
 ·generalize (decide (p0 < 0)) = g at key ⊢
  cases g
  ·exact oPP z <| oP z <| OW.sub key (sb z)
  ·exact aa [.p, .p, .p] z <| OW.sub key (sb z)
theorem ue (w : World) {p0 : aZ} {r : aZ} (H : mt p0 = U r)   :
    Calls Tryz.prog 145 #[.agg #[I J p0.u_, I J p0.B_]] w (fun en w' => en = .returned (.agg #[I J r.u_, I J r.B_]) ∧ Ext [] w w') := by
 unfold mt at H
 refine aN Tryz.func145 z Tryz.ntmps145 z (St.init w []) <| sR <| ob _ z fun k => aB z z z z ck (fun _ => kp) fun l => nQ <| am <| sR <| o1 z (rx 0 0 _ z ck z) <| bE H fun m e H => oq z (qc z wh (fun d f => jI d (p0 := p0) e)) tt2 <| oP z <| nQ <| cI H z (fun H => ?_) (fun H => ?_)
 ·exact sR <| o1 z (bu [] [I J 0, I J 0] z z ck tF z Y z) <| sC 0 [I J 0, I J 0] [_, _] 1 z ck z <| nT <| aq <| aO (rs := [.cell 2 153]) (vs := [.agg #[I J 0, I J 0]]) z ⟨⟨_, [I J 0, I J 0], _, _, _, z, ck, (bn (T := 153) 0 (bJ (i := 1) z) z), z, z⟩, Y⟩ (fun w' hw' => by
   obtain rfl := af H
   exact ⟨z, hw'.ext⟩)
 ·exact av <| az <| sR <| aa [.fa 153 0 0 nO] z <| o1 z (r1 0 0 z ty3 z) <| aa [.fa 153 1 1 na] z <| o1 z (r1 1 0 z ty3 z) <| bE H fun o g H => oq z (qc z Fo (fun d f => yk d g)) tt2 <| oP z <| nQ <| am <| rI 9 bU (by kernel_rfl) <| aa [.fa 153 0 0 nO] z <| o1 z (r1 0 0 z ty3 z) <| oP z <| bE H fun a h H => o1 z (yQ z z z h) <| aa [.fa 153 1 1 na] z <| o1 z (r1 1 0 z ty3 z) <| oP z <| bE H fun c j H => o1 z (yQ z z z j) <| o1 z (bu [(0, [I J a]), (1, [I J c])] [I J a, I J c] z z ck tF z ⟨z, z, nl z, z, z, nl z, Y⟩ z) <| co <| sC 0 [I J a, I J c] [_, _] 1 z ck z <| nT <| aO (rs := [.cell 2 153]) (vs := [.agg #[I J a, I J c]]) z ⟨⟨_, [I J a, I J c], _, _, _, z, ck, (bn (T := 153) 0 (bJ (i := 1) z) z), z, z⟩, Y⟩ (fun w' hw' => by
   obtain rfl := af H
   exact ⟨z, hw'.ext⟩)
theorem oW (w : World) {p0 : ae} {p1 : ar} {p2 : au} {c5 : List Value} {c6 : List Value} {r : aZ} (H : mQ p0 p1 p2 = U r) (g0 : (bk).rd w [] p0 c5) (g1 : (cb).rd w [] p1 c6) :
    Calls Tryz.prog 137 #[.agg c5.toArray, .agg c6.toArray, .agg #[I J p2.j_, I J p2.c_]] w (fun en w' => en = .returned (.agg #[I J r.u_, I J r.B_]) ∧ Ext [] w w') := by
 obtain ⟨i4, i5, rfl, Z, a0⟩ := aX g0
 obtain ⟨c7, c8, rfl⟩ := ao Z
 obtain ⟨c9, d0, rfl⟩ := ao a0
 obtain ⟨i6, i7, rfl, a6, a7⟩ := aS g1
 obtain ⟨d1, d2, rfl⟩ := ao a6
 obtain ⟨d3, d4, rfl⟩ := ao a7
 unfold mQ at H
 refine aN Tryz.func137 z Tryz.ntmps137 z (St.init w []) <| sR <| ob _ z fun M => ob _ z fun P => ob _ z fun Q => aB z z z z ck (fun _ => kp) fun A => nQ <| am <| sR <| o1 z (rx 0 0 _ z cV z) <| o1 z (rx 0 1 _ z cK z) <| bE H fun a1 g6 H => oq z (qc z wq (fun f a => fz f g6 (ah (ab Z f a) (ab a0 f a)) (aH (ab a6 f a) (ab a7 f a)))) tt2 <| oPP z <| aV [(27, B ((!a1) || ((p1.b_.length : Int) == 0))), (3, O (U ⟨M, 0, N⟩)), (4, O (U ⟨P, 0, N⟩)), (5, O (U ⟨Q, 0, N⟩)), (6, O (U ⟨A, 0, N⟩))] 5 ?_ (fun key => OW.sub (R := [(3, O (U ⟨M, 0, N⟩)), (4, O (U ⟨P, 0, N⟩)), (5, O (U ⟨Q, 0, N⟩)), (6, O (U ⟨A, 0, N⟩)), (22, B (!a1))]) ?_ (sb z))
 ·refine oP z <| bE H fun g7 a8 H => aV [(33, B g7), (3, O (U ⟨M, 0, N⟩)), (4, O (U ⟨P, 0, N⟩)), (5, O (U ⟨Q, 0, N⟩)), (6, O (U ⟨A, 0, N⟩))] 5 ?_ (fun key => OW.sub (R := [(3, O (U ⟨M, 0, N⟩)), (4, O (U ⟨P, 0, N⟩)), (5, O (U ⟨Q, 0, N⟩)), (6, O (U ⟨A, 0, N⟩)), (28, B ((!a1) || ((p1.b_.length : Int) == 0)))]) ?_ (sb z))
  ·refine nQ <| cI H z (fun H => ?_) (fun H => ?_)
   ·exact sR <| o1 z (bu [] [I J 0, I J 0] z z ck tF z Y z) <| sC 0 [I J 0, I J 0] [_, _] 3 z ck z <| nT <| aq <| aO (rs := [.cell 6 153]) (vs := [.agg #[I J 0, I J 0]]) z ⟨⟨_, [I J 0, I J 0], _, _, _, z, ck, (bn (T := 153) 0 (bJ (i := 3) z) z), z, z⟩, Y⟩ (fun w' hw' => by
     obtain rfl := af H
     exact ⟨z, hw'.ext⟩)
   ·refine av <| az <| sR <| aa [.fa 73 1 1 ks] z <| o1 z (r1 1 0 z nJ z) <| aa [.lenS 71 9 lD] z <| bE H fun l g8 H => rR (e := eI) (zero := (0 : Int)) z z z z z z aT ty3 z z z z (fun _ => ⟨z, z⟩) g8 (fun _ => kp) fun C => oP z <| nR <| bI (e := eI) z z z z aT ty3 (fun _ => kp) fun d5 => oP z <| nR <| bI (e := eI) z z z z aT ty3 (fun _ => kp) fun d6 => oP z <| nQ <| am <| sR <| oP z <| nQ <| ay <| CW.at (zb (fun (v : Int) (t : List Int) (c : List Int) (h : Option Addr) (m : Nat) (D : List Nat) (d : List Int) (k : Option Addr) (o : Nat) (E : List Nat) => St w [] [b M 73 [S c7 p0.f_.length c8, S c9 p0.n_.length d0], b P 58 [S d1 p1.d_.length d2, S d3 p1.b_.length d4], b Q 56 [I J p2.j_, I J p2.c_], b A 153 [I J 0, I J 0], W (ad eI 3) [C] t [S (U ⟨C, 0, N⟩) l.length l.length], W (ad eI 3) D c [S h c.length m], W (ad eI 3) E d [S k d.length o]]) (fun v t c h m D d k o E => [(3, O (U ⟨M, 0, N⟩)), (4, O (U ⟨P, 0, N⟩)), (5, O (U ⟨Q, 0, N⟩)), (6, O (U ⟨A, 0, N⟩)), (7, S (U ⟨C, 0, N⟩) l.length l.length), (8, S h c.length m), (9, S k d.length o), (10, I J v)]) (fun kk => fun v t c h m D d k o E => h.isNone = n ∧ k.isNone = n ∧ eL p0 p2 p1 kk v t c d = U r) (fun _ _ _ _ _ _ _ _ _ _ H => ?_) (fun k1 a9 v t c h m D d k o E ⟨c0, c1, H⟩ => ?_) aY (0) (l) (([] : List Int)) ((U ⟨d5, 0, N⟩)) (0) ([d5]) (([] : List Int)) ((U ⟨d6, 0, N⟩)) (0) ([d6]) (⟨z, z, H⟩)) (ss [0, 1, 2, 3, 4, 5, 6] z z) (sb z)
    ·unfold eL at H
     exact absurd H (by simp)
    ·unfold eL at H
     refine am <| sR <| oP z <| o1 z (rx 0 0 _ z cV z) <| o1 z (rx 0 2 _ z cL z) <| bE H fun h6 d7 H => oq z (qc z yT (fun f a => gG f (p1 := p2) d7 (ah (ab Z f a) (ab a0 f a)))) tt2 <| oP z <| nQ <| cI H z (fun H => ?_) (fun H => ?_)
     ·refine av <| az <| am <| ay <| sR <| o1 z (rx 0 0 _ z cV z) <| o1 z (rx 0 1 _ z cK z) <| o1 z (rx 0 2 _ z cL z) <| oP z <| bE H fun X d8 H => aj z DJ z z z z (fun f a => nj f (p2 := p2) d8 (a.carve [] z z) (ah (ab Z f a) (ab a0 f a)) (aH (ab a6 f a) (ab a7 f a))) fun h7 f w2 a c2 => ?_
      obtain ⟨b0, h8, b1, d9, rfl, a5⟩ := c2
      obtain rfl := aA (i := 0) a5 z
      refine ⟨St w [] [_, _, _, _, _, _, _, _], a.comp [] z z a5, fun _ _ => Y, ?_⟩
      refine oP z <| nQ <| am <| sR <| oP z <| nQ <| ay <| CW.at (jH (fun (q : Int) (u : List Int) => St w [] [W (ad eI 3) d9 X [S b0 X.length b1], b M 73 [S c7 p0.f_.length c8, S c9 p0.n_.length d0], b P 58 [S d1 p1.d_.length d2, S d3 p1.b_.length d4], b Q 56 [I J p2.j_, I J p2.c_], b A 153 [I J 0, I J 0], W (ad eI 3) [C] u [S (U ⟨C, 0, N⟩) l.length l.length], W (ad eI 3) D c [S h c.length m], W (ad eI 3) E d [S k d.length o]]) (fun q u => [(3, O (U ⟨M, 0, N⟩)), (4, O (U ⟨P, 0, N⟩)), (5, O (U ⟨Q, 0, N⟩)), (6, O (U ⟨A, 0, N⟩)), (7, S (U ⟨C, 0, N⟩) l.length l.length), (8, S h c.length m), (9, S k d.length o), (10, I J v), (11, S b0 X.length b1), (12, I J q)]) (fun kk => fun q u => fS X c d (eL p0 p2 p1 k1) v kk q u = U r) (fun _ _ H => ?_) (fun k2 e0 q u H => ?_) aY (0) (t) (H)) (ss [7, 0, 1, 2, 3, 4, 5, 6] z z) (sb z)
      ·unfold fS at H
       exact absurd H (by simp)
      ·unfold fS at H
       refine am <| sR <| aa [.p, .p, .lenS 45 3 aT, .p] z <| nQ <| cI H z (fun H => ?_) (fun H => ?_)
       ·exact av <| az <| am <| ay <| rI 12 bU (by kernel_rfl) <| aa [.p, .p, .p, .p] z <| bE H fun e1 b2 H => bF (e := eI) (xs := u) (j := q) z z z z z aT ty3 z (ap (e := ad eI 3) (r := 5) z) b2 (by rw [Nat.mul_one]) <| o1 z (aM z z ty3 (bO (ap (e := ad eI 3) (r := 5) z) b2)) <| oPP z <| bE H fun e2 b3 H => bF (e := eI) (xs := X) (j := q) z z z z z aT ty3 z (ap (e := ad eI 3) (r := 0) z) b3 (by rw [Nat.mul_one]) <| o1 z (aM z z ty3 (bO (ap (e := ad eI 3) (r := 0) z) b3)) <| oP z <| bE H fun h9 b4 H => bF (e := eI) (xs := u) (j := q) z z z z z aT ty3 z (ap (e := ad eI 3) (r := 5) z) b4 (by rw [Nat.mul_one]) <| co <| lW (i := 5) (j := q) z z z z z z ty3 z b4 (fun _ => z) kp <| ax <| bW <| az <| aP <| aa [.p, .p, .p] z <| ax <| ct (RW.at (e0 (J.wrap (q + 1)) ((u.set q.toNat (J.wrap (e1 + e2)))) (H)) (ss [0, 1, 2, 3, 4, 5, 6, 7] z z) (sb z))
       ·refine bx <| aK <| aR <| aL <| az <| sR <| oP z <| bE H fun i0 e3 H => oq z (qc z zx (fun f a => mi f e3 (ap (e := ad eI 3) (r := 0) z f a))) tt2 <| oP z <| nQ <| cI H z (fun H => ?_) (fun H => ?_)
        ·exact sR <| oPP z <| bE H fun a2 e4 H => oq z (qc z zx (fun f a => mi f e4 (ap (e := ad eI 3) (r := 0) z f a))) tt2 <| bq (val := I J) (h1 := fun _ => z) [a2] [(0, [I J a2])] z z z z z aT ty3 z z z ⟨z, z, nl z, Y⟩ z z (fun _ => kp) fun i1 => bE H fun e5 b5 H => bC (r := 6) (ys := ([a2] : List Int)) z z z z z z aT ty3 z z z (ap (e := ad eI 3) (r := 8) z) b5 (fun _ _ _ => kp) fun e6 e7 e9 => cc z (fun f a => fh (i := 6) a z (fe b5)) fun c3 => oP z <| nQ <| aP <| oPP z <| bE H fun a3 f0 H => oq z (qc z DF (fun f a => pS f f0 (ap (e := ad eI 3) (r := 0) z f a))) tt2 <| bq (val := I J) (h1 := fun _ => z) [a3] [(0, [I J a3])] z z z z z aT ty3 z z z ⟨z, z, nl z, Y⟩ z z (fun _ => kp) fun i2 => bE H fun f1 b6 H => bC (r := 7) (ys := ([a3] : List Int)) z z z z z z aT ty3 z z z (ap (e := ad eI 3) (r := 9) z) b6 (fun _ _ _ => kp) fun f2 f3 f4 => cc z (fun f a => fh (i := 7) a z (fe b6)) fun c4 => oP z <| ax <| bW <| az <| aP <| aa [.p, .p, .p] z <| ax <| ct (RW.at (a9 (J.wrap (v + 1)) (u) (e5) (e6) (e7) (e9) (f1) (f2) (f3) (f4) (⟨c3, c4, H⟩)) (ss [1, 2, 3, 4, 5, 6, 7] z z) (sb z))
        ·exact av <| bW <| az <| aP <| aa [.p, .p, .p] z <| ax <| ct (RW.at (a9 (J.wrap (v + 1)) (u) (c) (h) (m) (D) (d) (k) (o) (E) (⟨c0, c1, H⟩)) (ss [1, 2, 3, 4, 5, 6, 7] z z) (sb z))
     ·refine bx <| aK <| aR <| aL <| az <| sR <| oP z <| bE H fun s f5 H => oq z (qc z zx (fun f a => mi f f5 (ap (e := ad eI 3) (r := 4) z f a))) tt2 <| oP z <| nQ <| am <| sR <| oPP z <| nQ <| cI H z (fun H => ?_) (fun H => ?_)
      ·exact sR <| o1 z (bu [(0, [I J 0]), (1, [I J 1])] [I J 0, I J 1] z z ck tF z ⟨z, z, nl z, z, z, nl z, Y⟩ z) <| sC 0 [I J 0, I J 1] [_, _] 3 z ck z <| nT <| aq <| aO (rs := [.cell 6 153]) (vs := [.agg #[I J 0, I J 1]]) z ⟨⟨_, [I J 0, I J 1], _, _, _, z, ck, (bn (T := 153) 0 (bJ (i := 3) z) z), z, z⟩, Y⟩ (fun w' hw' => by
        obtain rfl := af H
        exact ⟨z, hw'.ext⟩)
      ·refine av <| az <| sR <| oP z <| nQ <| am <| sR <| oP z <| nQ <| ay <| CW.at (jH (fun (g : Int) (G : Int) => St w [] [b A 153 [I J 0, I J 0], W (ad eI 3) [C] t [S (U ⟨C, 0, N⟩) l.length l.length], W (ad eI 3) D c [S h c.length m], W (ad eI 3) E d [S k d.length o]]) (fun g G => [(6, O (U ⟨A, 0, N⟩)), (7, S (U ⟨C, 0, N⟩) l.length l.length), (8, S h c.length m), (9, S k d.length o), (13, I J s), (14, I J g), (15, I J G)]) (fun kk => fun g G => iG c d s t kk g G = U r) (fun _ _ H => ?_) (fun k3 f6 g G H => ?_) aY (1) (0) (H)) (ss [3, 4, 5, 6] z z) (sb z)
       ·unfold iG at H
        exact absurd H (by simp)
       ·unfold iG at H
        refine am <| sR <| aa [.p, .p, .lenS 45 3 aT, .p] z <| nQ <| cI H z (fun H => ?_) (fun H => ?_)
        ·exact av <| az <| am <| ay <| aP <| aa [.p, .p, .p] z <| bE H fun f7 b7 H => bF (e := eI) (xs := c) (j := G) z z z z z aT ty3 z (ap (e := ad eI 3) (r := 2) z) b7 (by rw [Nat.mul_one]) <| o1 z (aM z z ty3 (bO (ap (e := ad eI 3) (r := 2) z) b7)) <| oPP z <| ax <| bW <| az <| aP <| aa [.p, .p, .p] z <| ax <| ct (RW.at (f6 (J.wrap (g * f7)) (J.wrap (G + 1)) (H)) (ss [0, 1, 2, 3] z z) (sb z))
        ·refine bx <| aK <| aR <| aL <| az <| sR <| oP z <| nQ <| am <| sR <| oP z <| nQ <| ay <| CW.at (jH (fun (x : Int) (F : Int) => St w [] [b A 153 [I J 0, I J 0], W (ad eI 3) [C] t [S (U ⟨C, 0, N⟩) l.length l.length], W (ad eI 3) D c [S h c.length m], W (ad eI 3) E d [S k d.length o]]) (fun x F => [(6, O (U ⟨A, 0, N⟩)), (7, S (U ⟨C, 0, N⟩) l.length l.length), (8, S h c.length m), (9, S k d.length o), (13, I J s), (14, I J g), (16, I J x), (17, I J F)]) (fun kk => fun x F => iB c d g s t kk x F = U r) (fun _ _ H => ?_) (fun k4 f8 x F H => ?_) aY (0) (0) (H)) (ss [0, 1, 2, 3] z z) (sb z)
         ·unfold iB at H
          exact absurd H (by simp)
         ·unfold iB at H
          refine am <| sR <| aa [.p, .p, .lenS 45 3 aT, .p] z <| nQ <| cI H z (fun H => ?_) (fun H => ?_)
          ·exact av <| az <| am <| ay <| dR bU (by kernel_rfl) <| aa [.p, .p, .p] z <| bE H fun f9 b8 H => bF (e := eI) (xs := d) (j := F) z z z z z aT ty3 z (ap (e := ad eI 3) (r := 3) z) b8 (by rw [Nat.mul_one]) <| o1 z (aM z z ty3 (bO (ap (e := ad eI 3) (r := 3) z) b8)) <| aa [.p, .p, .p, .p, .p] z <| bE H fun i3 b9 H => bF (e := eI) (xs := c) (j := F) z z z z z aT ty3 z (ap (e := ad eI 3) (r := 2) z) b9 (by rw [Nat.mul_one]) <| o1 z (aM z z ty3 (bO (ap (e := ad eI 3) (r := 2) z) b9)) <| bE H fun g2 g3 H => o1 z (yQ z z z g3) <| aa [.p, .p, .p] z <| co <| bW <| az <| aP <| aa [.p, .p, .p] z <| ax <| ct (RW.at (f8 (J.wrap (x + (J.wrap ((J.wrap (f9 * s)) * g2)))) (J.wrap (F + 1)) (H)) (ss [0, 1, 2, 3] z z) (sb z))
          ·exact bx <| aK <| aR <| aL <| az <| sR <| oPP z <| bE H fun a4 g4 H => oq z (qc z DF (fun f a => pS f g4 (ap (e := ad eI 3) (r := 1) z f a))) tt2 <| aa [.p, .p, .p, .p] z <| nR <| aa [.p, .p, .p, .p, .p, .p] z <| o1 z (bu [(0, [I J (J.wrap (x - (J.wrap (a4 * g))))]), (1, [I J (J.wrap ((J.wrap (s * s)) * g))])] [I J (J.wrap (x - (J.wrap (a4 * g)))), I J (J.wrap ((J.wrap (s * s)) * g))] z z ck tF z ⟨z, z, nl z, z, z, nl z, Y⟩ z) <| bE H fun L g5 H => oq z (qc z ES (fun f a => ue f (p0 := (aZ.mk (J.wrap (x - (J.wrap (a4 * g)))) (J.wrap ((J.wrap (s * s)) * g)))) g5)) tt2 <| sC 0 [I J L.u_, I J L.B_] [_, _] 0 z ck z <| nT <| aO (rs := [.cell 6 153]) (vs := [.agg #[I J L.u_, I J L.B_]]) z ⟨⟨_, [I J L.u_, I J L.B_], _, _, _, z, ck, (bn (T := 153) 0 (bJ (i := 0) z) z), z, z⟩, Y⟩ (fun w' hw' => by
            obtain rfl := af H
            exact ⟨z, hw'.ext⟩)
  ·clear H
   have H := a8
   clear a8
   generalize ((!a1) || ((p1.b_.length : Int) == 0)) = g9 at H key ⊢
   cases g9
   ·have H := bh z H
    refine o1 z (rx 0 0 _ z cV z) <| o1 z (rx 0 2 _ z cL z) <| bE H fun i8 h0 H => oq z (qc z xF (fun f a => hY f (p1 := p2) h0 (ah (ab Z f a) (ab a0 f a)))) tt2 <| oP z <| oP z <| ?_
    obtain rfl := af H
    exact OW.sub key (sb z)
   ·have H := bi z H
    refine aa [.p, .p, .p, .p, .p] z ?_
    obtain rfl := af H
    exact OW.sub key (sb z)
 ·generalize (!a1) = h2 at key ⊢
  cases h2
  ·exact aa [.fa 58 1 1 dt] z <| o1 z (r1 1 1 z cY z) <| aa [.lenS 28 45 cC, .p] z <| oP z <| OW.sub key (sb z)
  ·exact aa [.p, .p, .p, .p, .p] z <| OW.sub key (sb z)
theorem ro (w : World) {k : List Nat} {p0 : Int} {r : (List Int) × Bool} (H : mJ p0 = U r) (HS : St w k [] w) :
    Calls Tryz.prog 141 #[I J p0] w (fun en w' => ∃ v, en = .returned v ∧ ∃ (o : Option Addr), ∃ (q : Nat), ∃ (c0 : Nat), ∃ (C : List Nat), v = .tuple #[S o q c0, B r.2] ∧ St w k [W (ad eI 3) C r.1 [S o q c0]] w') := by
 unfold mJ at H
 refine aN Tryz.func141 z Tryz.ntmps141 z (HS) <| sR <| oPP z <| nR <| bI (e := eI) z z z z aT ty3 (fun _ => kp) fun g => oP z <| nQ <| am <| sR <| oPP z <| nQ <| cI H z (fun H => ?_) (fun H => ?_)
 ·exact sR <| aa [.p, .p, .p] z <| nT <| aq <| aO (rs := [.tmp 2, .tmp 3]) (vs := [S (U ⟨g, 0, N⟩) 0 0, B n]) z ⟨z, z, Y⟩ (fun w' hw' => by
   obtain rfl := af H
   exact ⟨_, z, (U ⟨g, 0, N⟩), 0, 0, [g], z, hw'.sel [0] z z⟩)
 ·refine av <| az <| am <| ay <| CW.at (iw (fun (a : Int) (c : List Int) (d : Option Addr) (f : Nat) (h : List Nat) => St w k [W (ad eI 3) h c [S d c.length f]]) (fun a c d f h => [(0, I J a), (4, S d c.length f)]) (fun kk => fun a c d f h => d.isNone = n ∧ iD kk a c = U r) (fun _ _ _ _ _ H => ?_) (fun F l a c d f h ⟨D, H⟩ => ?_) aY (p0) (([] : List Int)) ((U ⟨g, 0, N⟩)) (0) ([g]) (⟨z, H⟩)) (ss [0] z z) (sb z)
  ·unfold iD at H
   exact absurd H (by simp)
  ·unfold iD at H
   refine am <| sR <| oPP z <| nQ <| cI H z (fun H => ?_) (fun H => ?_)
   ·exact av <| az <| ay <| sR <| aa [.p, .p, .p] z <| bq (val := I J) (h1 := fun _ => z) [Int.tmod a 16777216] [(0, [I J (Int.tmod a 16777216)])] z z z z z aT ty3 z z z ⟨z, z, nl z, Y⟩ z z (fun _ => kp) fun E => bE H fun s j H => bC (r := 0) (ys := ([Int.tmod a 16777216] : List Int)) z z z z z z aT ty3 z z z (ap (e := ad eI 3) (r := 1) z) j (fun _ _ _ => kp) fun t u x => cc z (fun G A => fh (i := 0) A z (fe j)) fun m => oP z <| nQ <| aP <| aa [.p, .p, .p] z <| ax <| bW <| ct (RW.at (l (J.wrap (Int.tdiv a 16777216)) (s) (t) (u) (x) (⟨m, H⟩)) (ss [0] z z) (sb z))
   ·exact bx <| aK <| aR <| aL <| az <| sR <| aa [.p, .p, .p] z <| nT <| aO (rs := [.tmp 2, .tmp 3]) (vs := [S d c.length f, B y]) z ⟨z, z, Y⟩ (fun w' hw' => by
     obtain rfl := af H
     exact ⟨_, z, d, c.length, f, h, z, hw'.sel [0] z z⟩)
theorem ko (w : World) {p0 : List Int} {a_0 : Option Addr} {n_0 c_0 : Nat} {r : Bool} (H : jE p0 = U r) (c : (ad eI 3).rd w [] p0 [S a_0 n_0 c_0]) :
    Calls Tryz.prog 138 #[S a_0 n_0 c_0] w (fun en w' => en = .returned (B r) ∧ Ext [] w w') := by
 obtain rfl := fp c
 unfold jE at H
 refine aN Tryz.func138 z Tryz.ntmps138 z (St.init w []) <| sR <| oP z <| nQ <| am <| sR <| aa [.p, .lenS 45 3 aT, .p] z <| nQ <| cI H z (fun H => ?_) (fun H => ?_)
 ·exact sR <| oP z <| nT <| aq <| xr 2 z (by cases H; exact q1)
 ·refine av <| az <| am <| sR <| oP z <| nQ <| ay <| CW.at (gF (fun (a : Int) => St w [] []) (fun a => [(0, S a_0 p0.length c_0), (3, I J a)]) (fun kk => fun a => fU p0 kk a = U r) (fun _ H => ?_) (fun u h a H => ?_) aY (0) (H)) (ss [] z z) (sb z)
  ·unfold fU at H
   exact absurd H (by simp)
  ·unfold fU at H
   refine am <| sR <| aa [.p, .p, .lenS 45 3 aT, .p] z <| nQ <| cI H z (fun H => ?_) (fun H => ?_)
   ·refine av <| az <| am <| ay <| sR <| oPP z <| bE H fun o f H => bF (e := eI) (xs := p0) (j := a) z z z z z aT ty3 z (ab c) f (by rw [Nat.mul_one]) <| o1 z (aM z z ty3 (bO (ab c) f)) <| bE H fun q i H => oq z (qc z gN (fun m s => be m i)) tt2 <| oP z <| nQ <| cI H z (fun H => ?_) (fun H => ?_)
    ·exact sR <| oP z <| nT <| ba <| aq <| cd <| ba <| aq <| xr 2 z (by cases H; exact q1)
    ·exact av <| bW <| az <| aP <| aa [.p, .p, .p] z <| ax <| ct (RW.at (h (J.wrap (a + 1)) (H)) (ss [] z z) (sb z))
   ·refine bx <| aK <| aR <| aL <| az <| sR <| aa [.p, .lenS 45 3 aT, .p, .p] z <| bE H fun k d H => aV [(30, B k)] 8 ?_ (fun key => OW.sub (R := [(0, S a_0 p0.length c_0), (22, B ((p0.length : Int) == 0))]) ?_ (sb z))
    ·exact oP z <| nT <| xr 2 z (by cases H; exact q1)
    ·clear H
     have H := d
     clear d
     generalize ((p0.length : Int) == 0) = l at H key ⊢
     cases l
     ·have H := bh z H
      refine aa [.p, .p, .lenS 45 3 aT, .p] z <| bE H fun t g H => bF (e := eI) (xs := p0) (j := J.wrap ((p0.length : Int) - 1)) z z z z z aT ty3 z (ab c) g (by rw [Nat.mul_one]) <| o1 z (aM z z ty3 (bO (ab c) g)) <| oP z <| oP z <| ?_
      obtain rfl := af H
      exact OW.sub key ⟨z, Y⟩
     ·have H := bi z H
      refine aa [.p, .p, .p, .p, .p, .p, .p, .p] z ?_
      obtain rfl := af H
      exact OW.sub key ⟨z, Y⟩
theorem qk (w : World) {d : List Nat} {p0 : List Int} {a_0 : Option Addr} {n_0 c_0 : Nat} {r : List Int} (H : lL p0 = U r) (HS : St w d [] w) (h : (ad eI 3).rd w d p0 [S a_0 n_0 c_0]) :
    Calls Tryz.prog 143 #[S a_0 n_0 c_0] w (fun en w' => ∃ v, en = .returned v ∧ ∃ (q : Option Addr), ∃ (s : Nat), ∃ (c0 : Nat), ∃ (F : List Nat), v = S q s c0 ∧ St w d [W (ad eI 3) F r [S q s c0]] w') := by
 obtain rfl := fp h
 unfold lL at H
 refine aN Tryz.func143 z Tryz.ntmps143 z (HS) <| sR <| oP z <| nR <| aa [.p, .lenS 45 3 aT, .p] z <| nQ <| am <| ay <| CW.at (gF (fun (a : Int) => St w d []) (fun a => [(0, S a_0 p0.length c_0), (3, I J a)]) (fun kk => fun a => gZ p0 kk a = U r) (fun _ H => ?_) (fun P o a H => ?_) aY ((p0.length : Int)) (H)) (ss [] z z) (sb z)
 ·unfold gZ at H
  exact absurd H (by simp)
 ·unfold gZ at H
  refine am <| sR <| aa [.p, .p, .p] z <| bE H fun t f H => aV [(15, B t), (0, S a_0 p0.length c_0), (3, I J a)] 7 ?_ (fun key => OW.sub (R := [(0, S a_0 p0.length c_0), (3, I J a), (8, B (decide (a > 0)))]) ?_ (sb z))
  ·refine nQ <| cI H z (fun H => ?_) (fun H => ?_)
   ·exact av <| az <| ay <| aP <| aa [.p, .p, .p] z <| ax <| bW <| ct (RW.at (o (J.wrap (a - 1)) (H)) (ss [] z z) (sb z))
   ·refine bx <| aK <| aR <| aL <| az <| sR <| bI (e := eI) z z z z aT ty3 (fun _ => kp) fun G => oPP z <| bE H fun g u H => De z z z z aT ty3 z z z u h fun L c => ?_
    obtain ⟨x, A, rfl⟩ := ER c
    have c : (ad eI 3).rd w d g [S x g.length A] := c
    exact bE H fun i C H => bC (r := 0) (ys := g) z z z z z z aT ty3 z z z (ab c) C (fun _ _ _ => kp) fun k l D => oP z <| nT <| aO (rs := [.tmp 2]) (vs := [S k i.length l]) z ⟨z, Y⟩ (fun w' hw' => by
     obtain rfl := af H
     exact ⟨_, z, k, i.length, l, D, z, hw'.sel [0] z z⟩)
  ·clear H
   have H := f
   clear f
   generalize (decide (a > 0)) = E at H key ⊢
   cases E
   ·have H := bh z H
    refine aa [.p, .p, .p, .p, .p, .p, .p] z ?_
    obtain rfl := af H
    exact OW.sub key (sb z)
   ·have H := bi z H
    refine aa [.p, .p, .p] z <| bE H fun M m H => bF (e := eI) (xs := p0) (j := J.wrap (a - 1)) z z z z z aT ty3 z (ab h) m (by rw [Nat.mul_one]) <| o1 z (aM z z ty3 (bO (ab h) m)) <| oP z <| oP z <| ?_
    obtain rfl := af H
    exact OW.sub key (sb z)
theorem kK (w : World) {o : List Nat} {p0 : List Int} {p1 : List Int} {a_0 : Option Addr} {n_0 c_0 : Nat} {a_1 : Option Addr} {n_1 c_1 : Nat} {r : (List Int) × Bool} (H : jq p0 p1 = U r) (HS : St w o [] w) (Z : (ad eI 3).rd w o p0 [S a_0 n_0 c_0]) (g1 : (ad eI 3).rd w o p1 [S a_1 n_1 c_1]) :
    Calls Tryz.prog 133 #[S a_0 n_0 c_0, S a_1 n_1 c_1] w (fun en w' => ∃ v, en = .returned v ∧ ∃ (a0 : Option Addr), ∃ (n0 : Nat), ∃ (c0 : Nat), ∃ (F0 : List Nat), v = .tuple #[S a0 n0 c0, B r.2] ∧ St w o [W (ad eI 3) F0 r.1 [S a0 n0 c0]] w') := by
 obtain rfl := fp Z
 obtain rfl := fp g1
 unfold jq at H
 refine aN Tryz.func133 z Tryz.ntmps133 z (HS) <| sR <| oPP z <| nQ <| am <| sR <| oP z <| bE H fun a3 b1 H => oq z (qc z wg (fun m h => ko m b1 (ab Z m h))) tt2 <| oPP z <| bE H fun b2 t H => aV [(18, B b2), (0, S a_0 p0.length c_0), (1, S a_1 p1.length c_1)] 4 ?_ (fun key => OW.sub (R := [(0, S a_0 p0.length c_0), (1, S a_1 p1.length c_1), (14, B (!a3))]) ?_ (sb z))
 ·refine nQ <| cI H z (fun H => ?_) (fun H => ?_)
  ·exact sR <| bI (e := eI) z z z z aT ty3 (fun _ => kp) fun u => oPP z <| nT <| aq <| aO (rs := [.tmp 4, .tmp 5]) (vs := [S (U ⟨u, 0, N⟩) 0 0, B n]) z ⟨z, z, Y⟩ (fun w' hw' => by
    obtain rfl := af H
    exact ⟨_, z, (U ⟨u, 0, N⟩), 0, 0, [u], z, hw'.sel [0] z z⟩)
  ·refine av <| az <| sR <| aa [.p, .lenS 45 3 aT, .p, .lenS 45 3 aT, .p, .p] z <| bE H fun g b3 H => rR (e := eI) (zero := (0 : Int)) z z z z z z aT ty3 z z z z (fun _ => ⟨z, z⟩) b3 (fun _ => kp) fun k => oP z <| nQ <| am <| sR <| oP z <| nQ <| ay <| CW.at (jH (fun (l : List Int) (a : Int) => St w o [W (ad eI 3) [k] l [S (U ⟨k, 0, N⟩) g.length g.length]]) (fun l a => [(0, S a_0 p0.length c_0), (1, S a_1 p1.length c_1), (6, S (U ⟨k, 0, N⟩) g.length g.length), (7, I J a)]) (fun kk => fun l a => ft p0 p1 kk l a = U r) (fun _ _ H => ?_) (fun k1 a4 l a H => ?_) aY (g) (0) (H)) (ss [0] z z) (sb z)
   ·unfold ft at H
    exact absurd H (by simp)
   ·unfold ft at H
    refine am <| sR <| aa [.p, .p, .lenS 45 3 aT, .p] z <| nQ <| cI H z (fun H => ?_) (fun H => ?_)
    ·refine av <| az <| am <| ay <| sR <| oP z <| nQ <| am <| sR <| oP z <| nQ <| ay <| CW.at (Cp (fun (c : List Int) (f : Int) (d : Int) => St w o [W (ad eI 3) [k] c [S (U ⟨k, 0, N⟩) g.length g.length]]) (fun c f d => [(0, S a_0 p0.length c_0), (1, S a_1 p1.length c_1), (6, S (U ⟨k, 0, N⟩) g.length g.length), (7, I J a), (8, I J f), (9, I J d)]) (fun kk => fun c f d => fq p1 a p0 (ft p0 p1 k1) kk c f d = U r) (fun _ _ _ H => ?_) (fun k2 a5 c f d H => ?_) aY (l) (0) (0) (H)) (ss [0] z z) (sb z)
     ·unfold fq at H
      exact absurd H (by simp)
     ·unfold fq at H
      refine am <| sR <| aa [.p, .p, .lenS 45 3 aT, .p] z <| nQ <| cI H z (fun H => ?_) (fun H => ?_)
      ·exact av <| az <| am <| ay <| am <| dR bU (by kernel_rfl) <| aa [.p, .p, .p, .p] z <| bE H fun x A H => bF (e := eI) (xs := c) (j := J.wrap (a + d)) z z z z z aT ty3 z (ap (e := ad eI 3) (r := 0) z) A (by rw [Nat.mul_one]) <| o1 z (aM z z ty3 (bO (ap (e := ad eI 3) (r := 0) z) A)) <| oPP z <| bE H fun C D H => bF (e := eI) (xs := p0) (j := a) z z z z z aT ty3 z (ab Z) D (by rw [Nat.mul_one]) <| o1 z (aM z z ty3 (bO (ab Z) D)) <| oPP z <| bE H fun E F H => bF (e := eI) (xs := p1) (j := d) z z z z z aT ty3 z (ab g1) F (by rw [Nat.mul_one]) <| o1 z (aM z z ty3 (bO (ab g1) F)) <| aa [.p, .p, .p, .p, .p] z <| co <| az <| sR <| aa [.p, .p, .p, .p, .p, .p] z <| bE H fun b8 G H => bF (e := eI) (xs := c) (j := J.wrap (a + d)) z z z z z aT ty3 z (ap (e := ad eI 3) (r := 0) z) G (by rw [Nat.mul_one]) <| lW (i := 0) (j := J.wrap (a + d)) z z z z z z ty3 z G (fun _ => z) kp <| nQ <| aP <| aa [.p, .p, .p] z <| ax <| bW <| az <| aP <| aa [.p, .p, .p] z <| ax <| ct (RW.at (a5 ((c.set (J.wrap (a + d)).toNat (Int.tmod (J.wrap ((J.wrap (x + (J.wrap (C * E)))) + f)) 16777216))) (J.wrap (Int.tdiv (J.wrap ((J.wrap (x + (J.wrap (C * E)))) + f)) 16777216)) (J.wrap (d + 1)) (H)) (ss [0] z z) (sb z))
      ·exact bx <| aK <| aR <| aL <| az <| aP <| aa [.p, .p, .p, .lenS 45 3 aT, .p, .p, .p, .p, .lenS 45 3 aT, .p] z <| bE H fun a6 L H => bF (e := eI) (xs := c) (j := J.wrap (a + (p1.length : Int))) z z z z z aT ty3 z (ap (e := ad eI 3) (r := 0) z) L (by rw [Nat.mul_one]) <| o1 z (aM z z ty3 (bO (ap (e := ad eI 3) (r := 0) z) L)) <| oPP z <| bE H fun b9 M H => bF (e := eI) (xs := c) (j := J.wrap (a + (p1.length : Int))) z z z z z aT ty3 z (ap (e := ad eI 3) (r := 0) z) M (by rw [Nat.mul_one]) <| lW (i := 0) (j := J.wrap (a + (p1.length : Int))) z z z z z z ty3 z M (fun _ => z) kp <| ax <| bW <| az <| aP <| aa [.p, .p, .p] z <| ax <| ct (RW.at (a4 ((c.set (J.wrap (a + (p1.length : Int))).toNat (J.wrap (a6 + f)))) (J.wrap (a + 1)) (H)) (ss [0] z z) (sb z))
    ·refine bx <| aK <| aR <| aL <| az <| sR <| oP z <| bE H fun P a7 H => aj z DI z z z z (fun m h => qk m a7 (h.carve [] z z) (ap (e := ad eI 3) (r := 0) z m h)) fun c1 m w2 h a2 => ?_
     obtain ⟨Q, c2, X, a8, rfl, s⟩ := a2
     obtain rfl := aA (i := 0) s z
     refine ⟨St w o [_, _], h.comp [] z z s, fun _ _ => Y, ?_⟩
     refine oP z <| nQ <| am <| sR <| aa [.p, .lenS 45 3 aT, .p] z <| nQ <| cI H z (fun H => ?_) (fun H => ?_)
     ·exact sR <| bI (e := eI) z z z z aT ty3 (fun _ => kp) fun q => oPP z <| nT <| aq <| aO (rs := [.tmp 4, .tmp 5]) (vs := [S (U ⟨q, 0, N⟩) 0 0, B n]) z ⟨z, z, Y⟩ (fun w' hw' => by
       obtain rfl := af H
       exact ⟨_, z, (U ⟨q, 0, N⟩), 0, 0, [q], z, hw'.sel [2] z z⟩)
     ·exact av <| az <| sR <| aa [.p, .p, .p] z <| nT <| aO (rs := [.tmp 4, .tmp 5]) (vs := [S Q P.length X, B y]) z ⟨z, z, Y⟩ (fun w' hw' => by
       obtain rfl := af H
       exact ⟨_, z, Q, P.length, X, a8, z, hw'.sel [1] z z⟩)
 ·clear H
  have H := t
  clear t
  generalize (!a3) = b4 at H key ⊢
  cases b4
  ·have H := bh z H
   refine oP z <| bE H fun c3 b5 H => oq z (qc z wg (fun m h => ko m b5 (ab g1 m h))) tt2 <| oP z <| oP z <| ?_
   obtain rfl := af H
   exact OW.sub key (sb z)
  ·have H := bi z H
   refine aa [.p, .p, .p, .p] z ?_
   obtain rfl := af H
   exact OW.sub key (sb z)
theorem il (w : World) {d : List Nat} {p0 : Int} {p1 : Int} {r : List Int} (H : fY p0 p1 = U r) (HS : St w d [] w) :
    Calls Tryz.prog 131 #[I J p0, I J p1] w (fun en w' => ∃ v, en = .returned v ∧ ∃ (s : Option Addr), ∃ (t : Nat), ∃ (c0 : Nat), ∃ (E : List Nat), v = S s t c0 ∧ St w d [W (ad eI 3) E r [S s t c0]] w') := by
 unfold fY at H
 refine aN Tryz.func131 z Tryz.ntmps131 z (HS) <| sR <| oP z <| nR <| oP z <| bE H fun F u H => aj z DM z z z z (fun c a => ro c u (a.carve [] z z)) fun G c x a m => ?_
 obtain ⟨L, M, P, Q, rfl, f⟩ := m
 obtain rfl := aA (i := 0) f z
 refine ⟨St w d [_], a.comp [] z z f, fun _ _ => Y, ?_⟩
 refine aa [.p, .p, .p, .p, .p] z <| nR <| oP z <| bE H fun R A H => aj z DM z z z z (fun c a => ro c A (a.carve [] z z)) fun X c x a o => ?_
 obtain ⟨Z, a1, a2, a3, rfl, g⟩ := o
 obtain rfl := aA (i := 0) g z
 refine ⟨St w d [_, _], a.comp [] z z g, fun _ _ => Y, ?_⟩
 refine aa [.p, .p, .p, .p, .p] z <| nR <| oPP z <| bE H fun j C H => aj z xC z z z z (fun c a => kK c C (a.carve [] z z) (ap (e := ad eI 3) (r := 0) z c a) (ap (e := ad eI 3) (r := 1) z c a)) fun a4 c x a q => ?_
 obtain ⟨k, a5, l, D, rfl, h⟩ := q
 obtain rfl := aA (i := 0) h z
 refine ⟨St w d [_, _, _], a.comp [] z z h, fun _ _ => Y, ?_⟩
 exact aa [.p, .p, .p, .p, .p] z <| nR <| oPP z <| nT <| aO (rs := [.tmp 4]) (vs := [S k j.1.length l]) z ⟨z, Y⟩ (fun w' hw' => by
  obtain rfl := af H
  exact ⟨_, z, k, j.1.length, l, D, z, hw'.sel [2] z z⟩)
theorem vK (w : World) {p0 : Int} {p1 : Int} {r : Int} (H : oo p0 p1 = U r)   :
    Calls Tryz.prog 139 #[I J p0, I J p1] w (fun en w' => en = .returned (I J r) ∧ Ext [] w w') := by
 unfold oo at H
 refine aN Tryz.func139 z Tryz.ntmps139 z (St.init w []) <| sR <| oP z <| nQ <| am <| sR <| aa [.p, .p, .p] z <| nQ <| cI H z (fun H => ?_) (fun H => ?_)
 ·exact sR <| oPP z <| nT <| aq <| xr 4 z (by cases H; exact q1)
 ·exact av <| az <| sR <| oPP z <| nT <| xr 4 z (by cases H; exact q1)
theorem oh (w : World) {p0 : List Int} {p1 : Int} {a_0 : Option Addr} {n_0 c_0 : Nat} {r : Int} (H : kQ p0 p1 = U r) (c : (ad eI 3).rd w [] p0 [S a_0 n_0 c_0]) :
    Calls Tryz.prog 140 #[S a_0 n_0 c_0, I J p1] w (fun en w' => en = .returned (I J r) ∧ Ext [] w w') := by
 obtain rfl := fp c
 unfold kQ at H
 refine aN Tryz.func140 z Tryz.ntmps140 z (St.init w []) <| sR <| oP z <| nQ <| am <| sR <| aa [.p, .p, .lenS 45 3 aT, .p] z <| nQ <| cI H z (fun H => ?_) (fun H => ?_)
 ·exact sR <| oPP z <| bE H fun d a H => bF (e := eI) (xs := p0) (j := p1) z z z z z aT ty3 z (ab c) a (by rw [Nat.mul_one]) <| o1 z (aM z z ty3 (bO (ab c) a)) <| oP z <| nT <| aq <| xr 4 z (by cases H; exact q1)
 ·exact av <| az <| sR <| oP z <| nT <| xr 4 z (by cases H; exact q1)
theorem oC (w : World) {p0 : List Int} {p1 : List Int} {a_0 : Option Addr} {n_0 c_0 : Nat} {a_1 : Option Addr} {n_1 c_1 : Nat} {r : Int} (H : kO p0 p1 = U r) (g : (ad eI 3).rd w [] p0 [S a_0 n_0 c_0]) (h : (ad eI 3).rd w [] p1 [S a_1 n_1 c_1]) :
    Calls Tryz.prog 130 #[S a_0 n_0 c_0, S a_1 n_1 c_1] w (fun en w' => en = .returned (I J r) ∧ Ext [] w w') := by
 obtain rfl := fp g
 obtain rfl := fp h
 unfold kO at H
 refine aN Tryz.func130 z Tryz.ntmps130 z (St.init w []) <| sR <| oP z <| nQ <| am <| sR <| oP z <| bE H fun f j H => oq z (qc z wg (fun a c => ko a j (ab g a c))) tt2 <| oPP z <| bE H fun k e H => aV [(15, B k), (0, S a_0 p0.length c_0), (1, S a_1 p1.length c_1)] 4 ?_ (fun key => OW.sub (R := [(0, S a_0 p0.length c_0), (1, S a_1 p1.length c_1), (11, B (!f))]) ?_ (sb z))
 ·refine nQ <| cI H z (fun H => ?_) (fun H => ?_)
  ·exact sR <| oP z <| nT <| aq <| xr 4 z (by cases H; exact q1)
  ·refine av <| az <| am <| sR <| aa [.p, .lenS 45 3 aT, .p, .lenS 45 3 aT] z <| bE H fun l m H => oq z (qc z Fx (fun a c => vK a m)) tt2 <| oPP z <| nQ <| ay <| CW.at (gF (fun (d : Int) => St w [] []) (fun d => [(0, S a_0 p0.length c_0), (1, S a_1 p1.length c_1), (5, I J d)]) (fun kk => fun d => hH p0 p1 kk d = U r) (fun _ H => ?_) (fun A i d H => ?_) aY (J.wrap (l - 1)) (H)) (ss [] z z) (sb z)
   ·unfold hH at H
    exact absurd H (by simp)
   ·unfold hH at H
    refine am <| sR <| oPP z <| nQ <| cI H z (fun H => ?_) (fun H => ?_)
    ·refine av <| az <| am <| ay <| sR <| oPP z <| bE H fun u o H => oq z (qc z Bh (fun a c => oh a o (ab g a c))) tt2 <| oP z <| nR <| oPP z <| bE H fun v q H => oq z (qc z Bh (fun a c => oh a q (ab h a c))) tt2 <| oP z <| nQ <| am <| sR <| aa [.p, .p, .p] z <| nQ <| cI H z (fun H => ?_) (fun H => ?_)
     ·exact sR <| oP z <| nT <| aq <| ba <| aq <| cd <| ba <| aq <| xr 4 z (by cases H; exact q1)
     ·refine av <| az <| sR <| aa [.p, .p, .p] z <| nQ <| cI H z (fun H => ?_) (fun H => ?_)
      ·exact sR <| oP z <| nT <| ba <| aq <| cd <| ba <| aq <| xr 4 z (by cases H; exact q1)
      ·exact av <| bW <| az <| aP <| aa [.p, .p, .p] z <| ax <| ct (RW.at (i (J.wrap (d - 1)) (H)) (ss [] z z) (sb z))
    ·exact bx <| aK <| aR <| aL <| az <| sR <| oP z <| nT <| xr 4 z (by cases H; exact q1)
 ·clear H
  have H := e
  clear e
  generalize (!f) = s at H key ⊢
  cases s
  ·have H := bh z H
   refine oP z <| bE H fun x t H => oq z (qc z wg (fun a c => ko a t (ab h a c))) tt2 <| oP z <| oP z <| ?_
   obtain rfl := af H
   exact OW.sub key (sb z)
  ·have H := bi z H
   refine aa [.p, .p, .p, .p] z ?_
   obtain rfl := af H
   exact OW.sub key (sb z)
theorem kf (w : World) {p0 : aZ} {p1 : aZ} {r : Int} (H : iv p0 p1 = U r)   :
    Calls Tryz.prog 117 #[.agg #[I J p0.u_, I J p0.B_], .agg #[I J p1.u_, I J p1.B_]] w (fun en w' => en = .returned (I J r) ∧ Ext [] w w') := by
 unfold iv at H
 refine aN Tryz.func117 z Tryz.ntmps117 z (St.init w []) <| sR <| ob _ z fun d => ob _ z fun f => oP z <| nQ <| am <| sR <| o1 z (rx 0 0 _ z ck z) <| bE H fun k o H => oq z (qc z wh (fun c a => jI c (p0 := p0) o)) tt2 <| oPP z <| bE H fun q g H => aV [(12, B q), (2, O (U ⟨d, 0, N⟩)), (3, O (U ⟨f, 0, N⟩))] 4 ?_ (fun key => OW.sub (R := [(2, O (U ⟨d, 0, N⟩)), (3, O (U ⟨f, 0, N⟩)), (8, B (!k))]) ?_ (sb z))
 ·refine nQ <| cI H z (fun H => ?_) (fun H => ?_)
  ·exact sR <| oP z <| nT <| aq <| xr 4 z (by cases H; exact q1)
  ·refine av <| az <| am <| cw 9 [(0, y), (1, y), (2, y), (3, y), (5, y), (6, y), (7, y), (8, y), (4, n)] (St w [] [b d 153 [I J p0.u_, I J p0.B_], b f 153 [I J p1.u_, I J p1.B_]]) bU (by kernel_rfl) (aJ bb) (tk 2 z) <| aa [.fa 153 0 0 nO] z <| bm z (aw z) (r1 0 0 z ty3 z) <| aa [.fa 153 1 1 na] z <| bm z (aw z) (r1 1 1 z ty3 z) <| aa [.fa 153 0 0 nO] z <| bm z (aw z) (r1 0 1 z ty3 z) <| aa [.fa 153 1 1 na] z <| bm z (aw z) (r1 1 0 z ty3 z) <| bE H fun C s H => aj z vl z z z z (fun c a => il c s (a.carve [] z z)) fun D c A a l => ?_
   obtain ⟨E, F, G, L, rfl, h⟩ := l
   obtain rfl := aA (i := 0) h z
   refine ⟨St w [] [_, _, _], a.comp [] z z h, (tk 2 z), ?_⟩
   refine aQ <| jf <| bE H fun M t H => aj z vl z z z z (fun c a => il c t (a.carve [] z z)) fun P c A a m => ?_
   obtain ⟨Q, X, Z, a0, rfl, j⟩ := m
   obtain rfl := aA (i := 0) j z
   refine ⟨St w [] [_, _, _, _], a.comp [] z z j, fun _ _ => Y, ?_⟩
   exact bE H fun a1 u H => oq z (qc z Cb (fun c a => oC c u (ap (e := ad eI 3) (r := 2) z c a) (ap (e := ad eI 3) (r := 3) z c a))) tt2 <| oP z <| nT <| xr 4 z (by cases H; exact q1)
 ·clear H
  have H := g
  clear g
  generalize (!k) = v at H key ⊢
  cases v
  ·have H := bh z H
   refine o1 z (rx 0 1 _ z ck z) <| bE H fun a2 x H => oq z (qc z wh (fun c a => jI c (p0 := p1) x)) tt2 <| oP z <| oP z <| ?_
   obtain rfl := af H
   exact OW.sub key (sb z)
  ·have H := bi z H
   refine aa [.p, .p, .p, .p] z ?_
   obtain rfl := af H
   exact OW.sub key (sb z)
theorem kP (w : World) {p0 : ae} {p1 : ar} {p2 : Int} {p3 : Bool} {b7 : List Value} {b8 : List Value} {r : au × aZ} (H : nf p0 p1 p2 p3 = U r) (g0 : (bk).rd w [] p0 b7) (g1 : (cb).rd w [] p1 b8) :
    Calls Tryz.prog 127 #[.agg b7.toArray, .agg b8.toArray, I J p2, B p3] w (fun en w' => en = .returned (.tuple #[.agg #[I J r.1.j_, I J r.1.c_], .agg #[I J r.2.u_, I J r.2.B_]]) ∧ Ext [] w w') := by
 obtain ⟨d6, d7, rfl, E, F⟩ := aX g0
 obtain ⟨a1, a2, rfl⟩ := ao E
 obtain ⟨a3, a4, rfl⟩ := ao F
 obtain ⟨d8, d9, rfl, X, Z⟩ := aS g1
 obtain ⟨a5, a6, rfl⟩ := ao X
 obtain ⟨a7, a8, rfl⟩ := ao Z
 unfold nf at H
 refine aN Tryz.func127 z Tryz.ntmps127 z (St.init w []) <| sR <| ob _ z fun t => ob _ z fun u => aB z z z z cL (fun _ => kp) fun x => aB z z z z ck (fun _ => kp) fun v => nQ <| am <| sR <| o1 z (rx 0 0 _ z cV z) <| o1 z (rx 0 1 _ z cK z) <| bE H fun a0 c4 H => oq z (qc z wq (fun c a => fz c c4 (ah (ab E c a) (ab F c a)) (aH (ab X c a) (ab Z c a)))) tt2 <| oPP z <| aV [(24, B ((!a0) || ((p1.b_.length : Int) == 0))), (2, I J p2), (3, B p3), (4, O (U ⟨t, 0, N⟩)), (5, O (U ⟨u, 0, N⟩)), (8, O (U ⟨x, 0, N⟩)), (9, O (U ⟨v, 0, N⟩))] 5 ?_ (fun key => OW.sub (R := [(2, I J p2), (3, B p3), (4, O (U ⟨t, 0, N⟩)), (5, O (U ⟨u, 0, N⟩)), (8, O (U ⟨x, 0, N⟩)), (9, O (U ⟨v, 0, N⟩)), (19, B (!a0))]) ?_ (sb z))
 ·refine oP z <| bE H fun c5 b1 H => aV [(33, B c5), (2, I J p2), (3, B p3), (4, O (U ⟨t, 0, N⟩)), (5, O (U ⟨u, 0, N⟩)), (8, O (U ⟨x, 0, N⟩)), (9, O (U ⟨v, 0, N⟩))] 8 ?_ (fun key => OW.sub (R := [(2, I J p2), (3, B p3), (4, O (U ⟨t, 0, N⟩)), (5, O (U ⟨u, 0, N⟩)), (8, O (U ⟨x, 0, N⟩)), (9, O (U ⟨v, 0, N⟩)), (25, B ((!a0) || ((p1.b_.length : Int) == 0)))]) ?_ (sb z))
  ·refine nQ <| cI H z (fun H => ?_) (fun H => ?_)
   ·exact sR <| o1 z (bu [] [I J 0, I J 0] z z cL xG z Y z) <| o1 z (bu [] [I J 0, I J 0] z z ck tF z Y z) <| sC 0 [I J 0, I J 0] [_, _] 2 z cL z <| sC 0 [I J 0, I J 0] [_, _] 3 z ck z <| nT <| aq <| aO (rs := [.cell 8 56, .cell 9 153]) (vs := [.agg #[I J 0, I J 0], .agg #[I J 0, I J 0]]) z ⟨⟨_, [I J 0, I J 0], _, _, _, z, cL, (bn (T := 56) 0 (bJ (i := 2) z) z), z, z⟩, ⟨_, [I J 0, I J 0], _, _, _, z, ck, (bn (T := 153) 0 (bJ (i := 3) z) z), z, z⟩, Y⟩ (fun w' hw' => by
     obtain rfl := af H
     exact ⟨z, hw'.ext⟩)
   ·refine av <| az <| sR <| o1 z (rx 0 0 _ z cV z) <| oP z <| bq (val := I J) (h1 := fun _ => z) [p2] [(0, [I J p2])] z z z z z aT ty3 z z z ⟨z, z, nl z, Y⟩ z z (fun _ => kp) fun e0 => oP z <| bE H fun d c6 H => aj z FJ z z z z (fun c a => rv c c6 (a.carve [] z z) (ah (ab E c a) (ab F c a)) (ap (e := ad eI 3) (r := 4) z c a)) fun e1 c w2 a c0 => ?_
    obtain ⟨G, e2, L, a9, rfl, b2⟩ := c0
    obtain rfl := aA (i := 0) b2 z
    refine ⟨St w [] [_, _, _, _, _, _], a.comp [] z z b2, fun _ _ => Y, ?_⟩
    refine oP z <| nR <| oP z <| bE H fun C b9 H => bF (e := bD) (xs := d) (j := 0) z z z z z oa cL z (fun c a => ap (e := ad (bD) 56) (r := 5) z c a) b9 z <| o1 z (dk (cs := [I J C.j_, I J C.c_]) z z cL (oe (oU (fun c a => ap (e := ad (bD) 56) (r := 5) z c a) b9 (fun _ _ h => h)) z) z) <| aB z z z z cL (fun _ => kp) fun M => sC 0 [I J C.j_, I J C.c_] [_, _] 6 z cL z <| nR <| o1 z (rx 0 0 _ z cV z) <| o1 z (rx 0 1 _ z cK z) <| o1 z (rx 0 6 _ z cL z) <| bE H fun b0 c7 H => oq z (qc z BI (fun c a => oW c (p2 := C) c7 (ah (ab E c a) (ab F c a)) (aH (ab X c a) (ab Z c a)))) tt2 <| aB z z z z ck (fun _ => kp) fun P => sC 0 [I J b0.u_, I J b0.B_] [_, _] 7 z ck z <| nQ <| am <| sR <| oP z <| nQ <| ay <| CW.at (iw (fun (k : Int) (l : Int) (f : Int) (g : Int) (m : Int) => St w [] [W (ad (bD) 56) a9 d [S G d.length L], b M 56 [I J k, I J l], b P 153 [I J f, I J g], b t 73 [S a1 p0.f_.length a2, S a3 p0.n_.length a4], b u 58 [S a5 p1.d_.length a6, S a7 p1.b_.length a8], b x 56 [I J 0, I J 0], b v 153 [I J 0, I J 0]]) (fun k l f g m => [(4, O (U ⟨t, 0, N⟩)), (5, O (U ⟨u, 0, N⟩)), (8, O (U ⟨x, 0, N⟩)), (9, O (U ⟨v, 0, N⟩)), (10, S G d.length L), (11, O (U ⟨M, 0, N⟩)), (12, O (U ⟨P, 0, N⟩)), (13, I J m)]) (fun kk => fun k l f g m => ga d p0 p1 kk k l f g m = U r) (fun _ _ _ _ _ H => ?_) (fun k1 b3 k l f g m H => ?_) aY (C.j_) (C.c_) (b0.u_) (b0.B_) (1) (H)) (ss [5, 6, 7, 0, 1, 2, 3] z z) (sb z)
    ·unfold ga at H
     exact absurd H (by simp)
    ·unfold ga at H
     refine am <| sR <| aa [.p, .p, .lenS 120 56 oa, .p] z <| nQ <| cI H z (fun H => ?_) (fun H => ?_)
     ·refine av <| az <| am <| ay <| xg (fun (D : Nat) (o : Int) (q : Int) => St w [] [W (ad (bD) 56) a9 d [S G d.length L], b M 56 [I J k, I J l], b P 153 [I J f, I J g], b D 153 [I J o, I J q], b t 73 [S a1 p0.f_.length a2, S a3 p0.n_.length a4], b u 58 [S a5 p1.d_.length a6, S a7 p1.b_.length a8], b x 56 [I J 0, I J 0], b v 153 [I J 0, I J 0]]) (fun D o q => [(4, O (U ⟨t, 0, N⟩)), (5, O (U ⟨u, 0, N⟩)), (8, O (U ⟨x, 0, N⟩)), (9, O (U ⟨v, 0, N⟩)), (10, S G d.length L), (11, O (U ⟨M, 0, N⟩)), (12, O (U ⟨P, 0, N⟩)), (13, I J m), (14, O (U ⟨D, 0, N⟩))]) (fun D o q => mj f g d m (ga d p0 p1 k1) k l o q = U r) (fun D o q H => ?_) (fun J1 => ?_)
      ·unfold mj at H
       refine sR <| o1 z (rx 0 3 _ z ck z) <| o1 z (rx 0 2 _ z ck z) <| bE H fun d5 c1 H => oq z (qc z xT (fun c a => kf c (p0 := (aZ.mk o q)) (p1 := (aZ.mk f g)) c1)) tt2 <| oP z <| nQ <| cI H z (fun H => ?_) (fun H => ?_)
       ·exact sR <| oPP z <| bE H fun A b4 H => bF (e := bD) (xs := d) (j := m) z z z z z oa cL z (fun c a => ap (e := ad (bD) 56) (r := 0) z c a) b4 z <| o1 z (dk (cs := [I J A.j_, I J A.c_]) z z cL (oe (oU (fun c a => ap (e := ad (bD) 56) (r := 0) z c a) b4 (fun _ _ h => h)) z) z) <| sC 0 [I J A.j_, I J A.c_] [_, _] 1 z cL z <| nQ <| aP <| o1 z (rx 0 3 _ z ck z) <| sC 0 [I J o, I J q] [_, _] 2 z ck z <| ax <| bW <| az <| aP <| aa [.p, .p, .p] z <| ax <| ct (RW.at (b3 (A.j_) (A.c_) (o) (q) (J.wrap (m + 1)) (H)) (ss [0, 1, 2, 4, 5, 6, 7] z z) (sb z))
       ·exact av <| bW <| az <| aP <| aa [.p, .p, .p] z <| ax <| ct (RW.at (b3 (k) (l) (f) (g) (J.wrap (m + 1)) (H)) (ss [0, 1, 2, 4, 5, 6, 7] z z) (sb z))
      ·refine bE H fun Q b5 H => bE H fun s b6 H => qI 8 [(0, y), (1, y), (2, y), (3, y), (4, y), (5, y)] (Br.alt 6 (Br.pre [(7, n)] Br.done) (Br.pre [(7, n), (6, n)] Br.done)) (St w [] [W (ad (bD) 56) a9 d [S G d.length L], b M 56 [I J k, I J l], b P 153 [I J f, I J g], b t 73 [S a1 p0.f_.length a2, S a3 p0.n_.length a4], b u 58 [S a5 p1.d_.length a6, S a7 p1.b_.length a8], b x 56 [I J 0, I J 0], b v 153 [I J 0, I J 0]]) bU (by kernel_rfl) (aJ (bj (aJ (db (bj (aJ bb)))))) (tk 7 z) <| bm z (aw z) (rx 0 3 _ z cV z) <| bm z (aw z) (rx 0 4 _ z cK z) <| oPP z <| bF (e := bD) (xs := d) (j := m) z z z z z oa cL z (fun c a => ap (e := ad (bD) 56) (r := 0) z c a) b5 z <| bm z (aw z) (dk (cs := [I J Q.j_, I J Q.c_]) z z cL (oe (oU (fun c a => ap (e := ad (bD) 56) (r := 0) z c a) b5 (fun _ _ h => h)) z) z) <| aQ <| eD (tk 7 z) z ?_ ?_
       ·exact oq z (qc z BI (fun c a => oW c (p2 := Q) b6 (ah (ab E c a) (ab F c a)) (aH (ab X c a) (ab Z c a)))) (tk 7 z) <| aB z z z z ck (fun _ => (tk 7 z)) fun c2 => aQ <| cH <| sC 0 [I J s.u_, I J s.B_] [_, _] 7 z ck z <| ax <| XW.at (J1 (c2) (s.u_) (s.B_) (H)) (ss [0, 1, 2, 7, 3, 4, 5, 6] z z) (sb z)
       exact dG (tk 7 z) z <| aB z z z z ck (fun _ => (tk 7 z)) fun c3 => oq z (qc z BI (fun c a => oW c (p2 := Q) b6 (ah (ab E c a) (ab F c a)) (aH (ab X c a) (ab Z c a)))) (tk 7 z) <| aQ <| cH <| sC 0 [I J s.u_, I J s.B_] [_, _] 7 z ck z <| ax <| XW.at (J1 (c3) (s.u_) (s.B_) (H)) (ss [0, 1, 2, 7, 3, 4, 5, 6] z z) (sb z)
     ·exact bx <| aK <| aR <| aL <| az <| am <| cw 3 [(0, y), (1, y), (2, n)] (St w [] [W (ad (bD) 56) a9 d [S G d.length L], b M 56 [I J k, I J l], b P 153 [I J f, I J g], b t 73 [S a1 p0.f_.length a2, S a3 p0.n_.length a4], b u 58 [S a5 p1.d_.length a6, S a7 p1.b_.length a8], Res.nil, b v 153 [I J 0, I J 0]]) bU (by kernel_rfl) (aJ bb) (sm [y, y, y, y, y, n, y] z) <| bm z (aw z) (rx 0 1 _ z cL z) <| bm z (aw z) (rx 0 2 _ z ck z) <| bp (off := 0) [I J k, I J l] [_, _] (i := 5) z z z z z z cL z z (al z) z z z (sm [y, y, y, y, y, n, y] z) <| aQ <| jf <| sC 0 [I J f, I J g] [_, _] 6 z ck z <| nT <| aO (rs := [.cell 8 56, .cell 9 153]) (vs := [.agg #[I J k, I J l], .agg #[I J f, I J g]]) z ⟨⟨_, [I J k, I J l], _, _, _, z, cL, (bn (T := 56) 0 (bJ (i := 5) z) z), z, z⟩, ⟨_, [I J f, I J g], _, _, _, z, ck, (bn (T := 153) 0 (bJ (i := 6) z) z), z, z⟩, Y⟩ (fun w' hw' => by
       obtain rfl := af H
       exact ⟨z, hw'.ext⟩)
  ·clear H
   have H := b1
   clear b1
   generalize ((!a0) || ((p1.b_.length : Int) == 0)) = c9 at H key ⊢
   cases c9
   ·have H := bh z H
    refine aa [.p, .fa 73 0 0 fE] z <| o1 z (r1 0 0 z lC z) <| aa [.lenS 70 90 lF, .p] z <| bE H fun e3 d0 H => oq z (qc z gN (fun c a => be c d0)) tt2 <| oP z <| oP z <| ?_
    obtain rfl := af H
    exact OW.sub key (sb z)
   ·have H := bi z H
    refine aa [.p, .p, .p, .p, .p, .p, .p, .p] z ?_
    obtain rfl := af H
    exact OW.sub key (sb z)
 ·generalize (!a0) = d1 at key ⊢
  cases d1
  ·exact aa [.fa 58 1 1 dt] z <| o1 z (r1 1 1 z cY z) <| aa [.lenS 28 45 cC, .p] z <| oP z <| OW.sub key (sb z)
  ·exact aa [.p, .p, .p, .p, .p] z <| OW.sub key (sb z)
end Go.Vk
