/- The code does what the functions of data say. Printed by program. -/
import Derived.Test.YtdckhcfbccnjiaaGreatDoorWTlA
namespace Go.Vk
open Value renaming int → I, slice → S, pointer → O, bool → B
open IntKind renaming i64 → J, u8 → K
open Bool renaming true → y, false → n
open Option renaming some → U, none → N
open Res renaming box → b, own → W
open Go.Proofs Go.RowKit
set_option maxHeartbeats 4000000
set_option maxRecDepth 100000
theorem qS (w : World) {p0 : ae} {p1 : aj} {p2 : Int} {a8 : List Value} {a9 : List Value} {r : Bool} (H : iA p0 p1 p2 = U r) (g0 : (aX).rd w [] p0 a8) (g1 : (cU).rd w [] p1 a9) :
    Calls Tryz.prog 35 #[.agg a8.toArray, .agg a9.toArray, I J p2] w (fun en w' => en = .returned (B r) ∧ Ext [] w w') := by
 obtain ⟨j2, j3, rfl, m, o⟩ := aI g0
 obtain ⟨j4, j5, rfl⟩ := am m
 obtain ⟨j6, j7, rfl⟩ := am o
 obtain ⟨j8, j9, rfl, v, d6⟩ := cr g1
 obtain ⟨d7, d8, rfl⟩ := am v
 obtain rfl := d6
 unfold iA at H
 refine aG Tryz.func35 z Tryz.ntmps35 z (St.init w []) <| sR <| ob _ z fun i => ob _ z fun d => oP z <| nR <| aa [.fa 30 0 0 cb] z <| o1 z (r1 0 1 z ef z) <| oP z <| bE H fun a d9 H => cB z z z z z dZ cc z v d9 fun k0 k2 b4 b5 => ?_
 obtain ⟨k3, k4, k5, k6, k7, k8, k9, l0, l1, l2, rfl, e0, e1, k, e2, e3, e4, b0, e5, e6, e7⟩ := bn b4
 obtain rfl := e0
 obtain rfl := e1
 obtain ⟨x, A, rfl⟩ := am k
 obtain rfl := e2
 obtain ⟨l3, l4, rfl, b1, b2⟩ := aL e3
 obtain ⟨C, D, rfl⟩ := am b1
 obtain ⟨E, F, rfl⟩ := am b2
 obtain rfl := e4
 obtain ⟨G, L, rfl⟩ := am b0
 obtain rfl := e5
 obtain rfl := e6
 obtain rfl := e7
 refine o1 z (cV (cs := [B a.s_, I J a.l_.g_, I J a.l_.c_, S x a.r_.length A, I J a.w_, S C a.n_.e_.length D, S E a.n_.d_.length F, I J a.v_, S G a.b_.length L, I J a.m_, I J a.o_, I J a.p_]) z z cc (co bor b5) z) <| aC z z z z cc (fun _ => kp) fun f => sC 0 [B a.s_, I J a.l_.g_, I J a.l_.c_, S x a.r_.length A, I J a.w_, S C a.n_.e_.length D, S E a.n_.d_.length F, I J a.v_, S G a.b_.length L, I J a.m_, I J a.o_, I J a.p_] [_, _, _, _, _, _, _, _, _, _, _, _] 2 z cc z <| nQ <| ak <| ak <| dJ bT (by kernel_rfl) <| o1 z (rx 0 0 _ z bU z) <| aa [.fa 71 1 1 mL] z <| o1 z (rx 1 2 _ z cH z) <| bE H fun b3 e9 H => oq z (qc z vy (fun h g => fX h (p1 := a.l_) e9 (ah (ab m h g) (ab o h g)))) tt2 <| oPP z <| bE H fun M P H => aQ [(28, B M), (2, I J p2), (3, O (U ⟨i, 0, N⟩)), (4, O (U ⟨d, 0, N⟩)), (7, O (U ⟨f, 0, N⟩))] 9 ?_ (fun key => OW.sub (R := [(2, I J p2), (3, O (U ⟨i, 0, N⟩)), (4, O (U ⟨d, 0, N⟩)), (7, O (U ⟨f, 0, N⟩)), (19, B (!b3))]) ?_ (sb z))
 ·refine oP z <| bE H fun Q X H => aQ [(38, B Q), (2, I J p2), (3, O (U ⟨i, 0, N⟩)), (4, O (U ⟨d, 0, N⟩)), (7, O (U ⟨f, 0, N⟩))] 9 ?_ (fun key => OW.sub (R := [(2, I J p2), (3, O (U ⟨i, 0, N⟩)), (4, O (U ⟨d, 0, N⟩)), (7, O (U ⟨f, 0, N⟩)), (29, B M)]) ?_ (sb z))
  ·refine oP z <| bE H fun l Z H => aQ [(45, B l), (2, I J p2), (3, O (U ⟨i, 0, N⟩)), (4, O (U ⟨d, 0, N⟩)), (7, O (U ⟨f, 0, N⟩))] 6 ?_ (fun key => OW.sub (R := [(2, I J p2), (3, O (U ⟨i, 0, N⟩)), (4, O (U ⟨d, 0, N⟩)), (7, O (U ⟨f, 0, N⟩)), (39, B Q)]) ?_ (sb z))
   ·refine oP z <| aQ [(52, B (l || (decide ((a.n_.d_.length : Int) > 0)))), (2, I J p2), (3, O (U ⟨i, 0, N⟩)), (4, O (U ⟨d, 0, N⟩)), (7, O (U ⟨f, 0, N⟩))] 6 ?_ (fun key => OW.sub (R := [(2, I J p2), (3, O (U ⟨i, 0, N⟩)), (4, O (U ⟨d, 0, N⟩)), (7, O (U ⟨f, 0, N⟩)), (46, B l)]) ?_ (sb z))
    ·refine oP z <| aQ [(57, B ((l || (decide ((a.n_.d_.length : Int) > 0))) || (a.v_ != 0))), (2, I J p2), (3, O (U ⟨i, 0, N⟩)), (4, O (U ⟨d, 0, N⟩)), (7, O (U ⟨f, 0, N⟩))] 4 ?_ (fun key => OW.sub (R := [(2, I J p2), (3, O (U ⟨i, 0, N⟩)), (4, O (U ⟨d, 0, N⟩)), (7, O (U ⟨f, 0, N⟩)), (53, B (l || (decide ((a.n_.d_.length : Int) > 0))))]) ?_ (sb z))
     ·refine oP z <| bE H fun f0 a0 H => aQ [(64, B f0), (2, I J p2), (4, O (U ⟨d, 0, N⟩)), (7, O (U ⟨f, 0, N⟩))] 6 ?_ (fun key => OW.sub (R := [(2, I J p2), (3, O (U ⟨i, 0, N⟩)), (4, O (U ⟨d, 0, N⟩)), (7, O (U ⟨f, 0, N⟩)), (58, B ((l || (decide ((a.n_.d_.length : Int) > 0))) || (a.v_ != 0)))]) ?_ (sb z))
      ·refine cx <| az <| cI H z (fun H => ?_) (fun H => ?_)
       ·exact sR <| oP z <| nT <| ap <| xr 6 z (by cases H; exact q1)
       ·refine aw <| az <| ak <| sR <| oP z <| nQ <| aB <| CW.at (fL (fun (c : Int) => St w [] [b d 30 [S d7 p1.a_.length d8, I J p1.j_], b f 71 [B a.s_, I J a.l_.g_, I J a.l_.c_, S x a.r_.length A, I J a.w_, S C a.n_.e_.length D, S E a.n_.d_.length F, I J a.v_, S G a.b_.length L, I J a.m_, I J a.o_, I J a.p_]]) (fun c => [(2, I J p2), (4, O (U ⟨d, 0, N⟩)), (7, O (U ⟨f, 0, N⟩)), (8, I J c)]) (fun kk => fun c => fR a p2 p1 kk c = U r) (fun _ H => ?_) (fun k1 b6 c H => ?_) bh (0) (H)) (ss [1, 2] z z) (sb z)
        ·unfold fR at H
         exact absurd H (by simp)
        ·unfold fR at H
         refine ak <| sR <| aa [.p, .fa 71 2 3 gV] z <| o1 z (r1 3 1 z cw z) <| aa [.lenS 31 3 aO, .p] z <| nQ <| cI H z (fun H => ?_) (fun H => ?_)
         ·refine aw <| az <| ak <| aB <| ak <| dJ bT (by kernel_rfl) <| aa [.fa 71 2 3 gV] z <| o1 z (r1 3 1 z cw z) <| oP z <| bE H fun g5 a1 H => bq (e := eI) (xs := a.r_) (j := c) z z z z z aO ty3 z (ab k) a1 (by rw [Nat.mul_one]) <| o1 z (aF z z ty3 (bC (ab k) a1)) <| aa [.p, .p, .fa 30 0 0 cb] z <| o1 z (r1 0 0 z ef z) <| aa [.lenS 28 71 dZ, .p] z <| bE H fun a2 b7 H => oq z (qc z gK (fun h g => bf h b7)) tt2 <| oPP z <| bE H fun q s H => aQ [(98, B q), (2, I J p2), (4, O (U ⟨d, 0, N⟩)), (7, O (U ⟨f, 0, N⟩)), (8, I J c)] 13 ?_ (fun key => OW.sub (R := [(2, I J p2), (4, O (U ⟨d, 0, N⟩)), (7, O (U ⟨f, 0, N⟩)), (8, I J c), (85, B (!a2))]) ?_ (sb z))
          ·refine oP z <| bE H fun b8 t H => aQ [(116, B b8), (2, I J p2), (4, O (U ⟨d, 0, N⟩)), (7, O (U ⟨f, 0, N⟩)), (8, I J c)] 17 ?_ (fun key => OW.sub (R := [(2, I J p2), (4, O (U ⟨d, 0, N⟩)), (7, O (U ⟨f, 0, N⟩)), (8, I J c), (99, B q)]) ?_ (sb z))
           ·refine cx <| az <| cI H z (fun H => ?_) (fun H => ?_)
            ·exact sR <| oP z <| nT <| aP <| ap <| bZ <| aP <| ap <| xr 6 z (by cases H; exact q1)
            ·exact aw <| ca <| az <| aT <| aa [.p, .p, .p] z <| ay <| cQ (RW.at (b6 (J.wrap (c + 1)) (H)) (ss [0, 1] z z) (sb z))
           ·clear H
            have H := t
            clear t
            generalize q = b9 at H key ⊢
            cases b9
            ·have H := ba z H
             refine aa [.p, .p, .p] z <| bE H fun c0 u H => aQ [(115, B c0), (2, I J p2), (4, O (U ⟨d, 0, N⟩)), (7, O (U ⟨f, 0, N⟩)), (8, I J c), (99, B n)] 13 ?_ (fun key => OW.sub (R := [(2, I J p2), (4, O (U ⟨d, 0, N⟩)), (7, O (U ⟨f, 0, N⟩)), (8, I J c), (99, B n), (102, B (decide (c > 0)))]) ?_ (sb z))
             ·refine aa [.p] z ?_
              obtain rfl := ai H
              exact OW.sub key (sb z)
             ·clear H
              have H := u
              clear u
              generalize (decide (c > 0)) = c1 at H key ⊢
              cases c1
              ·have H := ba z H
               refine aa [.p, .p, .p, .p, .p, .p, .p, .p, .p, .p, .p, .p, .p] z ?_
               obtain rfl := ai H
               exact OW.sub key (sb z)
              ·have H := bb z H
               refine aa [.fa 71 2 3 gV] z <| o1 z (r1 3 1 z cw z) <| oP z <| bE H fun g6 a3 H => bq (e := eI) (xs := a.r_) (j := c) z z z z z aO ty3 z (ab k) a3 (by rw [Nat.mul_one]) <| o1 z (aF z z ty3 (bC (ab k) a3)) <| aa [.fa 71 2 3 gV] z <| o1 z (r1 3 1 z cw z) <| oPP z <| bE H fun g7 a4 H => bq (e := eI) (xs := a.r_) (j := J.wrap (c - 1)) z z z z z aO ty3 z (ab k) a4 (by rw [Nat.mul_one]) <| o1 z (aF z z ty3 (bC (ab k) a4)) <| oP z <| oP z <| ?_
               obtain rfl := ai H
               exact OW.sub key (sb z)
            ·have H := bb z H
             refine aa [.p, .p, .p, .p, .p, .p, .p, .p, .p, .p, .p, .p, .p, .p, .p, .p, .p] z ?_
             obtain rfl := ai H
             exact OW.sub key (sb z)
          ·clear H
           have H := s
           clear s
           generalize (!a2) = c2 at H key ⊢
           cases c2
           ·have H := ba z H
            refine aa [.fa 30 0 0 cb] z <| o1 z (r1 0 0 z ef z) <| aa [.fa 71 2 3 gV] z <| o1 z (r1 3 1 z cw z) <| oP z <| bE H fun g8 a5 H => bq (e := eI) (xs := a.r_) (j := c) z z z z z aO ty3 z (ab k) a5 (by rw [Nat.mul_one]) <| o1 z (aF z z ty3 (bC (ab k) a5)) <| bE H fun g9 c3 H => cB z z z z z dZ cc z v c3 fun h0 h1 a6 a7 => ?_
            obtain ⟨h2, h3, h4, h5, h6, h7, h8, h9, i0, i1, rfl, c4, c5, c6, c7, c8, c9, d0, d1, d2, d3⟩ := bn a6
            obtain rfl := c4
            obtain rfl := c5
            obtain ⟨i2, i3, rfl⟩ := am c6
            obtain rfl := c7
            obtain ⟨i4, i5, rfl, d4, d5⟩ := aL c8
            obtain ⟨i6, i7, rfl⟩ := am d4
            obtain ⟨i8, i9, rfl⟩ := am d5
            obtain rfl := c9
            obtain ⟨j0, j1, rfl⟩ := am d0
            obtain rfl := d1
            obtain rfl := d2
            obtain rfl := d3
            refine aa [.fa 71 8 10 nA] z <| o1 z (aF z z ty3 (co bor (lk a7 10 1))) <| oPP z <| oP z <| ?_
            obtain rfl := ai H
            exact OW.sub key (sb z)
           ·have H := bb z H
            refine aa [.p, .p, .p, .p, .p, .p, .p, .p, .p, .p, .p, .p, .p] z ?_
            obtain rfl := ai H
            exact OW.sub key (sb z)
         ·exact bH <| aN <| aS <| aM <| az <| sR <| oP z <| nT <| xr 6 z (by cases H; exact q1)
      ·clear H
       have H := a0
       clear a0
       generalize ((l || (decide ((a.n_.d_.length : Int) > 0))) || (a.v_ != 0)) = f1 at H key ⊢
       cases f1
       ·have H := ba z H
        refine o1 z (rx 0 0 _ z bU z) <| aa [.fa 71 6 8 oX] z <| o1 z (r1 8 2 z cw z) <| bE H fun l5 f2 H => oq z (qc z xE (fun h g => im h f2 (ah (ab m h g) (ab o h g)) (ab b0 h g))) tt2 <| oP z <| oP z <| ?_
        obtain rfl := ai H
        exact OW.sub key (sb z)
       ·have H := bb z H
        refine aa [.p, .p, .p, .p, .p, .p] z ?_
        obtain rfl := ai H
        exact OW.sub key (sb z)
     ·generalize (l || (decide ((a.n_.d_.length : Int) > 0))) = f3 at key ⊢
      cases f3
      ·exact aa [.fa 71 5 7 mh] z <| o1 z (r1 7 2 z ty3 z) <| oP z <| oP z <| OW.sub key (sb z)
      ·exact aa [.p, .p, .p, .p] z <| OW.sub key (sb z)
    ·generalize l = f4 at key ⊢
     cases f4
     ·exact aa [.fa 71 4 5 eR, .fa 69 1 1 dL] z <| o1 z (r1 6 2 z jm z) <| aa [.lenS 67 31 gL, .p] z <| oP z <| OW.sub key (sb z)
     ·exact aa [.p, .p, .p, .p, .p, .p] z <| OW.sub key (sb z)
   ·clear H
    have H := Z
    clear Z
    generalize Q = f5 at H key ⊢
    cases f5
    ·have H := ba z H
     refine o1 z (rx 0 0 _ z bU z) <| aa [.fa 71 4 5 eR] z <| o1 z (rx 5 2 _ z cP z) <| bE H fun l6 f6 H => oq z (qc z uR (fun h g => fc h f6 (ah (ab m h g) (ab o h g)) (aE (ab b1 h g) (ab b2 h g)))) tt2 <| oP z <| oP z <| ?_
     obtain rfl := ai H
     exact OW.sub key (sb z)
    ·have H := bb z H
     refine aa [.p, .p, .p, .p, .p, .p] z ?_
     obtain rfl := ai H
     exact OW.sub key (sb z)
  ·clear H
   have H := X
   clear X
   generalize M = f7 at H key ⊢
   cases f7
   ·have H := ba z H
    refine aa [.fa 71 3 4 qn] z <| o1 z (r1 4 2 z ty3 z) <| aa [.fa 71 2 3 gV] z <| o1 z (r1 3 2 z cw z) <| aa [.lenS 31 3 aO, .p] z <| bE H fun l7 f8 H => oq z (qc z gK (fun h g => bf h f8)) tt2 <| oP z <| oP z <| ?_
    obtain rfl := ai H
    exact OW.sub key (sb z)
   ·have H := bb z H
    refine aa [.p, .p, .p, .p, .p, .p, .p, .p, .p] z ?_
    obtain rfl := ai H
    exact OW.sub key (sb z)
 ·clear H
  have H := P
  clear P
  generalize (!b3) = f9 at H key ⊢
  cases f9
  ·have H := ba z H
   refine aa [.fa 71 2 3 gV] z <| o1 z (r1 3 2 z cw z) <| aa [.lenS 31 3 aO] z <| o1 z (rx 0 0 _ z bU z) <| aa [.fa 71 1 1 mL] z <| o1 z (rx 1 2 _ z cH z) <| bE H fun l8 g2 H => oq z (qc z wq (fun h g => fP h (p1 := a.l_) g2 (ah (ab m h g) (ab o h g)))) tt2 <| oP z <| oP z <| ?_
   obtain rfl := ai H
   exact OW.sub key (sb z)
  ·have H := bb z H
   refine aa [.p, .p, .p, .p, .p, .p, .p, .p, .p] z ?_
   obtain rfl := ai H
   exact OW.sub key (sb z)
theorem ro (w : World) {p0 : List Int} {p1 : Int} {a_0 : Option Addr} {n_0 c_0 : Nat} {r : Bool} (H : ko p0 p1 = U r) (d : (af eI 3).rd w [] p0 [S a_0 n_0 c_0]) :
    Calls Tryz.prog 36 #[S a_0 n_0 c_0, I J p1] w (fun en w' => en = .returned (B r) ∧ Ext [] w w') := by
 obtain rfl := ee d
 unfold ko at H
 refine aG Tryz.func36 z Tryz.ntmps36 z (St.init w []) <| sR <| oP z <| nQ <| ak <| sR <| oP z <| nQ <| aB <| CW.at (fL (fun (a : Int) => St w [] []) (fun a => [(0, S a_0 p0.length c_0), (1, I J p1), (5, I J a)]) (fun kk => fun a => cR p0 p1 kk a = U r) (fun _ H => ?_) (fun h f a H => ?_) bh (0) (H)) (ss [] z z) (sb z)
 ·unfold cR at H
  exact absurd H (by simp)
 ·unfold cR at H
  refine ak <| sR <| aa [.p, .p, .lenS 31 3 aO, .p] z <| nQ <| cI H z (fun H => ?_) (fun H => ?_)
  ·refine aw <| az <| ak <| aB <| sR <| oPP z <| bE H fun g c H => bq (e := eI) (xs := p0) (j := a) z z z z z aO ty3 z (ab d) c (by rw [Nat.mul_one]) <| o1 z (aF z z ty3 (bC (ab d) c)) <| oPP z <| nQ <| cI H z (fun H => ?_) (fun H => ?_)
   ·exact sR <| oP z <| nT <| aP <| ap <| bZ <| aP <| ap <| xr 4 z (by cases H; exact q1)
   ·exact aw <| ca <| az <| aT <| aa [.p, .p, .p] z <| ay <| cQ (RW.at (f (J.wrap (a + 1)) (H)) (ss [] z z) (sb z))
  ·exact bH <| aN <| aS <| aM <| az <| sR <| oP z <| nT <| xr 4 z (by cases H; exact q1)
theorem iN (w : World) {p0 : ae} {p1 : aj} {b9 : List Value} {c0 : List Value} {r : Bool} (H : gA p0 p1 = U r) (g0 : (aX).rd w [] p0 b9) (g1 : (cU).rd w [] p1 c0) :
    Calls Tryz.prog 8 #[.agg b9.toArray, .agg c0.toArray] w (fun en w' => en = .returned (B r) ∧ Ext [] w w') := by
 obtain ⟨l3, l4, rfl, m, o⟩ := aI g0
 obtain ⟨g4, g5, rfl⟩ := am m
 obtain ⟨g6, g7, rfl⟩ := am o
 obtain ⟨l5, l6, rfl, q, g8⟩ := cr g1
 obtain ⟨g9, h0, rfl⟩ := am q
 obtain rfl := g8
 unfold gA at H
 refine aG Tryz.func8 z Tryz.ntmps8 z (St.init w []) <| sR <| ob _ z fun e => ob _ z fun f => oP z <| nQ <| ak <| sR <| o1 z (rx 0 0 _ z bU z) <| bE H fun c1 h1 H => oq z (qc z xK (fun i h => gN i h1 (ah (ab m i h) (ab o i h)))) tt2 <| oPP z <| bE H fun C D H => aQ [(17, B C), (2, O (U ⟨e, 0, N⟩)), (3, O (U ⟨f, 0, N⟩))] 6 ?_ (fun key => OW.sub (R := [(2, O (U ⟨e, 0, N⟩)), (3, O (U ⟨f, 0, N⟩)), (11, B (!c1))]) ?_ (sb z))
 ·refine oP z <| bE H fun h2 E H => aQ [(23, B h2), (2, O (U ⟨e, 0, N⟩)), (3, O (U ⟨f, 0, N⟩))] 5 ?_ (fun key => OW.sub (R := [(2, O (U ⟨e, 0, N⟩)), (3, O (U ⟨f, 0, N⟩)), (18, B C)]) ?_ (sb z))
  ·refine nQ <| cI H z (fun H => ?_) (fun H => ?_)
   ·exact sR <| oP z <| nT <| ap <| xr 4 z (by cases H; exact q1)
   ·refine aw <| az <| ak <| sR <| oP z <| nQ <| aB <| CW.at (fL (fun (d : Int) => St w [] [b e 27 [S g4 p0.b_.length g5, S g6 p0.k_.length g7], b f 30 [S g9 p1.a_.length h0, I J p1.j_]]) (fun d => [(2, O (U ⟨e, 0, N⟩)), (3, O (U ⟨f, 0, N⟩)), (5, I J d)]) (fun kk => fun d => dA p1 p0 kk d = U r) (fun _ H => ?_) (fun k1 F d H => ?_) bh (0) (H)) (ss [0, 1] z z) (sb z)
    ·unfold dA at H
     exact absurd H (by simp)
    ·unfold dA at H
     refine ak <| sR <| aa [.p, .fa 30 0 0 cb] z <| o1 z (r1 0 1 z ef z) <| aa [.lenS 28 71 dZ, .p] z <| nQ <| cI H z (fun H => ?_) (fun H => ?_)
     ·refine aw <| az <| ak <| aB <| sR <| aa [.fa 30 0 0 cb] z <| o1 z (r1 0 1 z ef z) <| oP z <| bE H fun a c2 H => cB z z z z z dZ cc z q c2 fun h9 i0 b5 b6 => ?_
      obtain ⟨i1, i2, i3, i4, i5, i6, i7, i8, i9, j0, rfl, c3, c4, G, c5, c6, c7, L, c8, c9, d0⟩ := bn b5
      obtain rfl := c3
      obtain rfl := c4
      obtain ⟨M, P, rfl⟩ := am G
      obtain rfl := c5
      obtain ⟨j1, j2, rfl, Q, X⟩ := aL c6
      obtain ⟨Z, a0, rfl⟩ := am Q
      obtain ⟨a1, a2, rfl⟩ := am X
      obtain rfl := c7
      obtain ⟨a3, a4, rfl⟩ := am L
      obtain rfl := c8
      obtain rfl := c9
      obtain rfl := d0
      refine o1 z (cV (cs := [B a.s_, I J a.l_.g_, I J a.l_.c_, S M a.r_.length P, I J a.w_, S Z a.n_.e_.length a0, S a1 a.n_.d_.length a2, I J a.v_, S a3 a.b_.length a4, I J a.m_, I J a.o_, I J a.p_]) z z cc (co bor b6) z) <| aC z z z z cc (fun _ => kp) fun g => sC 0 [B a.s_, I J a.l_.g_, I J a.l_.c_, S M a.r_.length P, I J a.w_, S Z a.n_.e_.length a0, S a1 a.n_.d_.length a2, I J a.v_, S a3 a.b_.length a4, I J a.m_, I J a.o_, I J a.p_] [_, _, _, _, _, _, _, _, _, _, _, _] 2 z cc z <| nQ <| ak <| sR <| aa [.fa 71 7 9 ke] z <| o1 z (r1 9 2 z ty3 z) <| bE H fun a5 d1 H => oq z (qc z gK (fun i h => bf i d1)) tt2 <| oPP z <| bE H fun d2 s H => aQ [(47, B d2), (2, O (U ⟨e, 0, N⟩)), (3, O (U ⟨f, 0, N⟩)), (5, I J d), (6, O (U ⟨g, 0, N⟩))] 7 ?_ (fun key => OW.sub (R := [(2, O (U ⟨e, 0, N⟩)), (3, O (U ⟨f, 0, N⟩)), (5, I J d), (6, O (U ⟨g, 0, N⟩)), (40, B (!a5))]) ?_ (sb z))
      ·refine nQ <| cI H z (fun H => ?_) (fun H => ?_)
       ·exact sR <| oP z <| nT <| ap <| aP <| ap <| bZ <| aP <| ap <| xr 4 z (by cases H; exact q1)
       ·refine aw <| az <| ak <| sR <| aa [.fa 71 0 0 ls] z <| o1 z (r1 0 2 z ty4 z) <| oP z <| bE H fun l t H => aQ [(55, B l), (2, O (U ⟨e, 0, N⟩)), (3, O (U ⟨f, 0, N⟩)), (5, I J d), (6, O (U ⟨g, 0, N⟩))] 5 ?_ (fun key => OW.sub (R := [(2, O (U ⟨e, 0, N⟩)), (3, O (U ⟨f, 0, N⟩)), (5, I J d), (6, O (U ⟨g, 0, N⟩)), (50, B a.s_)]) ?_ (sb z))
        ·refine oP z <| bE H fun d3 u H => aQ [(67, B d3), (2, O (U ⟨e, 0, N⟩)), (3, O (U ⟨f, 0, N⟩)), (5, I J d), (6, O (U ⟨g, 0, N⟩))] 11 ?_ (fun key => OW.sub (R := [(2, O (U ⟨e, 0, N⟩)), (3, O (U ⟨f, 0, N⟩)), (5, I J d), (6, O (U ⟨g, 0, N⟩)), (56, B l)]) ?_ (sb z))
         ·refine nQ <| cI H z (fun H => ?_) (fun H => ?_)
          ·exact sR <| oP z <| nT <| ap <| aP <| ap <| bZ <| aP <| ap <| xr 4 z (by cases H; exact q1)
          ·refine aw <| az <| ak <| sR <| oPP z <| nQ <| cI H z (fun H => ?_) (fun H => ?_)
           ·refine ak <| sR <| aa [.fa 71 8 10 nA] z <| o1 z (r1 10 2 z ty3 z) <| oPP z <| aQ [(77, B ((a.o_ != (-1)) || (a.m_ != 0))), (2, O (U ⟨e, 0, N⟩)), (3, O (U ⟨f, 0, N⟩)), (5, I J d), (6, O (U ⟨g, 0, N⟩))] 4 ?_ (fun key => OW.sub (R := [(2, O (U ⟨e, 0, N⟩)), (3, O (U ⟨f, 0, N⟩)), (5, I J d), (6, O (U ⟨g, 0, N⟩)), (73, B (a.o_ != (-1)))]) ?_ (sb z))
            ·refine oP z <| aQ [(82, B (((a.o_ != (-1)) || (a.m_ != 0)) || (a.p_ != 0))), (2, O (U ⟨e, 0, N⟩)), (3, O (U ⟨f, 0, N⟩)), (5, I J d)] 4 ?_ (fun key => OW.sub (R := [(2, O (U ⟨e, 0, N⟩)), (3, O (U ⟨f, 0, N⟩)), (5, I J d), (6, O (U ⟨g, 0, N⟩)), (78, B ((a.o_ != (-1)) || (a.m_ != 0)))]) ?_ (sb z))
             ·refine nQ <| cI H z (fun H => ?_) (fun H => ?_)
              ·exact sR <| oP z <| nT <| ap <| ap <| aP <| ap <| bZ <| aP <| ap <| xr 4 z (by cases H; exact q1)
              ·exact aw <| az <| bH <| aN <| aM <| az <| aT <| aa [.p, .p, .p] z <| ay <| cQ (RW.at (F (J.wrap (d + 1)) (H)) (ss [0, 1] z z) (sb z))
             ·generalize ((a.o_ != (-1)) || (a.m_ != 0)) = d4 at key ⊢
              cases d4
              ·exact aa [.fa 71 9 11 nx] z <| o1 z (r1 11 2 z ty3 z) <| oP z <| oP z <| OW.sub key (sb z)
              ·exact aa [.p, .p, .p, .p] z <| OW.sub key (sb z)
            ·generalize (a.o_ != (-1)) = d5 at key ⊢
             cases d5
             ·exact aa [.fa 71 7 9 ke] z <| o1 z (r1 9 2 z ty3 z) <| oP z <| oP z <| OW.sub key (sb z)
             ·exact aa [.p, .p, .p, .p] z <| OW.sub key (sb z)
           ·refine aw <| az <| ak <| sR <| aa [.fa 71 8 10 nA] z <| o1 z (r1 10 2 z ty3 z) <| oPP z <| bE H fun j3 d6 H => oq z (qc z gK (fun i h => bf i d6)) tt2 <| oP z <| nQ <| cI H z (fun H => ?_) (fun H => ?_)
            ·exact sR <| oP z <| nT <| ap <| aP <| ap <| bZ <| aP <| ap <| xr 4 z (by cases H; exact q1)
            ·refine aw <| az <| sR <| aa [.fa 30 0 0 cb] z <| o1 z (r1 0 1 z ef z) <| aa [.fa 71 8 10 nA] z <| o1 z (r1 10 2 z ty3 z) <| bE H fun c d7 H => cB z z z z z dZ cc z q d7 fun j4 j5 b7 b8 => ?_
             obtain ⟨j6, j7, j8, j9, k0, k2, k3, k4, k5, k6, rfl, d8, d9, a6, e0, e1, e2, e3, e4, e5, e6⟩ := bn b7
             obtain rfl := d8
             obtain rfl := d9
             obtain ⟨a7, a8, rfl⟩ := am a6
             obtain rfl := e0
             obtain ⟨k7, k8, rfl, e7, e9⟩ := aL e1
             obtain ⟨a9, b0, rfl⟩ := am e7
             obtain ⟨b1, b2, rfl⟩ := am e9
             obtain rfl := e2
             obtain ⟨b3, b4, rfl⟩ := am e3
             obtain rfl := e4
             obtain rfl := e5
             obtain rfl := e6
             refine o1 z (cV (cs := [B c.s_, I J c.l_.g_, I J c.l_.c_, S a7 c.r_.length a8, I J c.w_, S a9 c.n_.e_.length b0, S b1 c.n_.d_.length b2, I J c.v_, S b3 c.b_.length b4, I J c.m_, I J c.o_, I J c.p_]) z z cc (co bor b8) z) <| aC z z z z cc (fun _ => kp) fun k => sC 0 [B c.s_, I J c.l_.g_, I J c.l_.c_, S a7 c.r_.length a8, I J c.w_, S a9 c.n_.e_.length b0, S b1 c.n_.d_.length b2, I J c.v_, S b3 c.b_.length b4, I J c.m_, I J c.o_, I J c.p_] [_, _, _, _, _, _, _, _, _, _, _, _] 3 z cc z <| nR <| aa [.fa 71 0 0 ls] z <| o1 z (r1 0 3 z ty4 z) <| oP z <| bE H fun j v H => aQ [(103, B j), (2, O (U ⟨e, 0, N⟩)), (3, O (U ⟨f, 0, N⟩)), (5, I J d), (6, O (U ⟨g, 0, N⟩)), (7, O (U ⟨k, 0, N⟩))] 6 ?_ (fun key => OW.sub (R := [(2, O (U ⟨e, 0, N⟩)), (3, O (U ⟨f, 0, N⟩)), (5, I J d), (6, O (U ⟨g, 0, N⟩)), (7, O (U ⟨k, 0, N⟩)), (97, B c.s_)]) ?_ (sb z))
             ·refine oP z <| aQ [(111, B (j || ((J.wrap (c.m_ + 1)) != a.m_))), (2, O (U ⟨e, 0, N⟩)), (3, O (U ⟨f, 0, N⟩)), (5, I J d), (6, O (U ⟨g, 0, N⟩)), (7, O (U ⟨k, 0, N⟩))] 7 ?_ (fun key => OW.sub (R := [(2, O (U ⟨e, 0, N⟩)), (3, O (U ⟨f, 0, N⟩)), (5, I J d), (6, O (U ⟨g, 0, N⟩)), (7, O (U ⟨k, 0, N⟩)), (104, B j)]) ?_ (sb z))
              ·refine oP z <| aQ [(118, B ((j || ((J.wrap (c.m_ + 1)) != a.m_)) || (decide (c.p_ > a.p_)))), (2, O (U ⟨e, 0, N⟩)), (3, O (U ⟨f, 0, N⟩)), (5, I J d)] 6 ?_ (fun key => OW.sub (R := [(2, O (U ⟨e, 0, N⟩)), (3, O (U ⟨f, 0, N⟩)), (5, I J d), (6, O (U ⟨g, 0, N⟩)), (7, O (U ⟨k, 0, N⟩)), (112, B (j || ((J.wrap (c.m_ + 1)) != a.m_)))]) ?_ (sb z))
               ·refine nQ <| cI H z (fun H => ?_) (fun H => ?_)
                ·exact sR <| oP z <| nT <| aP <| ap <| bZ <| aP <| ap <| xr 4 z (by cases H; exact q1)
                ·exact aw <| ca <| az <| aT <| aa [.p, .p, .p] z <| ay <| cQ (RW.at (F (J.wrap (d + 1)) (H)) (ss [0, 1] z z) (sb z))
               ·generalize (j || ((J.wrap (c.m_ + 1)) != a.m_)) = f0 at key ⊢
                cases f0
                ·exact aa [.fa 71 9 11 nx] z <| o1 z (r1 11 3 z ty3 z) <| aa [.fa 71 9 11 nx] z <| o1 z (r1 11 2 z ty3 z) <| oP z <| oP z <| OW.sub key (sb z)
                ·exact aa [.p, .p, .p, .p, .p, .p] z <| OW.sub key (sb z)
              ·generalize j = f1 at key ⊢
               cases f1
               ·exact aa [.fa 71 7 9 ke] z <| o1 z (r1 9 3 z ty3 z) <| aa [.p, .fa 71 7 9 ke] z <| o1 z (r1 9 2 z ty3 z) <| oP z <| oP z <| OW.sub key (sb z)
               ·exact aa [.p, .p, .p, .p, .p, .p, .p] z <| OW.sub key (sb z)
             ·clear H
              have H := v
              clear v
              generalize c.s_ = f2 at H key ⊢
              cases f2
              ·have H := ba z H
               refine aa [.fa 71 2 3 gV] z <| o1 z (r1 3 3 z cw z) <| oP z <| bE H fun k9 f3 H => oq z (qc z DL (fun i h => ro i f3 (ab a6 i h))) tt2 <| oP z <| oP z <| ?_
               obtain rfl := ai H
               exact OW.sub key (sb z)
              ·have H := bb z H
               refine aa [.p, .p, .p, .p, .p, .p] z ?_
               obtain rfl := ai H
               exact OW.sub key (sb z)
         ·clear H
          have H := u
          clear u
          generalize l = f4 at H key ⊢
          cases f4
          ·have H := ba z H
           refine aa [.fa 71 0 0 ls] z <| o1 z (r1 0 2 z ty4 z) <| oPP z <| bE H fun f5 A H => aQ [(66, B f5), (2, O (U ⟨e, 0, N⟩)), (3, O (U ⟨f, 0, N⟩)), (5, I J d), (6, O (U ⟨g, 0, N⟩)), (56, B n)] 6 ?_ (fun key => OW.sub (R := [(2, O (U ⟨e, 0, N⟩)), (3, O (U ⟨f, 0, N⟩)), (5, I J d), (6, O (U ⟨g, 0, N⟩)), (56, B n), (60, B (!a.s_))]) ?_ (sb z))
           ·refine aa [.p] z ?_
            obtain rfl := ai H
            exact OW.sub key (sb z)
           ·clear H
            have H := A
            clear A
            generalize (!a.s_) = f6 at H key ⊢
            cases f6
            ·have H := ba z H
             refine aa [.p, .p, .p, .p, .p, .p] z ?_
             obtain rfl := ai H
             exact OW.sub key (sb z)
            ·have H := bb z H
             refine o1 z (rx 0 0 _ z bU z) <| o1 z (rx 0 1 _ z bv z) <| oP z <| bE H fun l0 f7 H => oq z (qc z DR (fun i h => qS i f7 (ah (ab m i h) (ab o i h)) (aU (ab q i h) z))) tt2 <| oP z <| oP z <| ?_
             obtain rfl := ai H
             exact OW.sub key (sb z)
          ·have H := bb z H
           refine aa [.p, .p, .p, .p, .p, .p, .p, .p, .p, .p, .p] z ?_
           obtain rfl := ai H
           exact OW.sub key (sb z)
        ·clear H
         have H := t
         clear t
         generalize a.s_ = f8 at H key ⊢
         cases f8
         ·have H := ba z H
          refine aa [.p, .p, .p, .p, .p] z ?_
          obtain rfl := ai H
          exact OW.sub key (sb z)
         ·have H := bb z H
          refine o1 z (rx 0 0 _ z bU z) <| o1 z (rx 0 2 _ z cc z) <| bE H fun l1 f9 H => oq z (qc z DO (fun i h => rX i f9 (ah (ab m i h) (ab o i h)) (gU (x := ({ a with s_ := y })) z z (ab G i h) z (aE (ab Q i h) (ab X i h)) z (ab L i h) z z z))) tt2 <| oP z <| oP z <| ?_
          obtain rfl := ai H
          exact OW.sub key (sb z)
      ·clear H
       have H := s
       clear s
       generalize (!a5) = g2 at H key ⊢
       cases g2
       ·have H := ba z H
        refine aa [.fa 71 9 11 nx] z <| o1 z (r1 11 2 z ty3 z) <| aa [.fa 30 1 1 mo] z <| o1 z (r1 1 1 z ty3 z) <| bE H fun l2 g3 H => oq z (qc z gK (fun i h => bf i g3)) tt2 <| oP z <| oP z <| ?_
        obtain rfl := ai H
        exact OW.sub key (sb z)
       ·have H := bb z H
        refine aa [.p, .p, .p, .p, .p, .p, .p] z ?_
        obtain rfl := ai H
        exact OW.sub key (sb z)
     ·exact bH <| aN <| aS <| aM <| az <| sR <| oP z <| nT <| xr 4 z (by cases H; exact q1)
  ·clear H
   have H := E
   clear E
   generalize C = h3 at H key ⊢
   cases h3
   ·have H := ba z H
    refine aa [.fa 30 1 1 mo] z <| o1 z (r1 1 1 z ty3 z) <| bE H fun l7 h4 H => oq z (qc z gK (fun i h => bf i h4)) tt2 <| oP z <| oP z <| ?_
    obtain rfl := ai H
    exact OW.sub key (sb z)
   ·have H := bb z H
    refine aa [.p, .p, .p, .p, .p] z ?_
    obtain rfl := ai H
    exact OW.sub key (sb z)
 ·clear H
  have H := D
  clear D
  generalize (!c1) = h5 at H key ⊢
  cases h5
  ·have H := ba z H
   refine aa [.fa 30 0 0 cb] z <| o1 z (r1 0 1 z ef z) <| aa [.lenS 28 71 dZ] z <| bE H fun l8 h6 H => oq z (qc z gK (fun i h => bf i h6)) tt2 <| oP z <| oP z <| ?_
   obtain rfl := ai H
   exact OW.sub key (sb z)
  ·have H := bb z H
   refine aa [.p, .p, .p, .p, .p, .p] z ?_
   obtain rfl := ai H
   exact OW.sub key (sb z)
theorem mP (w : World) {p0 : cA} {r : Bool} (H : jC p0 = U r)   :
    Calls Tryz.prog 152 #[.agg #[I J p0.F_, I J p0.G_, I J p0.H_, I J p0.m_, I J p0.a_, I J p0.D_, B p0.E_]] w (fun en w' => en = .returned (B r) ∧ Ext [] w w') := by
 unfold jC at H
 refine aG Tryz.func152 z Tryz.ntmps152 z (St.init w []) <| sR <| ob _ z fun a => oP z <| nR <| aa [.fa 130 0 0 ud] z <| o1 z (r1 0 0 z ty3 z) <| bE H fun o q H => oq z (qc z gK (fun c d => bf c q)) tt2 <| oP z <| bE H fun e f H => aQ [(10, B e), (1, O (U ⟨a, 0, N⟩)), (2, B n)] 4 ?_ (fun key => OW.sub (R := [(1, O (U ⟨a, 0, N⟩)), (2, B n), (6, B o)]) ?_ (sb z))
 ·refine oP z <| bE H fun g h H => aQ [(15, B g), (1, O (U ⟨a, 0, N⟩)), (2, B n)] 4 ?_ (fun key => OW.sub (R := [(1, O (U ⟨a, 0, N⟩)), (2, B n), (11, B e)]) ?_ (sb z))
  ·refine oP z <| bE H fun i j H => aQ [(20, B i), (1, O (U ⟨a, 0, N⟩)), (2, B n)] 4 ?_ (fun key => OW.sub (R := [(1, O (U ⟨a, 0, N⟩)), (2, B n), (16, B g)]) ?_ (sb z))
   ·refine oP z <| bE H fun k l H => aQ [(25, B k), (1, O (U ⟨a, 0, N⟩)), (2, B n)] 4 ?_ (fun key => OW.sub (R := [(1, O (U ⟨a, 0, N⟩)), (2, B n), (21, B i)]) ?_ (sb z))
    ·refine oP z <| bE H fun s m H => aQ [(30, B s), (2, B n)] 4 ?_ (fun key => OW.sub (R := [(1, O (U ⟨a, 0, N⟩)), (2, B n), (26, B k)]) ?_ (sb z))
     ·exact oP z <| nT <| xr 2 z (by cases H; exact q1)
     ·clear H
      have H := m
      clear m
      generalize k = t at H key ⊢
      cases t
      ·have H := ba z H
       refine aa [.p, .p, .p, .p] z ?_
       obtain rfl := ai H
       exact OW.sub key (sb z)
      ·have H := bb z H
       refine aa [.fa 130 5 5 qo] z <| o1 z (r1 5 0 z ty3 z) <| bE H fun L u H => oq z (qc z gK (fun c d => bf c u)) tt2 <| oP z <| ?_
       obtain rfl := ai H
       exact OW.sub key (sb z)
    ·clear H
     have H := l
     clear l
     generalize i = v at H key ⊢
     cases v
     ·have H := ba z H
      refine aa [.p, .p, .p, .p] z ?_
      obtain rfl := ai H
      exact OW.sub key (sb z)
     ·have H := bb z H
      refine aa [.fa 130 4 4 uI] z <| o1 z (r1 4 0 z ty3 z) <| bE H fun M x H => oq z (qc z gK (fun c d => bf c x)) tt2 <| oP z <| ?_
      obtain rfl := ai H
      exact OW.sub key (sb z)
   ·clear H
    have H := j
    clear j
    generalize g = A at H key ⊢
    cases A
    ·have H := ba z H
     refine aa [.p, .p, .p, .p] z ?_
     obtain rfl := ai H
     exact OW.sub key (sb z)
    ·have H := bb z H
     refine aa [.fa 130 3 3 uv] z <| o1 z (r1 3 0 z ty3 z) <| bE H fun P C H => oq z (qc z gK (fun c d => bf c C)) tt2 <| oP z <| ?_
     obtain rfl := ai H
     exact OW.sub key (sb z)
  ·clear H
   have H := h
   clear h
   generalize e = D at H key ⊢
   cases D
   ·have H := ba z H
    refine aa [.p, .p, .p, .p] z ?_
    obtain rfl := ai H
    exact OW.sub key (sb z)
   ·have H := bb z H
    refine aa [.fa 130 2 2 wJ] z <| o1 z (r1 2 0 z ty3 z) <| bE H fun Q E H => oq z (qc z gK (fun c d => bf c E)) tt2 <| oP z <| ?_
    obtain rfl := ai H
    exact OW.sub key (sb z)
 ·clear H
  have H := f
  clear f
  generalize o = F at H key ⊢
  cases F
  ·have H := ba z H
   refine aa [.p, .p, .p, .p] z ?_
   obtain rfl := ai H
   exact OW.sub key (sb z)
  ·have H := bb z H
   refine aa [.fa 130 1 1 uH] z <| o1 z (r1 1 0 z ty3 z) <| bE H fun X G H => oq z (qc z gK (fun c d => bf c G)) tt2 <| oP z <| ?_
   obtain rfl := ai H
   exact OW.sub key (sb z)
theorem se (w : World) {p0 : aj} {l : List Value} {r : Int} (H : kT p0 = U r) (g0 : (cU).rd w [] p0 l) :
    Calls Tryz.prog 153 #[.agg l.toArray] w (fun en w' => en = .returned (I J r) ∧ Ext [] w w') := by
 obtain ⟨f9, g1, rfl, f, a9⟩ := cr g0
 obtain ⟨b0, b1, rfl⟩ := am f
 obtain rfl := a9
 unfold kT at H
 refine aG Tryz.func153 z Tryz.ntmps153 z (St.init w []) <| sR <| ob _ z fun d => oP z <| nR <| oP z <| nQ <| ak <| sR <| oP z <| nQ <| aB <| CW.at (ic (fun (c : Int) (a : Int) => St w [] [b d 30 [S b0 p0.a_.length b1, I J p0.j_]]) (fun c a => [(1, O (U ⟨d, 0, N⟩)), (3, I J c), (4, I J a)]) (fun kk => fun c a => fb p0 kk c a = U r) (fun _ _ H => ?_) (fun k1 g c a H => ?_) bh (0) (0) (H)) (ss [0] z z) (sb z)
 ·unfold fb at H
  exact absurd H (by simp)
 ·unfold fb at H
  refine ak <| sR <| aa [.p, .fa 30 0 0 cb] z <| o1 z (r1 0 0 z ef z) <| aa [.lenS 28 71 dZ, .p] z <| nQ <| cI H z (fun H => ?_) (fun H => ?_)
  ·refine aw <| az <| ak <| aB <| sR <| aa [.p, .p, .p] z <| bE H fun m e H => aQ [(23, B m), (1, O (U ⟨d, 0, N⟩)), (3, I J c), (4, I J a)] 9 ?_ (fun key => OW.sub (R := [(1, O (U ⟨d, 0, N⟩)), (3, I J c), (4, I J a), (14, B (a == 0))]) ?_ (sb z))
   ·refine nQ <| cI H z (fun H => ?_) (fun H => ?_)
    ·refine aT <| aa [.fa 30 0 0 cb] z <| o1 z (r1 0 0 z ef z) <| oP z <| bE H fun o q H => cB z z z z z dZ cc z f q fun b3 b4 h i => ?_
     obtain ⟨b5, b6, b7, b8, b9, c0, c1, c2, c3, c4, rfl, s, t, u, v, x, A, C, D, E, F⟩ := bn h
     obtain rfl := s
     obtain rfl := t
     obtain ⟨c5, c6, rfl⟩ := am u
     obtain rfl := v
     obtain ⟨c7, c8, rfl, G, L⟩ := aL x
     obtain ⟨c9, d0, rfl⟩ := am G
     obtain ⟨d1, d2, rfl⟩ := am L
     obtain rfl := A
     obtain ⟨d3, d4, rfl⟩ := am C
     obtain rfl := D
     obtain rfl := E
     obtain rfl := F
     exact aa [.fa 71 7 9 ke] z <| o1 z (aF z z ty3 (co bor (lk i 9 1))) <| oP z <| ay <| ca <| az <| aT <| aa [.p, .p, .p] z <| ay <| cQ (RW.at (g (o.m_) (J.wrap (a + 1)) (H)) (ss [0] z z) (sb z))
    ·exact aw <| ca <| az <| aT <| aa [.p, .p, .p] z <| ay <| cQ (RW.at (g (c) (J.wrap (a + 1)) (H)) (ss [0] z z) (sb z))
   ·clear H
    have H := e
    clear e
    generalize (a == 0) = M at H key ⊢
    cases M
    ·have H := ba z H
     refine aa [.fa 30 0 0 cb] z <| o1 z (r1 0 0 z ef z) <| oP z <| bE H fun d5 P H => cB z z z z z dZ cc z f P fun d6 d7 j k => ?_
     obtain ⟨d8, d9, e0, e1, e2, e3, e4, e5, e6, e7, rfl, Q, X, Z, a0, a1, a2, a3, a4, a5, a6⟩ := bn j
     obtain rfl := Q
     obtain rfl := X
     obtain ⟨e9, f0, rfl⟩ := am Z
     obtain rfl := a0
     obtain ⟨f1, f2, rfl, a7, a8⟩ := aL a1
     obtain ⟨f3, f4, rfl⟩ := am a7
     obtain ⟨f5, f6, rfl⟩ := am a8
     obtain rfl := a2
     obtain ⟨f7, f8, rfl⟩ := am a3
     obtain rfl := a4
     obtain rfl := a5
     obtain rfl := a6
     refine aa [.fa 71 7 9 ke] z <| o1 z (aF z z ty3 (co bor (lk k 9 1))) <| oPP z <| oP z <| ?_
     obtain rfl := ai H
     exact OW.sub key (sb z)
    ·have H := bb z H
     refine aa [.p, .p, .p, .p, .p, .p, .p, .p, .p] z ?_
     obtain rfl := ai H
     exact OW.sub key (sb z)
  ·exact bH <| aN <| aS <| aM <| az <| sR <| oPP z <| nT <| xr 2 z (by cases H; exact q1)
theorem sh (w : World) {p0 : aR} {d : List Value} {r : Int} (H : kP p0 = U r) (R : (aD).rd w [] p0 d) :
    Calls Tryz.prog 168 #[.agg d.toArray] w (fun en w' => en = .returned (I J r) ∧ Ext [] w w') := by
 obtain ⟨X, Z, a0, a1, a2, a3, a4, a5, a6, a7, rfl, j, k, l, m, o, q, s, t, u, v⟩ := bn R
 obtain rfl := j
 obtain rfl := k
 obtain ⟨x, A, rfl⟩ := am l
 obtain rfl := m
 obtain ⟨a8, a9, rfl, C, e⟩ := aL o
 obtain ⟨D, E, rfl⟩ := am C
 obtain ⟨F, G, rfl⟩ := am e
 obtain rfl := q
 obtain ⟨L, M, rfl⟩ := am s
 obtain rfl := t
 obtain rfl := u
 obtain rfl := v
 unfold kP at H
 refine aG Tryz.func168 z Tryz.ntmps168 z (St.init w []) <| sR <| ob _ z fun f => oP z <| nQ <| ak <| sR <| aa [.fa 71 0 0 ls] z <| o1 z (r1 0 0 z ty4 z) <| oP z <| nQ <| cI H z (fun H => ?_) (fun H => ?_)
 ·exact sR <| oP z <| nT <| ap <| xr 2 z (by cases H; exact q1)
 ·refine aw <| az <| sR <| oP z <| nQ <| ak <| sR <| oP z <| nQ <| aB <| CW.at (ic (fun (a : Int) (c : Int) => St w [] [b f 71 [B p0.s_, I J p0.l_.g_, I J p0.l_.c_, S x p0.r_.length A, I J p0.w_, S D p0.n_.e_.length E, S F p0.n_.d_.length G, I J p0.v_, S L p0.b_.length M, I J p0.m_, I J p0.o_, I J p0.p_]]) (fun a c => [(1, O (U ⟨f, 0, N⟩)), (3, I J a), (4, I J c)]) (fun kk => fun a c => fG p0 kk a c = U r) (fun _ _ H => ?_) (fun k1 g a c H => ?_) bh (2) (0) (H)) (ss [0] z z) (sb z)
  ·unfold fG at H
   exact absurd H (by simp)
  ·unfold fG at H
   refine ak <| sR <| aa [.p, .fa 71 4 5 eR, .fa 69 1 1 dL] z <| o1 z (r1 6 0 z jm z) <| aa [.lenS 67 31 gL, .p] z <| nQ <| cI H z (fun H => ?_) (fun H => ?_)
   ·refine aw <| az <| ak <| aB <| aT <| aa [.p, .fa 71 4 5 eR, .fa 69 1 1 dL] z <| o1 z (r1 6 0 z jm z) <| oP z <| bE H fun P Q H => cB z z z z z gL cw z e Q fun b0 b1 h i => ?_
    obtain ⟨b2, b3, rfl⟩ := am h
    exact o1 z (aF z z cw (co bor i)) <| aa [.lenS 31 3 aO, .p, .p] z <| ay <| ca <| az <| aT <| aa [.p, .p, .p] z <| ay <| cQ (RW.at (g (J.wrap (a + (P.length : Int))) (J.wrap (c + 1)) (H)) (ss [0] z z) (sb z))
   ·exact bH <| aN <| aS <| aM <| az <| sR <| oPP z <| nT <| xr 2 z (by cases H; exact q1)
theorem ns (w : World) {p0 : aj} {m : List Value} {r : Int} (H : iP p0 = U r) (g0 : (cU).rd w [] p0 m) :
    Calls Tryz.prog 154 #[.agg m.toArray] w (fun en w' => en = .returned (I J r) ∧ Ext [] w w') := by
 obtain ⟨c0, c1, rfl, o, a2⟩ := cr g0
 obtain ⟨a3, a4, rfl⟩ := am o
 obtain rfl := a2
 unfold iP at H
 refine aG Tryz.func154 z Tryz.ntmps154 z (St.init w []) <| sR <| ob _ z fun q => oP z <| nR <| oP z <| nQ <| ak <| sR <| oP z <| nQ <| aB <| CW.at (ic (fun (c : Int) (d : Int) => St w [] [b q 30 [S a3 p0.a_.length a4, I J p0.j_]]) (fun c d => [(1, O (U ⟨q, 0, N⟩)), (3, I J c), (4, I J d)]) (fun kk => fun c d => eN p0 kk c d = U r) (fun _ _ H => ?_) (fun k1 s c d H => ?_) bh (0) (0) (H)) (ss [0] z z) (sb z)
 ·unfold eN at H
  exact absurd H (by simp)
 ·unfold eN at H
  refine ak <| sR <| aa [.p, .fa 30 0 0 cb] z <| o1 z (r1 0 0 z ef z) <| aa [.lenS 28 71 dZ, .p] z <| nQ <| cI H z (fun H => ?_) (fun H => ?_)
  ·refine aw <| az <| ak <| aB <| aT <| aa [.p, .fa 30 0 0 cb] z <| o1 z (r1 0 0 z ef z) <| oP z <| bE H fun a t H => cB z z z z z dZ cc z o t fun a6 a7 k l => ?_
   obtain ⟨a8, a9, b0, b1, b2, b3, b4, b5, b6, b7, rfl, u, v, f, x, A, C, g, D, E, F⟩ := bn k
   obtain rfl := u
   obtain rfl := v
   obtain ⟨G, L, rfl⟩ := am f
   obtain rfl := x
   obtain ⟨b8, b9, rfl, h, i⟩ := aL A
   obtain ⟨M, P, rfl⟩ := am h
   obtain ⟨Q, R, rfl⟩ := am i
   obtain rfl := C
   obtain ⟨X, Z, rfl⟩ := am g
   obtain rfl := D
   obtain rfl := E
   obtain rfl := F
   exact o1 z (cV (cs := [B a.s_, I J a.l_.g_, I J a.l_.c_, S G a.r_.length L, I J a.w_, S M a.n_.e_.length P, S Q a.n_.d_.length R, I J a.v_, S X a.b_.length Z, I J a.m_, I J a.o_, I J a.p_]) z z cc (co bor l) z) <| bE H fun a0 a1 H => oq z (qc z Cr (fun j e => sh j a1 (gU z z (ab f j e) z (aE (ab h j e) (ab i j e)) z (ab g j e) z z z))) tt2 <| oPP z <| ay <| ca <| az <| aT <| aa [.p, .p, .p] z <| ay <| cQ (RW.at (s (J.wrap (c + a0)) (J.wrap (d + 1)) (H)) (ss [0] z z) (sb z))
  ·exact bH <| aN <| aS <| aM <| az <| sR <| oPP z <| nT <| xr 2 z (by cases H; exact q1)
theorem ug (w : World) {p0 : ae} {p1 : cA} {p2 : aj} {l : List Value} {m : List Value} {r : Bool} (H : nE p0 p1 p2 = U r) (L : (aX).rd w [] p0 l) (M : (cU).rd w [] p2 m) :
    Calls Tryz.prog 137 #[.agg l.toArray, .agg #[I J p1.F_, I J p1.G_, I J p1.H_, I J p1.m_, I J p1.a_, I J p1.D_, B p1.E_], .agg m.toArray] w (fun en w' => en = .returned (B r) ∧ Ext [] w w') := by
 obtain ⟨P, Q, rfl, o, q⟩ := aI L
 obtain ⟨X, Z, rfl⟩ := am o
 obtain ⟨a0, a1, rfl⟩ := am q
 obtain ⟨a2, a3, rfl, g, t⟩ := cr M
 obtain ⟨a4, a5, rfl⟩ := am g
 obtain rfl := t
 unfold nE at H
 refine aG Tryz.func137 z Tryz.ntmps137 z (St.init w []) <| sR <| ob _ z fun a6 => ob _ z fun d => ob _ z fun e => oP z <| nQ <| ak <| dJ bT (by kernel_rfl) <| o1 z (rx 0 0 _ z bU z) <| o1 z (rx 0 2 _ z bv z) <| bE H fun s u H => oq z (qc z fn8 (fun c a => iN c u (ah (ab o c a) (ab q c a)) (aU (ab g c a) z))) tt2 <| oP z <| bE H fun f h H => aQ [(13, B f), (4, O (U ⟨d, 0, N⟩)), (5, O (U ⟨e, 0, N⟩)), (6, B n)] 3 ?_ (fun key => OW.sub (R := [(4, O (U ⟨d, 0, N⟩)), (5, O (U ⟨e, 0, N⟩)), (6, B n), (10, B s)]) ?_ (sb z))
 ·refine oP z <| aQ [(21, B (f && (decide ((p2.a_.length : Int) ≤ p1.a_)))), (4, O (U ⟨d, 0, N⟩)), (5, O (U ⟨e, 0, N⟩)), (6, B n)] 7 ?_ (fun key => OW.sub (R := [(4, O (U ⟨d, 0, N⟩)), (5, O (U ⟨e, 0, N⟩)), (6, B n), (14, B f)]) ?_ (sb z))
  ·refine oP z <| bE H fun i j H => aQ [(28, B i), (4, O (U ⟨d, 0, N⟩)), (5, O (U ⟨e, 0, N⟩)), (6, B n)] 6 ?_ (fun key => OW.sub (R := [(4, O (U ⟨d, 0, N⟩)), (5, O (U ⟨e, 0, N⟩)), (6, B n), (22, B (f && (decide ((p2.a_.length : Int) ≤ p1.a_))))]) ?_ (sb z))
   ·refine oP z <| bE H fun v k H => aQ [(35, B v), (6, B n)] 6 ?_ (fun key => OW.sub (R := [(4, O (U ⟨d, 0, N⟩)), (5, O (U ⟨e, 0, N⟩)), (6, B n), (29, B i)]) ?_ (sb z))
    ·exact oP z <| cx <| az <| pT <| xr 6 z (by cases H; exact q1)
    ·clear H
     have H := k
     clear k
     generalize i = x at H key ⊢
     cases x
     ·have H := ba z H
      refine aa [.p, .p, .p, .p, .p, .p] z ?_
      obtain rfl := ai H
      exact OW.sub key (sb z)
     ·have H := bb z H
      refine o1 z (rx 0 2 _ z bv z) <| bE H fun a7 A H => oq z (qc z AW (fun c a => ns c A (aU (ab g c a) z))) tt2 <| aa [.fa 130 5 5 qo] z <| o1 z (r1 5 1 z ty3 z) <| oP z <| oP z <| ?_
      obtain rfl := ai H
      exact OW.sub key (sb z)
   ·clear H
    have H := j
    clear j
    generalize (f && (decide ((p2.a_.length : Int) ≤ p1.a_))) = C at H key ⊢
    cases C
    ·have H := ba z H
     refine aa [.p, .p, .p, .p, .p, .p] z ?_
     obtain rfl := ai H
     exact OW.sub key (sb z)
    ·have H := bb z H
     refine o1 z (rx 0 2 _ z bv z) <| bE H fun a8 D H => oq z (qc z CU (fun c a => se c D (aU (ab g c a) z))) tt2 <| aa [.fa 130 3 3 uv] z <| o1 z (r1 3 1 z ty3 z) <| oP z <| oP z <| ?_
     obtain rfl := ai H
     exact OW.sub key (sb z)
  ·generalize f = E at key ⊢
   cases E
   ·exact aa [.p, .p, .p, .p, .p, .p, .p] z <| OW.sub key (sb z)
   ·exact aa [.fa 30 0 0 cb] z <| o1 z (r1 0 2 z ef z) <| aa [.lenS 28 71 dZ, .fa 130 4 4 uI] z <| o1 z (r1 4 1 z ty3 z) <| oP z <| oP z <| OW.sub key (sb z)
 ·clear H
  have H := h
  clear h
  generalize s = F at H key ⊢
  cases F
  ·have H := ba z H
   refine aa [.p, .p, .p] z ?_
   obtain rfl := ai H
   exact OW.sub key (sb z)
  ·have H := bb z H
   refine o1 z (rx 0 1 _ z mY z) <| bE H fun a9 G H => oq z (qc z ye (fun c a => mP c (p0 := p1) G)) tt2 <| oP z <| ?_
   obtain rfl := ai H
   exact OW.sub key (sb z)
theorem oe (w : World) {p0 : ae} {p1 : bw} {o : List Value} {q : List Value} {r : Bool} (H : lA p0 p1 = U r) (g0 : (aX).rd w [] p0 o) (g1 : (fD).rd w [] p1 q) :
    Calls Tryz.prog 16 #[.agg o.toArray, .agg q.toArray] w (fun en w' => en = .returned (B r) ∧ Ext [] w w') := by
 obtain ⟨b4, b5, rfl, i, s⟩ := aI g0
 obtain ⟨F, G, rfl⟩ := am i
 obtain ⟨L, M, rfl⟩ := am s
 obtain ⟨b6, b7, rfl, k, P⟩ := jQ g1
 obtain ⟨Q, X, rfl⟩ := am k
 obtain rfl := P
 unfold lA at H
 refine aG Tryz.func16 z Tryz.ntmps16 z (St.init w []) <| sR <| ob _ z fun f => ob _ z fun g => oP z <| nQ <| ak <| sR <| o1 z (rx 0 0 _ z bU z) <| bE H fun h Z H => oq z (qc z xK (fun a c => gN a Z (ah (ab i a c) (ab s a c)))) tt2 <| oPP z <| aQ [(17, B ((!h) || ((p1.u_.length : Int) != (p0.b_.length : Int)))), (2, O (U ⟨f, 0, N⟩)), (3, O (U ⟨g, 0, N⟩))] 8 ?_ (fun key => OW.sub (R := [(2, O (U ⟨f, 0, N⟩)), (3, O (U ⟨g, 0, N⟩)), (9, B (!h))]) ?_ (sb z))
 ·refine oP z <| bE H fun a0 l H => aQ [(27, B a0), (2, O (U ⟨f, 0, N⟩)), (3, O (U ⟨g, 0, N⟩))] 9 ?_ (fun key => OW.sub (R := [(2, O (U ⟨f, 0, N⟩)), (3, O (U ⟨g, 0, N⟩)), (18, B ((!h) || ((p1.u_.length : Int) != (p0.b_.length : Int))))]) ?_ (sb z))
  ·refine nQ <| cI H z (fun H => ?_) (fun H => ?_)
   ·exact sR <| oP z <| nT <| ap <| xr 4 z (by cases H; exact q1)
   ·refine aw <| az <| ak <| sR <| oP z <| nQ <| aB <| CW.at (fL (fun (d : Int) => St w [] [b f 27 [S F p0.b_.length G, S L p0.k_.length M], b g 33 [S Q p1.u_.length X, I J p1.z_]]) (fun d => [(2, O (U ⟨f, 0, N⟩)), (3, O (U ⟨g, 0, N⟩)), (5, I J d)]) (fun kk => fun d => iu p1 p0 kk d = U r) (fun _ H => ?_) (fun k1 x d H => ?_) bh (0) (H)) (ss [0, 1] z z) (sb z)
    ·unfold iu at H
     exact absurd H (by simp)
    ·unfold iu at H
     refine ak <| sR <| aa [.p, .fa 33 0 0 mO] z <| o1 z (r1 0 1 z cw z) <| aa [.lenS 31 3 aO, .p] z <| nQ <| cI H z (fun H => ?_) (fun H => ?_)
     ·refine aw <| az <| ak <| aB <| ak <| dJ bT (by kernel_rfl) <| aa [.fa 33 0 0 mO] z <| o1 z (r1 0 1 z cw z) <| oP z <| bE H fun b8 t H => bq (e := eI) (xs := p1.u_) (j := d) z z z z z aO ty3 z (ab k) t (by rw [Nat.mul_one]) <| o1 z (aF z z ty3 (bC (ab k) t)) <| aa [.fa 27 0 0 dq] z <| o1 z (r1 0 0 z iH z) <| oP z <| bE H fun m a1 H => cB z z z z z iw dI z i a1 fun b9 c0 A C => ?_
      obtain ⟨c1, c2, c3, rfl, a2, u, v⟩ := bW A
      obtain rfl := a2
      obtain ⟨a3, a4, rfl⟩ := am u
      obtain ⟨a5, a6, rfl⟩ := am v
      refine o1 z (cV (cs := [vS m.x_, S a3 m.t_.length a4, S a5 m.y_.length a6]) z z dI (co bor C) z) <| bE H fun b2 D H => oq z (qc z uy (fun a c => gw a D (dd z (ab u a c) (ab v a c)))) tt2 <| oP z <| bE H fun b3 E H => oq z (qc z gK (fun a c => bf a E)) tt2 <| oP z <| cx <| az <| cI H z (fun H => ?_) (fun H => ?_)
      ·exact sR <| oP z <| nT <| aP <| ap <| bZ <| aP <| ap <| xr 4 z (by cases H; exact q1)
      ·exact aw <| ca <| az <| aT <| aa [.p, .p, .p] z <| ay <| cQ (RW.at (x (J.wrap (d + 1)) (H)) (ss [0, 1] z z) (sb z))
     ·exact bH <| aN <| aS <| aM <| az <| sR <| oP z <| nT <| xr 4 z (by cases H; exact q1)
  ·clear H
   have H := l
   clear l
   generalize ((!h) || ((p1.u_.length : Int) != (p0.b_.length : Int))) = a7 at H key ⊢
   cases a7
   ·have H := ba z H
    refine aa [.fa 33 1 1 oY] z <| o1 z (r1 1 1 z ty3 z) <| aa [.fa 27 1 1 fZ] z <| o1 z (r1 1 0 z ja z) <| aa [.lenS 25 9 ek, .p] z <| bE H fun c4 a8 H => oq z (qc z gK (fun a c => bf a a8)) tt2 <| oP z <| oP z <| ?_
    obtain rfl := ai H
    exact OW.sub key (sb z)
   ·have H := bb z H
    refine aa [.p, .p, .p, .p, .p, .p, .p, .p, .p] z ?_
    obtain rfl := ai H
    exact OW.sub key (sb z)
 ·generalize (!h) = a9 at key ⊢
  cases a9
  ·exact aa [.fa 33 0 0 mO] z <| o1 z (r1 0 1 z cw z) <| aa [.lenS 31 3 aO, .fa 27 0 0 dq] z <| o1 z (r1 0 0 z iH z) <| aa [.lenS 24 63 iw, .p] z <| oP z <| OW.sub key (sb z)
  ·exact aa [.p, .p, .p, .p, .p, .p, .p, .p] z <| OW.sub key (sb z)
theorem pn (w : World) {p0 : bd} {c : List Value} {r : Bool} (H : kI p0 = U r) (j : (iq).rd w [] p0 c) :
    Calls Tryz.prog 138 #[.agg c.toArray] w (fun en w' => en = .returned (B r) ∧ Ext [] w w') := by
 obtain ⟨l, m, rfl, d, e⟩ := hY j
 obtain ⟨o, q, rfl⟩ := am d
 obtain rfl := e
 unfold kI at H
 refine aG Tryz.func138 z Tryz.ntmps138 z (St.init w []) <| sR <| ob _ z fun f => oP z <| nR <| aa [.fa 152 0 0 pH] z <| o1 z (r1 0 0 z vv z) <| aa [.lenS 22 5 lB, .p, .p] z <| bE H fun g a H => aQ [(14, B g), (2, B n)] 7 ?_ (fun key => OW.sub (R := [(1, O (U ⟨f, 0, N⟩)), (2, B n), (7, B (decide ((p0.q_.length : Int) ≤ 600)))]) ?_ (sb z))
 ·exact oP z <| nT <| xr 2 z (by cases H; exact q1)
 ·clear H
  have H := a
  clear a
  generalize (decide ((p0.q_.length : Int) ≤ 600)) = h at H key ⊢
  cases h
  ·have H := ba z H
   refine aa [.p, .p, .p, .p, .p, .p, .p] z ?_
   obtain rfl := ai H
   exact OW.sub key (sb z)
  ·have H := bb z H
   refine aa [.fa 152 1 1 oz] z <| o1 z (r1 1 0 z ty3 z) <| aa [.fa 152 0 0 pH] z <| o1 z (r1 0 0 z vv z) <| aa [.lenS 22 5 lB] z <| bE H fun s i H => oq z (qc z gK (fun k t => bf k i)) tt2 <| oP z <| ?_
   obtain rfl := ai H
   exact OW.sub key (sb z)
theorem pp (w : World) {s : List Nat} {p0 : av} {P : List Value} {r : av} (H : kF p0 = U r) (HS : St w s [] w) (g0 : (cn).rd w s p0 P) :
    Calls Tryz.prog 147 #[.agg P.toArray] w (fun en w' => ∃ v, en = .returned v ∧ ∃ (a0 : Option Addr), ∃ (n0 : Nat), ∃ (c0 : Nat), ∃ (F0 : List Nat), ∃ (a1 : Option Addr), ∃ (n1 : Nat), ∃ (c1 : Nat), ∃ (F1 : List Nat), v = .agg #[S a0 n0 c0, S a1 n1 c1] ∧ St w s [W (af eI 3) F0 r.e_ [S a0 n0 c0], W (af (af eI 3) 31) F1 r.d_ [S a1 n1 c1]] w') := by
 obtain ⟨c7, c8, rfl, Q, R⟩ := aL g0
 obtain ⟨X, Z, rfl⟩ := am Q
 obtain ⟨a2, a3, rfl⟩ := am R
 unfold kF at H
 refine aG Tryz.func147 z Tryz.ntmps147 z (HS) <| sR <| ob _ z fun t => aC z z z z cP (fun _ => kp) fun u => nR <| bM (e := eI) z z z z aO ty3 (fun _ => kp) fun c9 => aa [.fa 69 0 0 hG] z <| o1 z (r1 0 0 z cw z) <| bE H fun a b4 H => bY (r := 2) (ys := p0.e_) z z z z z z aO ty3 z z z (ab Q) b4 (fun _ _ _ => kp) fun d f x => o1 z (bI [(0, [S d a.length f])] [S d a.length f, S N 0 0] z z cP zH z ⟨z, z, nl z, Y⟩ z) <| aC z z z z cP (fun _ => kp) fun A => sC 0 [S d a.length f, S N 0 0] [_, _] 3 z cP z <| nQ <| ak <| sR <| oP z <| nQ <| aB <| CW.weak ?_ (fun _ h => St.pushNil (e := af eI 3) (T := 31) h)
 refine CW.at (iz (fun (c : List (List Int)) (g : Option Addr) (k : Nat) (l : List Nat) (m : Int) => St w s [b t 69 [S X p0.e_.length Z, S a2 p0.d_.length a3], b u 69 [S N 0 0, S N 0 0], b A 69 [S d a.length f, S g c.length k], W (af eI 3) x a [S d a.length f], W (af (af eI 3) 31) l c [S g c.length k]]) (fun c g k l m => [(1, O (U ⟨t, 0, N⟩)), (2, O (U ⟨u, 0, N⟩)), (3, O (U ⟨A, 0, N⟩)), (4, I J m)]) (fun kk => fun c g k l m => gc p0 a kk c m = U r) (fun _ _ _ _ _ H => ?_) (fun k1 a4 c g k l m H => ?_) bh (([] : List (List Int))) (N) (0) ([]) (0) (H)) (ss [0, 1, 3, 2, 4] z z) (sb z)
 ·unfold gc at H
  exact absurd H (by simp)
 ·unfold gc at H
  refine ak <| sR <| aa [.p, .fa 69 1 1 dL] z <| o1 z (r1 1 0 z jm z) <| aa [.lenS 67 31 gL, .p] z <| nQ <| cI H z (fun H => ?_) (fun H => ?_)
  ·refine aw <| az <| ak <| aB <| cW 10 [(0, y), (1, y), (3, y), (4, y), (5, y), (6, y), (7, y), (2, n), (8, n), (9, n)] (St w s [b t 69 [S X p0.e_.length Z, S a2 p0.d_.length a3], b u 69 [S N 0 0, S N 0 0], b A 69 [S d a.length f, S g c.length k], W (af eI 3) x a [S d a.length f], W (af (af eI 3) 31) l c [S g c.length k]]) bT (by kernel_rfl) (bF (aV (fe (bF (aV be))))) (tk 5 z) <| aa [.fa 69 1 1 dL] z <| br z (ax z) (r1 1 2 z jm z) <| aa [.fa 69 1 1 dL] z <| br z (ax z) (r1 1 0 z jm z) <| oP z <| bE H fun a5 a6 H => cB z z z z z gL cw z R a6 fun b8 b9 o M => ?_
   obtain ⟨c2, c3, rfl⟩ := am o
   refine br z (ax z) (aF z z cw (co (fun _ h => h.ext) M)) <| bM (e := eI) z z z z aO ty3 (fun _ => (tk 5 z)) fun c4 => bE H fun C a7 H => bY (r := 5) (ys := a5) z z z z z z aO ty3 z z z (ab o) a7 (fun _ _ _ => (tk 5 z)) fun D E c5 => il [(0, [S D C.length E])] z z z z z gL cw z z ⟨z, z, nl z, Y⟩ [S D C.length E] z (fun _ => (tk 5 z)) fun c6 => eU z (fun _ h => tz (p := 6) (q := 5) h z z z) <| aJ <| iY <| bE H fun F a8 H => mz (r := 4) (j := 7) z z z z z z gL cw z z z z z z z a8 (fun _ _ _ => kp) fun G L a9 => aa [.fa 69 1 1 dL] z <| sC 1 [S G F.length L] [_, _] 2 z jm z <| ay <| ca <| az <| CW.weak (C' := St w s [_, _, _, _, _]) ?_ (ss [0, 1, 2, 3, 8] z z)
   exact aT <| aa [.p, .p, .p] z <| ay <| cQ (RW.at (a4 (F) (G) (L) (a9) (J.wrap (m + 1)) (H)) (ss [0, 1, 2, 3, 4] z z) (sb z))
  ·exact bH <| aN <| aS <| aM <| az <| sR <| o1 z (rx 0 2 _ z cP z) <| sC 0 [S d a.length f, S g c.length k] [_, _] 1 z cP z <| nT <| aY (rs := [.cell 2 69]) (vs := [.agg #[S d a.length f, S g c.length k]]) z ⟨⟨_, [S d a.length f, S g c.length k], _, _, _, z, cP, (bl (T := 69) 0 (bK (i := 1) z) z), z, z⟩, Y⟩ (fun w' hw' => by
    obtain rfl := ai H
    exact ⟨_, z, d, a.length, f, x, g, c.length, k, l, z, hw'.sel [3, 4] z z⟩)
theorem ms (w : World) {s : List Nat} {p0 : aR} {u : List Value} {r : aR} (H : gR p0 = U r) (HS : St w s [] w) (g0 : (aD).rd w s p0 u) :
    Calls Tryz.prog 142 #[.agg u.toArray] w (fun en w' => ∃ v, en = .returned v ∧ ∃ (F : Option Addr), ∃ (G : Nat), ∃ (c0 : Nat), ∃ (F0 : List Nat), ∃ (L : Option Addr), ∃ (M : Nat), ∃ (c1 : Nat), ∃ (F1 : List Nat), ∃ (P : Option Addr), ∃ (Q : Nat), ∃ (c2 : Nat), ∃ (F2 : List Nat), ∃ (R : Option Addr), ∃ (X : Nat), ∃ (c3 : Nat), ∃ (F3 : List Nat), v = .agg #[B r.s_, I J r.l_.g_, I J r.l_.c_, S F G c0, I J r.w_, S L M c1, S P Q c2, I J r.v_, S R X c3, I J r.m_, I J r.o_, I J r.p_] ∧ St w s [W (af eI 3) F0 r.r_ [S F G c0], W (af eI 3) F1 r.n_.e_ [S L M c1], W (af (af eI 3) 31) F2 r.n_.d_ [S P Q c2], W (af eI 3) F3 r.b_ [S R X c3]] w') := by
 obtain ⟨d5, d6, d7, d8, d9, e0, e1, e2, e3, e4, rfl, Z, a4, x, a5, a6, a7, A, a8, a9, b0⟩ := bn g0
 obtain rfl := Z
 obtain rfl := a4
 obtain ⟨b1, b2, rfl⟩ := am x
 obtain rfl := a5
 obtain ⟨e5, e6, rfl, C, D⟩ := aL a6
 obtain ⟨b3, b4, rfl⟩ := am C
 obtain ⟨b5, b6, rfl⟩ := am D
 obtain rfl := a7
 obtain ⟨b7, b8, rfl⟩ := am A
 obtain rfl := a8
 obtain rfl := a9
 obtain rfl := b0
 unfold gR at H
 refine aG Tryz.func142 z Tryz.ntmps142 z (HS) <| sR <| ob _ z fun e7 => aC z z z z cc (fun _ => kp) fun e9 => nR <| o1 z (rx 0 0 _ z cc z) <| aC z z z z cc (fun _ => kp) fun f0 => sC 0 [B p0.s_, I J p0.l_.g_, I J p0.l_.c_, S b1 p0.r_.length b2, I J p0.w_, S b3 p0.n_.e_.length b4, S b5 p0.n_.d_.length b6, I J p0.v_, S b7 p0.b_.length b8, I J p0.m_, I J p0.o_, I J p0.p_] [_, _, _, _, _, _, _, _, _, _, _, _] 2 z cc z <| nR <| bM (e := eI) z z z z aO ty3 (fun _ => kp) fun f1 => aa [.fa 71 2 3 gV] z <| o1 z (r1 3 0 z cw z) <| bE H fun c b9 H => bY (r := 3) (ys := p0.r_) z z z z z z aO ty3 z z z (ab x) b9 (fun _ _ _ => kp) fun d f c4 => aa [.fa 71 2 3 gV] z <| sC 3 [S d c.length f] [_, _, _, _, _, _, _, _, _, _, _, _] 2 z cw z <| nR <| bM (e := eI) z z z z aO ty3 (fun _ => kp) fun f2 => aa [.fa 71 6 8 oX] z <| o1 z (r1 8 0 z cw z) <| bE H fun g c5 H => bY (r := 4) (ys := p0.b_) z z z z z z aO ty3 z z z (ab A) c5 (fun _ _ _ => kp) fun h j c6 => aa [.fa 71 6 8 oX] z <| sC 8 [S h g.length j] [_, _, _, _, _, _, _, _, _, _, _, _] 2 z cw z <| nR <| aa [.fa 71 4 5 eR] z <| o1 z (rx 5 0 _ z cP z) <| ?_
 refine bE H fun a c7 H => aq z AU z z z z (fun t k => pp t c7 (k.carve [] z z) (aE (ab C t k) (ab D t k))) fun f3 t w2 k E => ?_
 obtain ⟨l, f4, m, c8, o, f5, p, c9, rfl, q⟩ := E
 obtain rfl := aH (i := 0) q z
 obtain rfl := aH (i := 1) q z
 refine ⟨St w s [_, _, _, _, _, _, _], k.comp [] z z q, fun _ _ => Y, ?_⟩
 exact aa [.fa 71 4 5 eR] z <| sC 5 [S l a.e_.length m, S o a.d_.length p] [_, _, _, _, _, _, _, _, _, _, _, _] 2 z cP z <| nR <| o1 z (rx 0 2 _ z cc z) <| sC 0 [B p0.s_, I J p0.l_.g_, I J p0.l_.c_, S d c.length f, I J p0.w_, S l a.e_.length m, S o a.d_.length p, I J p0.v_, S h g.length j, I J p0.m_, I J p0.o_, I J p0.p_] [_, _, _, _, _, _, _, _, _, _, _, _] 1 z cc z <| nT <| aY (rs := [.cell 2 71]) (vs := [.agg #[B p0.s_, I J p0.l_.g_, I J p0.l_.c_, S d c.length f, I J p0.w_, S l a.e_.length m, S o a.d_.length p, I J p0.v_, S h g.length j, I J p0.m_, I J p0.o_, I J p0.p_]]) z ⟨⟨_, [B p0.s_, I J p0.l_.g_, I J p0.l_.c_, S d c.length f, I J p0.w_, S l a.e_.length m, S o a.d_.length p, I J p0.v_, S h g.length j, I J p0.m_, I J p0.o_, I J p0.p_], _, _, _, z, cc, (bl (T := 71) 0 (bK (i := 1) z) z), z, z⟩, Y⟩ (fun w' hw' => by
  obtain rfl := ai H
  exact ⟨_, z, d, c.length, f, c4, l, a.e_.length, m, c8, o, a.d_.length, p, c9, h, g.length, j, c6, z, hw'.sel [3, 5, 6, 4] z z⟩)
theorem ik (w : World) {s : List Nat} {p0 : aj} {a7 : List Value} {r : aj} (H : fU p0 = U r) (HS : St w s [] w) (g0 : (cU).rd w s p0 a7) :
    Calls Tryz.prog 139 #[.agg a7.toArray] w (fun en w' => ∃ v, en = .returned v ∧ ∃ (a0 : Option Addr), ∃ (n0 : Nat), ∃ (c0 : Nat), ∃ (F0 : List Nat), v = .agg #[S a0 n0 c0, I J r.j_] ∧ St w s [W (af (aD) 71) F0 r.a_ [S a0 n0 c0]] w') := by
 obtain ⟨g5, g6, rfl, a8, d5⟩ := cr g0
 obtain ⟨a9, b0, rfl⟩ := am a8
 obtain rfl := d5
 unfold fU at H
 refine aG Tryz.func139 z Tryz.ntmps139 z (HS) <| sR <| ob _ z fun u => aC z z z z bv (fun _ => kp) fun x => nR <| aa [.fa 30 1 1 mo] z <| o1 z (r1 1 0 z ty3 z) <| o1 z (bI [(1, [I J p0.j_])] [S N 0 0, I J p0.j_] z z bv BM z ⟨z, z, nl z, Y⟩ z) <| aC z z z z bv (fun _ => kp) fun A => sC 0 [S N 0 0, I J p0.j_] [_, _] 2 z bv z <| nQ <| ak <| sR <| oP z <| nQ <| aB <| CW.weak ?_ (fun _ h => St.pushNil (e := aD) (T := 71) h)
 refine CW.at (iz (fun (c : List aR) (f : Option Addr) (g : Nat) (m : List Nat) (o : Int) => St w s [b u 30 [S a9 p0.a_.length b0, I J p0.j_], b x 30 [S N 0 0, I J 0], b A 30 [S f c.length g, I J p0.j_], W (af (aD) 71) m c [S f c.length g]]) (fun c f g m o => [(1, O (U ⟨u, 0, N⟩)), (2, O (U ⟨x, 0, N⟩)), (3, O (U ⟨A, 0, N⟩)), (4, I J o)]) (fun kk => fun c f g m o => fH p0 kk c o = U r) (fun _ _ _ _ _ H => ?_) (fun k1 b1 c f g m o H => ?_) bh (([] : List aR)) (N) (0) ([]) (0) (H)) (ss [0, 1, 2, 3] z z) (sb z)
 ·unfold fH at H
  exact absurd H (by simp)
 ·unfold fH at H
  refine ak <| sR <| aa [.p, .fa 30 0 0 cb] z <| o1 z (r1 0 0 z ef z) <| aa [.lenS 28 71 dZ, .p] z <| nQ <| cI H z (fun H => ?_) (fun H => ?_)
  ·refine aw <| az <| ak <| aB <| cW 9 [(0, y), (1, y), (2, y), (3, y), (4, y), (5, y), (6, y), (7, n), (8, n)] (St w s [b u 30 [S a9 p0.a_.length b0, I J p0.j_], b x 30 [S N 0 0, I J 0], b A 30 [S f c.length g, I J p0.j_], W (af (aD) 71) m c [S f c.length g]]) bT (by kernel_rfl) (bF (aV (fe (bF (aV be))))) (tk 4 z) <| aa [.fa 30 0 0 cb] z <| br z (ax z) (r1 0 2 z ef z) <| aa [.fa 30 0 0 cb] z <| br z (ax z) (r1 0 0 z ef z) <| oP z <| bE H fun d b2 H => cB z z z z z dZ cc z a8 b2 fun d8 d9 a4 a5 => ?_
   obtain ⟨e0, e1, e2, e3, e4, e5, e6, e7, e9, f0, rfl, b3, b4, C, b5, b6, b7, D, b8, b9, c1⟩ := bn a4
   obtain rfl := b3
   obtain rfl := b4
   obtain ⟨c2, c3, rfl⟩ := am C
   obtain rfl := b5
   obtain ⟨f1, f2, rfl, E, F⟩ := aL b6
   obtain ⟨c4, c5, rfl⟩ := am E
   obtain ⟨c6, c7, rfl⟩ := am F
   obtain rfl := b7
   obtain ⟨c8, c9, rfl⟩ := am D
   obtain rfl := b8
   obtain rfl := b9
   obtain rfl := c1
   refine br z (ax z) (cV (cs := [B d.s_, I J d.l_.g_, I J d.l_.c_, S c2 d.r_.length c3, I J d.w_, S c4 d.n_.e_.length c5, S c6 d.n_.d_.length c7, I J d.v_, S c8 d.b_.length c9, I J d.m_, I J d.o_, I J d.p_]) z z cc (co (fun _ h => h.ext) a5) z) <| bE H fun a d0 H => aq z AX z z z z (fun t k => ms t d0 (k.carve [] z z) (gU z z (ab C t k) z (aE (ab E t k) (ab F t k)) z (ab D t k) z z z)) fun f3 t w2 k a6 => ?_
   obtain ⟨G, f4, L, f5, M, f6, P, f7, Q, f8, R, f9, X, g1, Z, g2, rfl, l⟩ := a6
   obtain rfl := aH (i := 0) l z
   obtain rfl := aH (i := 1) l z
   obtain rfl := aH (i := 2) l z
   obtain rfl := aH (i := 3) l z
   refine ⟨St w s [_, _, _, _, _, _, _, _], k.comp [] z z l, (tk 4 z), ?_⟩
   refine qB z (fun t k => cz (x0 := a.s_) (x1 := a.l_.g_) (x2 := a.l_.c_) (x4 := a.w_) (x7 := a.v_) (x9 := a.m_) (x10 := a.o_) (x11 := a.p_) [4, 5, 6, 7] k z z) fun g3 => eU (C' := St w s [_, _, _, _, _, _, _, _, _]) z (fun _ h => h) <| il [(0, [B a.s_, I J a.l_.g_, I J a.l_.c_, S G a.r_.length L, I J a.w_, S M a.n_.e_.length P, S Q a.n_.d_.length R, I J a.v_, S X a.b_.length Z, I J a.m_, I J a.o_, I J a.p_])] z z z z z dZ cc z z ⟨z, z, nl z, Y⟩ [B a.s_, I J a.l_.g_, I J a.l_.c_, S G a.r_.length L, I J a.w_, S M a.n_.e_.length P, S Q a.n_.d_.length R, I J a.v_, S X a.b_.length Z, I J a.m_, I J a.o_, I J a.p_] z (fun _ => (tk 4 z)) fun g4 => eU z (fun _ h => tz (p := 9) (q := 8) h z z z) <| aJ <| iY <| bE H fun a1 d1 H => mz (r := 3) (j := 10) z z z z z z dZ cc z z z z z z z d1 (fun _ _ _ => kp) fun a2 a3 d2 => aa [.fa 30 0 0 cb] z <| sC 0 [S a2 a1.length a3] [_, _] 2 z ef z <| ay <| ca <| az <| CW.weak (C' := St w s [_, _, _, _]) ?_ (ss [0, 1, 2, 11] z z)
   exact aT <| aa [.p, .p, .p] z <| ay <| cQ (RW.at (b1 (a1) (a2) (a3) (d2) (J.wrap (o + 1)) (H)) (ss [0, 1, 2, 3] z z) (sb z))
  ·exact bH <| aN <| aS <| aM <| az <| sR <| o1 z (rx 0 2 _ z bv z) <| sC 0 [S f c.length g, I J p0.j_] [_, _] 1 z bv z <| nT <| aY (rs := [.cell 2 30]) (vs := [.agg #[S f c.length g, I J p0.j_]]) z ⟨⟨_, [S f c.length g, I J p0.j_], _, _, _, z, bv, (bl (T := 30) 0 (bK (i := 1) z) z), z, z⟩, Y⟩ (fun w' hw' => by
    obtain rfl := ai H
    exact ⟨_, z, f, c.length, g, m, z, hw'.sel [3] z z⟩)
theorem eX (w : World) {f : List Nat} {p0 : bd} {g : List Value} {r : bd} (H : eC p0 = U r) (HS : St w f [] w) (u : (iq).rd w f p0 g) :
    Calls Tryz.prog 140 #[.agg g.toArray] w (fun en w' => ∃ v, en = .returned v ∧ ∃ (j : Option Addr), ∃ (k : Nat), ∃ (c0 : Nat), ∃ (x : List Nat), v = .agg #[S j k c0, I J r.c_] ∧ St w f [W (af e8 5) x r.q_ [S j k c0]] w') := by
 obtain ⟨A, C, rfl, h, l⟩ := hY u
 obtain ⟨m, o, rfl⟩ := am h
 obtain rfl := l
 unfold eC at H
 exact aG Tryz.func140 z Tryz.ntmps140 z (HS) <| sR <| ob _ z fun p => aC z z z z bN (fun _ => kp) fun q => nQ <| ak <| cW 6 [(1, y), (2, y), (4, y), (5, y), (0, n), (3, n)] (St w f [b p 152 [S m p0.q_.length o, I J p0.c_], b q 152 [S N 0 0, I J 0]]) bT (by kernel_rfl) (aV be) (tk 2 z) <| aa [.fa 152 0 0 pH] z <| br z (ax z) (r1 0 0 z vv z) <| aa [.fa 152 1 1 oz] z <| br z (ax z) (r1 1 0 z ty3 z) <| bM (e := e8) z z z z lB ty5 (fun _ => (tk 2 z)) fun D => bE H fun a s H => bY (r := 2) (ys := p0.q_) z z z z z z lB ty5 z z z (ab h) s (fun _ _ _ => (tk 2 z)) fun c d t => aJ <| iY <| o1 z (bI [(0, [S c a.length d]), (1, [I J p0.c_])] [S c a.length d, I J p0.c_] z z bN AP z ⟨z, z, nl z, z, z, nl z, Y⟩ z) <| sC 0 [S c a.length d, I J p0.c_] [_, _] 1 z bN z <| nT <| aY (rs := [.cell 2 152]) (vs := [.agg #[S c a.length d, I J p0.c_]]) z ⟨⟨_, [S c a.length d, I J p0.c_], _, _, _, z, bN, (bl (T := 152) 0 (bK (i := 1) z) z), z, z⟩, Y⟩ (fun w' hw' => by
  obtain rfl := ai H
  exact ⟨_, z, c, a.length, d, t, z, hw'.sel [2] z z⟩)
theorem pR (w : World) {p0 : Bool} {r : Int} (H : nf p0 = U r)   :
    Calls Tryz.prog 193 #[B p0] w (fun en w' => en = .returned (I J r) ∧ Ext [] w w') := by
 unfold nf at H
 refine aG Tryz.func193 z Tryz.ntmps193 z (St.init w []) <| sR <| oP z <| nQ <| ak <| sR <| oP z <| nQ <| cI H z (fun H => ?_) (fun H => ?_)
 ·exact sR <| oP z <| nT <| ap <| xr 2 z (by cases H; exact q1)
 ·exact aw <| az <| sR <| oP z <| nT <| xr 2 z (by cases H; exact q1)
theorem nU (w : World) {p0 : ae} {p1 : ar} {p2 : Int} {g : List Value} {r : Int} (H : js p0 p1 p2 = U r) (g0 : (aX).rd w [] p0 g) :
    Calls Tryz.prog 183 #[.agg g.toArray, .agg #[I J p1.g_, I J p1.c_], I J p2] w (fun en w' => en = .returned (I J r) ∧ Ext [] w w') := by
 obtain ⟨a3, a4, rfl, d, h⟩ := aI g0
 obtain ⟨a5, a6, rfl⟩ := am d
 obtain ⟨a7, a8, rfl⟩ := am h
 unfold js at H
 refine aG Tryz.func183 z Tryz.ntmps183 z (St.init w []) <| sR <| ob _ z fun i => ob _ z fun j => oP z <| nQ <| ak <| sR <| o1 z (rx 0 0 _ z bU z) <| o1 z (rx 0 1 _ z cH z) <| bE H fun k u H => oq z (qc z vy (fun a c => fX a (p1 := p1) u (ah (ab d a c) (ab h a c)))) tt2 <| oPP z <| bE H fun v e H => aQ [(23, B v), (2, I J p2), (3, O (U ⟨i, 0, N⟩)), (4, O (U ⟨j, 0, N⟩))] 12 ?_ (fun key => OW.sub (R := [(2, I J p2), (3, O (U ⟨i, 0, N⟩)), (4, O (U ⟨j, 0, N⟩)), (11, B (!k))]) ?_ (sb z))
 ·refine nQ <| cI H z (fun H => ?_) (fun H => ?_)
  ·exact sR <| oP z <| nT <| ap <| xr 6 z (by cases H; exact q1)
  ·refine aw <| az <| ak <| sR <| aa [.fa 66 1 1 ly] z <| o1 z (r1 1 1 z ty3 z) <| oP z <| nQ <| cI H z (fun H => ?_) (fun H => ?_)
   ·exact sR <| oPP z <| nT <| ap <| xr 6 z (by cases H; exact q1)
   ·refine aw <| az <| ak <| sR <| aa [.fa 27 0 0 dq] z <| o1 z (r1 0 0 z iH z) <| aa [.fa 66 0 0 kf] z <| o1 z (r1 0 1 z ty3 z) <| bE H fun a9 x H => cB z z z z z iw dI z d x fun b0 b1 o q => ?_
    obtain ⟨b2, b3, b4, rfl, A, C, D⟩ := bW o
    obtain rfl := A
    obtain ⟨b5, b6, rfl⟩ := am C
    obtain ⟨b7, b8, rfl⟩ := am D
    refine aa [.fa 63 1 1 gx] z <| o1 z (aF z z cw (co bor (lk q 1 1))) <| aa [.lenS 31 3 aO, .p] z <| nQ <| cI H z (fun H => ?_) (fun H => ?_)
    ·exact sR <| aa [.p, .fa 66 1 1 ly] z <| o1 z (r1 1 1 z ty3 z) <| oP z <| bE H fun b9 E H => oq z (qc z AE (fun a c => pR a E)) tt2 <| oP z <| nT <| ap <| xr 6 z (by cases H; exact q1)
    ·exact aw <| az <| sR <| aa [.p, .fa 66 1 1 ly] z <| o1 z (r1 1 1 z ty3 z) <| oP z <| bE H fun c0 F H => oq z (qc z AE (fun a c => pR a F)) tt2 <| oP z <| nT <| xr 6 z (by cases H; exact q1)
 ·clear H
  have H := e
  clear e
  generalize (!k) = G at H key ⊢
  cases G
  ·have H := ba z H
   refine aa [.p, .fa 27 0 0 dq] z <| o1 z (r1 0 0 z iH z) <| aa [.fa 66 0 0 kf] z <| o1 z (r1 0 1 z ty3 z) <| bE H fun f L H => cB z z z z z iw dI z d L fun c1 c2 s t => ?_
   obtain ⟨c3, c4, c5, rfl, M, l, m⟩ := bW s
   obtain rfl := M
   obtain ⟨P, Q, rfl⟩ := am l
   obtain ⟨X, Z, rfl⟩ := am m
   refine o1 z (cV (cs := [vS f.x_, S P f.t_.length Q, S X f.y_.length Z]) z z dI (co bor t) z) <| bE H fun c6 a0 H => oq z (qc z uy (fun a c => gw a a0 (dd z (ab l a c) (ab m a c)))) tt2 <| oP z <| bE H fun c7 a1 H => oq z (qc z gK (fun a c => bf a a1)) tt2 <| oP z <| oP z <| ?_
   obtain rfl := ai H
   exact OW.sub key (sb z)
  ·have H := bb z H
   refine aa [.p, .p, .p, .p, .p, .p, .p, .p, .p, .p, .p, .p] z ?_
   obtain rfl := ai H
   exact OW.sub key (sb z)
theorem rM (w : World) {p : List Nat} {p0 : ae} {p1 : aj} {p2 : bw} {b1 : List Value} {b2 : List Value} {b3 : List Value} {r : List Int} (H : mA p0 p1 p2 = U r) (HS : St w p [] w) (g0 : (aX).rd w p p0 b1) (g1 : (cU).rd w p p1 b2) (g2 : (fD).rd w p p2 b3) :
    Calls Tryz.prog 169 #[.agg b1.toArray, .agg b2.toArray, .agg b3.toArray] w (fun en w' => ∃ v, en = .returned v ∧ ∃ (a0 : Option Addr), ∃ (n0 : Nat), ∃ (c0 : Nat), ∃ (F0 : List Nat), v = S a0 n0 c0 ∧ St w p [W (af eI 3) F0 r [S a0 n0 c0]] w') := by
 obtain ⟨l7, l8, rfl, b4, b5⟩ := aI g0
 obtain ⟨f4, f5, rfl⟩ := am b4
 obtain ⟨f6, f7, rfl⟩ := am b5
 obtain ⟨l9, m0, rfl, q, f8⟩ := cr g1
 obtain ⟨f9, g3, rfl⟩ := am q
 obtain rfl := f8
 obtain ⟨m1, m2, rfl, m, g4⟩ := jQ g2
 obtain ⟨g5, g6, rfl⟩ := am m
 obtain rfl := g4
 unfold mA at H
 refine aG Tryz.func169 z Tryz.ntmps169 z (HS) <| sR <| ob _ z fun b6 => ob _ z fun b7 => ob _ z fun b8 => oP z <| nR <| bM (e := eI) z z z z aO ty3 (fun _ => kp) fun b9 => oP z <| nR <| oP z <| nQ <| ak <| aB <| CW.at (iz (fun (d : List Int) (f : Option Addr) (g : Nat) (l : List Nat) (c : Int) => St w p [b b6 27 [S f4 p0.b_.length f5, S f6 p0.k_.length f7], b b7 30 [S f9 p1.a_.length g3, I J p1.j_], b b8 33 [S g5 p2.u_.length g6, I J p2.z_], W (af eI 3) l d [S f d.length g]]) (fun d f g l c => [(3, O (U ⟨b6, 0, N⟩)), (4, O (U ⟨b7, 0, N⟩)), (5, O (U ⟨b8, 0, N⟩)), (7, S f d.length g), (8, I J c)]) (fun kk => fun d f g l c => f.isNone = n ∧ fI p1 p2 p0 kk d c = U r) (fun _ _ _ _ _ H => ?_) (fun k1 s d f g l c ⟨g7, H⟩ => ?_) bh (([] : List Int)) ((U ⟨b9, 0, N⟩)) (0) ([b9]) (0) (⟨z, H⟩)) (ss [0, 1, 2, 3] z z) (sb z)
 ·unfold fI at H
  exact absurd H (by simp)
 ·unfold fI at H
  refine ak <| sR <| aa [.fa 30 0 0 cb] z <| o1 z (r1 0 1 z ef z) <| oP z <| bE H fun h4 c1 H => cB z z z z z dZ cc z q c1 fun h5 h6 a7 a8 => ?_
  obtain ⟨h7, h8, h9, i0, i1, i2, i3, i4, i5, i6, rfl, c2, c3, c4, c5, c6, c7, c8, c9, d0, d1⟩ := bn a7
  obtain rfl := c2
  obtain rfl := c3
  obtain ⟨i7, i8, rfl⟩ := am c4
  obtain rfl := c5
  obtain ⟨i9, j0, rfl, d2, d3⟩ := aL c6
  obtain ⟨j1, j2, rfl⟩ := am d2
  obtain ⟨j3, j4, rfl⟩ := am d3
  obtain rfl := c7
  obtain ⟨j5, j6, rfl⟩ := am c8
  obtain rfl := c9
  obtain rfl := d0
  obtain rfl := d1
  refine aa [.fa 71 0 0 ls] z <| o1 z (aF z z ty4 (co bor (lk a8 0 1))) <| oP z <| nQ <| cI H z (fun H => ?_) (fun H => ?_)
  ·refine aw <| az <| aB <| sR <| oPP z <| bA (val := I J) (h1 := fun _ => z) [c] [(0, [I J c])] z z z z z aO ty3 z z z ⟨z, z, nl z, Y⟩ z z (fun _ => kp) fun j7 => bE H fun t u H => bY (r := 3) (ys := ([c] : List Int)) z z z z z z aO ty3 z z z (au (e := af eI 3) (r := 4) z) u (fun _ _ _ => kp) fun x A C => cg z (fun D k => eD (i := 3) k z (eG u)) fun o => oP z <| nR <| aa [.fa 30 0 0 cb] z <| o1 z (r1 0 1 z ef z) <| oP z <| bE H fun a d4 H => cB z z z z z dZ cc z q d4 fun j8 j9 a9 b0 => ?_
   obtain ⟨k0, k2, k3, k4, k5, k6, k7, k8, k9, l0, rfl, d5, d6, h, d7, d8, d9, e0, e1, e2, e3⟩ := bn a9
   obtain rfl := d5
   obtain rfl := d6
   obtain ⟨E, F, rfl⟩ := am h
   obtain rfl := d7
   obtain ⟨l1, l2, rfl, e4, e5⟩ := aL d8
   obtain ⟨G, L, rfl⟩ := am e4
   obtain ⟨M, P, rfl⟩ := am e5
   obtain rfl := d9
   obtain ⟨Q, R, rfl⟩ := am e0
   obtain rfl := e1
   obtain rfl := e2
   obtain rfl := e3
   refine o1 z (cV (cs := [B a.s_, I J a.l_.g_, I J a.l_.c_, S E a.r_.length F, I J a.w_, S G a.n_.e_.length L, S M a.n_.d_.length P, I J a.v_, S Q a.b_.length R, I J a.m_, I J a.o_, I J a.p_]) z z cc (co bor b0) z) <| aC z z z z cc (fun _ => kp) fun l3 => sC 0 [B a.s_, I J a.l_.g_, I J a.l_.c_, S E a.r_.length F, I J a.w_, S G a.n_.e_.length L, S M a.n_.d_.length P, I J a.v_, S Q a.b_.length R, I J a.m_, I J a.o_, I J a.p_] [_, _, _, _, _, _, _, _, _, _, _, _] 5 z cc z <| nR <| aa [.fa 71 3 4 qn] z <| o1 z (r1 4 5 z ty3 z) <| oP z <| nQ <| ak <| sR <| aa [.fa 33 0 0 mO] z <| o1 z (r1 0 2 z cw z) <| aa [.fa 71 1 1 mL, .fa 66 0 0 kf] z <| o1 z (r1 1 5 z ty3 z) <| bE H fun l4 X H => bq (e := eI) (xs := p2.u_) (j := a.l_.g_) z z z z z aO ty3 z (ab m) X (by rw [Nat.mul_one]) <| o1 z (aF z z ty3 (bC (ab m) X)) <| oP z <| nQ <| cI H z (fun H => ?_) (fun H => ?_)
   ·exact dJ bT (by kernel_rfl) <| o1 z (rx 0 0 _ z bU z) <| aa [.fa 71 1 1 mL] z <| o1 z (rx 1 5 _ z cH z) <| aa [.fa 33 0 0 mO] z <| o1 z (r1 0 2 z cw z) <| aa [.fa 71 1 1 mL, .fa 66 0 0 kf] z <| o1 z (r1 1 5 z ty3 z) <| bE H fun l5 Z H => bq (e := eI) (xs := p2.u_) (j := a.l_.g_) z z z z z aO ty3 z (ab m) Z (by rw [Nat.mul_one]) <| o1 z (aF z z ty3 (bC (ab m) Z)) <| bE H fun e6 e7 H => oq z (qc z Bb (fun D k => nU D (p1 := a.l_) e7 (ah (ab b4 D k) (ab b5 D k)))) tt2 <| oP z <| cx <| az <| aT <| aa [.fa 71 2 3 gV] z <| o1 z (r1 3 5 z cw z) <| oP z <| bE H fun e9 a1 H => bq (e := eI) (xs := a.r_) (j := e6) z z z z z aO ty3 z (ab h) a1 (by rw [Nat.mul_one]) <| o1 z (aF z z ty3 (bC (ab h) a1)) <| oP z <| ay <| ca <| cQ (RW.at (s (t) (x) (A) (C) (e9) (⟨o, H⟩)) (ss [0, 1, 2, 3] z z) (sb z))
   ·exact aw <| az <| aT <| aa [.fa 71 2 3 gV] z <| o1 z (r1 3 5 z cw z) <| oP z <| bE H fun f0 a2 H => bq (e := eI) (xs := a.r_) (j := a.w_) z z z z z aO ty3 z (ab h) a2 (by rw [Nat.mul_one]) <| o1 z (aF z z ty3 (bC (ab h) a2)) <| oP z <| ay <| ca <| cQ (RW.at (s (t) (x) (A) (C) (f0) (⟨o, H⟩)) (ss [0, 1, 2, 3] z z) (sb z))
  ·exact bH <| aN <| aS <| aM <| az <| sR <| oPP z <| bA (val := I J) (h1 := fun _ => z) [c] [(0, [I J c])] z z z z z aO ty3 z z z ⟨z, z, nl z, Y⟩ z z (fun _ => kp) fun l6 => bE H fun a3 a4 H => bY (r := 3) (ys := ([c] : List Int)) z z z z z z aO ty3 z z z (au (e := af eI 3) (r := 4) z) a4 (fun _ _ _ => kp) fun a5 a6 f1 => cg z (fun D k => eD (i := 3) k z (eG a4)) fun g8 => oP z <| nT <| aY (rs := [.tmp 6]) (vs := [S a5 a3.length a6]) z ⟨z, Y⟩ (fun w' hw' => by
    obtain rfl := ai H
    exact ⟨_, z, a5, a3.length, a6, f1, z, hw'.sel [3] z z⟩)
theorem sP (w : World) {g : List Nat} {p0 : ae} {p1 : aj} {p2 : bw} {o : List Value} {q : List Value} {s : List Value} {r : List Int} (H : nt p0 p1 p2 = U r) (HS : St w g [] w) (g0 : (aX).rd w g p0 o) (g1 : (cU).rd w g p1 q) (g2 : (fD).rd w g p2 s) :
    Calls Tryz.prog 155 #[.agg o.toArray, .agg q.toArray, .agg s.toArray] w (fun en w' => ∃ v, en = .returned v ∧ ∃ (G : Option Addr), ∃ (L : Nat), ∃ (c0 : Nat), ∃ (F0 : List Nat), v = S G L c0 ∧ St w g [W (af eI 3) F0 r [S G L c0]] w') := by
 obtain ⟨a8, a9, rfl, d, f⟩ := aI g0
 obtain ⟨b0, b1, rfl⟩ := am d
 obtain ⟨b2, b3, rfl⟩ := am f
 obtain ⟨b4, b5, rfl, h, M⟩ := cr g1
 obtain ⟨b6, b7, rfl⟩ := am h
 obtain rfl := M
 obtain ⟨b8, b9, rfl, j, P⟩ := jQ g2
 obtain ⟨c1, c2, rfl⟩ := am j
 obtain rfl := P
 unfold nt at H
 refine aG Tryz.func155 z Tryz.ntmps155 z (HS) <| sR <| ob _ z fun t => ob _ z fun u => ob _ z fun x => oP z <| nQ <| ak <| sR <| o1 z (rx 0 0 _ z bU z) <| o1 z (rx 0 1 _ z bv z) <| bE H fun A Q H => oq z (qc z fn8 (fun c a => iN c Q (ah (ab d c a) (ab f c a)) (aU (ab h c a) z))) tt2 <| oPP z <| bE H fun X k H => aQ [(16, B X), (3, O (U ⟨t, 0, N⟩)), (4, O (U ⟨u, 0, N⟩)), (5, O (U ⟨x, 0, N⟩))] 5 ?_ (fun key => OW.sub (R := [(3, O (U ⟨t, 0, N⟩)), (4, O (U ⟨u, 0, N⟩)), (5, O (U ⟨x, 0, N⟩)), (11, B (!A))]) ?_ (sb z))
 ·refine nQ <| cI H z (fun H => ?_) (fun H => ?_)
  ·exact sR <| bM (e := eI) z z z z aO ty3 (fun _ => kp) fun l => oP z <| nT <| ap <| aY (rs := [.tmp 6]) (vs := [S (U ⟨l, 0, N⟩) 0 0]) z ⟨z, Y⟩ (fun w' hw' => by
    obtain rfl := ai H
    exact ⟨_, z, (U ⟨l, 0, N⟩), 0, 0, [l], z, hw'.sel [3] z z⟩)
  ·refine aw <| az <| sR <| o1 z (rx 0 0 _ z bU z) <| o1 z (rx 0 1 _ z bv z) <| o1 z (rx 0 2 _ z lI z) <| bE H fun C Z H => aq z BX z z z z (fun c a => rM c Z (a.carve [] z z) (ah (ab d c a) (ab f c a)) (aU (ab h c a) z) (bX (ab j c a) z)) fun c3 c w2 a F => ?_
   obtain ⟨D, c4, E, a1, rfl, m⟩ := F
   obtain rfl := aH (i := 0) m z
   refine ⟨St w g [_, _, _, _], a.comp [] z z m, fun _ _ => Y, ?_⟩
   exact oP z <| nT <| aY (rs := [.tmp 6]) (vs := [S D C.length E]) z ⟨z, Y⟩ (fun w' hw' => by
    obtain rfl := ai H
    exact ⟨_, z, D, C.length, E, a1, z, hw'.sel [3] z z⟩)
 ·clear H
  have H := k
  clear k
  generalize (!A) = a2 at H key ⊢
  cases a2
  ·have H := ba z H
   refine o1 z (rx 0 0 _ z bU z) <| o1 z (rx 0 2 _ z lI z) <| bE H fun c5 a3 H => oq z (qc z BQ (fun c a => oe c a3 (ah (ab d c a) (ab f c a)) (bX (ab j c a) z))) tt2 <| oP z <| oP z <| ?_
   obtain rfl := ai H
   exact OW.sub key (sb z)
  ·have H := bb z H
   refine aa [.p, .p, .p, .p, .p] z ?_
   obtain rfl := ai H
   exact OW.sub key (sb z)
theorem rW (w : World) {p0 : ae} {p1 : aj} {p2 : bw} {f : List Value} {g : List Value} {h : List Value} {r : Int} (H : lw p0 p1 p2 = U r) (A : (aX).rd w [] p0 f) (C : (cU).rd w [] p1 g) (D : (fD).rd w [] p2 h) :
    Calls Tryz.prog 141 #[.agg f.toArray, .agg g.toArray, .agg h.toArray] w (fun en w' => en = .returned (I J r) ∧ Ext [] w w') := by
 obtain ⟨E, F, rfl, k, l⟩ := aI A
 obtain ⟨G, L, rfl⟩ := am k
 obtain ⟨M, P, rfl⟩ := am l
 obtain ⟨Q, R, rfl, m, u⟩ := cr C
 obtain ⟨X, Z, rfl⟩ := am m
 obtain rfl := u
 obtain ⟨a0, a1, rfl, o, v⟩ := jQ D
 obtain ⟨a2, a3, rfl⟩ := am o
 obtain rfl := v
 unfold lw at H
 refine aG Tryz.func141 z Tryz.ntmps141 z (St.init w []) <| sR <| ob _ z fun a4 => ob _ z fun a5 => ob _ z fun a6 => oP z <| nR <| o1 z (rx 0 0 _ z bU z) <| o1 z (rx 0 1 _ z bv z) <| o1 z (rx 0 2 _ z lI z) <| bE H fun q x H => aq z CZ z z z z (fun c a => sP c x (a.carve [] z z) (ah (ab k c a) (ab l c a)) (aU (ab m c a) z) (bX (ab o c a) z)) fun a7 c w2 a t => ?_
 obtain ⟨a8, a9, b0, b1, rfl, d⟩ := t
 obtain rfl := aH (i := 0) d z
 refine ⟨St w [] [_, _, _, _], a.comp [] z z d, fun _ _ => Y, ?_⟩
 refine oP z <| nQ <| ak <| sR <| aa [.p, .lenS 31 3 aO, .p] z <| nQ <| cI H z (fun H => ?_) (fun H => ?_)
 ·exact sR <| oP z <| nT <| ap <| xr 6 z (by cases H; exact q1)
 ·exact aw <| az <| sR <| aa [.p, .p, .lenS 31 3 aO, .p] z <| bE H fun b2 s H => bq (e := eI) (xs := q) (j := J.wrap ((q.length : Int) - 1)) z z z z z aO ty3 z (au (e := af eI 3) (r := 3) z) s (by rw [Nat.mul_one]) <| o1 z (aF z z ty3 (bC (au (e := af eI 3) (r := 3) z) s)) <| oP z <| nT <| xr 6 z (by cases H; exact q1)
theorem jT (w : World) {C : List Nat} {p0 : ae} {p1 : av} {p2 : bw} {p3 : Int} {b5 : List Value} {b6 : List Value} {b7 : List Value} {r : av × Bool} (H : gD p0 p1 p2 p3 = U r) (HS : St w C [] w) (g0 : (aX).rd w C p0 b5) (g1 : (cn).rd w C p1 b6) (g2 : (fD).rd w C p2 b7) :
    Calls Tryz.prog 127 #[.agg b5.toArray, .agg b6.toArray, .agg b7.toArray, I J p3] w (fun en w' => ∃ v, en = .returned v ∧ ∃ (a0 : Option Addr), ∃ (n0 : Nat), ∃ (c0 : Nat), ∃ (F0 : List Nat), ∃ (a1 : Option Addr), ∃ (n1 : Nat), ∃ (c1 : Nat), ∃ (F1 : List Nat), v = .tuple #[.agg #[S a0 n0 c0, S a1 n1 c1], B r.2] ∧ St w C [W (af eI 3) F0 r.1.e_ [S a0 n0 c0], W (af (af eI 3) 31) F1 r.1.d_ [S a1 n1 c1]] w') := by
 obtain ⟨g8, g9, rfl, Z, a2⟩ := aI g0
 obtain ⟨d4, d5, rfl⟩ := am Z
 obtain ⟨d6, d7, rfl⟩ := am a2
 obtain ⟨h0, h1, rfl, a3, a4⟩ := aL g1
 obtain ⟨h2, h3, rfl⟩ := am a3
 obtain ⟨h4, h5, rfl⟩ := am a4
 obtain ⟨h6, h7, rfl, D, d8⟩ := jQ g2
 obtain ⟨d9, e0, rfl⟩ := am D
 obtain rfl := d8
 unfold gD at H
 refine aG Tryz.func127 z Tryz.ntmps127 z (HS) <| sR <| ob _ z fun o => ob _ z fun x => ob _ z fun s => aC z z z z cP (fun _ => kp) fun t => oP z <| nR <| o1 z (rx 0 1 _ z cP z) <| bE H fun c e1 H => aq z AU z z z z (fun d a => pp d e1 (a.carve [] z z) (aE (ab a3 d a) (ab a4 d a))) fun h8 d w2 a c5 => ?_
 obtain ⟨g, h9, k, a5, l, i0, m, b8, rfl, P⟩ := c5
 obtain rfl := aH (i := 0) P z
 obtain rfl := aH (i := 1) P z
 refine ⟨St w C [_, _, _, _, _, _], a.comp [] z z P, fun _ _ => Y, ?_⟩
 refine aC z z z z cP (fun _ => kp) fun u => sC 0 [S g c.e_.length k, S l c.d_.length m] [_, _] 6 z cP z <| nQ <| ak <| sR <| o1 z (rx 0 0 _ z bU z) <| o1 z (rx 0 1 _ z cP z) <| bE H fun b9 e2 H => oq z (qc z uR (fun d a => fc d e2 (ah (ab Z d a) (ab a2 d a)) (aE (ab a3 d a) (ab a4 d a)))) tt2 <| oPP z <| bE H fun E a6 H => aQ [(24, B E), (3, I J p3), (4, O (U ⟨o, 0, N⟩)), (5, O (U ⟨x, 0, N⟩)), (6, O (U ⟨s, 0, N⟩)), (8, O (U ⟨t, 0, N⟩)), (10, O (U ⟨u, 0, N⟩))] 5 ?_ (fun key => OW.sub (R := [(3, I J p3), (4, O (U ⟨o, 0, N⟩)), (5, O (U ⟨x, 0, N⟩)), (6, O (U ⟨s, 0, N⟩)), (8, O (U ⟨t, 0, N⟩)), (10, O (U ⟨u, 0, N⟩)), (19, B (!b9))]) ?_ (sb z))
 ·refine oP z <| aQ [(29, B (E || (decide (p2.z_ < 0)))), (3, I J p3), (4, O (U ⟨o, 0, N⟩)), (5, O (U ⟨x, 0, N⟩)), (6, O (U ⟨s, 0, N⟩)), (8, O (U ⟨t, 0, N⟩)), (10, O (U ⟨u, 0, N⟩))] 4 ?_ (fun key => OW.sub (R := [(3, I J p3), (4, O (U ⟨o, 0, N⟩)), (5, O (U ⟨x, 0, N⟩)), (6, O (U ⟨s, 0, N⟩)), (8, O (U ⟨t, 0, N⟩)), (10, O (U ⟨u, 0, N⟩)), (25, B E)]) ?_ (sb z))
  ·refine oP z <| bE H fun a7 a8 H => aQ [(34, B a7), (3, I J p3), (4, O (U ⟨o, 0, N⟩)), (5, O (U ⟨x, 0, N⟩)), (6, O (U ⟨s, 0, N⟩)), (8, O (U ⟨t, 0, N⟩)), (10, O (U ⟨u, 0, N⟩))] 4 ?_ (fun key => OW.sub (R := [(3, I J p3), (4, O (U ⟨o, 0, N⟩)), (5, O (U ⟨x, 0, N⟩)), (6, O (U ⟨s, 0, N⟩)), (8, O (U ⟨t, 0, N⟩)), (10, O (U ⟨u, 0, N⟩)), (30, B (E || (decide (p2.z_ < 0))))]) ?_ (sb z))
   ·refine oP z <| bE H fun e3 a9 H => aQ [(42, B e3), (3, I J p3), (4, O (U ⟨o, 0, N⟩)), (6, O (U ⟨s, 0, N⟩)), (8, O (U ⟨t, 0, N⟩)), (10, O (U ⟨u, 0, N⟩))] 7 ?_ (fun key => OW.sub (R := [(3, I J p3), (4, O (U ⟨o, 0, N⟩)), (5, O (U ⟨x, 0, N⟩)), (6, O (U ⟨s, 0, N⟩)), (8, O (U ⟨t, 0, N⟩)), (10, O (U ⟨u, 0, N⟩)), (35, B a7)]) ?_ (sb z))
    ·refine nQ <| cI H z (fun H => ?_) (fun H => ?_)
     ·exact sR <| o1 z (rx 0 6 _ z cP z) <| sC 0 [S g c.e_.length k, S l c.d_.length m] [_, _] 3 z cP z <| oP z <| nT <| ap <| aY (rs := [.cell 8 69, .tmp 9]) (vs := [.agg #[S g c.e_.length k, S l c.d_.length m], B n]) z ⟨⟨_, [S g c.e_.length k, S l c.d_.length m], _, _, _, z, cP, (bl (T := 69) 0 (bK (i := 3) z) z), z, z⟩, z, Y⟩ (fun w' hw' => by
       obtain rfl := ai H
       exact ⟨_, z, g, c.e_.length, k, a5, l, c.d_.length, m, b8, z, hw'.sel [4, 5] z z⟩)
     ·refine aw <| az <| ak <| oa 13 bT (by kernel_rfl) <| aa [.fa 69 0 0 hG] z <| o1 z (r1 0 6 z cw z) <| aa [.fa 33 1 1 oY] z <| o1 z (r1 1 2 z ty3 z) <| aa [.fa 69 0 0 hG] z <| o1 z (r1 0 6 z cw z) <| aa [.fa 33 1 1 oY] z <| o1 z (r1 1 2 z ty3 z) <| bE H fun c2 c3 H => bq (e := eI) (xs := c.e_) (j := p2.z_) z z z z z aO ty3 z (au (e := af eI 3) (r := 4) z) c3 (by rw [Nat.mul_one]) <| o1 z (aF z z ty3 (bC (au (e := af eI 3) (r := 4) z) c3)) <| oPP z <| bE H fun i1 c4 H => bq (e := eI) (xs := c.e_) (j := p2.z_) z z z z z aO ty3 z (au (e := af eI 3) (r := 4) z) c4 (by rw [Nat.mul_one]) <| cx <| jK (i := 4) (j := p2.z_) z z z z z z ty3 z c4 (fun _ => z) kp <| nQ <| ak <| sR <| oP z <| nQ <| aB <| CW.at (yN (fun (A : List (List Int)) (F : List Nat) (f : Int) => St w C [b u 69 [S g c.e_.length k, S l c.d_.length m], W (af eI 3) a5 (c.e_.set p2.z_.toNat (J.wrap (c2 + p3))) [S g c.e_.length k], W (af (af eI 3) 31) F A [S l c.d_.length m], b o 27 [S d4 p0.b_.length d5, S d6 p0.k_.length d7], b s 33 [S d9 p2.u_.length e0, I J p2.z_], b t 69 [S N 0 0, S N 0 0]]) (fun A F f => [(3, I J p3), (4, O (U ⟨o, 0, N⟩)), (6, O (U ⟨s, 0, N⟩)), (8, O (U ⟨t, 0, N⟩)), (10, O (U ⟨u, 0, N⟩)), (11, I J f)]) (fun kk => fun A F f => ez c p2 p0 p3 c2 kk A f = U r) (fun _ _ _ H => ?_) (fun k1 b0 A F f H => ?_) bh (c.d_) (b8) (0) (H)) (ss [6, 4, 5, 0, 2, 3] z z) (sb z)
      ·unfold ez at H
       exact absurd H (by simp)
      ·unfold ez at H
       refine ak <| sR <| aa [.p, .fa 69 1 1 dL] z <| o1 z (r1 1 0 z jm z) <| aa [.lenS 67 31 gL, .p] z <| nQ <| cI H z (fun H => ?_) (fun H => ?_)
       ·refine aw <| az <| ak <| aB <| sR <| aa [.fa 33 0 0 mO] z <| o1 z (r1 0 4 z cw z) <| oP z <| bE H fun f7 b1 H => bq (e := eI) (xs := p2.u_) (j := f) z z z z z aO ty3 z (ab D) b1 (by rw [Nat.mul_one]) <| o1 z (aF z z ty3 (bC (ab D) b1)) <| oP z <| nQ <| cI H z (fun H => ?_) (fun H => ?_)
        ·refine ak <| dJ bT (by kernel_rfl) <| aa [.fa 33 0 0 mO] z <| o1 z (r1 0 4 z cw z) <| oP z <| bE H fun G b2 H => bq (e := eI) (xs := p2.u_) (j := f) z z z z z aO ty3 z (ab D) b2 (by rw [Nat.mul_one]) <| o1 z (aF z z ty3 (bC (ab D) b2)) <| aa [.fa 27 1 1 fZ] z <| o1 z (r1 1 3 z ja z) <| aa [.lenS 25 9 ek, .p, .fa 33 1 1 oY] z <| o1 z (r1 1 4 z ty3 z) <| oPP z <| cx <| az <| bE H fun Q X H => qZ (fun d a => foc (r := 2) a z X) fun f8 f9 g3 g4 => ky (fun d a => a.1) fun c6 => ?_
         obtain ⟨L, M⟩ := c6
         refine CW.weak (C' := St w C [_, _, _, _, _, _, _, _]) ?_ (fun d a => a.2)
         refine wd (fun d a => wh (i := 7) a z) fun g5 g6 => ky (fun d a => a.1) fun c7 => ?_
         subst c7
         refine CW.weak (C' := St w C [_, _, _, _, _, _, _, _]) ?_ (fun d a => a.2)
         exact oa 17 bT (by kernel_rfl) <| aa [.fa 69 1 1 dL] z <| o1 z (r1 1 0 z jm z) <| oP z <| ii z z z z z gL cw z (gp (p := 6) z) M L (dg X).1 <| o1 z (nC 6 0 z z z cw (by first | rfl | simp only [dG, eg, dD]) z) <| aa [.p, .fa 69 1 1 dL] z <| o1 z (r1 1 0 z jm z) <| oP z <| ii z z z z z gL cw z (gp (p := 6) z) M L (dg X).1 <| o1 z (nC 6 0 z z z cw (by first | rfl | simp only [dG, eg, dD]) z) <| oP z <| bE H fun c8 b3 H => bq (e := eI) (xs := Q) (j := J.wrap ((J.wrap (G * (p0.k_.length : Int))) + p2.z_)) z z z z z aO ty3 z (au (e := af eI 3) (r := 7) z) b3 (by rw [Nat.mul_one]) <| o1 z (aF z z ty3 (bC (au (e := af eI 3) (r := 7) z) b3)) <| oPP z <| bE H fun g7 b4 H => bq (e := eI) (xs := Q) (j := J.wrap ((J.wrap (G * (p0.k_.length : Int))) + p2.z_)) z z z z z aO ty3 z (au (e := af eI 3) (r := 7) z) b4 (by rw [Nat.mul_one]) <| cx <| jK (i := 7) (j := J.wrap ((J.wrap (G * (p0.k_.length : Int))) + p2.z_)) z z z z z z ty3 z b4 (fun _ => z) kp <| ay <| ca <| az <| aT <| aa [.p, .p, .p] z <| ay <| gW (fun d a => unf (p := 6) (q := 7) a z z z M L) fun c9 => fo (C' := St w C [_, _, _, _, _, _, _, _, _]) (fun _ h => h) <| cQ (RW.at (b0 ((A.set f.toNat (Q.set (J.wrap ((J.wrap (G * (p0.k_.length : Int))) + p2.z_)).toNat (J.wrap (c8 + p3))))) (c9) (J.wrap (f + 1)) (H)) (ss [0, 1, 8, 3, 4, 5] z z) (sb z))
        ·exact aw <| ca <| az <| aT <| aa [.p, .p, .p] z <| ay <| cQ (RW.at (b0 (A) (F) (J.wrap (f + 1)) (H)) (ss [0, 1, 2, 3, 4, 5] z z) (sb z))
       ·exact bH <| aN <| aS <| aM <| az <| sR <| o1 z (rx 0 0 _ z cP z) <| sC 0 [S g c.e_.length k, S l c.d_.length m] [_, _] 5 z cP z <| oP z <| nT <| aY (rs := [.cell 8 69, .tmp 9]) (vs := [.agg #[S g c.e_.length k, S l c.d_.length m], B y]) z ⟨⟨_, [S g c.e_.length k, S l c.d_.length m], _, _, _, z, cP, (bl (T := 69) 0 (bK (i := 5) z) z), z, z⟩, z, Y⟩ (fun w' hw' => by
         obtain rfl := ai H
         exact ⟨_, z, g, c.e_.length, k, a5, l, c.d_.length, m, F, z, hw'.sel [1, 2] z z⟩)
    ·clear H
     have H := a9
     clear a9
     generalize a7 = e4 at H key ⊢
     cases e4
     ·have H := ba z H
      refine o1 z (rx 0 0 _ z bU z) <| o1 z (rx 0 1 _ z cP z) <| bE H fun i2 e5 H => oq z (qc z ym (fun d a => gZ d e5 (ah (ab Z d a) (ab a2 d a)) (aE (ab a3 d a) (ab a4 d a)))) tt2 <| aa [.p, .p, .p] z <| oP z <| ?_
      obtain rfl := ai H
      exact OW.sub key (sb z)
     ·have H := bb z H
      refine aa [.p, .p, .p, .p, .p, .p, .p] z ?_
      obtain rfl := ai H
      exact OW.sub key (sb z)
   ·clear H
    have H := a8
    clear a8
    generalize (E || (decide (p2.z_ < 0))) = e6 at H key ⊢
    cases e6
    ·have H := ba z H
     refine oP z <| bE H fun i3 e7 H => oq z (qc z gK (fun d a => bf d e7)) tt2 <| oP z <| oP z <| ?_
     obtain rfl := ai H
     exact OW.sub key (sb z)
    ·have H := bb z H
     refine aa [.p, .p, .p, .p] z ?_
     obtain rfl := ai H
     exact OW.sub key (sb z)
  ·generalize E = e9 at key ⊢
   cases e9
   ·exact aa [.fa 33 1 1 oY] z <| o1 z (r1 1 2 z ty3 z) <| oP z <| oP z <| OW.sub key (sb z)
   ·exact aa [.p, .p, .p, .p] z <| OW.sub key (sb z)
 ·clear H
  have H := a6
  clear a6
  generalize (!b9) = f0 at H key ⊢
  cases f0
  ·have H := ba z H
   refine o1 z (rx 0 0 _ z bU z) <| o1 z (rx 0 2 _ z lI z) <| bE H fun i4 f1 H => oq z (qc z BQ (fun d a => oe d f1 (ah (ab Z d a) (ab a2 d a)) (bX (ab D d a) z))) tt2 <| oP z <| oP z <| ?_
   obtain rfl := ai H
   exact OW.sub key (sb z)
  ·have H := bb z H
   refine aa [.p, .p, .p, .p, .p] z ?_
   obtain rfl := ai H
   exact OW.sub key (sb z)
theorem qk (w : World) {A : List Nat} {p0 : ae} {p1 : List Int} {p2 : Bool} {b4 : List Value} {a_1 : Option Addr} {n_1 c_1 : Nat} {r : List ar} (H : jl p0 p1 p2 = U r) (HS : St w A [] w) (g0 : (aX).rd w A p0 b4) (C : (af eI 3).rd w A p1 [S a_1 n_1 c_1]) :
    Calls Tryz.prog 194 #[.agg b4.toArray, S a_1 n_1 c_1, B p2] w (fun en w' => ∃ v, en = .returned v ∧ ∃ (a0 : Option Addr), ∃ (n0 : Nat), ∃ (c0 : Nat), ∃ (F0 : List Nat), v = S a0 n0 c0 ∧ St w A [W (af (bz) 66) F0 r [S a0 n0 c0]] w') := by
 obtain ⟨e9, f0, rfl, F, X⟩ := aI g0
 obtain ⟨G, L, rfl⟩ := am F
 obtain ⟨M, P, rfl⟩ := am X
 obtain rfl := ee C
 unfold jl at H
 refine aG Tryz.func194 z Tryz.ntmps194 z (HS) <| sR <| ob _ z fun x => oP z <| nR <| bM (e := bz) z z z z mE cH (fun _ => kp) fun D => oP z <| nQ <| ak <| sR <| o1 z (rx 0 0 _ z bU z) <| oP z <| bE H fun f1 d3 H => oq z (qc z xE (fun u k => im u d3 (ah (ab F u k) (ab X u k)) (ab C u k))) tt2 <| oP z <| nQ <| cI H z (fun H => ?_) (fun H => ?_)
 ·exact sR <| oPP z <| nT <| ap <| aY (rs := [.tmp 6]) (vs := [S (U ⟨D, 0, N⟩) 0 0]) z ⟨z, Y⟩ (fun w' hw' => by
   obtain rfl := ai H
   exact ⟨_, z, (U ⟨D, 0, N⟩), 0, 0, [D], z, hw'.sel [1] z z⟩)
 ·refine aw <| az <| ak <| sR <| oP z <| nQ <| aB <| CW.at (iz (fun (c : List ar) (f : Option Addr) (g : Nat) (q : List Nat) (d : Int) => St w A [b x 27 [S G p0.b_.length L, S M p0.k_.length P], W (af (bz) 66) q c [S f c.length g]]) (fun c f g q d => [(1, S a_1 p1.length c_1), (2, B p2), (3, O (U ⟨x, 0, N⟩)), (7, S f c.length g), (8, I J d)]) (fun kk => fun c f g q d => f.isNone = n ∧ de p1 p0 p2 kk c d = U r) (fun _ _ _ _ _ H => ?_) (fun k1 Z c f g q d ⟨a9, H⟩ => ?_) bh (([] : List ar)) ((U ⟨D, 0, N⟩)) (0) ([D]) (0) (⟨z, H⟩)) (ss [0, 1] z z) (sb z)
  ·unfold de at H
   exact absurd H (by simp)
  ·unfold de at H
   refine ak <| sR <| aa [.p, .p, .lenS 31 3 aO, .p] z <| nQ <| cI H z (fun H => ?_) (fun H => ?_)
   ·refine aw <| az <| ak <| aB <| ak <| ak <| dJ bT (by kernel_rfl) <| aa [.fa 27 0 0 dq] z <| o1 z (r1 0 0 z iH z) <| oPP z <| bE H fun d7 a1 H => bq (e := eI) (xs := p1) (j := d) z z z z z aO ty3 z (ab C) a1 (by rw [Nat.mul_one]) <| o1 z (aF z z ty3 (bC (ab C) a1)) <| bE H fun E b5 H => cB z z z z z iw dI z F b5 fun d8 d9 b0 b1 => ?_
    obtain ⟨e0, e1, e2, rfl, b6, b7, b8⟩ := bW b0
    obtain rfl := b6
    obtain ⟨e3, e4, rfl⟩ := am b7
    obtain ⟨e5, e6, rfl⟩ := am b8
    refine aa [.fa 63 1 1 gx] z <| o1 z (aF z z cw (co bor (lk b1 1 1))) <| aa [.lenS 31 3 aO, .p, .p] z <| aQ [(37, B (((E.t_.length : Int) == 0) && (!p2))), (1, S a_1 p1.length c_1), (2, B p2), (3, O (U ⟨x, 0, N⟩)), (7, S f c.length g), (8, I J d)] 3 ?_ (fun key => OW.sub (R := [(1, S a_1 p1.length c_1), (2, B p2), (3, O (U ⟨x, 0, N⟩)), (7, S f c.length g), (8, I J d), (34, B ((E.t_.length : Int) == 0))]) ?_ (sb z))
    ·refine cx <| az <| cI H z (fun H => ?_) (fun H => ?_)
     ·refine sR <| aa [.p, .p, .p] z <| bE H fun s a2 H => bq (e := eI) (xs := p1) (j := d) z z z z z aO ty3 z (ab C) a2 (by rw [Nat.mul_one]) <| o1 z (aF z z ty3 (bC (ab C) a2)) <| o1 z (bI [(0, [I J s]), (1, [I J (-1)])] [I J s, I J (-1)] z z cH un z ⟨z, z, nl z, z, z, nl z, Y⟩ z) <| qF ([(ar.mk s (-1))] : List ar) [(0, [I J s, I J (-1)])] z z z z z mE cH z z z z ⟨z, z, nl z, Y⟩ z (fun _ => kp) (fun a3 => (?_ : OW _ _ _ (St w A [b x 27 [S G p0.b_.length L, S M p0.k_.length P], W (af (bz) 66) q c [S f c.length g], W (af (bz) 66) [a3] [(ar.mk s (-1))] [S (U ⟨a3, 0, N⟩) ([(ar.mk s (-1))] : List ar).length 1]]) _ _ _))
      exact bE H fun b9 a4 H => pE (r := 1) (ys := ([(ar.mk s (-1))] : List ar)) z z z z z z mE cH z z z z z (fun u k => au (e := af (bz) 66) (r := 2) z u k) a4 (fun _ _ _ => kp) fun c1 c2 c3 => cg z (fun u k => eD (i := 1) k z (eG a4)) fun b2 => oP z <| nQ <| bH <| aN <| aM <| az <| aT <| aa [.p, .p, .p] z <| ay <| cQ (RW.at (Z (b9) (c1) (c2) (c3) (J.wrap (d + 1)) (⟨b2, H⟩)) (ss [0, 1] z z) (sb z))
     ·refine aw <| az <| sR <| oP z <| nQ <| aB <| CW.at (iz (fun (h : List ar) (m : Option Addr) (o : Nat) (t : List Nat) (a : Int) => St w A [b x 27 [S G p0.b_.length L, S M p0.k_.length P], W (af (bz) 66) t h [S m h.length o]]) (fun h m o t a => [(1, S a_1 p1.length c_1), (2, B p2), (3, O (U ⟨x, 0, N⟩)), (7, S m h.length o), (8, I J d), (9, I J a)]) (fun kk => fun h m o t a => m.isNone = n ∧ dh p1 d p0 (de p1 p0 p2 k1) kk h a = U r) (fun _ _ _ _ _ H => ?_) (fun k2 a5 h m o t a ⟨Q, H⟩ => ?_) bh (c) (f) (g) (q) (0) (⟨a9, H⟩)) (ss [0, 1] z z) (sb z)
      ·unfold dh at H
       exact absurd H (by simp)
      ·unfold dh at H
       refine ak <| sR <| oPP z <| nQ <| cI H z (fun H => ?_) (fun H => ?_)
       ·refine aw <| az <| ak <| aB <| sR <| oPP z <| bE H fun l a6 H => bq (e := eI) (xs := p1) (j := d) z z z z z aO ty3 z (ab C) a6 (by rw [Nat.mul_one]) <| o1 z (aF z z ty3 (bC (ab C) a6)) <| oP z <| o1 z (bI [(0, [I J l]), (1, [I J a])] [I J l, I J a] z z cH un z ⟨z, z, nl z, z, z, nl z, Y⟩ z) <| aC z z z z cH (fun _ => kp) fun c4 => sC 0 [I J l, I J a] [_, _] 2 z cH z <| nR <| o1 z (rx 0 0 _ z bU z) <| o1 z (rx 0 2 _ z cH z) <| bE H fun e7 c5 H => oq z (qc z vy (fun u k => fX u (p1 := (ar.mk l a)) c5 (ah (ab F u k) (ab X u k)))) tt2 <| nQ <| cI H z (fun H => ?_) (fun H => ?_)
        ·refine aT <| oP z <| o1 z (rx 0 2 _ z cH z) <| qF ([(ar.mk l a)] : List ar) [(0, [I J l, I J a])] z z z z z mE cH z z z z ⟨z, z, nl z, Y⟩ z (fun _ => kp) (fun a7 => (?_ : OW _ _ _ (St w A [b x 27 [S G p0.b_.length L, S M p0.k_.length P], W (af (bz) 66) t h [S m h.length o], b c4 66 [I J l, I J a], W (af (bz) 66) [a7] [(ar.mk l a)] [S (U ⟨a7, 0, N⟩) ([(ar.mk l a)] : List ar).length 1]]) _ _ _))
         exact bE H fun c6 a8 H => pE (r := 1) (ys := ([(ar.mk l a)] : List ar)) z z z z z z mE cH z z z z z (fun u k => au (e := af (bz) 66) (r := 3) z u k) a8 (fun _ _ _ => kp) fun c7 c8 c9 => cg z (fun u k => eD (i := 1) k z (eG a8)) fun b3 => oP z <| ay <| ca <| az <| aT <| aa [.p, .p, .p] z <| ay <| cQ (RW.at (a5 (c6) (c7) (c8) (c9) (J.wrap (a + 1)) (⟨b3, H⟩)) (ss [0, 1] z z) (sb z))
        ·exact aw <| ca <| az <| aT <| aa [.p, .p, .p] z <| ay <| cQ (RW.at (a5 (h) (m) (o) (t) (J.wrap (a + 1)) (⟨Q, H⟩)) (ss [0, 1] z z) (sb z))
       ·exact bH <| aN <| aS <| aM <| ca <| az <| aT <| aa [.p, .p, .p] z <| ay <| cQ (RW.at (Z (h) (m) (o) (t) (J.wrap (d + 1)) (⟨Q, H⟩)) (ss [0, 1] z z) (sb z))
    ·generalize ((E.t_.length : Int) == 0) = d0 at key ⊢
     cases d0
     ·exact aa [.p, .p, .p] z <| OW.sub key (sb z)
     ·exact oPP z <| oP z <| OW.sub key (sb z)
   ·exact bH <| aN <| aS <| aM <| az <| sR <| oPP z <| nT <| aY (rs := [.tmp 6]) (vs := [S f c.length g]) z ⟨z, Y⟩ (fun w' hw' => by
     obtain rfl := ai H
     exact ⟨_, z, f, c.length, g, q, z, hw'.sel [1] z z⟩)
theorem lX (w : World) {C : List Nat} {p0 : ae} {p1 : av} {p2 : ar} {p3 : Int} {a5 : List Value} {a6 : List Value} {r : List Int} (H : gh p0 p1 p2 p3 = U r) (HS : St w C [] w) (g0 : (aX).rd w C p0 a5) (g1 : (cn).rd w C p1 a6) :
    Calls Tryz.prog 176 #[.agg a5.toArray, .agg a6.toArray, .agg #[I J p2.g_, I J p2.c_], I J p3] w (fun en w' => ∃ v, en = .returned v ∧ ∃ (a0 : Option Addr), ∃ (n0 : Nat), ∃ (c0 : Nat), ∃ (F0 : List Nat), v = S a0 n0 c0 ∧ St w C [W (af eI 3) F0 r [S a0 n0 c0]] w') := by
 obtain ⟨f8, f9, rfl, s, u⟩ := aI g0
 obtain ⟨a7, a8, rfl⟩ := am s
 obtain ⟨a9, b0, rfl⟩ := am u
 obtain ⟨g2, g3, rfl, b1, D⟩ := aL g1
 obtain ⟨b2, b3, rfl⟩ := am b1
 obtain ⟨b4, b5, rfl⟩ := am D
 unfold gh at H
 refine aG Tryz.func176 z Tryz.ntmps176 z (HS) <| sR <| ob _ z fun k => ob _ z fun l => ob _ z fun m => oP z <| nQ <| ak <| sR <| o1 z (rx 0 0 _ z bU z) <| o1 z (rx 0 1 _ z cP z) <| bE H fun x d2 H => oq z (qc z uR (fun d a => fc d d2 (ah (ab s d a) (ab u d a)) (aE (ab b1 d a) (ab D d a)))) tt2 <| oPP z <| aQ [(21, B ((!x) || ((p1.d_.length : Int) == 0))), (3, I J p3), (4, O (U ⟨k, 0, N⟩)), (5, O (U ⟨l, 0, N⟩)), (6, O (U ⟨m, 0, N⟩))] 5 ?_ (fun key => OW.sub (R := [(3, I J p3), (4, O (U ⟨k, 0, N⟩)), (5, O (U ⟨l, 0, N⟩)), (6, O (U ⟨m, 0, N⟩)), (16, B (!x))]) ?_ (sb z))
 ·refine oP z <| bE H fun E F H => aQ [(27, B E), (3, I J p3), (4, O (U ⟨k, 0, N⟩)), (5, O (U ⟨l, 0, N⟩)), (6, O (U ⟨m, 0, N⟩))] 5 ?_ (fun key => OW.sub (R := [(3, I J p3), (4, O (U ⟨k, 0, N⟩)), (5, O (U ⟨l, 0, N⟩)), (6, O (U ⟨m, 0, N⟩)), (22, B ((!x) || ((p1.d_.length : Int) == 0)))]) ?_ (sb z))
  ·refine oP z <| bE H fun d3 G H => aQ [(36, B d3), (3, I J p3), (4, O (U ⟨k, 0, N⟩)), (5, O (U ⟨l, 0, N⟩)), (6, O (U ⟨m, 0, N⟩))] 8 ?_ (fun key => OW.sub (R := [(3, I J p3), (4, O (U ⟨k, 0, N⟩)), (5, O (U ⟨l, 0, N⟩)), (6, O (U ⟨m, 0, N⟩)), (28, B E)]) ?_ (sb z))
   ·refine nQ <| cI H z (fun H => ?_) (fun H => ?_)
    ·exact sR <| bM (e := eI) z z z z aO ty3 (fun _ => kp) fun L => oP z <| nT <| ap <| aY (rs := [.tmp 8]) (vs := [S (U ⟨L, 0, N⟩) 0 0]) z ⟨z, Y⟩ (fun w' hw' => by
      obtain rfl := ai H
      exact ⟨_, z, (U ⟨L, 0, N⟩), 0, 0, [L], z, hw'.sel [3] z z⟩)
    ·refine aw <| az <| sR <| aa [.fa 27 1 1 fZ] z <| o1 z (r1 1 0 z ja z) <| aa [.lenS 25 9 ek] z <| bE H fun c d4 H => pG (e := eI) (zero := (0 : Int)) z z z z z z aO ty3 z z z z (fun _ => ⟨z, z⟩) d4 (fun _ => kp) fun q => oP z <| nQ <| ak <| sR <| oP z <| nQ <| aB <| CW.at (ic (fun (g : Int) (o : List Int) => St w C [b k 27 [S a7 p0.b_.length a8, S a9 p0.k_.length b0], b l 69 [S b2 p1.e_.length b3, S b4 p1.d_.length b5], b m 66 [I J p2.g_, I J p2.c_], W (af eI 3) [q] o [S (U ⟨q, 0, N⟩) c.length c.length]]) (fun g o => [(3, I J p3), (4, O (U ⟨k, 0, N⟩)), (5, O (U ⟨l, 0, N⟩)), (6, O (U ⟨m, 0, N⟩)), (9, S (U ⟨q, 0, N⟩) c.length c.length), (10, I J g)]) (fun kk => fun g o => ct p0 p2 p3 c p1 kk g o = U r) (fun _ _ H => ?_) (fun k1 M g o H => ?_) bh (0) (c) (H)) (ss [0, 1, 2, 3] z z) (sb z)
     ·unfold ct at H
      exact absurd H (by simp)
     ·unfold ct at H
      refine ak <| sR <| aa [.p, .fa 27 0 0 dq] z <| o1 z (r1 0 0 z iH z) <| aa [.fa 66 0 0 kf] z <| o1 z (r1 0 2 z ty3 z) <| bE H fun A b6 H => cB z z z z z iw dI z s b6 fun e5 e6 a2 a3 => ?_
      obtain ⟨e7, e9, f0, rfl, b7, P, Q⟩ := bW a2
      obtain rfl := b7
      obtain ⟨b8, b9, rfl⟩ := am P
      obtain ⟨c1, c2, rfl⟩ := am Q
      refine o1 z (cV (cs := [vS A.x_, S b8 A.t_.length b9, S c1 A.y_.length c2]) z z dI (co bor a3) z) <| bE H fun f1 c3 H => oq z (qc z uy (fun d a => gw d c3 (dd z (ab P d a) (ab Q d a)))) tt2 <| oP z <| nQ <| cI H z (fun H => ?_) (fun H => ?_)
      ·refine aw <| az <| ak <| aB <| sR <| o1 z (rx 0 0 _ z bU z) <| o1 z (rx 0 2 _ z cH z) <| oP z <| bE H fun f2 c4 H => oq z (qc z Bb (fun d a => nU d (p1 := p2) c4 (ah (ab s d a) (ab u d a)))) tt2 <| oPP z <| nQ <| cI H z (fun H => ?_) (fun H => ?_)
       ·refine sR <| oP z <| nQ <| aB <| CW.at (ic (fun (f : Int) (h : List Int) => St w C [b k 27 [S a7 p0.b_.length a8, S a9 p0.k_.length b0], b l 69 [S b2 p1.e_.length b3, S b4 p1.d_.length b5], b m 66 [I J p2.g_, I J p2.c_], W (af eI 3) [q] h [S (U ⟨q, 0, N⟩) c.length c.length]]) (fun f h => [(3, I J p3), (4, O (U ⟨k, 0, N⟩)), (5, O (U ⟨l, 0, N⟩)), (6, O (U ⟨m, 0, N⟩)), (9, S (U ⟨q, 0, N⟩) c.length c.length), (10, I J g), (11, I J f)]) (fun kk => fun f h => cZ c p1 p2 g p0 (ct p0 p2 p3 c p1 k1) kk f h = U r) (fun _ _ H => ?_) (fun k2 c5 f h H => ?_) bh (0) (o) (H)) (ss [0, 1, 2, 3] z z) (sb z)
        ·unfold cZ at H
         exact absurd H (by simp)
        ·unfold cZ at H
         refine ak <| sR <| aa [.p, .p, .lenS 31 3 aO, .p] z <| nQ <| cI H z (fun H => ?_) (fun H => ?_)
         ·refine aw <| az <| ak <| aB <| oa 23 bT (by kernel_rfl) <| aa [.p, .p, .p, .p] z <| bE H fun c6 X H => bq (e := eI) (xs := h) (j := f) z z z z z aO ty3 z (au (e := af eI 3) (r := 3) z) X (by rw [Nat.mul_one]) <| o1 z (aF z z ty3 (bC (au (e := af eI 3) (r := 3) z) X)) <| aa [.fa 69 1 1 dL] z <| o1 z (r1 1 1 z jm z) <| aa [.fa 66 0 0 kf] z <| o1 z (r1 0 2 z ty3 z) <| bE H fun c7 c8 H => cB z z z z z gL cw z D c8 fun f3 f4 t a4 => ?_
          obtain ⟨f5, f6, rfl⟩ := am t
          exact o1 z (aF z z cw (co bor a4)) <| aa [.p, .fa 27 1 1 fZ] z <| o1 z (r1 1 0 z ja z) <| aa [.lenS 25 9 ek, .p, .p, .p] z <| bE H fun c9 Z H => bq (e := eI) (xs := c7) (j := J.wrap ((J.wrap (g * (p0.k_.length : Int))) + f)) z z z z z aO ty3 z (ab t) Z (by rw [Nat.mul_one]) <| o1 z (aF z z ty3 (bC (ab t) Z)) <| oP z <| bE H fun f7 a1 H => bq (e := eI) (xs := h) (j := f) z z z z z aO ty3 z (au (e := af eI 3) (r := 3) z) a1 (by rw [Nat.mul_one]) <| cx <| jK (i := 3) (j := f) z z z z z z ty3 z a1 (fun _ => z) kp <| ay <| ca <| az <| aT <| aa [.p, .p, .p] z <| ay <| cQ (RW.at (c5 (J.wrap (f + 1)) ((h.set f.toNat (J.wrap (c6 + c9)))) (H)) (ss [0, 1, 2, 3] z z) (sb z))
         ·exact bH <| aN <| aS <| aM <| ca <| az <| aT <| aa [.p, .p, .p] z <| ay <| cQ (RW.at (M (J.wrap (g + 1)) (h) (H)) (ss [0, 1, 2, 3] z z) (sb z))
       ·exact aw <| ca <| az <| aT <| aa [.p, .p, .p] z <| ay <| cQ (RW.at (M (J.wrap (g + 1)) (o) (H)) (ss [0, 1, 2, 3] z z) (sb z))
      ·exact bH <| aN <| aS <| aM <| az <| sR <| oPP z <| nT <| aY (rs := [.tmp 8]) (vs := [S (U ⟨q, 0, N⟩) c.length c.length]) z ⟨z, Y⟩ (fun w' hw' => by
        obtain rfl := ai H
        exact ⟨_, z, (U ⟨q, 0, N⟩), c.length, c.length, [q], z, hw'.sel [3] z z⟩)
   ·clear H
    have H := G
    clear G
    generalize E = d5 at H key ⊢
    cases d5
    ·have H := ba z H
     refine oP z <| o1 z (rx 0 0 _ z bU z) <| o1 z (rx 0 2 _ z cH z) <| bE H fun g4 d6 H => oq z (qc z wq (fun d a => fP d (p1 := p2) d6 (ah (ab s d a) (ab u d a)))) tt2 <| oP z <| bE H fun g5 d7 H => oq z (qc z gK (fun d a => bf d d7)) tt2 <| oP z <| oP z <| ?_
     obtain rfl := ai H
     exact OW.sub key (sb z)
    ·have H := bb z H
     refine aa [.p, .p, .p, .p, .p, .p, .p, .p] z ?_
     obtain rfl := ai H
     exact OW.sub key (sb z)
  ·clear H
   have H := F
   clear F
   generalize ((!x) || ((p1.d_.length : Int) == 0)) = d8 at H key ⊢
   cases d8
   ·have H := ba z H
    refine o1 z (rx 0 0 _ z bU z) <| o1 z (rx 0 2 _ z cH z) <| bE H fun g6 d9 H => oq z (qc z vy (fun d a => fX d (p1 := p2) d9 (ah (ab s d a) (ab u d a)))) tt2 <| oP z <| oP z <| ?_
    obtain rfl := ai H
    exact OW.sub key (sb z)
   ·have H := bb z H
    refine aa [.p, .p, .p, .p, .p] z ?_
    obtain rfl := ai H
    exact OW.sub key (sb z)
 ·generalize (!x) = e0 at key ⊢
  cases e0
  ·exact aa [.fa 69 1 1 dL] z <| o1 z (r1 1 1 z jm z) <| aa [.lenS 67 31 gL, .p] z <| oP z <| OW.sub key (sb z)
  ·exact aa [.p, .p, .p, .p, .p] z <| OW.sub key (sb z)
theorem lj (w : World) {p0 : List Int} {a_0 : Option Addr} {n_0 c_0 : Nat} {r : Int} (H : jd p0 = U r) (f : (af eI 3).rd w [] p0 [S a_0 n_0 c_0]) :
    Calls Tryz.prog 177 #[S a_0 n_0 c_0] w (fun en w' => en = .returned (I J r) ∧ Ext [] w w') := by
 obtain rfl := ee f
 unfold jd at H
 refine aG Tryz.func177 z Tryz.ntmps177 z (St.init w []) <| sR <| oP z <| nR <| oP z <| nQ <| ak <| sR <| oP z <| nQ <| aB <| CW.at (ic (fun (c : Int) (a : Int) => St w [] []) (fun c a => [(0, S a_0 p0.length c_0), (3, I J c), (4, I J a)]) (fun kk => fun c a => gb p0 kk c a = U r) (fun _ _ H => ?_) (fun i g c a H => ?_) bh (0) (0) (H)) (ss [] z z) (sb z)
 ·unfold gb at H
  exact absurd H (by simp)
 ·unfold gb at H
  refine ak <| sR <| aa [.p, .p, .lenS 31 3 aO, .p] z <| nQ <| cI H z (fun H => ?_) (fun H => ?_)
  ·exact aw <| az <| ak <| aB <| aT <| aa [.p, .p, .p] z <| bE H fun h d H => bq (e := eI) (xs := p0) (j := a) z z z z z aO ty3 z (ab f) d (by rw [Nat.mul_one]) <| o1 z (aF z z ty3 (bC (ab f) d)) <| oPP z <| ay <| ca <| az <| aT <| aa [.p, .p, .p] z <| ay <| cQ (RW.at (g (J.wrap (c + h)) (J.wrap (a + 1)) (H)) (ss [] z z) (sb z))
  ·exact bH <| aN <| aS <| aM <| az <| sR <| oPP z <| nT <| xr 2 z (by cases H; exact q1)
theorem oE (w : World) {p0 : List Int} {a_0 : Option Addr} {n_0 c_0 : Nat} {r : Int} (H : jO p0 = U r) (d : (af eI 3).rd w [] p0 [S a_0 n_0 c_0]) :
    Calls Tryz.prog 202 #[S a_0 n_0 c_0] w (fun en w' => en = .returned (I J r) ∧ Ext [] w w') := by
 obtain rfl := ee d
 unfold jO at H
 refine aG Tryz.func202 z Tryz.ntmps202 z (St.init w []) <| sR <| oP z <| nQ <| ak <| sR <| aa [.p, .lenS 31 3 aO, .p] z <| nQ <| cI H z (fun H => ?_) (fun H => ?_)
 ·exact sR <| oP z <| nT <| ap <| xr 2 z (by cases H; exact q1)
 ·refine aw <| az <| sR <| oP z <| nQ <| ak <| sR <| oP z <| nQ <| aB <| CW.at (ic (fun (c : Int) (a : Int) => St w [] []) (fun c a => [(0, S a_0 p0.length c_0), (3, I J c), (4, I J a)]) (fun kk => fun c a => fJ p0 kk c a = U r) (fun _ _ H => ?_) (fun u i c a H => ?_) bh (0) (0) (H)) (ss [] z z) (sb z)
  ·unfold fJ at H
   exact absurd H (by simp)
  ·unfold fJ at H
   refine ak <| sR <| aa [.p, .p, .lenS 31 3 aO, .p] z <| nQ <| cI H z (fun H => ?_) (fun H => ?_)
   ·refine aw <| az <| ak <| aB <| ak <| sR <| oPP z <| bE H fun q f H => bq (e := eI) (xs := p0) (j := a) z z z z z aO ty3 z (ab d) f (by rw [Nat.mul_one]) <| o1 z (aF z z ty3 (bC (ab d) f)) <| bE H fun s k H => oq z (qc z gK (fun o t => bf o k)) tt2 <| oP z <| nQ <| cI H z (fun H => ?_) (fun H => ?_)
    ·exact sR <| oP z <| nT <| ap <| aP <| ap <| bZ <| aP <| ap <| xr 2 z (by cases H; exact q1)
    ·exact aw <| az <| dJ bT (by kernel_rfl) <| aa [.p, .p, .p] z <| bE H fun l g H => bq (e := eI) (xs := p0) (j := a) z z z z z aO ty3 z (ab d) g (by rw [Nat.mul_one]) <| o1 z (aF z z ty3 (bC (ab d) g)) <| oPP z <| bE H fun m h H => bq (e := eI) (xs := p0) (j := a) z z z z z aO ty3 z (ab d) h (by rw [Nat.mul_one]) <| o1 z (aF z z ty3 (bC (ab d) h)) <| aa [.p, .p, .p] z <| cx <| ca <| az <| aT <| aa [.p, .p, .p] z <| ay <| cQ (RW.at (i (J.wrap (c + (J.wrap (l * m)))) (J.wrap (a + 1)) (H)) (ss [] z z) (sb z))
   ·exact bH <| aN <| aS <| aM <| az <| sR <| oPP z <| nT <| xr 2 z (by cases H; exact q1)
theorem iT (w : World) {p0 : aZ} {r : Bool} (H : gy p0 = U r)   :
    Calls Tryz.prog 186 #[.agg #[I J p0.C_, I J p0.B_]] w (fun en w' => en = .returned (B r) ∧ Ext [] w w') := by
 unfold gy at H
 refine aG Tryz.func186 z Tryz.ntmps186 z (St.init w []) <| sR <| ob _ z fun e => oP z <| nR <| aa [.fa 186 0 0 mu] z <| o1 z (r1 0 0 z ty3 z) <| bE H fun c f H => oq z (qc z gK (fun d g => bf d f)) tt2 <| oP z <| bE H fun h a H => aQ [(10, B h), (2, B n)] 4 ?_ (fun key => OW.sub (R := [(1, O (U ⟨e, 0, N⟩)), (2, B n), (6, B c)]) ?_ (sb z))
 ·exact oP z <| nT <| xr 2 z (by cases H; exact q1)
 ·clear H
  have H := a
  clear a
  generalize c = i at H key ⊢
  cases i
  ·have H := ba z H
   refine aa [.p, .p, .p, .p] z ?_
   obtain rfl := ai H
   exact OW.sub key (sb z)
  ·have H := bb z H
   refine aa [.fa 186 1 1 lJ] z <| o1 z (r1 1 0 z ty3 z) <| bE H fun k j H => oq z (qc z gK (fun d g => bf d j)) tt2 <| oP z <| ?_
   obtain rfl := ai H
   exact OW.sub key (sb z)
theorem vr (w : World) {p0 : Int} {p1 : Int} {r : Int} (H : pd p0 p1 = U r)   :
    Calls Tryz.prog 204 #[I J p0, I J p1] w (fun en w' => en = .returned (I J r) ∧ Ext [] w w') := by
 unfold pd at H
 refine aG Tryz.func204 z Tryz.ntmps204 z (St.init w []) <| sR <| oP z <| nQ <| ak <| sR <| aa [.p, .p, .p] z <| aQ [(11, B ((decide (p0 < 0)) || (decide (p1 < 0)))), (0, I J p0), (1, I J p1)] 3 ?_ (fun key => OW.sub (R := [(0, I J p0), (1, I J p1), (8, B (decide (p0 < 0)))]) ?_ (sb z))
 ·refine nQ <| cI H z (fun H => ?_) (fun H => ?_)
  ·exact sR <| oP z <| nT <| ap <| xr 4 z (by cases H; exact q1)
  ·refine aw <| az <| ak <| aB <| CW.at (ic (fun (c : Int) (a : Int) => St w [] []) (fun c a => [(0, I J c), (1, I J a)]) (fun kk => fun c a => ir kk c a = U r) (fun _ _ H => ?_) (fun h d c a H => ?_) bh (p0) (p1) (H)) (ss [] z z) (sb z)
   ·unfold ir at H
    exact absurd H (by simp)
   ·unfold ir at H
    refine ak <| sR <| oPP z <| nQ <| cI H z (fun H => ?_) (fun H => ?_)
    ·exact aw <| az <| aB <| sR <| oPP z <| bE H fun e f H => o1 z (pA z z z f) <| oP z <| nR <| oPP z <| nQ <| aT <| oPP z <| ay <| ca <| cQ (RW.at (d (a) (e) (H)) (ss [] z z) (sb z))
    ·exact bH <| aN <| aS <| aM <| az <| sR <| oPP z <| nT <| xr 4 z (by cases H; exact q1)
 ·generalize (decide (p0 < 0)) = g at key ⊢
  cases g
  ·exact oPP z <| oP z <| OW.sub key (sb z)
  ·exact aa [.p, .p, .p] z <| OW.sub key (sb z)
theorem rO (w : World) {p0 : aZ} {r : aZ} (H : lx p0 = U r)   :
    Calls Tryz.prog 203 #[.agg #[I J p0.C_, I J p0.B_]] w (fun en w' => en = .returned (.agg #[I J r.C_, I J r.B_]) ∧ Ext [] w w') := by
 unfold lx at H
 refine aG Tryz.func203 z Tryz.ntmps203 z (St.init w []) <| sR <| ob _ z fun k => aC z z z z cq (fun _ => kp) fun l => nQ <| ak <| sR <| o1 z (rx 0 0 _ z cq z) <| bE H fun m e H => oq z (qc z tW (fun d f => iT d (p0 := p0) e)) tt2 <| oP z <| nQ <| cI H z (fun H => ?_) (fun H => ?_)
 ·exact sR <| o1 z (bI [] [I J 0, I J 0] z z cq rC z Y z) <| sC 0 [I J 0, I J 0] [_, _] 1 z cq z <| nT <| ap <| aY (rs := [.cell 2 186]) (vs := [.agg #[I J 0, I J 0]]) z ⟨⟨_, [I J 0, I J 0], _, _, _, z, cq, (bl (T := 186) 0 (bK (i := 1) z) z), z, z⟩, Y⟩ (fun w' hw' => by
   obtain rfl := ai H
   exact ⟨z, hw'.ext⟩)
 ·exact aw <| az <| sR <| aa [.fa 186 0 0 mu] z <| o1 z (r1 0 0 z ty3 z) <| aa [.fa 186 1 1 lJ] z <| o1 z (r1 1 0 z ty3 z) <| bE H fun o g H => oq z (qc z Dm (fun d f => vr d g)) tt2 <| oP z <| nQ <| ak <| oa 9 bT (by kernel_rfl) <| aa [.fa 186 0 0 mu] z <| o1 z (r1 0 0 z ty3 z) <| oP z <| bE H fun a h H => o1 z (wu z z z h) <| aa [.fa 186 1 1 lJ] z <| o1 z (r1 1 0 z ty3 z) <| oP z <| bE H fun c j H => o1 z (wu z z z j) <| o1 z (bI [(0, [I J a]), (1, [I J c])] [I J a, I J c] z z cq rC z ⟨z, z, nl z, z, z, nl z, Y⟩ z) <| cx <| sC 0 [I J a, I J c] [_, _] 1 z cq z <| nT <| aY (rs := [.cell 2 186]) (vs := [.agg #[I J a, I J c]]) z ⟨⟨_, [I J a, I J c], _, _, _, z, cq, (bl (T := 186) 0 (bK (i := 1) z) z), z, z⟩, Y⟩ (fun w' hw' => by
   obtain rfl := ai H
   exact ⟨z, hw'.ext⟩)
theorem nz (w : World) {p0 : ae} {p1 : av} {p2 : ar} {c5 : List Value} {c6 : List Value} {r : aZ} (H : lE p0 p1 p2 = U r) (g0 : (aX).rd w [] p0 c5) (g1 : (cn).rd w [] p1 c6) :
    Calls Tryz.prog 195 #[.agg c5.toArray, .agg c6.toArray, .agg #[I J p2.g_, I J p2.c_]] w (fun en w' => en = .returned (.agg #[I J r.C_, I J r.B_]) ∧ Ext [] w w') := by
 obtain ⟨i4, i5, rfl, Z, a0⟩ := aI g0
 obtain ⟨c7, c8, rfl⟩ := am Z
 obtain ⟨c9, d0, rfl⟩ := am a0
 obtain ⟨i6, i7, rfl, a6, a7⟩ := aL g1
 obtain ⟨d1, d2, rfl⟩ := am a6
 obtain ⟨d3, d4, rfl⟩ := am a7
 unfold lE at H
 refine aG Tryz.func195 z Tryz.ntmps195 z (St.init w []) <| sR <| ob _ z fun M => ob _ z fun P => ob _ z fun Q => aC z z z z cq (fun _ => kp) fun A => nQ <| ak <| sR <| o1 z (rx 0 0 _ z bU z) <| o1 z (rx 0 1 _ z cP z) <| bE H fun a1 g6 H => oq z (qc z uR (fun f a => fc f g6 (ah (ab Z f a) (ab a0 f a)) (aE (ab a6 f a) (ab a7 f a)))) tt2 <| oPP z <| aQ [(27, B ((!a1) || ((p1.d_.length : Int) == 0))), (3, O (U ⟨M, 0, N⟩)), (4, O (U ⟨P, 0, N⟩)), (5, O (U ⟨Q, 0, N⟩)), (6, O (U ⟨A, 0, N⟩))] 5 ?_ (fun key => OW.sub (R := [(3, O (U ⟨M, 0, N⟩)), (4, O (U ⟨P, 0, N⟩)), (5, O (U ⟨Q, 0, N⟩)), (6, O (U ⟨A, 0, N⟩)), (22, B (!a1))]) ?_ (sb z))
 ·refine oP z <| bE H fun g7 a8 H => aQ [(33, B g7), (3, O (U ⟨M, 0, N⟩)), (4, O (U ⟨P, 0, N⟩)), (5, O (U ⟨Q, 0, N⟩)), (6, O (U ⟨A, 0, N⟩))] 5 ?_ (fun key => OW.sub (R := [(3, O (U ⟨M, 0, N⟩)), (4, O (U ⟨P, 0, N⟩)), (5, O (U ⟨Q, 0, N⟩)), (6, O (U ⟨A, 0, N⟩)), (28, B ((!a1) || ((p1.d_.length : Int) == 0)))]) ?_ (sb z))
  ·refine nQ <| cI H z (fun H => ?_) (fun H => ?_)
   ·exact sR <| o1 z (bI [] [I J 0, I J 0] z z cq rC z Y z) <| sC 0 [I J 0, I J 0] [_, _] 3 z cq z <| nT <| ap <| aY (rs := [.cell 6 186]) (vs := [.agg #[I J 0, I J 0]]) z ⟨⟨_, [I J 0, I J 0], _, _, _, z, cq, (bl (T := 186) 0 (bK (i := 3) z) z), z, z⟩, Y⟩ (fun w' hw' => by
     obtain rfl := ai H
     exact ⟨z, hw'.ext⟩)
   ·refine aw <| az <| sR <| aa [.fa 27 1 1 fZ] z <| o1 z (r1 1 0 z ja z) <| aa [.lenS 25 9 ek] z <| bE H fun l g8 H => pG (e := eI) (zero := (0 : Int)) z z z z z z aO ty3 z z z z (fun _ => ⟨z, z⟩) g8 (fun _ => kp) fun C => oP z <| nR <| bM (e := eI) z z z z aO ty3 (fun _ => kp) fun d5 => oP z <| nR <| bM (e := eI) z z z z aO ty3 (fun _ => kp) fun d6 => oP z <| nQ <| ak <| sR <| oP z <| nQ <| aB <| CW.at (wy (fun (v : Int) (t : List Int) (c : List Int) (h : Option Addr) (m : Nat) (D : List Nat) (d : List Int) (k : Option Addr) (o : Nat) (E : List Nat) => St w [] [b M 27 [S c7 p0.b_.length c8, S c9 p0.k_.length d0], b P 69 [S d1 p1.e_.length d2, S d3 p1.d_.length d4], b Q 66 [I J p2.g_, I J p2.c_], b A 186 [I J 0, I J 0], W (af eI 3) [C] t [S (U ⟨C, 0, N⟩) l.length l.length], W (af eI 3) D c [S h c.length m], W (af eI 3) E d [S k d.length o]]) (fun v t c h m D d k o E => [(3, O (U ⟨M, 0, N⟩)), (4, O (U ⟨P, 0, N⟩)), (5, O (U ⟨Q, 0, N⟩)), (6, O (U ⟨A, 0, N⟩)), (7, S (U ⟨C, 0, N⟩) l.length l.length), (8, S h c.length m), (9, S k d.length o), (10, I J v)]) (fun kk => fun v t c h m D d k o E => h.isNone = n ∧ k.isNone = n ∧ ew p0 p2 p1 kk v t c d = U r) (fun _ _ _ _ _ _ _ _ _ _ H => ?_) (fun k1 a9 v t c h m D d k o E ⟨c0, c1, H⟩ => ?_) bh (0) (l) (([] : List Int)) ((U ⟨d5, 0, N⟩)) (0) ([d5]) (([] : List Int)) ((U ⟨d6, 0, N⟩)) (0) ([d6]) (⟨z, z, H⟩)) (ss [0, 1, 2, 3, 4, 5, 6] z z) (sb z)
    ·unfold ew at H
     exact absurd H (by simp)
    ·unfold ew at H
     refine ak <| sR <| oP z <| o1 z (rx 0 0 _ z bU z) <| o1 z (rx 0 2 _ z cH z) <| bE H fun h6 d7 H => oq z (qc z wq (fun f a => fP f (p1 := p2) d7 (ah (ab Z f a) (ab a0 f a)))) tt2 <| oP z <| nQ <| cI H z (fun H => ?_) (fun H => ?_)
     ·refine aw <| az <| ak <| aB <| sR <| o1 z (rx 0 0 _ z bU z) <| o1 z (rx 0 1 _ z cP z) <| o1 z (rx 0 2 _ z cH z) <| oP z <| bE H fun X d8 H => aq z Bf z z z z (fun f a => lX f (p2 := p2) d8 (a.carve [] z z) (ah (ab Z f a) (ab a0 f a)) (aE (ab a6 f a) (ab a7 f a))) fun h7 f w2 a c2 => ?_
      obtain ⟨b0, h8, b1, d9, rfl, a5⟩ := c2
      obtain rfl := aH (i := 0) a5 z
      refine ⟨St w [] [_, _, _, _, _, _, _, _], a.comp [] z z a5, fun _ _ => Y, ?_⟩
      refine oP z <| nQ <| ak <| sR <| oP z <| nQ <| aB <| CW.at (ic (fun (q : Int) (u : List Int) => St w [] [W (af eI 3) d9 X [S b0 X.length b1], b M 27 [S c7 p0.b_.length c8, S c9 p0.k_.length d0], b P 69 [S d1 p1.e_.length d2, S d3 p1.d_.length d4], b Q 66 [I J p2.g_, I J p2.c_], b A 186 [I J 0, I J 0], W (af eI 3) [C] u [S (U ⟨C, 0, N⟩) l.length l.length], W (af eI 3) D c [S h c.length m], W (af eI 3) E d [S k d.length o]]) (fun q u => [(3, O (U ⟨M, 0, N⟩)), (4, O (U ⟨P, 0, N⟩)), (5, O (U ⟨Q, 0, N⟩)), (6, O (U ⟨A, 0, N⟩)), (7, S (U ⟨C, 0, N⟩) l.length l.length), (8, S h c.length m), (9, S k d.length o), (10, I J v), (11, S b0 X.length b1), (12, I J q)]) (fun kk => fun q u => fv X c d (ew p0 p2 p1 k1) v kk q u = U r) (fun _ _ H => ?_) (fun k2 e0 q u H => ?_) bh (0) (t) (H)) (ss [7, 0, 1, 2, 3, 4, 5, 6] z z) (sb z)
      ·unfold fv at H
       exact absurd H (by simp)
      ·unfold fv at H
       refine ak <| sR <| aa [.p, .p, .lenS 31 3 aO, .p] z <| nQ <| cI H z (fun H => ?_) (fun H => ?_)
       ·exact aw <| az <| ak <| aB <| oa 12 bT (by kernel_rfl) <| aa [.p, .p, .p, .p] z <| bE H fun e1 b2 H => bq (e := eI) (xs := u) (j := q) z z z z z aO ty3 z (au (e := af eI 3) (r := 5) z) b2 (by rw [Nat.mul_one]) <| o1 z (aF z z ty3 (bC (au (e := af eI 3) (r := 5) z) b2)) <| oPP z <| bE H fun e2 b3 H => bq (e := eI) (xs := X) (j := q) z z z z z aO ty3 z (au (e := af eI 3) (r := 0) z) b3 (by rw [Nat.mul_one]) <| o1 z (aF z z ty3 (bC (au (e := af eI 3) (r := 0) z) b3)) <| oP z <| bE H fun h9 b4 H => bq (e := eI) (xs := u) (j := q) z z z z z aO ty3 z (au (e := af eI 3) (r := 5) z) b4 (by rw [Nat.mul_one]) <| cx <| jK (i := 5) (j := q) z z z z z z ty3 z b4 (fun _ => z) kp <| ay <| ca <| az <| aT <| aa [.p, .p, .p] z <| ay <| cQ (RW.at (e0 (J.wrap (q + 1)) ((u.set q.toNat (J.wrap (e1 + e2)))) (H)) (ss [0, 1, 2, 3, 4, 5, 6, 7] z z) (sb z))
       ·refine bH <| aN <| aS <| aM <| az <| sR <| oP z <| bE H fun i0 e3 H => oq z (qc z xd (fun f a => lj f e3 (au (e := af eI 3) (r := 0) z f a))) tt2 <| oP z <| nQ <| cI H z (fun H => ?_) (fun H => ?_)
        ·exact sR <| oPP z <| bE H fun a2 e4 H => oq z (qc z xd (fun f a => lj f e4 (au (e := af eI 3) (r := 0) z f a))) tt2 <| bA (val := I J) (h1 := fun _ => z) [a2] [(0, [I J a2])] z z z z z aO ty3 z z z ⟨z, z, nl z, Y⟩ z z (fun _ => kp) fun i1 => bE H fun e5 b5 H => bY (r := 6) (ys := ([a2] : List Int)) z z z z z z aO ty3 z z z (au (e := af eI 3) (r := 8) z) b5 (fun _ _ _ => kp) fun e6 e7 e9 => cg z (fun f a => eD (i := 6) a z (eG b5)) fun c3 => oP z <| nQ <| aT <| oPP z <| bE H fun a3 f0 H => oq z (qc z AQ (fun f a => oE f f0 (au (e := af eI 3) (r := 0) z f a))) tt2 <| bA (val := I J) (h1 := fun _ => z) [a3] [(0, [I J a3])] z z z z z aO ty3 z z z ⟨z, z, nl z, Y⟩ z z (fun _ => kp) fun i2 => bE H fun f1 b6 H => bY (r := 7) (ys := ([a3] : List Int)) z z z z z z aO ty3 z z z (au (e := af eI 3) (r := 9) z) b6 (fun _ _ _ => kp) fun f2 f3 f4 => cg z (fun f a => eD (i := 7) a z (eG b6)) fun c4 => oP z <| ay <| ca <| az <| aT <| aa [.p, .p, .p] z <| ay <| cQ (RW.at (a9 (J.wrap (v + 1)) (u) (e5) (e6) (e7) (e9) (f1) (f2) (f3) (f4) (⟨c3, c4, H⟩)) (ss [1, 2, 3, 4, 5, 6, 7] z z) (sb z))
        ·exact aw <| ca <| az <| aT <| aa [.p, .p, .p] z <| ay <| cQ (RW.at (a9 (J.wrap (v + 1)) (u) (c) (h) (m) (D) (d) (k) (o) (E) (⟨c0, c1, H⟩)) (ss [1, 2, 3, 4, 5, 6, 7] z z) (sb z))
     ·refine bH <| aN <| aS <| aM <| az <| sR <| oP z <| bE H fun s f5 H => oq z (qc z xd (fun f a => lj f f5 (au (e := af eI 3) (r := 4) z f a))) tt2 <| oP z <| nQ <| ak <| sR <| oPP z <| nQ <| cI H z (fun H => ?_) (fun H => ?_)
      ·exact sR <| o1 z (bI [(0, [I J 0]), (1, [I J 1])] [I J 0, I J 1] z z cq rC z ⟨z, z, nl z, z, z, nl z, Y⟩ z) <| sC 0 [I J 0, I J 1] [_, _] 3 z cq z <| nT <| ap <| aY (rs := [.cell 6 186]) (vs := [.agg #[I J 0, I J 1]]) z ⟨⟨_, [I J 0, I J 1], _, _, _, z, cq, (bl (T := 186) 0 (bK (i := 3) z) z), z, z⟩, Y⟩ (fun w' hw' => by
        obtain rfl := ai H
        exact ⟨z, hw'.ext⟩)
      ·refine aw <| az <| sR <| oP z <| nQ <| ak <| sR <| oP z <| nQ <| aB <| CW.at (ic (fun (g : Int) (G : Int) => St w [] [b A 186 [I J 0, I J 0], W (af eI 3) [C] t [S (U ⟨C, 0, N⟩) l.length l.length], W (af eI 3) D c [S h c.length m], W (af eI 3) E d [S k d.length o]]) (fun g G => [(6, O (U ⟨A, 0, N⟩)), (7, S (U ⟨C, 0, N⟩) l.length l.length), (8, S h c.length m), (9, S k d.length o), (13, I J s), (14, I J g), (15, I J G)]) (fun kk => fun g G => gz c d s t kk g G = U r) (fun _ _ H => ?_) (fun k3 f6 g G H => ?_) bh (1) (0) (H)) (ss [3, 4, 5, 6] z z) (sb z)
       ·unfold gz at H
        exact absurd H (by simp)
       ·unfold gz at H
        refine ak <| sR <| aa [.p, .p, .lenS 31 3 aO, .p] z <| nQ <| cI H z (fun H => ?_) (fun H => ?_)
        ·exact aw <| az <| ak <| aB <| aT <| aa [.p, .p, .p] z <| bE H fun f7 b7 H => bq (e := eI) (xs := c) (j := G) z z z z z aO ty3 z (au (e := af eI 3) (r := 2) z) b7 (by rw [Nat.mul_one]) <| o1 z (aF z z ty3 (bC (au (e := af eI 3) (r := 2) z) b7)) <| oPP z <| ay <| ca <| az <| aT <| aa [.p, .p, .p] z <| ay <| cQ (RW.at (f6 (J.wrap (g * f7)) (J.wrap (G + 1)) (H)) (ss [0, 1, 2, 3] z z) (sb z))
        ·refine bH <| aN <| aS <| aM <| az <| sR <| oP z <| nQ <| ak <| sR <| oP z <| nQ <| aB <| CW.at (ic (fun (x : Int) (F : Int) => St w [] [b A 186 [I J 0, I J 0], W (af eI 3) [C] t [S (U ⟨C, 0, N⟩) l.length l.length], W (af eI 3) D c [S h c.length m], W (af eI 3) E d [S k d.length o]]) (fun x F => [(6, O (U ⟨A, 0, N⟩)), (7, S (U ⟨C, 0, N⟩) l.length l.length), (8, S h c.length m), (9, S k d.length o), (13, I J s), (14, I J g), (16, I J x), (17, I J F)]) (fun kk => fun x F => gC c d g s t kk x F = U r) (fun _ _ H => ?_) (fun k4 f8 x F H => ?_) bh (0) (0) (H)) (ss [0, 1, 2, 3] z z) (sb z)
         ·unfold gC at H
          exact absurd H (by simp)
         ·unfold gC at H
          refine ak <| sR <| aa [.p, .p, .lenS 31 3 aO, .p] z <| nQ <| cI H z (fun H => ?_) (fun H => ?_)
          ·exact aw <| az <| ak <| aB <| dJ bT (by kernel_rfl) <| aa [.p, .p, .p] z <| bE H fun f9 b8 H => bq (e := eI) (xs := d) (j := F) z z z z z aO ty3 z (au (e := af eI 3) (r := 3) z) b8 (by rw [Nat.mul_one]) <| o1 z (aF z z ty3 (bC (au (e := af eI 3) (r := 3) z) b8)) <| aa [.p, .p, .p, .p, .p] z <| bE H fun i3 b9 H => bq (e := eI) (xs := c) (j := F) z z z z z aO ty3 z (au (e := af eI 3) (r := 2) z) b9 (by rw [Nat.mul_one]) <| o1 z (aF z z ty3 (bC (au (e := af eI 3) (r := 2) z) b9)) <| bE H fun g2 g3 H => o1 z (wu z z z g3) <| aa [.p, .p, .p] z <| cx <| ca <| az <| aT <| aa [.p, .p, .p] z <| ay <| cQ (RW.at (f8 (J.wrap (x + (J.wrap ((J.wrap (f9 * s)) * g2)))) (J.wrap (F + 1)) (H)) (ss [0, 1, 2, 3] z z) (sb z))
          ·exact bH <| aN <| aS <| aM <| az <| sR <| oPP z <| bE H fun a4 g4 H => oq z (qc z AQ (fun f a => oE f g4 (au (e := af eI 3) (r := 1) z f a))) tt2 <| aa [.p, .p, .p, .p] z <| nR <| aa [.p, .p, .p, .p, .p, .p] z <| o1 z (bI [(0, [I J (J.wrap (x - (J.wrap (a4 * g))))]), (1, [I J (J.wrap ((J.wrap (s * s)) * g))])] [I J (J.wrap (x - (J.wrap (a4 * g)))), I J (J.wrap ((J.wrap (s * s)) * g))] z z cq rC z ⟨z, z, nl z, z, z, nl z, Y⟩ z) <| bE H fun L g5 H => oq z (qc z Ci (fun f a => rO f (p0 := (aZ.mk (J.wrap (x - (J.wrap (a4 * g)))) (J.wrap ((J.wrap (s * s)) * g)))) g5)) tt2 <| sC 0 [I J L.C_, I J L.B_] [_, _] 0 z cq z <| nT <| aY (rs := [.cell 6 186]) (vs := [.agg #[I J L.C_, I J L.B_]]) z ⟨⟨_, [I J L.C_, I J L.B_], _, _, _, z, cq, (bl (T := 186) 0 (bK (i := 0) z) z), z, z⟩, Y⟩ (fun w' hw' => by
            obtain rfl := ai H
            exact ⟨z, hw'.ext⟩)
  ·clear H
   have H := a8
   clear a8
   generalize ((!a1) || ((p1.d_.length : Int) == 0)) = g9 at H key ⊢
   cases g9
   ·have H := ba z H
    refine o1 z (rx 0 0 _ z bU z) <| o1 z (rx 0 2 _ z cH z) <| bE H fun i8 h0 H => oq z (qc z vy (fun f a => fX f (p1 := p2) h0 (ah (ab Z f a) (ab a0 f a)))) tt2 <| oP z <| oP z <| ?_
    obtain rfl := ai H
    exact OW.sub key (sb z)
   ·have H := bb z H
    refine aa [.p, .p, .p, .p, .p] z ?_
    obtain rfl := ai H
    exact OW.sub key (sb z)
 ·generalize (!a1) = h2 at key ⊢
  cases h2
  ·exact aa [.fa 69 1 1 dL] z <| o1 z (r1 1 1 z jm z) <| aa [.lenS 67 31 gL, .p] z <| oP z <| OW.sub key (sb z)
  ·exact aa [.p, .p, .p, .p, .p] z <| OW.sub key (sb z)
theorem pX (w : World) {k : List Nat} {p0 : Int} {r : (List Int) × Bool} (H : lD p0 = U r) (HS : St w k [] w) :
    Calls Tryz.prog 199 #[I J p0] w (fun en w' => ∃ v, en = .returned v ∧ ∃ (o : Option Addr), ∃ (q : Nat), ∃ (c0 : Nat), ∃ (C : List Nat), v = .tuple #[S o q c0, B r.2] ∧ St w k [W (af eI 3) C r.1 [S o q c0]] w') := by
 unfold lD at H
 refine aG Tryz.func199 z Tryz.ntmps199 z (HS) <| sR <| oPP z <| nR <| bM (e := eI) z z z z aO ty3 (fun _ => kp) fun g => oP z <| nQ <| ak <| sR <| oPP z <| nQ <| cI H z (fun H => ?_) (fun H => ?_)
 ·exact sR <| aa [.p, .p, .p] z <| nT <| ap <| aY (rs := [.tmp 2, .tmp 3]) (vs := [S (U ⟨g, 0, N⟩) 0 0, B n]) z ⟨z, z, Y⟩ (fun w' hw' => by
   obtain rfl := ai H
   exact ⟨_, z, (U ⟨g, 0, N⟩), 0, 0, [g], z, hw'.sel [0] z z⟩)
 ·refine aw <| az <| ak <| aB <| CW.at (iz (fun (a : Int) (c : List Int) (d : Option Addr) (f : Nat) (h : List Nat) => St w k [W (af eI 3) h c [S d c.length f]]) (fun a c d f h => [(0, I J a), (4, S d c.length f)]) (fun kk => fun a c d f h => d.isNone = n ∧ gF kk a c = U r) (fun _ _ _ _ _ H => ?_) (fun F l a c d f h ⟨D, H⟩ => ?_) bh (p0) (([] : List Int)) ((U ⟨g, 0, N⟩)) (0) ([g]) (⟨z, H⟩)) (ss [0] z z) (sb z)
  ·unfold gF at H
   exact absurd H (by simp)
  ·unfold gF at H
   refine ak <| sR <| oPP z <| nQ <| cI H z (fun H => ?_) (fun H => ?_)
   ·exact aw <| az <| aB <| sR <| aa [.p, .p, .p] z <| bA (val := I J) (h1 := fun _ => z) [Int.tmod a 16777216] [(0, [I J (Int.tmod a 16777216)])] z z z z z aO ty3 z z z ⟨z, z, nl z, Y⟩ z z (fun _ => kp) fun E => bE H fun s j H => bY (r := 0) (ys := ([Int.tmod a 16777216] : List Int)) z z z z z z aO ty3 z z z (au (e := af eI 3) (r := 1) z) j (fun _ _ _ => kp) fun t u x => cg z (fun G A => eD (i := 0) A z (eG j)) fun m => oP z <| nQ <| aT <| aa [.p, .p, .p] z <| ay <| ca <| cQ (RW.at (l (J.wrap (Int.tdiv a 16777216)) (s) (t) (u) (x) (⟨m, H⟩)) (ss [0] z z) (sb z))
   ·exact bH <| aN <| aS <| aM <| az <| sR <| aa [.p, .p, .p] z <| nT <| aY (rs := [.tmp 2, .tmp 3]) (vs := [S d c.length f, B y]) z ⟨z, z, Y⟩ (fun w' hw' => by
     obtain rfl := ai H
     exact ⟨_, z, d, c.length, f, h, z, hw'.sel [0] z z⟩)
theorem jt (w : World) {p0 : List Int} {a_0 : Option Addr} {n_0 c_0 : Nat} {r : Bool} (H : iE p0 = U r) (c : (af eI 3).rd w [] p0 [S a_0 n_0 c_0]) :
    Calls Tryz.prog 196 #[S a_0 n_0 c_0] w (fun en w' => en = .returned (B r) ∧ Ext [] w w') := by
 obtain rfl := ee c
 unfold iE at H
 refine aG Tryz.func196 z Tryz.ntmps196 z (St.init w []) <| sR <| oP z <| nQ <| ak <| sR <| aa [.p, .lenS 31 3 aO, .p] z <| nQ <| cI H z (fun H => ?_) (fun H => ?_)
 ·exact sR <| oP z <| nT <| ap <| xr 2 z (by cases H; exact q1)
 ·refine aw <| az <| ak <| sR <| oP z <| nQ <| aB <| CW.at (fL (fun (a : Int) => St w [] []) (fun a => [(0, S a_0 p0.length c_0), (3, I J a)]) (fun kk => fun a => fu p0 kk a = U r) (fun _ H => ?_) (fun u h a H => ?_) bh (0) (H)) (ss [] z z) (sb z)
  ·unfold fu at H
   exact absurd H (by simp)
  ·unfold fu at H
   refine ak <| sR <| aa [.p, .p, .lenS 31 3 aO, .p] z <| nQ <| cI H z (fun H => ?_) (fun H => ?_)
   ·refine aw <| az <| ak <| aB <| sR <| oPP z <| bE H fun o f H => bq (e := eI) (xs := p0) (j := a) z z z z z aO ty3 z (ab c) f (by rw [Nat.mul_one]) <| o1 z (aF z z ty3 (bC (ab c) f)) <| bE H fun q i H => oq z (qc z gK (fun m s => bf m i)) tt2 <| oP z <| nQ <| cI H z (fun H => ?_) (fun H => ?_)
    ·exact sR <| oP z <| nT <| aP <| ap <| bZ <| aP <| ap <| xr 2 z (by cases H; exact q1)
    ·exact aw <| ca <| az <| aT <| aa [.p, .p, .p] z <| ay <| cQ (RW.at (h (J.wrap (a + 1)) (H)) (ss [] z z) (sb z))
   ·refine bH <| aN <| aS <| aM <| az <| sR <| aa [.p, .lenS 31 3 aO, .p, .p] z <| bE H fun k d H => aQ [(30, B k)] 8 ?_ (fun key => OW.sub (R := [(0, S a_0 p0.length c_0), (22, B ((p0.length : Int) == 0))]) ?_ (sb z))
    ·exact oP z <| nT <| xr 2 z (by cases H; exact q1)
    ·clear H
     have H := d
     clear d
     generalize ((p0.length : Int) == 0) = l at H key ⊢
     cases l
     ·have H := ba z H
      refine aa [.p, .p, .lenS 31 3 aO, .p] z <| bE H fun t g H => bq (e := eI) (xs := p0) (j := J.wrap ((p0.length : Int) - 1)) z z z z z aO ty3 z (ab c) g (by rw [Nat.mul_one]) <| o1 z (aF z z ty3 (bC (ab c) g)) <| oP z <| oP z <| ?_
      obtain rfl := ai H
      exact OW.sub key ⟨z, Y⟩
     ·have H := bb z H
      refine aa [.p, .p, .p, .p, .p, .p, .p, .p] z ?_
      obtain rfl := ai H
      exact OW.sub key ⟨z, Y⟩
theorem pr (w : World) {d : List Nat} {p0 : List Int} {a_0 : Option Addr} {n_0 c_0 : Nat} {r : List Int} (H : kL p0 = U r) (HS : St w d [] w) (h : (af eI 3).rd w d p0 [S a_0 n_0 c_0]) :
    Calls Tryz.prog 201 #[S a_0 n_0 c_0] w (fun en w' => ∃ v, en = .returned v ∧ ∃ (q : Option Addr), ∃ (s : Nat), ∃ (c0 : Nat), ∃ (F : List Nat), v = S q s c0 ∧ St w d [W (af eI 3) F r [S q s c0]] w') := by
 obtain rfl := ee h
 unfold kL at H
 refine aG Tryz.func201 z Tryz.ntmps201 z (HS) <| sR <| oP z <| nR <| aa [.p, .lenS 31 3 aO, .p] z <| nQ <| ak <| aB <| CW.at (fL (fun (a : Int) => St w d []) (fun a => [(0, S a_0 p0.length c_0), (3, I J a)]) (fun kk => fun a => fY p0 kk a = U r) (fun _ H => ?_) (fun P o a H => ?_) bh ((p0.length : Int)) (H)) (ss [] z z) (sb z)
 ·unfold fY at H
  exact absurd H (by simp)
 ·unfold fY at H
  refine ak <| sR <| aa [.p, .p, .p] z <| bE H fun t f H => aQ [(15, B t), (0, S a_0 p0.length c_0), (3, I J a)] 7 ?_ (fun key => OW.sub (R := [(0, S a_0 p0.length c_0), (3, I J a), (8, B (decide (a > 0)))]) ?_ (sb z))
  ·refine nQ <| cI H z (fun H => ?_) (fun H => ?_)
   ·exact aw <| az <| aB <| aT <| aa [.p, .p, .p] z <| ay <| ca <| cQ (RW.at (o (J.wrap (a - 1)) (H)) (ss [] z z) (sb z))
   ·refine bH <| aN <| aS <| aM <| az <| sR <| bM (e := eI) z z z z aO ty3 (fun _ => kp) fun G => oPP z <| bE H fun g u H => wT z z z z aO ty3 z z z u h fun L c => ?_
    obtain ⟨x, A, rfl⟩ := AR c
    have c : (af eI 3).rd w d g [S x g.length A] := c
    exact bE H fun i C H => bY (r := 0) (ys := g) z z z z z z aO ty3 z z z (ab c) C (fun _ _ _ => kp) fun k l D => oP z <| nT <| aY (rs := [.tmp 2]) (vs := [S k i.length l]) z ⟨z, Y⟩ (fun w' hw' => by
     obtain rfl := ai H
     exact ⟨_, z, k, i.length, l, D, z, hw'.sel [0] z z⟩)
  ·clear H
   have H := f
   clear f
   generalize (decide (a > 0)) = E at H key ⊢
   cases E
   ·have H := ba z H
    refine aa [.p, .p, .p, .p, .p, .p, .p] z ?_
    obtain rfl := ai H
    exact OW.sub key (sb z)
   ·have H := bb z H
    refine aa [.p, .p, .p] z <| bE H fun M m H => bq (e := eI) (xs := p0) (j := J.wrap (a - 1)) z z z z z aO ty3 z (ab h) m (by rw [Nat.mul_one]) <| o1 z (aF z z ty3 (bC (ab h) m)) <| oP z <| oP z <| ?_
    obtain rfl := ai H
    exact OW.sub key (sb z)
theorem jz (w : World) {o : List Nat} {p0 : List Int} {p1 : List Int} {a_0 : Option Addr} {n_0 c_0 : Nat} {a_1 : Option Addr} {n_1 c_1 : Nat} {r : (List Int) × Bool} (H : iy p0 p1 = U r) (HS : St w o [] w) (Z : (af eI 3).rd w o p0 [S a_0 n_0 c_0]) (g1 : (af eI 3).rd w o p1 [S a_1 n_1 c_1]) :
    Calls Tryz.prog 190 #[S a_0 n_0 c_0, S a_1 n_1 c_1] w (fun en w' => ∃ v, en = .returned v ∧ ∃ (a0 : Option Addr), ∃ (n0 : Nat), ∃ (c0 : Nat), ∃ (F0 : List Nat), v = .tuple #[S a0 n0 c0, B r.2] ∧ St w o [W (af eI 3) F0 r.1 [S a0 n0 c0]] w') := by
 obtain rfl := ee Z
 obtain rfl := ee g1
 unfold iy at H
 refine aG Tryz.func190 z Tryz.ntmps190 z (HS) <| sR <| oPP z <| nQ <| ak <| sR <| oP z <| bE H fun a3 b1 H => oq z (qc z tT (fun m h => jt m b1 (ab Z m h))) tt2 <| oPP z <| bE H fun b2 t H => aQ [(18, B b2), (0, S a_0 p0.length c_0), (1, S a_1 p1.length c_1)] 4 ?_ (fun key => OW.sub (R := [(0, S a_0 p0.length c_0), (1, S a_1 p1.length c_1), (14, B (!a3))]) ?_ (sb z))
 ·refine nQ <| cI H z (fun H => ?_) (fun H => ?_)
  ·exact sR <| bM (e := eI) z z z z aO ty3 (fun _ => kp) fun u => oPP z <| nT <| ap <| aY (rs := [.tmp 4, .tmp 5]) (vs := [S (U ⟨u, 0, N⟩) 0 0, B n]) z ⟨z, z, Y⟩ (fun w' hw' => by
    obtain rfl := ai H
    exact ⟨_, z, (U ⟨u, 0, N⟩), 0, 0, [u], z, hw'.sel [0] z z⟩)
  ·refine aw <| az <| sR <| aa [.p, .lenS 31 3 aO, .p, .lenS 31 3 aO, .p, .p] z <| bE H fun g b3 H => pG (e := eI) (zero := (0 : Int)) z z z z z z aO ty3 z z z z (fun _ => ⟨z, z⟩) b3 (fun _ => kp) fun k => oP z <| nQ <| ak <| sR <| oP z <| nQ <| aB <| CW.at (ic (fun (l : List Int) (a : Int) => St w o [W (af eI 3) [k] l [S (U ⟨k, 0, N⟩) g.length g.length]]) (fun l a => [(0, S a_0 p0.length c_0), (1, S a_1 p1.length c_1), (6, S (U ⟨k, 0, N⟩) g.length g.length), (7, I J a)]) (fun kk => fun l a => eS p0 p1 kk l a = U r) (fun _ _ H => ?_) (fun k1 a4 l a H => ?_) bh (g) (0) (H)) (ss [0] z z) (sb z)
   ·unfold eS at H
    exact absurd H (by simp)
   ·unfold eS at H
    refine ak <| sR <| aa [.p, .p, .lenS 31 3 aO, .p] z <| nQ <| cI H z (fun H => ?_) (fun H => ?_)
    ·refine aw <| az <| ak <| aB <| sR <| oP z <| nQ <| ak <| sR <| oP z <| nQ <| aB <| CW.at (yN (fun (c : List Int) (f : Int) (d : Int) => St w o [W (af eI 3) [k] c [S (U ⟨k, 0, N⟩) g.length g.length]]) (fun c f d => [(0, S a_0 p0.length c_0), (1, S a_1 p1.length c_1), (6, S (U ⟨k, 0, N⟩) g.length g.length), (7, I J a), (8, I J f), (9, I J d)]) (fun kk => fun c f d => eV p1 a p0 (eS p0 p1 k1) kk c f d = U r) (fun _ _ _ H => ?_) (fun k2 a5 c f d H => ?_) bh (l) (0) (0) (H)) (ss [0] z z) (sb z)
     ·unfold eV at H
      exact absurd H (by simp)
     ·unfold eV at H
      refine ak <| sR <| aa [.p, .p, .lenS 31 3 aO, .p] z <| nQ <| cI H z (fun H => ?_) (fun H => ?_)
      ·exact aw <| az <| ak <| aB <| ak <| dJ bT (by kernel_rfl) <| aa [.p, .p, .p, .p] z <| bE H fun x A H => bq (e := eI) (xs := c) (j := J.wrap (a + d)) z z z z z aO ty3 z (au (e := af eI 3) (r := 0) z) A (by rw [Nat.mul_one]) <| o1 z (aF z z ty3 (bC (au (e := af eI 3) (r := 0) z) A)) <| oPP z <| bE H fun C D H => bq (e := eI) (xs := p0) (j := a) z z z z z aO ty3 z (ab Z) D (by rw [Nat.mul_one]) <| o1 z (aF z z ty3 (bC (ab Z) D)) <| oPP z <| bE H fun E F H => bq (e := eI) (xs := p1) (j := d) z z z z z aO ty3 z (ab g1) F (by rw [Nat.mul_one]) <| o1 z (aF z z ty3 (bC (ab g1) F)) <| aa [.p, .p, .p, .p, .p] z <| cx <| az <| sR <| aa [.p, .p, .p, .p, .p, .p] z <| bE H fun b8 G H => bq (e := eI) (xs := c) (j := J.wrap (a + d)) z z z z z aO ty3 z (au (e := af eI 3) (r := 0) z) G (by rw [Nat.mul_one]) <| jK (i := 0) (j := J.wrap (a + d)) z z z z z z ty3 z G (fun _ => z) kp <| nQ <| aT <| aa [.p, .p, .p] z <| ay <| ca <| az <| aT <| aa [.p, .p, .p] z <| ay <| cQ (RW.at (a5 ((c.set (J.wrap (a + d)).toNat (Int.tmod (J.wrap ((J.wrap (x + (J.wrap (C * E)))) + f)) 16777216))) (J.wrap (Int.tdiv (J.wrap ((J.wrap (x + (J.wrap (C * E)))) + f)) 16777216)) (J.wrap (d + 1)) (H)) (ss [0] z z) (sb z))
      ·exact bH <| aN <| aS <| aM <| az <| aT <| aa [.p, .p, .p, .lenS 31 3 aO, .p, .p, .p, .p, .lenS 31 3 aO, .p] z <| bE H fun a6 L H => bq (e := eI) (xs := c) (j := J.wrap (a + (p1.length : Int))) z z z z z aO ty3 z (au (e := af eI 3) (r := 0) z) L (by rw [Nat.mul_one]) <| o1 z (aF z z ty3 (bC (au (e := af eI 3) (r := 0) z) L)) <| oPP z <| bE H fun b9 M H => bq (e := eI) (xs := c) (j := J.wrap (a + (p1.length : Int))) z z z z z aO ty3 z (au (e := af eI 3) (r := 0) z) M (by rw [Nat.mul_one]) <| jK (i := 0) (j := J.wrap (a + (p1.length : Int))) z z z z z z ty3 z M (fun _ => z) kp <| ay <| ca <| az <| aT <| aa [.p, .p, .p] z <| ay <| cQ (RW.at (a4 ((c.set (J.wrap (a + (p1.length : Int))).toNat (J.wrap (a6 + f)))) (J.wrap (a + 1)) (H)) (ss [0] z z) (sb z))
    ·refine bH <| aN <| aS <| aM <| az <| sR <| oP z <| bE H fun P a7 H => aq z AO z z z z (fun m h => pr m a7 (h.carve [] z z) (au (e := af eI 3) (r := 0) z m h)) fun c1 m w2 h a2 => ?_
     obtain ⟨Q, c2, X, a8, rfl, s⟩ := a2
     obtain rfl := aH (i := 0) s z
     refine ⟨St w o [_, _], h.comp [] z z s, fun _ _ => Y, ?_⟩
     refine oP z <| nQ <| ak <| sR <| aa [.p, .lenS 31 3 aO, .p] z <| nQ <| cI H z (fun H => ?_) (fun H => ?_)
     ·exact sR <| bM (e := eI) z z z z aO ty3 (fun _ => kp) fun q => oPP z <| nT <| ap <| aY (rs := [.tmp 4, .tmp 5]) (vs := [S (U ⟨q, 0, N⟩) 0 0, B n]) z ⟨z, z, Y⟩ (fun w' hw' => by
       obtain rfl := ai H
       exact ⟨_, z, (U ⟨q, 0, N⟩), 0, 0, [q], z, hw'.sel [2] z z⟩)
     ·exact aw <| az <| sR <| aa [.p, .p, .p] z <| nT <| aY (rs := [.tmp 4, .tmp 5]) (vs := [S Q P.length X, B y]) z ⟨z, z, Y⟩ (fun w' hw' => by
       obtain rfl := ai H
       exact ⟨_, z, Q, P.length, X, a8, z, hw'.sel [1] z z⟩)
 ·clear H
  have H := t
  clear t
  generalize (!a3) = b4 at H key ⊢
  cases b4
  ·have H := ba z H
   refine oP z <| bE H fun c3 b5 H => oq z (qc z tT (fun m h => jt m b5 (ab g1 m h))) tt2 <| oP z <| oP z <| ?_
   obtain rfl := ai H
   exact OW.sub key (sb z)
  ·have H := bb z H
   refine aa [.p, .p, .p, .p] z ?_
   obtain rfl := ai H
   exact OW.sub key (sb z)
theorem gk (w : World) {d : List Nat} {p0 : Int} {p1 : Int} {r : List Int} (H : fC p0 p1 = U r) (HS : St w d [] w) :
    Calls Tryz.prog 188 #[I J p0, I J p1] w (fun en w' => ∃ v, en = .returned v ∧ ∃ (s : Option Addr), ∃ (t : Nat), ∃ (c0 : Nat), ∃ (E : List Nat), v = S s t c0 ∧ St w d [W (af eI 3) E r [S s t c0]] w') := by
 unfold fC at H
 refine aG Tryz.func188 z Tryz.ntmps188 z (HS) <| sR <| oP z <| nR <| oP z <| bE H fun F u H => aq z AV z z z z (fun c a => pX c u (a.carve [] z z)) fun G c x a m => ?_
 obtain ⟨L, M, P, Q, rfl, f⟩ := m
 obtain rfl := aH (i := 0) f z
 refine ⟨St w d [_], a.comp [] z z f, fun _ _ => Y, ?_⟩
 refine aa [.p, .p, .p, .p, .p] z <| nR <| oP z <| bE H fun R A H => aq z AV z z z z (fun c a => pX c A (a.carve [] z z)) fun X c x a o => ?_
 obtain ⟨Z, a1, a2, a3, rfl, g⟩ := o
 obtain rfl := aH (i := 0) g z
 refine ⟨St w d [_, _], a.comp [] z z g, fun _ _ => Y, ?_⟩
 refine aa [.p, .p, .p, .p, .p] z <| nR <| oPP z <| bE H fun j C H => aq z vG z z z z (fun c a => jz c C (a.carve [] z z) (au (e := af eI 3) (r := 0) z c a) (au (e := af eI 3) (r := 1) z c a)) fun a4 c x a q => ?_
 obtain ⟨k, a5, l, D, rfl, h⟩ := q
 obtain rfl := aH (i := 0) h z
 refine ⟨St w d [_, _, _], a.comp [] z z h, fun _ _ => Y, ?_⟩
 exact aa [.p, .p, .p, .p, .p] z <| nR <| oPP z <| nT <| aY (rs := [.tmp 4]) (vs := [S k j.1.length l]) z ⟨z, Y⟩ (fun w' hw' => by
  obtain rfl := ai H
  exact ⟨_, z, k, j.1.length, l, D, z, hw'.sel [2] z z⟩)
theorem tF (w : World) {p0 : Int} {p1 : Int} {r : Int} (H : mV p0 p1 = U r)   :
    Calls Tryz.prog 197 #[I J p0, I J p1] w (fun en w' => en = .returned (I J r) ∧ Ext [] w w') := by
 unfold mV at H
 refine aG Tryz.func197 z Tryz.ntmps197 z (St.init w []) <| sR <| oP z <| nQ <| ak <| sR <| aa [.p, .p, .p] z <| nQ <| cI H z (fun H => ?_) (fun H => ?_)
 ·exact sR <| oPP z <| nT <| ap <| xr 4 z (by cases H; exact q1)
 ·exact aw <| az <| sR <| oPP z <| nT <| xr 4 z (by cases H; exact q1)
theorem mT (w : World) {p0 : List Int} {p1 : Int} {a_0 : Option Addr} {n_0 c_0 : Nat} {r : Int} (H : jB p0 p1 = U r) (c : (af eI 3).rd w [] p0 [S a_0 n_0 c_0]) :
    Calls Tryz.prog 198 #[S a_0 n_0 c_0, I J p1] w (fun en w' => en = .returned (I J r) ∧ Ext [] w w') := by
 obtain rfl := ee c
 unfold jB at H
 refine aG Tryz.func198 z Tryz.ntmps198 z (St.init w []) <| sR <| oP z <| nQ <| ak <| sR <| aa [.p, .p, .lenS 31 3 aO, .p] z <| nQ <| cI H z (fun H => ?_) (fun H => ?_)
 ·exact sR <| oPP z <| bE H fun d a H => bq (e := eI) (xs := p0) (j := p1) z z z z z aO ty3 z (ab c) a (by rw [Nat.mul_one]) <| o1 z (aF z z ty3 (bC (ab c) a)) <| oP z <| nT <| ap <| xr 4 z (by cases H; exact q1)
 ·exact aw <| az <| sR <| oP z <| nT <| xr 4 z (by cases H; exact q1)
theorem na (w : World) {p0 : List Int} {p1 : List Int} {a_0 : Option Addr} {n_0 c_0 : Nat} {a_1 : Option Addr} {n_1 c_1 : Nat} {r : Int} (H : jG p0 p1 = U r) (g : (af eI 3).rd w [] p0 [S a_0 n_0 c_0]) (h : (af eI 3).rd w [] p1 [S a_1 n_1 c_1]) :
    Calls Tryz.prog 187 #[S a_0 n_0 c_0, S a_1 n_1 c_1] w (fun en w' => en = .returned (I J r) ∧ Ext [] w w') := by
 obtain rfl := ee g
 obtain rfl := ee h
 unfold jG at H
 refine aG Tryz.func187 z Tryz.ntmps187 z (St.init w []) <| sR <| oP z <| nQ <| ak <| sR <| oP z <| bE H fun f j H => oq z (qc z tT (fun a c => jt a j (ab g a c))) tt2 <| oPP z <| bE H fun k e H => aQ [(15, B k), (0, S a_0 p0.length c_0), (1, S a_1 p1.length c_1)] 4 ?_ (fun key => OW.sub (R := [(0, S a_0 p0.length c_0), (1, S a_1 p1.length c_1), (11, B (!f))]) ?_ (sb z))
 ·refine nQ <| cI H z (fun H => ?_) (fun H => ?_)
  ·exact sR <| oP z <| nT <| ap <| xr 4 z (by cases H; exact q1)
  ·refine aw <| az <| ak <| sR <| aa [.p, .lenS 31 3 aO, .p, .lenS 31 3 aO] z <| bE H fun l m H => oq z (qc z Cx (fun a c => tF a m)) tt2 <| oPP z <| nQ <| aB <| CW.at (fL (fun (d : Int) => St w [] []) (fun d => [(0, S a_0 p0.length c_0), (1, S a_1 p1.length c_1), (5, I J d)]) (fun kk => fun d => fW p0 p1 kk d = U r) (fun _ H => ?_) (fun A i d H => ?_) bh (J.wrap (l - 1)) (H)) (ss [] z z) (sb z)
   ·unfold fW at H
    exact absurd H (by simp)
   ·unfold fW at H
    refine ak <| sR <| oPP z <| nQ <| cI H z (fun H => ?_) (fun H => ?_)
    ·refine aw <| az <| ak <| aB <| sR <| oPP z <| bE H fun u o H => oq z (qc z yS (fun a c => mT a o (ab g a c))) tt2 <| oP z <| nR <| oPP z <| bE H fun v q H => oq z (qc z yS (fun a c => mT a q (ab h a c))) tt2 <| oP z <| nQ <| ak <| sR <| aa [.p, .p, .p] z <| nQ <| cI H z (fun H => ?_) (fun H => ?_)
     ·exact sR <| oP z <| nT <| ap <| aP <| ap <| bZ <| aP <| ap <| xr 4 z (by cases H; exact q1)
     ·refine aw <| az <| sR <| aa [.p, .p, .p] z <| nQ <| cI H z (fun H => ?_) (fun H => ?_)
      ·exact sR <| oP z <| nT <| aP <| ap <| bZ <| aP <| ap <| xr 4 z (by cases H; exact q1)
      ·exact aw <| ca <| az <| aT <| aa [.p, .p, .p] z <| ay <| cQ (RW.at (i (J.wrap (d - 1)) (H)) (ss [] z z) (sb z))
    ·exact bH <| aN <| aS <| aM <| az <| sR <| oP z <| nT <| xr 4 z (by cases H; exact q1)
 ·clear H
  have H := e
  clear e
  generalize (!f) = s at H key ⊢
  cases s
  ·have H := ba z H
   refine oP z <| bE H fun x t H => oq z (qc z tT (fun a c => jt a t (ab h a c))) tt2 <| oP z <| oP z <| ?_
   obtain rfl := ai H
   exact OW.sub key (sb z)
  ·have H := bb z H
   refine aa [.p, .p, .p, .p] z ?_
   obtain rfl := ai H
   exact OW.sub key (sb z)
end Go.Vk
