/- The code does what the functions of data say. Printed by program. -/
import Derived.Test.YtdckhcfbccnjiaaGreatWLTE
namespace Go.Vk
open Value renaming int → I, slice → S, pointer → O, bool → B
open IntKind renaming i64 → J, u8 → K
open Bool renaming true → y, false → n
open Option renaming some → U, none → N
open Res renaming box → b, own → W
open Go.Proofs Go.RowKit
set_option maxHeartbeats 4000000
set_option maxRecDepth 100000
theorem ra (w : World) {p0 : aG} {m : List Value} {r : Bool} (H : jS p0 = U r) (g0 : (aC).rd w [] p0 m) :
    Calls Tryz.prog 24 #[.agg m.toArray] w (fun en w' => en = .returned (B r) ∧ Ext [] w w') := by
 obtain ⟨b5, b6, b7, b8, b9, c0, c1, c2, c3, c4, rfl, A, C, o, D, E, F, q, G, L, M⟩ := bo g0
 obtain rfl := A
 obtain rfl := C
 obtain ⟨P, Q, rfl⟩ := ao o
 obtain rfl := D
 obtain ⟨c5, c6, rfl, s, t⟩ := aS E
 obtain ⟨X, Z, rfl⟩ := ao s
 obtain ⟨a0, a1, rfl⟩ := ao t
 obtain rfl := F
 obtain ⟨a2, a3, rfl⟩ := ao q
 obtain rfl := G
 obtain rfl := L
 obtain rfl := M
 unfold jS at H
 refine aN Tryz.func24 z Tryz.ntmps24 z (St.init w []) <| sR <| ob _ z fun d => oP z <| nQ <| am <| sR <| aa [.fa 60 1 1 kL, .fa 56 0 0 lj] z <| o1 z (r1 1 0 z ty3 z) <| aa [.fa 60 1 1 kL, .fa 56 1 1 oB] z <| o1 z (r1 2 0 z ty3 z) <| aa [.fa 60 3 4 pb] z <| o1 z (r1 4 0 z ty3 z) <| aa [.fa 60 5 7 lE] z <| o1 z (r1 7 0 z ty3 z) <| aa [.fa 60 7 9 ky] z <| o1 z (r1 9 0 z ty3 z) <| aa [.fa 60 8 10 nw] z <| o1 z (r1 10 0 z ty3 z) <| aa [.fa 60 9 11 nx] z <| o1 z (r1 11 0 z ty3 z) <| bq (val := I J) (h1 := fun _ => z) [p0.k_.j_, p0.k_.c_, p0.x_, p0.v_, p0.l_, p0.p_, p0.q_] [(0, [I J p0.k_.j_]), (1, [I J p0.k_.c_]), (2, [I J p0.x_]), (3, [I J p0.v_]), (4, [I J p0.l_]), (5, [I J p0.p_]), (6, [I J p0.q_])] z z z z z aT ty3 z z z ⟨z, z, nl z, z, z, nl z, z, z, nl z, z, z, nl z, z, z, nl z, z, z, nl z, z, z, nl z, Y⟩ z z (fun _ => kp) fun c7 => bE H fun u a4 H => oq z (qc z xW (fun a c => gr a a4 (ap (e := ad eI 3) (r := 1) z a c))) tt2 <| oPP z <| bE H fun g h H => aV [(28, B g), (1, O (U ⟨d, 0, N⟩))] 5 ?_ (fun key => OW.sub (R := [(1, O (U ⟨d, 0, N⟩)), (23, B (!u))]) ?_ (sb z))
 ·refine oP z <| bE H fun i j H => aV [(34, B i), (1, O (U ⟨d, 0, N⟩))] 5 ?_ (fun key => OW.sub (R := [(1, O (U ⟨d, 0, N⟩)), (29, B g)]) ?_ (sb z))
  ·refine oP z <| bE H fun a5 k H => aV [(41, B a5), (1, O (U ⟨d, 0, N⟩))] 6 ?_ (fun key => OW.sub (R := [(1, O (U ⟨d, 0, N⟩)), (35, B i)]) ?_ (sb z))
   ·refine nQ <| cI H z (fun H => ?_) (fun H => ?_)
    ·exact sR <| oP z <| nT <| aq <| xr 2 z (by cases H; exact q1)
    ·refine av <| az <| am <| sR <| oP z <| nQ <| ay <| CW.at (gF (fun (f : Int) => St w [] [b d 60 [B p0.s_, I J p0.k_.j_, I J p0.k_.c_, S P p0.t_.length Q, I J p0.x_, S X p0.m_.d_.length Z, S a0 p0.m_.b_.length a1, I J p0.v_, S a2 p0.f_.length a3, I J p0.l_, I J p0.p_, I J p0.q_]]) (fun f => [(1, O (U ⟨d, 0, N⟩)), (3, I J f)]) (fun kk => fun f => fg p0 kk f = U r) (fun _ H => ?_) (fun k1 v f H => ?_) aY (0) (H)) (ss [0] z z) (sb z)
     ·unfold fg at H
      exact absurd H (by simp)
     ·unfold fg at H
      refine am <| sR <| aa [.p, .fa 60 4 5 ep, .fa 58 1 1 dt] z <| o1 z (r1 6 0 z cY z) <| aa [.lenS 28 45 cC, .p] z <| nQ <| cI H z (fun H => ?_) (fun H => ?_)
      ·refine av <| az <| am <| ay <| sR <| aa [.fa 60 4 5 ep, .fa 58 1 1 dt] z <| o1 z (r1 6 0 z cY z) <| oP z <| bE H fun c8 a6 H => cf z z z z z cC bG z t a6 fun c9 d0 l x => ?_
       obtain ⟨d1, d2, rfl⟩ := ao l
       refine o1 z (aM z z bG (ce bor x)) <| bE H fun d3 a7 H => oq z (qc z xW (fun a c => gr a a7 (ab l a c))) tt2 <| oP z <| nQ <| cI H z (fun H => ?_) (fun H => ?_)
       ·exact sR <| oP z <| nT <| ba <| aq <| cd <| ba <| aq <| xr 2 z (by cases H; exact q1)
       ·exact av <| bW <| az <| aP <| aa [.p, .p, .p] z <| ax <| ct (RW.at (v (J.wrap (f + 1)) (H)) (ss [0] z z) (sb z))
      ·exact bx <| aK <| aR <| aL <| az <| sR <| oP z <| nT <| xr 2 z (by cases H; exact q1)
   ·clear H
    have H := k
    clear k
    generalize i = a8 at H key ⊢
    cases a8
    ·have H := bh z H
     refine aa [.fa 60 4 5 ep, .fa 58 0 0 jc] z <| o1 z (r1 5 0 z bG z) <| bE H fun d4 a9 H => oq z (qc z xW (fun a c => gr a a9 (ab s a c))) tt2 <| oP z <| oP z <| ?_
     obtain rfl := af H
     exact OW.sub key (sb z)
    ·have H := bi z H
     refine aa [.p, .p, .p, .p, .p, .p] z ?_
     obtain rfl := af H
     exact OW.sub key (sb z)
  ·clear H
   have H := j
   clear j
   generalize g = b0 at H key ⊢
   cases b0
   ·have H := bh z H
    refine aa [.fa 60 6 8 mM] z <| o1 z (r1 8 0 z bG z) <| bE H fun d5 b1 H => oq z (qc z xW (fun a c => gr a b1 (ab q a c))) tt2 <| oP z <| oP z <| ?_
    obtain rfl := af H
    exact OW.sub key (sb z)
   ·have H := bi z H
    refine aa [.p, .p, .p, .p, .p] z ?_
    obtain rfl := af H
    exact OW.sub key (sb z)
 ·clear H
  have H := h
  clear h
  generalize (!u) = b2 at H key ⊢
  cases b2
  ·have H := bh z H
   refine aa [.fa 60 2 3 iX] z <| o1 z (r1 3 0 z bG z) <| bE H fun d6 b3 H => oq z (qc z xW (fun a c => gr a b3 (ab o a c))) tt2 <| oP z <| oP z <| ?_
   obtain rfl := af H
   exact OW.sub key (sb z)
  ·have H := bi z H
   refine aa [.p, .p, .p, .p, .p] z ?_
   obtain rfl := af H
   exact OW.sub key (sb z)
theorem lA (w : World) {l : List Nat} {p0 : List Int} {a_0 : Option Addr} {n_0 c_0 : Nat} {r : List Int} (H : iy p0 = U r) (HS : St w l [] w) (s : (ad eI 3).rd w l p0 [S a_0 n_0 c_0]) :
    Calls Tryz.prog 42 #[S a_0 n_0 c_0] w (fun en w' => ∃ v, en = .returned v ∧ ∃ (C : Option Addr), ∃ (D : Nat), ∃ (c0 : Nat), ∃ (F0 : List Nat), v = S C D c0 ∧ St w l [W (ad e8 5) F0 r [S C D c0]] w') := by
 obtain rfl := fp s
 unfold iy at H
 refine aN Tryz.func42 z Tryz.ntmps42 z (HS) <| sR <| oP z <| nQ <| am <| sR <| oP z <| bE H fun a6 E H => oq z (qc z xW (fun h a => gr h E (ab s h a))) tt2 <| oP z <| nQ <| cI H z (fun H => ?_) (fun H => ?_)
 ·exact sR <| bI (e := e8) z z z z fQ ty5 (fun _ => kp) fun m => oP z <| nT <| aq <| aO (rs := [.tmp 2]) (vs := [S (U ⟨m, 0, N⟩) 0 0]) z ⟨z, Y⟩ (fun w' hw' => by
   obtain rfl := af H
   exact ⟨_, z, (U ⟨m, 0, N⟩), 0, 0, [m], z, hw'.sel [0] z z⟩)
 ·refine av <| az <| sR <| aa [.p, .lenS 45 3 aT] z <| bE H fun F G H => aj z tr z z z z (fun h a => dK h G (a.carve [] z z)) fun a7 h w2 a u => ?_
  obtain ⟨L, a8, M, P, rfl, o⟩ := u
  obtain rfl := aA (i := 0) o z
  refine ⟨St w l [_], a.comp [] z z o, fun _ _ => Y, ?_⟩
  refine oP z <| nQ <| am <| sR <| oP z <| nQ <| ay <| CW.at (iw (fun (c : List Int) (d : Option Addr) (f : Nat) (k : List Nat) (g : Int) => St w l [W (ad e8 5) k c [S d c.length f]]) (fun c d f k g => [(0, S a_0 p0.length c_0), (3, S d c.length f), (4, I J g)]) (fun kk => fun c d f k g => ij p0 kk c g = U r) (fun _ _ _ _ _ H => ?_) (fun k1 x c d f k g H => ?_) aY (F) (L) (M) (P) (0) (H)) (ss [0] z z) (sb z)
  ·unfold ij at H
   exact absurd H (by simp)
  ·unfold ij at H
   refine am <| sR <| aa [.p, .p, .lenS 45 3 aT, .p] z <| nQ <| cI H z (fun H => ?_) (fun H => ?_)
   ·refine av <| az <| am <| ay <| aP <| aa [.p, .p, .p] z <| bE H fun a9 t H => bF (e := eI) (xs := p0) (j := g) z z z z z aT ty3 z (ab s) t (by rw [Nat.mul_one]) <| o1 z (aM z z ty3 (bO (ab s) t)) <| bE H fun Q R H => aj z tr z z z z (fun h a => dK h R (a.carve [] z z)) fun b0 h w2 a A => ?_
    obtain ⟨b1, b2, b3, b4, rfl, q⟩ := A
    obtain rfl := aA (i := 0) q z
    refine ⟨St w l [_, _], a.comp [] z z q, fun _ _ => Y, ?_⟩
    exact bE H fun X Z H => bC (r := 0) (ys := Q) z z z z z z fQ ty5 z z z (ap (e := ad e8 5) (r := 1) z) Z (fun _ _ _ => kp) fun a1 a2 a3 => oP z <| ax <| bW <| az <| aP <| aa [.p, .p, .p] z <| ax <| ct (RW.at (x (X) (a1) (a2) (a3) (J.wrap (g + 1)) (H)) (ss [0] z z) (sb z))
   ·exact bx <| aK <| aR <| aL <| az <| sR <| oPP z <| nT <| aO (rs := [.tmp 2]) (vs := [S d c.length f]) z ⟨z, Y⟩ (fun w' hw' => by
     obtain rfl := af H
     exact ⟨_, z, d, c.length, f, k, z, hw'.sel [0] z z⟩)
theorem nD (w : World) {j : List Nat} {p0 : List (List Int)} {a_0 : Option Addr} {n_0 c_0 : Nat} {r : List Int} (H : gH p0 = U r) (HS : St w j [] w) (x : (ad (ad eI 3) 45).rd w j p0 [S a_0 n_0 c_0]) :
    Calls Tryz.prog 28 #[S a_0 n_0 c_0] w (fun en w' => ∃ v, en = .returned v ∧ ∃ (A : Option Addr), ∃ (C : Nat), ∃ (c0 : Nat), ∃ (F0 : List Nat), v = S A C c0 ∧ St w j [W (ad e8 5) F0 r [S A C c0]] w') := by
 obtain rfl := fp x
 unfold gH at H
 refine aN Tryz.func28 z Tryz.ntmps28 z (HS) <| sR <| oP z <| nR <| aa [.p, .lenS 28 45 cC] z <| bE H fun D E H => aj z tr z z z z (fun k c => dK k E (c.carve [] z z)) fun a5 k w2 c q => ?_
 obtain ⟨F, a6, G, L, rfl, l⟩ := q
 obtain rfl := aA (i := 0) l z
 refine ⟨St w j [_], c.comp [] z z l, fun _ _ => Y, ?_⟩
 refine oP z <| nQ <| am <| sR <| oP z <| nQ <| ay <| CW.at (iw (fun (a : List Int) (d : Option Addr) (f : Nat) (h : List Nat) (g : Int) => St w j [W (ad e8 5) h a [S d a.length f]]) (fun a d f h g => [(0, S a_0 p0.length c_0), (3, S d a.length f), (4, I J g)]) (fun kk => fun a d f h g => gk p0 kk a g = U r) (fun _ _ _ _ _ H => ?_) (fun k1 s a d f h g H => ?_) aY (D) (F) (G) (L) (0) (H)) (ss [0] z z) (sb z)
 ·unfold gk at H
  exact absurd H (by simp)
 ·unfold gk at H
  refine am <| sR <| aa [.p, .p, .lenS 28 45 cC, .p] z <| nQ <| cI H z (fun H => ?_) (fun H => ?_)
  ·refine av <| az <| am <| ay <| aP <| aa [.p, .p, .p] z <| bE H fun a7 M H => cf z z z z z cC bG z x M fun a8 a9 m t => ?_
   obtain ⟨b0, b1, rfl⟩ := ao m
   refine o1 z (aM z z bG (ce bor t)) <| bE H fun P Q H => aj z CR z z z z (fun k c => lA k Q (c.carve [] z z) (ab m k c)) fun b2 k w2 c u => ?_
   obtain ⟨b3, b4, b5, b6, rfl, o⟩ := u
   obtain rfl := aA (i := 0) o z
   refine ⟨St w j [_, _], c.comp [] z z o, fun _ _ => Y, ?_⟩
   exact bE H fun R X H => bC (r := 0) (ys := P) z z z z z z fQ ty5 z z z (ap (e := ad e8 5) (r := 1) z) X (fun _ _ _ => kp) fun Z a1 a2 => oP z <| ax <| bW <| az <| aP <| aa [.p, .p, .p] z <| ax <| ct (RW.at (s (R) (Z) (a1) (a2) (J.wrap (g + 1)) (H)) (ss [0] z z) (sb z))
  ·exact bx <| aK <| aR <| aL <| az <| sR <| oPP z <| nT <| aO (rs := [.tmp 2]) (vs := [S d a.length f]) z ⟨z, Y⟩ (fun w' hw' => by
    obtain rfl := af H
    exact ⟨_, z, d, a.length, f, h, z, hw'.sel [0] z z⟩)
theorem rE (w : World) {d : List Nat} {p0 : aG} {X : List Value} {r : List Int} (H : ke p0 = U r) (HS : St w d [] w) (g0 : (aC).rd w d p0 X) :
    Calls Tryz.prog 25 #[.agg X.toArray] w (fun en w' => ∃ v, en = .returned v ∧ ∃ (a0 : Option Addr), ∃ (n0 : Nat), ∃ (c0 : Nat), ∃ (F0 : List Nat), v = S a0 n0 c0 ∧ St w d [W (ad e8 5) F0 r [S a0 n0 c0]] w') := by
 obtain ⟨m6, m7, m8, m9, n1, n2, n3, n4, n5, n6, rfl, d4, d5, Z, d6, d7, d8, a1, d9, e0, e1⟩ := bo g0
 obtain rfl := d4
 obtain rfl := d5
 obtain ⟨n7, n8, rfl⟩ := ao Z
 obtain rfl := d6
 obtain ⟨n9, o0, rfl, a2, a3⟩ := aS d7
 obtain ⟨o2, o3, rfl⟩ := ao a2
 obtain ⟨o4, o5, rfl⟩ := ao a3
 obtain rfl := d8
 obtain ⟨o6, o7, rfl⟩ := ao a1
 obtain rfl := d9
 obtain rfl := e0
 obtain rfl := e1
 unfold ke at H
 refine aN Tryz.func25 z Tryz.ntmps25 z (HS) <| sR <| ob _ z fun o8 => oP z <| nR <| aa [.fa 60 0 0 mw] z <| o1 z (r1 0 0 z ty4 z) <| bE H fun o9 e2 H => oq z (qc z Ce (fun c a => ll c e2)) tt2 <| bE H fun p1 e3 H => aj z tr z z z z (fun c a => dK c e3 (a.carve [] z z)) fun p2 c f a a4 => ?_
 obtain ⟨p3, p4, p5, p6, rfl, q⟩ := a4
 obtain rfl := aA (i := 0) q z
 refine ⟨St w d [_, _], a.comp [] z z q, fun _ _ => Y, ?_⟩
 refine oP z <| nR <| aa [.p, .fa 60 1 1 kL, .fa 56 0 0 lj] z <| o1 z (r1 1 0 z ty3 z) <| bE H fun e4 e5 H => aj z tr z z z z (fun c a => dK c e5 (a.carve [] z z)) fun p7 c f a a5 => ?_
 obtain ⟨p8, p9, q0, q2, rfl, s⟩ := a5
 obtain rfl := aA (i := 0) s z
 refine ⟨St w d [_, _, _], a.comp [] z z s, fun _ _ => Y, ?_⟩
 refine bE H fun q3 e6 H => bC (r := 1) (ys := e4) z z z z z z fQ ty5 z z z (ap (e := ad e8 5) (r := 2) z) e6 (fun _ _ _ => kp) fun q4 q5 q6 => oP z <| nR <| aa [.p, .fa 60 1 1 kL, .fa 56 1 1 oB] z <| o1 z (r1 2 0 z ty3 z) <| bE H fun e7 e9 H => aj z tr z z z z (fun c a => dK c e9 (a.carve [] z z)) fun q7 c f a a6 => ?_
 obtain ⟨q8, q9, r0, r2, rfl, t⟩ := a6
 obtain rfl := aA (i := 0) t z
 refine ⟨St w d [_, _, _, _], a.comp [] z z t, fun _ _ => Y, ?_⟩
 refine bE H fun r3 f0 H => bC (r := 1) (ys := e7) z z z z z z fQ ty5 z z z (ap (e := ad e8 5) (r := 3) z) f0 (fun _ _ _ => kp) fun r4 r5 r6 => oP z <| nR <| aa [.p, .fa 60 2 3 iX] z <| o1 z (r1 3 0 z bG z) <| bE H fun f1 f2 H => aj z CR z z z z (fun c a => lA c f2 (a.carve [] z z) (ab Z c a)) fun r7 c f a a7 => ?_
 obtain ⟨r8, r9, s0, s1, rfl, u⟩ := a7
 obtain rfl := aA (i := 0) u z
 refine ⟨St w d [_, _, _, _, _], a.comp [] z z u, fun _ _ => Y, ?_⟩
 refine bE H fun s2 f3 H => bC (r := 1) (ys := f1) z z z z z z fQ ty5 z z z (ap (e := ad e8 5) (r := 4) z) f3 (fun _ _ _ => kp) fun s3 s4 s5 => oP z <| nR <| aa [.p, .fa 60 3 4 pb] z <| o1 z (r1 4 0 z ty3 z) <| bE H fun f4 f5 H => aj z tr z z z z (fun c a => dK c f5 (a.carve [] z z)) fun s6 c f a E => ?_
 obtain ⟨f8, f9, g1, g2, rfl, x⟩ := E
 obtain rfl := aA (i := 0) x z
 refine ⟨St w d [_, _, _, _, _, _], a.comp [] z z x, fun _ _ => Y, ?_⟩
 refine bE H fun g3 a8 H => bC (r := 1) (ys := f4) z z z z z z fQ ty5 z z z (ap (e := ad e8 5) (r := 5) z) a8 (fun _ _ _ => kp) fun g4 g5 g6 => oP z <| nR <| aa [.p, .fa 60 4 5 ep, .fa 58 0 0 jc] z <| o1 z (r1 5 0 z bG z) <| bE H fun a9 b0 H => aj z CR z z z z (fun c a => lA c b0 (a.carve [] z z) (ab a2 c a)) fun g7 c f a F => ?_
 obtain ⟨g8, g9, h0, h1, rfl, g⟩ := F
 obtain rfl := aA (i := 0) g z
 refine ⟨St w d [_, _, _, _, _, _, _], a.comp [] z z g, fun _ _ => Y, ?_⟩
 refine bE H fun h2 b1 H => bC (r := 1) (ys := a9) z z z z z z fQ ty5 z z z (ap (e := ad e8 5) (r := 6) z) b1 (fun _ _ _ => kp) fun h3 h4 h5 => oP z <| nR <| aa [.p, .fa 60 4 5 ep, .fa 58 1 1 dt] z <| o1 z (r1 6 0 z cY z) <| bE H fun b2 b3 H => aj z EL z z z z (fun c a => nD c b3 (a.carve [] z z) (ab a3 c a)) fun h6 c f a G => ?_
 obtain ⟨h7, h8, h9, i0, rfl, h⟩ := G
 obtain rfl := aA (i := 0) h z
 refine ⟨St w d [_, _, _, _, _, _, _, _], a.comp [] z z h, fun _ _ => Y, ?_⟩
 refine bE H fun i1 b4 H => bC (r := 1) (ys := b2) z z z z z z fQ ty5 z z z (ap (e := ad e8 5) (r := 7) z) b4 (fun _ _ _ => kp) fun i2 i3 i4 => oP z <| nR <| aa [.p, .fa 60 5 7 lE] z <| o1 z (r1 7 0 z ty3 z) <| bE H fun b5 b6 H => aj z tr z z z z (fun c a => dK c b6 (a.carve [] z z)) fun i5 c f a L => ?_
 obtain ⟨i6, i7, i8, i9, rfl, j⟩ := L
 obtain rfl := aA (i := 0) j z
 refine ⟨St w d [_, _, _, _, _, _, _, _, _], a.comp [] z z j, fun _ _ => Y, ?_⟩
 refine bE H fun j0 b7 H => bC (r := 1) (ys := b5) z z z z z z fQ ty5 z z z (ap (e := ad e8 5) (r := 8) z) b7 (fun _ _ _ => kp) fun j1 j2 j3 => oP z <| nR <| aa [.p, .fa 60 6 8 mM] z <| o1 z (r1 8 0 z bG z) <| bE H fun b8 b9 H => aj z CR z z z z (fun c a => lA c b9 (a.carve [] z z) (ab a1 c a)) fun j4 c f a M => ?_
 obtain ⟨j5, j6, j7, j8, rfl, k⟩ := M
 obtain rfl := aA (i := 0) k z
 refine ⟨St w d [_, _, _, _, _, _, _, _, _, _], a.comp [] z z k, fun _ _ => Y, ?_⟩
 refine bE H fun j9 c1 H => bC (r := 1) (ys := b8) z z z z z z fQ ty5 z z z (ap (e := ad e8 5) (r := 9) z) c1 (fun _ _ _ => kp) fun k0 k1 k2 => oP z <| nR <| aa [.p, .fa 60 7 9 ky] z <| o1 z (r1 9 0 z ty3 z) <| bE H fun c2 c3 H => aj z tr z z z z (fun c a => dK c c3 (a.carve [] z z)) fun k3 c f a P => ?_
 obtain ⟨k4, k5, k6, k7, rfl, l⟩ := P
 obtain rfl := aA (i := 0) l z
 refine ⟨St w d [_, _, _, _, _, _, _, _, _, _, _], a.comp [] z z l, fun _ _ => Y, ?_⟩
 refine bE H fun k8 c4 H => bC (r := 1) (ys := c2) z z z z z z fQ ty5 z z z (ap (e := ad e8 5) (r := 10) z) c4 (fun _ _ _ => kp) fun k9 l0 l1 => oP z <| nR <| aa [.p, .fa 60 8 10 nw] z <| o1 z (r1 10 0 z ty3 z) <| bE H fun c5 c6 H => aj z tr z z z z (fun c a => dK c c6 (a.carve [] z z)) fun l2 c f a Q => ?_
 obtain ⟨l3, l4, l5, l6, rfl, m⟩ := Q
 obtain rfl := aA (i := 0) m z
 refine ⟨St w d [_, _, _, _, _, _, _, _, _, _, _, _], a.comp [] z z m, fun _ _ => Y, ?_⟩
 refine bE H fun l7 c7 H => bC (r := 1) (ys := c5) z z z z z z fQ ty5 z z z (ap (e := ad e8 5) (r := 11) z) c7 (fun _ _ _ => kp) fun l8 l9 m0 => oP z <| nR <| aa [.p, .fa 60 9 11 nx] z <| o1 z (r1 11 0 z ty3 z) <| bE H fun c8 c9 H => aj z tr z z z z (fun c a => dK c c9 (a.carve [] z z)) fun m1 c f a R => ?_
 obtain ⟨m2, m3, m4, m5, rfl, o⟩ := R
 obtain rfl := aA (i := 0) o z
 refine ⟨St w d [_, _, _, _, _, _, _, _, _, _, _, _, _], a.comp [] z z o, fun _ _ => Y, ?_⟩
 exact bE H fun A d0 H => bC (r := 1) (ys := c8) z z z z z z fQ ty5 z z z (ap (e := ad e8 5) (r := 12) z) d0 (fun _ _ _ => kp) fun C D d1 => oP z <| nT <| aO (rs := [.tmp 2]) (vs := [S C A.length D]) z ⟨z, Y⟩ (fun w' hw' => by
  obtain rfl := af H
  exact ⟨_, z, C, A.length, D, d1, z, hw'.sel [1] z z⟩)
theorem ud (w : World) {m : List Nat} {p0 : ai} {a2 : List Value} {r : List Int} (H : mr p0 = U r) (HS : St w m [] w) (g0 : (cW).rd w m p0 a2) :
    Calls Tryz.prog 9 #[.agg a2.toArray] w (fun en w' => ∃ v, en = .returned v ∧ ∃ (a0 : Option Addr), ∃ (n0 : Nat), ∃ (c0 : Nat), ∃ (F0 : List Nat), v = S a0 n0 c0 ∧ St w m [W (ad e8 5) F0 r [S a0 n0 c0]] w') := by
 obtain ⟨k5, k6, rfl, s, f5⟩ := cr g0
 obtain ⟨a3, a4, rfl⟩ := ao s
 obtain rfl := f5
 unfold mr at H
 refine aN Tryz.func9 z Tryz.ntmps9 z (HS) <| sR <| ob _ z fun t => oP z <| nQ <| am <| sR <| aa [.fa 26 1 1 lH] z <| o1 z (r1 1 0 z ty3 z) <| bq (val := I J) (h1 := fun _ => z) [p0.g_] [(0, [I J p0.g_])] z z z z z aT ty3 z z z ⟨z, z, nl z, Y⟩ z z (fun _ => kp) fun a5 => bE H fun k7 f6 H => oq z (qc z xW (fun f a => gr f f6 (ap (e := ad eI 3) (r := 1) z f a))) tt2 <| oP z <| nQ <| cI H z (fun H => ?_) (fun H => ?_)
 ·exact sR <| bI (e := e8) z z z z fQ ty5 (fun _ => kp) fun u => oP z <| nT <| aq <| aO (rs := [.tmp 2]) (vs := [S (U ⟨u, 0, N⟩) 0 0]) z ⟨z, Y⟩ (fun w' hw' => by
   obtain rfl := af H
   exact ⟨_, z, (U ⟨u, 0, N⟩), 0, 0, [u], z, hw'.sel [2] z z⟩)
 ·refine av <| az <| am <| cw 6 [(0, y), (1, y), (3, y), (4, y), (5, y), (2, n)] (St w m [b t 26 [S a3 p0.a_.length a4, I J p0.g_], W (ad eI 3) [a5] ([p0.g_] : List Int) [S (U ⟨a5, 0, N⟩) (([p0.g_] : List Int).length) 1]]) bU (by kernel_rfl) (aJ bb) (tk 2 z) <| aa [.fa 26 1 1 lH] z <| bm z (aw z) (r1 1 0 z ty3 z) <| aa [.fa 26 0 0 bR] z <| bm z (aw z) (r1 0 0 z ec z) <| aa [.lenS 24 60 dW] z <| bE H fun k8 f7 H => aj z tr z z z z (fun f a => dK f f7 (a.carve [] z z)) fun k9 f w2 a a6 => ?_
  obtain ⟨l0, l1, l2, l3, rfl, x⟩ := a6
  obtain rfl := aA (i := 0) x z
  refine ⟨St w m [_, _, _], a.comp [] z z x, (tk 2 z), ?_⟩
  refine aQ <| jf <| bE H fun f9 g1 H => aj z tr z z z z (fun f a => dK f g1 (a.carve [] z z)) fun l4 f w2 a a7 => ?_
  obtain ⟨l5, l6, l7, l8, rfl, A⟩ := a7
  obtain rfl := aA (i := 0) A z
  refine ⟨St w m [_, _, _, _], a.comp [] z z A, fun _ _ => Y, ?_⟩
  refine bE H fun g2 g3 H => bC (r := 2) (ys := f9) z z z z z z fQ ty5 z z z (ap (e := ad e8 5) (r := 3) z) g3 (fun _ _ _ => kp) fun g4 g5 g6 => oP z <| nQ <| am <| sR <| oP z <| nQ <| ay <| CW.at (iw (fun (g : List Int) (h : Option Addr) (j : Nat) (l : List Nat) (k : Int) => St w m [b t 26 [S a3 p0.a_.length a4, I J p0.g_], W (ad e8 5) l g [S h g.length j]]) (fun g h j l k => [(1, O (U ⟨t, 0, N⟩)), (3, S h g.length j), (4, I J k)]) (fun kk => fun g h j l k => jl p0 kk g k = U r) (fun _ _ _ _ _ H => ?_) (fun k1 a8 g h j l k H => ?_) aY (g2) (g4) (g5) (g6) (0) (H)) (ss [0, 2] z z) (sb z)
  ·unfold jl at H
   exact absurd H (by simp)
  ·unfold jl at H
   refine am <| sR <| aa [.p, .fa 26 0 0 bR] z <| o1 z (r1 0 0 z ec z) <| aa [.lenS 24 60 dW, .p] z <| nQ <| cI H z (fun H => ?_) (fun H => ?_)
   ·refine av <| az <| am <| ay <| am <| sR <| aa [.fa 26 0 0 bR] z <| o1 z (r1 0 0 z ec z) <| oP z <| bE H fun c a9 H => cf z z z z z dW bZ z s a9 fun g9 h0 Q R => ?_
    obtain ⟨h2, h3, h4, h5, h6, h7, h8, h9, i0, i1, rfl, b0, b1, C, b2, b3, b4, D, b5, b6, b7⟩ := bo Q
    obtain rfl := b0
    obtain rfl := b1
    obtain ⟨b8, b9, rfl⟩ := ao C
    obtain rfl := b2
    obtain ⟨i2, i3, rfl, E, F⟩ := aS b3
    obtain ⟨c1, c2, rfl⟩ := ao E
    obtain ⟨c3, c4, rfl⟩ := ao F
    obtain rfl := b4
    obtain ⟨c5, c6, rfl⟩ := ao D
    obtain rfl := b5
    obtain rfl := b6
    obtain rfl := b7
    refine o1 z (dk (cs := [B c.s_, I J c.k_.j_, I J c.k_.c_, S b8 c.t_.length b9, I J c.x_, S c1 c.m_.d_.length c2, S c3 c.m_.b_.length c4, I J c.v_, S c5 c.f_.length c6, I J c.l_, I J c.p_, I J c.q_]) z z bZ (ce bor R) z) <| bE H fun i4 c7 H => oq z (qc z Gg (fun f a => ra f c7 (fW z z (ab C f a) z (aH (ab E f a) (ab F f a)) z (ab D f a) z z z))) tt2 <| oP z <| nQ <| cI H z (fun H => ?_) (fun H => ?_)
    ·exact sR <| bI (e := e8) z z z z fQ ty5 (fun _ => kp) fun o => oP z <| nT <| aq <| ba <| aq <| cd <| ba <| aq <| aO (rs := [.tmp 2]) (vs := [S (U ⟨o, 0, N⟩) 0 0]) z ⟨z, Y⟩ (fun w' hw' => by
      obtain rfl := af H
      exact ⟨_, z, (U ⟨o, 0, N⟩), 0, 0, [o], z, hw'.sel [2] z z⟩)
    ·refine av <| az <| aP <| aa [.p, .fa 26 0 0 bR] z <| o1 z (r1 0 0 z ec z) <| oP z <| bE H fun d c8 H => cf z z z z z dW bZ z s c8 fun i5 i6 X Z => ?_
     obtain ⟨i7, i8, i9, j0, j1, j2, j3, j4, j5, j6, rfl, c9, d0, G, d1, d2, d3, L, d4, d5, d6⟩ := bo X
     obtain rfl := c9
     obtain rfl := d0
     obtain ⟨d7, d8, rfl⟩ := ao G
     obtain rfl := d1
     obtain ⟨j7, j8, rfl, M, P⟩ := aS d2
     obtain ⟨d9, e0, rfl⟩ := ao M
     obtain ⟨e1, e2, rfl⟩ := ao P
     obtain rfl := d3
     obtain ⟨e3, e4, rfl⟩ := ao L
     obtain rfl := d4
     obtain rfl := d5
     obtain rfl := d6
     refine o1 z (dk (cs := [B d.s_, I J d.k_.j_, I J d.k_.c_, S d7 d.t_.length d8, I J d.x_, S d9 d.m_.d_.length e0, S e1 d.m_.b_.length e2, I J d.v_, S e3 d.f_.length e4, I J d.l_, I J d.p_, I J d.q_]) z z bZ (ce bor Z) z) <| bE H fun e5 e6 H => aj z FZ z z z z (fun f a => rE f e6 (a.carve [] z z) (fW z z (ab G f a) z (aH (ab M f a) (ab P f a)) z (ab L f a) z z z)) fun j9 f w2 a a1 => ?_
     obtain ⟨k0, k2, k3, k4, rfl, q⟩ := a1
     obtain rfl := aA (i := 0) q z
     refine ⟨St w m [_, _, _], a.comp [] z z q, fun _ _ => Y, ?_⟩
     exact bE H fun e7 e9 H => bC (r := 1) (ys := e5) z z z z z z fQ ty5 z z z (ap (e := ad e8 5) (r := 2) z) e9 (fun _ _ _ => kp) fun f0 f1 f2 => oP z <| ax <| bW <| az <| aP <| aa [.p, .p, .p] z <| ax <| ct (RW.at (a8 (e7) (f0) (f1) (f2) (J.wrap (k + 1)) (H)) (ss [0, 1] z z) (sb z))
   ·exact bx <| aK <| aR <| aL <| az <| sR <| oPP z <| nT <| aO (rs := [.tmp 2]) (vs := [S h g.length j]) z ⟨z, Y⟩ (fun w' hw' => by
     obtain rfl := af H
     exact ⟨_, z, h, g.length, j, l, z, hw'.sel [1] z z⟩)
theorem uN (w : World) {p0 : List Int} {p1 : Int} {a_0 : Option Addr} {n_0 c_0 : Nat} {r : Int × Int × Bool} (H : ng p0 p1 = U r) (h : (ad e8 5).rd w [] p0 [S a_0 n_0 c_0]) :
    Calls Tryz.prog 68 #[S a_0 n_0 c_0, I J p1] w (fun en w' => en = .returned (.tuple #[I J r.1, I J r.2.1, B r.2.2]) ∧ Ext [] w w') := by
 obtain rfl := fp h
 unfold ng at H
 refine aN Tryz.func68 z Tryz.ntmps68 z (St.init w []) <| sR <| aa [.p, .p, .p] z <| nQ <| am <| sR <| oPP z <| nQ <| cI H z (fun H => ?_) (fun H => ?_)
 ·exact sR <| aa [.p, .p, .p] z <| nT <| aq <| aO (rs := [.tmp 4, .tmp 5, .tmp 6]) (vs := [I J 0, I J 0, B n]) z ⟨z, z, z, Y⟩ (fun w' hw' => by
   obtain rfl := af H
   exact ⟨z, hw'.ext⟩)
 ·refine av <| az <| sR <| oP z <| nQ <| am <| sR <| oP z <| nQ <| ay <| CW.at (jH (fun (c : Int) (a : Int) => St w [] []) (fun c a => [(0, S a_0 p0.length c_0), (1, I J p1), (7, I J c), (8, I J a)]) (fun kk => fun c a => gV p1 p0 kk c a = U r) (fun _ _ H => ?_) (fun s i c a H => ?_) aY (0) (0) (H)) (ss [] z z) (sb z)
  ·unfold gV at H
   exact absurd H (by simp)
  ·unfold gV at H
   refine am <| sR <| aa [.p, .p, .p] z <| aV [(19, B ((decide (a < 5)) && (decide ((J.wrap (p1 + a)) ≥ 0)))), (0, S a_0 p0.length c_0), (1, I J p1), (7, I J c), (8, I J a)] 5 ?_ (fun key => OW.sub (R := [(0, S a_0 p0.length c_0), (1, I J p1), (7, I J c), (8, I J a), (14, B (decide (a < 5)))]) ?_ (sb z))
   ·refine oP z <| aV [(27, B (((decide (a < 5)) && (decide ((J.wrap (p1 + a)) ≥ 0))) && (decide ((J.wrap (p1 + a)) < (p0.length : Int))))), (0, S a_0 p0.length c_0), (1, I J p1), (7, I J c), (8, I J a)] 7 ?_ (fun key => OW.sub (R := [(0, S a_0 p0.length c_0), (1, I J p1), (7, I J c), (8, I J a), (20, B ((decide (a < 5)) && (decide ((J.wrap (p1 + a)) ≥ 0))))]) ?_ (sb z))
    ·refine nQ <| cI H z (fun H => ?_) (fun H => ?_)
     ·refine av <| az <| am <| ay <| sR <| aa [.p, .p, .p, .p] z <| bE H fun f g H => bF (e := e8) (xs := p0) (j := J.wrap (p1 + a)) z z z z z fQ ty5 z (ab h) g (by rw [Nat.mul_one]) <| o1 z (aM z z ty5 (bO (ab h) g)) <| aa [.cv 5 3 J us5 in3, .p] z <| nR <| aa [.p, .p, .p, .p, .p] z <| bE H fun d k H => o1 z (Eh z z z k) <| oPP z <| nQ <| am <| sR <| oPP z <| nQ <| cI H z (fun H => ?_) (fun H => ?_)
      ·exact bx <| aK <| aL <| az <| aP <| aa [.p, .p, .p] z <| ax <| ct (RW.at (i (el .or J c d) (J.wrap (a + 1)) (H)) (ss [] z z) (sb z))
      ·refine av <| az <| am <| sR <| aa [.p, .p, .p] z <| aV [(51, B (((J.wrap f) == 0) && (decide (a > 0)))), (1, I J p1), (7, I J (el .or J c d)), (8, I J a)] 3 ?_ (fun key => OW.sub (R := [(1, I J p1), (7, I J (el .or J c d)), (8, I J a), (48, B ((J.wrap f) == 0))]) ?_ (sb z))
       ·refine oP z <| aV [(55, B ((((J.wrap f) == 0) && (decide (a > 0))) || (decide ((el .or J c d) > 2147483647)))), (1, I J p1), (7, I J (el .or J c d)), (8, I J a)] 3 ?_ (fun key => OW.sub (R := [(1, I J p1), (7, I J (el .or J c d)), (8, I J a), (52, B (((J.wrap f) == 0) && (decide (a > 0))))]) ?_ (sb z))
        ·refine nQ <| cI H z (fun H => ?_) (fun H => ?_)
         ·exact sR <| aa [.p, .p, .p] z <| nT <| aq <| ba <| aq <| cd <| ba <| aq <| aO (rs := [.tmp 4, .tmp 5, .tmp 6]) (vs := [I J 0, I J 0, B n]) z ⟨z, z, z, Y⟩ (fun w' hw' => by
           obtain rfl := af H
           exact ⟨z, hw'.ext⟩)
         ·exact av <| az <| sR <| aa [.p, .p, .p, .p, .p, .p, .p, .p] z <| nT <| ba <| aq <| cd <| ba <| aq <| aO (rs := [.tmp 4, .tmp 5, .tmp 6]) (vs := [I J (el .or J c d), I J (J.wrap ((J.wrap (p1 + a)) + 1)), B y]) z ⟨z, z, z, Y⟩ (fun w' hw' => by
           obtain rfl := af H
           exact ⟨z, hw'.ext⟩)
        ·generalize (((J.wrap f) == 0) && (decide (a > 0))) = l at key ⊢
         cases l
         ·exact oPP z <| oP z <| OW.sub key (sb z)
         ·exact aa [.p, .p, .p] z <| OW.sub key (sb z)
       ·generalize ((J.wrap f) == 0) = m at key ⊢
        cases m
        ·exact aa [.p, .p, .p] z <| OW.sub key (sb z)
        ·exact oPP z <| oP z <| OW.sub key (sb z)
     ·exact bx <| aK <| aR <| aL <| az <| sR <| aa [.p, .p, .p] z <| nT <| aO (rs := [.tmp 4, .tmp 5, .tmp 6]) (vs := [I J 0, I J 0, B n]) z ⟨z, z, z, Y⟩ (fun w' hw' => by
       obtain rfl := af H
       exact ⟨z, hw'.ext⟩)
    ·generalize ((decide (a < 5)) && (decide ((J.wrap (p1 + a)) ≥ 0))) = o at key ⊢
     cases o
     ·exact aa [.p, .p, .p, .p, .p, .p, .p] z <| OW.sub key (sb z)
     ·exact aa [.p, .p, .p, .p, .lenS 22 5 fQ, .p] z <| oP z <| OW.sub key (sb z)
   ·generalize (decide (a < 5)) = q at key ⊢
    cases q
    ·exact aa [.p, .p, .p, .p, .p] z <| OW.sub key (sb z)
    ·exact aa [.p, .p, .p, .p] z <| oP z <| OW.sub key (sb z)
theorem uM (w : World) {p0 : List Int} {p1 : Int} {a_0 : Option Addr} {n_0 c_0 : Nat} {r : Int × Int × Bool} (H : kJ p0 p1 = U r) (g : (ad e8 5).rd w [] p0 [S a_0 n_0 c_0]) :
    Calls Tryz.prog 58 #[S a_0 n_0 c_0, I J p1] w (fun en w' => en = .returned (.tuple #[I J r.1, I J r.2.1, B r.2.2]) ∧ Ext [] w w') := by
 obtain rfl := fp g
 unfold kJ at H
 refine aN Tryz.func58 z Tryz.ntmps58 z (St.init w []) <| sR <| aa [.p, .p, .p] z <| nR <| oPP z <| bE H fun a h H => oq z (qc z Gh (fun e f => uN e h (ab g e f))) tt2 <| aa [.p, .p, .p, .p, .p, .p, .p] z <| nR <| aa [.p, .p, .p] z <| nQ <| ze (fun (c : Int) => St w [] []) (fun c => [(8, I J a.2.1), (9, B a.2.2), (10, I J c)]) (fun c => jN a c = U r) (fun c H => ?_) (fun i => ?_)
 ·unfold jN at H
  refine am <| sR <| aa [.p, .p, .p] z <| bE H fun j d H => aV [(32, B j), (8, I J a.2.1), (10, I J c)] 4 ?_ (fun key => OW.sub (R := [(8, I J a.2.1), (10, I J c), (28, B (!a.2.2))]) ?_ (sb z))
  ·refine nQ <| cI H z (fun H => ?_) (fun H => ?_)
   ·exact sR <| aa [.p, .p, .p] z <| nT <| aq <| aO (rs := [.tmp 4, .tmp 5, .tmp 6]) (vs := [I J 0, I J 0, B n]) z ⟨z, z, z, Y⟩ (fun w' hw' => by
     obtain rfl := af H
     exact ⟨z, hw'.ext⟩)
   ·exact av <| az <| sR <| aa [.p, .p, .p, .p, .p] z <| nT <| aO (rs := [.tmp 4, .tmp 5, .tmp 6]) (vs := [I J c, I J a.2.1, B y]) z ⟨z, z, z, Y⟩ (fun w' hw' => by
     obtain rfl := af H
     exact ⟨z, hw'.ext⟩)
  ·clear H
   have H := d
   clear d
   generalize (!a.2.2) = k at H key ⊢
   cases k
   ·have H := bh z H
    refine oP z <| bE H fun m l H => oq z (qc z Ei (fun e f => ov e l)) tt2 <| oP z <| oP z <| ?_
    obtain rfl := af H
    exact OW.sub key (sb z)
   ·have H := bi z H
    refine aa [.p, .p, .p, .p] z ?_
    obtain rfl := af H
    exact OW.sub key (sb z)
 ·refine sR <| aa [.p, .p, .p] z <| nQ <| cI H z (fun H => ?_) (fun H => ?_)
  ·exact aP <| aa [.p, .p, .p, .p] z <| ax <| XW.at (i (J.wrap ((J.wrap (0 - (J.wrap (Int.tdiv a.1 2)))) - 1)) (H)) (ss [] z z) (sb z)
  ·exact av <| XW.at (i (J.wrap (Int.tdiv a.1 2)) (H)) (ss [] z z) (sb z)
theorem dd (w : World) {c : List Nat} {p0b : List Int} {p0 : aF} {b_0 : Nat} {a_p0b : Option Addr} {n_p0b c_p0b : Nat} {r : Int × aF} (H : bH p0b p0 = U r) (HS : St w c [b b_0 64 [S a_p0b p0b.length c_p0b, I J p0.e_, B p0.C_]] w) (g_p0b : (ad e8 5).rd w c p0b [S a_p0b n_p0b c_p0b]) :
    Calls Tryz.prog 43 #[O (U ⟨b_0, 0, N⟩)] w (fun en w' => ∃ v, en = .returned v ∧ v = I J r.1 ∧ St w c [b b_0 64 [S a_p0b n_p0b c_p0b, I J r.2.e_, B r.2.C_]] w') := by
 obtain rfl := fp g_p0b
 unfold bH at H
 refine aN Tryz.func43 z Tryz.ntmps43 z (HS) <| sR <| oP z <| nQ <| am <| sR <| aa [.p, .p, .fa 64 2 2 ol] z <| o1 z (r1 2 0 z ty4 z) <| nQ <| cI H z (fun H => ?_) (fun H => ?_)
 ·exact sR <| oP z <| nT <| aq <| aO (rs := [.tmp 2]) (vs := [I J 0]) z ⟨z, Y⟩ (fun w' hw' => by
   obtain rfl := af H
   exact ⟨_, z, z, hw'.sel [0] z z⟩)
 ·refine av <| az <| am <| dR bU (by kernel_rfl) <| aa [.p, .p, .fa 64 0 0 Bw] z <| o1 z (r1 0 0 z sN z) <| aa [.p, .p, .fa 64 1 1 uJ] z <| o1 z (r1 1 0 z ty3 z) <| bE H fun a d H => oq z (qc z FU (fun e f => uM e d (ab g_p0b e f))) tt2 <| aa [.p, .p, .p, .p, .p, .p, .p] z <| co <| az <| am <| sR <| oPP z <| nQ <| cI H z (fun H => ?_) (fun H => ?_)
  ·exact sR <| aa [.p, .p, .fa 64 2 2 ol] z <| sC 2 [B y] [_, _, _] 0 z ty4 z <| nR <| oP z <| nT <| aq <| aO (rs := [.tmp 2]) (vs := [I J 0]) z ⟨z, Y⟩ (fun w' hw' => by
    obtain rfl := af H
    exact ⟨_, z, z, hw'.sel [0] z z⟩)
  ·exact av <| az <| sR <| aa [.p, .p, .p, .fa 64 1 1 uJ] z <| sC 1 [I J a.2.1] [_, _, _] 0 z ty3 z <| nR <| oPP z <| nT <| aO (rs := [.tmp 2]) (vs := [I J a.1]) z ⟨z, Y⟩ (fun w' hw' => by
    obtain rfl := af H
    exact ⟨_, z, z, hw'.sel [0] z z⟩)
theorem jx (w : World) {d : List Nat} {p0b : List Int} {p0 : aF} {b_0 : Nat} {a_p0b : Option Addr} {n_p0b c_p0b : Nat} {r : Int × aF} (H : du p0b p0 = U r) (HS : St w d [b b_0 64 [S a_p0b p0b.length c_p0b, I J p0.e_, B p0.C_]] w) (g_p0b : (ad e8 5).rd w d p0b [S a_p0b n_p0b c_p0b]) :
    Calls Tryz.prog 44 #[O (U ⟨b_0, 0, N⟩)] w (fun en w' => ∃ v, en = .returned v ∧ v = I J r.1 ∧ St w d [b b_0 64 [S a_p0b n_p0b c_p0b, I J r.2.e_, B r.2.C_]] w') := by
 obtain rfl := fp g_p0b
 unfold du at H
 refine aN Tryz.func44 z Tryz.ntmps44 z (HS) <| sR <| oP z <| nR <| oP z <| bE H fun a g H => aj z va z z z z (fun h c => dd h g (c.carve [0] z z) (rdB [0] z z c g_p0b)) fun j h k c e => ?_
 obtain ⟨rfl, f⟩ := e
 refine ⟨St w d [_, _], c.comp [0] z z f, fun _ _ => Y, ?_⟩
 refine oP z <| nQ <| am <| am <| dR bU (by kernel_rfl) <| aa [.p, .p, .p] z <| aV [(21, B ((decide (a.1 < 0)) || (decide (a.1 > (J.wrap ((p0b.length : Int) - a.2.e_)))))), (0, O (U ⟨b_0, 0, N⟩)), (3, I J a.1)] 13 ?_ (fun key => OW.sub (R := [(0, O (U ⟨b_0, 0, N⟩)), (3, I J a.1), (8, B (decide (a.1 < 0)))]) ?_ (sb z))
 ·refine co <| az <| cI H z (fun H => ?_) (fun H => ?_)
  ·exact sR <| aa [.p, .p, .fa 64 2 2 ol] z <| sC 2 [B y] [_, _, _] 1 z ty4 z <| nR <| oP z <| nT <| aq <| aO (rs := [.tmp 2]) (vs := [I J 0]) z ⟨z, Y⟩ (fun w' hw' => by
    obtain rfl := af H
    exact ⟨_, z, z, hw'.sel [1] z z⟩)
  ·exact av <| az <| sR <| oPP z <| nT <| aO (rs := [.tmp 2]) (vs := [I J a.1]) z ⟨z, Y⟩ (fun w' hw' => by
    obtain rfl := af H
    exact ⟨_, z, z, hw'.sel [1] z z⟩)
 ·generalize (decide (a.1 < 0)) = i at key ⊢
  cases i
  ·exact aa [.p, .p, .p, .fa 64 0 0 Bw] z <| o1 z (r1 0 1 z sN z) <| aa [.lenS 22 5 fQ, .p, .p, .fa 64 1 1 uJ] z <| o1 z (r1 1 1 z ty3 z) <| oPP z <| oP z <| OW.sub key (sb z)
  ·exact aa [.p, .p, .p, .p, .p, .p, .p, .p, .p, .p, .p, .p, .p] z <| OW.sub key (sb z)
theorem qW (w : World) {d : List Nat} {p0b : List Int} {p0 : aF} {b_0 : Nat} {a_p0b : Option Addr} {n_p0b c_p0b : Nat} {r : Bool × aF} (H : iO p0b p0 = U r) (HS : St w d [b b_0 64 [S a_p0b p0b.length c_p0b, I J p0.e_, B p0.C_]] w) (g_p0b : (ad e8 5).rd w d p0b [S a_p0b n_p0b c_p0b]) :
    Calls Tryz.prog 45 #[O (U ⟨b_0, 0, N⟩)] w (fun en w' => ∃ v, en = .returned v ∧ v = B r.1 ∧ St w d [b b_0 64 [S a_p0b n_p0b c_p0b, I J r.2.e_, B r.2.C_]] w') := by
 obtain rfl := fp g_p0b
 unfold iO at H
 refine aN Tryz.func45 z Tryz.ntmps45 z (HS) <| sR <| oP z <| nR <| oP z <| bE H fun a g H => aj z va z z z z (fun h c => dd h g (c.carve [0] z z) (rdB [0] z z c g_p0b)) fun k h l c e => ?_
 obtain ⟨rfl, f⟩ := e
 refine ⟨St w d [_, _], c.comp [0] z z f, fun _ _ => Y, ?_⟩
 refine oP z <| nR <| aa [.p, .p, .p, .fa 64 2 2 ol] z <| o1 z (r1 2 1 z ty4 z) <| oP z <| aV [(18, B (a.2.C_ || ((a.1 != 0) && (a.1 != 1)))), (0, O (U ⟨b_0, 0, N⟩)), (3, I J a.1), (6, O (U ⟨b_0, 0, N⟩))] 7 ?_ (fun key => OW.sub (R := [(0, O (U ⟨b_0, 0, N⟩)), (3, I J a.1), (6, O (U ⟨b_0, 0, N⟩)), (11, B a.2.C_)]) ?_ (sb z))
 ·exact aa [.p, .fa 64 2 2 ol] z <| sC 2 [B (a.2.C_ || ((a.1 != 0) && (a.1 != 1)))] [_, _, _] 1 z ty4 z <| nR <| aa [.p, .p, .p] z <| nT <| aO (rs := [.tmp 2]) (vs := [B (a.1 == 1)]) z ⟨z, Y⟩ (fun w' hw' => by
   obtain rfl := af H
   exact ⟨_, z, z, hw'.sel [1] z z⟩)
 ·generalize a.2.C_ = i at key ⊢
  cases i
  ·refine aa [.p, .p, .p] z <| aV [(17, B ((a.1 != 0) && (a.1 != 1))), (0, O (U ⟨b_0, 0, N⟩)), (3, I J a.1), (6, O (U ⟨b_0, 0, N⟩)), (11, B n)] 3 ?_ (fun key => OW.sub (R := [(0, O (U ⟨b_0, 0, N⟩)), (3, I J a.1), (6, O (U ⟨b_0, 0, N⟩)), (11, B n), (14, B (a.1 != 0))]) ?_ (sb z))
   ·exact oP z <| OW.sub key (sb z)
   ·generalize (a.1 != 0) = j at key ⊢
    cases j
    ·exact aa [.p, .p, .p] z <| OW.sub key (sb z)
    ·exact oPP z <| oP z <| OW.sub key (sb z)
  ·exact aa [.p, .p, .p, .p, .p, .p, .p] z <| OW.sub key (sb z)
theorem ip (w : World) {o : List Nat} {p0b : List Int} {p0 : aF} {b_0 : Nat} {a_p0b : Option Addr} {n_p0b c_p0b : Nat} {r : (List Int) × aF} (H : cP p0b p0 = U r) (HS : St w o [b b_0 64 [S a_p0b p0b.length c_p0b, I J p0.e_, B p0.C_]] w) (g_p0b : (ad e8 5).rd w o p0b [S a_p0b n_p0b c_p0b]) :
    Calls Tryz.prog 46 #[O (U ⟨b_0, 0, N⟩)] w (fun en w' => ∃ v, en = .returned v ∧ ∃ (E : Option Addr), ∃ (F : Nat), ∃ (c0 : Nat), ∃ (F0 : List Nat), v = S E F c0 ∧ St w o [W (ad eI 3) F0 r.1 [S E F c0], b b_0 64 [S a_p0b n_p0b c_p0b, I J r.2.e_, B r.2.C_]] w') := by
 obtain rfl := fp g_p0b
 unfold cP at H
 refine aN Tryz.func46 z Tryz.ntmps46 z (HS) <| sR <| oP z <| nR <| oP z <| nQ <| am <| sR <| oP z <| bE H fun s G H => aj z Dq z z z z (fun q a => jx q G (a.carve [0] z z) (rdB [0] z z a g_p0b)) fun a4 q w2 a u => ?_
 obtain ⟨rfl, x⟩ := u
 refine ⟨St w o [_, _], a.comp [0] z z x, fun _ _ => Y, ?_⟩
 refine oP z <| nQ <| ay <| CW.weak ?_ (fun _ h => St.pushNil (e := eI) (T := 3) h)
 refine CW.at (og (fun (k : Int) (j : Bool) (c : List Int) (f : Option Addr) (g : Nat) (l : List Nat) (d : Int) => St w o [b b_0 64 [S a_p0b p0b.length c_p0b, I J k, B j], W (ad eI 3) l c [S f c.length g]]) (fun k j c f g l d => [(0, O (U ⟨b_0, 0, N⟩)), (3, S f c.length g), (4, I J d)]) (fun kk => fun k j c f g l d => gi p0b kk k j c d = U r) (fun _ _ _ _ _ _ _ H => ?_) (fun k1 A k j c f g l d H => ?_) aY (s.2.e_) (s.2.C_) (([] : List Int)) (N) (0) ([]) (s.1) (H)) (ss [1, 2] z z) (sb z)
 ·unfold gi at H
  exact absurd H (by simp)
 ·unfold gi at H
  refine am <| sR <| aa [.p, .p, .p] z <| aV [(15, B ((decide (d > 0)) && (!j))), (0, O (U ⟨b_0, 0, N⟩)), (3, S f c.length g), (4, I J d)] 6 ?_ (fun key => OW.sub (R := [(0, O (U ⟨b_0, 0, N⟩)), (3, S f c.length g), (4, I J d), (9, B (decide (d > 0)))]) ?_ (sb z))
  ·refine nQ <| cI H z (fun H => ?_) (fun H => ?_)
   ·refine av <| az <| am <| ay <| aP <| oPP z <| bE H fun m L H => aj z va z z z z (fun q a => dd q L (a.carve [0] z z) (rdB [0] z z a g_p0b)) fun a5 q w2 a C => ?_
    obtain ⟨rfl, D⟩ := C
    refine ⟨St w o [_, _, _], a.comp [0] z z D, fun _ _ => Y, ?_⟩
    exact bq (val := I J) (h1 := fun _ => z) [m.1] [(0, [I J m.1])] z z z z z aT ty3 z z z ⟨z, z, nl z, Y⟩ z z (fun _ => kp) fun a6 => bE H fun M t H => bC (r := 1) (ys := ([m.1] : List Int)) z z z z z z aT ty3 z z z (ap (e := ad eI 3) (r := 3) z) t (fun _ _ _ => kp) fun P Q X => cc z (fun q a => fh (i := 1) a z (fe t)) fun a3 => oP z <| ax <| bW <| az <| aP <| aa [.p, .p, .p] z <| ax <| ct (RW.at (A (m.2.e_) (m.2.C_) (M) (P) (Q) (X) (J.wrap (d - 1)) (H)) (ss [2, 1] z z) (sb z))
   ·exact bx <| aK <| aR <| aL <| az <| sR <| oPP z <| nT <| aO (rs := [.tmp 2]) (vs := [S f c.length g]) z ⟨z, Y⟩ (fun w' hw' => by
     obtain rfl := af H
     exact ⟨_, z, f, c.length, g, l, z, hw'.sel [1, 0] z z⟩)
  ·generalize (decide (d > 0)) = Z at key ⊢
   cases Z
   ·exact aa [.p, .p, .p, .p, .p, .p] z <| OW.sub key (sb z)
   ·exact aa [.p, .p, .fa 64 2 2 ol] z <| o1 z (r1 2 0 z ty4 z) <| oP z <| oP z <| OW.sub key (sb z)
theorem qX (w : World) {g : List Nat} {p0b : List Int} {p0 : aF} {b_0 : Nat} {a_p0b : Option Addr} {n_p0b c_p0b : Nat} {r : ai × aF} (H : iR p0b p0 = U r) (HS : St w g [b b_0 64 [S a_p0b p0b.length c_p0b, I J p0.e_, B p0.C_]] w) (g_p0b : (ad e8 5).rd w g p0b [S a_p0b n_p0b c_p0b]) :
    Calls Tryz.prog 26 #[O (U ⟨b_0, 0, N⟩)] w (fun en w' => ∃ v, en = .returned v ∧ ∃ (a0 : Option Addr), ∃ (n0 : Nat), ∃ (c0 : Nat), ∃ (F0 : List Nat), v = .agg #[S a0 n0 c0, I J r.1.g_] ∧ St w g [W (ad (aC) 60) F0 r.1.a_ [S a0 n0 c0], b b_0 64 [S a_p0b n_p0b c_p0b, I J r.2.e_, B r.2.C_]] w') := by
 obtain rfl := fp g_p0b
 unfold iR at H
 refine aN Tryz.func26 z Tryz.ntmps26 z (HS) <| sR <| aB z z z z br (fun _ => kp) fun X => nR <| oP z <| bE H fun C i3 H => aj z va z z z z (fun c a => dd c i3 (a.carve [0] z z) (rdB [0] z z a g_p0b)) fun l1 c Z a f6 => ?_
 obtain ⟨rfl, f7⟩ := f6
 refine ⟨St w g [_, _, _], a.comp [0] z z f7, fun _ _ => Y, ?_⟩
 refine o1 z (bu [(1, [I J C.1])] [S N 0 0, I J C.1] z z br zX z ⟨z, z, nl z, Y⟩ z) <| aB z z z z br (fun _ => kp) fun a1 => sC 0 [S N 0 0, I J C.1] [_, _] 3 z br z <| nQ <| am <| sR <| oP z <| bE H fun c2 i4 H => aj z Dq z z z z (fun c a => jx c i4 (a.carve [2] z z) (rdB [2] z z a g_p0b)) fun l2 c Z a f8 => ?_
 obtain ⟨rfl, f9⟩ := f8
 refine ⟨St w g [_, _, _, _, _], a.comp [2] z z f9, fun _ _ => Y, ?_⟩
 refine oP z <| nQ <| ay <| CW.weak ?_ (fun _ h => St.pushNil (e := aC) (T := 60) h)
 refine CW.at (og (fun (a5 : Int) (a2 : Bool) (d : List aG) (k : Option Addr) (l : Nat) (D : List Nat) (f : Int) => St w g [b b_0 64 [S a_p0b p0b.length c_p0b, I J a5, B a2], b X 26 [S N 0 0, I J 0], b a1 26 [S k d.length l, I J C.1], W (ad (aC) 60) D d [S k d.length l]]) (fun a5 a2 d k l D f => [(0, O (U ⟨b_0, 0, N⟩)), (2, O (U ⟨X, 0, N⟩)), (3, O (U ⟨a1, 0, N⟩)), (4, I J f)]) (fun kk => fun a5 a2 d k l D f => cU p0b C kk a5 a2 d f = U r) (fun _ _ _ _ _ _ _ H => ?_) (fun k1 g0 a5 a2 d k l D f H => ?_) aY (c2.2.e_) (c2.2.C_) (([] : List aG)) (N) (0) ([]) (c2.1) (H)) (ss [4, 1, 3, 5] z z) (sb z)
 ·unfold cU at H
  exact absurd H (by simp)
 ·unfold cU at H
  refine am <| sR <| aa [.p, .p, .p] z <| aV [(20, B ((decide (f > 0)) && (!a2))), (0, O (U ⟨b_0, 0, N⟩)), (2, O (U ⟨X, 0, N⟩)), (3, O (U ⟨a1, 0, N⟩)), (4, I J f)] 6 ?_ (fun key => OW.sub (R := [(0, O (U ⟨b_0, 0, N⟩)), (2, O (U ⟨X, 0, N⟩)), (3, O (U ⟨a1, 0, N⟩)), (4, I J f), (14, B (decide (f > 0)))]) ?_ (sb z))
  ·refine nQ <| cI H z (fun H => ?_) (fun H => ?_)
   ·refine av <| az <| am <| ay <| sR <| oP z <| bE H fun u g1 H => aj z Gs z z z z (fun c a => qW c g1 (a.carve [0] z z) (rdB [0] z z a g_p0b)) fun i7 c Z a d3 => ?_
    obtain ⟨rfl, d4⟩ := d3
    refine ⟨St w g [_, _, _, _, _], a.comp [0] z z d4, fun _ _ => Y, ?_⟩
    refine o1 z (bu [(0, [B u.1])] [B u.1, I J 0, I J 0, S N 0 0, I J 0, S N 0 0, S N 0 0, I J 0, S N 0 0, I J 0, I J 0, I J 0] z z bZ pN z ⟨z, z, nl z, Y⟩ z) <| aB z z z z bZ (fun _ => kp) fun a6 => sC 0 [B u.1, I J 0, I J 0, S N 0 0, I J 0, S N 0 0, S N 0 0, I J 0, S N 0 0, I J 0, I J 0, I J 0] [_, _, _, _, _, _, _, _, _, _, _, _] 5 z bZ z <| nR <| oP z <| bE H fun E g2 H => aj z va z z z z (fun c a => dd c g2 (a.carve [4] z z) (rdB [4] z z a g_p0b)) fun i8 c Z a d5 => ?_
    obtain ⟨rfl, d6⟩ := d5
    refine ⟨St w g [_, _, _, _, _, _, _], a.comp [4] z z d6, fun _ _ => Y, ?_⟩
    refine aa [.fa 60 1 1 kL, .fa 56 0 0 lj] z <| sC 1 [I J E.1] [_, _, _, _, _, _, _, _, _, _, _, _] 5 z ty3 z <| nQ <| am <| CW.weak (C' := St w g [_, _, _, _, _]) ?_ (ss [1, 2, 3, 5, 6] z z)
    refine aP <| oP z <| bE H fun F g3 H => aj z va z z z z (fun c a => dd c g3 (a.carve [4] z z) (rdB [4] z z a g_p0b)) fun i9 c Z a d7 => ?_
    obtain ⟨rfl, d8⟩ := d7
    refine ⟨St w g [_, _, _, _, _, _], a.comp [4] z z d8, fun _ _ => Y, ?_⟩
    refine aa [.fa 60 1 1 kL, .fa 56 1 1 oB] z <| sC 2 [I J F.1] [_, _, _, _, _, _, _, _, _, _, _, _] 3 z ty3 z <| nR <| oP z <| bE H fun s g4 H => aj z AD z z z z (fun c a => ip c g4 (a.carve [5] z z) (rdB [5] z z a g_p0b)) fun j0 c Z a d9 => ?_
    obtain ⟨G, j1, L, c3, rfl, b7⟩ := d9
    obtain rfl := aA (i := 0) b7 z
    refine ⟨St w g [_, _, _, _, _, _, _, _], a.comp [5] z z b7, fun _ _ => Y, ?_⟩
    refine aa [.fa 60 2 3 iX] z <| sC 3 [S G s.1.length L] [_, _, _, _, _, _, _, _, _, _, _, _] 3 z bG z <| nQ <| am <| CW.weak (C' := St w g [_, _, _, _, _, _]) ?_ (ss [0, 1, 2, 3, 6, 7] z z)
    refine aP <| oP z <| bE H fun M g5 H => aj z va z z z z (fun c a => dd c g5 (a.carve [5] z z) (rdB [5] z z a g_p0b)) fun j2 c Z a e0 => ?_
    obtain ⟨rfl, e1⟩ := e0
    refine ⟨St w g [_, _, _, _, _, _, _], a.comp [5] z z e1, fun _ _ => Y, ?_⟩
    refine aa [.fa 60 3 4 pb] z <| sC 4 [I J M.1] [_, _, _, _, _, _, _, _, _, _, _, _] 3 z ty3 z <| nR <| oP z <| bE H fun t g6 H => aj z AD z z z z (fun c a => ip c g6 (a.carve [6] z z) (rdB [6] z z a g_p0b)) fun j3 c Z a e2 => ?_
    obtain ⟨P, j4, Q, c4, rfl, b8⟩ := e2
    obtain rfl := aA (i := 0) b8 z
    refine ⟨St w g [_, _, _, _, _, _, _, _, _], a.comp [6] z z b8, fun _ _ => Y, ?_⟩
    refine aa [.fa 60 4 5 ep, .fa 58 0 0 jc] z <| sC 5 [S P t.1.length Q] [_, _, _, _, _, _, _, _, _, _, _, _] 3 z bG z <| nQ <| am <| am <| CW.weak (C' := St w g [_, _, _, _, _, _, _]) ?_ (ss [0, 1, 2, 3, 4, 7, 8] z z)
    refine aP <| oP z <| bE H fun b3 g7 H => aj z Dq z z z z (fun c a => jx c g7 (a.carve [6] z z) (rdB [6] z z a g_p0b)) fun j5 c Z a e3 => ?_
    obtain ⟨rfl, e4⟩ := e3
    refine ⟨St w g [_, _, _, _, _, _, _, _], a.comp [6] z z e4, fun _ _ => Y, ?_⟩
    refine oP z <| nQ <| ay <| CW.weak ?_ (fun _ h => St.pushNil (e := ad eI 3) (T := 45) h)
    refine CW.at (og (fun (a7 : Int) (a3 : Bool) (m : List (List Int)) (x : Option Addr) (A : Nat) (a8 : List Nat) (o : Int) => St w g [b b_0 64 [S a_p0b p0b.length c_p0b, I J a7, B a3], b X 26 [S N 0 0, I J 0], b a1 26 [S k d.length l, I J C.1], W (ad (aC) 60) D d [S k d.length l], b a6 60 [B u.1, I J E.1, I J F.1, S G s.1.length L, I J M.1, S P t.1.length Q, S x m.length A, I J 0, S N 0 0, I J 0, I J 0, I J 0], W (ad eI 3) c3 s.1 [S G s.1.length L], W (ad eI 3) c4 t.1 [S P t.1.length Q], W (ad (ad eI 3) 45) a8 m [S x m.length A]]) (fun a7 a3 m x A a8 o => [(0, O (U ⟨b_0, 0, N⟩)), (2, O (U ⟨X, 0, N⟩)), (3, O (U ⟨a1, 0, N⟩)), (4, I J f), (5, O (U ⟨a6, 0, N⟩)), (6, I J o)]) (fun kk => fun a7 a3 m x A a8 o => ff p0b d u E F s M t (cU p0b C k1) f kk a7 a3 m o = U r) (fun _ _ _ _ _ _ _ H => ?_) (fun k2 g8 a7 a3 m x A a8 o H => ?_) aY (b3.2.e_) (b3.2.C_) (([] : List (List Int))) (N) (0) ([]) (b3.1) (H)) (ss [7, 0, 1, 2, 3, 4, 5, 8] z z) (sb z)
    ·unfold ff at H
     exact absurd H (by simp)
    ·unfold ff at H
     refine am <| sR <| aa [.p, .p, .p] z <| aV [(54, B ((decide (o > 0)) && (!a3))), (0, O (U ⟨b_0, 0, N⟩)), (2, O (U ⟨X, 0, N⟩)), (3, O (U ⟨a1, 0, N⟩)), (4, I J f), (5, O (U ⟨a6, 0, N⟩)), (6, I J o)] 6 ?_ (fun key => OW.sub (R := [(0, O (U ⟨b_0, 0, N⟩)), (2, O (U ⟨X, 0, N⟩)), (3, O (U ⟨a1, 0, N⟩)), (4, I J f), (5, O (U ⟨a6, 0, N⟩)), (6, I J o), (48, B (decide (o > 0)))]) ?_ (sb z))
     ·refine nQ <| cI H z (fun H => ?_) (fun H => ?_)
      ·refine av <| az <| am <| ay <| cw 6 [(0, y), (1, y), (2, y), (3, y), (4, n), (5, n)] (St w g [Res.nil, b X 26 [S N 0 0, I J 0], b a1 26 [S k d.length l, I J C.1], W (ad (aC) 60) D d [S k d.length l], b a6 60 [B u.1, I J E.1, I J F.1, S G s.1.length L, I J M.1, S P t.1.length Q, S x m.length A, I J 0, S N 0 0, I J 0, I J 0, I J 0], W (ad eI 3) c3 s.1 [S G s.1.length L], W (ad eI 3) c4 t.1 [S P t.1.length Q], W (ad (ad eI 3) 45) a8 m [S x m.length A]]) bU (by kernel_rfl) (bj (aJ (db (bj (aJ (bj (aJ (db (bj (aJ bb)))))))))) (sm [n, y, y, y, y, y, y, y] z) <| aa [.fa 60 4 5 ep, .fa 58 1 1 dt] z <| bm z (aw z) (r1 6 4 z cY z) <| oP z <| bE H fun a9 g9 H => aj z AD z z z z (fun c a => ip c g9 (a.carve [0] z z) (rdB [0] z z a g_p0b)) fun j6 c Z a e5 => ?_
       obtain ⟨c5, j7, c6, j8, rfl, b9⟩ := e5
       obtain rfl := aA (i := 0) b9 z
       refine ⟨St w g [_, _, _, _, _, _, _, _, _, _], a.comp [0] z z b9, (sm [n, y, y, y, y, y, y, y] z), ?_⟩
       refine dV [(0, [S c5 a9.1.length c6])] z z z z z cC bG z z ⟨z, z, nl z, Y⟩ [S c5 a9.1.length c6] z (fun _ => (sm [n, y, y, y, y, y, y, y] z)) fun j9 => dH z (fun _ h => pg (p := 10) (q := 8) h z z z) <| aQ <| jf <| bE H fun c7 h0 H => ix (r := 7) (j := 11) z z z z z z cC bG z z z z z z z h0 (fun _ _ _ => kp) fun c8 c9 h1 => aa [.fa 60 4 5 ep, .fa 58 1 1 dt] z <| sC 6 [S c8 c7.length c9] [_, _, _, _, _, _, _, _, _, _, _, _] 4 z cY z <| ax <| bW <| az <| CW.weak (C' := St w g [_, _, _, _, _, _, _, _]) ?_ (ss [1, 2, 3, 4, 5, 6, 9, 12] z z)
       exact aP <| aa [.p, .p, .p] z <| ax <| ct (RW.at (g8 (a9.2.e_) (a9.2.C_) (c7) (c8) (c9) (h1) (J.wrap (o - 1)) (H)) (ss [6, 0, 1, 2, 3, 4, 5, 7] z z) (sb z))
      ·refine bx <| aK <| aR <| aL <| az <| sR <| oP z <| bE H fun b0 h2 H => aj z va z z z z (fun c a => dd c h2 (a.carve [0] z z) (rdB [0] z z a g_p0b)) fun k0 c Z a e6 => ?_
       obtain ⟨rfl, e7⟩ := e6
       refine ⟨St w g [_, _, _, _, _, _, _, _, _], a.comp [0] z z e7, fun _ _ => Y, ?_⟩
       refine aa [.fa 60 5 7 lE] z <| sC 7 [I J b0.1] [_, _, _, _, _, _, _, _, _, _, _, _] 4 z ty3 z <| nR <| oP z <| bE H fun b4 h3 H => aj z AD z z z z (fun c a => ip c h3 (a.carve [8] z z) (rdB [8] z z a g_p0b)) fun k3 c Z a e9 => ?_
       obtain ⟨b5, k4, b6, k5, rfl, c1⟩ := e9
       obtain rfl := aA (i := 0) c1 z
       refine ⟨St w g [_, _, _, _, _, _, _, _, _, _, _], a.comp [8] z z c1, fun _ _ => Y, ?_⟩
       refine aa [.fa 60 6 8 mM] z <| sC 8 [S b5 b4.1.length b6] [_, _, _, _, _, _, _, _, _, _, _, _] 4 z bG z <| nQ <| am <| CW.weak (C' := St w g [_, _, _, _, _, _, _, _, _]) ?_ (ss [1, 2, 3, 4, 5, 6, 7, 9, 10] z z)
       refine aP <| oP z <| bE H fun b1 h4 H => aj z va z z z z (fun c a => dd c h4 (a.carve [8] z z) (rdB [8] z z a g_p0b)) fun k6 c Z a f0 => ?_
       obtain ⟨rfl, f1⟩ := f0
       refine ⟨St w g [_, _, _, _, _, _, _, _, _, _], a.comp [8] z z f1, fun _ _ => Y, ?_⟩
       refine aa [.fa 60 7 9 ky] z <| sC 9 [I J b1.1] [_, _, _, _, _, _, _, _, _, _, _, _] 3 z ty3 z <| nR <| oP z <| bE H fun b2 h5 H => aj z va z z z z (fun c a => dd c h5 (a.carve [9] z z) (rdB [9] z z a g_p0b)) fun k7 c Z a f2 => ?_
       obtain ⟨rfl, f3⟩ := f2
       refine ⟨St w g [_, _, _, _, _, _, _, _, _, _, _], a.comp [9] z z f3, fun _ _ => Y, ?_⟩
       refine aa [.fa 60 8 10 nw] z <| sC 10 [I J b2.1] [_, _, _, _, _, _, _, _, _, _, _, _] 3 z ty3 z <| nQ <| am <| CW.weak (C' := St w g [_, _, _, _, _, _, _, _, _]) ?_ (ss [0, 1, 2, 3, 4, 5, 6, 7, 10] z z)
       refine aP <| oP z <| bE H fun a4 h6 H => aj z va z z z z (fun c a => dd c h6 (a.carve [8] z z) (rdB [8] z z a g_p0b)) fun k8 c Z a f4 => ?_
       obtain ⟨rfl, f5⟩ := f4
       refine ⟨St w g [_, _, _, _, _, _, _, _, _, _], a.comp [8] z z f5, fun _ _ => Y, ?_⟩
       refine aa [.fa 60 9 11 nx] z <| sC 11 [I J a4.1] [_, _, _, _, _, _, _, _, _, _, _, _] 3 z ty3 z <| nQ <| aP <| aa [.fa 26 0 0 bR] z <| o1 z (r1 0 1 z ec z) <| o1 z (rx 0 3 _ z bZ z) <| sl z (fun c a => cm (x0 := u.1) (x1 := E.1) (x2 := F.1) (x4 := M.1) (x7 := b0.1) (x9 := b1.1) (x10 := b2.1) (x11 := a4.1) [4, 5, 6, 7] a z z) fun k9 => dH (C' := St w g [_, _, _, _, _, _, _, _, _, _, _]) z (fun _ h => h) <| dV [(0, [B u.1, I J E.1, I J F.1, S G s.1.length L, I J M.1, S P t.1.length Q, S x m.length A, I J b0.1, S b5 b4.1.length b6, I J b1.1, I J b2.1, I J a4.1])] z z z z z dW bZ z z ⟨z, z, nl z, Y⟩ [B u.1, I J E.1, I J F.1, S G s.1.length L, I J M.1, S P t.1.length Q, S x m.length A, I J b0.1, S b5 b4.1.length b6, I J b1.1, I J b2.1, I J a4.1] z (fun _ => kp) fun l0 => dH z (fun _ h => pg (p := 11) (q := 10) h z z z) <| bE H fun d0 h7 H => ix (r := 2) (j := 12) z z z z z z dW bZ z z z z z z z h7 (fun _ _ _ => kp) fun d1 d2 h8 => aa [.fa 26 0 0 bR] z <| sC 0 [S d1 d0.length d2] [_, _] 1 z ec z <| ax <| bW <| az <| CW.weak (C' := St w g [_, _, _, _, _]) ?_ (ss [0, 1, 3, 9, 13] z z)
       exact aP <| aa [.p, .p, .p] z <| ax <| ct (RW.at (g0 (a4.2.e_) (a4.2.C_) (d0) (d1) (d2) (h8) (J.wrap (f - 1)) (H)) (ss [3, 0, 1, 4] z z) (sb z))
     ·generalize (decide (o > 0)) = h9 at key ⊢
      cases h9
      ·exact aa [.p, .p, .p, .p, .p, .p] z <| OW.sub key (sb z)
      ·exact aa [.p, .p, .fa 64 2 2 ol] z <| o1 z (r1 2 0 z ty4 z) <| oP z <| oP z <| OW.sub key (sb z)
   ·exact bx <| aK <| aR <| aL <| az <| sR <| o1 z (rx 0 2 _ z br z) <| sC 0 [S k d.length l, I J C.1] [_, _] 1 z br z <| nT <| aO (rs := [.cell 2 26]) (vs := [.agg #[S k d.length l, I J C.1]]) z ⟨⟨_, [S k d.length l, I J C.1], _, _, _, z, br, (bn (T := 26) 0 (bJ (i := 1) z) z), z, z⟩, Y⟩ (fun w' hw' => by
     obtain rfl := af H
     exact ⟨_, z, k, d.length, l, D, z, hw'.sel [3, 0] z z⟩)
  ·generalize (decide (f > 0)) = i0 at key ⊢
   cases i0
   ·exact aa [.p, .p, .p, .p, .p, .p] z <| OW.sub key (sb z)
   ·exact aa [.p, .p, .fa 64 2 2 ol] z <| o1 z (r1 2 0 z ty4 z) <| oP z <| oP z <| OW.sub key (sb z)
theorem tV (w : World) {g : List Nat} {p0 : List Int} {p1 : Int} {a_0 : Option Addr} {n_0 c_0 : Nat} {r : ai × Int × Bool} (H : lh p0 p1 = U r) (HS : St w g [] w) (m : (ad e8 5).rd w g p0 [S a_0 n_0 c_0]) :
    Calls Tryz.prog 10 #[S a_0 n_0 c_0, I J p1] w (fun en w' => ∃ v, en = .returned v ∧ ∃ (o : Option Addr), ∃ (q : Nat), ∃ (c0 : Nat), ∃ (A : List Nat), v = .tuple #[.agg #[S o q c0, I J r.1.g_], I J r.2.1, B r.2.2] ∧ St w g [W (ad (aC) 60) A r.1.a_ [S o q c0]] w') := by
 obtain rfl := fp m
 unfold lh at H
 refine aN Tryz.func10 z Tryz.ntmps10 z (HS) <| sR <| aB z z z z br (fun _ => kp) fun C => oPP z <| nR <| oPP z <| o1 z (bu [(0, [S a_0 p0.length c_0]), (1, [I J p1])] [S a_0 p0.length c_0, I J p1, B n] z z EX EU z ⟨z, z, nl z, z, z, nl z, Y⟩ z) <| ob _ z fun s => oP z <| nR <| oP z <| bE H fun a t H => aj z Gc z z z z (fun u f => qX u t (f.carve [1] z z) (rdB [1] z z f m)) fun D u F f l => ?_
 obtain ⟨c, E, d, k, rfl, j⟩ := l
 obtain rfl := aA (i := 0) j z
 refine ⟨St w g [_, _, _, _], f.comp [1] z z j, fun _ _ => Y, ?_⟩
 refine aB z z z z br (fun _ => kp) fun x => sC 0 [S c a.1.a_.length d, I J a.1.g_] [_, _] 4 z br z <| nQ <| am <| sR <| aa [.p, .p, .fa 64 2 2 ol] z <| o1 z (r1 2 3 z ty4 z) <| nQ <| cI H z (fun H => ?_) (fun H => ?_)
 ·exact sR <| o1 z (bu [] [S N 0 0, I J 0] z z br zX z Y z) <| sC 0 [S N 0 0, I J 0] [_, _] 0 z br z <| oPP z <| nT <| aq <| eG (fun _ h => St.pushNil (e := aC) (T := 60) h) <| aO (rs := [.cell 4 26, .tmp 5, .tmp 6]) (vs := [.agg #[S N 0 0, I J 0], I J 0, B n]) z ⟨⟨_, [S N 0 0, I J 0], _, _, _, z, br, (bn (T := 26) 0 (bJ (i := 0) z) z), z, z⟩, z, z, Y⟩ (fun w' hw' => by
   obtain rfl := af H
   exact ⟨_, z, N, 0, 0, [], z, hw'.sel [5] z z⟩)
 ·exact av <| az <| am <| cw 6 [(0, y), (1, y), (2, y), (3, y), (4, y), (5, n)] (St w g [Res.nil, Res.nil, W (ad (aC) 60) k a.1.a_ [S c a.1.a_.length d], b s 64 [S a_0 p0.length c_0, I J a.2.e_, B a.2.C_], b x 26 [S c a.1.a_.length d, I J a.1.g_]]) bU (by kernel_rfl) (aJ bb) (sm [n, y, y, y, y] z) <| bm z (aw z) (rx 0 4 _ z br z) <| aa [.p, .p, .fa 64 1 1 uJ] z <| bm z (aw z) (r1 1 3 z ty3 z) <| bp (off := 0) [S c a.1.a_.length d, I J a.1.g_] [_, _] (i := 0) z z z z z z br z z (al z) z z z (sm [n, y, y, y, y] z) <| aQ <| jf <| oPP z <| nT <| aO (rs := [.cell 4 26, .tmp 5, .tmp 6]) (vs := [.agg #[S c a.1.a_.length d, I J a.1.g_], I J a.2.e_, B y]) z ⟨⟨_, [S c a.1.a_.length d, I J a.1.g_], _, _, _, z, br, (bn (T := 26) 0 (bJ (i := 0) z) z), z, z⟩, z, z, Y⟩ (fun w' hw' => by
   obtain rfl := af H
   exact ⟨_, z, c, a.1.a_.length, d, k, z, hw'.sel [2] z z⟩)
theorem iZ (w : World) {p0 : List Int} {p1 : List Int} {a_0 : Option Addr} {n_0 c_0 : Nat} {a_1 : Option Addr} {n_1 c_1 : Nat} {r : Bool} (H : fx p0 p1 = U r) (f : (ad eI 3).rd w [] p0 [S a_0 n_0 c_0]) (g : (ad eI 3).rd w [] p1 [S a_1 n_1 c_1]) :
    Calls Tryz.prog 30 #[S a_0 n_0 c_0, S a_1 n_1 c_1] w (fun en w' => en = .returned (B r) ∧ Ext [] w w') := by
 obtain rfl := fp f
 obtain rfl := fp g
 unfold fx at H
 refine aN Tryz.func30 z Tryz.ntmps30 z (St.init w []) <| sR <| oP z <| nQ <| am <| sR <| aa [.p, .lenS 45 3 aT, .p, .lenS 45 3 aT, .p] z <| nQ <| cI H z (fun H => ?_) (fun H => ?_)
 ·exact sR <| oP z <| nT <| aq <| xr 4 z (by cases H; exact q1)
 ·refine av <| az <| am <| sR <| oP z <| nQ <| ay <| CW.at (gF (fun (a : Int) => St w [] []) (fun a => [(0, S a_0 p0.length c_0), (1, S a_1 p1.length c_1), (5, I J a)]) (fun kk => fun a => eF p0 p1 kk a = U r) (fun _ H => ?_) (fun l h a H => ?_) aY (0) (H)) (ss [] z z) (sb z)
  ·unfold eF at H
   exact absurd H (by simp)
  ·unfold eF at H
   refine am <| sR <| aa [.p, .p, .lenS 45 3 aT, .p] z <| nQ <| cI H z (fun H => ?_) (fun H => ?_)
   ·refine av <| az <| am <| ay <| am <| dR bU (by kernel_rfl) <| oPP z <| bE H fun i c H => bF (e := eI) (xs := p0) (j := a) z z z z z aT ty3 z (ab f) c (by rw [Nat.mul_one]) <| o1 z (aM z z ty3 (bO (ab f) c)) <| oPP z <| bE H fun k d H => bF (e := eI) (xs := p1) (j := a) z z z z z aT ty3 z (ab g) d (by rw [Nat.mul_one]) <| o1 z (aM z z ty3 (bO (ab g) d)) <| oP z <| co <| az <| cI H z (fun H => ?_) (fun H => ?_)
    ·exact sR <| oP z <| nT <| ba <| aq <| cd <| ba <| aq <| xr 4 z (by cases H; exact q1)
    ·exact av <| bW <| az <| aP <| aa [.p, .p, .p] z <| ax <| ct (RW.at (h (J.wrap (a + 1)) (H)) (ss [] z z) (sb z))
   ·exact bx <| aK <| aR <| aL <| az <| sR <| oP z <| nT <| xr 4 z (by cases H; exact q1)
theorem rV (w : World) {p0 : ar} {p1 : ar} {j : List Value} {k : List Value} {r : Bool} (H : kx p0 p1 = U r) (Z : (cb).rd w [] p0 j) (g1 : (cb).rd w [] p1 k) :
    Calls Tryz.prog 47 #[.agg j.toArray, .agg k.toArray] w (fun en w' => en = .returned (B r) ∧ Ext [] w w') := by
 obtain ⟨a1, a2, rfl, l, m⟩ := aS Z
 obtain ⟨v, x, rfl⟩ := ao l
 obtain ⟨A, C, rfl⟩ := ao m
 obtain ⟨a3, a4, rfl, o, q⟩ := aS g1
 obtain ⟨D, E, rfl⟩ := ao o
 obtain ⟨F, G, rfl⟩ := ao q
 unfold kx at H
 refine aN Tryz.func47 z Tryz.ntmps47 z (St.init w []) <| sR <| ob _ z fun e => ob _ z fun f => oP z <| nQ <| am <| sR <| aa [.fa 58 0 0 jc] z <| o1 z (r1 0 0 z bG z) <| aa [.fa 58 0 0 jc] z <| o1 z (r1 0 1 z bG z) <| bE H fun g L H => oq z (qc z BO (fun d c => iZ d L (ab l d c) (ab o d c))) tt2 <| oPP z <| aV [(20, B ((!g) || ((p0.b_.length : Int) != (p1.b_.length : Int)))), (2, O (U ⟨e, 0, N⟩)), (3, O (U ⟨f, 0, N⟩))] 8 ?_ (fun key => OW.sub (R := [(2, O (U ⟨e, 0, N⟩)), (3, O (U ⟨f, 0, N⟩)), (12, B (!g))]) ?_ (sb z))
 ·refine nQ <| cI H z (fun H => ?_) (fun H => ?_)
  ·exact sR <| oP z <| nT <| aq <| xr 4 z (by cases H; exact q1)
  ·refine av <| az <| am <| sR <| oP z <| nQ <| ay <| CW.at (gF (fun (a : Int) => St w [] [b e 58 [S v p0.d_.length x, S A p0.b_.length C], b f 58 [S D p1.d_.length E, S F p1.b_.length G]]) (fun a => [(2, O (U ⟨e, 0, N⟩)), (3, O (U ⟨f, 0, N⟩)), (5, I J a)]) (fun kk => fun a => dN p0 p1 kk a = U r) (fun _ H => ?_) (fun k1 s a H => ?_) aY (0) (H)) (ss [0, 1] z z) (sb z)
   ·unfold dN at H
    exact absurd H (by simp)
   ·unfold dN at H
    refine am <| sR <| aa [.p, .fa 58 1 1 dt] z <| o1 z (r1 1 0 z cY z) <| aa [.lenS 28 45 cC, .p] z <| nQ <| cI H z (fun H => ?_) (fun H => ?_)
    ·refine av <| az <| am <| ay <| am <| dR bU (by kernel_rfl) <| aa [.fa 58 1 1 dt] z <| o1 z (r1 1 0 z cY z) <| oP z <| bE H fun a5 M H => cf z z z z z cC bG z m M fun a6 a7 h t => ?_
     obtain ⟨a8, a9, rfl⟩ := ao h
     refine o1 z (aM z z bG (ce bor t)) <| aa [.fa 58 1 1 dt] z <| o1 z (r1 1 1 z cY z) <| oP z <| bE H fun b0 P H => cf z z z z z cC bG z q P fun b1 b2 i u => ?_
     obtain ⟨b3, b4, rfl⟩ := ao i
     refine o1 z (aM z z bG (ce bor u)) <| bE H fun b5 Q H => oq z (qc z BO (fun d c => iZ d Q (ab h d c) (ab i d c))) tt2 <| oP z <| co <| az <| cI H z (fun H => ?_) (fun H => ?_)
     ·exact sR <| oP z <| nT <| ba <| aq <| cd <| ba <| aq <| xr 4 z (by cases H; exact q1)
     ·exact av <| bW <| az <| aP <| aa [.p, .p, .p] z <| ax <| ct (RW.at (s (J.wrap (a + 1)) (H)) (ss [0, 1] z z) (sb z))
    ·exact bx <| aK <| aR <| aL <| az <| sR <| oP z <| nT <| xr 4 z (by cases H; exact q1)
 ·generalize (!g) = X at key ⊢
  cases X
  ·exact aa [.fa 58 1 1 dt] z <| o1 z (r1 1 0 z cY z) <| aa [.lenS 28 45 cC, .fa 58 1 1 dt] z <| o1 z (r1 1 1 z cY z) <| aa [.lenS 28 45 cC, .p] z <| oP z <| OW.sub key (sb z)
  ·exact aa [.p, .p, .p, .p, .p, .p, .p, .p] z <| OW.sub key (sb z)
theorem sK (w : World) {p0 : aG} {p1 : aG} {l : List Value} {m : List Value} {r : Bool} (H : ls p0 p1 = U r) (g0 : (aC).rd w [] p0 l) (g1 : (aC).rd w [] p1 m) :
    Calls Tryz.prog 27 #[.agg l.toArray, .agg m.toArray] w (fun en w' => en = .returned (B r) ∧ Ext [] w w') := by
 obtain ⟨b9, c0, c1, c2, c3, c4, c5, c6, c7, c8, rfl, E, F, o, G, L, M, q, P, Q, X⟩ := bo g0
 obtain rfl := E
 obtain rfl := F
 obtain ⟨c9, d0, rfl⟩ := ao o
 obtain rfl := G
 obtain ⟨d1, d2, rfl, s, t⟩ := aS L
 obtain ⟨d3, d4, rfl⟩ := ao s
 obtain ⟨d5, d6, rfl⟩ := ao t
 obtain rfl := M
 obtain ⟨d7, d8, rfl⟩ := ao q
 obtain rfl := P
 obtain rfl := Q
 obtain rfl := X
 obtain ⟨d9, e0, e1, e2, e3, e4, e5, e6, e7, e9, rfl, Z, a0, u, a1, a2, a3, v, a4, a5, a6⟩ := bo g1
 obtain rfl := Z
 obtain rfl := a0
 obtain ⟨f0, f1, rfl⟩ := ao u
 obtain rfl := a1
 obtain ⟨f2, f3, rfl, x, A⟩ := aS a2
 obtain ⟨f4, f5, rfl⟩ := ao x
 obtain ⟨f6, f7, rfl⟩ := ao A
 obtain rfl := a3
 obtain ⟨f8, f9, rfl⟩ := ao v
 obtain rfl := a4
 obtain rfl := a5
 obtain rfl := a6
 unfold ls at H
 refine aN Tryz.func27 z Tryz.ntmps27 z (St.init w []) <| sR <| ob _ z fun a => ob _ z fun c => oP z <| nR <| aa [.fa 60 0 0 mw] z <| o1 z (r1 0 0 z ty4 z) <| aa [.fa 60 0 0 mw] z <| o1 z (r1 0 1 z ty4 z) <| o1 z (Df z z z bl4) <| oP z <| aV [(16, B ((p0.s_ == p1.s_) && (p0.k_.j_ == p1.k_.j_ && (p0.k_.c_ == p1.k_.c_ && y)))), (2, O (U ⟨a, 0, N⟩)), (3, O (U ⟨c, 0, N⟩)), (4, B n)] 6 ?_ (fun key => OW.sub (R := [(2, O (U ⟨a, 0, N⟩)), (3, O (U ⟨c, 0, N⟩)), (4, B n), (10, B (p0.s_ == p1.s_))]) ?_ (sb z))
 ·refine oP z <| bE H fun g i H => aV [(23, B g), (2, O (U ⟨a, 0, N⟩)), (3, O (U ⟨c, 0, N⟩)), (4, B n)] 6 ?_ (fun key => OW.sub (R := [(2, O (U ⟨a, 0, N⟩)), (3, O (U ⟨c, 0, N⟩)), (4, B n), (17, B ((p0.s_ == p1.s_) && (p0.k_.j_ == p1.k_.j_ && (p0.k_.c_ == p1.k_.c_ && y))))]) ?_ (sb z))
  ·refine oP z <| aV [(30, B (g && (p0.x_ == p1.x_))), (2, O (U ⟨a, 0, N⟩)), (3, O (U ⟨c, 0, N⟩)), (4, B n)] 6 ?_ (fun key => OW.sub (R := [(2, O (U ⟨a, 0, N⟩)), (3, O (U ⟨c, 0, N⟩)), (4, B n), (24, B g)]) ?_ (sb z))
   ·refine oP z <| bE H fun h j H => aV [(37, B h), (2, O (U ⟨a, 0, N⟩)), (3, O (U ⟨c, 0, N⟩)), (4, B n)] 6 ?_ (fun key => OW.sub (R := [(2, O (U ⟨a, 0, N⟩)), (3, O (U ⟨c, 0, N⟩)), (4, B n), (31, B (g && (p0.x_ == p1.x_)))]) ?_ (sb z))
    ·refine oP z <| aV [(44, B (h && (p0.v_ == p1.v_))), (2, O (U ⟨a, 0, N⟩)), (3, O (U ⟨c, 0, N⟩)), (4, B n)] 6 ?_ (fun key => OW.sub (R := [(2, O (U ⟨a, 0, N⟩)), (3, O (U ⟨c, 0, N⟩)), (4, B n), (38, B h)]) ?_ (sb z))
     ·refine oP z <| bE H fun d k H => aV [(51, B d), (2, O (U ⟨a, 0, N⟩)), (3, O (U ⟨c, 0, N⟩)), (4, B n)] 6 ?_ (fun key => OW.sub (R := [(2, O (U ⟨a, 0, N⟩)), (3, O (U ⟨c, 0, N⟩)), (4, B n), (45, B (h && (p0.v_ == p1.v_)))]) ?_ (sb z))
      ·refine oP z <| aV [(58, B (d && (p0.l_ == p1.l_))), (2, O (U ⟨a, 0, N⟩)), (3, O (U ⟨c, 0, N⟩)), (4, B n)] 6 ?_ (fun key => OW.sub (R := [(2, O (U ⟨a, 0, N⟩)), (3, O (U ⟨c, 0, N⟩)), (4, B n), (52, B d)]) ?_ (sb z))
       ·refine oP z <| aV [(65, B ((d && (p0.l_ == p1.l_)) && (p0.p_ == p1.p_))), (2, O (U ⟨a, 0, N⟩)), (3, O (U ⟨c, 0, N⟩)), (4, B n)] 6 ?_ (fun key => OW.sub (R := [(2, O (U ⟨a, 0, N⟩)), (3, O (U ⟨c, 0, N⟩)), (4, B n), (59, B (d && (p0.l_ == p1.l_)))]) ?_ (sb z))
        ·refine oP z <| aV [(72, B (((d && (p0.l_ == p1.l_)) && (p0.p_ == p1.p_)) && (p0.q_ == p1.q_))), (4, B n)] 6 ?_ (fun key => OW.sub (R := [(2, O (U ⟨a, 0, N⟩)), (3, O (U ⟨c, 0, N⟩)), (4, B n), (66, B ((d && (p0.l_ == p1.l_)) && (p0.p_ == p1.p_)))]) ?_ (sb z))
         ·exact oP z <| nT <| xr 4 z (by cases H; exact q1)
         ·generalize ((d && (p0.l_ == p1.l_)) && (p0.p_ == p1.p_)) = C at key ⊢
          cases C
          ·exact aa [.p, .p, .p, .p, .p, .p] z <| OW.sub key (sb z)
          ·exact aa [.fa 60 9 11 nx] z <| o1 z (r1 11 0 z ty3 z) <| aa [.fa 60 9 11 nx] z <| o1 z (r1 11 1 z ty3 z) <| oP z <| oP z <| OW.sub key (sb z)
        ·generalize (d && (p0.l_ == p1.l_)) = D at key ⊢
         cases D
         ·exact aa [.p, .p, .p, .p, .p, .p] z <| OW.sub key (sb z)
         ·exact aa [.fa 60 8 10 nw] z <| o1 z (r1 10 0 z ty3 z) <| aa [.fa 60 8 10 nw] z <| o1 z (r1 10 1 z ty3 z) <| oP z <| oP z <| OW.sub key (sb z)
       ·generalize d = a7 at key ⊢
        cases a7
        ·exact aa [.p, .p, .p, .p, .p, .p] z <| OW.sub key (sb z)
        ·exact aa [.fa 60 7 9 ky] z <| o1 z (r1 9 0 z ty3 z) <| aa [.fa 60 7 9 ky] z <| o1 z (r1 9 1 z ty3 z) <| oP z <| oP z <| OW.sub key (sb z)
      ·clear H
       have H := k
       clear k
       generalize (h && (p0.v_ == p1.v_)) = a8 at H key ⊢
       cases a8
       ·have H := bh z H
        refine aa [.p, .p, .p, .p, .p, .p] z ?_
        obtain rfl := af H
        exact OW.sub key (sb z)
       ·have H := bi z H
        refine aa [.fa 60 6 8 mM] z <| o1 z (r1 8 0 z bG z) <| aa [.fa 60 6 8 mM] z <| o1 z (r1 8 1 z bG z) <| bE H fun g2 a9 H => oq z (qc z BO (fun f e => iZ f a9 (ab q f e) (ab v f e))) tt2 <| oP z <| ?_
        obtain rfl := af H
        exact OW.sub key (sb z)
     ·generalize h = b0 at key ⊢
      cases b0
      ·exact aa [.p, .p, .p, .p, .p, .p] z <| OW.sub key (sb z)
      ·exact aa [.fa 60 5 7 lE] z <| o1 z (r1 7 0 z ty3 z) <| aa [.fa 60 5 7 lE] z <| o1 z (r1 7 1 z ty3 z) <| oP z <| oP z <| OW.sub key (sb z)
    ·clear H
     have H := j
     clear j
     generalize (g && (p0.x_ == p1.x_)) = b1 at H key ⊢
     cases b1
     ·have H := bh z H
      refine aa [.p, .p, .p, .p, .p, .p] z ?_
      obtain rfl := af H
      exact OW.sub key (sb z)
     ·have H := bi z H
      refine aa [.fa 60 4 5 ep] z <| o1 z (rx 5 0 _ z cK z) <| aa [.fa 60 4 5 ep] z <| o1 z (rx 5 1 _ z cK z) <| bE H fun g3 b2 H => oq z (qc z Gt (fun f e => rV f b2 (aH (ab s f e) (ab t f e)) (aH (ab x f e) (ab A f e)))) tt2 <| oP z <| ?_
      obtain rfl := af H
      exact OW.sub key (sb z)
   ·generalize g = b3 at key ⊢
    cases b3
    ·exact aa [.p, .p, .p, .p, .p, .p] z <| OW.sub key (sb z)
    ·exact aa [.fa 60 3 4 pb] z <| o1 z (r1 4 0 z ty3 z) <| aa [.fa 60 3 4 pb] z <| o1 z (r1 4 1 z ty3 z) <| oP z <| oP z <| OW.sub key (sb z)
  ·clear H
   have H := i
   clear i
   generalize ((p0.s_ == p1.s_) && (p0.k_.j_ == p1.k_.j_ && (p0.k_.c_ == p1.k_.c_ && y))) = b4 at H key ⊢
   cases b4
   ·have H := bh z H
    refine aa [.p, .p, .p, .p, .p, .p] z ?_
    obtain rfl := af H
    exact OW.sub key (sb z)
   ·have H := bi z H
    refine aa [.fa 60 2 3 iX] z <| o1 z (r1 3 0 z bG z) <| aa [.fa 60 2 3 iX] z <| o1 z (r1 3 1 z bG z) <| bE H fun g4 b5 H => oq z (qc z BO (fun f e => iZ f b5 (ab o f e) (ab u f e))) tt2 <| oP z <| ?_
    obtain rfl := af H
    exact OW.sub key (sb z)
 ·generalize (p0.s_ == p1.s_) = b6 at key ⊢
  cases b6
  ·exact aa [.p, .p, .p, .p, .p, .p] z <| OW.sub key (sb z)
  ·exact aa [.fa 60 1 1 kL] z <| o1 z (rx 1 0 _ z cL z) <| aa [.fa 60 1 1 kL] z <| o1 z (rx 1 1 _ z cL z) <| o1 z (Cw (xs := [I J p0.k_.j_, I J p0.k_.c_]) (ys := [I J p1.k_.j_, I J p1.k_.c_]) z z z (FG p0.k_.j_ p1.k_.j_ p0.k_.c_ p1.k_.c_)) <| oP z <| OW.sub key (sb z)
theorem te (w : World) {p0 : ai} {p1 : ai} {A : List Value} {C : List Value} {r : Bool} (H : ly p0 p1 = U r) (g0 : (cW).rd w [] p0 A) (g1 : (cW).rd w [] p1 C) :
    Calls Tryz.prog 11 #[.agg A.toArray, .agg C.toArray] w (fun en w' => en = .returned (B r) ∧ Ext [] w w') := by
 obtain ⟨g9, h0, rfl, D, c8⟩ := cr g0
 obtain ⟨c9, d0, rfl⟩ := ao D
 obtain rfl := c8
 obtain ⟨h1, h2, rfl, E, d1⟩ := cr g1
 obtain ⟨d2, d3, rfl⟩ := ao E
 obtain rfl := d1
 unfold ly at H
 refine aN Tryz.func11 z Tryz.ntmps11 z (St.init w []) <| sR <| ob _ z fun g => ob _ z fun h => oP z <| nQ <| am <| sR <| aa [.fa 26 0 0 bR] z <| o1 z (r1 0 0 z ec z) <| aa [.lenS 24 60 dW, .fa 26 0 0 bR] z <| o1 z (r1 0 1 z ec z) <| aa [.lenS 24 60 dW, .p, .p] z <| aV [(19, B (((p0.a_.length : Int) != (p1.a_.length : Int)) || (p0.g_ != p1.g_))), (2, O (U ⟨g, 0, N⟩)), (3, O (U ⟨h, 0, N⟩))] 6 ?_ (fun key => OW.sub (R := [(2, O (U ⟨g, 0, N⟩)), (3, O (U ⟨h, 0, N⟩)), (13, B ((p0.a_.length : Int) != (p1.a_.length : Int)))]) ?_ (sb z))
 ·refine nQ <| cI H z (fun H => ?_) (fun H => ?_)
  ·exact sR <| oP z <| nT <| aq <| xr 4 z (by cases H; exact q1)
  ·refine av <| az <| am <| sR <| oP z <| nQ <| ay <| CW.at (gF (fun (d : Int) => St w [] [b g 26 [S c9 p0.a_.length d0, I J p0.g_], b h 26 [S d2 p1.a_.length d3, I J p1.g_]]) (fun d => [(2, O (U ⟨g, 0, N⟩)), (3, O (U ⟨h, 0, N⟩)), (5, I J d)]) (fun kk => fun d => eg p0 p1 kk d = U r) (fun _ H => ?_) (fun k1 F d H => ?_) aY (0) (H)) (ss [0, 1] z z) (sb z)
   ·unfold eg at H
    exact absurd H (by simp)
   ·unfold eg at H
    refine am <| sR <| aa [.p, .fa 26 0 0 bR] z <| o1 z (r1 0 0 z ec z) <| aa [.lenS 24 60 dW, .p] z <| nQ <| cI H z (fun H => ?_) (fun H => ?_)
    ·refine av <| az <| am <| ay <| am <| dR bU (by kernel_rfl) <| aa [.fa 26 0 0 bR] z <| o1 z (r1 0 0 z ec z) <| oP z <| bE H fun a G H => cf z z z z z dW bZ z D G fun d7 d8 t u => ?_
     obtain ⟨d9, e0, e1, e2, e3, e4, e5, e6, e7, e9, rfl, L, M, i, P, Q, X, j, Z, a0, a1⟩ := bo t
     obtain rfl := L
     obtain rfl := M
     obtain ⟨a2, a3, rfl⟩ := ao i
     obtain rfl := P
     obtain ⟨f0, f1, rfl, k, l⟩ := aS Q
     obtain ⟨a4, a5, rfl⟩ := ao k
     obtain ⟨a6, a7, rfl⟩ := ao l
     obtain rfl := X
     obtain ⟨a8, a9, rfl⟩ := ao j
     obtain rfl := Z
     obtain rfl := a0
     obtain rfl := a1
     refine o1 z (dk (cs := [B a.s_, I J a.k_.j_, I J a.k_.c_, S a2 a.t_.length a3, I J a.x_, S a4 a.m_.d_.length a5, S a6 a.m_.b_.length a7, I J a.v_, S a8 a.f_.length a9, I J a.l_, I J a.p_, I J a.q_]) z z bZ (ce bor u) z) <| aa [.fa 26 0 0 bR] z <| o1 z (r1 0 1 z ec z) <| oP z <| bE H fun c b0 H => cf z z z z z dW bZ z E b0 fun f2 f3 v x => ?_
     obtain ⟨f4, f5, f6, f7, f8, f9, g2, g3, g4, g5, rfl, b1, b2, m, b3, b4, b5, o, b6, b7, b8⟩ := bo v
     obtain rfl := b1
     obtain rfl := b2
     obtain ⟨b9, c0, rfl⟩ := ao m
     obtain rfl := b3
     obtain ⟨g6, g7, rfl, q, s⟩ := aS b4
     obtain ⟨c1, c2, rfl⟩ := ao q
     obtain ⟨c3, c4, rfl⟩ := ao s
     obtain rfl := b5
     obtain ⟨c5, c6, rfl⟩ := ao o
     obtain rfl := b6
     obtain rfl := b7
     obtain rfl := b8
     refine o1 z (dk (cs := [B c.s_, I J c.k_.j_, I J c.k_.c_, S b9 c.t_.length c0, I J c.x_, S c1 c.m_.d_.length c2, S c3 c.m_.b_.length c4, I J c.v_, S c5 c.f_.length c6, I J c.l_, I J c.p_, I J c.q_]) z z bZ (ce bor x) z) <| bE H fun g8 c7 H => oq z (qc z FW (fun f e => sK f c7 (fW z z (ab i f e) z (aH (ab k f e) (ab l f e)) z (ab j f e) z z z) (fW z z (ab m f e) z (aH (ab q f e) (ab s f e)) z (ab o f e) z z z))) tt2 <| oP z <| co <| az <| cI H z (fun H => ?_) (fun H => ?_)
     ·exact sR <| oP z <| nT <| ba <| aq <| cd <| ba <| aq <| xr 4 z (by cases H; exact q1)
     ·exact av <| bW <| az <| aP <| aa [.p, .p, .p] z <| ax <| ct (RW.at (F (J.wrap (d + 1)) (H)) (ss [0, 1] z z) (sb z))
    ·exact bx <| aK <| aR <| aL <| az <| sR <| oP z <| nT <| xr 4 z (by cases H; exact q1)
 ·generalize ((p0.a_.length : Int) != (p1.a_.length : Int)) = d4 at key ⊢
  cases d4
  ·exact aa [.fa 26 1 1 lH] z <| o1 z (r1 1 0 z ty3 z) <| aa [.fa 26 1 1 lH] z <| o1 z (r1 1 1 z ty3 z) <| oP z <| oP z <| OW.sub key (sb z)
  ·exact aa [.p, .p, .p, .p, .p, .p] z <| OW.sub key (sb z)
theorem sx (w : World) {f : List Nat} {p0 : aE} {l : List Value} {r : List Int} (H : kI p0 = U r) (HS : St w f [] w) (P : (fR).rd w f p0 l) :
    Calls Tryz.prog 12 #[.agg l.toArray] w (fun en w' => ∃ v, en = .returned v ∧ ∃ (A : Option Addr), ∃ (C : Nat), ∃ (c0 : Nat), ∃ (Q : List Nat), v = S A C c0 ∧ St w f [W (ad e8 5) Q r [S A C c0]] w') := by
 obtain ⟨R, rfl, g⟩ := fK P
 obtain ⟨D, E, rfl⟩ := ao g
 unfold kI at H
 refine aN Tryz.func12 z Tryz.ntmps12 z (HS) <| sR <| ob _ z fun m => oP z <| nQ <| am <| sR <| oP z <| nQ <| ay <| CW.at (gF (fun (a : Int) => St w f [b m 30 [S D p0.o_.length E]]) (fun a => [(1, O (U ⟨m, 0, N⟩)), (3, I J a)]) (fun kk => fun a => hZ p0 kk a = U r) (fun _ H => ?_) (fun k1 t a H => ?_) aY (0) (H)) (ss [0] z z) (sb z)
 ·unfold hZ at H
  exact absurd H (by simp)
 ·unfold hZ at H
  refine am <| sR <| aa [.p, .fa 30 0 0 cJ] z <| o1 z (r1 0 0 z cY z) <| aa [.lenS 28 45 cC, .p] z <| nQ <| cI H z (fun H => ?_) (fun H => ?_)
  ·refine av <| az <| am <| ay <| sR <| aa [.fa 30 0 0 cJ] z <| o1 z (r1 0 0 z cY z) <| oP z <| bE H fun X F H => cf z z z z z cC bG z g F fun Z a1 h u => ?_
   obtain ⟨a2, a3, rfl⟩ := ao h
   refine o1 z (aM z z bG (ce bor u)) <| bE H fun a4 G H => oq z (qc z xW (fun d c => gr d G (ab h d c))) tt2 <| oP z <| nQ <| cI H z (fun H => ?_) (fun H => ?_)
   ·exact sR <| bI (e := e8) z z z z fQ ty5 (fun _ => kp) fun j => oP z <| nT <| ba <| aq <| cd <| ba <| aq <| aO (rs := [.tmp 2]) (vs := [S (U ⟨j, 0, N⟩) 0 0]) z ⟨z, Y⟩ (fun w' hw' => by
     obtain rfl := af H
     exact ⟨_, z, (U ⟨j, 0, N⟩), 0, 0, [j], z, hw'.sel [1] z z⟩)
   ·exact av <| bW <| az <| aP <| aa [.p, .p, .p] z <| ax <| ct (RW.at (t (J.wrap (a + 1)) (H)) (ss [0] z z) (sb z))
  ·refine bx <| aK <| aR <| aL <| az <| sR <| aa [.fa 30 0 0 cJ] z <| o1 z (r1 0 0 z cY z) <| bE H fun o L H => aj z EL z z z z (fun d c => nD d L (c.carve [] z z) (ab g d c)) fun a5 d w2 c x => ?_
   obtain ⟨q, a6, s, M, rfl, k⟩ := x
   obtain rfl := aA (i := 0) k z
   refine ⟨St w f [_, _], c.comp [] z z k, fun _ _ => Y, ?_⟩
   exact oP z <| nT <| aO (rs := [.tmp 2]) (vs := [S q o.length s]) z ⟨z, Y⟩ (fun w' hw' => by
    obtain rfl := af H
    exact ⟨_, z, q, o.length, s, M, z, hw'.sel [1] z z⟩)
theorem qe (w : World) {o : List Nat} {p0b : List Int} {p0 : aF} {b_0 : Nat} {a_p0b : Option Addr} {n_p0b c_p0b : Nat} {r : aE × aF} (H : fD p0b p0 = U r) (HS : St w o [b b_0 64 [S a_p0b p0b.length c_p0b, I J p0.e_, B p0.C_]] w) (g_p0b : (ad e8 5).rd w o p0b [S a_p0b n_p0b c_p0b]) :
    Calls Tryz.prog 29 #[O (U ⟨b_0, 0, N⟩)] w (fun en w' => ∃ v, en = .returned v ∧ ∃ (a0 : Option Addr), ∃ (n0 : Nat), ∃ (c0 : Nat), ∃ (F0 : List Nat), v = .agg #[S a0 n0 c0] ∧ St w o [W (ad (ad eI 3) 45) F0 r.1.o_ [S a0 n0 c0], b b_0 64 [S a_p0b n_p0b c_p0b, I J r.2.e_, B r.2.C_]] w') := by
 obtain rfl := fp g_p0b
 unfold fD at H
 refine aN Tryz.func29 z Tryz.ntmps29 z (HS) <| sR <| aB z z z z dm (fun _ => kp) fun s => nR <| o1 z (bu [] [S N 0 0] z z dm Do z Y z) <| aB z z z z dm (fun _ => kp) fun t => sC 0 [S N 0 0] [_] 2 z dm z <| nQ <| am <| sR <| oP z <| bE H fun A a5 H => aj z Dq z z z z (fun C g => jx C a5 (g.carve [0] z z) (rdB [0] z z g g_p0b)) fun b3 C w2 g P => ?_
 obtain ⟨rfl, Q⟩ := P
 refine ⟨St w o [_, _, _, _], g.comp [0] z z Q, fun _ _ => Y, ?_⟩
 refine oP z <| nQ <| ay <| CW.weak ?_ (fun _ h => St.pushNil (e := ad eI 3) (T := 45) h)
 refine CW.at (og (fun (u : Int) (k : Bool) (a : List (List Int)) (c : Option Addr) (d : Nat) (l : List Nat) (f : Int) => St w o [b b_0 64 [S a_p0b p0b.length c_p0b, I J u, B k], b s 30 [S N 0 0], b t 30 [S c a.length d], W (ad (ad eI 3) 45) l a [S c a.length d]]) (fun u k a c d l f => [(0, O (U ⟨b_0, 0, N⟩)), (2, O (U ⟨s, 0, N⟩)), (3, O (U ⟨t, 0, N⟩)), (4, I J f)]) (fun kk => fun u k a c d l f => dy p0b kk u k a f = U r) (fun _ _ _ _ _ _ _ H => ?_) (fun k1 X u k a c d l f H => ?_) aY (A.2.e_) (A.2.C_) (([] : List (List Int))) (N) (0) ([]) (A.1) (H)) (ss [3, 1, 2, 4] z z) (sb z)
 ·unfold dy at H
  exact absurd H (by simp)
 ·unfold dy at H
  refine am <| sR <| aa [.p, .p, .p] z <| aV [(16, B ((decide (f > 0)) && (!k))), (0, O (U ⟨b_0, 0, N⟩)), (2, O (U ⟨s, 0, N⟩)), (3, O (U ⟨t, 0, N⟩)), (4, I J f)] 6 ?_ (fun key => OW.sub (R := [(0, O (U ⟨b_0, 0, N⟩)), (2, O (U ⟨s, 0, N⟩)), (3, O (U ⟨t, 0, N⟩)), (4, I J f), (10, B (decide (f > 0)))]) ?_ (sb z))
  ·refine nQ <| cI H z (fun H => ?_) (fun H => ?_)
   ·refine av <| az <| am <| ay <| cw 5 [(0, y), (1, y), (2, y), (3, n), (4, n)] (St w o [Res.nil, b s 30 [S N 0 0], b t 30 [S c a.length d], W (ad (ad eI 3) 45) l a [S c a.length d]]) bU (by kernel_rfl) (bj (aJ (db (bj (aJ bb))))) (sm [n, y, y, y] z) <| aa [.fa 30 0 0 cJ] z <| bm z (aw z) (r1 0 2 z cY z) <| oP z <| bE H fun m Z H => aj z AD z z z z (fun C g => ip C Z (g.carve [0] z z) (rdB [0] z z g g_p0b)) fun a9 C w2 g M => ?_
    obtain ⟨D, b0, E, b1, rfl, x⟩ := M
    obtain rfl := aA (i := 0) x z
    refine ⟨St w o [_, _, _, _, _, _], g.comp [0] z z x, (sm [n, y, y, y] z), ?_⟩
    refine dV [(0, [S D m.1.length E])] z z z z z cC bG z z ⟨z, z, nl z, Y⟩ [S D m.1.length E] z (fun _ => (sm [n, y, y, y] z)) fun b2 => dH z (fun _ h => pg (p := 6) (q := 4) h z z z) <| aQ <| jf <| bE H fun F a1 H => ix (r := 3) (j := 7) z z z z z z cC bG z z z z z z z a1 (fun _ _ _ => kp) fun G L a2 => aa [.fa 30 0 0 cJ] z <| sC 0 [S G F.length L] [_] 2 z cY z <| ax <| bW <| az <| CW.weak (C' := St w o [_, _, _, _]) ?_ (ss [1, 2, 5, 8] z z)
    exact aP <| aa [.p, .p, .p] z <| ax <| ct (RW.at (X (m.2.e_) (m.2.C_) (F) (G) (L) (a2) (J.wrap (f - 1)) (H)) (ss [2, 0, 1, 3] z z) (sb z))
   ·exact bx <| aK <| aR <| aL <| az <| sR <| o1 z (rx 0 2 _ z dm z) <| sC 0 [S c a.length d] [_] 1 z dm z <| nT <| aO (rs := [.cell 2 30]) (vs := [.agg #[S c a.length d]]) z ⟨⟨_, [S c a.length d], _, _, _, z, dm, (bn (T := 30) 0 (bJ (i := 1) z) z), z, z⟩, Y⟩ (fun w' hw' => by
     obtain rfl := af H
     exact ⟨_, z, c, a.length, d, l, z, hw'.sel [3, 0] z z⟩)
  ·generalize (decide (f > 0)) = a6 at key ⊢
   cases a6
   ·exact aa [.p, .p, .p, .p, .p, .p] z <| OW.sub key (sb z)
   ·exact aa [.p, .p, .fa 64 2 2 ol] z <| o1 z (r1 2 0 z ty4 z) <| oP z <| oP z <| OW.sub key (sb z)
theorem sf (w : World) {g : List Nat} {p0 : List Int} {p1 : Int} {a_0 : Option Addr} {n_0 c_0 : Nat} {r : aE × Int × Bool} (H : kM p0 p1 = U r) (HS : St w g [] w) (m : (ad e8 5).rd w g p0 [S a_0 n_0 c_0]) :
    Calls Tryz.prog 13 #[S a_0 n_0 c_0, I J p1] w (fun en w' => ∃ v, en = .returned v ∧ ∃ (o : Option Addr), ∃ (q : Nat), ∃ (c0 : Nat), ∃ (A : List Nat), v = .tuple #[.agg #[S o q c0], I J r.2.1, B r.2.2] ∧ St w g [W (ad (ad eI 3) 45) A r.1.o_ [S o q c0]] w') := by
 obtain rfl := fp m
 unfold kM at H
 refine aN Tryz.func13 z Tryz.ntmps13 z (HS) <| sR <| aB z z z z dm (fun _ => kp) fun C => oPP z <| nR <| oPP z <| o1 z (bu [(0, [S a_0 p0.length c_0]), (1, [I J p1])] [S a_0 p0.length c_0, I J p1, B n] z z EX EU z ⟨z, z, nl z, z, z, nl z, Y⟩ z) <| ob _ z fun s => oP z <| nR <| oP z <| bE H fun a t H => aj z GB z z z z (fun u f => qe u t (f.carve [1] z z) (rdB [1] z z f m)) fun D u F f l => ?_
 obtain ⟨c, E, d, k, rfl, j⟩ := l
 obtain rfl := aA (i := 0) j z
 refine ⟨St w g [_, _, _, _], f.comp [1] z z j, fun _ _ => Y, ?_⟩
 refine aB z z z z dm (fun _ => kp) fun x => sC 0 [S c a.1.o_.length d] [_] 4 z dm z <| nQ <| am <| sR <| aa [.p, .p, .fa 64 2 2 ol] z <| o1 z (r1 2 3 z ty4 z) <| nQ <| cI H z (fun H => ?_) (fun H => ?_)
 ·exact sR <| o1 z (bu [] [S N 0 0] z z dm Do z Y z) <| sC 0 [S N 0 0] [_] 0 z dm z <| oPP z <| nT <| aq <| eG (fun _ h => St.pushNil (e := ad eI 3) (T := 45) h) <| aO (rs := [.cell 4 30, .tmp 5, .tmp 6]) (vs := [.agg #[S N 0 0], I J 0, B n]) z ⟨⟨_, [S N 0 0], _, _, _, z, dm, (bn (T := 30) 0 (bJ (i := 0) z) z), z, z⟩, z, z, Y⟩ (fun w' hw' => by
   obtain rfl := af H
   exact ⟨_, z, N, 0, 0, [], z, hw'.sel [5] z z⟩)
 ·exact av <| az <| am <| cw 6 [(0, y), (1, y), (2, y), (3, y), (4, y), (5, n)] (St w g [Res.nil, Res.nil, W (ad (ad eI 3) 45) k a.1.o_ [S c a.1.o_.length d], b s 64 [S a_0 p0.length c_0, I J a.2.e_, B a.2.C_], b x 30 [S c a.1.o_.length d]]) bU (by kernel_rfl) (aJ bb) (sm [n, y, y, y, y] z) <| bm z (aw z) (rx 0 4 _ z dm z) <| aa [.p, .p, .fa 64 1 1 uJ] z <| bm z (aw z) (r1 1 3 z ty3 z) <| bp (off := 0) [S c a.1.o_.length d] [_] (i := 0) z z z z z z dm z z (al z) z z z (sm [n, y, y, y, y] z) <| aQ <| jf <| oPP z <| nT <| aO (rs := [.cell 4 30, .tmp 5, .tmp 6]) (vs := [.agg #[S c a.1.o_.length d], I J a.2.e_, B y]) z ⟨⟨_, [S c a.1.o_.length d], _, _, _, z, dm, (bn (T := 30) 0 (bJ (i := 0) z) z), z, z⟩, z, z, Y⟩ (fun w' hw' => by
   obtain rfl := af H
   exact ⟨_, z, c, a.1.o_.length, d, k, z, hw'.sel [2] z z⟩)
theorem rC (w : World) {p0 : aE} {p1 : aE} {e : List Value} {f : List Value} {r : Bool} (H : kh p0 p1 = U r) (D : (fR).rd w [] p0 e) (E : (fR).rd w [] p1 f) :
    Calls Tryz.prog 14 #[.agg e.toArray, .agg f.toArray] w (fun en w' => en = .returned (B r) ∧ Ext [] w w') := by
 obtain ⟨F, rfl, g⟩ := fK D
 obtain ⟨s, t, rfl⟩ := ao g
 obtain ⟨G, rfl, h⟩ := fK E
 obtain ⟨u, v, rfl⟩ := ao h
 unfold kh at H
 refine aN Tryz.func14 z Tryz.ntmps14 z (St.init w []) <| sR <| ob _ z fun i => ob _ z fun j => oP z <| nQ <| am <| sR <| aa [.fa 30 0 0 cJ] z <| o1 z (r1 0 0 z cY z) <| aa [.lenS 28 45 cC, .fa 30 0 0 cJ] z <| o1 z (r1 0 1 z cY z) <| aa [.lenS 28 45 cC, .p] z <| nQ <| cI H z (fun H => ?_) (fun H => ?_)
 ·exact sR <| oP z <| nT <| aq <| xr 4 z (by cases H; exact q1)
 ·refine av <| az <| am <| sR <| oP z <| nQ <| ay <| CW.at (gF (fun (a : Int) => St w [] [b i 30 [S s p0.o_.length t], b j 30 [S u p1.o_.length v]]) (fun a => [(2, O (U ⟨i, 0, N⟩)), (3, O (U ⟨j, 0, N⟩)), (5, I J a)]) (fun kk => fun a => dw p0 p1 kk a = U r) (fun _ H => ?_) (fun k1 l a H => ?_) aY (0) (H)) (ss [0, 1] z z) (sb z)
  ·unfold dw at H
   exact absurd H (by simp)
  ·unfold dw at H
   refine am <| sR <| aa [.p, .fa 30 0 0 cJ] z <| o1 z (r1 0 0 z cY z) <| aa [.lenS 28 45 cC, .p] z <| nQ <| cI H z (fun H => ?_) (fun H => ?_)
   ·refine av <| az <| am <| ay <| am <| dR bU (by kernel_rfl) <| aa [.fa 30 0 0 cJ] z <| o1 z (r1 0 0 z cY z) <| oP z <| bE H fun L x H => cf z z z z z cC bG z g x fun M P c m => ?_
    obtain ⟨Q, R, rfl⟩ := ao c
    refine o1 z (aM z z bG (ce bor m)) <| aa [.fa 30 0 0 cJ] z <| o1 z (r1 0 1 z cY z) <| oP z <| bE H fun X A H => cf z z z z z cC bG z h A fun Z a0 d o => ?_
    obtain ⟨a1, a2, rfl⟩ := ao d
    refine o1 z (aM z z bG (ce bor o)) <| bE H fun a3 C H => oq z (qc z BO (fun q k => iZ q C (ab c q k) (ab d q k))) tt2 <| oP z <| co <| az <| cI H z (fun H => ?_) (fun H => ?_)
    ·exact sR <| oP z <| nT <| ba <| aq <| cd <| ba <| aq <| xr 4 z (by cases H; exact q1)
    ·exact av <| bW <| az <| aP <| aa [.p, .p, .p] z <| ax <| ct (RW.at (l (J.wrap (a + 1)) (H)) (ss [0, 1] z z) (sb z))
   ·exact bx <| aK <| aR <| aL <| az <| sR <| oP z <| nT <| xr 4 z (by cases H; exact q1)
theorem qU (w : World) {p0 : List Int} {a_0 : Option Addr} {n_0 c_0 : Nat} {r : Bool} (H : kX p0 = U r) (g0 : (ad e8 5).rd w [] p0 [S a_0 n_0 c_0]) :
    Calls Tryz.prog 3 #[S a_0 n_0 c_0] w (fun en w' => en = .returned (B r) ∧ Ext [] w w') := by
 obtain rfl := fp g0
 unfold kX at H
 refine aN Tryz.func3 z Tryz.ntmps3 z (St.init w []) <| sR <| oP z <| nQ <| am <| sR <| oP z <| bE H fun f9 d1 H => oq z (qc z fn4 (fun c a => xv c d1 (ab g0 c a))) tt2 <| nQ <| cI H z (fun H => ?_) (fun H => ?_)
 ·exact sR <| oP z <| nT <| aq <| xr 2 z (by cases H; exact q1)
 ·refine av <| az <| sR <| oP z <| bE H fun g d2 H => aj z fn5 z z z z (fun c a => rc c d2 (a.carve [] z z) (ab g0 c a)) fun g1 c E a b4 => ?_
  obtain ⟨F, g2, G, g3, rfl, Z⟩ := b4
  obtain rfl := aA (i := 0) Z z
  refine ⟨St w [] [_], a.comp [] z z Z, fun _ _ => Y, ?_⟩
  refine aB z z z z br (fun _ => kp) fun d3 => sC 0 [S F g.a_.length G, I J g.g_] [_, _] 1 z br z <| nR <| oP z <| bE H fun h d4 H => aj z fn6 z z z z (fun c a => qf c d4 (a.carve [] z z) (ab g0 c a)) fun g4 c E a b5 => ?_
  obtain ⟨q, g5, s, d5, rfl, a0⟩ := b5
  obtain rfl := aA (i := 0) a0 z
  refine ⟨St w [] [_, _, _], a.comp [] z z a0, fun _ _ => Y, ?_⟩
  refine aB z z z z dm (fun _ => kp) fun o => sC 0 [S q h.o_.length s] [_] 3 z dm z <| nR <| o1 z (rx 0 1 _ z br z) <| bE H fun C d6 H => aj z fn7 z z z z (fun c a => tP c d6 (a.carve [] z z) (aW (x := g) (c0 := [S F g.a_.length G]) (c1 := [I J g.g_]) (ap (e := ad (aC) 60) (r := 0) z c a) z)) fun g6 c E a b6 => ?_
  obtain ⟨a1, g7, a2, g8, rfl, a3⟩ := b6
  obtain rfl := aA (i := 0) a3 z
  refine ⟨St w [] [_, _, _, _, _], a.comp [] z z a3, fun _ _ => Y, ?_⟩
  refine oP z <| nR <| o1 z (rx 0 3 _ z dm z) <| bE H fun j d7 H => aj z fn8 z z z z (fun c a => sd c d7 (a.carve [] z z) (fH (x := h) (c0 := [S q h.o_.length s]) (ap (e := ad (ad eI 3) 45) (r := 2) z c a))) fun g9 c E a b7 => ?_
  obtain ⟨t, h0, u, d8, rfl, a4⟩ := b7
  obtain rfl := aA (i := 0) a4 z
  refine ⟨St w [] [_, _, _, _, _, _], a.comp [] z z a4, fun _ _ => Y, ?_⟩
  refine oP z <| nR <| bq (val := I K) (h1 := fun _ => z) [5] [(0, [I K 5])] z z z z z fQ ty5 z z z ⟨z, z, nl z, Y⟩ z z (fun _ => kp) fun h2 => oP z <| bE H fun h3 d9 H => bC (r := 6) (ys := C) z z z z z z fQ ty5 z z z (ap (e := ad e8 5) (r := 4) z) d9 (fun _ _ _ => kp) fun h4 h5 h6 => oP z <| bE H fun f e0 H => bC (r := 6) (ys := j) z z z z z z fQ ty5 z z z (ap (e := ad e8 5) (r := 5) z) e0 (fun _ _ _ => kp) fun k l e1 => oP z <| nR <| oP z <| nQ <| ze (fun (D : Int) => St w [] [b o 30 [S q h.o_.length s], W (ad (ad eI 3) 45) d5 h.o_ [S q h.o_.length s], W (ad e8 5) d8 j [S t j.length u], W (ad e8 5) e1 f [S k f.length l]]) (fun D => [(4, O (U ⟨o, 0, N⟩)), (6, S t j.length u), (7, S k f.length l), (8, I J D)]) (fun D => gd h j f D = U r) (fun D H => ?_) (fun J1 => ?_)
  ·unfold gd at H
   refine am <| sR <| o1 z (rx 0 0 _ z dm z) <| bE H fun h7 e3 H => aj z Gw z z z z (fun c a => sx c e3 (a.carve [] z z) (fH (x := h) (c0 := [S q h.o_.length s]) (ap (e := ad (ad eI 3) 45) (r := 1) z c a))) fun h8 c E a b8 => ?_
   obtain ⟨h9, i0, i1, i2, rfl, a5⟩ := b8
   obtain rfl := aA (i := 0) a5 z
   refine ⟨St w [] [_, _, _, _, _], a.comp [] z z a5, fun _ _ => Y, ?_⟩
   refine aa [.lenS 22 5 fQ, .p] z <| nQ <| cI H z (fun H => ?_) (fun H => ?_)
   ·exact sR <| aa [.p, .lenS 22 5 fQ, .p, .p] z <| nT <| aq <| xr 2 z (by cases H; exact q1)
   ·refine av <| az <| sR <| oPP z <| bE H fun m e4 H => aj z GJ z z z z (fun c a => sf c e4 (a.carve [] z z) (ap (e := ad e8 5) (r := 3) z c a)) fun i3 c E a b1 => ?_
    obtain ⟨a6, e5, a7, e6, rfl, L⟩ := b1
    obtain rfl := aA (i := 0) L z
    refine ⟨St w [] [_, _, _, _, _, _], a.comp [] z z L, fun _ _ => Y, ?_⟩
    refine aa [.p, .p, .p, .p] z <| aB z z z z dm (fun _ => kp) fun b9 => sC 0 [S a6 m.1.o_.length a7] [_] 6 z dm z <| oPP z <| nR <| oPP z <| bE H fun v M H => aV [(78, B v), (7, S k f.length l), (13, I J m.2.1)] 4 ?_ (fun key => OW.sub (R := [(4, O (U ⟨o, 0, N⟩)), (7, S k f.length l), (12, O (U ⟨b9, 0, N⟩)), (13, I J m.2.1), (74, B m.2.2)]) ?_ (sb z))
    ·refine oP z <| aV [(84, B (v && (m.2.1 == (f.length : Int))))] 5 ?_ (fun key => OW.sub (R := [(7, S k f.length l), (13, I J m.2.1), (79, B v)]) ?_ (sb z))
     ·exact oP z <| nT <| xr 2 z (by cases H; exact q1)
     ·generalize v = c2 at key ⊢
      cases c2
      ·exact aa [.p, .p, .p, .p, .p] z <| OW.sub key ⟨z, Y⟩
      ·exact aa [.p, .p, .lenS 22 5 fQ, .p] z <| oP z <| OW.sub key ⟨z, Y⟩
    ·clear H
     have H := M
     clear M
     generalize m.2.2 = c3 at H key ⊢
     cases c3
     ·have H := bh z H
      refine aa [.p, .p, .p, .p] z ?_
      obtain rfl := af H
      exact OW.sub key (sb z)
     ·have H := bi z H
      refine o1 z (rx 0 6 _ z dm z) <| o1 z (rx 0 0 _ z dm z) <| bE H fun e7 c4 H => oq z (qc z Gr (fun c a => rC c c4 (fH (x := m.1) (c0 := [S a6 m.1.o_.length a7]) (ap (e := ad (ad eI 3) 45) (r := 5) z c a)) (fH (x := h) (c0 := [S q h.o_.length s]) (ap (e := ad (ad eI 3) 45) (r := 1) z c a)))) tt2 <| oP z <| ?_
      obtain rfl := af H
      exact OW.sub key (sb z)
  ·refine sR <| o1 z (rx 0 1 _ z br z) <| bE H fun e9 c5 H => aj z fn9 z z z z (fun c a => ud c c5 (a.carve [] z z) (aW (x := g) (c0 := [S F g.a_.length G]) (c1 := [I J g.g_]) (ap (e := ad (aC) 60) (r := 0) z c a) z)) fun f0 c E a b2 => ?_
   obtain ⟨f1, f2, f3, f4, rfl, P⟩ := b2
   obtain rfl := aA (i := 0) P z
   refine ⟨St w [] [_, _, _, _, _, _, _, _], a.comp [] z z P, fun _ _ => Y, ?_⟩
   refine aa [.lenS 22 5 fQ, .p] z <| nQ <| cI H z (fun H => ?_) (fun H => ?_)
   ·refine sR <| oP z <| bE H fun d c6 H => aj z Ga z z z z (fun c a => tV c c6 (a.carve [] z z) (ap (e := ad e8 5) (r := 6) z c a)) fun f5 c E a b3 => ?_
    obtain ⟨a8, f6, a9, f7, rfl, Q⟩ := b3
    obtain rfl := aA (i := 0) Q z
    refine ⟨St w [] [_, _, _, _, _, _, _, _, _], a.comp [] z z Q, fun _ _ => Y, ?_⟩
    refine aa [.p, .p, .p, .p] z <| aB z z z z br (fun _ => kp) fun c7 => sC 0 [S a8 d.1.a_.length a9, I J d.1.g_] [_, _] 9 z br z <| oPP z <| nQ <| am <| sR <| aa [.p, .p, .p] z <| bE H fun A X H => aV [(47, B A), (4, O (U ⟨o, 0, N⟩)), (5, S a1 C.length a2), (6, S t j.length u), (7, S k f.length l), (10, I J d.2.1)] 5 ?_ (fun key => OW.sub (R := [(3, O (U ⟨d3, 0, N⟩)), (4, O (U ⟨o, 0, N⟩)), (5, S a1 C.length a2), (6, S t j.length u), (7, S k f.length l), (9, O (U ⟨c7, 0, N⟩)), (10, I J d.2.1), (42, B (!d.2.2))]) ?_ (sb z))
    ·refine oP z <| aV [(54, B (A || (d.2.1 != (J.wrap (1 + (C.length : Int)))))), (4, O (U ⟨o, 0, N⟩)), (6, S t j.length u), (7, S k f.length l), (10, I J d.2.1)] 6 ?_ (fun key => OW.sub (R := [(4, O (U ⟨o, 0, N⟩)), (5, S a1 C.length a2), (6, S t j.length u), (7, S k f.length l), (10, I J d.2.1), (48, B A)]) ?_ (sb z))
     ·refine nQ <| cI H z (fun H => ?_) (fun H => ?_)
      ·exact sR <| oP z <| nT <| aq <| aq <| xr 2 z (by cases H; exact q1)
      ·exact av <| az <| aP <| oPP z <| ax <| XW.at (J1 (d.2.1) (H)) (ss [3, 2, 5, 6] z z) (sb z)
     ·generalize A = c8 at key ⊢
      cases c8
      ·exact aa [.p, .p, .lenS 22 5 fQ, .p, .p] z <| oP z <| OW.sub key (sb z)
      ·exact aa [.p, .p, .p, .p, .p, .p] z <| OW.sub key (sb z)
    ·clear H
     have H := X
     clear X
     generalize (!d.2.2) = c9 at H key ⊢
     cases c9
     ·have H := bh z H
      refine o1 z (rx 0 9 _ z br z) <| o1 z (rx 0 1 _ z br z) <| bE H fun f8 d0 H => oq z (qc z GS (fun c a => te c d0 (aW (x := d.1) (c0 := [S a8 d.1.a_.length a9]) (c1 := [I J d.1.g_]) (ap (e := ad (aC) 60) (r := 8) z c a) z) (aW (x := g) (c0 := [S F g.a_.length G]) (c1 := [I J g.g_]) (ap (e := ad (aC) 60) (r := 0) z c a) z))) tt2 <| oP z <| oP z <| ?_
      obtain rfl := af H
      exact OW.sub key (sb z)
     ·have H := bi z H
      refine aa [.p, .p, .p, .p, .p] z ?_
      obtain rfl := af H
      exact OW.sub key (sb z)
   ·refine sR <| aa [.p, .lenS 22 5 fQ, .p] z <| nQ <| cI H z (fun H => ?_) (fun H => ?_)
    ·exact sR <| oP z <| nT <| aq <| xr 2 z (by cases H; exact q1)
    ·exact av <| XW.at (J1 (1) (H)) (ss [3, 2, 5, 6] z z) (sb z)
end Go.Vk
