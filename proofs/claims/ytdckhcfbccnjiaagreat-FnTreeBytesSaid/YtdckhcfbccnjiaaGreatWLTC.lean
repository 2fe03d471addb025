/- The code does what the functions of data say. Printed by program. -/
import Derived.Test.YtdckhcfbccnjiaaGreatWLTB
namespace Go.Vk
open Value renaming int → I, slice → S, pointer → O, bool → B
open IntKind renaming i64 → J, u8 → K
open Bool renaming true → y, false → n
open Option renaming some → U, none → N
open Res renaming box → b, own → W
open Go.Proofs Go.RowKit
set_option maxHeartbeats 4000000
set_option maxRecDepth 100000
theorem vI (w : World) {p0 : bv} {p1 : bv} {r : Bool} (H : pM p0 p1 = U r)   :
    Calls Tryz.prog 128 #[.agg #[I J p0.k_.j_, I J p0.k_.c_, I J p0.z_.u_, I J p0.z_.B_], .agg #[I J p1.k_.j_, I J p1.k_.c_, I J p1.z_.u_, I J p1.z_.B_]] w (fun en w' => en = .returned (B r) ∧ Ext [] w w') := by
 unfold pM at H
 exact aN Tryz.func128 z Tryz.ntmps128 z (St.init w []) <| sR <| ob _ z fun d => ob _ z fun e => oP z <| nR <| aa [.fa 155 1 2 ur] z <| o1 z (rx 2 0 _ z ck z) <| aa [.fa 155 1 2 ur] z <| o1 z (rx 2 1 _ z ck z) <| bE H fun f a H => oq z (qc z xT (fun c g => kf c (p0 := p0.z_) (p1 := p1.z_) a)) tt2 <| oPP z <| nT <| xr 4 z (by cases H; exact q1)
theorem wQ (w : World) {Z : List Nat} {p0 : ae} {p1 : ar} {p2 : List Int} {p3 : Bool} {c4 : List Value} {c5 : List Value} {a_2 : Option Addr} {n_2 c_2 : Nat} {r : List bv} (H : pn p0 p1 p2 p3 = U r) (HS : St w Z [] w) (g0 : (bk).rd w Z p0 c4) (g1 : (cb).rd w Z p1 c5) (g2 : (ad eI 3).rd w Z p2 [S a_2 n_2 c_2]) :
    Calls Tryz.prog 115 #[.agg c4.toArray, .agg c5.toArray, S a_2 n_2 c_2, B p3] w (fun en w' => ∃ v, en = .returned v ∧ ∃ (a0 : Option Addr), ∃ (n0 : Nat), ∃ (c0 : Nat), ∃ (F0 : List Nat), v = S a0 n0 c0 ∧ St w Z [W (ad (bP) 155) F0 r [S a0 n0 c0]] w') := by
 obtain ⟨h3, h4, rfl, D, E⟩ := aX g0
 obtain ⟨a1, a2, rfl⟩ := ao D
 obtain ⟨a3, a4, rfl⟩ := ao E
 obtain ⟨h5, h6, rfl, F, G⟩ := aS g1
 obtain ⟨a5, a6, rfl⟩ := ao F
 obtain ⟨a7, a8, rfl⟩ := ao G
 obtain rfl := fp g2
 unfold pn at H
 refine aN Tryz.func115 z Tryz.ntmps115 z (HS) <| sR <| ob _ z fun u => ob _ z fun x => oP z <| nR <| bI (e := bP) z z z z oN jZ (fun _ => kp) fun C => oP z <| nQ <| am <| sR <| o1 z (rx 0 0 _ z cV z) <| o1 z (rx 0 1 _ z cK z) <| bE H fun a9 f3 H => oq z (qc z wq (fun d c => fz d f3 (ah (ab D d c) (ab E d c)) (aH (ab F d c) (ab G d c)))) tt2 <| oPP z <| aV [(26, B ((!a9) || ((p1.b_.length : Int) == 0))), (2, S a_2 p2.length c_2), (3, B p3), (4, O (U ⟨u, 0, N⟩)), (5, O (U ⟨x, 0, N⟩)), (9, S (U ⟨C, 0, N⟩) 0 0)] 5 ?_ (fun key => OW.sub (R := [(2, S a_2 p2.length c_2), (3, B p3), (4, O (U ⟨u, 0, N⟩)), (5, O (U ⟨x, 0, N⟩)), (9, S (U ⟨C, 0, N⟩) 0 0), (21, B (!a9))]) ?_ (sb z))
 ·refine oP z <| bE H fun f4 b2 H => aV [(32, B f4), (2, S a_2 p2.length c_2), (3, B p3), (4, O (U ⟨u, 0, N⟩)), (5, O (U ⟨x, 0, N⟩)), (9, S (U ⟨C, 0, N⟩) 0 0)] 5 ?_ (fun key => OW.sub (R := [(2, S a_2 p2.length c_2), (3, B p3), (4, O (U ⟨u, 0, N⟩)), (5, O (U ⟨x, 0, N⟩)), (9, S (U ⟨C, 0, N⟩) 0 0), (27, B ((!a9) || ((p1.b_.length : Int) == 0)))]) ?_ (sb z))
  ·refine nQ <| cI H z (fun H => ?_) (fun H => ?_)
   ·exact sR <| oPP z <| nT <| aq <| aO (rs := [.tmp 8]) (vs := [S (U ⟨C, 0, N⟩) 0 0]) z ⟨z, Y⟩ (fun w' hw' => by
     obtain rfl := af H
     exact ⟨_, z, (U ⟨C, 0, N⟩), 0, 0, [C], z, hw'.sel [2] z z⟩)
   ·refine av <| az <| am <| sR <| oP z <| nQ <| ay <| CW.at (iw (fun (s : Int) (f : List bv) (o : Option Addr) (q : Nat) (A : List Nat) => St w Z [b u 73 [S a1 p0.f_.length a2, S a3 p0.n_.length a4], b x 58 [S a5 p1.d_.length a6, S a7 p1.b_.length a8], W (ad (bP) 155) A f [S o f.length q]]) (fun s f o q A => [(2, S a_2 p2.length c_2), (3, B p3), (4, O (U ⟨u, 0, N⟩)), (5, O (U ⟨x, 0, N⟩)), (9, S o f.length q), (10, I J s)]) (fun kk => fun s f o q A => ex p2 p0 p1 p3 kk s f = U r) (fun _ _ _ _ _ H => ?_) (fun k1 c6 s f o q A H => ?_) aY (0) (([] : List bv)) ((U ⟨C, 0, N⟩)) (0) ([C]) (H)) (ss [0, 1, 2] z z) (sb z)
    ·unfold ex at H
     exact absurd H (by simp)
    ·unfold ex at H
     refine am <| sR <| aa [.p, .p, .lenS 45 3 aT, .p] z <| nQ <| cI H z (fun H => ?_) (fun H => ?_)
     ·refine av <| az <| am <| ay <| zz (fun (L : Nat) (g : Int) (k : Int) (M : Nat) (l : Int) (m : Int) => St w Z [b L 56 [I J g, I J k], b M 153 [I J l, I J m], b u 73 [S a1 p0.f_.length a2, S a3 p0.n_.length a4], b x 58 [S a5 p1.d_.length a6, S a7 p1.b_.length a8], W (ad (bP) 155) A f [S o f.length q]]) (fun L g k M l m => [(2, S a_2 p2.length c_2), (3, B p3), (4, O (U ⟨u, 0, N⟩)), (5, O (U ⟨x, 0, N⟩)), (9, S o f.length q), (10, I J s), (11, O (U ⟨L, 0, N⟩)), (12, O (U ⟨M, 0, N⟩))]) (fun L g k M l m => nM f (ex p2 p0 p1 p3 k1) s g k l m = U r) (fun L g k M l m H => ?_) (fun J1 => ?_)
      ·unfold nM at H
       refine sR <| o1 z (rx 0 0 _ z cL z) <| o1 z (rx 0 1 _ z ck z) <| o1 z (bu [(0, [I J g, I J k]), (2, [I J l, I J m])] [I J g, I J k, I J l, I J m] z z jZ DC z ⟨z, z, nl z, z, z, nl z, Y⟩ z) <| aB z z z z jZ (fun _ => kp) fun P => sC 0 [I J g, I J k, I J l, I J m] [_, _, _, _] 5 z jZ z <| nR <| aa [.p, .lenS 171 155 oN, .p] z <| nQ <| am <| ay <| CW.at (gF (fun (t : Int) => St w Z [b P 155 [I J g, I J k, I J l, I J m], b u 73 [S a1 p0.f_.length a2, S a3 p0.n_.length a4], b x 58 [S a5 p1.d_.length a6, S a7 p1.b_.length a8], W (ad (bP) 155) A f [S o f.length q]]) (fun t => [(2, S a_2 p2.length c_2), (3, B p3), (4, O (U ⟨u, 0, N⟩)), (5, O (U ⟨x, 0, N⟩)), (9, S o f.length q), (10, I J s), (13, O (U ⟨P, 0, N⟩)), (14, I J t)]) (fun kk => fun t => jw f g k l m (ex p2 p0 p1 p3 k1) s kk t = U r) (fun _ H => ?_) (fun k2 c7 t H => ?_) aY ((f.length : Int)) (H)) (ss [5, 2, 3, 4] z z) (sb z)
       ·unfold jw at H
        exact absurd H (by simp)
       ·unfold jw at H
        refine am <| am <| dR bU (by kernel_rfl) <| aa [.p, .p, .p] z <| bE H fun c8 b0 H => aV [(66, B c8), (2, S a_2 p2.length c_2), (3, B p3), (4, O (U ⟨u, 0, N⟩)), (5, O (U ⟨x, 0, N⟩)), (9, S o f.length q), (10, I J s), (13, O (U ⟨P, 0, N⟩)), (14, I J t)] 8 ?_ (fun key => OW.sub (R := [(2, S a_2 p2.length c_2), (3, B p3), (4, O (U ⟨u, 0, N⟩)), (5, O (U ⟨x, 0, N⟩)), (9, S o f.length q), (10, I J s), (13, O (U ⟨P, 0, N⟩)), (14, I J t), (58, B (decide (t > 0)))]) ?_ (sb z))
        ·refine co <| az <| cI H z (fun H => ?_) (fun H => ?_)
         ·exact av <| az <| ay <| aP <| aa [.p, .p, .p] z <| ax <| bW <| ct (RW.at (c7 (J.wrap (t - 1)) (H)) (ss [0, 1, 2, 3] z z) (sb z))
         ·refine bx <| aK <| aR <| aL <| az <| sR <| bI (e := bP) z z z z oN jZ (fun _ => kp) fun g6 => oPP z <| bE H fun c9 b3 H => rT (e := bP) (xs := f) z z z z oN jZ z z z b3 (fun d c => ap (e := ad (bP) 155) (r := 3) z d c) <| bE H fun b4 d0 H => qR (r := 4) (ys := c9) z z z z z z oN jZ z z z z z (xi (fun d c => ap (e := ad (bP) 155) (r := 3) z d c) b3) d0 (fun _ _ _ => kp) fun d1 d2 d3 => oP z <| nR <| oP z <| o1 z (rx 0 0 _ z jZ z) <| sw ([(bv.mk (au.mk g k) (aZ.mk l m))] : List bv) [(0, [I J g, I J k, I J l, I J m])] z z z z z oN jZ z z z z ⟨z, z, nl z, Y⟩ z (fun _ => kp) (fun b5 => (?_ : OW _ _ _ (St w Z [b P 155 [I J g, I J k, I J l, I J m], b u 73 [S a1 p0.f_.length a2, S a3 p0.n_.length a4], b x 58 [S a5 p1.d_.length a6, S a7 p1.b_.length a8], W (ad (bP) 155) A f [S o f.length q], W (ad (bP) 155) d3 b4 [S d1 b4.length d2], W (ad (bP) 155) [b5] [(bv.mk (au.mk g k) (aZ.mk l m))] [S (U ⟨b5, 0, N⟩) ([(bv.mk (au.mk g k) (aZ.mk l m))] : List bv).length 1]]) _ _ _))
          exact bE H fun g7 b6 H => qR (r := 4) (ys := ([(bv.mk (au.mk g k) (aZ.mk l m))] : List bv)) z z z z z z oN jZ z z z z z (fun d c => ap (e := ad (bP) 155) (r := 5) z d c) b6 (fun _ _ _ => kp) fun g8 g9 h0 => cc z (fun d c => fh (i := 4) c z (fe b6)) fun f9 => oP z <| nQ <| aP <| aa [.p, .p, .p] z <| bE H fun d4 b7 H => rT (e := bP) (xs := f) z z z z oN jZ z z z b7 (fun d c => ap (e := ad (bP) 155) (r := 3) z d c) <| bE H fun d5 d6 H => qR (r := 4) (ys := d4) z z z z z z oN jZ z z z z z (xi (fun d c => ap (e := ad (bP) 155) (r := 3) z d c) b7) d6 (fun _ _ _ => kp) fun d7 d8 d9 => oP z <| ax <| bW <| az <| aP <| aa [.p, .p, .p] z <| ax <| ct (RW.at (c6 (J.wrap (s + 1)) (d5) (d7) (d8) (d9) (H)) (ss [1, 2, 4] z z) (sb z))
        ·clear H
         have H := b0
         clear b0
         generalize (decide (t > 0)) = e0 at H key ⊢
         cases e0
         ·have H := bh z H
          refine aa [.p, .p, .p, .p, .p, .p, .p, .p] z ?_
          obtain rfl := af H
          exact OW.sub key (sb z)
         ·have H := bi z H
          refine o1 z (rx 0 0 _ z jZ z) <| aa [.p, .p, .p] z <| bE H fun Q b8 H => bF (e := bP) (xs := f) (j := J.wrap (t - 1)) z z z z z oN jZ z (fun d c => ap (e := ad (bP) 155) (r := 3) z d c) b8 z <| o1 z (dk (cs := [I J Q.k_.j_, I J Q.k_.c_, I J Q.z_.u_, I J Q.z_.B_]) z z jZ (oe (oU (fun d c => ap (e := ad (bP) 155) (r := 3) z d c) b8 (fun _ _ h => h)) z) z) <| bE H fun h1 e1 H => oq z (qc z EZ (fun d c => vI d (p0 := (bv.mk (au.mk g k) (aZ.mk l m))) (p1 := Q) e1)) tt2 <| oP z <| ?_
          obtain rfl := af H
          exact OW.sub key (sb z)
      ·refine bE H fun h2 b9 H => bE H fun a X H => qI 14 [(0, y), (1, y), (2, y), (3, y), (4, y), (5, y), (6, y)] (Br.alt 7 (Br.pre [(8, y), (9, y), (10, y)] (Br.alt 11 (Br.pre [(12, n), (13, n)] Br.done) (Br.pre [(12, n), (11, n), (13, n)] Br.done))) (Br.alt 11 (Br.pre [] (Br.alt 7 (Br.pre [(8, y), (9, y), (10, y), (12, n), (13, n)] Br.done) (Br.pre [(12, n), (7, n), (8, y), (9, y), (10, y), (13, n)] Br.done))) (Br.pre [(12, n)] (Br.alt 7 (Br.pre [(8, y), (9, y), (10, y), (11, n), (13, n)] Br.done) (Br.pre [(11, n), (7, n), (8, y), (9, y), (10, y), (13, n)] Br.done))))) (St w Z [b u 73 [S a1 p0.f_.length a2, S a3 p0.n_.length a4], b x 58 [S a5 p1.d_.length a6, S a7 p1.b_.length a8], W (ad (bP) 155) A f [S o f.length q]]) bU (by kernel_rfl) (aJ (bj (aJ (db (bj (aJ bb)))))) (tk 3 z) <| bm z (aw z) (rx 0 0 _ z cV z) <| bm z (aw z) (rx 0 1 _ z cK z) <| oPP z <| bF (e := eI) (xs := p2) (j := s) z z z z z aT ty3 z (ab g2) b9 (by rw [Nat.mul_one]) <| bm z (aw z) (aM z z ty3 (bO (ab g2) b9)) <| oP z <| aQ <| eD (tk 3 z) z ?_ ?_
       ·refine oq z (qc z xE (fun d c => kP d X (ah (ab D d c) (ab E d c)) (aH (ab F d c) (ab G d c)))) (tk 3 z) <| aa [.p, .p, .p] z <| aQ <| eD (tk 3 z) z ?_ ?_
        ·exact aB z z z z cL (fun _ => (tk 3 z)) fun e2 => aB z z z z ck (fun _ => (tk 3 z)) fun e3 => bp (off := 0) [I J a.1.j_, I J a.1.c_] [_, _] (i := 3) z z z z z z cL z z (al z) z z z (tk 3 z) <| aQ <| cH <| sC 0 [I J a.2.u_, I J a.2.B_] [_, _] 4 z ck z <| ax <| XW.at (J1 (e2) (a.1.j_) (a.1.c_) (e3) (a.2.u_) (a.2.B_) (H)) (ss [3, 4, 0, 1, 2] z z) (sb z)
        exact dG (tk 3 z) z <| aB z z z z ck (fun _ => (tk 3 z)) fun e4 => aB z z z z cL (fun _ => (tk 3 z)) fun e5 => bp (off := 0) [I J a.1.j_, I J a.1.c_] [_, _] (i := 4) z z z z z z cL z z (al z) z z z (tk 3 z) <| aQ <| cH <| sC 0 [I J a.2.u_, I J a.2.B_] [_, _] 3 z ck z <| ax <| XW.at (J1 (e5) (a.1.j_) (a.1.c_) (e4) (a.2.u_) (a.2.B_) (H)) (ss [4, 3, 0, 1, 2] z z) (sb z)
       refine eD (tk 3 z) z ?_ ?_
       ·refine aB z z z z cL (fun _ => (tk 3 z)) fun c1 => aQ <| eD (tk 3 z) z ?_ ?_
        ·exact oq z (qc z xE (fun d c => kP d X (ah (ab D d c) (ab E d c)) (aH (ab F d c) (ab G d c)))) (tk 3 z) <| aa [.p, .p, .p] z <| aB z z z z ck (fun _ => (tk 3 z)) fun e6 => bp (off := 0) [I J a.1.j_, I J a.1.c_] [_, _] (i := 3) z z z z z z cL z z (al z) z z z (tk 3 z) <| aQ <| cH <| sC 0 [I J a.2.u_, I J a.2.B_] [_, _] 4 z ck z <| ax <| XW.at (J1 (c1) (a.1.j_) (a.1.c_) (e6) (a.2.u_) (a.2.B_) (H)) (ss [3, 4, 0, 1, 2] z z) (sb z)
        exact dG (tk 3 z) z <| aB z z z z ck (fun _ => (tk 3 z)) fun e7 => oq z (qc z xE (fun d c => kP d X (ah (ab D d c) (ab E d c)) (aH (ab F d c) (ab G d c)))) (tk 3 z) <| aa [.p, .p, .p] z <| bp (off := 0) [I J a.1.j_, I J a.1.c_] [_, _] (i := 3) z z z z z z cL z z (al z) z z z (tk 3 z) <| aQ <| cH <| sC 0 [I J a.2.u_, I J a.2.B_] [_, _] 4 z ck z <| ax <| XW.at (J1 (c1) (a.1.j_) (a.1.c_) (e7) (a.2.u_) (a.2.B_) (H)) (ss [3, 4, 0, 1, 2] z z) (sb z)
       refine dG (tk 3 z) z <| aB z z z z ck (fun _ => (tk 3 z)) fun c2 => aQ <| eD (tk 3 z) z ?_ ?_
       ·exact oq z (qc z xE (fun d c => kP d X (ah (ab D d c) (ab E d c)) (aH (ab F d c) (ab G d c)))) (tk 3 z) <| aa [.p, .p, .p] z <| aB z z z z cL (fun _ => (tk 3 z)) fun e9 => bp (off := 0) [I J a.1.j_, I J a.1.c_] [_, _] (i := 4) z z z z z z cL z z (al z) z z z (tk 3 z) <| aQ <| cH <| sC 0 [I J a.2.u_, I J a.2.B_] [_, _] 3 z ck z <| ax <| XW.at (J1 (e9) (a.1.j_) (a.1.c_) (c2) (a.2.u_) (a.2.B_) (H)) (ss [4, 3, 0, 1, 2] z z) (sb z)
       exact dG (tk 3 z) z <| aB z z z z cL (fun _ => (tk 3 z)) fun f0 => oq z (qc z xE (fun d c => kP d X (ah (ab D d c) (ab E d c)) (aH (ab F d c) (ab G d c)))) (tk 3 z) <| aa [.p, .p, .p] z <| bp (off := 0) [I J a.1.j_, I J a.1.c_] [_, _] (i := 4) z z z z z z cL z z (al z) z z z (tk 3 z) <| aQ <| cH <| sC 0 [I J a.2.u_, I J a.2.B_] [_, _] 3 z ck z <| ax <| XW.at (J1 (f0) (a.1.j_) (a.1.c_) (c2) (a.2.u_) (a.2.B_) (H)) (ss [4, 3, 0, 1, 2] z z) (sb z)
     ·exact bx <| aK <| aR <| aL <| az <| sR <| oPP z <| nT <| aO (rs := [.tmp 8]) (vs := [S o f.length q]) z ⟨z, Y⟩ (fun w' hw' => by
       obtain rfl := af H
       exact ⟨_, z, o, f.length, q, A, z, hw'.sel [2] z z⟩)
  ·clear H
   have H := b2
   clear b2
   generalize ((!a9) || ((p1.b_.length : Int) == 0)) = f6 at H key ⊢
   cases f6
   ·have H := bh z H
    refine o1 z (rx 0 0 _ z cV z) <| oP z <| bE H fun h7 f7 H => oq z (qc z zY (fun d c => jg d f7 (ah (ab D d c) (ab E d c)) (ab g2 d c))) tt2 <| oP z <| oP z <| ?_
    obtain rfl := af H
    exact OW.sub key (sb z)
   ·have H := bi z H
    refine aa [.p, .p, .p, .p, .p] z ?_
    obtain rfl := af H
    exact OW.sub key (sb z)
 ·generalize (!a9) = f8 at key ⊢
  cases f8
  ·exact aa [.fa 58 1 1 dt] z <| o1 z (r1 1 1 z cY z) <| aa [.lenS 28 45 cC, .p] z <| oP z <| OW.sub key (sb z)
  ·exact aa [.p, .p, .p, .p, .p] z <| OW.sub key (sb z)
theorem sA (w : World) {p0 : ae} {p1 : ar} {p2 : List Int} {p3 : Bool} {u : List Value} {v : List Value} {a_2 : Option Addr} {n_2 c_2 : Nat} {r : bv × aZ × Bool} (H : lz p0 p1 p2 p3 = U r) (X : (bk).rd w [] p0 u) (Z : (cb).rd w [] p1 v) (P : (ad eI 3).rd w [] p2 [S a_2 n_2 c_2]) :
    Calls Tryz.prog 101 #[.agg u.toArray, .agg v.toArray, S a_2 n_2 c_2, B p3] w (fun en w' => en = .returned (.tuple #[.agg #[I J r.1.k_.j_, I J r.1.k_.c_, I J r.1.z_.u_, I J r.1.z_.B_], .agg #[I J r.2.1.u_, I J r.2.1.B_], B r.2.2]) ∧ Ext [] w w') := by
 obtain ⟨a0, a1, rfl, x, A⟩ := aX X
 obtain ⟨a2, a3, rfl⟩ := ao x
 obtain ⟨a4, a5, rfl⟩ := ao A
 obtain ⟨a6, a7, rfl, C, D⟩ := aS Z
 obtain ⟨a8, a9, rfl⟩ := ao C
 obtain ⟨b0, b1, rfl⟩ := ao D
 obtain rfl := fp P
 unfold lz at H
 refine aN Tryz.func101 z Tryz.ntmps101 z (St.init w []) <| sR <| ob _ z fun b2 => ob _ z fun b3 => aB z z z z jZ (fun _ => kp) fun E => aB z z z z ck (fun _ => kp) fun m => oP z <| nR <| o1 z (rx 0 0 _ z cV z) <| o1 z (rx 0 1 _ z cK z) <| oPP z <| bE H fun k Q H => aj z Fp z z z z (fun d a => wQ d Q (a.carve [] z z) (ah (ab x d a) (ab A d a)) (aH (ab C d a) (ab D d a)) (ab P d a)) fun b4 d w2 a M => ?_
 obtain ⟨o, b5, q, F, rfl, s⟩ := M
 obtain rfl := aA (i := 0) s z
 refine ⟨St w [] [_, _, _, _, _], a.comp [] z z s, fun _ _ => Y, ?_⟩
 refine oP z <| nQ <| am <| sR <| aa [.p, .lenS 171 155 oN, .p] z <| nQ <| cI H z (fun H => ?_) (fun H => ?_)
 ·exact sR <| o1 z (bu [] [I J 0, I J 0, I J 0, I J 0] z z jZ DC z Y z) <| o1 z (bu [] [I J 0, I J 0] z z ck tF z Y z) <| sC 0 [I J 0, I J 0, I J 0, I J 0] [_, _, _, _] 2 z jZ z <| sC 0 [I J 0, I J 0] [_, _] 3 z ck z <| oP z <| nT <| aq <| aO (rs := [.cell 8 155, .cell 9 153, .tmp 10]) (vs := [.agg #[I J 0, I J 0, I J 0, I J 0], .agg #[I J 0, I J 0], B n]) z ⟨⟨_, [I J 0, I J 0, I J 0, I J 0], _, _, _, z, jZ, (bn (T := 155) 0 (bJ (i := 2) z) z), z, z⟩, ⟨_, [I J 0, I J 0], _, _, _, z, ck, (bn (T := 153) 0 (bJ (i := 3) z) z), z, z⟩, z, Y⟩ (fun w' hw' => by
   obtain rfl := af H
   exact ⟨z, hw'.ext⟩)
 ·refine av <| az <| sR <| o1 z (bu [(0, [I J 0]), (1, [I J 1])] [I J 0, I J 1] z z ck tF z ⟨z, z, nl z, z, z, nl z, Y⟩ z) <| aB z z z z ck (fun _ => kp) fun t => sC 0 [I J 0, I J 1] [_, _] 5 z ck z <| nQ <| xj (fun (f : Int) (g : Int) => St w [] [W (ad (bP) 155) F k [S o k.length q], b t 153 [I J f, I J g], b E 155 [I J 0, I J 0, I J 0, I J 0], b m 153 [I J 0, I J 0]]) (fun f g => [(8, O (U ⟨E, 0, N⟩)), (9, O (U ⟨m, 0, N⟩)), (11, S o k.length q), (12, O (U ⟨t, 0, N⟩))]) (fun f g => jJ k f g = U r) (fun f g H => ?_) (fun R => ?_)
  ·unfold jJ at H
   exact am <| cw 5 [(0, y), (1, y), (2, y), (3, y), (4, n)] (St w [] [W (ad (bP) 155) F k [S o k.length q], b t 153 [I J f, I J g], Res.nil, b m 153 [I J 0, I J 0]]) bU (by kernel_rfl) (aJ bb) (sm [y, y, n, y] z) <| oP z <| bE H fun c G H => bF (e := bP) (xs := k) (j := 0) z z z z z oN jZ z (fun d a => ap (e := ad (bP) 155) (r := 0) z d a) G z <| bm z (aw z) (dk (cs := [I J c.k_.j_, I J c.k_.c_, I J c.z_.u_, I J c.z_.B_]) z z jZ (oe (oU (fun d a => ap (e := ad (bP) 155) (r := 0) z d a) G (fun _ _ h => h)) z) z) <| bm z (aw z) (rx 0 1 _ z ck z) <| bp (off := 0) [I J c.k_.j_, I J c.k_.c_, I J c.z_.u_, I J c.z_.B_] [_, _, _, _] (i := 2) z z z z z z jZ z z (al z) z z z (sm [y, y, n, y] z) <| aQ <| jf <| sC 0 [I J f, I J g] [_, _] 3 z ck z <| oP z <| nT <| aO (rs := [.cell 8 155, .cell 9 153, .tmp 10]) (vs := [.agg #[I J c.k_.j_, I J c.k_.c_, I J c.z_.u_, I J c.z_.B_], .agg #[I J f, I J g], B y]) z ⟨⟨_, [I J c.k_.j_, I J c.k_.c_, I J c.z_.u_, I J c.z_.B_], _, _, _, z, jZ, (bn (T := 155) 0 (bJ (i := 2) z) z), z, z⟩, ⟨_, [I J f, I J g], _, _, _, z, ck, (bn (T := 153) 0 (bJ (i := 3) z) z), z, z⟩, z, Y⟩ (fun w' hw' => by
    obtain rfl := af H
    exact ⟨z, hw'.ext⟩)
  ·refine sR <| aa [.p, .lenS 171 155 oN, .p] z <| nQ <| cI H z (fun H => ?_) (fun H => ?_)
   ·exact aP <| oP z <| bE H fun l L H => bF (e := bP) (xs := k) (j := 1) z z z z z oN jZ z (fun d a => ap (e := ad (bP) 155) (r := 4) z d a) L z <| aa [.fa 155 1 2 ur] z <| o1 z (dk (cs := [I J l.z_.u_, I J l.z_.B_]) z z ck (Fg (oe (oU (fun d a => ap (e := ad (bP) 155) (r := 4) z d a) L (fun _ _ h => h)) z) 2 2) z) <| sC 0 [I J l.z_.u_, I J l.z_.B_] [_, _] 5 z ck z <| ax <| XW.at (R (l.z_.u_) (l.z_.B_) (H)) (ss [4, 5, 2, 3] z z) (sb z)
   ·exact av <| XW.at (R (0) (1) (H)) (ss [4, 5, 2, 3] z z) (sb z)
theorem kY (w : World) {p0 : aZ} {r : Bool} (H : iE p0 = U r)   :
    Calls Tryz.prog 116 #[.agg #[I J p0.u_, I J p0.B_]] w (fun en w' => en = .returned (B r) ∧ Ext [] w w') := by
 unfold iE at H
 refine aN Tryz.func116 z Tryz.ntmps116 z (St.init w []) <| sR <| ob _ z fun c => oP z <| nR <| o1 z (rx 0 0 _ z ck z) <| bE H fun a d H => oq z (qc z wh (fun f g => jI f (p0 := p0) d)) tt2 <| oP z <| aV [(11, B (a && (decide (p0.u_ ≤ p0.B_)))), (2, B n)] 6 ?_ (fun key => OW.sub (R := [(1, O (U ⟨c, 0, N⟩)), (2, B n), (5, B a)]) ?_ (sb z))
 ·exact oP z <| nT <| xr 2 z (by cases H; exact q1)
 ·generalize a = e at key ⊢
  cases e
  ·exact aa [.p, .p, .p, .p, .p, .p] z <| OW.sub key (sb z)
  ·exact aa [.fa 153 0 0 nO] z <| o1 z (r1 0 0 z ty3 z) <| aa [.fa 153 1 1 na] z <| o1 z (r1 1 0 z ty3 z) <| oP z <| oP z <| OW.sub key (sb z)
theorem uz (w : World) {s : List Nat} {p0 : List Int} {p1 : List Int} {a_0 : Option Addr} {n_0 c_0 : Nat} {a_1 : Option Addr} {n_1 c_1 : Nat} {r : (List Int) × Bool} (H : nm p0 p1 = U r) (HS : St w s [] w) (t : (ad eI 3).rd w s p0 [S a_0 n_0 c_0]) (D : (ad eI 3).rd w s p1 [S a_1 n_1 c_1]) :
    Calls Tryz.prog 142 #[S a_0 n_0 c_0, S a_1 n_1 c_1] w (fun en w' => ∃ v, en = .returned v ∧ ∃ (a0 : Option Addr), ∃ (n0 : Nat), ∃ (c0 : Nat), ∃ (F0 : List Nat), v = .tuple #[S a0 n0 c0, B r.2] ∧ St w s [W (ad eI 3) F0 r.1 [S a0 n0 c0]] w') := by
 obtain rfl := fp t
 obtain rfl := fp D
 unfold nm at H
 refine aN Tryz.func142 z Tryz.ntmps142 z (HS) <| sR <| oPP z <| nR <| bI (e := eI) z z z z aT ty3 (fun _ => kp) fun f => oP z <| nQ <| am <| sR <| oP z <| bE H fun E a5 H => oq z (qc z wg (fun c a => ko c a5 (ab t c a))) tt2 <| oPP z <| bE H fun u x H => aV [(18, B u), (0, S a_0 p0.length c_0), (1, S a_1 p1.length c_1), (6, S (U ⟨f, 0, N⟩) 0 0)] 4 ?_ (fun key => OW.sub (R := [(0, S a_0 p0.length c_0), (1, S a_1 p1.length c_1), (6, S (U ⟨f, 0, N⟩) 0 0), (14, B (!E))]) ?_ (sb z))
 ·refine oP z <| bE H fun a6 A H => aV [(24, B a6), (0, S a_0 p0.length c_0), (1, S a_1 p1.length c_1), (6, S (U ⟨f, 0, N⟩) 0 0)] 5 ?_ (fun key => OW.sub (R := [(0, S a_0 p0.length c_0), (1, S a_1 p1.length c_1), (6, S (U ⟨f, 0, N⟩) 0 0), (19, B u)]) ?_ (sb z))
  ·refine nQ <| cI H z (fun H => ?_) (fun H => ?_)
   ·exact sR <| aa [.p, .p, .p] z <| nT <| aq <| aO (rs := [.tmp 4, .tmp 5]) (vs := [S (U ⟨f, 0, N⟩) 0 0, B n]) z ⟨z, z, Y⟩ (fun w' hw' => by
     obtain rfl := af H
     exact ⟨_, z, (U ⟨f, 0, N⟩), 0, 0, [f], z, hw'.sel [0] z z⟩)
   ·refine av <| az <| sR <| oP z <| nQ <| am <| sR <| oP z <| nQ <| ay <| CW.at (ry (fun (d : List Int) (h : Option Addr) (l : Nat) (q : List Nat) (m : Int) (g : Int) => St w s [W (ad eI 3) q d [S h d.length l]]) (fun d h l q m g => [(0, S a_0 p0.length c_0), (1, S a_1 p1.length c_1), (6, S h d.length l), (7, I J m), (8, I J g)]) (fun kk => fun d h l q m g => h.isNone = n ∧ dY p0 p1 kk d m g = U r) (fun _ _ _ _ _ _ H => ?_) (fun k1 Z d h l q m g ⟨c2, H⟩ => ?_) aY (([] : List Int)) ((U ⟨f, 0, N⟩)) (0) ([f]) (0) (0) (⟨z, H⟩)) (ss [0] z z) (sb z)
    ·unfold dY at H
     exact absurd H (by simp)
    ·unfold dY at H
     refine am <| sR <| aa [.p, .p, .lenS 45 3 aT, .p] z <| nQ <| cI H z (fun H => ?_) (fun H => ?_)
     ·refine av <| az <| am <| ay <| am <| dR bU (by kernel_rfl) <| oPP z <| bE H fun F G H => bF (e := eI) (xs := p0) (j := g) z z z z z aT ty3 z (ab t) G (by rw [Nat.mul_one]) <| o1 z (aM z z ty3 (bO (ab t) G)) <| oPP z <| bE H fun L a7 H => oq z (qc z Bh (fun c a => oh c a7 (ab D c a))) tt2 <| aa [.p, .p, .p, .p] z <| co <| az <| sR <| oP z <| nQ <| xj (fun (o : Int) (k : Int) => St w s [W (ad eI 3) q d [S h d.length l]]) (fun o k => [(0, S a_0 p0.length c_0), (1, S a_1 p1.length c_1), (6, S h d.length l), (7, I J o), (8, I J g), (9, I J k)]) (fun o k => kN d (dY p0 p1 k1) g o k = U r) (fun o k H => ?_) (fun J1 => ?_)
      ·unfold kN at H
       exact aP <| oPP z <| bq (val := I J) (h1 := fun _ => z) [k] [(0, [I J k])] z z z z z aT ty3 z z z ⟨z, z, nl z, Y⟩ z z (fun _ => kp) fun c3 => bE H fun a9 M H => bC (r := 0) (ys := ([k] : List Int)) z z z z z z aT ty3 z z z (ap (e := ad eI 3) (r := 1) z) M (fun _ _ _ => kp) fun b0 b1 b2 => cc z (fun c a => fh (i := 0) a z (fe M)) fun a1 => oP z <| ax <| bW <| az <| aP <| aa [.p, .p, .p] z <| ax <| ct (RW.at (Z (a9) (b0) (b1) (b2) (o) (J.wrap (g + 1)) (⟨a1, H⟩)) (ss [0] z z) (sb z))
      ·refine sR <| oPP z <| nQ <| cI H z (fun H => ?_) (fun H => ?_)
       ·exact sR <| aa [.p, .p, .p] z <| nQ <| aP <| oP z <| ax <| XW.at (J1 (1) (J.wrap ((J.wrap ((J.wrap (F - L)) - m)) + 16777216)) (H)) (ss [0] z z) (sb z)
       ·exact av <| XW.at (J1 (0) (J.wrap ((J.wrap (F - L)) - m)) (H)) (ss [0] z z) (sb z)
     ·refine bx <| aK <| aR <| aL <| az <| sR <| oP z <| bE H fun P b3 H => aj z DI z z z z (fun c a => qk c b3 (a.carve [] z z) (ap (e := ad eI 3) (r := 0) z c a)) fun c4 c w2 a a2 => ?_
      obtain ⟨Q, c5, X, b4, rfl, C⟩ := a2
      obtain rfl := aA (i := 0) C z
      refine ⟨St w s [_, _], a.comp [] z z C, fun _ _ => Y, ?_⟩
      exact oPP z <| nT <| aO (rs := [.tmp 4, .tmp 5]) (vs := [S Q P.length X, B y]) z ⟨z, z, Y⟩ (fun w' hw' => by
       obtain rfl := af H
       exact ⟨_, z, Q, P.length, X, b4, z, hw'.sel [1] z z⟩)
  ·clear H
   have H := A
   clear A
   generalize u = b5 at H key ⊢
   cases b5
   ·have H := bh z H
    refine oPP z <| bE H fun c6 b6 H => oq z (qc z Cb (fun c a => oC c b6 (ab t c a) (ab D c a))) tt2 <| oP z <| oP z <| ?_
    obtain rfl := af H
    exact OW.sub key (sb z)
   ·have H := bi z H
    refine aa [.p, .p, .p, .p, .p] z ?_
    obtain rfl := af H
    exact OW.sub key (sb z)
 ·clear H
  have H := x
  clear x
  generalize (!E) = b7 at H key ⊢
  cases b7
  ·have H := bh z H
   refine oP z <| bE H fun c7 b8 H => oq z (qc z wg (fun c a => ko c b8 (ab D c a))) tt2 <| oP z <| oP z <| ?_
   obtain rfl := af H
   exact OW.sub key (sb z)
  ·have H := bi z H
   refine aa [.p, .p, .p, .p] z ?_
   obtain rfl := af H
   exact OW.sub key (sb z)
theorem ua (w : World) {g : List Nat} {p0 : aZ} {p1 : aZ} {r : (List Int) × (List Int) × Bool} (H : mv p0 p1 = U r) (HS : St w g [] w) :
    Calls Tryz.prog 132 #[.agg #[I J p0.u_, I J p0.B_], .agg #[I J p1.u_, I J p1.B_]] w (fun en w' => ∃ v, en = .returned v ∧ ∃ (X : Option Addr), ∃ (Z : Nat), ∃ (c0 : Nat), ∃ (F0 : List Nat), ∃ (a1 : Option Addr), ∃ (n1 : Nat), ∃ (c1 : Nat), ∃ (F1 : List Nat), v = .tuple #[S X Z c0, S a1 n1 c1, B r.2.2] ∧ St w g [W (ad eI 3) F0 r.1 [S X Z c0], W (ad eI 3) F1 r.2.1 [S a1 n1 c1]] w') := by
 unfold mv at H
 refine aN Tryz.func132 z Tryz.ntmps132 z (HS) <| sR <| ob _ z fun d => ob _ z fun f => aa [.p, .p, .p] z <| nQ <| am <| sR <| o1 z (rx 0 0 _ z ck z) <| bE H fun u a4 H => oq z (qc z wh (fun c a => jI c (p0 := p0) a4)) tt2 <| oPP z <| bE H fun h j H => aV [(16, B h), (2, O (U ⟨d, 0, N⟩)), (3, O (U ⟨f, 0, N⟩))] 4 ?_ (fun key => OW.sub (R := [(2, O (U ⟨d, 0, N⟩)), (3, O (U ⟨f, 0, N⟩)), (12, B (!u))]) ?_ (sb z))
 ·refine oP z <| bE H fun a5 k H => aV [(22, B a5), (2, O (U ⟨d, 0, N⟩)), (3, O (U ⟨f, 0, N⟩))] 5 ?_ (fun key => OW.sub (R := [(2, O (U ⟨d, 0, N⟩)), (3, O (U ⟨f, 0, N⟩)), (17, B h)]) ?_ (sb z))
  ·refine nQ <| cI H z (fun H => ?_) (fun H => ?_)
   ·exact sR <| bI (e := eI) z z z z aT ty3 (fun _ => kp) fun l => bI (e := eI) z z z z aT ty3 (fun _ => kp) fun m => aa [.p, .p, .p] z <| nT <| aq <| aO (rs := [.tmp 4, .tmp 5, .tmp 6]) (vs := [S (U ⟨l, 0, N⟩) 0 0, S (U ⟨m, 0, N⟩) 0 0, B n]) z ⟨z, z, z, Y⟩ (fun w' hw' => by
     obtain rfl := af H
     exact ⟨_, z, (U ⟨l, 0, N⟩), 0, 0, [l], (U ⟨m, 0, N⟩), 0, 0, [m], z, hw'.sel [2, 3] z z⟩)
   ·refine av <| az <| am <| cw 15 [(0, y), (1, y), (2, y), (3, y), (5, y), (6, y), (7, y), (8, y), (4, n), (9, n), (10, n), (11, y), (12, y), (13, y), (14, y)] (St w g [b d 153 [I J p0.u_, I J p0.B_], b f 153 [I J p1.u_, I J p1.B_]]) bU (by kernel_rfl) (aJ bb) (tk 2 z) <| aa [.fa 153 0 0 nO] z <| bm z (aw z) (r1 0 0 z ty3 z) <| aa [.fa 153 1 1 na] z <| bm z (aw z) (r1 1 1 z ty3 z) <| aa [.fa 153 0 0 nO] z <| bm z (aw z) (r1 0 1 z ty3 z) <| aa [.fa 153 1 1 na] z <| bm z (aw z) (r1 1 0 z ty3 z) <| bE H fun b8 a6 H => aj z vl z z z z (fun c a => il c a6 (a.carve [] z z)) fun b9 c G a L => ?_
    obtain ⟨c2, c3, c4, c5, rfl, o⟩ := L
    obtain rfl := aA (i := 0) o z
    refine ⟨St w g [_, _, _], a.comp [] z z o, (tk 2 z), ?_⟩
    refine bE H fun c6 a7 H => aj z vl z z z z (fun c a => il c a7 (a.carve [] z z)) fun c7 c G a M => ?_
    obtain ⟨c8, c9, d0, d1, rfl, q⟩ := M
    obtain rfl := aA (i := 0) q z
    refine ⟨St w g [_, _, _, _], a.comp [] z z q, (tk 2 z), ?_⟩
    refine bE H fun x a8 H => aj z Fv z z z z (fun c a => uz c a8 (a.carve [] z z) (ap (e := ad eI 3) (r := 2) z c a) (ap (e := ad eI 3) (r := 3) z c a)) fun d2 c G a P => ?_
    obtain ⟨A, d3, C, a9, rfl, s⟩ := P
    obtain rfl := aA (i := 0) s z
    refine ⟨St w g [_, _, _, _, _], a.comp [] z z s, (tk 2 z), ?_⟩
    refine aa [.p, .p, .p, .p] z <| aQ <| jf <| oP z <| nR <| aa [.p, .fa 153 1 1 na] z <| o1 z (r1 1 0 z ty3 z) <| aa [.fa 153 1 1 na] z <| o1 z (r1 1 1 z ty3 z) <| bE H fun D b0 H => aj z vl z z z z (fun c a => il c b0 (a.carve [] z z)) fun d4 c G a Q => ?_
    obtain ⟨E, d5, F, b1, rfl, t⟩ := Q
    obtain rfl := aA (i := 0) t z
    refine ⟨St w g [_, _, _, _, _, _], a.comp [] z z t, fun _ _ => Y, ?_⟩
    exact aa [.p, .p, .p] z <| nT <| aO (rs := [.tmp 4, .tmp 5, .tmp 6]) (vs := [S A x.1.length C, S E D.length F, B y]) z ⟨z, z, z, Y⟩ (fun w' hw' => by
     obtain rfl := af H
     exact ⟨_, z, A, x.1.length, C, a9, E, D.length, F, b1, z, hw'.sel [4, 5] z z⟩)
  ·clear H
   have H := k
   clear k
   generalize h = b2 at H key ⊢
   cases b2
   ·have H := bh z H
    refine o1 z (rx 0 0 _ z ck z) <| o1 z (rx 0 1 _ z ck z) <| bE H fun d6 b3 H => oq z (qc z xT (fun c a => kf c (p0 := p0) (p1 := p1) b3)) tt2 <| oP z <| oP z <| ?_
    obtain rfl := af H
    exact OW.sub key (sb z)
   ·have H := bi z H
    refine aa [.p, .p, .p, .p, .p] z ?_
    obtain rfl := af H
    exact OW.sub key (sb z)
 ·clear H
  have H := j
  clear j
  generalize (!u) = b4 at H key ⊢
  cases b4
  ·have H := bh z H
   refine o1 z (rx 0 1 _ z ck z) <| bE H fun d7 b5 H => oq z (qc z wh (fun c a => jI c (p0 := p1) b5)) tt2 <| oP z <| oP z <| ?_
   obtain rfl := af H
   exact OW.sub key (sb z)
  ·have H := bi z H
   refine aa [.p, .p, .p, .p] z ?_
   obtain rfl := af H
   exact OW.sub key (sb z)
theorem sj (w : World) {p0 : Int} {r : Int} (H : nV p0 = U r)   :
    Calls Tryz.prog 134 #[I J p0] w (fun en w' => en = .returned (I J r) ∧ Ext [] w w') := by
 unfold nV at H
 refine aN Tryz.func134 z Tryz.ntmps134 z (St.init w []) <| sR <| oP z <| nQ <| am <| sR <| oP z <| bE H fun d a H => oq z (qc z gN (fun c e => be c a)) tt2 <| oP z <| nQ <| cI H z (fun H => ?_) (fun H => ?_)
 ·exact sR <| oP z <| nT <| aq <| xr 2 z (by cases H; exact q1)
 ·exact av <| az <| sR <| aa [.p, .p, .p, .p, .p] z <| nT <| xr 2 z (by cases H; exact q1)
theorem uE (w : World) {p0 : aZ} {p1 : aZ} {p2 : Int} {p3 : Int} {r : Bool} (H : nr p0 p1 p2 p3 = U r)   :
    Calls Tryz.prog 118 #[.agg #[I J p0.u_, I J p0.B_], .agg #[I J p1.u_, I J p1.B_], I J p2, I J p3] w (fun en w' => en = .returned (B r) ∧ Ext [] w w') := by
 unfold nr at H
 refine aN Tryz.func118 z Tryz.ntmps118 z (St.init w []) <| sR <| ob _ z fun d => ob _ z fun f => oP z <| nQ <| am <| sR <| o1 z (rx 0 0 _ z ck z) <| bE H fun D Z H => oq z (qc z zk (fun c a => kY c (p0 := p0) Z)) tt2 <| oPP z <| bE H fun j k H => aV [(23, B j), (2, I J p2), (3, I J p3), (4, O (U ⟨d, 0, N⟩)), (5, O (U ⟨f, 0, N⟩))] 4 ?_ (fun key => OW.sub (R := [(2, I J p2), (3, I J p3), (4, O (U ⟨d, 0, N⟩)), (5, O (U ⟨f, 0, N⟩)), (19, B (!D))]) ?_ (sb z))
 ·refine oP z <| bE H fun l m H => aV [(29, B l), (2, I J p2), (3, I J p3), (4, O (U ⟨d, 0, N⟩)), (5, O (U ⟨f, 0, N⟩))] 5 ?_ (fun key => OW.sub (R := [(2, I J p2), (3, I J p3), (4, O (U ⟨d, 0, N⟩)), (5, O (U ⟨f, 0, N⟩)), (24, B j)]) ?_ (sb z))
  ·refine oP z <| bE H fun o q H => aV [(34, B o), (2, I J p2), (3, I J p3), (4, O (U ⟨d, 0, N⟩)), (5, O (U ⟨f, 0, N⟩))] 4 ?_ (fun key => OW.sub (R := [(2, I J p2), (3, I J p3), (4, O (U ⟨d, 0, N⟩)), (5, O (U ⟨f, 0, N⟩)), (30, B l)]) ?_ (sb z))
   ·refine oP z <| bE H fun a0 s H => aV [(39, B a0), (2, I J p2), (3, I J p3), (4, O (U ⟨d, 0, N⟩)), (5, O (U ⟨f, 0, N⟩))] 4 ?_ (fun key => OW.sub (R := [(2, I J p2), (3, I J p3), (4, O (U ⟨d, 0, N⟩)), (5, O (U ⟨f, 0, N⟩)), (35, B o)]) ?_ (sb z))
    ·refine nQ <| cI H z (fun H => ?_) (fun H => ?_)
     ·exact sR <| oP z <| nT <| aq <| xr 8 z (by cases H; exact q1)
     ·refine av <| az <| sR <| o1 z (rx 0 0 _ z ck z) <| o1 z (rx 0 1 _ z ck z) <| bE H fun c1 a1 H => aj z EJ z z z z (fun c a => ua c (p0 := p0) (p1 := p1) a1 (a.carve [] z z)) fun c2 c h a E => ?_
      obtain ⟨c3, c4, c5, c6, c7, c8, c9, d0, rfl, g⟩ := E
      obtain rfl := aA (i := 0) g z
      obtain rfl := aA (i := 1) g z
      refine ⟨St w [] [_, _, _, _], a.comp [] z z g, fun _ _ => Y, ?_⟩
      refine aa [.p, .p, .p, .p, .p, .p, .p] z <| nR <| oPP z <| bE H fun d1 a2 H => aj z xC z z z z (fun c a => kK c a2 (a.carve [] z z) (ap (e := ad eI 3) (r := 2) z c a) (ap (e := ad eI 3) (r := 2) z c a)) fun d2 c h a F => ?_
      obtain ⟨d3, d4, d5, d6, rfl, t⟩ := F
      obtain rfl := aA (i := 0) t z
      refine ⟨St w [] [_, _, _, _, _], a.comp [] z z t, fun _ _ => Y, ?_⟩
      refine aa [.p, .p, .p, .p, .p] z <| nR <| oPP z <| bE H fun d7 a3 H => aj z vl z z z z (fun c a => il c a3 (a.carve [] z z)) fun d8 c h a G => ?_
      obtain ⟨d9, e0, e1, e2, rfl, u⟩ := G
      obtain rfl := aA (i := 0) u z
      refine ⟨St w [] [_, _, _, _, _, _], a.comp [] z z u, fun _ _ => Y, ?_⟩
      refine bE H fun e3 a4 H => aj z xC z z z z (fun c a => kK c a4 (a.carve [] z z) (ap (e := ad eI 3) (r := 4) z c a) (ap (e := ad eI 3) (r := 5) z c a)) fun e4 c h a L => ?_
      obtain ⟨e5, e6, e7, e9, rfl, v⟩ := L
      obtain rfl := aA (i := 0) v z
      refine ⟨St w [] [_, _, _, _, _, _, _], a.comp [] z z v, fun _ _ => Y, ?_⟩
      refine aa [.p, .p, .p, .p] z <| nR <| oPP z <| bE H fun f0 a5 H => aj z xC z z z z (fun c a => kK c a5 (a.carve [] z z) (ap (e := ad eI 3) (r := 3) z c a) (ap (e := ad eI 3) (r := 3) z c a)) fun f1 c h a M => ?_
      obtain ⟨f2, f3, f4, f5, rfl, x⟩ := M
      obtain rfl := aA (i := 0) x z
      refine ⟨St w [] [_, _, _, _, _, _, _, _], a.comp [] z z x, fun _ _ => Y, ?_⟩
      refine aa [.p, .p, .p, .p, .p] z <| nR <| oPP z <| bE H fun f6 a6 H => oq z (qc z DE (fun c a => sj c a6)) tt2 <| bE H fun f7 a7 H => aj z vl z z z z (fun c a => il c a7 (a.carve [] z z)) fun f8 c h a P => ?_
      obtain ⟨f9, g0, g1, g2, rfl, A⟩ := P
      obtain rfl := aA (i := 0) A z
      refine ⟨St w [] [_, _, _, _, _, _, _, _, _], a.comp [] z z A, fun _ _ => Y, ?_⟩
      refine bE H fun g3 a8 H => aj z xC z z z z (fun c a => kK c a8 (a.carve [] z z) (ap (e := ad eI 3) (r := 7) z c a) (ap (e := ad eI 3) (r := 8) z c a)) fun g4 c h a Q => ?_
      obtain ⟨g5, b7, b8, b9, rfl, C⟩ := Q
      obtain rfl := aA (i := 0) C z
      refine ⟨St w [] [_, _, _, _, _, _, _, _, _, _], a.comp [] z z C, fun _ _ => Y, ?_⟩
      exact aa [.p, .p, .p, .p] z <| nR <| oPP z <| bE H fun c0 X H => oq z (qc z Cb (fun c a => oC c X (ap (e := ad eI 3) (r := 6) z c a) (ap (e := ad eI 3) (r := 9) z c a))) tt2 <| oPP z <| nT <| xr 8 z (by cases H; exact q1)
    ·clear H
     have H := s
     clear s
     generalize o = a9 at H key ⊢
     cases a9
     ·have H := bh z H
      refine oP z <| bE H fun g6 b0 H => oq z (qc z gN (fun c a => be c b0)) tt2 <| oP z <| oP z <| ?_
      obtain rfl := af H
      exact OW.sub key (sb z)
     ·have H := bi z H
      refine aa [.p, .p, .p, .p] z ?_
      obtain rfl := af H
      exact OW.sub key (sb z)
   ·clear H
    have H := q
    clear q
    generalize l = b1 at H key ⊢
    cases b1
    ·have H := bh z H
     refine oP z <| bE H fun g7 b2 H => oq z (qc z gN (fun c a => be c b2)) tt2 <| oP z <| oP z <| ?_
     obtain rfl := af H
     exact OW.sub key (sb z)
    ·have H := bi z H
     refine aa [.p, .p, .p, .p] z ?_
     obtain rfl := af H
     exact OW.sub key (sb z)
  ·clear H
   have H := m
   clear m
   generalize j = b3 at H key ⊢
   cases b3
   ·have H := bh z H
    refine o1 z (rx 0 0 _ z ck z) <| o1 z (rx 0 1 _ z ck z) <| bE H fun g8 b4 H => oq z (qc z xT (fun c a => kf c (p0 := p0) (p1 := p1) b4)) tt2 <| oP z <| oP z <| ?_
    obtain rfl := af H
    exact OW.sub key (sb z)
   ·have H := bi z H
    refine aa [.p, .p, .p, .p, .p] z ?_
    obtain rfl := af H
    exact OW.sub key (sb z)
 ·clear H
  have H := k
  clear k
  generalize (!D) = b5 at H key ⊢
  cases b5
  ·have H := bh z H
   refine o1 z (rx 0 1 _ z ck z) <| bE H fun g9 b6 H => oq z (qc z zk (fun c a => kY c (p0 := p1) b6)) tt2 <| oP z <| oP z <| ?_
   obtain rfl := af H
   exact OW.sub key (sb z)
  ·have H := bi z H
   refine aa [.p, .p, .p, .p] z ?_
   obtain rfl := af H
   exact OW.sub key (sb z)
theorem wE (w : World) {p0 : cq} {p1 : Int} {r : Bool} (H : pk p0 p1 = U r)   :
    Calls Tryz.prog 119 #[.agg #[I J p0.J_, I J p0.I_, I J p0.K_, I J p0.l_, I J p0.a_, I J p0.F_, B p0.G_], I J p1] w (fun en w' => en = .returned (B r) ∧ Ext [] w w') := by
 unfold pk at H
 refine aN Tryz.func119 z Tryz.ntmps119 z (St.init w []) <| sR <| ob _ z fun a => oP z <| nQ <| am <| dR bU (by kernel_rfl) <| o1 z (rx 0 0 _ z ou z) <| bE H fun g i H => oq z (qc z Ed (fun c h => nY c (p0 := p0) i)) tt2 <| oP z <| bE H fun d e H => aV [(10, B d), (1, I J p1), (2, O (U ⟨a, 0, N⟩)), (4, B n)] 3 ?_ (fun key => OW.sub (R := [(1, I J p1), (2, O (U ⟨a, 0, N⟩)), (4, B n), (7, B g)]) ?_ (sb z))
 ·refine oP z <| bE H fun j f H => aV [(25, B j), (4, B n)] 14 ?_ (fun key => OW.sub (R := [(1, I J p1), (2, O (U ⟨a, 0, N⟩)), (4, B n), (11, B d)]) ?_ (sb z))
  ·exact oP z <| co <| az <| uS <| xr 4 z (by cases H; exact q1)
  ·clear H
   have H := f
   clear f
   generalize d = k at H key ⊢
   cases k
   ·have H := bh z H
    refine aa [.p, .p, .p, .p, .p, .p, .p, .p, .p, .p, .p, .p, .p, .p] z ?_
    obtain rfl := af H
    exact OW.sub key (sb z)
   ·have H := bi z H
    refine aa [.fa 103 0 0 wr] z <| o1 z (r1 0 0 z ty3 z) <| bE H fun q l H => oq z (qc z DE (fun c h => sj c l)) tt2 <| aa [.p, .p, .p, .fa 103 1 1 wR] z <| o1 z (r1 1 0 z ty3 z) <| aa [.p, .fa 103 1 1 wR] z <| o1 z (r1 1 0 z ty3 z) <| oPP z <| oP z <| ?_
    obtain rfl := af H
    exact OW.sub key (sb z)
 ·clear H
  have H := e
  clear e
  generalize g = m at H key ⊢
  cases m
  ·have H := bh z H
   refine aa [.p, .p, .p] z ?_
   obtain rfl := af H
   exact OW.sub key (sb z)
  ·have H := bi z H
   refine oP z <| bE H fun s o H => oq z (qc z gN (fun c h => be c o)) tt2 <| oP z <| ?_
   obtain rfl := af H
   exact OW.sub key (sb z)
theorem tW (w : World) {p0 : cq} {p1 : aZ} {p2 : aZ} {p3 : Int} {r : Int} (H : mb p0 p1 p2 p3 = U r)   :
    Calls Tryz.prog 102 #[.agg #[I J p0.J_, I J p0.I_, I J p0.K_, I J p0.l_, I J p0.a_, I J p0.F_, B p0.G_], .agg #[I J p1.u_, I J p1.B_], .agg #[I J p2.u_, I J p2.B_], I J p3] w (fun en w' => en = .returned (I J r) ∧ Ext [] w w') := by
 unfold mb at H
 refine aN Tryz.func102 z Tryz.ntmps102 z (St.init w []) <| sR <| ob _ z fun c => ob _ z fun d => ob _ z fun e => oP z <| nQ <| am <| ay <| sR <| o1 z (rx 0 0 _ z ou z) <| bE H fun o q H => oq z (qc z Ed (fun a f => nY a (p0 := p0) q)) tt2 <| oPP z <| bE H fun g h H => aV [(17, B g), (3, I J p3), (4, O (U ⟨c, 0, N⟩)), (5, O (U ⟨d, 0, N⟩)), (6, O (U ⟨e, 0, N⟩))] 4 ?_ (fun key => OW.sub (R := [(3, I J p3), (4, O (U ⟨c, 0, N⟩)), (5, O (U ⟨d, 0, N⟩)), (6, O (U ⟨e, 0, N⟩)), (13, B (!o))]) ?_ (sb z))
 ·refine oP z <| bE H fun i j H => aV [(22, B i), (3, I J p3), (4, O (U ⟨c, 0, N⟩)), (5, O (U ⟨d, 0, N⟩)), (6, O (U ⟨e, 0, N⟩))] 4 ?_ (fun key => OW.sub (R := [(3, I J p3), (4, O (U ⟨c, 0, N⟩)), (5, O (U ⟨d, 0, N⟩)), (6, O (U ⟨e, 0, N⟩)), (18, B g)]) ?_ (sb z))
  ·refine oP z <| bE H fun k l H => aV [(27, B k), (3, I J p3), (4, O (U ⟨c, 0, N⟩)), (5, O (U ⟨d, 0, N⟩)), (6, O (U ⟨e, 0, N⟩))] 4 ?_ (fun key => OW.sub (R := [(3, I J p3), (4, O (U ⟨c, 0, N⟩)), (5, O (U ⟨d, 0, N⟩)), (6, O (U ⟨e, 0, N⟩)), (23, B i)]) ?_ (sb z))
   ·refine oP z <| bE H fun s m H => aV [(33, B s), (3, I J p3), (4, O (U ⟨c, 0, N⟩)), (5, O (U ⟨d, 0, N⟩)), (6, O (U ⟨e, 0, N⟩))] 5 ?_ (fun key => OW.sub (R := [(3, I J p3), (4, O (U ⟨c, 0, N⟩)), (5, O (U ⟨d, 0, N⟩)), (6, O (U ⟨e, 0, N⟩)), (28, B k)]) ?_ (sb z))
    ·refine oP z <| nQ <| cI H z (fun H => ?_) (fun H => ?_)
     ·exact sR <| oP z <| nT <| ba <| aq <| xr 8 z (by cases H; exact q1)
     ·refine sR <| aa [.fa 153 0 0 nO] z <| o1 z (r1 0 1 z ty3 z) <| oPP z <| nQ <| cI H z (fun H => ?_) (fun H => ?_)
      ·exact sR <| oP z <| nT <| ba <| aq <| xr 8 z (by cases H; exact q1)
      ·refine sR <| o1 z (rx 0 1 _ z ck z) <| o1 z (rx 0 2 _ z ck z) <| aa [.p, .fa 103 0 0 wr] z <| o1 z (r1 0 0 z ty3 z) <| bE H fun L t H => oq z (qc z FT (fun a f => uE a (p0 := p1) (p1 := p2) t)) tt2 <| oP z <| nQ <| cI H z (fun H => ?_) (fun H => ?_)
       ·exact sR <| oP z <| nT <| ba <| aq <| xr 8 z (by cases H; exact q1)
       ·refine sR <| o1 z (rx 0 0 _ z ou z) <| oP z <| bE H fun M u H => oq z (qc z FF (fun a f => wE a (p0 := p0) u)) tt2 <| oP z <| nQ <| cI H z (fun H => ?_) (fun H => ?_)
        ·exact sR <| oP z <| nT <| ba <| aq <| xr 8 z (by cases H; exact q1)
        ·exact av <| bW <| az <| sR <| oP z <| nT <| xr 8 z (by cases H; exact q1)
    ·clear H
     have H := m
     clear m
     generalize k = v at H key ⊢
     cases v
     ·have H := bh z H
      refine o1 z (rx 0 1 _ z ck z) <| o1 z (rx 0 2 _ z ck z) <| bE H fun P x H => oq z (qc z xT (fun a f => kf a (p0 := p1) (p1 := p2) x)) tt2 <| oP z <| oP z <| ?_
      obtain rfl := af H
      exact OW.sub key (sb z)
     ·have H := bi z H
      refine aa [.p, .p, .p, .p, .p] z ?_
      obtain rfl := af H
      exact OW.sub key (sb z)
   ·clear H
    have H := l
    clear l
    generalize i = A at H key ⊢
    cases A
    ·have H := bh z H
     refine o1 z (rx 0 2 _ z ck z) <| bE H fun Q C H => oq z (qc z zk (fun a f => kY a (p0 := p2) C)) tt2 <| oP z <| oP z <| ?_
     obtain rfl := af H
     exact OW.sub key (sb z)
    ·have H := bi z H
     refine aa [.p, .p, .p, .p] z ?_
     obtain rfl := af H
     exact OW.sub key (sb z)
  ·clear H
   have H := j
   clear j
   generalize g = D at H key ⊢
   cases D
   ·have H := bh z H
    refine o1 z (rx 0 1 _ z ck z) <| bE H fun X E H => oq z (qc z zk (fun a f => kY a (p0 := p1) E)) tt2 <| oP z <| oP z <| ?_
    obtain rfl := af H
    exact OW.sub key (sb z)
   ·have H := bi z H
    refine aa [.p, .p, .p, .p] z ?_
    obtain rfl := af H
    exact OW.sub key (sb z)
 ·clear H
  have H := h
  clear h
  generalize (!o) = F at H key ⊢
  cases F
  ·have H := bh z H
   refine oP z <| bE H fun Z G H => oq z (qc z gN (fun a f => be a G)) tt2 <| oP z <| oP z <| ?_
   obtain rfl := af H
   exact OW.sub key (sb z)
  ·have H := bi z H
   refine aa [.p, .p, .p, .p] z ?_
   obtain rfl := af H
   exact OW.sub key (sb z)
theorem vQ (w : World) {p0 : ae} {p1 : cq} {p2 : aG} {m : List Value} {o : List Value} {r : au × Int} (H : od p0 p1 p2 = U r) (g0 : (bk).rd w [] p0 m) (g2 : (aC).rd w [] p2 o) :
    Calls Tryz.prog 87 #[.agg m.toArray, .agg #[I J p1.J_, I J p1.I_, I J p1.K_, I J p1.l_, I J p1.a_, I J p1.F_, B p1.G_], .agg o.toArray] w (fun en w' => en = .returned (.tuple #[.agg #[I J r.1.j_, I J r.1.c_], I J r.2]) ∧ Ext [] w w') := by
 obtain ⟨a3, a4, rfl, h, j⟩ := aX g0
 obtain ⟨a5, a6, rfl⟩ := ao h
 obtain ⟨a7, a8, rfl⟩ := ao j
 obtain ⟨a9, b0, b1, b2, b3, b4, b5, b6, b7, b8, rfl, x, A, C, D, E, F, q, G, L, M⟩ := bo g2
 obtain rfl := x
 obtain rfl := A
 obtain ⟨b9, c0, rfl⟩ := ao C
 obtain rfl := D
 obtain ⟨c1, c2, rfl, k, l⟩ := aS E
 obtain ⟨c3, c4, rfl⟩ := ao k
 obtain ⟨c5, c6, rfl⟩ := ao l
 obtain rfl := F
 obtain ⟨c7, c8, rfl⟩ := ao q
 obtain rfl := G
 obtain rfl := L
 obtain rfl := M
 unfold od at H
 refine aN Tryz.func87 z Tryz.ntmps87 z (St.init w []) <| sR <| ob _ z fun s => ob _ z fun t => ob _ z fun u => aB z z z z cL (fun _ => kp) fun f => oP z <| nR <| o1 z (rx 0 0 _ z cV z) <| aa [.fa 60 4 5 ep] z <| o1 z (rx 5 2 _ z cK z) <| aa [.fa 60 6 8 mM] z <| o1 z (r1 8 2 z bG z) <| aa [.fa 103 6 6 Cs] z <| o1 z (r1 6 1 z ty4 z) <| bE H fun a P H => oq z (qc z FD (fun d c => sA d P (ah (ab h d c) (ab j d c)) (aH (ab k d c) (ab l d c)) (ab q d c))) tt2 <| aa [.p, .p, .p, .p] z <| aB z z z z jZ (fun _ => kp) fun g => aB z z z z ck (fun _ => kp) fun v => sC 0 [I J a.1.k_.j_, I J a.1.k_.c_, I J a.1.z_.u_, I J a.1.z_.B_] [_, _, _, _] 4 z jZ z <| sC 0 [I J a.2.1.u_, I J a.2.1.B_] [_, _] 5 z ck z <| oP z <| nQ <| am <| sR <| aa [.fa 60 0 0 mw] z <| o1 z (r1 0 2 z ty4 z) <| oPP z <| aV [(30, B ((!p2.s_) || (!a.2.2))), (3, O (U ⟨s, 0, N⟩)), (4, O (U ⟨t, 0, N⟩)), (5, O (U ⟨u, 0, N⟩)), (6, O (U ⟨f, 0, N⟩)), (8, O (U ⟨g, 0, N⟩)), (9, O (U ⟨v, 0, N⟩))] 3 ?_ (fun key => OW.sub (R := [(3, O (U ⟨s, 0, N⟩)), (4, O (U ⟨t, 0, N⟩)), (5, O (U ⟨u, 0, N⟩)), (6, O (U ⟨f, 0, N⟩)), (8, O (U ⟨g, 0, N⟩)), (9, O (U ⟨v, 0, N⟩)), (10, B a.2.2), (27, B (!p2.s_))]) ?_ (sb z))
 ·refine nQ <| cI H z (fun H => ?_) (fun H => ?_)
  ·exact sR <| o1 z (bu [] [I J 0, I J 0] z z cL xG z Y z) <| sC 0 [I J 0, I J 0] [_, _] 3 z cL z <| oP z <| nT <| aq <| aO (rs := [.cell 6 56, .tmp 7]) (vs := [.agg #[I J 0, I J 0], I J 4]) z ⟨⟨_, [I J 0, I J 0], _, _, _, z, cL, (bn (T := 56) 0 (bJ (i := 3) z) z), z, z⟩, z, Y⟩ (fun w' hw' => by
    obtain rfl := af H
    exact ⟨z, hw'.ext⟩)
  ·refine av <| az <| am <| dR bU (by kernel_rfl) <| o1 z (rx 0 1 _ z ou z) <| aa [.fa 155 1 2 ur] z <| o1 z (rx 2 4 _ z ck z) <| o1 z (rx 0 5 _ z ck z) <| o1 z (rx 0 0 _ z cV z) <| aa [.fa 60 4 5 ep] z <| o1 z (rx 5 2 _ z cK z) <| bE H fun c9 Q H => oq z (qc z Ci (fun d c => iY d Q (ah (ab h d c) (ab j d c)) (aH (ab k d c) (ab l d c)))) tt2 <| bE H fun e X H => oq z (qc z FI (fun d c => tW d (p0 := p1) (p1 := a.1.z_) (p2 := a.2.1) X)) tt2 <| oP z <| co <| az <| am <| sR <| aa [.p, .p, .p] z <| aV [(46, B ((e == 1) || (e == 2))), (6, O (U ⟨f, 0, N⟩)), (8, O (U ⟨g, 0, N⟩)), (11, I J e)] 3 ?_ (fun key => OW.sub (R := [(6, O (U ⟨f, 0, N⟩)), (8, O (U ⟨g, 0, N⟩)), (11, I J e), (43, B (e == 1))]) ?_ (sb z))
   ·refine nQ <| cI H z (fun H => ?_) (fun H => ?_)
    ·exact sR <| aa [.fa 155 0 0 Dz] z <| o1 z (rx 0 4 _ z cL z) <| oP z <| sC 0 [I J a.1.k_.j_, I J a.1.k_.c_] [_, _] 3 z cL z <| oP z <| nT <| aq <| aO (rs := [.cell 6 56, .tmp 7]) (vs := [.agg #[I J a.1.k_.j_, I J a.1.k_.c_], I J e]) z ⟨⟨_, [I J a.1.k_.j_, I J a.1.k_.c_], _, _, _, z, cL, (bn (T := 56) 0 (bJ (i := 3) z) z), z, z⟩, z, Y⟩ (fun w' hw' => by
      obtain rfl := af H
      exact ⟨z, hw'.ext⟩)
    ·exact av <| az <| sR <| o1 z (bu [] [I J 0, I J 0] z z cL xG z Y z) <| oP z <| sC 0 [I J 0, I J 0] [_, _] 3 z cL z <| oP z <| nT <| aO (rs := [.cell 6 56, .tmp 7]) (vs := [.agg #[I J 0, I J 0], I J e]) z ⟨⟨_, [I J 0, I J 0], _, _, _, z, cL, (bn (T := 56) 0 (bJ (i := 3) z) z), z, z⟩, z, Y⟩ (fun w' hw' => by
      obtain rfl := af H
      exact ⟨z, hw'.ext⟩)
   ·generalize (e == 1) = Z at key ⊢
    cases Z
    ·exact oPP z <| oP z <| OW.sub key (sb z)
    ·exact aa [.p, .p, .p] z <| OW.sub key (sb z)
 ·generalize (!p2.s_) = a0 at key ⊢
  cases a0
  ·exact oPP z <| oP z <| OW.sub key (sb z)
  ·exact aa [.p, .p, .p] z <| OW.sub key (sb z)
theorem kU (w : World) {p0 : Int} {p1 : Int} {r : Int} (H : jF p0 p1 = U r)   :
    Calls Tryz.prog 104 #[I J p0, I J p1] w (fun en w' => en = .returned (I J r) ∧ Ext [] w w') := by
 unfold jF at H
 refine aN Tryz.func104 z Tryz.ntmps104 z (St.init w []) <| sR <| oP z <| nQ <| am <| sR <| oP z <| bE H fun M a7 H => oq z (qc z gN (fun u q => be u a7)) tt2 <| oPP z <| bE H fun a8 v H => aV [(17, B a8), (0, I J p0), (1, I J p1)] 5 ?_ (fun key => OW.sub (R := [(0, I J p0), (1, I J p1), (12, B (!M))]) ?_ (sb z))
 ·refine nQ <| cI H z (fun H => ?_) (fun H => ?_)
  ·exact sR <| oP z <| nT <| aq <| xr 4 z (by cases H; exact q1)
  ·refine av <| az <| sR <| bq (val := I J) (h1 := fun _ => z) [1] [(0, [I J 1])] z z z z z aT ty3 z z z ⟨z, z, nl z, Y⟩ z z (fun _ => kp) fun P => oP z <| nQ <| am <| sR <| oP z <| nQ <| ay <| CW.at (iw (fun (a : List Int) (k : Option Addr) (d : Nat) (l : List Nat) (f : Int) => St w [] [W (ad eI 3) l a [S k a.length d]]) (fun a k d l f => [(0, I J p0), (1, I J p1), (5, S k a.length d), (6, I J f)]) (fun kk => fun a k d l f => k.isNone = n ∧ cQ p0 p1 kk a f = U r) (fun _ _ _ _ _ H => ?_) (fun k1 Q a k d l f ⟨b1, H⟩ => ?_) aY (([1] : List Int)) ((U ⟨P, 0, N⟩)) (1) ([P]) (0) (⟨z, H⟩)) (ss [0] z z) (sb z)
   ·unfold cQ at H
    exact absurd H (by simp)
   ·unfold cQ at H
    refine am <| sR <| aa [.p, .p, .p] z <| nQ <| cI H z (fun H => ?_) (fun H => ?_)
    ·refine av <| az <| am <| ay <| sR <| bq (val := I J) (h1 := fun _ => z) [1] [(0, [I J 1])] z z z z z aT ty3 z z z ⟨z, z, nl z, Y⟩ z z (fun _ => kp) fun x => oP z <| nQ <| am <| sR <| oP z <| nQ <| ay <| CW.at (iw (fun (c : List Int) (h : Option Addr) (m : Nat) (o : List Nat) (g : Int) => St w [] [W (ad eI 3) l a [S k a.length d], W (ad eI 3) o c [S h c.length m]]) (fun c h m o g => [(0, I J p0), (1, I J p1), (5, S k a.length d), (6, I J f), (7, S h c.length m), (8, I J g)]) (fun kk => fun c h m o g => h.isNone = n ∧ fM a (cQ p0 p1 k1) f kk c g = U r) (fun _ _ _ _ _ H => ?_) (fun k2 X c h m o g ⟨b2, H⟩ => ?_) aY (([1] : List Int)) ((U ⟨x, 0, N⟩)) (1) ([x]) (1) (⟨z, H⟩)) (ss [0, 1] z z) (sb z)
     ·unfold fM at H
      exact absurd H (by simp)
     ·unfold fM at H
      refine am <| sR <| aa [.p, .p, .lenS 45 3 aT, .p] z <| nQ <| cI H z (fun H => ?_) (fun H => ?_)
      ·exact av <| az <| am <| ay <| cw 12 [(0, y), (1, y), (2, y), (3, y), (4, y), (5, y), (6, y), (7, y), (8, y), (9, y), (10, y), (11, n)] (St w [] [W (ad eI 3) l a [S k a.length d], W (ad eI 3) o c [S h c.length m]]) bU (by kernel_rfl) (bj (aJ (db (bj (aJ (bj (aJ (db (bj (aJ bb)))))))))) (tk 2 z) <| aa [.p, .p, .p, .p] z <| bE H fun s A H => bF (e := eI) (xs := a) (j := J.wrap (g - 1)) z z z z z aT ty3 z (ap (e := ad eI 3) (r := 0) z) A (by rw [Nat.mul_one]) <| bm z (aw z) (aM z z ty3 (bO (ap (e := ad eI 3) (r := 0) z) A)) <| oPP z <| bE H fun t C H => bF (e := eI) (xs := a) (j := g) z z z z z aT ty3 z (ap (e := ad eI 3) (r := 0) z) C (by rw [Nat.mul_one]) <| bm z (aw z) (aM z z ty3 (bO (ap (e := ad eI 3) (r := 0) z) C)) <| oP z <| bq (val := I J) (h1 := fun _ => z) [J.wrap (s + t)] [(0, [I J (J.wrap (s + t))])] z z z z z aT ty3 z z z ⟨z, z, nl z, Y⟩ z z (fun _ => (tk 2 z)) fun b4 => aQ <| jf <| bE H fun Z D H => bC (r := 1) (ys := ([J.wrap (s + t)] : List Int)) z z z z z z aT ty3 z z z (ap (e := ad eI 3) (r := 2) z) D (fun _ _ _ => kp) fun a0 a1 a2 => cc z (fun u q => fh (i := 1) q z (fe D)) fun G => oP z <| ax <| bW <| az <| aP <| aa [.p, .p, .p] z <| ax <| ct (RW.at (X (Z) (a0) (a1) (a2) (J.wrap (g + 1)) (⟨G, H⟩)) (ss [0, 1] z z) (sb z))
      ·exact bx <| aK <| aR <| aL <| az <| aP <| oP z <| bq (val := I J) (h1 := fun _ => z) [1] [(0, [I J 1])] z z z z z aT ty3 z z z ⟨z, z, nl z, Y⟩ z z (fun _ => kp) fun b5 => bE H fun a3 E H => bC (r := 1) (ys := ([1] : List Int)) z z z z z z aT ty3 z z z (ap (e := ad eI 3) (r := 2) z) E (fun _ _ _ => kp) fun a4 a5 a6 => cc z (fun u q => fh (i := 1) q z (fe E)) fun L => oP z <| ax <| bW <| az <| aP <| aa [.p, .p, .p] z <| ax <| ct (RW.at (Q (a3) (a4) (a5) (a6) (J.wrap (f + 1)) (⟨L, H⟩)) (ss [1] z z) (sb z))
    ·exact bx <| aK <| aR <| aL <| az <| sR <| oPP z <| bE H fun b6 F H => bF (e := eI) (xs := a) (j := p1) z z z z z aT ty3 z (ap (e := ad eI 3) (r := 0) z) F (by rw [Nat.mul_one]) <| o1 z (aM z z ty3 (bO (ap (e := ad eI 3) (r := 0) z) F)) <| oP z <| nT <| xr 4 z (by cases H; exact q1)
 ·clear H
  have H := v
  clear v
  generalize (!M) = a9 at H key ⊢
  cases a9
  ·have H := bh z H
   refine oPP z <| bE H fun b7 b0 H => oq z (qc z gN (fun u q => be u b0)) tt2 <| oP z <| oP z <| ?_
   obtain rfl := af H
   exact OW.sub key (sb z)
  ·have H := bi z H
   refine aa [.p, .p, .p, .p, .p] z ?_
   obtain rfl := af H
   exact OW.sub key (sb z)
theorem tt (w : World) {p0 : bf} {a : List Value} {r : Int} (H : mW p0 = U r) (h : (jp).rd w [] p0 a) :
    Calls Tryz.prog 135 #[.agg a.toArray] w (fun en w' => en = .returned (I J r) ∧ Ext [] w w') := by
 obtain ⟨i, j, rfl, c, d⟩ := iV h
 obtain ⟨k, l, rfl⟩ := ao c
 obtain rfl := d
 unfold mW at H
 refine aN Tryz.func135 z Tryz.ntmps135 z (St.init w []) <| sR <| ob _ z fun m => oP z <| nQ <| am <| sR <| o1 z (rx 0 0 _ z bN z) <| bE H fun o e H => oq z (qc z Fj (fun f g => qF f e (bt (ab c f g) z))) tt2 <| oP z <| nQ <| cI H z (fun H => ?_) (fun H => ?_)
 ·exact sR <| oP z <| nT <| aq <| xr 2 z (by cases H; exact q1)
 ·exact av <| az <| sR <| aa [.fa 117 0 0 qQ] z <| o1 z (r1 0 0 z sN z) <| aa [.lenS 22 5 fQ, .fa 117 1 1 pz] z <| o1 z (r1 1 0 z ty3 z) <| oPP z <| nT <| xr 2 z (by cases H; exact q1)
theorem wu (w : World) {k : List Nat} {p0 : bf} {o : List Value} {r : bf × Int × Bool} (H : pj p0 = U r) (HS : St w k [] w) (Q : (jp).rd w k p0 o) :
    Calls Tryz.prog 120 #[.agg o.toArray] w (fun en w' => ∃ v, en = .returned v ∧ ∃ (u : Option Addr), ∃ (x : Nat), ∃ (c0 : Nat), ∃ (R : List Nat), v = .tuple #[.agg #[S u x c0, I J r.1.c_], I J r.2.1, B r.2.2] ∧ St w k [W (ad e8 5) R r.1.r_ [S u x c0]] w') := by
 obtain ⟨X, Z, rfl, f, A⟩ := iV Q
 obtain ⟨C, D, rfl⟩ := ao f
 obtain rfl := A
 unfold pj at H
 refine aN Tryz.func120 z Tryz.ntmps120 z (HS) <| sR <| ob _ z fun E => aB z z z z bN (fun _ => kp) fun a1 => oPP z <| nR <| o1 z (rx 0 0 _ z bN z) <| bE H fun a F H => aj z wM z z z z (fun h g => fy h F (g.carve [] z z) (bt (ab f h g) z)) fun a2 h w2 g t => ?_
 obtain ⟨c, a3, d, l, rfl, m⟩ := t
 obtain rfl := aA (i := 0) m z
 refine ⟨St w k [_, _, _], g.comp [] z z m, fun _ _ => Y, ?_⟩
 refine aB z z z z bN (fun _ => kp) fun G => sC 0 [S c a.r_.length d, I J a.c_] [_, _] 3 z bN z <| nQ <| am <| sR <| o1 z (rx 0 0 _ z bN z) <| bE H fun a4 L H => oq z (qc z FL (fun h g => tt h L (bt (ab f h g) z))) tt2 <| oP z <| nQ <| cI H z (fun H => ?_) (fun H => ?_)
 ·exact sR <| o1 z (rx 0 3 _ z bN z) <| sC 0 [S c a.r_.length d, I J a.c_] [_, _] 1 z bN z <| oPP z <| nT <| aq <| aO (rs := [.cell 2 117, .tmp 3, .tmp 4]) (vs := [.agg #[S c a.r_.length d, I J a.c_], I J 0, B n]) z ⟨⟨_, [S c a.r_.length d, I J a.c_], _, _, _, z, bN, (bn (T := 117) 0 (bJ (i := 1) z) z), z, z⟩, z, z, Y⟩ (fun w' hw' => by
   obtain rfl := af H
   exact ⟨_, z, c, a.r_.length, d, l, z, hw'.sel [2] z z⟩)
 ·exact av <| az <| sR <| aa [.fa 117 1 1 pz] z <| o1 z (r1 1 0 z ty3 z) <| aa [.p, .fa 117 1 1 pz] z <| sC 1 [I J (J.wrap (p0.c_ + 2))] [_, _] 3 z ty3 z <| nQ <| am <| cw 19 [(0, y), (1, y), (2, y), (3, y), (4, y), (5, y), (6, y), (7, y), (8, y), (9, y), (10, y), (11, y), (12, y), (13, y), (14, y), (15, y), (16, y), (17, y), (18, n)] (St w k [b E 117 [S C p0.r_.length D, I J p0.c_], Res.nil, W (ad e8 5) l a.r_ [S c a.r_.length d], b G 117 [S c a.r_.length d, I J (J.wrap (p0.c_ + 2))]]) bU (by kernel_rfl) (aJ bb) (sm [y, n, y, y] z) <| bm z (aw z) (rx 0 3 _ z bN z) <| aa [.fa 117 0 0 qQ] z <| bm z (aw z) (r1 0 0 z sN z) <| aa [.fa 117 1 1 pz] z <| bm z (aw z) (r1 1 0 z ty3 z) <| bE H fun M q H => bF (e := e8) (xs := p0.r_) (j := p0.c_) z z z z z fQ ty5 z (ab f) q (by rw [Nat.mul_one]) <| bm z (aw z) (aM z z ty5 (bO (ab f) q)) <| aa [.cv 5 3 J us5 in3, .p, .fa 117 0 0 qQ] z <| bm z (aw z) (r1 0 0 z sN z) <| aa [.fa 117 1 1 pz] z <| bm z (aw z) (r1 1 0 z ty3 z) <| oP z <| bE H fun P s H => bF (e := e8) (xs := p0.r_) (j := J.wrap (p0.c_ + 1)) z z z z z fQ ty5 z (ab f) s (by rw [Nat.mul_one]) <| bm z (aw z) (aM z z ty5 (bO (ab f) s)) <| aa [.cv 5 3 J us5 in3, .p] z <| bp (off := 0) [S c a.r_.length d, I J (J.wrap (p0.c_ + 2))] [_, _] (i := 1) z z z z z z bN z z (al z) z z z (sm [y, n, y, y] z) <| aQ <| jf <| oPP z <| nT <| aO (rs := [.cell 2 117, .tmp 3, .tmp 4]) (vs := [.agg #[S c a.r_.length d, I J (J.wrap (p0.c_ + 2))], I J (J.wrap ((J.wrap ((J.wrap M) * 256)) + (J.wrap P))), B y]) z ⟨⟨_, [S c a.r_.length d, I J (J.wrap (p0.c_ + 2))], _, _, _, z, bN, (bn (T := 117) 0 (bJ (i := 1) z) z), z, z⟩, z, z, Y⟩ (fun w' hw' => by
   obtain rfl := af H
   exact ⟨_, z, c, a.r_.length, d, l, z, hw'.sel [2] z z⟩)
theorem mz (w : World) {k : List Nat} {p0 : bf} {p1 : Int} {u : List Value} {r : bf × Int × Bool} (H : lY p0 p1 = U r) (HS : St w k [] w) (g0 : (jp).rd w k p0 u) :
    Calls Tryz.prog 103 #[.agg u.toArray, I J p1] w (fun en w' => ∃ v, en = .returned v ∧ ∃ (E : Option Addr), ∃ (F : Nat), ∃ (c0 : Nat), ∃ (F0 : List Nat), v = .tuple #[.agg #[S E F c0, I J r.1.c_], I J r.2.1, B r.2.2] ∧ St w k [W (ad e8 5) F0 r.1.r_ [S E F c0]] w') := by
 obtain ⟨a8, a9, rfl, l, G⟩ := iV g0
 obtain ⟨L, M, rfl⟩ := ao l
 obtain rfl := G
 unfold lY at H
 refine aN Tryz.func103 z Tryz.ntmps103 z (HS) <| sR <| ob _ z fun m => aB z z z z bN (fun _ => kp) fun x => oPP z <| nR <| o1 z (rx 0 0 _ z bN z) <| bE H fun a P H => aj z EK z z z z (fun g c => wu g P (c.carve [] z z) (bt (ab l g c) z)) fun b0 g w2 c C => ?_
 obtain ⟨d, b1, e, A, rfl, o⟩ := C
 obtain rfl := aA (i := 0) o z
 refine ⟨St w k [_, _, _], c.comp [] z z o, fun _ _ => Y, ?_⟩
 refine aa [.p, .p, .p, .p] z <| aB z z z z bN (fun _ => kp) fun q => sC 0 [S d a.1.r_.length e, I J a.1.c_] [_, _] 3 z bN z <| oPP z <| nQ <| am <| sR <| aa [.p, .p, .p] z <| bE H fun Q s H => aV [(22, B Q), (1, I J p1), (2, O (U ⟨m, 0, N⟩)), (4, O (U ⟨x, 0, N⟩)), (7, O (U ⟨q, 0, N⟩)), (8, I J a.2.1)] 4 ?_ (fun key => OW.sub (R := [(1, I J p1), (2, O (U ⟨m, 0, N⟩)), (4, O (U ⟨x, 0, N⟩)), (7, O (U ⟨q, 0, N⟩)), (8, I J a.2.1), (18, B (!a.2.2))]) ?_ (sb z))
 ·refine nQ <| cI H z (fun H => ?_) (fun H => ?_)
  ·refine sR <| o1 z (rx 0 0 _ z bN z) <| bE H fun f X H => aj z wM z z z z (fun g c => fy g X (c.carve [] z z) (bt (ab l g c) z)) fun b2 g w2 c D => ?_
   obtain ⟨h, b3, j, Z, rfl, t⟩ := D
   obtain rfl := aA (i := 0) t z
   refine ⟨St w k [_, _, _, _, _], c.comp [] z z t, fun _ _ => Y, ?_⟩
   exact sC 0 [S h f.r_.length j, I J f.c_] [_, _] 1 z bN z <| oPP z <| nT <| aq <| aO (rs := [.cell 4 117, .tmp 5, .tmp 6]) (vs := [.agg #[S h f.r_.length j, I J f.c_], I J 0, B n]) z ⟨⟨_, [S h f.r_.length j, I J f.c_], _, _, _, z, bN, (bn (T := 117) 0 (bJ (i := 1) z) z), z, z⟩, z, z, Y⟩ (fun w' hw' => by
    obtain rfl := af H
    exact ⟨_, z, h, f.r_.length, j, Z, z, hw'.sel [4] z z⟩)
  ·exact av <| az <| am <| cw 5 [(0, y), (1, y), (2, y), (3, y), (4, n)] (St w k [b m 117 [S L p0.r_.length M, I J p0.c_], Res.nil, W (ad e8 5) A a.1.r_ [S d a.1.r_.length e], b q 117 [S d a.1.r_.length e, I J a.1.c_]]) bU (by kernel_rfl) (aJ bb) (sm [y, n, y, y] z) <| bm z (aw z) (rx 0 3 _ z bN z) <| oPP z <| bE H fun a1 a2 H => bm z (aw z) (uB z z z a2) <| bp (off := 0) [S d a.1.r_.length e, I J a.1.c_] [_, _] (i := 1) z z z z z z bN z z (al z) z z z (sm [y, n, y, y] z) <| aQ <| jf <| oPP z <| nT <| aO (rs := [.cell 4 117, .tmp 5, .tmp 6]) (vs := [.agg #[S d a.1.r_.length e, I J a.1.c_], I J a1, B y]) z ⟨⟨_, [S d a.1.r_.length e, I J a.1.c_], _, _, _, z, bN, (bn (T := 117) 0 (bJ (i := 1) z) z), z, z⟩, z, z, Y⟩ (fun w' hw' => by
    obtain rfl := af H
    exact ⟨_, z, d, a.1.r_.length, e, A, z, hw'.sel [2] z z⟩)
 ·clear H
  have H := s
  clear s
  generalize (!a.2.2) = a3 at H key ⊢
  cases a3
  ·have H := bh z H
   refine oP z <| bE H fun b4 a4 H => oq z (qc z gN (fun g c => be g a4)) tt2 <| oP z <| oP z <| ?_
   obtain rfl := af H
   exact OW.sub key (sb z)
  ·have H := bi z H
   refine aa [.p, .p, .p, .p] z ?_
   obtain rfl := af H
   exact OW.sub key (sb z)
theorem tp (w : World) {q : List Nat} {p0 : Int} {p1 : Int} {p2 : Int} {r : List Int} (H : jD p0 p1 p2 = U r) (HS : St w q [] w) :
    Calls Tryz.prog 105 #[I J p0, I J p1, I J p2] w (fun en w' => ∃ v, en = .returned v ∧ ∃ (u : Option Addr), ∃ (x : Nat), ∃ (c0 : Nat), ∃ (P : List Nat), v = S u x c0 ∧ St w q [W (ad eI 3) P r [S u x c0]] w') := by
 unfold jD at H
 refine aN Tryz.func105 z Tryz.ntmps105 z (HS) <| sR <| oP z <| nR <| bI (e := eI) z z z z aT ty3 (fun _ => kp) fun j => oP z <| nQ <| am <| sR <| aa [.p, .p, .p] z <| bE H fun Q A H => oq z (qc z zc (fun l k => kU l A)) tt2 <| oP z <| bE H fun R C H => oq z (qc z gN (fun l k => be l C)) tt2 <| oP z <| nQ <| cI H z (fun H => ?_) (fun H => ?_)
 ·exact sR <| oPP z <| nT <| aq <| aO (rs := [.tmp 6]) (vs := [S (U ⟨j, 0, N⟩) 0 0]) z ⟨z, Y⟩ (fun w' hw' => by
   obtain rfl := af H
   exact ⟨_, z, (U ⟨j, 0, N⟩), 0, 0, [j], z, hw'.sel [0] z z⟩)
 ·refine av <| az <| sR <| oP z <| nQ <| am <| ay <| CW.at (ry (fun (g : Int) (a : List Int) (d : Option Addr) (f : Nat) (h : List Nat) (c : Int) => St w q [W (ad eI 3) h a [S d a.length f]]) (fun g a d f h c => [(0, I J p0), (1, I J p1), (2, I J g), (7, S d a.length f), (8, I J c)]) (fun kk => fun g a d f h c => d.isNone = n ∧ eX p1 p0 kk g a c = U r) (fun _ _ _ _ _ _ H => ?_) (fun Z m g a d f h c ⟨s, H⟩ => ?_) aY (p2) (([] : List Int)) ((U ⟨j, 0, N⟩)) (0) ([j]) (0) (⟨z, H⟩)) (ss [0] z z) (sb z)
  ·unfold eX at H
   exact absurd H (by simp)
  ·unfold eX at H
   refine am <| sR <| aa [.p, .lenS 45 3 aT, .p, .p] z <| nQ <| cI H z (fun H => ?_) (fun H => ?_)
   ·refine av <| az <| ay <| sR <| aa [.p, .p, .p, .p, .p, .p, .lenS 45 3 aT, .p, .p] z <| bE H fun D E H => oq z (qc z zc (fun l k => kU l E)) tt2 <| oP z <| nQ <| am <| sR <| aa [.p, .p, .p] z <| nQ <| cI H z (fun H => ?_) (fun H => ?_)
    ·exact aP <| oPP z <| bq (val := I J) (h1 := fun _ => z) [c] [(0, [I J c])] z z z z z aT ty3 z z z ⟨z, z, nl z, Y⟩ z z (fun _ => kp) fun X => bE H fun F o H => bC (r := 0) (ys := ([c] : List Int)) z z z z z z aT ty3 z z z (ap (e := ad eI 3) (r := 1) z) o (fun _ _ _ => kp) fun G L M => cc z (fun l k => fh (i := 0) k z (fe o)) fun t => oP z <| nQ <| aP <| aa [.p, .p, .p] z <| ax <| bW <| ct (RW.at (m (g) (F) (G) (L) (M) (J.wrap (c + 1)) (⟨t, H⟩)) (ss [0] z z) (sb z))
    ·exact aP <| aa [.p, .p, .p, .p] z <| nQ <| aP <| aa [.p, .p, .p] z <| ax <| bW <| ct (RW.at (m (J.wrap (g - D)) (a) (d) (f) (h) (J.wrap (c + 1)) (⟨s, H⟩)) (ss [0] z z) (sb z))
   ·exact bx <| aK <| aR <| aL <| az <| sR <| oPP z <| nT <| aO (rs := [.tmp 6]) (vs := [S d a.length f]) z ⟨z, Y⟩ (fun w' hw' => by
     obtain rfl := af H
     exact ⟨_, z, d, a.length, f, h, z, hw'.sel [0] z z⟩)
theorem rH (w : World) {k : List Nat} {p0 : bf} {p1 : Int} {p2 : Int} {b1 : List Value} {r : bf × (List Int) × Bool} (H : kn p0 p1 p2 = U r) (HS : St w k [] w) (g0 : (jp).rd w k p0 b1) :
    Calls Tryz.prog 89 #[.agg b1.toArray, I J p1, I J p2] w (fun en w' => ∃ v, en = .returned v ∧ ∃ (a0 : Option Addr), ∃ (n0 : Nat), ∃ (c0 : Nat), ∃ (F0 : List Nat), ∃ (a1 : Option Addr), ∃ (n1 : Nat), ∃ (c1 : Nat), ∃ (F1 : List Nat), v = .tuple #[.agg #[S a0 n0 c0, I J r.1.c_], S a1 n1 c1, B r.2.2] ∧ St w k [W (ad e8 5) F0 r.1.r_ [S a0 n0 c0], W (ad eI 3) F1 r.2.1 [S a1 n1 c1]] w') := by
 obtain ⟨e5, e6, rfl, q, d0⟩ := iV g0
 obtain ⟨L, M, rfl⟩ := ao q
 obtain rfl := d0
 unfold kn at H
 refine aN Tryz.func89 z Tryz.ntmps89 z (HS) <| sR <| ob _ z fun x => aB z z z z bN (fun _ => kp) fun A => oPP z <| nQ <| yX (fun (s : Int) (t : Bool) (m : Nat) (f : List Int) (g : Option Addr) (h : Nat) (o : List Nat) (j : Int) => St w k [b x 117 [S L p0.r_.length M, I J p0.c_], b A 117 [S N 0 0, I J 0], b m 117 [S g f.length h, I J j], W (ad e8 5) o f [S g f.length h]]) (fun s t m f g h o j => [(1, I J p1), (2, I J p2), (3, O (U ⟨x, 0, N⟩)), (6, O (U ⟨A, 0, N⟩)), (9, O (U ⟨m, 0, N⟩)), (10, I J s), (11, B t)]) (fun s t m f g h o j => iU p0 p1 p2 s t f j = U r) (fun s t m f g h o j H => ?_) (fun J1 => ?_)
 ·unfold iU at H
  refine am <| sR <| oPP z <| nQ <| cI H z (fun H => ?_) (fun H => ?_)
  ·refine sR <| o1 z (rx 0 0 _ z bN z) <| bE H fun l d1 H => aj z wM z z z z (fun d a => fy d d1 (a.carve [] z z) (bt (ab q d a) z)) fun e7 d w2 a b6 => ?_
   obtain ⟨C, e9, D, d2, rfl, P⟩ := b6
   obtain rfl := aA (i := 0) P z
   refine ⟨St w k [_, _, _, _, _], a.comp [] z z P, fun _ _ => Y, ?_⟩
   exact bI (e := eI) z z z z aT ty3 (fun _ => kp) fun Q => sC 0 [S C l.r_.length D, I J l.c_] [_, _] 1 z bN z <| oPP z <| nT <| aq <| aO (rs := [.cell 6 117, .tmp 7, .tmp 8]) (vs := [.agg #[S C l.r_.length D, I J l.c_], S (U ⟨Q, 0, N⟩) 0 0, B n]) z ⟨⟨_, [S C l.r_.length D, I J l.c_], _, _, _, z, bN, (bn (T := 117) 0 (bJ (i := 1) z) z), z, z⟩, z, z, Y⟩ (fun w' hw' => by
    obtain rfl := af H
    exact ⟨_, z, C, l.r_.length, D, d2, (U ⟨Q, 0, N⟩), 0, 0, [Q], z, hw'.sel [4, 5] z z⟩)
  ·refine av <| az <| am <| cw 5 [(0, y), (1, y), (2, y), (3, y), (4, n)] (St w k [b x 117 [S L p0.r_.length M, I J p0.c_], b A 117 [S N 0 0, I J 0], b m 117 [S g f.length h, I J j], W (ad e8 5) o f [S g f.length h]]) bU (by kernel_rfl) (aJ bb) (tk 4 z) <| bm z (aw z) (rx 0 2 _ z bN z) <| aa [.p, .p, .p] z <| bE H fun b2 d3 H => aj z EV z z z z (fun d a => tp d d3 (a.carve [] z z)) fun f0 d w2 a b7 => ?_
   obtain ⟨b3, f1, b4, d4, rfl, R⟩ := b7
   obtain rfl := aA (i := 0) R z
   refine ⟨St w k [_, _, _, _, _], a.comp [] z z R, (tk 4 z), ?_⟩
   exact aQ <| jf <| sC 0 [S g f.length h, I J j] [_, _] 1 z bN z <| oPP z <| nT <| aO (rs := [.cell 6 117, .tmp 7, .tmp 8]) (vs := [.agg #[S g f.length h, I J j], S b3 b2.length b4, B y]) z ⟨⟨_, [S g f.length h, I J j], _, _, _, z, bN, (bn (T := 117) 0 (bJ (i := 1) z) z), z, z⟩, z, z, Y⟩ (fun w' hw' => by
    obtain rfl := af H
    exact ⟨_, z, g, f.length, h, o, b3, b2.length, b4, d4, z, hw'.sel [3, 4] z z⟩)
 ·refine bE H fun d8 X H => bE H fun c u H => qI 12 [(0, y), (1, y), (2, y)] (Br.alt 3 (Br.pre [] (Br.alt 4 (Br.pre [(5, y), (6, y), (7, y), (8, y), (9, n), (10, n), (11, y)] Br.done) (Br.pre [(9, n), (4, n), (5, y), (6, y), (7, y), (8, y), (10, n), (11, y)] Br.done))) (Br.pre [(9, n), (3, n), (4, n), (5, y), (6, y), (7, y), (8, y), (10, n), (11, y)] Br.done)) (St w k [b x 117 [S L p0.r_.length M, I J p0.c_], b A 117 [S N 0 0, I J 0]]) bU (by kernel_rfl) (aJ bb) (tk 2 z) <| bm z (aw z) (rx 0 0 _ z bN z) <| oPP z <| aQ <| eD (tk 2 z) z ?_ ?_
  ·refine oq z (qc z zc (fun d a => kU d X)) (tk 2 z) <| aQ <| eD (tk 2 z) z ?_ ?_
   ·refine aj z AJ z z z z (fun d a => mz d u (a.carve [] z z) (bt (ab q d a) z)) (fun d9 d w2 a a8 => ?_)
    obtain ⟨Z, e0, a2, b8, rfl, E⟩ := a8
    obtain rfl := aA (i := 0) E z
    refine ⟨St w k [_, _, _], a.comp [] z z E, (tk 2 z), ?_⟩
    exact aa [.p, .p, .p, .p] z <| aB z z z z bN (fun _ => (tk 2 z)) fun b9 => bp (off := 0) [S Z c.1.r_.length a2, I J c.1.c_] [_, _] (i := 3) z z z z z z bN z z (al z) z z z (tk 2 z) <| oP z <| aQ <| cH <| oP z <| ax <| XW.at (J1 (c.2.1) (c.2.2) (b9) (c.1.r_) (Z) (a2) (b8) (c.1.c_) (H)) (ss [0, 1, 3, 2] z z) (sb z)
   refine dG (tk 2 z) z <| aB z z z z bN (fun _ => (tk 2 z)) fun c2 => aj z AJ z z z z (fun d a => mz d u (a.carve [] z z) (bt (ab q d a) z)) fun e1 d w2 a a9 => ?_
   obtain ⟨a3, e2, a4, c3, rfl, F⟩ := a9
   obtain rfl := aA (i := 0) F z
   refine ⟨St w k [_, _, _, _], a.comp [] z z F, (tk 2 z), ?_⟩
   exact aa [.p, .p, .p, .p] z <| bp (off := 0) [S a3 c.1.r_.length a4, I J c.1.c_] [_, _] (i := 2) z z z z z z bN z z (al z) z z z (tk 2 z) <| oP z <| aQ <| cH <| oP z <| ax <| XW.at (J1 (c.2.1) (c.2.2) (c2) (c.1.r_) (a3) (a4) (c3) (c.1.c_) (H)) (ss [0, 1, 2, 3] z z) (sb z)
  refine dG (tk 2 z) z <| aB z z z z bN (fun _ => (tk 2 z)) fun c4 => oq z (qc z zc (fun d a => kU d X)) (tk 2 z) <| aj z AJ z z z z (fun d a => mz d u (a.carve [] z z) (bt (ab q d a) z)) fun e3 d w2 a b0 => ?_
  obtain ⟨a5, e4, a6, c5, rfl, G⟩ := b0
  obtain rfl := aA (i := 0) G z
  refine ⟨St w k [_, _, _, _], a.comp [] z z G, (tk 2 z), ?_⟩
  exact aa [.p, .p, .p, .p] z <| bp (off := 0) [S a5 c.1.r_.length a6, I J c.1.c_] [_, _] (i := 2) z z z z z z bN z z (al z) z z z (tk 2 z) <| oP z <| aQ <| cH <| oP z <| ax <| XW.at (J1 (c.2.1) (c.2.2) (c4) (c.1.r_) (a5) (a6) (c5) (c.1.c_) (H)) (ss [0, 1, 2, 3] z z) (sb z)
theorem rp (w : World) {p0 : List Int} {a_0 : Option Addr} {n_0 c_0 : Nat} {r : Int} (H : mO p0 = U r) (d : (ad eI 3).rd w [] p0 [S a_0 n_0 c_0]) :
    Calls Tryz.prog 123 #[S a_0 n_0 c_0] w (fun en w' => en = .returned (I J r) ∧ Ext [] w w') := by
 obtain rfl := fp d
 unfold mO at H
 refine aN Tryz.func123 z Tryz.ntmps123 z (St.init w []) <| sR <| oP z <| nR <| oP z <| nQ <| am <| sR <| oP z <| nQ <| ay <| CW.at (jH (fun (a : Int) (c : Int) => St w [] []) (fun a c => [(0, S a_0 p0.length c_0), (3, I J a), (4, I J c)]) (fun kk => fun a c => gP p0 kk a c = U r) (fun _ _ H => ?_) (fun q f a c H => ?_) aY ((-1)) (0) (H)) (ss [] z z) (sb z)
 ·unfold gP at H
  exact absurd H (by simp)
 ·unfold gP at H
  refine am <| sR <| aa [.p, .p, .lenS 45 3 aT, .p] z <| nQ <| cI H z (fun H => ?_) (fun H => ?_)
  ·refine av <| az <| am <| ay <| am <| dR bU (by kernel_rfl) <| aa [.p, .p, .p] z <| bE H fun k g H => aV [(23, B k), (0, S a_0 p0.length c_0), (3, I J a), (4, I J c)] 10 ?_ (fun key => OW.sub (R := [(0, S a_0 p0.length c_0), (3, I J a), (4, I J c), (13, B (decide (a < 0)))]) ?_ (sb z))
   ·refine co <| az <| cI H z (fun H => ?_) (fun H => ?_)
    ·exact aP <| oPP z <| ax <| bW <| az <| aP <| aa [.p, .p, .p] z <| ax <| ct (RW.at (f (c) (J.wrap (c + 1)) (H)) (ss [] z z) (sb z))
    ·exact av <| bW <| az <| aP <| aa [.p, .p, .p] z <| ax <| ct (RW.at (f (a) (J.wrap (c + 1)) (H)) (ss [] z z) (sb z))
   ·clear H
    have H := g
    clear g
    generalize (decide (a < 0)) = l at H key ⊢
    cases l
    ·have H := bh z H
     refine oPP z <| bE H fun m h H => bF (e := eI) (xs := p0) (j := c) z z z z z aT ty3 z (ab d) h (by rw [Nat.mul_one]) <| o1 z (aM z z ty3 (bO (ab d) h)) <| oPP z <| bE H fun o i H => bF (e := eI) (xs := p0) (j := a) z z z z z aT ty3 z (ab d) i (by rw [Nat.mul_one]) <| o1 z (aM z z ty3 (bO (ab d) i)) <| oP z <| oP z <| ?_
     obtain rfl := af H
     exact OW.sub key (sb z)
    ·have H := bi z H
     refine aa [.p, .p, .p, .p, .p, .p, .p, .p, .p, .p] z ?_
     obtain rfl := af H
     exact OW.sub key (sb z)
  ·exact bx <| aK <| aR <| aL <| az <| sR <| oPP z <| nT <| xr 2 z (by cases H; exact q1)
theorem jM (w : World) {p0 : ae} {p1 : ar} {p2 : au} {t : List Value} {u : List Value} {r : Int} (H : lx p0 p1 p2 = U r) (g0 : (bk).rd w [] p0 t) (g1 : (cb).rd w [] p1 u) :
    Calls Tryz.prog 106 #[.agg t.toArray, .agg u.toArray, .agg #[I J p2.j_, I J p2.c_]] w (fun en w' => en = .returned (I J r) ∧ Ext [] w w') := by
 obtain ⟨b4, b5, rfl, k, l⟩ := aX g0
 obtain ⟨Z, a0, rfl⟩ := ao k
 obtain ⟨a1, a2, rfl⟩ := ao l
 obtain ⟨b6, b7, rfl, v, x⟩ := aS g1
 obtain ⟨a3, a4, rfl⟩ := ao v
 obtain ⟨a5, a6, rfl⟩ := ao x
 unfold lx at H
 refine aN Tryz.func106 z Tryz.ntmps106 z (St.init w []) <| sR <| ob _ z fun A => ob _ z fun C => ob _ z fun D => oP z <| nR <| bI (e := eI) z z z z aT ty3 (fun _ => kp) fun E => oP z <| nQ <| am <| sR <| oP z <| nQ <| ay <| CW.at (iw (fun (d : List Int) (f : Option Addr) (h : Nat) (j : List Nat) (g : Int) => St w [] [b A 73 [S Z p0.f_.length a0, S a1 p0.n_.length a2], b C 58 [S a3 p1.d_.length a4, S a5 p1.b_.length a6], b D 56 [I J p2.j_, I J p2.c_], W (ad eI 3) j d [S f d.length h]]) (fun d f h j g => [(3, O (U ⟨A, 0, N⟩)), (4, O (U ⟨C, 0, N⟩)), (5, O (U ⟨D, 0, N⟩)), (7, S f d.length h), (8, I J g)]) (fun kk => fun d f h j g => f.isNone = n ∧ ef p0 p2 p1 kk d g = U r) (fun _ _ _ _ _ H => ?_) (fun k1 F d f h j g ⟨b1, H⟩ => ?_) aY (([] : List Int)) ((U ⟨E, 0, N⟩)) (0) ([E]) (0) (⟨z, H⟩)) (ss [0, 1, 2, 3] z z) (sb z)
 ·unfold ef at H
  exact absurd H (by simp)
 ·unfold ef at H
  refine am <| sR <| oP z <| o1 z (rx 0 0 _ z cV z) <| o1 z (rx 0 2 _ z cL z) <| bE H fun b8 a7 H => oq z (qc z yT (fun c a => gG c (p1 := p2) a7 (ah (ab k c a) (ab l c a)))) tt2 <| oP z <| nQ <| cI H z (fun H => ?_) (fun H => ?_)
  ·refine av <| az <| am <| ay <| sR <| o1 z (rx 0 0 _ z cV z) <| o1 z (rx 0 1 _ z cK z) <| o1 z (rx 0 2 _ z cL z) <| oP z <| bE H fun b9 a8 H => aj z DJ z z z z (fun c a => nj c (p2 := p2) a8 (a.carve [] z z) (ah (ab k c a) (ab l c a)) (aH (ab v c a) (ab x c a))) fun c0 c w2 a G => ?_
   obtain ⟨c1, c2, c3, c4, rfl, m⟩ := G
   obtain rfl := aA (i := 0) m z
   refine ⟨St w [] [_, _, _, _, _], a.comp [] z z m, fun _ _ => Y, ?_⟩
   refine oP z <| nQ <| am <| sR <| aa [.p, .lenS 45 3 aT, .p] z <| nQ <| cI H z (fun H => ?_) (fun H => ?_)
   ·exact sR <| oP z <| nT <| aq <| ba <| aq <| cd <| ba <| aq <| xr 6 z (by cases H; exact q1)
   ·exact av <| az <| aP <| oPP z <| bE H fun o L H => oq z (qc z zx (fun c a => mi c L (ap (e := ad eI 3) (r := 4) z c a))) tt2 <| bq (val := I J) (h1 := fun _ => z) [o] [(0, [I J o])] z z z z z aT ty3 z z z ⟨z, z, nl z, Y⟩ z z (fun _ => kp) fun b2 => bE H fun M q H => bC (r := 3) (ys := ([o] : List Int)) z z z z z z aT ty3 z z z (ap (e := ad eI 3) (r := 5) z) q (fun _ _ _ => kp) fun P Q R => cc z (fun c a => fh (i := 3) a z (fe q)) fun s => oP z <| ax <| bW <| az <| aP <| aa [.p, .p, .p] z <| ax <| ct (RW.at (F (M) (P) (Q) (R) (J.wrap (g + 1)) (⟨s, H⟩)) (ss [0, 1, 2, 3] z z) (sb z))
  ·exact bx <| aK <| aR <| aL <| az <| sR <| oP z <| bE H fun b3 X H => oq z (qc z DP (fun c a => rp c X (ap (e := ad eI 3) (r := 3) z c a))) tt2 <| oP z <| nT <| xr 6 z (by cases H; exact q1)
theorem eS (w : World) {j : List Nat} {p0 : ar} {f : List Value} {r : ar} (H : mR p0 = U r) (HS : St w j [] w) (t : (cb).rd w j p0 f) :
    Calls Tryz.prog 76 #[.agg f.toArray] w (fun en w' => ∃ v, en = .returned v ∧ ∃ (k : Option Addr), ∃ (l : Nat), ∃ (c0 : Nat), ∃ (u : List Nat), ∃ (m : Option Addr), ∃ (o : Nat), ∃ (c1 : Nat), ∃ (x : List Nat), v = .agg #[S k l c0, S m o c1] ∧ St w j [W (ad eI 3) u r.d_ [S k l c0], W (ad (ad eI 3) 45) x r.b_ [S m o c1]] w') := by
 obtain ⟨A, C, rfl, g, p⟩ := aS t
 obtain ⟨D, E, rfl⟩ := ao g
 obtain ⟨F, G, rfl⟩ := ao p
 unfold mR at H
 exact aN Tryz.func76 z Tryz.ntmps76 z (HS) <| sR <| ob _ z fun L => aB z z z z cK (fun _ => kp) fun M => nR <| bI (e := eI) z z z z aT ty3 (fun _ => kp) fun P => aa [.fa 58 0 0 jc] z <| o1 z (r1 0 0 z bG z) <| bE H fun a q H => bC (r := 2) (ys := p0.d_) z z z z z z aT ty3 z z z (ab g) q (fun _ _ _ => kp) fun c d s => o1 z (bu [(0, [S c a.length d])] [S c a.length d, S N 0 0] z z cK CV z ⟨z, z, nl z, Y⟩ z) <| sC 0 [S c a.length d, S N 0 0] [_, _] 1 z cK z <| nT <| eG (fun _ h => St.pushNil (e := ad eI 3) (T := 45) h) <| aO (rs := [.cell 2 58]) (vs := [.agg #[S c a.length d, S N 0 0]]) z ⟨⟨_, [S c a.length d, S N 0 0], _, _, _, z, cK, (bn (T := 58) 0 (bJ (i := 1) z) z), z, z⟩, Y⟩ (fun w' hw' => by
  obtain rfl := af H
  exact ⟨_, z, c, a.length, d, s, N, 0, 0, [], z, hw'.sel [2, 3] z z⟩)
theorem tS (w : World) {D : List Nat} {p0 : ae} {p1 : ai} {p2 : Int} {p3 : au} {p4 : List (List Int)} {L1 : List Value} {L2 : List Value} {a_4 : Option Addr} {n_4 c_4 : Nat} {r : ai × Bool} (H : mC p0 p1 p2 p3 p4 = U r) (HS : St w D [] w) (g0 : (bk).rd w D p0 L1) (g1 : (cW).rd w D p1 L2) (g4 : (ad (ad eI 3) 45).rd w D p4 [S a_4 n_4 c_4]) :
    Calls Tryz.prog 90 #[.agg L1.toArray, .agg L2.toArray, I J p2, .agg #[I J p3.j_, I J p3.c_], S a_4 n_4 c_4] w (fun en w' => ∃ v, en = .returned v ∧ ∃ (a0 : Option Addr), ∃ (n0 : Nat), ∃ (c0 : Nat), ∃ (F0 : List Nat), v = .tuple #[.agg #[S a0 n0 c0, I J r.1.g_], B r.2] ∧ St w D [W (ad (aC) 60) F0 r.1.a_ [S a0 n0 c0]] w') := by
 obtain ⟨HJ, HK, rfl, d3, d4⟩ := aX g0
 obtain ⟨q0, q2, rfl⟩ := ao d3
 obtain ⟨q3, q4, rfl⟩ := ao d4
 obtain ⟨HL, HM, rfl, d5, P8⟩ := cr g1
 obtain ⟨q5, q6, rfl⟩ := ao d5
 obtain rfl := P8
 obtain rfl := fp g4
 unfold mC at H
 refine aN Tryz.func90 z Tryz.ntmps90 z (HS) <| sR <| ob _ z fun a1 => ob _ z fun a2 => ob _ z fun b0 => aB z z z z br (fun _ => kp) fun a3 => oP z <| nR <| o1 z (rx 0 1 _ z br z) <| bE H fun o P9 H => aj z zS z z z z (fun m c => jm m P9 (c.carve [] z z) (aW (ab d5 m c) z)) fun HN m w2 c L5 => ?_
 obtain ⟨a4, HO, a5, n5, rfl, t5⟩ := L5
 obtain rfl := aA (i := 0) t5 z
 refine ⟨St w D [_, _, _, _, _], c.comp [] z z t5, fun _ _ => Y, ?_⟩
 refine aB z z z z br (fun _ => kp) fun a6 => sC 0 [S a4 o.a_.length a5, I J o.g_] [_, _] 5 z br z <| nQ <| am <| sR <| o1 z (rx 0 0 _ z cV z) <| o1 z (rx 0 1 _ z br z) <| bE H fun L3 Q0 H => oq z (qc z AA (fun m c => kE m Q0 (ah (ab d3 m c) (ab d4 m c)) (aW (ab d5 m c) z))) tt2 <| oPP z <| bE H fun t6 t7 H => aV [(30, B t6), (2, I J p2), (4, S a_4 p4.length c_4), (5, O (U ⟨a1, 0, N⟩)), (6, O (U ⟨a2, 0, N⟩)), (8, O (U ⟨b0, 0, N⟩)), (10, O (U ⟨a3, 0, N⟩)), (12, O (U ⟨a6, 0, N⟩))] 8 ?_ (fun key => OW.sub (R := [(2, I J p2), (4, S a_4 p4.length c_4), (5, O (U ⟨a1, 0, N⟩)), (6, O (U ⟨a2, 0, N⟩)), (8, O (U ⟨b0, 0, N⟩)), (10, O (U ⟨a3, 0, N⟩)), (12, O (U ⟨a6, 0, N⟩)), (22, B (!L3))]) ?_ (sb z))
 ·refine oP z <| bE H fun t8 t9 H => aV [(39, B t8), (2, I J p2), (4, S a_4 p4.length c_4), (5, O (U ⟨a1, 0, N⟩)), (6, O (U ⟨a2, 0, N⟩)), (8, O (U ⟨b0, 0, N⟩)), (10, O (U ⟨a3, 0, N⟩)), (12, O (U ⟨a6, 0, N⟩))] 8 ?_ (fun key => OW.sub (R := [(2, I J p2), (4, S a_4 p4.length c_4), (5, O (U ⟨a1, 0, N⟩)), (6, O (U ⟨a2, 0, N⟩)), (8, O (U ⟨b0, 0, N⟩)), (10, O (U ⟨a3, 0, N⟩)), (12, O (U ⟨a6, 0, N⟩)), (31, B t6)]) ?_ (sb z))
  ·refine oP z <| bE H fun u0 r2 H => aV [(50, B u0), (2, I J p2), (4, S a_4 p4.length c_4), (5, O (U ⟨a1, 0, N⟩)), (6, O (U ⟨a2, 0, N⟩)), (8, O (U ⟨b0, 0, N⟩)), (10, O (U ⟨a3, 0, N⟩)), (12, O (U ⟨a6, 0, N⟩))] 10 ?_ (fun key => OW.sub (R := [(2, I J p2), (4, S a_4 p4.length c_4), (5, O (U ⟨a1, 0, N⟩)), (6, O (U ⟨a2, 0, N⟩)), (8, O (U ⟨b0, 0, N⟩)), (10, O (U ⟨a3, 0, N⟩)), (12, O (U ⟨a6, 0, N⟩)), (40, B t8)]) ?_ (sb z))
   ·refine oP z <| bE H fun q9 r3 H => aV [(56, B q9), (2, I J p2), (4, S a_4 p4.length c_4), (5, O (U ⟨a1, 0, N⟩)), (6, O (U ⟨a2, 0, N⟩)), (8, O (U ⟨b0, 0, N⟩)), (10, O (U ⟨a3, 0, N⟩)), (12, O (U ⟨a6, 0, N⟩))] 5 ?_ (fun key => OW.sub (R := [(2, I J p2), (4, S a_4 p4.length c_4), (5, O (U ⟨a1, 0, N⟩)), (6, O (U ⟨a2, 0, N⟩)), (8, O (U ⟨b0, 0, N⟩)), (10, O (U ⟨a3, 0, N⟩)), (12, O (U ⟨a6, 0, N⟩)), (51, B u0)]) ?_ (sb z))
    ·refine oP z <| bE H fun L6 r4 H => aV [(64, B L6), (2, I J p2), (4, S a_4 p4.length c_4), (5, O (U ⟨a1, 0, N⟩)), (6, O (U ⟨a2, 0, N⟩)), (8, O (U ⟨b0, 0, N⟩)), (10, O (U ⟨a3, 0, N⟩)), (12, O (U ⟨a6, 0, N⟩))] 7 ?_ (fun key => OW.sub (R := [(2, I J p2), (4, S a_4 p4.length c_4), (5, O (U ⟨a1, 0, N⟩)), (6, O (U ⟨a2, 0, N⟩)), (8, O (U ⟨b0, 0, N⟩)), (10, O (U ⟨a3, 0, N⟩)), (12, O (U ⟨a6, 0, N⟩)), (57, B q9)]) ?_ (sb z))
     ·refine nQ <| cI H z (fun H => ?_) (fun H => ?_)
      ·exact sR <| o1 z (rx 0 5 _ z br z) <| sC 0 [S a4 o.a_.length a5, I J o.g_] [_, _] 3 z br z <| oP z <| nT <| aq <| aO (rs := [.cell 10 26, .tmp 11]) (vs := [.agg #[S a4 o.a_.length a5, I J o.g_], B n]) z ⟨⟨_, [S a4 o.a_.length a5, I J o.g_], _, _, _, z, br, (bn (T := 26) 0 (bJ (i := 3) z) z), z, z⟩, z, Y⟩ (fun w' hw' => by
        obtain rfl := af H
        exact ⟨_, z, a4, o.a_.length, a5, n5, z, hw'.sel [4] z z⟩)
      ·refine av <| az <| am <| sR <| oP z <| nQ <| ay <| CW.at (gF (fun (e9 : Int) => St w D [b a3 26 [S N 0 0, I J 0], b a6 26 [S a4 o.a_.length a5, I J o.g_], W (ad (aC) 60) n5 o.a_ [S a4 o.a_.length a5], b a1 73 [S q0 p0.f_.length q2, S q3 p0.n_.length q4], b a2 26 [S q5 p1.a_.length q6, I J p1.g_], b b0 56 [I J p3.j_, I J p3.c_]]) (fun e9 => [(2, I J p2), (4, S a_4 p4.length c_4), (5, O (U ⟨a1, 0, N⟩)), (6, O (U ⟨a2, 0, N⟩)), (8, O (U ⟨b0, 0, N⟩)), (10, O (U ⟨a3, 0, N⟩)), (12, O (U ⟨a6, 0, N⟩)), (13, I J e9)]) (fun kk => fun e9 => eH p4 p0 o p1 p2 p3 kk e9 = U r) (fun _ H => ?_) (fun k1 L7 e9 H => ?_) aY (0) (H)) (ss [3, 5, 4, 0, 1, 2] z z) (sb z)
       ·unfold eH at H
        exact absurd H (by simp)
       ·unfold eH at H
        refine am <| sR <| aa [.p, .p, .lenS 28 45 cC, .p] z <| nQ <| cI H z (fun H => ?_) (fun H => ?_)
        ·refine av <| az <| am <| ay <| am <| dR bU (by kernel_rfl) <| o1 z (rx 0 3 _ z cV z) <| oPP z <| bE H fun Fb L8 H => cf z z z z z cC bG z g4 L8 fun Fi Fy r5 x3 => ?_
         obtain ⟨Go, GW, rfl⟩ := ao r5
         refine o1 z (aM z z bG (ce bor x3)) <| bE H fun GX L9 H => oq z (qc z zY (fun m c => jg m L9 (ah (ab d3 m c) (ab d4 m c)) (ab r5 m c))) tt2 <| oP z <| co <| az <| cI H z (fun H => ?_) (fun H => ?_)
         ·exact sR <| o1 z (rx 0 1 _ z br z) <| sC 0 [S a4 o.a_.length a5, I J o.g_] [_, _] 0 z br z <| oP z <| nT <| ba <| aq <| cd <| ba <| aq <| aO (rs := [.cell 10 26, .tmp 11]) (vs := [.agg #[S a4 o.a_.length a5, I J o.g_], B n]) z ⟨⟨_, [S a4 o.a_.length a5, I J o.g_], _, _, _, z, br, (bn (T := 26) 0 (bJ (i := 0) z) z), z, z⟩, z, Y⟩ (fun w' hw' => by
           obtain rfl := af H
           exact ⟨_, z, a4, o.a_.length, a5, n5, z, hw'.sel [2] z z⟩)
         ·exact av <| bW <| az <| aP <| aa [.p, .p, .p] z <| ax <| ct (RW.at (L7 (J.wrap (e9 + 1)) (H)) (ss [0, 1, 2, 3, 4, 5] z z) (sb z))
        ·refine bx <| aK <| aR <| aL <| az <| am <| sR <| aa [.fa 26 0 0 bR] z <| o1 z (r1 0 4 z ec z) <| oP z <| bE H fun r0 M1 H => cf z z z z z dW bZ z d5 M1 fun GY GZ x5 x6 => ?_
         obtain ⟨Ha, Hb, Hc, Hd, He, Hf, Hg, Hh, Hi, Hj, rfl, M2, M3, M4, M5, M6, M7, M8, M9, N0, N1⟩ := bo x5
         obtain rfl := M2
         obtain rfl := M3
         obtain ⟨Hk, Hl, rfl⟩ := ao M4
         obtain rfl := M5
         obtain ⟨Hm, Hn, rfl, N2, N3⟩ := aS M6
         obtain ⟨Ho, Hp, rfl⟩ := ao N2
         obtain ⟨Hq, Hr, rfl⟩ := ao N3
         obtain rfl := M7
         obtain ⟨Hs, Ht, rfl⟩ := ao M8
         obtain rfl := M9
         obtain rfl := N0
         obtain rfl := N1
         refine aa [.fa 60 7 9 ky] z <| o1 z (aM z z ty3 (ce bor (ni x6 9 1))) <| oPP z <| aV [(95, B ((r0.l_ == 6) || (decide ((J.wrap ((p1.a_.length : Int) + (p4.length : Int))) > 31)))), (2, I J p2), (4, S a_4 p4.length c_4), (5, O (U ⟨a1, 0, N⟩)), (6, O (U ⟨a2, 0, N⟩)), (8, O (U ⟨b0, 0, N⟩)), (10, O (U ⟨a3, 0, N⟩)), (12, O (U ⟨a6, 0, N⟩))] 8 ?_ (fun key => OW.sub (R := [(2, I J p2), (4, S a_4 p4.length c_4), (5, O (U ⟨a1, 0, N⟩)), (6, O (U ⟨a2, 0, N⟩)), (8, O (U ⟨b0, 0, N⟩)), (10, O (U ⟨a3, 0, N⟩)), (12, O (U ⟨a6, 0, N⟩)), (87, B (r0.l_ == 6))]) ?_ (sb z))
         ·refine nQ <| cI H z (fun H => ?_) (fun H => ?_)
          ·exact sR <| o1 z (rx 0 1 _ z br z) <| sC 0 [S a4 o.a_.length a5, I J o.g_] [_, _] 0 z br z <| oP z <| nT <| aq <| aO (rs := [.cell 10 26, .tmp 11]) (vs := [.agg #[S a4 o.a_.length a5, I J o.g_], B n]) z ⟨⟨_, [S a4 o.a_.length a5, I J o.g_], _, _, _, z, br, (bn (T := 26) 0 (bJ (i := 0) z) z), z, z⟩, z, Y⟩ (fun w' hw' => by
            obtain rfl := af H
            exact ⟨_, z, a4, o.a_.length, a5, n5, z, hw'.sel [2] z z⟩)
          ·refine av <| az <| Ax (fun (d6 : Nat) (c3 : Int) (Q : List Int) (c4 : Option Addr) (c5 : Nat) (f0 : List Nat) (X : List (List Int)) (c6 : Option Addr) (c7 : Nat) (f1 : List Nat) (Z : List Int) (c8 : Option Addr) (c9 : Nat) (f2 : List Nat) (x : Int) (d0 : Int) (d1 : Int) => St w D [b a3 26 [S N 0 0, I J 0], b a6 26 [S a4 o.a_.length a5, I J o.g_], W (ad (aC) 60) n5 o.a_ [S a4 o.a_.length a5], b d6 60 [B n, I J p3.j_, I J p3.c_, S N 0 0, I J c3, S c4 Q.length c5, S c6 X.length c7, I J 0, S c8 Z.length c9, I J x, I J d0, I J d1], W (ad eI 3) f0 Q [S c4 Q.length c5], W (ad (ad eI 3) 45) f1 X [S c6 X.length c7], W (ad eI 3) f2 Z [S c8 Z.length c9], b a1 73 [S q0 p0.f_.length q2, S q3 p0.n_.length q4], b a2 26 [S q5 p1.a_.length q6, I J p1.g_]]) (fun d6 c3 Q c4 c5 f0 X c6 c7 f1 Z c8 c9 f2 x d0 d1 => [(2, I J p2), (4, S a_4 p4.length c_4), (5, O (U ⟨a1, 0, N⟩)), (6, O (U ⟨a2, 0, N⟩)), (10, O (U ⟨a3, 0, N⟩)), (12, O (U ⟨a6, 0, N⟩)), (14, O (U ⟨d6, 0, N⟩))]) (fun d6 c3 Q c4 c5 f0 X c6 c7 f1 Z c8 c9 f2 x d0 d1 => lB p4 p0 p2 p1 p3 o c3 Q X Z x d0 d1 = U r) (fun d6 c3 Q c4 c5 f0 X c6 c7 f1 Z c8 c9 f2 x d0 d1 H => ?_) (fun J1 => ?_)
           ·unfold lB at H
            refine am <| sR <| oP z <| nQ <| ay <| CW.weak ?_ (fun _ h => St.pushNil (e := eI) (T := 3) h)
            refine CW.at (Ex (fun (s : List aG) (a7 : Option Addr) (a8 : Nat) (e3 : List Nat) (b1 : List Int) (d7 : Option Addr) (d8 : Nat) (f3 : List Nat) (d2 : Int) => St w D [b a3 26 [S N 0 0, I J 0], b a6 26 [S a7 s.length a8, I J o.g_], W (ad (aC) 60) e3 s [S a7 s.length a8], b d6 60 [B n, I J p3.j_, I J p3.c_, S d7 b1.length d8, I J c3, S c4 Q.length c5, S c6 X.length c7, I J 0, S c8 Z.length c9, I J x, I J d0, I J d1], W (ad eI 3) f3 b1 [S d7 b1.length d8], W (ad eI 3) f0 Q [S c4 Q.length c5], W (ad (ad eI 3) 45) f1 X [S c6 X.length c7], W (ad eI 3) f2 Z [S c8 Z.length c9], b a1 73 [S q0 p0.f_.length q2, S q3 p0.n_.length q4], b a2 26 [S q5 p1.a_.length q6, I J p1.g_]]) (fun s a7 a8 e3 b1 d7 d8 f3 d2 => [(2, I J p2), (4, S a_4 p4.length c_4), (5, O (U ⟨a1, 0, N⟩)), (6, O (U ⟨a2, 0, N⟩)), (10, O (U ⟨a3, 0, N⟩)), (12, O (U ⟨a6, 0, N⟩)), (14, O (U ⟨d6, 0, N⟩)), (15, I J d2)]) (fun kk => fun s a7 a8 e3 b1 d7 d8 f3 d2 => eJ p4 p0 x p2 p1 p3 c3 Q X Z d0 d1 o kk s b1 d2 = U r) (fun _ _ _ _ _ _ _ _ _ H => ?_) (fun k2 u1 s a7 a8 e3 b1 d7 d8 f3 d2 H => ?_) aY (o.a_) (a4) (a5) (n5) (([] : List Int)) (N) (0) ([]) (0) (H)) (ss [0, 1, 2, 3, 9, 4, 5, 6, 7, 8] z z) (sb z)
            ·unfold eJ at H
             exact absurd H (by simp)
            ·unfold eJ at H
             refine am <| sR <| aa [.p, .p, .lenS 28 45 cC, .p] z <| nQ <| cI H z (fun H => ?_) (fun H => ?_)
             ·refine av <| az <| am <| ay <| sR <| aa [.fa 60 2 3 iX] z <| o1 z (r1 3 3 z bG z) <| aa [.fa 26 0 0 bR] z <| o1 z (r1 0 1 z ec z) <| aa [.lenS 24 60 dW] z <| bq (val := I J) (h1 := fun _ => z) [(s.length : Int)] [(0, [I J (s.length : Int)])] z z z z z aT ty3 z z z ⟨z, z, nl z, Y⟩ z z (fun _ => kp) fun r6 => bE H fun d9 r7 H => bC (r := 4) (ys := ([(s.length : Int)] : List Int)) z z z z z z aT ty3 z z z (ap (e := ad eI 3) (r := 10) z) r7 (fun _ _ _ => kp) fun e4 e5 p6 => cc z (fun m c => fh (i := 4) c z (fe r7)) fun Q1 => aa [.fa 60 2 3 iX] z <| sC 3 [S e4 d9.length e5] [_, _, _, _, _, _, _, _, _, _, _, _] 3 z bG z <| nQ <| bE H fun r8 x8 H => bE H fun t r9 H => bE H fun b2 s0 H => qI 18 [(0, y), (1, y), (2, y), (5, y), (6, y), (7, y), (8, y), (10, y), (11, y), (12, y), (13, y), (14, y), (15, y)] (Br.alt 3 (Br.pre [(4, n), (9, n), (16, y), (17, n)] Br.done) (Br.pre [(4, n), (3, n), (9, n), (16, y), (17, n)] Br.done)) (St w D [b a3 26 [S N 0 0, I J 0], b a6 26 [S a7 s.length a8, I J o.g_], W (ad (aC) 60) e3 s [S a7 s.length a8], b d6 60 [B n, I J p3.j_, I J p3.c_, S e4 d9.length e5, I J c3, S c4 Q.length c5, S c6 X.length c7, I J 0, S c8 Z.length c9, I J x, I J d0, I J d1], W (ad eI 3) p6 d9 [S e4 d9.length e5], W (ad eI 3) f0 Q [S c4 Q.length c5], W (ad (ad eI 3) 45) f1 X [S c6 X.length c7], W (ad eI 3) f2 Z [S c8 Z.length c9], b a1 73 [S q0 p0.f_.length q2, S q3 p0.n_.length q4], b a2 26 [S q5 p1.a_.length q6, I J p1.g_], W (ad eI 3) [r6] ([(s.length : Int)] : List Int) [S (U ⟨r6, 0, N⟩) (([(s.length : Int)] : List Int).length) 1]]) bU (by kernel_rfl) (bj (aJ (db (bj (aJ bb))))) (tk 11 z) <| aa [.fa 26 0 0 bR] z <| bm z (aw z) (r1 0 1 z ec z) <| bm z (aw z) (rx 0 8 _ z cV z) <| oPP z <| cf z z z z z cC bG z g4 x8 fun R9 S0 n6 u2 => ?_
              obtain ⟨S1, S2, rfl⟩ := ao n6
              refine bm z (aw z) (aM z z bG (ce (fun _ h => h.ext) u2)) <| aa [.fa 60 7 9 ky] z <| bm z (aw z) (r1 9 3 z ty3 z) <| aa [.p, .p, .fa 26 1 1 lH] z <| bm z (aw z) (r1 1 9 z ty3 z) <| aQ <| eD (tk 11 z) z ?_ ?_
              ·refine aj z Cu z z z z (fun m c => kV m r9 (c.carve [] z z) (ah (ab d3 m c) (ab d4 m c))) (fun S3 m w2 c u3 => ?_)
               obtain ⟨f4, S4, f5, S5, f6, S6, f7, S7, rfl, n7⟩ := u3
               obtain rfl := aA (i := 0) n7 z
               obtain rfl := aA (i := 1) n7 z
               refine ⟨St w D [_, _, _, _, _, _, _, _, _, _, _, _, _], c.comp [] z z n7, (tk 11 z), ?_⟩
               refine bI (e := eI) z z z z aT ty3 (fun _ => (tk 11 z)) fun S8 => bC (r := 13) (ys := r8) z z z z z z aT ty3 z z z (ab n6) s0 (fun _ _ _ => (tk 11 z)) fun f8 f9 S9 => bm z (aw z) (bu [(0, [B y]), (5, [S f4 t.d_.length f5, S f6 t.b_.length f7]), (8, [S f8 b2.length f9]), (9, [I J (J.wrap (x + 1))]), (10, [I J p2]), (11, [I J p1.g_])] [B y, I J 0, I J 0, S N 0 0, I J 0, S f4 t.d_.length f5, S f6 t.b_.length f7, I J 0, S f8 b2.length f9, I J (J.wrap (x + 1)), I J p2, I J p1.g_] z z bZ pN z ⟨z, z, nl z, z, z, nl z, z, z, nl z, z, z, nl z, z, z, nl z, z, z, nl z, Y⟩ z) <| dH z (fun _ h => St.pushNil (e := eI) (T := 3) h) <| sl z (fun m c => cm (x0 := y) (x1 := 0) (x2 := 0) (x4 := 0) (x7 := 0) (x9 := J.wrap (x + 1)) (x10 := p2) (x11 := p1.g_) [14, 11, 12, 13] c z z) fun T0 => dH (C' := St w D [_, _, _, _, _, _, _, _, _, _, _, _, _, _, _, _]) z (fun _ h => h) <| dV [(0, [B y, I J 0, I J 0, S N 0 0, I J 0, S f4 t.d_.length f5, S f6 t.b_.length f7, I J 0, S f8 b2.length f9, I J (J.wrap (x + 1)), I J p2, I J p1.g_])] z z z z z dW bZ z z ⟨z, z, nl z, Y⟩ [B y, I J 0, I J 0, S N 0 0, I J 0, S f4 t.d_.length f5, S f6 t.b_.length f7, I J 0, S f8 b2.length f9, I J (J.wrap (x + 1)), I J p2, I J p1.g_] z (fun _ => (tk 11 z)) fun T1 => dH z (fun _ h => pg (p := 16) (q := 15) h z z z) <| aQ <| cH <| bE H fun s1 y0 H => ix (r := 2) (j := 17) z z z z z z dW bZ z z z z z z z y0 (fun _ _ _ => kp) fun s2 s3 y1 => aa [.fa 26 0 0 bR] z <| sC 0 [S s2 s1.length s3] [_, _] 1 z ec z <| ax <| bW <| az <| CW.weak (C' := St w D [_, _, _, _, _, _, _, _, _, _, _]) ?_ (ss [0, 1, 3, 4, 5, 6, 7, 8, 9, 10, 18] z z)
               exact aP <| aa [.p, .p, .p] z <| ax <| ct (RW.at (u1 (s1) (s2) (s3) (y1) (d9) (e4) (e5) (p6) (J.wrap (d2 + 1)) (H)) (ss [0, 1, 10, 2, 3, 4, 5, 6, 7, 8] z z) (sb z))
              refine dG (tk 11 z) z <| bI (e := eI) z z z z aT ty3 (fun _ => (tk 11 z)) fun T2 => aj z Cu z z z z (fun m c => kV m r9 (c.carve [] z z) (ah (ab d3 m c) (ab d4 m c))) fun T3 m w2 c u4 => ?_
              obtain ⟨g2, T4, g3, T5, g5, T6, g6, T7, rfl, n8⟩ := u4
              obtain rfl := aA (i := 0) n8 z
              obtain rfl := aA (i := 1) n8 z
              refine ⟨St w D [_, _, _, _, _, _, _, _, _, _, _, _, _, _], c.comp [] z z n8, (tk 11 z), ?_⟩
              refine bC (r := 11) (ys := r8) z z z z z z aT ty3 z z z (ab n6) s0 (fun _ _ _ => (tk 11 z)) fun g7 g8 T8 => bm z (aw z) (bu [(0, [B y]), (5, [S g2 t.d_.length g3, S g5 t.b_.length g6]), (8, [S g7 b2.length g8]), (9, [I J (J.wrap (x + 1))]), (10, [I J p2]), (11, [I J p1.g_])] [B y, I J 0, I J 0, S N 0 0, I J 0, S g2 t.d_.length g3, S g5 t.b_.length g6, I J 0, S g7 b2.length g8, I J (J.wrap (x + 1)), I J p2, I J p1.g_] z z bZ pN z ⟨z, z, nl z, z, z, nl z, z, z, nl z, z, z, nl z, z, z, nl z, z, z, nl z, Y⟩ z) <| dH z (fun _ h => St.pushNil (e := eI) (T := 3) h) <| sl z (fun m c => cm (x0 := y) (x1 := 0) (x2 := 0) (x4 := 0) (x7 := 0) (x9 := J.wrap (x + 1)) (x10 := p2) (x11 := p1.g_) [14, 12, 13, 11] c z z) fun T9 => dH (C' := St w D [_, _, _, _, _, _, _, _, _, _, _, _, _, _, _, _]) z (fun _ h => h) <| dV [(0, [B y, I J 0, I J 0, S N 0 0, I J 0, S g2 t.d_.length g3, S g5 t.b_.length g6, I J 0, S g7 b2.length g8, I J (J.wrap (x + 1)), I J p2, I J p1.g_])] z z z z z dW bZ z z ⟨z, z, nl z, Y⟩ [B y, I J 0, I J 0, S N 0 0, I J 0, S g2 t.d_.length g3, S g5 t.b_.length g6, I J 0, S g7 b2.length g8, I J (J.wrap (x + 1)), I J p2, I J p1.g_] z (fun _ => (tk 11 z)) fun U0 => dH z (fun _ h => pg (p := 16) (q := 15) h z z z) <| aQ <| cH <| bE H fun s4 y2 H => ix (r := 2) (j := 17) z z z z z z dW bZ z z z z z z z y2 (fun _ _ _ => kp) fun s5 s6 y3 => aa [.fa 26 0 0 bR] z <| sC 0 [S s5 s4.length s6] [_, _] 1 z ec z <| ax <| bW <| az <| CW.weak (C' := St w D [_, _, _, _, _, _, _, _, _, _, _]) ?_ (ss [0, 1, 3, 4, 5, 6, 7, 8, 9, 10, 18] z z)
              exact aP <| aa [.p, .p, .p] z <| ax <| ct (RW.at (u1 (s4) (s5) (s6) (y3) (d9) (e4) (e5) (p6) (J.wrap (d2 + 1)) (H)) (ss [0, 1, 10, 2, 3, 4, 5, 6, 7, 8] z z) (sb z))
             ·refine bx <| aK <| aR <| aL <| az <| sR <| aa [.fa 26 0 0 bR] z <| o1 z (r1 0 1 z ec z) <| oP z <| o1 z (rx 0 3 _ z bZ z) <| bE H fun U1 s7 H => oZ z (fun m c => foc (r := 2) c z s7) fun U2 U3 U4 U5 => cc z (fun m c => c.1) fun y4 => ?_
              obtain ⟨q7, q8⟩ := y4
              refine dH (C' := St w D [_, _, _, _, _, _, _, _, _, _, _, _]) z (fun m c => c.2) <| dQ z (fun m c => dI (i := 11) c z) fun U6 U7 U8 => dQ z (fun _ h => h) fun U9 V0 V1 => dQ z (fun _ h => h) fun V2 V3 V4 => dQ z (fun _ h => h) fun V5 V6 V7 => cc z (fun m c => c.1) fun y5 => ?_
              subst y5
              refine dH (C' := St w D [_, _, _, _, _, _, _, _, _, _, _, _, _, _, _, _]) z (fun m c => c.2) <| eZ z z z z z dW bZ z (ez (p := 10) z) q8 q7 (cg s7).1 <| eA (off := 0) [B n, I J p3.j_, I J p3.c_, S d7 b1.length d8, I J c3, S c4 Q.length c5, S c6 X.length c7, I J 0, S c8 Z.length c9, I J x, I J d0, I J d1] (p := 10) (c' := [_, _, _, _, _, _, _, _, _, _, _, _]) z z z z z (by first | rfl | simp only [cE, cS, cz]) z bZ z z (al z) z z z kp <| nQ <| am <| CW.weak (C' := St w D [_, _, _, _, _, _, _, _, _, _, _, _, _, _]) ?_ (ss [0, 1, 3, 4, 5, 6, 7, 8, 9, 10, 12, 13, 14, 15] z z)
              exact aP <| o1 z (rx 0 1 _ z br z) <| sC 0 [S a7 s.length a8, I J o.g_] [_, _] 0 z br z <| oP z <| nT <| gR (fun m c => cm (x0 := n) (x1 := p3.j_) (x2 := p3.c_) (x4 := c3) (x7 := 0) (x9 := x) (x10 := d0) (x11 := d1) [3, 4, 5, 6] c z z) fun V8 => eG (C' := St w D [_, _, _, _, _, _, _, _, _, _, _, _, _, _, _]) (fun _ h => h) <| gR (fun m c => unf (p := 9) (q := 14) c z z z q8 q7) fun y6 => eG (C' := St w D [_, _, _, _, _, _, _, _, _, _, _, _, _, _, _, _]) (fun _ h => h) <| aO (rs := [.cell 10 26, .tmp 11]) (vs := [.agg #[S a7 s.length a8, I J o.g_], B y]) z ⟨⟨_, [S a7 s.length a8, I J o.g_], _, _, _, z, br, (bn (T := 26) 0 (bJ (i := 0) z) z), z, z⟩, z, Y⟩ (fun w' hw' => by
               obtain rfl := af H
               exact ⟨_, z, a7, s.length, a8, y6, z, hw'.sel [15] z z⟩)
           ·refine bE H fun s8 y7 H => bE H fun s9 y8 H => bE H fun A y9 H => bE H fun d z0 H => bE H fun f z1 H => bE H fun g z2 H => bE H fun k e6 H => bE H fun a a9 H => bE H fun l C H => qI 45 [(0, y), (1, y), (2, y), (3, y), (4, y), (5, y), (6, y), (7, y), (8, y), (10, y), (11, y), (12, y), (13, y), (14, y), (15, y), (18, y), (19, y), (20, y), (21, y), (22, y), (23, y), (25, y), (26, y), (27, y), (28, y), (29, y), (30, y), (31, y), (32, y), (33, y), (34, y), (35, y), (36, y), (37, y), (38, y), (39, y), (40, y), (41, y), (42, y)] (Br.alt 9 (Br.pre [] (Br.alt 16 (Br.pre [] (Br.alt 17 (Br.pre [] (Br.alt 24 (Br.pre [(43, y), (44, n)] Br.done) (Br.pre [(44, n), (24, n), (43, y)] Br.done))) (Br.pre [(44, n), (17, n), (24, n), (43, y)] Br.done))) (Br.alt 17 (Br.pre [] (Br.alt 16 (Br.pre [] (Br.alt 24 (Br.pre [(43, y), (44, n)] Br.done) (Br.pre [(44, n), (24, n), (43, y)] Br.done))) (Br.pre [(44, n), (16, n), (24, n), (43, y)] Br.done))) (Br.pre [(44, n)] (Br.alt 16 (Br.pre [(17, n), (24, n), (43, y)] Br.done) (Br.pre [(17, n), (16, n), (24, n), (43, y)] Br.done)))))) (Br.alt 17 (Br.pre [] (Br.alt 9 (Br.pre [] (Br.alt 16 (Br.pre [] (Br.alt 24 (Br.pre [(43, y), (44, n)] Br.done) (Br.pre [(44, n), (24, n), (43, y)] Br.done))) (Br.pre [(44, n), (16, n), (24, n), (43, y)] Br.done))) (Br.pre [(44, n), (9, n), (16, n), (24, n), (43, y)] Br.done))) (Br.pre [(44, n)] (Br.alt 9 (Br.pre [] (Br.alt 16 (Br.pre [(17, n), (24, n), (43, y)] Br.done) (Br.pre [(17, n), (16, n), (24, n), (43, y)] Br.done))) (Br.pre [(17, n), (9, n), (16, n), (24, n), (43, y)] Br.done))))) (St w D [b a3 26 [S N 0 0, I J 0], b a6 26 [S a4 o.a_.length a5, I J o.g_], W (ad (aC) 60) n5 o.a_ [S a4 o.a_.length a5], b a1 73 [S q0 p0.f_.length q2, S q3 p0.n_.length q4], b a2 26 [S q5 p1.a_.length q6, I J p1.g_], b b0 56 [I J p3.j_, I J p3.c_]]) bU (by kernel_rfl) (aJ bb) (tk 6 z) <| bm z (aw z) (rx 0 5 _ z cL z) <| bm z (aw z) (rx 0 3 _ z cV z) <| aa [.fa 26 0 0 bR] z <| bm z (aw z) (r1 0 4 z ec z) <| oP z <| cf z z z z z dW bZ z d5 y7 fun V9 W0 u5 u6 => ?_
            obtain ⟨W1, W2, W3, W4, W5, W6, W7, W8, W9, X0, rfl, z3, z4, z5, z6, z7, z8, z9, A0, A1, A2⟩ := bo u5
            obtain rfl := z3
            obtain rfl := z4
            obtain ⟨X1, X2, rfl⟩ := ao z5
            obtain rfl := z6
            obtain ⟨X3, X4, rfl, e0, e1⟩ := aS z7
            obtain ⟨A3, A4, rfl⟩ := ao e0
            obtain ⟨A5, A6, rfl⟩ := ao e1
            obtain rfl := z8
            obtain ⟨X5, X6, rfl⟩ := ao z9
            obtain rfl := A0
            obtain rfl := A1
            obtain rfl := A2
            refine aa [.fa 60 4 5 ep] z <| bm z (aw z) (dk (cs := [S A3 s8.m_.d_.length A4, S A5 s8.m_.b_.length A6]) z z cK (ce (fun _ h => h.ext) (ni u6 5 2)) z) <| bm z (aw z) (rx 0 5 _ z cL z) <| aa [.fa 26 0 0 bR] z <| bm z (aw z) (r1 0 4 z ec z) <| oP z <| cf z z z z z dW bZ z d5 y8 fun X7 X8 u7 u8 => ?_
            obtain ⟨X9, Y0, Y1, Y2, Y3, Y4, Y5, Y6, Y7, Y8, rfl, A7, A8, A9, B0, B1, B2, B3, B4, B5, B6⟩ := bo u7
            obtain rfl := A7
            obtain rfl := A8
            obtain ⟨Y9, Z0, rfl⟩ := ao A9
            obtain rfl := B0
            obtain ⟨Z1, Z2, rfl, E, F⟩ := aS B1
            obtain ⟨B7, B8, rfl⟩ := ao E
            obtain ⟨B9, C0, rfl⟩ := ao F
            obtain rfl := B2
            obtain ⟨Z3, Z4, rfl⟩ := ao B3
            obtain rfl := B4
            obtain rfl := B5
            obtain rfl := B6
            refine aa [.fa 60 4 5 ep] z <| bm z (aw z) (dk (cs := [S B7 s9.m_.d_.length B8, S B9 s9.m_.b_.length C0]) z z cK (ce (fun _ h => h.ext) (ni u8 5 2)) z) <| aa [.fa 26 0 0 bR] z <| bm z (aw z) (r1 0 4 z ec z) <| oP z <| cf z z z z z dW bZ z d5 y9 fun Z5 Z6 u9 v0 => ?_
            obtain ⟨Z7, Z8, Z9, ag, an, bs, ci, cp, cv, df, rfl, C1, C2, C3, C4, C5, C6, u, C7, C8, C9⟩ := bo u9
            obtain rfl := C1
            obtain rfl := C2
            obtain ⟨di, ds, rfl⟩ := ao C3
            obtain rfl := C4
            obtain ⟨ea, eb, rfl, D0, D1⟩ := aS C5
            obtain ⟨ej, es, rfl⟩ := ao D0
            obtain ⟨et, eu, rfl⟩ := ao D1
            obtain rfl := C6
            obtain ⟨ew, ey, rfl⟩ := ao u
            obtain rfl := C7
            obtain rfl := C8
            obtain rfl := C9
            refine aa [.fa 60 6 8 mM] z <| bm z (aw z) (aM z z bG (ce (fun _ h => h.ext) (ni v0 8 1))) <| aa [.fa 26 0 0 bR] z <| bm z (aw z) (r1 0 4 z ec z) <| oP z <| cf z z z z z dW bZ z d5 z0 fun eB eP v1 v2 => ?_
            obtain ⟨eT, eW, fd, fl, fn, fr, fs, gf, gg, gl, rfl, D2, D3, D4, D5, D6, D7, D8, D9, E0, E1⟩ := bo v1
            obtain rfl := D2
            obtain rfl := D3
            obtain ⟨gs, gu, rfl⟩ := ao D4
            obtain rfl := D5
            obtain ⟨gw, gL, rfl, E2, E3⟩ := aS D6
            obtain ⟨ha, hb, rfl⟩ := ao E2
            obtain ⟨hc, hd, rfl⟩ := ao E3
            obtain rfl := D7
            obtain ⟨he, hf, rfl⟩ := ao D8
            obtain rfl := D9
            obtain rfl := E0
            obtain rfl := E1
            refine aa [.fa 60 7 9 ky] z <| bm z (aw z) (aM z z ty3 (ce (fun _ h => h.ext) (ni v2 9 1))) <| aa [.fa 26 0 0 bR] z <| bm z (aw z) (r1 0 4 z ec z) <| oP z <| cf z z z z z dW bZ z d5 z1 fun hg hh v3 v4 => ?_
            obtain ⟨hi, hj, hk, hl, hm, hn, ho, hp, hq, hr, rfl, E4, E5, E6, E7, E8, E9, F1, F2, F3, F4⟩ := bo v3
            obtain rfl := E4
            obtain rfl := E5
            obtain ⟨hs, ht, rfl⟩ := ao E6
            obtain rfl := E7
            obtain ⟨hu, hv, rfl, F5, F6⟩ := aS E8
            obtain ⟨hw, hx, rfl⟩ := ao F5
            obtain ⟨hy, hz, rfl⟩ := ao F6
            obtain rfl := E9
            obtain ⟨hA, hB, rfl⟩ := ao F1
            obtain rfl := F2
            obtain rfl := F3
            obtain rfl := F4
            refine aa [.fa 60 8 10 nw] z <| bm z (aw z) (aM z z ty3 (ce (fun _ h => h.ext) (ni v4 10 1))) <| aa [.fa 26 0 0 bR] z <| bm z (aw z) (r1 0 4 z ec z) <| oP z <| cf z z z z z dW bZ z d5 z2 fun hC hD v5 v6 => ?_
            obtain ⟨hE, hF, hG, hI, hJ, hK, hL, hM, hN, hO, rfl, F7, F8, F9, G0, G1, G2, G3, G4, G5, G6⟩ := bo v5
            obtain rfl := F7
            obtain rfl := F8
            obtain ⟨hP, hQ, rfl⟩ := ao F9
            obtain rfl := G0
            obtain ⟨hR, hS, rfl, G7, G8⟩ := aS G1
            obtain ⟨hT, hU, rfl⟩ := ao G7
            obtain ⟨hV, hW, rfl⟩ := ao G8
            obtain rfl := G2
            obtain ⟨hX, ig, rfl⟩ := ao G3
            obtain rfl := G4
            obtain rfl := G5
            obtain rfl := G6
            refine aa [.fa 60 9 11 nx] z <| bm z (aw z) (aM z z ty3 (ce (fun _ h => h.ext) (ni v6 11 1))) <| aQ <| eD (tk 6 z) z ?_ ?_
            ·refine oq z (qc z xV (fun m c => jM m (p2 := p3) e6 (ah (ab d3 m c) (ab d4 m c)) (aH (ab e0 m c) (ab e1 m c)))) (tk 6 z) <| aQ <| eD (tk 6 z) z ?_ ?_
             ·refine aj z sD z z z z (fun m c => eS m a9 (c.carve [] z z) (aH (ab E m c) (ab F m c))) (fun ih m w2 c v7 => ?_)
              obtain ⟨G, it, L, p7, M, jj, P, p8, rfl, n9⟩ := v7
              obtain rfl := aA (i := 0) n9 z
              obtain rfl := aA (i := 1) n9 z
              refine ⟨St w D [_, _, _, _, _, _, _, _], c.comp [] z z n9, (tk 6 z), ?_⟩
              refine aQ <| eD (tk 6 z) z ?_ ?_
              ·refine bI (e := eI) z z z z aT ty3 (fun _ => (tk 6 z)) fun lo => aQ <| eD (tk 6 z) z ?_ ?_
               ·exact bC (r := 8) (ys := A.f_) z z z z z z aT ty3 z z z (ab u) C (fun _ _ _ => (tk 6 z)) fun g9 h0 G9 => bm z (aw z) (bu [(1, [I J p3.j_, I J p3.c_]), (4, [I J k]), (5, [S G a.d_.length L, S M a.b_.length P]), (8, [S g9 l.length h0]), (9, [I J d.l_]), (10, [I J f.p_]), (11, [I J g.q_])] [B n, I J p3.j_, I J p3.c_, S N 0 0, I J k, S G a.d_.length L, S M a.b_.length P, I J 0, S g9 l.length h0, I J d.l_, I J f.p_, I J g.q_] z z bZ pN z ⟨z, z, nl z, z, z, nl z, z, z, nl z, z, z, nl z, z, z, nl z, z, z, nl z, z, z, nl z, Y⟩ z) <| aB z z z z bZ (fun _ => (tk 6 z)) fun H0 => aQ <| cH <| sC 0 [B n, I J p3.j_, I J p3.c_, S N 0 0, I J k, S G a.d_.length L, S M a.b_.length P, I J 0, S g9 l.length h0, I J d.l_, I J f.p_, I J g.q_] [_, _, _, _, _, _, _, _, _, _, _, _] 9 z bZ z <| ax <| XW.at (J1 (H0) (k) (a.d_) (G) (L) (p7) (a.b_) (M) (P) (p8) (l) (g9) (h0) (G9) (d.l_) (f.p_) (g.q_) (H)) (ss [0, 1, 2, 9, 6, 7, 8, 3, 4] z z) (sb z)
               exact dG (tk 6 z) z <| aB z z z z bZ (fun _ => (tk 6 z)) fun H1 => bC (r := 8) (ys := A.f_) z z z z z z aT ty3 z z z (ab u) C (fun _ _ _ => (tk 6 z)) fun h2 h3 H2 => bm z (aw z) (bu [(1, [I J p3.j_, I J p3.c_]), (4, [I J k]), (5, [S G a.d_.length L, S M a.b_.length P]), (8, [S h2 l.length h3]), (9, [I J d.l_]), (10, [I J f.p_]), (11, [I J g.q_])] [B n, I J p3.j_, I J p3.c_, S N 0 0, I J k, S G a.d_.length L, S M a.b_.length P, I J 0, S h2 l.length h3, I J d.l_, I J f.p_, I J g.q_] z z bZ pN z ⟨z, z, nl z, z, z, nl z, z, z, nl z, z, z, nl z, z, z, nl z, z, z, nl z, z, z, nl z, Y⟩ z) <| aQ <| cH <| sC 0 [B n, I J p3.j_, I J p3.c_, S N 0 0, I J k, S G a.d_.length L, S M a.b_.length P, I J 0, S h2 l.length h3, I J d.l_, I J f.p_, I J g.q_] [_, _, _, _, _, _, _, _, _, _, _, _] 9 z bZ z <| ax <| XW.at (J1 (H1) (k) (a.d_) (G) (L) (p7) (a.b_) (M) (P) (p8) (l) (h2) (h3) (H2) (d.l_) (f.p_) (g.q_) (H)) (ss [0, 1, 2, 9, 6, 7, 8, 3, 4] z z) (sb z)
              exact dG (tk 6 z) z <| aB z z z z bZ (fun _ => (tk 6 z)) fun H3 => bI (e := eI) z z z z aT ty3 (fun _ => (tk 6 z)) fun md => bC (r := 9) (ys := A.f_) z z z z z z aT ty3 z z z (ab u) C (fun _ _ _ => (tk 6 z)) fun h4 h5 H4 => bm z (aw z) (bu [(1, [I J p3.j_, I J p3.c_]), (4, [I J k]), (5, [S G a.d_.length L, S M a.b_.length P]), (8, [S h4 l.length h5]), (9, [I J d.l_]), (10, [I J f.p_]), (11, [I J g.q_])] [B n, I J p3.j_, I J p3.c_, S N 0 0, I J k, S G a.d_.length L, S M a.b_.length P, I J 0, S h4 l.length h5, I J d.l_, I J f.p_, I J g.q_] z z bZ pN z ⟨z, z, nl z, z, z, nl z, z, z, nl z, z, z, nl z, z, z, nl z, z, z, nl z, z, z, nl z, Y⟩ z) <| aQ <| cH <| sC 0 [B n, I J p3.j_, I J p3.c_, S N 0 0, I J k, S G a.d_.length L, S M a.b_.length P, I J 0, S h4 l.length h5, I J d.l_, I J f.p_, I J g.q_] [_, _, _, _, _, _, _, _, _, _, _, _] 8 z bZ z <| ax <| XW.at (J1 (H3) (k) (a.d_) (G) (L) (p7) (a.b_) (M) (P) (p8) (l) (h4) (h5) (H4) (d.l_) (f.p_) (g.q_) (H)) (ss [0, 1, 2, 8, 6, 7, 9, 3, 4] z z) (sb z)
             refine eD (tk 6 z) z ?_ ?_
             ·refine bI (e := eI) z z z z aT ty3 (fun _ => (tk 6 z)) fun mm => aQ <| eD (tk 6 z) z ?_ ?_
              ·refine aj z sD z z z z (fun m c => eS m a9 (c.carve [] z z) (aH (ab E m c) (ab F m c))) (fun nd m w2 c v8 => ?_)
               obtain ⟨b3, nn, b4, t0, b5, ns, b6, t1, rfl, o0⟩ := v8
               obtain rfl := aA (i := 0) o0 z
               obtain rfl := aA (i := 1) o0 z
               refine ⟨St w D [_, _, _, _, _, _, _, _, _], c.comp [] z z o0, (tk 6 z), ?_⟩
               refine aQ <| eD (tk 6 z) z ?_ ?_
               ·exact bC (r := 6) (ys := A.f_) z z z z z z aT ty3 z z z (ab u) C (fun _ _ _ => (tk 6 z)) fun h6 h7 H5 => bm z (aw z) (bu [(1, [I J p3.j_, I J p3.c_]), (4, [I J k]), (5, [S b3 a.d_.length b4, S b5 a.b_.length b6]), (8, [S h6 l.length h7]), (9, [I J d.l_]), (10, [I J f.p_]), (11, [I J g.q_])] [B n, I J p3.j_, I J p3.c_, S N 0 0, I J k, S b3 a.d_.length b4, S b5 a.b_.length b6, I J 0, S h6 l.length h7, I J d.l_, I J f.p_, I J g.q_] z z bZ pN z ⟨z, z, nl z, z, z, nl z, z, z, nl z, z, z, nl z, z, z, nl z, z, z, nl z, z, z, nl z, Y⟩ z) <| aB z z z z bZ (fun _ => (tk 6 z)) fun H6 => aQ <| cH <| sC 0 [B n, I J p3.j_, I J p3.c_, S N 0 0, I J k, S b3 a.d_.length b4, S b5 a.b_.length b6, I J 0, S h6 l.length h7, I J d.l_, I J f.p_, I J g.q_] [_, _, _, _, _, _, _, _, _, _, _, _] 9 z bZ z <| ax <| XW.at (J1 (H6) (k) (a.d_) (b3) (b4) (t0) (a.b_) (b5) (b6) (t1) (l) (h6) (h7) (H5) (d.l_) (f.p_) (g.q_) (H)) (ss [0, 1, 2, 9, 7, 8, 6, 3, 4] z z) (sb z)
               exact dG (tk 6 z) z <| aB z z z z bZ (fun _ => (tk 6 z)) fun H7 => bC (r := 6) (ys := A.f_) z z z z z z aT ty3 z z z (ab u) C (fun _ _ _ => (tk 6 z)) fun h8 h9 H8 => bm z (aw z) (bu [(1, [I J p3.j_, I J p3.c_]), (4, [I J k]), (5, [S b3 a.d_.length b4, S b5 a.b_.length b6]), (8, [S h8 l.length h9]), (9, [I J d.l_]), (10, [I J f.p_]), (11, [I J g.q_])] [B n, I J p3.j_, I J p3.c_, S N 0 0, I J k, S b3 a.d_.length b4, S b5 a.b_.length b6, I J 0, S h8 l.length h9, I J d.l_, I J f.p_, I J g.q_] z z bZ pN z ⟨z, z, nl z, z, z, nl z, z, z, nl z, z, z, nl z, z, z, nl z, z, z, nl z, z, z, nl z, Y⟩ z) <| aQ <| cH <| sC 0 [B n, I J p3.j_, I J p3.c_, S N 0 0, I J k, S b3 a.d_.length b4, S b5 a.b_.length b6, I J 0, S h8 l.length h9, I J d.l_, I J f.p_, I J g.q_] [_, _, _, _, _, _, _, _, _, _, _, _] 9 z bZ z <| ax <| XW.at (J1 (H7) (k) (a.d_) (b3) (b4) (t0) (a.b_) (b5) (b6) (t1) (l) (h8) (h9) (H8) (d.l_) (f.p_) (g.q_) (H)) (ss [0, 1, 2, 9, 7, 8, 6, 3, 4] z z) (sb z)
              refine dG (tk 6 z) z <| aB z z z z bZ (fun _ => (tk 6 z)) fun H9 => aj z sD z z z z (fun m c => eS m a9 (c.carve [] z z) (aH (ab E m c) (ab F m c))) fun oi m w2 c v9 => ?_
              obtain ⟨i0, oj, i1, I0, i2, ok, i3, I1, rfl, o2⟩ := v9
              obtain rfl := aA (i := 0) o2 z
              obtain rfl := aA (i := 1) o2 z
              refine ⟨St w D [_, _, _, _, _, _, _, _, _, _], c.comp [] z z o2, (tk 6 z), ?_⟩
              exact bC (r := 6) (ys := A.f_) z z z z z z aT ty3 z z z (ab u) C (fun _ _ _ => (tk 6 z)) fun i4 i5 I2 => bm z (aw z) (bu [(1, [I J p3.j_, I J p3.c_]), (4, [I J k]), (5, [S i0 a.d_.length i1, S i2 a.b_.length i3]), (8, [S i4 l.length i5]), (9, [I J d.l_]), (10, [I J f.p_]), (11, [I J g.q_])] [B n, I J p3.j_, I J p3.c_, S N 0 0, I J k, S i0 a.d_.length i1, S i2 a.b_.length i3, I J 0, S i4 l.length i5, I J d.l_, I J f.p_, I J g.q_] z z bZ pN z ⟨z, z, nl z, z, z, nl z, z, z, nl z, z, z, nl z, z, z, nl z, z, z, nl z, z, z, nl z, Y⟩ z) <| aQ <| cH <| sC 0 [B n, I J p3.j_, I J p3.c_, S N 0 0, I J k, S i0 a.d_.length i1, S i2 a.b_.length i3, I J 0, S i4 l.length i5, I J d.l_, I J f.p_, I J g.q_] [_, _, _, _, _, _, _, _, _, _, _, _] 7 z bZ z <| ax <| XW.at (J1 (H9) (k) (a.d_) (i0) (i1) (I0) (a.b_) (i2) (i3) (I1) (l) (i4) (i5) (I2) (d.l_) (f.p_) (g.q_) (H)) (ss [0, 1, 2, 7, 8, 9, 6, 3, 4] z z) (sb z)
             refine dG (tk 6 z) z <| aB z z z z bZ (fun _ => (tk 6 z)) fun t2 => aQ <| eD (tk 6 z) z ?_ ?_
             ·refine aj z sD z z z z (fun m c => eS m a9 (c.carve [] z z) (aH (ab E m c) (ab F m c))) (fun op m w2 c w0 => ?_)
              obtain ⟨i6, os, i7, I3, i8, pa, i9, I4, rfl, o3⟩ := w0
              obtain rfl := aA (i := 0) o3 z
              obtain rfl := aA (i := 1) o3 z
              refine ⟨St w D [_, _, _, _, _, _, _, _, _], c.comp [] z z o3, (tk 6 z), ?_⟩
              exact bI (e := eI) z z z z aT ty3 (fun _ => (tk 6 z)) fun ps => bC (r := 9) (ys := A.f_) z z z z z z aT ty3 z z z (ab u) C (fun _ _ _ => (tk 6 z)) fun j0 j1 I5 => bm z (aw z) (bu [(1, [I J p3.j_, I J p3.c_]), (4, [I J k]), (5, [S i6 a.d_.length i7, S i8 a.b_.length i9]), (8, [S j0 l.length j1]), (9, [I J d.l_]), (10, [I J f.p_]), (11, [I J g.q_])] [B n, I J p3.j_, I J p3.c_, S N 0 0, I J k, S i6 a.d_.length i7, S i8 a.b_.length i9, I J 0, S j0 l.length j1, I J d.l_, I J f.p_, I J g.q_] z z bZ pN z ⟨z, z, nl z, z, z, nl z, z, z, nl z, z, z, nl z, z, z, nl z, z, z, nl z, z, z, nl z, Y⟩ z) <| aQ <| cH <| sC 0 [B n, I J p3.j_, I J p3.c_, S N 0 0, I J k, S i6 a.d_.length i7, S i8 a.b_.length i9, I J 0, S j0 l.length j1, I J d.l_, I J f.p_, I J g.q_] [_, _, _, _, _, _, _, _, _, _, _, _] 6 z bZ z <| ax <| XW.at (J1 (t2) (k) (a.d_) (i6) (i7) (I3) (a.b_) (i8) (i9) (I4) (l) (j0) (j1) (I5) (d.l_) (f.p_) (g.q_) (H)) (ss [0, 1, 2, 6, 7, 8, 9, 3, 4] z z) (sb z)
             refine dG (tk 6 z) z <| bI (e := eI) z z z z aT ty3 (fun _ => (tk 6 z)) fun pv => aj z sD z z z z (fun m c => eS m a9 (c.carve [] z z) (aH (ab E m c) (ab F m c))) fun px m w2 c w3 => ?_
             obtain ⟨j2, py, j3, I6, j4, qs, j5, I7, rfl, o4⟩ := w3
             obtain rfl := aA (i := 0) o4 z
             obtain rfl := aA (i := 1) o4 z
             refine ⟨St w D [_, _, _, _, _, _, _, _, _, _], c.comp [] z z o4, (tk 6 z), ?_⟩
             exact bC (r := 7) (ys := A.f_) z z z z z z aT ty3 z z z (ab u) C (fun _ _ _ => (tk 6 z)) fun j6 j7 I8 => bm z (aw z) (bu [(1, [I J p3.j_, I J p3.c_]), (4, [I J k]), (5, [S j2 a.d_.length j3, S j4 a.b_.length j5]), (8, [S j6 l.length j7]), (9, [I J d.l_]), (10, [I J f.p_]), (11, [I J g.q_])] [B n, I J p3.j_, I J p3.c_, S N 0 0, I J k, S j2 a.d_.length j3, S j4 a.b_.length j5, I J 0, S j6 l.length j7, I J d.l_, I J f.p_, I J g.q_] z z bZ pN z ⟨z, z, nl z, z, z, nl z, z, z, nl z, z, z, nl z, z, z, nl z, z, z, nl z, z, z, nl z, Y⟩ z) <| aQ <| cH <| sC 0 [B n, I J p3.j_, I J p3.c_, S N 0 0, I J k, S j2 a.d_.length j3, S j4 a.b_.length j5, I J 0, S j6 l.length j7, I J d.l_, I J f.p_, I J g.q_] [_, _, _, _, _, _, _, _, _, _, _, _] 6 z bZ z <| ax <| XW.at (J1 (t2) (k) (a.d_) (j2) (j3) (I6) (a.b_) (j4) (j5) (I7) (l) (j6) (j7) (I8) (d.l_) (f.p_) (g.q_) (H)) (ss [0, 1, 2, 6, 8, 9, 7, 3, 4] z z) (sb z)
            refine eD (tk 6 z) z ?_ ?_
            ·refine bI (e := eI) z z z z aT ty3 (fun _ => (tk 6 z)) fun qy => aQ <| eD (tk 6 z) z ?_ ?_
             ·refine oq z (qc z xV (fun m c => jM m (p2 := p3) e6 (ah (ab d3 m c) (ab d4 m c)) (aH (ab e0 m c) (ab e1 m c)))) (tk 6 z) <| aQ <| eD (tk 6 z) z ?_ ?_
              ·refine aj z sD z z z z (fun m c => eS m a9 (c.carve [] z z) (aH (ab E m c) (ab F m c))) (fun re m w2 c w4 => ?_)
               obtain ⟨b7, ri, b8, t3, b9, rl, c1, t4, rfl, o5⟩ := w4
               obtain rfl := aA (i := 0) o5 z
               obtain rfl := aA (i := 1) o5 z
               refine ⟨St w D [_, _, _, _, _, _, _, _, _], c.comp [] z z o5, (tk 6 z), ?_⟩
               refine aQ <| eD (tk 6 z) z ?_ ?_
               ·exact bC (r := 6) (ys := A.f_) z z z z z z aT ty3 z z z (ab u) C (fun _ _ _ => (tk 6 z)) fun j8 j9 I9 => bm z (aw z) (bu [(1, [I J p3.j_, I J p3.c_]), (4, [I J k]), (5, [S b7 a.d_.length b8, S b9 a.b_.length c1]), (8, [S j8 l.length j9]), (9, [I J d.l_]), (10, [I J f.p_]), (11, [I J g.q_])] [B n, I J p3.j_, I J p3.c_, S N 0 0, I J k, S b7 a.d_.length b8, S b9 a.b_.length c1, I J 0, S j8 l.length j9, I J d.l_, I J f.p_, I J g.q_] z z bZ pN z ⟨z, z, nl z, z, z, nl z, z, z, nl z, z, z, nl z, z, z, nl z, z, z, nl z, z, z, nl z, Y⟩ z) <| aB z z z z bZ (fun _ => (tk 6 z)) fun J0 => aQ <| cH <| sC 0 [B n, I J p3.j_, I J p3.c_, S N 0 0, I J k, S b7 a.d_.length b8, S b9 a.b_.length c1, I J 0, S j8 l.length j9, I J d.l_, I J f.p_, I J g.q_] [_, _, _, _, _, _, _, _, _, _, _, _] 9 z bZ z <| ax <| XW.at (J1 (J0) (k) (a.d_) (b7) (b8) (t3) (a.b_) (b9) (c1) (t4) (l) (j8) (j9) (I9) (d.l_) (f.p_) (g.q_) (H)) (ss [0, 1, 2, 9, 7, 8, 6, 3, 4] z z) (sb z)
               exact dG (tk 6 z) z <| aB z z z z bZ (fun _ => (tk 6 z)) fun J2 => bC (r := 6) (ys := A.f_) z z z z z z aT ty3 z z z (ab u) C (fun _ _ _ => (tk 6 z)) fun k0 k3 J3 => bm z (aw z) (bu [(1, [I J p3.j_, I J p3.c_]), (4, [I J k]), (5, [S b7 a.d_.length b8, S b9 a.b_.length c1]), (8, [S k0 l.length k3]), (9, [I J d.l_]), (10, [I J f.p_]), (11, [I J g.q_])] [B n, I J p3.j_, I J p3.c_, S N 0 0, I J k, S b7 a.d_.length b8, S b9 a.b_.length c1, I J 0, S k0 l.length k3, I J d.l_, I J f.p_, I J g.q_] z z bZ pN z ⟨z, z, nl z, z, z, nl z, z, z, nl z, z, z, nl z, z, z, nl z, z, z, nl z, z, z, nl z, Y⟩ z) <| aQ <| cH <| sC 0 [B n, I J p3.j_, I J p3.c_, S N 0 0, I J k, S b7 a.d_.length b8, S b9 a.b_.length c1, I J 0, S k0 l.length k3, I J d.l_, I J f.p_, I J g.q_] [_, _, _, _, _, _, _, _, _, _, _, _] 9 z bZ z <| ax <| XW.at (J1 (J2) (k) (a.d_) (b7) (b8) (t3) (a.b_) (b9) (c1) (t4) (l) (k0) (k3) (J3) (d.l_) (f.p_) (g.q_) (H)) (ss [0, 1, 2, 9, 7, 8, 6, 3, 4] z z) (sb z)
              refine dG (tk 6 z) z <| aB z z z z bZ (fun _ => (tk 6 z)) fun J4 => aj z sD z z z z (fun m c => eS m a9 (c.carve [] z z) (aH (ab E m c) (ab F m c))) fun sp m w2 c w5 => ?_
              obtain ⟨k4, sz, k5, J5, k6, tb, k7, J6, rfl, o6⟩ := w5
              obtain rfl := aA (i := 0) o6 z
              obtain rfl := aA (i := 1) o6 z
              refine ⟨St w D [_, _, _, _, _, _, _, _, _, _], c.comp [] z z o6, (tk 6 z), ?_⟩
              exact bC (r := 6) (ys := A.f_) z z z z z z aT ty3 z z z (ab u) C (fun _ _ _ => (tk 6 z)) fun k8 k9 J7 => bm z (aw z) (bu [(1, [I J p3.j_, I J p3.c_]), (4, [I J k]), (5, [S k4 a.d_.length k5, S k6 a.b_.length k7]), (8, [S k8 l.length k9]), (9, [I J d.l_]), (10, [I J f.p_]), (11, [I J g.q_])] [B n, I J p3.j_, I J p3.c_, S N 0 0, I J k, S k4 a.d_.length k5, S k6 a.b_.length k7, I J 0, S k8 l.length k9, I J d.l_, I J f.p_, I J g.q_] z z bZ pN z ⟨z, z, nl z, z, z, nl z, z, z, nl z, z, z, nl z, z, z, nl z, z, z, nl z, z, z, nl z, Y⟩ z) <| aQ <| cH <| sC 0 [B n, I J p3.j_, I J p3.c_, S N 0 0, I J k, S k4 a.d_.length k5, S k6 a.b_.length k7, I J 0, S k8 l.length k9, I J d.l_, I J f.p_, I J g.q_] [_, _, _, _, _, _, _, _, _, _, _, _] 7 z bZ z <| ax <| XW.at (J1 (J4) (k) (a.d_) (k4) (k5) (J5) (a.b_) (k6) (k7) (J6) (l) (k8) (k9) (J7) (d.l_) (f.p_) (g.q_) (H)) (ss [0, 1, 2, 7, 8, 9, 6, 3, 4] z z) (sb z)
             refine dG (tk 6 z) z <| aB z z z z bZ (fun _ => (tk 6 z)) fun J8 => oq z (qc z xV (fun m c => jM m (p2 := p3) e6 (ah (ab d3 m c) (ab d4 m c)) (aH (ab e0 m c) (ab e1 m c)))) (tk 6 z) <| aj z sD z z z z (fun m c => eS m a9 (c.carve [] z z) (aH (ab E m c) (ab F m c))) fun td m w2 c w6 => ?_
             obtain ⟨l0, ti, l1, J9, l2, tl, l3, K0, rfl, o7⟩ := w6
             obtain rfl := aA (i := 0) o7 z
             obtain rfl := aA (i := 1) o7 z
             refine ⟨St w D [_, _, _, _, _, _, _, _, _, _], c.comp [] z z o7, (tk 6 z), ?_⟩
             exact bC (r := 6) (ys := A.f_) z z z z z z aT ty3 z z z (ab u) C (fun _ _ _ => (tk 6 z)) fun l4 l5 K1 => bm z (aw z) (bu [(1, [I J p3.j_, I J p3.c_]), (4, [I J k]), (5, [S l0 a.d_.length l1, S l2 a.b_.length l3]), (8, [S l4 l.length l5]), (9, [I J d.l_]), (10, [I J f.p_]), (11, [I J g.q_])] [B n, I J p3.j_, I J p3.c_, S N 0 0, I J k, S l0 a.d_.length l1, S l2 a.b_.length l3, I J 0, S l4 l.length l5, I J d.l_, I J f.p_, I J g.q_] z z bZ pN z ⟨z, z, nl z, z, z, nl z, z, z, nl z, z, z, nl z, z, z, nl z, z, z, nl z, z, z, nl z, Y⟩ z) <| aQ <| cH <| sC 0 [B n, I J p3.j_, I J p3.c_, S N 0 0, I J k, S l0 a.d_.length l1, S l2 a.b_.length l3, I J 0, S l4 l.length l5, I J d.l_, I J f.p_, I J g.q_] [_, _, _, _, _, _, _, _, _, _, _, _] 7 z bZ z <| ax <| XW.at (J1 (J8) (k) (a.d_) (l0) (l1) (J9) (a.b_) (l2) (l3) (K0) (l) (l4) (l5) (K1) (d.l_) (f.p_) (g.q_) (H)) (ss [0, 1, 2, 7, 8, 9, 6, 3, 4] z z) (sb z)
            refine dG (tk 6 z) z <| aB z z z z bZ (fun _ => (tk 6 z)) fun p9 => aQ <| eD (tk 6 z) z ?_ ?_
            ·refine oq z (qc z xV (fun m c => jM m (p2 := p3) e6 (ah (ab d3 m c) (ab d4 m c)) (aH (ab e0 m c) (ab e1 m c)))) (tk 6 z) <| aQ <| eD (tk 6 z) z ?_ ?_
             ·refine aj z sD z z z z (fun m c => eS m a9 (c.carve [] z z) (aH (ab E m c) (ab F m c))) (fun ts m w2 c w7 => ?_)
              obtain ⟨l6, ty, l7, K2, l8, up, l9, K3, rfl, o8⟩ := w7
              obtain rfl := aA (i := 0) o8 z
              obtain rfl := aA (i := 1) o8 z
              refine ⟨St w D [_, _, _, _, _, _, _, _, _], c.comp [] z z o8, (tk 6 z), ?_⟩
              exact bI (e := eI) z z z z aT ty3 (fun _ => (tk 6 z)) fun vj => bC (r := 9) (ys := A.f_) z z z z z z aT ty3 z z z (ab u) C (fun _ _ _ => (tk 6 z)) fun m0 m1 K4 => bm z (aw z) (bu [(1, [I J p3.j_, I J p3.c_]), (4, [I J k]), (5, [S l6 a.d_.length l7, S l8 a.b_.length l9]), (8, [S m0 l.length m1]), (9, [I J d.l_]), (10, [I J f.p_]), (11, [I J g.q_])] [B n, I J p3.j_, I J p3.c_, S N 0 0, I J k, S l6 a.d_.length l7, S l8 a.b_.length l9, I J 0, S m0 l.length m1, I J d.l_, I J f.p_, I J g.q_] z z bZ pN z ⟨z, z, nl z, z, z, nl z, z, z, nl z, z, z, nl z, z, z, nl z, z, z, nl z, z, z, nl z, Y⟩ z) <| aQ <| cH <| sC 0 [B n, I J p3.j_, I J p3.c_, S N 0 0, I J k, S l6 a.d_.length l7, S l8 a.b_.length l9, I J 0, S m0 l.length m1, I J d.l_, I J f.p_, I J g.q_] [_, _, _, _, _, _, _, _, _, _, _, _] 6 z bZ z <| ax <| XW.at (J1 (p9) (k) (a.d_) (l6) (l7) (K2) (a.b_) (l8) (l9) (K3) (l) (m0) (m1) (K4) (d.l_) (f.p_) (g.q_) (H)) (ss [0, 1, 2, 6, 7, 8, 9, 3, 4] z z) (sb z)
             refine dG (tk 6 z) z <| bI (e := eI) z z z z aT ty3 (fun _ => (tk 6 z)) fun vA => aj z sD z z z z (fun m c => eS m a9 (c.carve [] z z) (aH (ab E m c) (ab F m c))) fun wf m w2 c w8 => ?_
             obtain ⟨m2, wp, m3, K5, m4, ws, m5, K6, rfl, o9⟩ := w8
             obtain rfl := aA (i := 0) o9 z
             obtain rfl := aA (i := 1) o9 z
             refine ⟨St w D [_, _, _, _, _, _, _, _, _, _], c.comp [] z z o9, (tk 6 z), ?_⟩
             exact bC (r := 7) (ys := A.f_) z z z z z z aT ty3 z z z (ab u) C (fun _ _ _ => (tk 6 z)) fun m6 m7 K7 => bm z (aw z) (bu [(1, [I J p3.j_, I J p3.c_]), (4, [I J k]), (5, [S m2 a.d_.length m3, S m4 a.b_.length m5]), (8, [S m6 l.length m7]), (9, [I J d.l_]), (10, [I J f.p_]), (11, [I J g.q_])] [B n, I J p3.j_, I J p3.c_, S N 0 0, I J k, S m2 a.d_.length m3, S m4 a.b_.length m5, I J 0, S m6 l.length m7, I J d.l_, I J f.p_, I J g.q_] z z bZ pN z ⟨z, z, nl z, z, z, nl z, z, z, nl z, z, z, nl z, z, z, nl z, z, z, nl z, z, z, nl z, Y⟩ z) <| aQ <| cH <| sC 0 [B n, I J p3.j_, I J p3.c_, S N 0 0, I J k, S m2 a.d_.length m3, S m4 a.b_.length m5, I J 0, S m6 l.length m7, I J d.l_, I J f.p_, I J g.q_] [_, _, _, _, _, _, _, _, _, _, _, _] 6 z bZ z <| ax <| XW.at (J1 (p9) (k) (a.d_) (m2) (m3) (K5) (a.b_) (m4) (m5) (K6) (l) (m6) (m7) (K7) (d.l_) (f.p_) (g.q_) (H)) (ss [0, 1, 2, 6, 8, 9, 7, 3, 4] z z) (sb z)
            refine dG (tk 6 z) z <| bI (e := eI) z z z z aT ty3 (fun _ => (tk 6 z)) fun xs => oq z (qc z xV (fun m c => jM m (p2 := p3) e6 (ah (ab d3 m c) (ab d4 m c)) (aH (ab e0 m c) (ab e1 m c)))) (tk 6 z) <| aj z sD z z z z (fun m c => eS m a9 (c.carve [] z z) (aH (ab E m c) (ab F m c))) fun zs m w2 c w9 => ?_
            obtain ⟨m8, zv, m9, K8, n1, An, n2, K9, rfl, p5⟩ := w9
            obtain rfl := aA (i := 0) p5 z
            obtain rfl := aA (i := 1) p5 z
            refine ⟨St w D [_, _, _, _, _, _, _, _, _, _], c.comp [] z z p5, (tk 6 z), ?_⟩
            exact bC (r := 7) (ys := A.f_) z z z z z z aT ty3 z z z (ab u) C (fun _ _ _ => (tk 6 z)) fun n3 n4 L0 => bm z (aw z) (bu [(1, [I J p3.j_, I J p3.c_]), (4, [I J k]), (5, [S m8 a.d_.length m9, S n1 a.b_.length n2]), (8, [S n3 l.length n4]), (9, [I J d.l_]), (10, [I J f.p_]), (11, [I J g.q_])] [B n, I J p3.j_, I J p3.c_, S N 0 0, I J k, S m8 a.d_.length m9, S n1 a.b_.length n2, I J 0, S n3 l.length n4, I J d.l_, I J f.p_, I J g.q_] z z bZ pN z ⟨z, z, nl z, z, z, nl z, z, z, nl z, z, z, nl z, z, z, nl z, z, z, nl z, z, z, nl z, Y⟩ z) <| aQ <| cH <| sC 0 [B n, I J p3.j_, I J p3.c_, S N 0 0, I J k, S m8 a.d_.length m9, S n1 a.b_.length n2, I J 0, S n3 l.length n4, I J d.l_, I J f.p_, I J g.q_] [_, _, _, _, _, _, _, _, _, _, _, _] 6 z bZ z <| ax <| XW.at (J1 (p9) (k) (a.d_) (m8) (m9) (K8) (a.b_) (n1) (n2) (K9) (l) (n3) (n4) (L0) (d.l_) (f.p_) (g.q_) (H)) (ss [0, 1, 2, 6, 8, 9, 7, 3, 4] z z) (sb z)
         ·generalize (r0.l_ == 6) = N4 at key ⊢
          cases N4
          ·exact aa [.fa 26 0 0 bR] z <| o1 z (r1 0 4 z ec z) <| aa [.lenS 24 60 dW, .p, .lenS 28 45 cC, .p, .p] z <| oP z <| OW.sub key (sb z)
          ·exact aa [.p, .p, .p, .p, .p, .p, .p, .p] z <| OW.sub key (sb z)
     ·clear H
      have H := r4
      clear r4
      generalize q9 = N5 at H key ⊢
      cases N5
      ·have H := bh z H
       refine aa [.p, .lenS 28 45 cC] z <| o1 z (rx 0 0 _ z cV z) <| o1 z (rx 0 2 _ z cL z) <| bE H fun Hu N6 H => oq z (qc z yT (fun m c => gG m (p1 := p3) N6 (ah (ab d3 m c) (ab d4 m c)))) tt2 <| oP z <| oP z <| ?_
       obtain rfl := af H
       exact OW.sub key (sb z)
      ·have H := bi z H
       refine aa [.p, .p, .p, .p, .p, .p, .p] z ?_
       obtain rfl := af H
       exact OW.sub key (sb z)
    ·clear H
     have H := r3
     clear r3
     generalize u0 = N7 at H key ⊢
     cases N7
     ·have H := bh z H
      refine o1 z (rx 0 0 _ z cV z) <| o1 z (rx 0 2 _ z cL z) <| bE H fun Hv N8 H => oq z (qc z xF (fun m c => hY m (p1 := p3) N8 (ah (ab d3 m c) (ab d4 m c)))) tt2 <| oP z <| oP z <| ?_
      obtain rfl := af H
      exact OW.sub key (sb z)
     ·have H := bi z H
      refine aa [.p, .p, .p, .p, .p] z ?_
      obtain rfl := af H
      exact OW.sub key (sb z)
   ·clear H
    have H := r2
    clear r2
    generalize t8 = N9 at H key ⊢
    cases N9
    ·have H := bh z H
     refine aa [.fa 26 0 0 bR] z <| o1 z (r1 0 1 z ec z) <| oP z <| bE H fun HP Q2 H => cf z z z z z dW bZ z d5 Q2 fun HQ HR O0 O1 => ?_
     obtain ⟨HT, HU, HV, HW, HX, HY, HZ, Hw, Hx, Hy, rfl, O2, O3, O4, O5, O6, O7, O8, O9, P0, P1⟩ := bo O0
     obtain rfl := O2
     obtain rfl := O3
     obtain ⟨Hz, HA, rfl⟩ := ao O4
     obtain rfl := O5
     obtain ⟨HB, HC, rfl, P2, P3⟩ := aS O6
     obtain ⟨HD, HE, rfl⟩ := ao P2
     obtain ⟨HF, HG, rfl⟩ := ao P3
     obtain rfl := O7
     obtain ⟨HH, HI, rfl⟩ := ao O8
     obtain rfl := O9
     obtain rfl := P0
     obtain rfl := P1
     refine aa [.fa 60 4 5 ep, .fa 58 1 1 dt] z <| o1 z (aM z z cY (ce bor (ni (ni O1 5 2) 1 1))) <| aa [.lenS 28 45 cC, .p] z <| oP z <| ?_
     obtain rfl := af H
     exact OW.sub key (sb z)
    ·have H := bi z H
     refine aa [.p, .p, .p, .p, .p, .p, .p, .p, .p, .p] z ?_
     obtain rfl := af H
     exact OW.sub key (sb z)
  ·clear H
   have H := t9
   clear t9
   generalize t6 = Q3 at H key ⊢
   cases Q3
   ·have H := bh z H
    refine aa [.fa 26 0 0 bR] z <| o1 z (r1 0 1 z ec z) <| oP z <| bE H fun Ia Q4 H => cf z z z z z dW bZ z d5 Q4 fun Ib Ic P4 P5 => ?_
    obtain ⟨Id, Ie, If, Ig, Ih, Ii, Ij, Ik, Il, Im, rfl, Q5, Q6, Q7, Q8, Q9, R0, R1, R2, R3, R4⟩ := bo P4
    obtain rfl := Q5
    obtain rfl := Q6
    obtain ⟨In, Io, rfl⟩ := ao Q7
    obtain rfl := Q8
    obtain ⟨Ip, Iq, rfl, R5, R6⟩ := aS Q9
    obtain ⟨Ir, Is, rfl⟩ := ao R5
    obtain ⟨It, Iu, rfl⟩ := ao R6
    obtain rfl := R0
    obtain ⟨Iv, Iw, rfl⟩ := ao R1
    obtain rfl := R2
    obtain rfl := R3
    obtain rfl := R4
    refine aa [.fa 60 0 0 mw] z <| o1 z (aM z z ty4 (ce bor (ni P5 0 1))) <| oP z <| oP z <| ?_
    obtain rfl := af H
    exact OW.sub key (sb z)
   ·have H := bi z H
    refine aa [.p, .p, .p, .p, .p, .p, .p, .p] z ?_
    obtain rfl := af H
    exact OW.sub key (sb z)
 ·clear H
  have H := t7
  clear t7
  generalize (!L3) = R7 at H key ⊢
  cases R7
  ·have H := bh z H
   refine aa [.p, .fa 26 0 0 bR] z <| o1 z (r1 0 1 z ec z) <| aa [.lenS 24 60 dW, .p] z <| bE H fun Ix R8 H => oq z (qc z gN (fun m c => be m R8)) tt2 <| oP z <| oP z <| ?_
   obtain rfl := af H
   exact OW.sub key (sb z)
  ·have H := bi z H
   refine aa [.p, .p, .p, .p, .p, .p, .p, .p] z ?_
   obtain rfl := af H
   exact OW.sub key (sb z)
theorem qM (w : World) {q : List Nat} {p0 : ai} {D : List Value} {r : List Int} (H : jv p0 = U r) (HS : St w q [] w) (g0 : (cW).rd w q p0 D) :
    Calls Tryz.prog 124 #[.agg D.toArray] w (fun en w' => ∃ v, en = .returned v ∧ ∃ (a0 : Option Addr), ∃ (n0 : Nat), ∃ (c0 : Nat), ∃ (F0 : List Nat), v = S a0 n0 c0 ∧ St w q [W (ad eI 3) F0 r [S a0 n0 c0]] w') := by
 obtain ⟨i3, i4, rfl, k, c8⟩ := cr g0
 obtain ⟨c9, d0, rfl⟩ := ao k
 obtain rfl := c8
 unfold jv at H
 refine aN Tryz.func124 z Tryz.ntmps124 z (HS) <| sR <| ob _ z fun h => oP z <| nR <| bI (e := eI) z z z z aT ty3 (fun _ => kp) fun E => oP z <| nQ <| am <| sR <| oP z <| nQ <| ay <| CW.at (iw (fun (a : List Int) (d : Option Addr) (f : Nat) (g : List Nat) (c : Int) => St w q [b h 26 [S c9 p0.a_.length d0, I J p0.g_], W (ad eI 3) g a [S d a.length f]]) (fun a d f g c => [(1, O (U ⟨h, 0, N⟩)), (3, S d a.length f), (4, I J c)]) (fun kk => fun a d f g c => d.isNone = n ∧ dv p0 kk a c = U r) (fun _ _ _ _ _ H => ?_) (fun k1 l a d f g c ⟨s, H⟩ => ?_) aY (([] : List Int)) ((U ⟨E, 0, N⟩)) (0) ([E]) (0) (⟨z, H⟩)) (ss [0, 1] z z) (sb z)
 ·unfold dv at H
  exact absurd H (by simp)
 ·unfold dv at H
  refine am <| sR <| aa [.p, .fa 26 0 0 bR] z <| o1 z (r1 0 0 z ec z) <| aa [.lenS 24 60 dW, .p] z <| nQ <| cI H z (fun H => ?_) (fun H => ?_)
  ·refine av <| az <| am <| ay <| sR <| aa [.fa 26 0 0 bR] z <| o1 z (r1 0 0 z ec z) <| oP z <| bE H fun m F H => cf z z z z z dW bZ z k F fun d4 d5 t u => ?_
   obtain ⟨d6, d7, d8, d9, e0, e1, e2, e3, e4, e5, rfl, G, L, M, P, Q, X, Z, a1, a2, a3⟩ := bo t
   obtain rfl := G
   obtain rfl := L
   obtain ⟨e6, e7, rfl⟩ := ao M
   obtain rfl := P
   obtain ⟨e9, f0, rfl, a4, a5⟩ := aS Q
   obtain ⟨f1, f2, rfl⟩ := ao a4
   obtain ⟨f3, f4, rfl⟩ := ao a5
   obtain rfl := X
   obtain ⟨f5, f6, rfl⟩ := ao Z
   obtain rfl := a1
   obtain rfl := a2
   obtain rfl := a3
   refine aa [.fa 60 0 0 mw] z <| o1 z (aM z z ty4 (ce bor (ni u 0 1))) <| oP z <| bE H fun a6 j H => aV [(29, B a6), (1, O (U ⟨h, 0, N⟩)), (3, S d a.length f), (4, I J c)] 10 ?_ (fun key => OW.sub (R := [(1, O (U ⟨h, 0, N⟩)), (3, S d a.length f), (4, I J c), (19, B m.s_)]) ?_ (sb z))
   ·refine nQ <| cI H z (fun H => ?_) (fun H => ?_)
    ·exact aP <| oPP z <| bq (val := I J) (h1 := fun _ => z) [c] [(0, [I J c])] z z z z z aT ty3 z z z ⟨z, z, nl z, Y⟩ z z (fun _ => kp) fun f7 => bE H fun a7 o H => bC (r := 1) (ys := ([c] : List Int)) z z z z z z aT ty3 z z z (ap (e := ad eI 3) (r := 2) z) o (fun _ _ _ => kp) fun a8 a9 b0 => cc z (fun w1 d1 => fh (i := 1) d1 z (fe o)) fun x => oP z <| ax <| bW <| az <| aP <| aa [.p, .p, .p] z <| ax <| ct (RW.at (l (a7) (a8) (a9) (b0) (J.wrap (c + 1)) (⟨x, H⟩)) (ss [0, 1] z z) (sb z))
    ·exact av <| bW <| az <| aP <| aa [.p, .p, .p] z <| ax <| ct (RW.at (l (a) (d) (f) (g) (J.wrap (c + 1)) (⟨s, H⟩)) (ss [0, 1] z z) (sb z))
   ·clear H
    have H := j
    clear j
    generalize m.s_ = b1 at H key ⊢
    cases b1
    ·have H := bh z H
     refine aa [.p, .p, .p, .p, .p, .p, .p, .p, .p, .p] z ?_
     obtain rfl := af H
     exact OW.sub key (sb z)
    ·have H := bi z H
     refine aa [.fa 26 0 0 bR] z <| o1 z (r1 0 0 z ec z) <| oP z <| bE H fun f8 b2 H => cf z z z z z dW bZ z k b2 fun f9 g1 A C => ?_
     obtain ⟨g2, g3, g4, g5, g6, g7, g8, g9, h0, h2, rfl, b3, b4, b5, b6, b7, b8, b9, c1, c2, c3⟩ := bo A
     obtain rfl := b3
     obtain rfl := b4
     obtain ⟨h3, h4, rfl⟩ := ao b5
     obtain rfl := b6
     obtain ⟨h5, h6, rfl, c4, c5⟩ := aS b7
     obtain ⟨h7, h8, rfl⟩ := ao c4
     obtain ⟨h9, i0, rfl⟩ := ao c5
     obtain rfl := b8
     obtain ⟨i1, i2, rfl⟩ := ao b9
     obtain rfl := c1
     obtain rfl := c2
     obtain rfl := c3
     refine aa [.fa 60 4 5 ep, .fa 58 1 1 dt] z <| o1 z (aM z z cY (ce bor (ni (ni C 5 2) 1 1))) <| aa [.lenS 28 45 cC, .p] z <| oP z <| ?_
     obtain rfl := af H
     exact OW.sub key (sb z)
  ·exact bx <| aK <| aR <| aL <| az <| sR <| oPP z <| nT <| aO (rs := [.tmp 2]) (vs := [S d a.length f]) z ⟨z, Y⟩ (fun w' hw' => by
    obtain rfl := af H
    exact ⟨_, z, d, a.length, f, g, z, hw'.sel [1] z z⟩)
theorem pV (w : World) {p0 : ae} {p1 : ar} {i : List Value} {k : List Value} {r : Int} (H : kW p0 p1 = U r) (s : (bk).rd w [] p0 i) (t : (cb).rd w [] p1 k) :
    Calls Tryz.prog 125 #[.agg i.toArray, .agg k.toArray] w (fun en w' => en = .returned (I J r) ∧ Ext [] w w') := by
 obtain ⟨u, v, rfl, f, g⟩ := aX s
 obtain ⟨x, A, rfl⟩ := ao f
 obtain ⟨C, D, rfl⟩ := ao g
 obtain ⟨E, F, rfl, d, h⟩ := aS t
 obtain ⟨G, L, rfl⟩ := ao d
 obtain ⟨M, P, rfl⟩ := ao h
 unfold kW at H
 refine aN Tryz.func125 z Tryz.ntmps125 z (St.init w []) <| sR <| ob _ z fun Q => ob _ z fun R => oP z <| nQ <| am <| sR <| o1 z (rx 0 0 _ z cV z) <| o1 z (rx 0 1 _ z cK z) <| bE H fun X m H => oq z (qc z wq (fun c a => fz c m (ah (ab f c a) (ab g c a)) (aH (ab d c a) (ab h c a)))) tt2 <| oP z <| nQ <| cI H z (fun H => ?_) (fun H => ?_)
 ·exact sR <| oP z <| nT <| aq <| xr 4 z (by cases H; exact q1)
 ·exact av <| az <| am <| dR bU (by kernel_rfl) <| o1 z (rx 0 0 _ z cV z) <| o1 z (rx 0 1 _ z cK z) <| bE H fun Z o H => oq z (qc z Ci (fun c a => iY c o (ah (ab f c a) (ab g c a)) (aH (ab d c a) (ab h c a)))) tt2 <| aa [.fa 58 0 0 jc] z <| o1 z (r1 0 1 z bG z) <| aa [.fa 58 0 0 jc] z <| o1 z (r1 0 1 z bG z) <| bE H fun p q H => oq z (qc z DP (fun c a => rp c q (ab d c a))) tt2 <| bE H fun a0 l H => bF (e := eI) (xs := p1.d_) (j := p) z z z z z aT ty3 z (ab d) l (by rw [Nat.mul_one]) <| o1 z (aM z z ty3 (bO (ab d) l)) <| oPP z <| co <| az <| uS <| xr 4 z (by cases H; exact q1)
end Go.Vk
