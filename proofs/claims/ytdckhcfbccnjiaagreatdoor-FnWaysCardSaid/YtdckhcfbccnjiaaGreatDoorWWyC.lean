/- The code does what the functions of data say. Printed by program. -/
import Derived.Test.YtdckhcfbccnjiaaGreatDoorWWyB
namespace Go.Vk
open Value renaming int → I, slice → S, pointer → O, bool → B
open IntKind renaming i64 → J, u8 → K
open Bool renaming true → y, false → n
open Option renaming some → U, none → N
open Res renaming box → b, own → W
open Go.Proofs Go.RowKit
set_option maxHeartbeats 4000000
set_option maxRecDepth 100000
theorem vp (w : World) {p0 : bw} {p1 : bw} {r : Bool} (H : pr p0 p1 = U r)   :
    Calls Tryz.prog 185 #[.agg #[I J p0.g_.j_, I J p0.g_.c_, I J p0.z_.D_, I J p0.z_.C_], .agg #[I J p1.g_.j_, I J p1.g_.c_, I J p1.z_.D_, I J p1.z_.C_]] w (fun en w' => en = .returned (B r) ∧ Ext [] w w') := by
 unfold pr at H
 exact aH Tryz.func185 z Tryz.ntmps185 z (St.init w []) <| sR <| ob _ z fun d => ob _ z fun e => oP z <| nR <| aa [.fa 188 1 2 tQ] z <| o1 z (rx 2 0 _ z cx z) <| aa [.fa 188 1 2 tQ] z <| o1 z (rx 2 1 _ z cx z) <| bE H fun f a H => oq z (qc z wU (fun c g => kl c (p0 := p0.z_) (p1 := p1.z_) a)) tt2 <| oPP z <| nT <| xr 4 z (by cases H; exact q1)
theorem vM (w : World) {Z : List Nat} {p0 : ab} {p1 : av} {p2 : List Int} {p3 : Bool} {c4 : List Value} {c5 : List Value} {a_2 : Option Addr} {n_2 c_2 : Nat} {r : List bw} (H : pn p0 p1 p2 p3 = U r) (HS : St w Z [] w) (g0 : (aJ).rd w Z p0 c4) (g1 : (cu).rd w Z p1 c5) (g2 : (ae eI 3).rd w Z p2 [S a_2 n_2 c_2]) :
    Calls Tryz.prog 170 #[.agg c4.toArray, .agg c5.toArray, S a_2 n_2 c_2, B p3] w (fun en w' => ∃ v, en = .returned v ∧ ∃ (a0 : Option Addr), ∃ (n0 : Nat), ∃ (c0 : Nat), ∃ (F0 : List Nat), v = S a0 n0 c0 ∧ St w Z [W (ae (bT) 188) F0 r [S a0 n0 c0]] w') := by
 obtain ⟨h3, h4, rfl, D, E⟩ := aB g0
 obtain ⟨a1, a2, rfl⟩ := aj D
 obtain ⟨a3, a4, rfl⟩ := aj E
 obtain ⟨h5, h6, rfl, F, G⟩ := aK g1
 obtain ⟨a5, a6, rfl⟩ := aj F
 obtain ⟨a7, a8, rfl⟩ := aj G
 obtain rfl := fM g2
 unfold pn at H
 refine aH Tryz.func170 z Tryz.ntmps170 z (HS) <| sR <| ob _ z fun u => ob _ z fun x => oP z <| nR <| ce (e := bT) z z z z oJ jR (fun _ => kp) fun C => oP z <| nQ <| ak <| sR <| o1 z (rx 0 0 _ z cg z) <| o1 z (rx 0 1 _ z cT z) <| bE H fun a9 f3 H => oq z (qc z vR (fun d c => fB d f3 (af (ad D d c) (ad E d c)) (aF (ad F d c) (ad G d c)))) tt2 <| oPP z <| aS [(26, B ((!a9) || ((p1.d_.length : Int) == 0))), (2, S a_2 p2.length c_2), (3, B p3), (4, O (U ⟨u, 0, N⟩)), (5, O (U ⟨x, 0, N⟩)), (9, S (U ⟨C, 0, N⟩) 0 0)] 5 ?_ (fun key => OW.sub (R := [(2, S a_2 p2.length c_2), (3, B p3), (4, O (U ⟨u, 0, N⟩)), (5, O (U ⟨x, 0, N⟩)), (9, S (U ⟨C, 0, N⟩) 0 0), (21, B (!a9))]) ?_ (sb z))
 ·refine oP z <| bE H fun f4 b2 H => aS [(32, B f4), (2, S a_2 p2.length c_2), (3, B p3), (4, O (U ⟨u, 0, N⟩)), (5, O (U ⟨x, 0, N⟩)), (9, S (U ⟨C, 0, N⟩) 0 0)] 5 ?_ (fun key => OW.sub (R := [(2, S a_2 p2.length c_2), (3, B p3), (4, O (U ⟨u, 0, N⟩)), (5, O (U ⟨x, 0, N⟩)), (9, S (U ⟨C, 0, N⟩) 0 0), (27, B ((!a9) || ((p1.d_.length : Int) == 0)))]) ?_ (sb z))
  ·refine nQ <| cI H z (fun H => ?_) (fun H => ?_)
   ·exact sR <| oPP z <| nT <| am <| bg (rs := [.tmp 8]) (vs := [S (U ⟨C, 0, N⟩) 0 0]) z ⟨z, Y⟩ (fun w' hw' => by
     obtain rfl := ai H
     exact ⟨_, z, (U ⟨C, 0, N⟩), 0, 0, [C], z, hw'.sel [2] z z⟩)
   ·refine ar <| ax <| ak <| sR <| oP z <| nQ <| az <| CW.at (iX (fun (s : Int) (f : List bw) (o : Option Addr) (q : Nat) (A : List Nat) => St w Z [b u 27 [S a1 p0.b_.length a2, S a3 p0.l_.length a4], b x 69 [S a5 p1.e_.length a6, S a7 p1.d_.length a8], W (ae (bT) 188) A f [S o f.length q]]) (fun s f o q A => [(2, S a_2 p2.length c_2), (3, B p3), (4, O (U ⟨u, 0, N⟩)), (5, O (U ⟨x, 0, N⟩)), (9, S o f.length q), (10, I J s)]) (fun kk => fun s f o q A => eG p2 p0 p1 p3 kk s f = U r) (fun _ _ _ _ _ H => ?_) (fun k1 c6 s f o q A H => ?_) be (0) (([] : List bw)) ((U ⟨C, 0, N⟩)) (0) ([C]) (H)) (ss [0, 1, 2] z z) (sb z)
    ·unfold eG at H
     exact absurd H (by simp)
    ·unfold eG at H
     refine ak <| sR <| aa [.p, .p, .lenS 31 3 aP, .p] z <| nQ <| cI H z (fun H => ?_) (fun H => ?_)
     ·refine ar <| ax <| ak <| az <| yJ (fun (L : Nat) (g : Int) (k : Int) (M : Nat) (l : Int) (m : Int) => St w Z [b L 66 [I J g, I J k], b M 186 [I J l, I J m], b u 27 [S a1 p0.b_.length a2, S a3 p0.l_.length a4], b x 69 [S a5 p1.e_.length a6, S a7 p1.d_.length a8], W (ae (bT) 188) A f [S o f.length q]]) (fun L g k M l m => [(2, S a_2 p2.length c_2), (3, B p3), (4, O (U ⟨u, 0, N⟩)), (5, O (U ⟨x, 0, N⟩)), (9, S o f.length q), (10, I J s), (11, O (U ⟨L, 0, N⟩)), (12, O (U ⟨M, 0, N⟩))]) (fun L g k M l m => nF f (eG p2 p0 p1 p3 k1) s g k l m = U r) (fun L g k M l m H => ?_) (fun J1 => ?_)
      ·unfold nF at H
       refine sR <| o1 z (rx 0 0 _ z cM z) <| o1 z (rx 0 1 _ z cx z) <| o1 z (bL [(0, [I J g, I J k]), (2, [I J l, I J m])] [I J g, I J k, I J l, I J m] z z jR DB z ⟨z, z, nl z, z, z, nl z, Y⟩ z) <| aA z z z z jR (fun _ => kp) fun P => sC 0 [I J g, I J k, I J l, I J m] [_, _, _, _] 5 z jR z <| nR <| aa [.p, .lenS 203 188 oJ, .p] z <| nQ <| ak <| az <| CW.at (fG (fun (t : Int) => St w Z [b P 188 [I J g, I J k, I J l, I J m], b u 27 [S a1 p0.b_.length a2, S a3 p0.l_.length a4], b x 69 [S a5 p1.e_.length a6, S a7 p1.d_.length a8], W (ae (bT) 188) A f [S o f.length q]]) (fun t => [(2, S a_2 p2.length c_2), (3, B p3), (4, O (U ⟨u, 0, N⟩)), (5, O (U ⟨x, 0, N⟩)), (9, S o f.length q), (10, I J s), (13, O (U ⟨P, 0, N⟩)), (14, I J t)]) (fun kk => fun t => jp f g k l m (eG p2 p0 p1 p3 k1) s kk t = U r) (fun _ H => ?_) (fun k2 c7 t H => ?_) be ((f.length : Int)) (H)) (ss [5, 2, 3, 4] z z) (sb z)
       ·unfold jp at H
        exact absurd H (by simp)
       ·unfold jp at H
        refine ak <| ak <| dW cj (by kernel_rfl) <| aa [.p, .p, .p] z <| bE H fun c8 b0 H => aS [(66, B c8), (2, S a_2 p2.length c_2), (3, B p3), (4, O (U ⟨u, 0, N⟩)), (5, O (U ⟨x, 0, N⟩)), (9, S o f.length q), (10, I J s), (13, O (U ⟨P, 0, N⟩)), (14, I J t)] 8 ?_ (fun key => OW.sub (R := [(2, S a_2 p2.length c_2), (3, B p3), (4, O (U ⟨u, 0, N⟩)), (5, O (U ⟨x, 0, N⟩)), (9, S o f.length q), (10, I J s), (13, O (U ⟨P, 0, N⟩)), (14, I J t), (58, B (decide (t > 0)))]) ?_ (sb z))
        ·refine cC <| ax <| cI H z (fun H => ?_) (fun H => ?_)
         ·exact ar <| ax <| az <| aW <| aa [.p, .p, .p] z <| ay <| cd <| cD (RW.at (c7 (J.wrap (t - 1)) (H)) (ss [0, 1, 2, 3] z z) (sb z))
         ·refine bF <| aN <| aR <| aO <| ax <| sR <| ce (e := bT) z z z z oJ jR (fun _ => kp) fun g6 => oPP z <| bE H fun c9 b3 H => vX (e := bT) (xs := f) z z z z oJ jR z z z b3 (fun d c => ap (e := ae (bT) 188) (r := 3) z d c) <| bE H fun b4 d0 H => qK (r := 4) (ys := c9) z z z z z z oJ jR z z z z z (BN (fun d c => ap (e := ae (bT) 188) (r := 3) z d c) b3) d0 (fun _ _ _ => kp) fun d1 d2 d3 => oP z <| nR <| oP z <| o1 z (rx 0 0 _ z jR z) <| rH ([(bw.mk (aq.mk g k) (bd.mk l m))] : List bw) [(0, [I J g, I J k, I J l, I J m])] z z z z z oJ jR z z z z ⟨z, z, nl z, Y⟩ z (fun _ => kp) (fun b5 => (?_ : OW _ _ _ (St w Z [b P 188 [I J g, I J k, I J l, I J m], b u 27 [S a1 p0.b_.length a2, S a3 p0.l_.length a4], b x 69 [S a5 p1.e_.length a6, S a7 p1.d_.length a8], W (ae (bT) 188) A f [S o f.length q], W (ae (bT) 188) d3 b4 [S d1 b4.length d2], W (ae (bT) 188) [b5] [(bw.mk (aq.mk g k) (bd.mk l m))] [S (U ⟨b5, 0, N⟩) ([(bw.mk (aq.mk g k) (bd.mk l m))] : List bw).length 1]]) _ _ _))
          exact bE H fun g7 b6 H => qK (r := 4) (ys := ([(bw.mk (aq.mk g k) (bd.mk l m))] : List bw)) z z z z z z oJ jR z z z z z (fun d c => ap (e := ae (bT) 188) (r := 5) z d c) b6 (fun _ _ _ => kp) fun g8 g9 h0 => ct z (fun d c => fh (i := 4) c z (ff b6)) fun f9 => oP z <| nQ <| aW <| aa [.p, .p, .p] z <| bE H fun d4 b7 H => vX (e := bT) (xs := f) z z z z oJ jR z z z b7 (fun d c => ap (e := ae (bT) 188) (r := 3) z d c) <| bE H fun d5 d6 H => qK (r := 4) (ys := d4) z z z z z z oJ jR z z z z z (BN (fun d c => ap (e := ae (bT) 188) (r := 3) z d c) b7) d6 (fun _ _ _ => kp) fun d7 d8 d9 => oP z <| ay <| cd <| ax <| aW <| aa [.p, .p, .p] z <| ay <| cD (RW.at (c6 (J.wrap (s + 1)) (d5) (d7) (d8) (d9) (H)) (ss [1, 2, 4] z z) (sb z))
        ·clear H
         have H := b0
         clear b0
         generalize (decide (t > 0)) = e0 at H key ⊢
         cases e0
         ·have H := ba z H
          refine aa [.p, .p, .p, .p, .p, .p, .p, .p] z ?_
          obtain rfl := ai H
          exact OW.sub key (sb z)
         ·have H := aZ z H
          refine o1 z (rx 0 0 _ z jR z) <| aa [.p, .p, .p] z <| bE H fun Q b8 H => bo (e := bT) (xs := f) (j := J.wrap (t - 1)) z z z z z oJ jR z (fun d c => ap (e := ae (bT) 188) (r := 3) z d c) b8 z <| o1 z (cA (cs := [I J Q.g_.j_, I J Q.g_.c_, I J Q.z_.D_, I J Q.z_.C_]) z z jR (oc (oB (fun d c => ap (e := ae (bT) 188) (r := 3) z d c) b8 (fun _ _ h => h)) z) z) <| bE H fun h1 e1 H => oq z (qc z FB (fun d c => vp d (p0 := (bw.mk (aq.mk g k) (bd.mk l m))) (p1 := Q) e1)) tt2 <| oP z <| ?_
          obtain rfl := ai H
          exact OW.sub key (sb z)
      ·refine bE H fun h2 b9 H => bE H fun a X H => qw 14 [(0, y), (1, y), (2, y), (3, y), (4, y), (5, y), (6, y)] (Br.alt 7 (Br.pre [(8, y), (9, y), (10, y)] (Br.alt 11 (Br.pre [(12, n), (13, n)] Br.done) (Br.pre [(12, n), (11, n), (13, n)] Br.done))) (Br.alt 11 (Br.pre [] (Br.alt 7 (Br.pre [(8, y), (9, y), (10, y), (12, n), (13, n)] Br.done) (Br.pre [(12, n), (7, n), (8, y), (9, y), (10, y), (13, n)] Br.done))) (Br.pre [(12, n)] (Br.alt 7 (Br.pre [(8, y), (9, y), (10, y), (11, n), (13, n)] Br.done) (Br.pre [(11, n), (7, n), (8, y), (9, y), (10, y), (13, n)] Br.done))))) (St w Z [b u 27 [S a1 p0.b_.length a2, S a3 p0.l_.length a4], b x 69 [S a5 p1.e_.length a6, S a7 p1.d_.length a8], W (ae (bT) 188) A f [S o f.length q]]) cj (by kernel_rfl) (aX (bv (aX (dI (bv (aX bn)))))) (tk 3 z) <| bu z (aw z) (rx 0 0 _ z cg z) <| bu z (aw z) (rx 0 1 _ z cT z) <| oPP z <| bo (e := eI) (xs := p2) (j := s) z z z z z aP ty3 z (ad g2) b9 (by rw [Nat.mul_one]) <| bu z (aw z) (aD z z ty3 (bD (ad g2) b9)) <| oP z <| aQ <| eM (tk 3 z) z ?_ ?_
       ·refine oq z (qc z xz (fun d c => kD d X (af (ad D d c) (ad E d c)) (aF (ad F d c) (ad G d c)))) (tk 3 z) <| aa [.p, .p, .p] z <| aQ <| eM (tk 3 z) z ?_ ?_
        ·exact aA z z z z cM (fun _ => (tk 3 z)) fun e2 => aA z z z z cx (fun _ => (tk 3 z)) fun e3 => bq (off := 0) [I J a.1.j_, I J a.1.c_] [_, _] (i := 3) z z z z z z cM z z (al z) z z z (tk 3 z) <| aQ <| cR <| sC 0 [I J a.2.D_, I J a.2.C_] [_, _] 4 z cx z <| ay <| XW.at (J1 (e2) (a.1.j_) (a.1.c_) (e3) (a.2.D_) (a.2.C_) (H)) (ss [3, 4, 0, 1, 2] z z) (sb z)
        exact dM (tk 3 z) z <| aA z z z z cx (fun _ => (tk 3 z)) fun e4 => aA z z z z cM (fun _ => (tk 3 z)) fun e5 => bq (off := 0) [I J a.1.j_, I J a.1.c_] [_, _] (i := 4) z z z z z z cM z z (al z) z z z (tk 3 z) <| aQ <| cR <| sC 0 [I J a.2.D_, I J a.2.C_] [_, _] 3 z cx z <| ay <| XW.at (J1 (e5) (a.1.j_) (a.1.c_) (e4) (a.2.D_) (a.2.C_) (H)) (ss [4, 3, 0, 1, 2] z z) (sb z)
       refine eM (tk 3 z) z ?_ ?_
       ·refine aA z z z z cM (fun _ => (tk 3 z)) fun c1 => aQ <| eM (tk 3 z) z ?_ ?_
        ·exact oq z (qc z xz (fun d c => kD d X (af (ad D d c) (ad E d c)) (aF (ad F d c) (ad G d c)))) (tk 3 z) <| aa [.p, .p, .p] z <| aA z z z z cx (fun _ => (tk 3 z)) fun e6 => bq (off := 0) [I J a.1.j_, I J a.1.c_] [_, _] (i := 3) z z z z z z cM z z (al z) z z z (tk 3 z) <| aQ <| cR <| sC 0 [I J a.2.D_, I J a.2.C_] [_, _] 4 z cx z <| ay <| XW.at (J1 (c1) (a.1.j_) (a.1.c_) (e6) (a.2.D_) (a.2.C_) (H)) (ss [3, 4, 0, 1, 2] z z) (sb z)
        exact dM (tk 3 z) z <| aA z z z z cx (fun _ => (tk 3 z)) fun e7 => oq z (qc z xz (fun d c => kD d X (af (ad D d c) (ad E d c)) (aF (ad F d c) (ad G d c)))) (tk 3 z) <| aa [.p, .p, .p] z <| bq (off := 0) [I J a.1.j_, I J a.1.c_] [_, _] (i := 3) z z z z z z cM z z (al z) z z z (tk 3 z) <| aQ <| cR <| sC 0 [I J a.2.D_, I J a.2.C_] [_, _] 4 z cx z <| ay <| XW.at (J1 (c1) (a.1.j_) (a.1.c_) (e7) (a.2.D_) (a.2.C_) (H)) (ss [3, 4, 0, 1, 2] z z) (sb z)
       refine dM (tk 3 z) z <| aA z z z z cx (fun _ => (tk 3 z)) fun c2 => aQ <| eM (tk 3 z) z ?_ ?_
       ·exact oq z (qc z xz (fun d c => kD d X (af (ad D d c) (ad E d c)) (aF (ad F d c) (ad G d c)))) (tk 3 z) <| aa [.p, .p, .p] z <| aA z z z z cM (fun _ => (tk 3 z)) fun e9 => bq (off := 0) [I J a.1.j_, I J a.1.c_] [_, _] (i := 4) z z z z z z cM z z (al z) z z z (tk 3 z) <| aQ <| cR <| sC 0 [I J a.2.D_, I J a.2.C_] [_, _] 3 z cx z <| ay <| XW.at (J1 (e9) (a.1.j_) (a.1.c_) (c2) (a.2.D_) (a.2.C_) (H)) (ss [4, 3, 0, 1, 2] z z) (sb z)
       exact dM (tk 3 z) z <| aA z z z z cM (fun _ => (tk 3 z)) fun f0 => oq z (qc z xz (fun d c => kD d X (af (ad D d c) (ad E d c)) (aF (ad F d c) (ad G d c)))) (tk 3 z) <| aa [.p, .p, .p] z <| bq (off := 0) [I J a.1.j_, I J a.1.c_] [_, _] (i := 4) z z z z z z cM z z (al z) z z z (tk 3 z) <| aQ <| cR <| sC 0 [I J a.2.D_, I J a.2.C_] [_, _] 3 z cx z <| ay <| XW.at (J1 (f0) (a.1.j_) (a.1.c_) (c2) (a.2.D_) (a.2.C_) (H)) (ss [4, 3, 0, 1, 2] z z) (sb z)
     ·exact bF <| aN <| aR <| aO <| ax <| sR <| oPP z <| nT <| bg (rs := [.tmp 8]) (vs := [S o f.length q]) z ⟨z, Y⟩ (fun w' hw' => by
       obtain rfl := ai H
       exact ⟨_, z, o, f.length, q, A, z, hw'.sel [2] z z⟩)
  ·clear H
   have H := b2
   clear b2
   generalize ((!a9) || ((p1.d_.length : Int) == 0)) = f6 at H key ⊢
   cases f6
   ·have H := ba z H
    refine o1 z (rx 0 0 _ z cg z) <| oP z <| bE H fun h7 f7 H => oq z (qc z zA (fun d c => jb d f7 (af (ad D d c) (ad E d c)) (ad g2 d c))) tt2 <| oP z <| oP z <| ?_
    obtain rfl := ai H
    exact OW.sub key (sb z)
   ·have H := aZ z H
    refine aa [.p, .p, .p, .p, .p] z ?_
    obtain rfl := ai H
    exact OW.sub key (sb z)
 ·generalize (!a9) = f8 at key ⊢
  cases f8
  ·exact aa [.fa 69 1 1 eE] z <| o1 z (r1 1 1 z kq z) <| aa [.lenS 67 31 iR, .p] z <| oP z <| OW.sub key (sb z)
  ·exact aa [.p, .p, .p, .p, .p] z <| OW.sub key (sb z)
theorem sL (w : World) {p0 : ab} {p1 : av} {p2 : List Int} {p3 : Bool} {u : List Value} {v : List Value} {a_2 : Option Addr} {n_2 c_2 : Nat} {r : bw × bd × Bool} (H : lr p0 p1 p2 p3 = U r) (X : (aJ).rd w [] p0 u) (Z : (cu).rd w [] p1 v) (P : (ae eI 3).rd w [] p2 [S a_2 n_2 c_2]) :
    Calls Tryz.prog 156 #[.agg u.toArray, .agg v.toArray, S a_2 n_2 c_2, B p3] w (fun en w' => en = .returned (.tuple #[.agg #[I J r.1.g_.j_, I J r.1.g_.c_, I J r.1.z_.D_, I J r.1.z_.C_], .agg #[I J r.2.1.D_, I J r.2.1.C_], B r.2.2]) ∧ Ext [] w w') := by
 obtain ⟨a0, a1, rfl, x, A⟩ := aB X
 obtain ⟨a2, a3, rfl⟩ := aj x
 obtain ⟨a4, a5, rfl⟩ := aj A
 obtain ⟨a6, a7, rfl, C, D⟩ := aK Z
 obtain ⟨a8, a9, rfl⟩ := aj C
 obtain ⟨b0, b1, rfl⟩ := aj D
 obtain rfl := fM P
 unfold lr at H
 refine aH Tryz.func156 z Tryz.ntmps156 z (St.init w []) <| sR <| ob _ z fun b2 => ob _ z fun b3 => aA z z z z jR (fun _ => kp) fun E => aA z z z z cx (fun _ => kp) fun m => oP z <| nR <| o1 z (rx 0 0 _ z cg z) <| o1 z (rx 0 1 _ z cT z) <| oPP z <| bE H fun k Q H => au z EI z z z z (fun d a => vM d Q (a.carve [] z z) (af (ad x d a) (ad A d a)) (aF (ad C d a) (ad D d a)) (ad P d a)) fun b4 d w2 a M => ?_
 obtain ⟨o, b5, q, F, rfl, s⟩ := M
 obtain rfl := aI (i := 0) s z
 refine ⟨St w [] [_, _, _, _, _], a.comp [] z z s, fun _ _ => Y, ?_⟩
 refine oP z <| nQ <| ak <| sR <| aa [.p, .lenS 203 188 oJ, .p] z <| nQ <| cI H z (fun H => ?_) (fun H => ?_)
 ·exact sR <| o1 z (bL [] [I J 0, I J 0, I J 0, I J 0] z z jR DB z Y z) <| o1 z (bL [] [I J 0, I J 0] z z cx sW z Y z) <| sC 0 [I J 0, I J 0, I J 0, I J 0] [_, _, _, _] 2 z jR z <| sC 0 [I J 0, I J 0] [_, _] 3 z cx z <| oP z <| nT <| am <| bg (rs := [.cell 8 188, .cell 9 186, .tmp 10]) (vs := [.agg #[I J 0, I J 0, I J 0, I J 0], .agg #[I J 0, I J 0], B n]) z ⟨⟨_, [I J 0, I J 0, I J 0, I J 0], _, _, _, z, jR, (bB (T := 188) 0 (bX (i := 2) z) z), z, z⟩, ⟨_, [I J 0, I J 0], _, _, _, z, cx, (bB (T := 186) 0 (bX (i := 3) z) z), z, z⟩, z, Y⟩ (fun w' hw' => by
   obtain rfl := ai H
   exact ⟨z, hw'.ext⟩)
 ·refine ar <| ax <| sR <| o1 z (bL [(0, [I J 0]), (1, [I J 1])] [I J 0, I J 1] z z cx sW z ⟨z, z, nl z, z, z, nl z, Y⟩ z) <| aA z z z z cx (fun _ => kp) fun t => sC 0 [I J 0, I J 1] [_, _] 5 z cx z <| nQ <| wq (fun (f : Int) (g : Int) => St w [] [W (ae (bT) 188) F k [S o k.length q], b t 186 [I J f, I J g], b E 188 [I J 0, I J 0, I J 0, I J 0], b m 186 [I J 0, I J 0]]) (fun f g => [(8, O (U ⟨E, 0, N⟩)), (9, O (U ⟨m, 0, N⟩)), (11, S o k.length q), (12, O (U ⟨t, 0, N⟩))]) (fun f g => jG k f g = U r) (fun f g H => ?_) (fun R => ?_)
  ·unfold jG at H
   exact ak <| dj 5 [(0, y), (1, y), (2, y), (3, y), (4, n)] (St w [] [W (ae (bT) 188) F k [S o k.length q], b t 186 [I J f, I J g], Res.nil, b m 186 [I J 0, I J 0]]) cj (by kernel_rfl) (aX bn) (sm [y, y, n, y] z) <| oP z <| bE H fun c G H => bo (e := bT) (xs := k) (j := 0) z z z z z oJ jR z (fun d a => ap (e := ae (bT) 188) (r := 0) z d a) G z <| bu z (aw z) (cA (cs := [I J c.g_.j_, I J c.g_.c_, I J c.z_.D_, I J c.z_.C_]) z z jR (oc (oB (fun d a => ap (e := ae (bT) 188) (r := 0) z d a) G (fun _ _ h => h)) z) z) <| bu z (aw z) (rx 0 1 _ z cx z) <| bq (off := 0) [I J c.g_.j_, I J c.g_.c_, I J c.z_.D_, I J c.z_.C_] [_, _, _, _] (i := 2) z z z z z z jR z z (al z) z z z (sm [y, y, n, y] z) <| aQ <| kd <| sC 0 [I J f, I J g] [_, _] 3 z cx z <| oP z <| nT <| bg (rs := [.cell 8 188, .cell 9 186, .tmp 10]) (vs := [.agg #[I J c.g_.j_, I J c.g_.c_, I J c.z_.D_, I J c.z_.C_], .agg #[I J f, I J g], B y]) z ⟨⟨_, [I J c.g_.j_, I J c.g_.c_, I J c.z_.D_, I J c.z_.C_], _, _, _, z, jR, (bB (T := 188) 0 (bX (i := 2) z) z), z, z⟩, ⟨_, [I J f, I J g], _, _, _, z, cx, (bB (T := 186) 0 (bX (i := 3) z) z), z, z⟩, z, Y⟩ (fun w' hw' => by
    obtain rfl := ai H
    exact ⟨z, hw'.ext⟩)
  ·refine sR <| aa [.p, .lenS 203 188 oJ, .p] z <| nQ <| cI H z (fun H => ?_) (fun H => ?_)
   ·exact aW <| oP z <| bE H fun l L H => bo (e := bT) (xs := k) (j := 1) z z z z z oJ jR z (fun d a => ap (e := ae (bT) 188) (r := 4) z d a) L z <| aa [.fa 188 1 2 tQ] z <| o1 z (cA (cs := [I J l.z_.D_, I J l.z_.C_]) z z cx (EN (oc (oB (fun d a => ap (e := ae (bT) 188) (r := 4) z d a) L (fun _ _ h => h)) z) 2 2) z) <| sC 0 [I J l.z_.D_, I J l.z_.C_] [_, _] 5 z cx z <| ay <| XW.at (R (l.z_.D_) (l.z_.C_) (H)) (ss [4, 5, 2, 3] z z) (sb z)
   ·exact ar <| XW.at (R (0) (1) (H)) (ss [4, 5, 2, 3] z z) (sb z)
theorem kT (w : World) {p0 : bd} {r : Bool} (H : iA p0 = U r)   :
    Calls Tryz.prog 171 #[.agg #[I J p0.D_, I J p0.C_]] w (fun en w' => en = .returned (B r) ∧ Ext [] w w') := by
 unfold iA at H
 refine aH Tryz.func171 z Tryz.ntmps171 z (St.init w []) <| sR <| ob _ z fun c => oP z <| nR <| o1 z (rx 0 0 _ z cx z) <| bE H fun a d H => oq z (qc z vI (fun f g => jK f (p0 := p0) d)) tt2 <| oP z <| aS [(11, B (a && (decide (p0.D_ ≤ p0.C_)))), (2, B n)] 6 ?_ (fun key => OW.sub (R := [(1, O (U ⟨c, 0, N⟩)), (2, B n), (5, B a)]) ?_ (sb z))
 ·exact oP z <| nT <| xr 2 z (by cases H; exact q1)
 ·generalize a = e at key ⊢
  cases e
  ·exact aa [.p, .p, .p, .p, .p, .p] z <| OW.sub key (sb z)
  ·exact aa [.fa 186 0 0 nD] z <| o1 z (r1 0 0 z ty3 z) <| aa [.fa 186 1 1 mS] z <| o1 z (r1 1 0 z ty3 z) <| oP z <| oP z <| OW.sub key (sb z)
theorem uK (w : World) {s : List Nat} {p0 : List Int} {p1 : List Int} {a_0 : Option Addr} {n_0 c_0 : Nat} {a_1 : Option Addr} {n_1 c_1 : Nat} {r : (List Int) × Bool} (H : nf p0 p1 = U r) (HS : St w s [] w) (t : (ae eI 3).rd w s p0 [S a_0 n_0 c_0]) (D : (ae eI 3).rd w s p1 [S a_1 n_1 c_1]) :
    Calls Tryz.prog 200 #[S a_0 n_0 c_0, S a_1 n_1 c_1] w (fun en w' => ∃ v, en = .returned v ∧ ∃ (a0 : Option Addr), ∃ (n0 : Nat), ∃ (c0 : Nat), ∃ (F0 : List Nat), v = .tuple #[S a0 n0 c0, B r.2] ∧ St w s [W (ae eI 3) F0 r.1 [S a0 n0 c0]] w') := by
 obtain rfl := fM t
 obtain rfl := fM D
 unfold nf at H
 refine aH Tryz.func200 z Tryz.ntmps200 z (HS) <| sR <| oPP z <| nR <| ce (e := eI) z z z z aP ty3 (fun _ => kp) fun f => oP z <| nQ <| ak <| sR <| oP z <| bE H fun E a5 H => oq z (qc z vF (fun c a => kn c a5 (ad t c a))) tt2 <| oPP z <| bE H fun u x H => aS [(18, B u), (0, S a_0 p0.length c_0), (1, S a_1 p1.length c_1), (6, S (U ⟨f, 0, N⟩) 0 0)] 4 ?_ (fun key => OW.sub (R := [(0, S a_0 p0.length c_0), (1, S a_1 p1.length c_1), (6, S (U ⟨f, 0, N⟩) 0 0), (14, B (!E))]) ?_ (sb z))
 ·refine oP z <| bE H fun a6 A H => aS [(24, B a6), (0, S a_0 p0.length c_0), (1, S a_1 p1.length c_1), (6, S (U ⟨f, 0, N⟩) 0 0)] 5 ?_ (fun key => OW.sub (R := [(0, S a_0 p0.length c_0), (1, S a_1 p1.length c_1), (6, S (U ⟨f, 0, N⟩) 0 0), (19, B u)]) ?_ (sb z))
  ·refine nQ <| cI H z (fun H => ?_) (fun H => ?_)
   ·exact sR <| aa [.p, .p, .p] z <| nT <| am <| bg (rs := [.tmp 4, .tmp 5]) (vs := [S (U ⟨f, 0, N⟩) 0 0, B n]) z ⟨z, z, Y⟩ (fun w' hw' => by
     obtain rfl := ai H
     exact ⟨_, z, (U ⟨f, 0, N⟩), 0, 0, [f], z, hw'.sel [0] z z⟩)
   ·refine ar <| ax <| sR <| oP z <| nQ <| ak <| sR <| oP z <| nQ <| az <| CW.at (wB (fun (d : List Int) (h : Option Addr) (l : Nat) (q : List Nat) (m : Int) (g : Int) => St w s [W (ae eI 3) q d [S h d.length l]]) (fun d h l q m g => [(0, S a_0 p0.length c_0), (1, S a_1 p1.length c_1), (6, S h d.length l), (7, I J m), (8, I J g)]) (fun kk => fun d h l q m g => h.isNone = n ∧ dY p0 p1 kk d m g = U r) (fun _ _ _ _ _ _ H => ?_) (fun k1 Z d h l q m g ⟨c2, H⟩ => ?_) be (([] : List Int)) ((U ⟨f, 0, N⟩)) (0) ([f]) (0) (0) (⟨z, H⟩)) (ss [0] z z) (sb z)
    ·unfold dY at H
     exact absurd H (by simp)
    ·unfold dY at H
     refine ak <| sR <| aa [.p, .p, .lenS 31 3 aP, .p] z <| nQ <| cI H z (fun H => ?_) (fun H => ?_)
     ·refine ar <| ax <| ak <| az <| ak <| dW cj (by kernel_rfl) <| oPP z <| bE H fun F G H => bo (e := eI) (xs := p0) (j := g) z z z z z aP ty3 z (ad t) G (by rw [Nat.mul_one]) <| o1 z (aD z z ty3 (bD (ad t) G)) <| oPP z <| bE H fun L a7 H => oq z (qc z BI (fun c a => ov c a7 (ad D c a))) tt2 <| aa [.p, .p, .p, .p] z <| cC <| ax <| sR <| oP z <| nQ <| wq (fun (o : Int) (k : Int) => St w s [W (ae eI 3) q d [S h d.length l]]) (fun o k => [(0, S a_0 p0.length c_0), (1, S a_1 p1.length c_1), (6, S h d.length l), (7, I J o), (8, I J g), (9, I J k)]) (fun o k => kJ d (dY p0 p1 k1) g o k = U r) (fun o k H => ?_) (fun J1 => ?_)
      ·unfold kJ at H
       exact aW <| oPP z <| bQ (val := I J) (h1 := fun _ => z) [k] [(0, [I J k])] z z z z z aP ty3 z z z ⟨z, z, nl z, Y⟩ z z (fun _ => kp) fun c3 => bE H fun a9 M H => cm (r := 0) (ys := ([k] : List Int)) z z z z z z aP ty3 z z z (ap (e := ae eI 3) (r := 1) z) M (fun _ _ _ => kp) fun b0 b1 b2 => ct z (fun c a => fh (i := 0) a z (ff M)) fun a1 => oP z <| ay <| cd <| ax <| aW <| aa [.p, .p, .p] z <| ay <| cD (RW.at (Z (a9) (b0) (b1) (b2) (o) (J.wrap (g + 1)) (⟨a1, H⟩)) (ss [0] z z) (sb z))
      ·refine sR <| oPP z <| nQ <| cI H z (fun H => ?_) (fun H => ?_)
       ·exact sR <| aa [.p, .p, .p] z <| nQ <| aW <| oP z <| ay <| XW.at (J1 (1) (J.wrap ((J.wrap ((J.wrap (F - L)) - m)) + 16777216)) (H)) (ss [0] z z) (sb z)
       ·exact ar <| XW.at (J1 (0) (J.wrap ((J.wrap (F - L)) - m)) (H)) (ss [0] z z) (sb z)
     ·refine bF <| aN <| aR <| aO <| ax <| sR <| oP z <| bE H fun P b3 H => au z Do z z z z (fun c a => pU c b3 (a.carve [] z z) (ap (e := ae eI 3) (r := 0) z c a)) fun c4 c w2 a a2 => ?_
      obtain ⟨Q, c5, X, b4, rfl, C⟩ := a2
      obtain rfl := aI (i := 0) C z
      refine ⟨St w s [_, _], a.comp [] z z C, fun _ _ => Y, ?_⟩
      exact oPP z <| nT <| bg (rs := [.tmp 4, .tmp 5]) (vs := [S Q P.length X, B y]) z ⟨z, z, Y⟩ (fun w' hw' => by
       obtain rfl := ai H
       exact ⟨_, z, Q, P.length, X, b4, z, hw'.sel [1] z z⟩)
  ·clear H
   have H := A
   clear A
   generalize u = b5 at H key ⊢
   cases b5
   ·have H := ba z H
    refine oPP z <| bE H fun c6 b6 H => oq z (qc z Bm (fun c a => nX c b6 (ad t c a) (ad D c a))) tt2 <| oP z <| oP z <| ?_
    obtain rfl := ai H
    exact OW.sub key (sb z)
   ·have H := aZ z H
    refine aa [.p, .p, .p, .p, .p] z ?_
    obtain rfl := ai H
    exact OW.sub key (sb z)
 ·clear H
  have H := x
  clear x
  generalize (!E) = b7 at H key ⊢
  cases b7
  ·have H := ba z H
   refine oP z <| bE H fun c7 b8 H => oq z (qc z vF (fun c a => kn c b8 (ad D c a))) tt2 <| oP z <| oP z <| ?_
   obtain rfl := ai H
   exact OW.sub key (sb z)
  ·have H := aZ z H
   refine aa [.p, .p, .p, .p] z ?_
   obtain rfl := ai H
   exact OW.sub key (sb z)
theorem tq (w : World) {g : List Nat} {p0 : bd} {p1 : bd} {r : (List Int) × (List Int) × Bool} (H : lZ p0 p1 = U r) (HS : St w g [] w) :
    Calls Tryz.prog 189 #[.agg #[I J p0.D_, I J p0.C_], .agg #[I J p1.D_, I J p1.C_]] w (fun en w' => ∃ v, en = .returned v ∧ ∃ (X : Option Addr), ∃ (Z : Nat), ∃ (c0 : Nat), ∃ (F0 : List Nat), ∃ (a1 : Option Addr), ∃ (n1 : Nat), ∃ (c1 : Nat), ∃ (F1 : List Nat), v = .tuple #[S X Z c0, S a1 n1 c1, B r.2.2] ∧ St w g [W (ae eI 3) F0 r.1 [S X Z c0], W (ae eI 3) F1 r.2.1 [S a1 n1 c1]] w') := by
 unfold lZ at H
 refine aH Tryz.func189 z Tryz.ntmps189 z (HS) <| sR <| ob _ z fun d => ob _ z fun f => aa [.p, .p, .p] z <| nQ <| ak <| sR <| o1 z (rx 0 0 _ z cx z) <| bE H fun u a4 H => oq z (qc z vI (fun c a => jK c (p0 := p0) a4)) tt2 <| oPP z <| bE H fun h j H => aS [(16, B h), (2, O (U ⟨d, 0, N⟩)), (3, O (U ⟨f, 0, N⟩))] 4 ?_ (fun key => OW.sub (R := [(2, O (U ⟨d, 0, N⟩)), (3, O (U ⟨f, 0, N⟩)), (12, B (!u))]) ?_ (sb z))
 ·refine oP z <| bE H fun a5 k H => aS [(22, B a5), (2, O (U ⟨d, 0, N⟩)), (3, O (U ⟨f, 0, N⟩))] 5 ?_ (fun key => OW.sub (R := [(2, O (U ⟨d, 0, N⟩)), (3, O (U ⟨f, 0, N⟩)), (17, B h)]) ?_ (sb z))
  ·refine nQ <| cI H z (fun H => ?_) (fun H => ?_)
   ·exact sR <| ce (e := eI) z z z z aP ty3 (fun _ => kp) fun l => ce (e := eI) z z z z aP ty3 (fun _ => kp) fun m => aa [.p, .p, .p] z <| nT <| am <| bg (rs := [.tmp 4, .tmp 5, .tmp 6]) (vs := [S (U ⟨l, 0, N⟩) 0 0, S (U ⟨m, 0, N⟩) 0 0, B n]) z ⟨z, z, z, Y⟩ (fun w' hw' => by
     obtain rfl := ai H
     exact ⟨_, z, (U ⟨l, 0, N⟩), 0, 0, [l], (U ⟨m, 0, N⟩), 0, 0, [m], z, hw'.sel [2, 3] z z⟩)
   ·refine ar <| ax <| ak <| dj 15 [(0, y), (1, y), (2, y), (3, y), (5, y), (6, y), (7, y), (8, y), (4, n), (9, n), (10, n), (11, y), (12, y), (13, y), (14, y)] (St w g [b d 186 [I J p0.D_, I J p0.C_], b f 186 [I J p1.D_, I J p1.C_]]) cj (by kernel_rfl) (aX bn) (tk 2 z) <| aa [.fa 186 0 0 nD] z <| bu z (aw z) (r1 0 0 z ty3 z) <| aa [.fa 186 1 1 mS] z <| bu z (aw z) (r1 1 1 z ty3 z) <| aa [.fa 186 0 0 nD] z <| bu z (aw z) (r1 0 1 z ty3 z) <| aa [.fa 186 1 1 mS] z <| bu z (aw z) (r1 1 0 z ty3 z) <| bE H fun b8 a6 H => au z ui z z z z (fun c a => hY c a6 (a.carve [] z z)) fun b9 c G a L => ?_
    obtain ⟨c2, c3, c4, c5, rfl, o⟩ := L
    obtain rfl := aI (i := 0) o z
    refine ⟨St w g [_, _, _], a.comp [] z z o, (tk 2 z), ?_⟩
    refine bE H fun c6 a7 H => au z ui z z z z (fun c a => hY c a7 (a.carve [] z z)) fun c7 c G a M => ?_
    obtain ⟨c8, c9, d0, d1, rfl, q⟩ := M
    obtain rfl := aI (i := 0) q z
    refine ⟨St w g [_, _, _, _], a.comp [] z z q, (tk 2 z), ?_⟩
    refine bE H fun x a8 H => au z FR z z z z (fun c a => uK c a8 (a.carve [] z z) (ap (e := ae eI 3) (r := 2) z c a) (ap (e := ae eI 3) (r := 3) z c a)) fun d2 c G a P => ?_
    obtain ⟨A, d3, C, a9, rfl, s⟩ := P
    obtain rfl := aI (i := 0) s z
    refine ⟨St w g [_, _, _, _, _], a.comp [] z z s, (tk 2 z), ?_⟩
    refine aa [.p, .p, .p, .p] z <| aQ <| kd <| oP z <| nR <| aa [.p, .fa 186 1 1 mS] z <| o1 z (r1 1 0 z ty3 z) <| aa [.fa 186 1 1 mS] z <| o1 z (r1 1 1 z ty3 z) <| bE H fun D b0 H => au z ui z z z z (fun c a => hY c b0 (a.carve [] z z)) fun d4 c G a Q => ?_
    obtain ⟨E, d5, F, b1, rfl, t⟩ := Q
    obtain rfl := aI (i := 0) t z
    refine ⟨St w g [_, _, _, _, _, _], a.comp [] z z t, fun _ _ => Y, ?_⟩
    exact aa [.p, .p, .p] z <| nT <| bg (rs := [.tmp 4, .tmp 5, .tmp 6]) (vs := [S A x.1.length C, S E D.length F, B y]) z ⟨z, z, z, Y⟩ (fun w' hw' => by
     obtain rfl := ai H
     exact ⟨_, z, A, x.1.length, C, a9, E, D.length, F, b1, z, hw'.sel [4, 5] z z⟩)
  ·clear H
   have H := k
   clear k
   generalize h = b2 at H key ⊢
   cases b2
   ·have H := ba z H
    refine o1 z (rx 0 0 _ z cx z) <| o1 z (rx 0 1 _ z cx z) <| bE H fun d6 b3 H => oq z (qc z wU (fun c a => kl c (p0 := p0) (p1 := p1) b3)) tt2 <| oP z <| oP z <| ?_
    obtain rfl := ai H
    exact OW.sub key (sb z)
   ·have H := aZ z H
    refine aa [.p, .p, .p, .p, .p] z ?_
    obtain rfl := ai H
    exact OW.sub key (sb z)
 ·clear H
  have H := j
  clear j
  generalize (!u) = b4 at H key ⊢
  cases b4
  ·have H := ba z H
   refine o1 z (rx 0 1 _ z cx z) <| bE H fun d7 b5 H => oq z (qc z vI (fun c a => jK c (p0 := p1) b5)) tt2 <| oP z <| oP z <| ?_
   obtain rfl := ai H
   exact OW.sub key (sb z)
  ·have H := aZ z H
   refine aa [.p, .p, .p, .p] z ?_
   obtain rfl := ai H
   exact OW.sub key (sb z)
theorem rJ (w : World) {p0 : Int} {r : Int} (H : nL p0 = U r)   :
    Calls Tryz.prog 191 #[I J p0] w (fun en w' => en = .returned (I J r) ∧ Ext [] w w') := by
 unfold nL at H
 refine aH Tryz.func191 z Tryz.ntmps191 z (St.init w []) <| sR <| oP z <| nQ <| ak <| sR <| oP z <| bE H fun d a H => oq z (qc z iF (fun c e => bl c a)) tt2 <| oP z <| nQ <| cI H z (fun H => ?_) (fun H => ?_)
 ·exact sR <| oP z <| nT <| am <| xr 2 z (by cases H; exact q1)
 ·exact ar <| ax <| sR <| aa [.p, .p, .p, .p, .p] z <| nT <| xr 2 z (by cases H; exact q1)
theorem uc (w : World) {p0 : bd} {p1 : bd} {p2 : Int} {p3 : Int} {r : Bool} (H : nk p0 p1 p2 p3 = U r)   :
    Calls Tryz.prog 173 #[.agg #[I J p0.D_, I J p0.C_], .agg #[I J p1.D_, I J p1.C_], I J p2, I J p3] w (fun en w' => en = .returned (B r) ∧ Ext [] w w') := by
 unfold nk at H
 refine aH Tryz.func173 z Tryz.ntmps173 z (St.init w []) <| sR <| ob _ z fun d => ob _ z fun f => oP z <| nQ <| ak <| sR <| o1 z (rx 0 0 _ z cx z) <| bE H fun D Z H => oq z (qc z yy (fun c a => kT c (p0 := p0) Z)) tt2 <| oPP z <| bE H fun j k H => aS [(23, B j), (2, I J p2), (3, I J p3), (4, O (U ⟨d, 0, N⟩)), (5, O (U ⟨f, 0, N⟩))] 4 ?_ (fun key => OW.sub (R := [(2, I J p2), (3, I J p3), (4, O (U ⟨d, 0, N⟩)), (5, O (U ⟨f, 0, N⟩)), (19, B (!D))]) ?_ (sb z))
 ·refine oP z <| bE H fun l m H => aS [(29, B l), (2, I J p2), (3, I J p3), (4, O (U ⟨d, 0, N⟩)), (5, O (U ⟨f, 0, N⟩))] 5 ?_ (fun key => OW.sub (R := [(2, I J p2), (3, I J p3), (4, O (U ⟨d, 0, N⟩)), (5, O (U ⟨f, 0, N⟩)), (24, B j)]) ?_ (sb z))
  ·refine oP z <| bE H fun o q H => aS [(34, B o), (2, I J p2), (3, I J p3), (4, O (U ⟨d, 0, N⟩)), (5, O (U ⟨f, 0, N⟩))] 4 ?_ (fun key => OW.sub (R := [(2, I J p2), (3, I J p3), (4, O (U ⟨d, 0, N⟩)), (5, O (U ⟨f, 0, N⟩)), (30, B l)]) ?_ (sb z))
   ·refine oP z <| bE H fun a0 s H => aS [(39, B a0), (2, I J p2), (3, I J p3), (4, O (U ⟨d, 0, N⟩)), (5, O (U ⟨f, 0, N⟩))] 4 ?_ (fun key => OW.sub (R := [(2, I J p2), (3, I J p3), (4, O (U ⟨d, 0, N⟩)), (5, O (U ⟨f, 0, N⟩)), (35, B o)]) ?_ (sb z))
    ·refine nQ <| cI H z (fun H => ?_) (fun H => ?_)
     ·exact sR <| oP z <| nT <| am <| xr 8 z (by cases H; exact q1)
     ·refine ar <| ax <| sR <| o1 z (rx 0 0 _ z cx z) <| o1 z (rx 0 1 _ z cx z) <| bE H fun c1 a1 H => au z Fu z z z z (fun c a => tq c (p0 := p0) (p1 := p1) a1 (a.carve [] z z)) fun c2 c h a E => ?_
      obtain ⟨c3, c4, c5, c6, c7, c8, c9, d0, rfl, g⟩ := E
      obtain rfl := aI (i := 0) g z
      obtain rfl := aI (i := 1) g z
      refine ⟨St w [] [_, _, _, _], a.comp [] z z g, fun _ _ => Y, ?_⟩
      refine aa [.p, .p, .p, .p, .p, .p, .p] z <| nR <| oPP z <| bE H fun d1 a2 H => au z xb z z z z (fun c a => kA c a2 (a.carve [] z z) (ap (e := ae eI 3) (r := 2) z c a) (ap (e := ae eI 3) (r := 2) z c a)) fun d2 c h a F => ?_
      obtain ⟨d3, d4, d5, d6, rfl, t⟩ := F
      obtain rfl := aI (i := 0) t z
      refine ⟨St w [] [_, _, _, _, _], a.comp [] z z t, fun _ _ => Y, ?_⟩
      refine aa [.p, .p, .p, .p, .p] z <| nR <| oPP z <| bE H fun d7 a3 H => au z ui z z z z (fun c a => hY c a3 (a.carve [] z z)) fun d8 c h a G => ?_
      obtain ⟨d9, e0, e1, e2, rfl, u⟩ := G
      obtain rfl := aI (i := 0) u z
      refine ⟨St w [] [_, _, _, _, _, _], a.comp [] z z u, fun _ _ => Y, ?_⟩
      refine bE H fun e3 a4 H => au z xb z z z z (fun c a => kA c a4 (a.carve [] z z) (ap (e := ae eI 3) (r := 4) z c a) (ap (e := ae eI 3) (r := 5) z c a)) fun e4 c h a L => ?_
      obtain ⟨e5, e6, e7, e9, rfl, v⟩ := L
      obtain rfl := aI (i := 0) v z
      refine ⟨St w [] [_, _, _, _, _, _, _], a.comp [] z z v, fun _ _ => Y, ?_⟩
      refine aa [.p, .p, .p, .p] z <| nR <| oPP z <| bE H fun f0 a5 H => au z xb z z z z (fun c a => kA c a5 (a.carve [] z z) (ap (e := ae eI 3) (r := 3) z c a) (ap (e := ae eI 3) (r := 3) z c a)) fun f1 c h a M => ?_
      obtain ⟨f2, f3, f4, f5, rfl, x⟩ := M
      obtain rfl := aI (i := 0) x z
      refine ⟨St w [] [_, _, _, _, _, _, _, _], a.comp [] z z x, fun _ _ => Y, ?_⟩
      refine aa [.p, .p, .p, .p, .p] z <| nR <| oPP z <| bE H fun f6 a6 H => oq z (qc z Dy (fun c a => rJ c a6)) tt2 <| bE H fun f7 a7 H => au z ui z z z z (fun c a => hY c a7 (a.carve [] z z)) fun f8 c h a P => ?_
      obtain ⟨f9, g0, g1, g2, rfl, A⟩ := P
      obtain rfl := aI (i := 0) A z
      refine ⟨St w [] [_, _, _, _, _, _, _, _, _], a.comp [] z z A, fun _ _ => Y, ?_⟩
      refine bE H fun g3 a8 H => au z xb z z z z (fun c a => kA c a8 (a.carve [] z z) (ap (e := ae eI 3) (r := 7) z c a) (ap (e := ae eI 3) (r := 8) z c a)) fun g4 c h a Q => ?_
      obtain ⟨g5, b7, b8, b9, rfl, C⟩ := Q
      obtain rfl := aI (i := 0) C z
      refine ⟨St w [] [_, _, _, _, _, _, _, _, _, _], a.comp [] z z C, fun _ _ => Y, ?_⟩
      exact aa [.p, .p, .p, .p] z <| nR <| oPP z <| bE H fun c0 X H => oq z (qc z Bm (fun c a => nX c X (ap (e := ae eI 3) (r := 6) z c a) (ap (e := ae eI 3) (r := 9) z c a))) tt2 <| oPP z <| nT <| xr 8 z (by cases H; exact q1)
    ·clear H
     have H := s
     clear s
     generalize o = a9 at H key ⊢
     cases a9
     ·have H := ba z H
      refine oP z <| bE H fun g6 b0 H => oq z (qc z iF (fun c a => bl c b0)) tt2 <| oP z <| oP z <| ?_
      obtain rfl := ai H
      exact OW.sub key (sb z)
     ·have H := aZ z H
      refine aa [.p, .p, .p, .p] z ?_
      obtain rfl := ai H
      exact OW.sub key (sb z)
   ·clear H
    have H := q
    clear q
    generalize l = b1 at H key ⊢
    cases b1
    ·have H := ba z H
     refine oP z <| bE H fun g7 b2 H => oq z (qc z iF (fun c a => bl c b2)) tt2 <| oP z <| oP z <| ?_
     obtain rfl := ai H
     exact OW.sub key (sb z)
    ·have H := aZ z H
     refine aa [.p, .p, .p, .p] z ?_
     obtain rfl := ai H
     exact OW.sub key (sb z)
  ·clear H
   have H := m
   clear m
   generalize j = b3 at H key ⊢
   cases b3
   ·have H := ba z H
    refine o1 z (rx 0 0 _ z cx z) <| o1 z (rx 0 1 _ z cx z) <| bE H fun g8 b4 H => oq z (qc z wU (fun c a => kl c (p0 := p0) (p1 := p1) b4)) tt2 <| oP z <| oP z <| ?_
    obtain rfl := ai H
    exact OW.sub key (sb z)
   ·have H := aZ z H
    refine aa [.p, .p, .p, .p, .p] z ?_
    obtain rfl := ai H
    exact OW.sub key (sb z)
 ·clear H
  have H := k
  clear k
  generalize (!D) = b5 at H key ⊢
  cases b5
  ·have H := ba z H
   refine o1 z (rx 0 1 _ z cx z) <| bE H fun g9 b6 H => oq z (qc z yy (fun c a => kT c (p0 := p1) b6)) tt2 <| oP z <| oP z <| ?_
   obtain rfl := ai H
   exact OW.sub key (sb z)
  ·have H := aZ z H
   refine aa [.p, .p, .p, .p] z ?_
   obtain rfl := ai H
   exact OW.sub key (sb z)
theorem vN (w : World) {p0 : cB} {p1 : Int} {r : Bool} (H : pi p0 p1 = U r)   :
    Calls Tryz.prog 174 #[.agg #[I J p0.G_, I J p0.H_, I J p0.I_, I J p0.m_, I J p0.a_, I J p0.E_, B p0.F_], I J p1] w (fun en w' => en = .returned (B r) ∧ Ext [] w w') := by
 unfold pi at H
 refine aH Tryz.func174 z Tryz.ntmps174 z (St.init w []) <| sR <| ob _ z fun a => oP z <| nQ <| ak <| dW cj (by kernel_rfl) <| o1 z (rx 0 0 _ z nU z) <| bE H fun g i H => oq z (qc z Am (fun c h => nO c (p0 := p0) i)) tt2 <| oP z <| bE H fun d e H => aS [(10, B d), (1, I J p1), (2, O (U ⟨a, 0, N⟩)), (4, B n)] 3 ?_ (fun key => OW.sub (R := [(1, I J p1), (2, O (U ⟨a, 0, N⟩)), (4, B n), (7, B g)]) ?_ (sb z))
 ·refine oP z <| bE H fun j f H => aS [(25, B j), (4, B n)] 14 ?_ (fun key => OW.sub (R := [(1, I J p1), (2, O (U ⟨a, 0, N⟩)), (4, B n), (11, B d)]) ?_ (sb z))
  ·exact oP z <| cC <| ax <| qT <| xr 4 z (by cases H; exact q1)
  ·clear H
   have H := f
   clear f
   generalize d = k at H key ⊢
   cases k
   ·have H := ba z H
    refine aa [.p, .p, .p, .p, .p, .p, .p, .p, .p, .p, .p, .p, .p, .p] z ?_
    obtain rfl := ai H
    exact OW.sub key (sb z)
   ·have H := aZ z H
    refine aa [.fa 130 0 0 vT] z <| o1 z (r1 0 0 z ty3 z) <| bE H fun q l H => oq z (qc z Dy (fun c h => rJ c l)) tt2 <| aa [.p, .p, .p, .fa 130 1 1 wD] z <| o1 z (r1 1 0 z ty3 z) <| aa [.p, .fa 130 1 1 wD] z <| o1 z (r1 1 0 z ty3 z) <| oPP z <| oP z <| ?_
    obtain rfl := ai H
    exact OW.sub key (sb z)
 ·clear H
  have H := e
  clear e
  generalize g = m at H key ⊢
  cases m
  ·have H := ba z H
   refine aa [.p, .p, .p] z ?_
   obtain rfl := ai H
   exact OW.sub key (sb z)
  ·have H := aZ z H
   refine oP z <| bE H fun s o H => oq z (qc z iF (fun c h => bl c o)) tt2 <| oP z <| ?_
   obtain rfl := ai H
   exact OW.sub key (sb z)
theorem tl (w : World) {p0 : cB} {p1 : bd} {p2 : bd} {p3 : Int} {r : Int} (H : my p0 p1 p2 p3 = U r)   :
    Calls Tryz.prog 157 #[.agg #[I J p0.G_, I J p0.H_, I J p0.I_, I J p0.m_, I J p0.a_, I J p0.E_, B p0.F_], .agg #[I J p1.D_, I J p1.C_], .agg #[I J p2.D_, I J p2.C_], I J p3] w (fun en w' => en = .returned (I J r) ∧ Ext [] w w') := by
 unfold my at H
 refine aH Tryz.func157 z Tryz.ntmps157 z (St.init w []) <| sR <| ob _ z fun c => ob _ z fun d => ob _ z fun e => oP z <| nQ <| ak <| az <| sR <| o1 z (rx 0 0 _ z nU z) <| bE H fun o q H => oq z (qc z Am (fun a f => nO a (p0 := p0) q)) tt2 <| oPP z <| bE H fun g h H => aS [(17, B g), (3, I J p3), (4, O (U ⟨c, 0, N⟩)), (5, O (U ⟨d, 0, N⟩)), (6, O (U ⟨e, 0, N⟩))] 4 ?_ (fun key => OW.sub (R := [(3, I J p3), (4, O (U ⟨c, 0, N⟩)), (5, O (U ⟨d, 0, N⟩)), (6, O (U ⟨e, 0, N⟩)), (13, B (!o))]) ?_ (sb z))
 ·refine oP z <| bE H fun i j H => aS [(22, B i), (3, I J p3), (4, O (U ⟨c, 0, N⟩)), (5, O (U ⟨d, 0, N⟩)), (6, O (U ⟨e, 0, N⟩))] 4 ?_ (fun key => OW.sub (R := [(3, I J p3), (4, O (U ⟨c, 0, N⟩)), (5, O (U ⟨d, 0, N⟩)), (6, O (U ⟨e, 0, N⟩)), (18, B g)]) ?_ (sb z))
  ·refine oP z <| bE H fun k l H => aS [(27, B k), (3, I J p3), (4, O (U ⟨c, 0, N⟩)), (5, O (U ⟨d, 0, N⟩)), (6, O (U ⟨e, 0, N⟩))] 4 ?_ (fun key => OW.sub (R := [(3, I J p3), (4, O (U ⟨c, 0, N⟩)), (5, O (U ⟨d, 0, N⟩)), (6, O (U ⟨e, 0, N⟩)), (23, B i)]) ?_ (sb z))
   ·refine oP z <| bE H fun s m H => aS [(33, B s), (3, I J p3), (4, O (U ⟨c, 0, N⟩)), (5, O (U ⟨d, 0, N⟩)), (6, O (U ⟨e, 0, N⟩))] 5 ?_ (fun key => OW.sub (R := [(3, I J p3), (4, O (U ⟨c, 0, N⟩)), (5, O (U ⟨d, 0, N⟩)), (6, O (U ⟨e, 0, N⟩)), (28, B k)]) ?_ (sb z))
    ·refine oP z <| nQ <| cI H z (fun H => ?_) (fun H => ?_)
     ·exact sR <| oP z <| nT <| aL <| am <| xr 8 z (by cases H; exact q1)
     ·refine sR <| aa [.fa 186 0 0 nD] z <| o1 z (r1 0 1 z ty3 z) <| oPP z <| nQ <| cI H z (fun H => ?_) (fun H => ?_)
      ·exact sR <| oP z <| nT <| aL <| am <| xr 8 z (by cases H; exact q1)
      ·refine sR <| o1 z (rx 0 1 _ z cx z) <| o1 z (rx 0 2 _ z cx z) <| aa [.p, .fa 130 0 0 vT] z <| o1 z (r1 0 0 z ty3 z) <| bE H fun L t H => oq z (qc z FH (fun a f => uc a (p0 := p1) (p1 := p2) t)) tt2 <| oP z <| nQ <| cI H z (fun H => ?_) (fun H => ?_)
       ·exact sR <| oP z <| nT <| aL <| am <| xr 8 z (by cases H; exact q1)
       ·refine sR <| o1 z (rx 0 0 _ z nU z) <| oP z <| bE H fun M u H => oq z (qc z EC (fun a f => vN a (p0 := p0) u)) tt2 <| oP z <| nQ <| cI H z (fun H => ?_) (fun H => ?_)
        ·exact sR <| oP z <| nT <| aL <| am <| xr 8 z (by cases H; exact q1)
        ·exact ar <| cd <| ax <| sR <| oP z <| nT <| xr 8 z (by cases H; exact q1)
    ·clear H
     have H := m
     clear m
     generalize k = v at H key ⊢
     cases v
     ·have H := ba z H
      refine o1 z (rx 0 1 _ z cx z) <| o1 z (rx 0 2 _ z cx z) <| bE H fun P x H => oq z (qc z wU (fun a f => kl a (p0 := p1) (p1 := p2) x)) tt2 <| oP z <| oP z <| ?_
      obtain rfl := ai H
      exact OW.sub key (sb z)
     ·have H := aZ z H
      refine aa [.p, .p, .p, .p, .p] z ?_
      obtain rfl := ai H
      exact OW.sub key (sb z)
   ·clear H
    have H := l
    clear l
    generalize i = A at H key ⊢
    cases A
    ·have H := ba z H
     refine o1 z (rx 0 2 _ z cx z) <| bE H fun Q C H => oq z (qc z yy (fun a f => kT a (p0 := p2) C)) tt2 <| oP z <| oP z <| ?_
     obtain rfl := ai H
     exact OW.sub key (sb z)
    ·have H := aZ z H
     refine aa [.p, .p, .p, .p] z ?_
     obtain rfl := ai H
     exact OW.sub key (sb z)
  ·clear H
   have H := j
   clear j
   generalize g = D at H key ⊢
   cases D
   ·have H := ba z H
    refine o1 z (rx 0 1 _ z cx z) <| bE H fun X E H => oq z (qc z yy (fun a f => kT a (p0 := p1) E)) tt2 <| oP z <| oP z <| ?_
    obtain rfl := ai H
    exact OW.sub key (sb z)
   ·have H := aZ z H
    refine aa [.p, .p, .p, .p] z ?_
    obtain rfl := ai H
    exact OW.sub key (sb z)
 ·clear H
  have H := h
  clear h
  generalize (!o) = F at H key ⊢
  cases F
  ·have H := ba z H
   refine oP z <| bE H fun Z G H => oq z (qc z iF (fun a f => bl a G)) tt2 <| oP z <| oP z <| ?_
   obtain rfl := ai H
   exact OW.sub key (sb z)
  ·have H := aZ z H
   refine aa [.p, .p, .p, .p] z ?_
   obtain rfl := ai H
   exact OW.sub key (sb z)
theorem vb (w : World) {p0 : ab} {p1 : cB} {p2 : aT} {m : List Value} {o : List Value} {r : aq × Int} (H : ou p0 p1 p2 = U r) (g0 : (aJ).rd w [] p0 m) (g2 : (aC).rd w [] p2 o) :
    Calls Tryz.prog 143 #[.agg m.toArray, .agg #[I J p1.G_, I J p1.H_, I J p1.I_, I J p1.m_, I J p1.a_, I J p1.E_, B p1.F_], .agg o.toArray] w (fun en w' => en = .returned (.tuple #[.agg #[I J r.1.j_, I J r.1.c_], I J r.2]) ∧ Ext [] w w') := by
 obtain ⟨a3, a4, rfl, h, j⟩ := aB g0
 obtain ⟨a5, a6, rfl⟩ := aj h
 obtain ⟨a7, a8, rfl⟩ := aj j
 obtain ⟨a9, b0, b1, b2, b3, b4, b5, b6, b7, b8, rfl, x, A, C, D, E, F, q, G, L, M⟩ := bj g2
 obtain rfl := x
 obtain rfl := A
 obtain ⟨b9, c0, rfl⟩ := aj C
 obtain rfl := D
 obtain ⟨c1, c2, rfl, k, l⟩ := aK E
 obtain ⟨c3, c4, rfl⟩ := aj k
 obtain ⟨c5, c6, rfl⟩ := aj l
 obtain rfl := F
 obtain ⟨c7, c8, rfl⟩ := aj q
 obtain rfl := G
 obtain rfl := L
 obtain rfl := M
 unfold ou at H
 refine aH Tryz.func143 z Tryz.ntmps143 z (St.init w []) <| sR <| ob _ z fun s => ob _ z fun t => ob _ z fun u => aA z z z z cM (fun _ => kp) fun f => oP z <| nR <| o1 z (rx 0 0 _ z cg z) <| aa [.fa 71 4 5 gk] z <| o1 z (rx 5 2 _ z cT z) <| aa [.fa 71 6 8 qo] z <| o1 z (r1 8 2 z cq z) <| aa [.fa 130 6 6 CN] z <| o1 z (r1 6 1 z ty4 z) <| bE H fun a P H => oq z (qc z Fl (fun d c => sL d P (af (ad h d c) (ad j d c)) (aF (ad k d c) (ad l d c)) (ad q d c))) tt2 <| aa [.p, .p, .p, .p] z <| aA z z z z jR (fun _ => kp) fun g => aA z z z z cx (fun _ => kp) fun v => sC 0 [I J a.1.g_.j_, I J a.1.g_.c_, I J a.1.z_.D_, I J a.1.z_.C_] [_, _, _, _] 4 z jR z <| sC 0 [I J a.2.1.D_, I J a.2.1.C_] [_, _] 5 z cx z <| oP z <| nQ <| ak <| sR <| aa [.fa 71 0 0 mg] z <| o1 z (r1 0 2 z ty4 z) <| oPP z <| aS [(30, B ((!p2.q_) || (!a.2.2))), (3, O (U ⟨s, 0, N⟩)), (4, O (U ⟨t, 0, N⟩)), (5, O (U ⟨u, 0, N⟩)), (6, O (U ⟨f, 0, N⟩)), (8, O (U ⟨g, 0, N⟩)), (9, O (U ⟨v, 0, N⟩))] 3 ?_ (fun key => OW.sub (R := [(3, O (U ⟨s, 0, N⟩)), (4, O (U ⟨t, 0, N⟩)), (5, O (U ⟨u, 0, N⟩)), (6, O (U ⟨f, 0, N⟩)), (8, O (U ⟨g, 0, N⟩)), (9, O (U ⟨v, 0, N⟩)), (10, B a.2.2), (27, B (!p2.q_))]) ?_ (sb z))
 ·refine nQ <| cI H z (fun H => ?_) (fun H => ?_)
  ·exact sR <| o1 z (bL [] [I J 0, I J 0] z z cM wE z Y z) <| sC 0 [I J 0, I J 0] [_, _] 3 z cM z <| oP z <| nT <| am <| bg (rs := [.cell 6 66, .tmp 7]) (vs := [.agg #[I J 0, I J 0], I J 4]) z ⟨⟨_, [I J 0, I J 0], _, _, _, z, cM, (bB (T := 66) 0 (bX (i := 3) z) z), z, z⟩, z, Y⟩ (fun w' hw' => by
    obtain rfl := ai H
    exact ⟨z, hw'.ext⟩)
  ·refine ar <| ax <| ak <| dW cj (by kernel_rfl) <| o1 z (rx 0 1 _ z nU z) <| aa [.fa 188 1 2 tQ] z <| o1 z (rx 2 4 _ z cx z) <| o1 z (rx 0 5 _ z cx z) <| o1 z (rx 0 0 _ z cg z) <| aa [.fa 71 4 5 gk] z <| o1 z (rx 5 2 _ z cT z) <| bE H fun c9 Q H => oq z (qc z AR (fun d c => iM d Q (af (ad h d c) (ad j d c)) (aF (ad k d c) (ad l d c)))) tt2 <| bE H fun e X H => oq z (qc z EG (fun d c => tl d (p0 := p1) (p1 := a.1.z_) (p2 := a.2.1) X)) tt2 <| oP z <| cC <| ax <| ak <| sR <| aa [.p, .p, .p] z <| aS [(46, B ((e == 1) || (e == 2))), (6, O (U ⟨f, 0, N⟩)), (8, O (U ⟨g, 0, N⟩)), (11, I J e)] 3 ?_ (fun key => OW.sub (R := [(6, O (U ⟨f, 0, N⟩)), (8, O (U ⟨g, 0, N⟩)), (11, I J e), (43, B (e == 1))]) ?_ (sb z))
   ·refine nQ <| cI H z (fun H => ?_) (fun H => ?_)
    ·exact sR <| aa [.fa 188 0 0 CF] z <| o1 z (rx 0 4 _ z cM z) <| oP z <| sC 0 [I J a.1.g_.j_, I J a.1.g_.c_] [_, _] 3 z cM z <| oP z <| nT <| am <| bg (rs := [.cell 6 66, .tmp 7]) (vs := [.agg #[I J a.1.g_.j_, I J a.1.g_.c_], I J e]) z ⟨⟨_, [I J a.1.g_.j_, I J a.1.g_.c_], _, _, _, z, cM, (bB (T := 66) 0 (bX (i := 3) z) z), z, z⟩, z, Y⟩ (fun w' hw' => by
      obtain rfl := ai H
      exact ⟨z, hw'.ext⟩)
    ·exact ar <| ax <| sR <| o1 z (bL [] [I J 0, I J 0] z z cM wE z Y z) <| oP z <| sC 0 [I J 0, I J 0] [_, _] 3 z cM z <| oP z <| nT <| bg (rs := [.cell 6 66, .tmp 7]) (vs := [.agg #[I J 0, I J 0], I J e]) z ⟨⟨_, [I J 0, I J 0], _, _, _, z, cM, (bB (T := 66) 0 (bX (i := 3) z) z), z, z⟩, z, Y⟩ (fun w' hw' => by
      obtain rfl := ai H
      exact ⟨z, hw'.ext⟩)
   ·generalize (e == 1) = Z at key ⊢
    cases Z
    ·exact oPP z <| oP z <| OW.sub key (sb z)
    ·exact aa [.p, .p, .p] z <| OW.sub key (sb z)
 ·generalize (!p2.q_) = a0 at key ⊢
  cases a0
  ·exact oPP z <| oP z <| OW.sub key (sb z)
  ·exact aa [.p, .p, .p] z <| OW.sub key (sb z)
theorem kW (w : World) {p0 : Int} {p1 : Int} {r : Int} (H : jw p0 p1 = U r)   :
    Calls Tryz.prog 159 #[I J p0, I J p1] w (fun en w' => en = .returned (I J r) ∧ Ext [] w w') := by
 unfold jw at H
 refine aH Tryz.func159 z Tryz.ntmps159 z (St.init w []) <| sR <| oP z <| nQ <| ak <| sR <| oP z <| bE H fun M a7 H => oq z (qc z iF (fun u q => bl u a7)) tt2 <| oPP z <| bE H fun a8 v H => aS [(17, B a8), (0, I J p0), (1, I J p1)] 5 ?_ (fun key => OW.sub (R := [(0, I J p0), (1, I J p1), (12, B (!M))]) ?_ (sb z))
 ·refine nQ <| cI H z (fun H => ?_) (fun H => ?_)
  ·exact sR <| oP z <| nT <| am <| xr 4 z (by cases H; exact q1)
  ·refine ar <| ax <| sR <| bQ (val := I J) (h1 := fun _ => z) [1] [(0, [I J 1])] z z z z z aP ty3 z z z ⟨z, z, nl z, Y⟩ z z (fun _ => kp) fun P => oP z <| nQ <| ak <| sR <| oP z <| nQ <| az <| CW.at (iX (fun (a : List Int) (k : Option Addr) (d : Nat) (l : List Nat) (f : Int) => St w [] [W (ae eI 3) l a [S k a.length d]]) (fun a k d l f => [(0, I J p0), (1, I J p1), (5, S k a.length d), (6, I J f)]) (fun kk => fun a k d l f => k.isNone = n ∧ cW p0 p1 kk a f = U r) (fun _ _ _ _ _ H => ?_) (fun k1 Q a k d l f ⟨b1, H⟩ => ?_) be (([1] : List Int)) ((U ⟨P, 0, N⟩)) (1) ([P]) (0) (⟨z, H⟩)) (ss [0] z z) (sb z)
   ·unfold cW at H
    exact absurd H (by simp)
   ·unfold cW at H
    refine ak <| sR <| aa [.p, .p, .p] z <| nQ <| cI H z (fun H => ?_) (fun H => ?_)
    ·refine ar <| ax <| ak <| az <| sR <| bQ (val := I J) (h1 := fun _ => z) [1] [(0, [I J 1])] z z z z z aP ty3 z z z ⟨z, z, nl z, Y⟩ z z (fun _ => kp) fun x => oP z <| nQ <| ak <| sR <| oP z <| nQ <| az <| CW.at (iX (fun (c : List Int) (h : Option Addr) (m : Nat) (o : List Nat) (g : Int) => St w [] [W (ae eI 3) l a [S k a.length d], W (ae eI 3) o c [S h c.length m]]) (fun c h m o g => [(0, I J p0), (1, I J p1), (5, S k a.length d), (6, I J f), (7, S h c.length m), (8, I J g)]) (fun kk => fun c h m o g => h.isNone = n ∧ fI a (cW p0 p1 k1) f kk c g = U r) (fun _ _ _ _ _ H => ?_) (fun k2 X c h m o g ⟨b2, H⟩ => ?_) be (([1] : List Int)) ((U ⟨x, 0, N⟩)) (1) ([x]) (1) (⟨z, H⟩)) (ss [0, 1] z z) (sb z)
     ·unfold fI at H
      exact absurd H (by simp)
     ·unfold fI at H
      refine ak <| sR <| aa [.p, .p, .lenS 31 3 aP, .p] z <| nQ <| cI H z (fun H => ?_) (fun H => ?_)
      ·exact ar <| ax <| ak <| az <| dj 12 [(0, y), (1, y), (2, y), (3, y), (4, y), (5, y), (6, y), (7, y), (8, y), (9, y), (10, y), (11, n)] (St w [] [W (ae eI 3) l a [S k a.length d], W (ae eI 3) o c [S h c.length m]]) cj (by kernel_rfl) (bv (aX (dI (bv (aX (bv (aX (dI (bv (aX bn)))))))))) (tk 2 z) <| aa [.p, .p, .p, .p] z <| bE H fun s A H => bo (e := eI) (xs := a) (j := J.wrap (g - 1)) z z z z z aP ty3 z (ap (e := ae eI 3) (r := 0) z) A (by rw [Nat.mul_one]) <| bu z (aw z) (aD z z ty3 (bD (ap (e := ae eI 3) (r := 0) z) A)) <| oPP z <| bE H fun t C H => bo (e := eI) (xs := a) (j := g) z z z z z aP ty3 z (ap (e := ae eI 3) (r := 0) z) C (by rw [Nat.mul_one]) <| bu z (aw z) (aD z z ty3 (bD (ap (e := ae eI 3) (r := 0) z) C)) <| oP z <| bQ (val := I J) (h1 := fun _ => z) [J.wrap (s + t)] [(0, [I J (J.wrap (s + t))])] z z z z z aP ty3 z z z ⟨z, z, nl z, Y⟩ z z (fun _ => (tk 2 z)) fun b4 => aQ <| kd <| bE H fun Z D H => cm (r := 1) (ys := ([J.wrap (s + t)] : List Int)) z z z z z z aP ty3 z z z (ap (e := ae eI 3) (r := 2) z) D (fun _ _ _ => kp) fun a0 a1 a2 => ct z (fun u q => fh (i := 1) q z (ff D)) fun G => oP z <| ay <| cd <| ax <| aW <| aa [.p, .p, .p] z <| ay <| cD (RW.at (X (Z) (a0) (a1) (a2) (J.wrap (g + 1)) (⟨G, H⟩)) (ss [0, 1] z z) (sb z))
      ·exact bF <| aN <| aR <| aO <| ax <| aW <| oP z <| bQ (val := I J) (h1 := fun _ => z) [1] [(0, [I J 1])] z z z z z aP ty3 z z z ⟨z, z, nl z, Y⟩ z z (fun _ => kp) fun b5 => bE H fun a3 E H => cm (r := 1) (ys := ([1] : List Int)) z z z z z z aP ty3 z z z (ap (e := ae eI 3) (r := 2) z) E (fun _ _ _ => kp) fun a4 a5 a6 => ct z (fun u q => fh (i := 1) q z (ff E)) fun L => oP z <| ay <| cd <| ax <| aW <| aa [.p, .p, .p] z <| ay <| cD (RW.at (Q (a3) (a4) (a5) (a6) (J.wrap (f + 1)) (⟨L, H⟩)) (ss [1] z z) (sb z))
    ·exact bF <| aN <| aR <| aO <| ax <| sR <| oPP z <| bE H fun b6 F H => bo (e := eI) (xs := a) (j := p1) z z z z z aP ty3 z (ap (e := ae eI 3) (r := 0) z) F (by rw [Nat.mul_one]) <| o1 z (aD z z ty3 (bD (ap (e := ae eI 3) (r := 0) z) F)) <| oP z <| nT <| xr 4 z (by cases H; exact q1)
 ·clear H
  have H := v
  clear v
  generalize (!M) = a9 at H key ⊢
  cases a9
  ·have H := ba z H
   refine oPP z <| bE H fun b7 b0 H => oq z (qc z iF (fun u q => bl u b0)) tt2 <| oP z <| oP z <| ?_
   obtain rfl := ai H
   exact OW.sub key (sb z)
  ·have H := aZ z H
   refine aa [.p, .p, .p, .p, .p] z ?_
   obtain rfl := ai H
   exact OW.sub key (sb z)
theorem sn (w : World) {p0 : bh} {a : List Value} {r : Int} (H : mX p0 = U r) (h : (jn).rd w [] p0 a) :
    Calls Tryz.prog 192 #[.agg a.toArray] w (fun en w' => en = .returned (I J r) ∧ Ext [] w w') := by
 obtain ⟨i, j, rfl, c, d⟩ := iK h
 obtain ⟨k, l, rfl⟩ := aj c
 obtain rfl := d
 unfold mX at H
 refine aH Tryz.func192 z Tryz.ntmps192 z (St.init w []) <| sR <| ob _ z fun m => oP z <| nQ <| ak <| sR <| o1 z (rx 0 0 _ z bR z) <| bE H fun o e H => oq z (qc z DF (fun f g => pT f e (bt (ad c f g) z))) tt2 <| oP z <| nQ <| cI H z (fun H => ?_) (fun H => ?_)
 ·exact sR <| oP z <| nT <| am <| xr 2 z (by cases H; exact q1)
 ·exact ar <| ax <| sR <| aa [.fa 152 0 0 qG] z <| o1 z (r1 0 0 z xa z) <| aa [.lenS 22 5 qN, .fa 152 1 1 pB] z <| o1 z (r1 1 0 z ty3 z) <| oPP z <| nT <| xr 2 z (by cases H; exact q1)
theorem wu (w : World) {k : List Nat} {p0 : bh} {o : List Value} {r : bh × Int × Bool} (H : pd p0 = U r) (HS : St w k [] w) (Q : (jn).rd w k p0 o) :
    Calls Tryz.prog 175 #[.agg o.toArray] w (fun en w' => ∃ v, en = .returned v ∧ ∃ (u : Option Addr), ∃ (x : Nat), ∃ (c0 : Nat), ∃ (R : List Nat), v = .tuple #[.agg #[S u x c0, I J r.1.c_], I J r.2.1, B r.2.2] ∧ St w k [W (ae e8 5) R r.1.t_ [S u x c0]] w') := by
 obtain ⟨X, Z, rfl, f, A⟩ := iK Q
 obtain ⟨C, D, rfl⟩ := aj f
 obtain rfl := A
 unfold pd at H
 refine aH Tryz.func175 z Tryz.ntmps175 z (HS) <| sR <| ob _ z fun E => aA z z z z bR (fun _ => kp) fun a1 => oPP z <| nR <| o1 z (rx 0 0 _ z bR z) <| bE H fun a F H => au z rR z z z z (fun h g => fz h F (g.carve [] z z) (bt (ad f h g) z)) fun a2 h w2 g t => ?_
 obtain ⟨c, a3, d, l, rfl, m⟩ := t
 obtain rfl := aI (i := 0) m z
 refine ⟨St w k [_, _, _], g.comp [] z z m, fun _ _ => Y, ?_⟩
 refine aA z z z z bR (fun _ => kp) fun G => sC 0 [S c a.t_.length d, I J a.c_] [_, _] 3 z bR z <| nQ <| ak <| sR <| o1 z (rx 0 0 _ z bR z) <| bE H fun a4 L H => oq z (qc z Fg (fun h g => sn h L (bt (ad f h g) z))) tt2 <| oP z <| nQ <| cI H z (fun H => ?_) (fun H => ?_)
 ·exact sR <| o1 z (rx 0 3 _ z bR z) <| sC 0 [S c a.t_.length d, I J a.c_] [_, _] 1 z bR z <| oPP z <| nT <| am <| bg (rs := [.cell 2 152, .tmp 3, .tmp 4]) (vs := [.agg #[S c a.t_.length d, I J a.c_], I J 0, B n]) z ⟨⟨_, [S c a.t_.length d, I J a.c_], _, _, _, z, bR, (bB (T := 152) 0 (bX (i := 1) z) z), z, z⟩, z, z, Y⟩ (fun w' hw' => by
   obtain rfl := ai H
   exact ⟨_, z, c, a.t_.length, d, l, z, hw'.sel [2] z z⟩)
 ·exact ar <| ax <| sR <| aa [.fa 152 1 1 pB] z <| o1 z (r1 1 0 z ty3 z) <| aa [.p, .fa 152 1 1 pB] z <| sC 1 [I J (J.wrap (p0.c_ + 2))] [_, _] 3 z ty3 z <| nQ <| ak <| dj 19 [(0, y), (1, y), (2, y), (3, y), (4, y), (5, y), (6, y), (7, y), (8, y), (9, y), (10, y), (11, y), (12, y), (13, y), (14, y), (15, y), (16, y), (17, y), (18, n)] (St w k [b E 152 [S C p0.t_.length D, I J p0.c_], Res.nil, W (ae e8 5) l a.t_ [S c a.t_.length d], b G 152 [S c a.t_.length d, I J (J.wrap (p0.c_ + 2))]]) cj (by kernel_rfl) (aX bn) (sm [y, n, y, y] z) <| bu z (aw z) (rx 0 3 _ z bR z) <| aa [.fa 152 0 0 qG] z <| bu z (aw z) (r1 0 0 z xa z) <| aa [.fa 152 1 1 pB] z <| bu z (aw z) (r1 1 0 z ty3 z) <| bE H fun M q H => bo (e := e8) (xs := p0.t_) (j := p0.c_) z z z z z qN ty5 z (ad f) q (by rw [Nat.mul_one]) <| bu z (aw z) (aD z z ty5 (bD (ad f) q)) <| aa [.cv 5 3 J us5 in3, .p, .fa 152 0 0 qG] z <| bu z (aw z) (r1 0 0 z xa z) <| aa [.fa 152 1 1 pB] z <| bu z (aw z) (r1 1 0 z ty3 z) <| oP z <| bE H fun P s H => bo (e := e8) (xs := p0.t_) (j := J.wrap (p0.c_ + 1)) z z z z z qN ty5 z (ad f) s (by rw [Nat.mul_one]) <| bu z (aw z) (aD z z ty5 (bD (ad f) s)) <| aa [.cv 5 3 J us5 in3, .p] z <| bq (off := 0) [S c a.t_.length d, I J (J.wrap (p0.c_ + 2))] [_, _] (i := 1) z z z z z z bR z z (al z) z z z (sm [y, n, y, y] z) <| aQ <| kd <| oPP z <| nT <| bg (rs := [.cell 2 152, .tmp 3, .tmp 4]) (vs := [.agg #[S c a.t_.length d, I J (J.wrap (p0.c_ + 2))], I J (J.wrap ((J.wrap ((J.wrap M) * 256)) + (J.wrap P))), B y]) z ⟨⟨_, [S c a.t_.length d, I J (J.wrap (p0.c_ + 2))], _, _, _, z, bR, (bB (T := 152) 0 (bX (i := 1) z) z), z, z⟩, z, z, Y⟩ (fun w' hw' => by
   obtain rfl := ai H
   exact ⟨_, z, c, a.t_.length, d, l, z, hw'.sel [2] z z⟩)
theorem mb (w : World) {k : List Nat} {p0 : bh} {p1 : Int} {u : List Value} {r : bh × Int × Bool} (H : ma p0 p1 = U r) (HS : St w k [] w) (g0 : (jn).rd w k p0 u) :
    Calls Tryz.prog 158 #[.agg u.toArray, I J p1] w (fun en w' => ∃ v, en = .returned v ∧ ∃ (E : Option Addr), ∃ (F : Nat), ∃ (c0 : Nat), ∃ (F0 : List Nat), v = .tuple #[.agg #[S E F c0, I J r.1.c_], I J r.2.1, B r.2.2] ∧ St w k [W (ae e8 5) F0 r.1.t_ [S E F c0]] w') := by
 obtain ⟨a8, a9, rfl, l, G⟩ := iK g0
 obtain ⟨L, M, rfl⟩ := aj l
 obtain rfl := G
 unfold ma at H
 refine aH Tryz.func158 z Tryz.ntmps158 z (HS) <| sR <| ob _ z fun m => aA z z z z bR (fun _ => kp) fun x => oPP z <| nR <| o1 z (rx 0 0 _ z bR z) <| bE H fun a P H => au z EK z z z z (fun g c => wu g P (c.carve [] z z) (bt (ad l g c) z)) fun b0 g w2 c C => ?_
 obtain ⟨d, b1, e, A, rfl, o⟩ := C
 obtain rfl := aI (i := 0) o z
 refine ⟨St w k [_, _, _], c.comp [] z z o, fun _ _ => Y, ?_⟩
 refine aa [.p, .p, .p, .p] z <| aA z z z z bR (fun _ => kp) fun q => sC 0 [S d a.1.t_.length e, I J a.1.c_] [_, _] 3 z bR z <| oPP z <| nQ <| ak <| sR <| aa [.p, .p, .p] z <| bE H fun Q s H => aS [(22, B Q), (1, I J p1), (2, O (U ⟨m, 0, N⟩)), (4, O (U ⟨x, 0, N⟩)), (7, O (U ⟨q, 0, N⟩)), (8, I J a.2.1)] 4 ?_ (fun key => OW.sub (R := [(1, I J p1), (2, O (U ⟨m, 0, N⟩)), (4, O (U ⟨x, 0, N⟩)), (7, O (U ⟨q, 0, N⟩)), (8, I J a.2.1), (18, B (!a.2.2))]) ?_ (sb z))
 ·refine nQ <| cI H z (fun H => ?_) (fun H => ?_)
  ·refine sR <| o1 z (rx 0 0 _ z bR z) <| bE H fun f X H => au z rR z z z z (fun g c => fz g X (c.carve [] z z) (bt (ad l g c) z)) fun b2 g w2 c D => ?_
   obtain ⟨h, b3, j, Z, rfl, t⟩ := D
   obtain rfl := aI (i := 0) t z
   refine ⟨St w k [_, _, _, _, _], c.comp [] z z t, fun _ _ => Y, ?_⟩
   exact sC 0 [S h f.t_.length j, I J f.c_] [_, _] 1 z bR z <| oPP z <| nT <| am <| bg (rs := [.cell 4 152, .tmp 5, .tmp 6]) (vs := [.agg #[S h f.t_.length j, I J f.c_], I J 0, B n]) z ⟨⟨_, [S h f.t_.length j, I J f.c_], _, _, _, z, bR, (bB (T := 152) 0 (bX (i := 1) z) z), z, z⟩, z, z, Y⟩ (fun w' hw' => by
    obtain rfl := ai H
    exact ⟨_, z, h, f.t_.length, j, Z, z, hw'.sel [4] z z⟩)
  ·exact ar <| ax <| ak <| dj 5 [(0, y), (1, y), (2, y), (3, y), (4, n)] (St w k [b m 152 [S L p0.t_.length M, I J p0.c_], Res.nil, W (ae e8 5) A a.1.t_ [S d a.1.t_.length e], b q 152 [S d a.1.t_.length e, I J a.1.c_]]) cj (by kernel_rfl) (aX bn) (sm [y, n, y, y] z) <| bu z (aw z) (rx 0 3 _ z bR z) <| oPP z <| bE H fun a1 a2 H => bu z (aw z) (pY z z z a2) <| bq (off := 0) [S d a.1.t_.length e, I J a.1.c_] [_, _] (i := 1) z z z z z z bR z z (al z) z z z (sm [y, n, y, y] z) <| aQ <| kd <| oPP z <| nT <| bg (rs := [.cell 4 152, .tmp 5, .tmp 6]) (vs := [.agg #[S d a.1.t_.length e, I J a.1.c_], I J a1, B y]) z ⟨⟨_, [S d a.1.t_.length e, I J a.1.c_], _, _, _, z, bR, (bB (T := 152) 0 (bX (i := 1) z) z), z, z⟩, z, z, Y⟩ (fun w' hw' => by
    obtain rfl := ai H
    exact ⟨_, z, d, a.1.t_.length, e, A, z, hw'.sel [2] z z⟩)
 ·clear H
  have H := s
  clear s
  generalize (!a.2.2) = a3 at H key ⊢
  cases a3
  ·have H := ba z H
   refine oP z <| bE H fun b4 a4 H => oq z (qc z iF (fun g c => bl g a4)) tt2 <| oP z <| oP z <| ?_
   obtain rfl := ai H
   exact OW.sub key (sb z)
  ·have H := aZ z H
   refine aa [.p, .p, .p, .p] z ?_
   obtain rfl := ai H
   exact OW.sub key (sb z)
theorem sx (w : World) {q : List Nat} {p0 : Int} {p1 : Int} {p2 : Int} {r : List Int} (H : jt p0 p1 p2 = U r) (HS : St w q [] w) :
    Calls Tryz.prog 160 #[I J p0, I J p1, I J p2] w (fun en w' => ∃ v, en = .returned v ∧ ∃ (u : Option Addr), ∃ (x : Nat), ∃ (c0 : Nat), ∃ (P : List Nat), v = S u x c0 ∧ St w q [W (ae eI 3) P r [S u x c0]] w') := by
 unfold jt at H
 refine aH Tryz.func160 z Tryz.ntmps160 z (HS) <| sR <| oP z <| nR <| ce (e := eI) z z z z aP ty3 (fun _ => kp) fun j => oP z <| nQ <| ak <| sR <| aa [.p, .p, .p] z <| bE H fun Q A H => oq z (qc z yT (fun l k => kW l A)) tt2 <| oP z <| bE H fun R C H => oq z (qc z iF (fun l k => bl l C)) tt2 <| oP z <| nQ <| cI H z (fun H => ?_) (fun H => ?_)
 ·exact sR <| oPP z <| nT <| am <| bg (rs := [.tmp 6]) (vs := [S (U ⟨j, 0, N⟩) 0 0]) z ⟨z, Y⟩ (fun w' hw' => by
   obtain rfl := ai H
   exact ⟨_, z, (U ⟨j, 0, N⟩), 0, 0, [j], z, hw'.sel [0] z z⟩)
 ·refine ar <| ax <| sR <| oP z <| nQ <| ak <| az <| CW.at (wB (fun (g : Int) (a : List Int) (d : Option Addr) (f : Nat) (h : List Nat) (c : Int) => St w q [W (ae eI 3) h a [S d a.length f]]) (fun g a d f h c => [(0, I J p0), (1, I J p1), (2, I J g), (7, S d a.length f), (8, I J c)]) (fun kk => fun g a d f h c => d.isNone = n ∧ eW p1 p0 kk g a c = U r) (fun _ _ _ _ _ _ H => ?_) (fun Z m g a d f h c ⟨s, H⟩ => ?_) be (p2) (([] : List Int)) ((U ⟨j, 0, N⟩)) (0) ([j]) (0) (⟨z, H⟩)) (ss [0] z z) (sb z)
  ·unfold eW at H
   exact absurd H (by simp)
  ·unfold eW at H
   refine ak <| sR <| aa [.p, .lenS 31 3 aP, .p, .p] z <| nQ <| cI H z (fun H => ?_) (fun H => ?_)
   ·refine ar <| ax <| az <| sR <| aa [.p, .p, .p, .p, .p, .p, .lenS 31 3 aP, .p, .p] z <| bE H fun D E H => oq z (qc z yT (fun l k => kW l E)) tt2 <| oP z <| nQ <| ak <| sR <| aa [.p, .p, .p] z <| nQ <| cI H z (fun H => ?_) (fun H => ?_)
    ·exact aW <| oPP z <| bQ (val := I J) (h1 := fun _ => z) [c] [(0, [I J c])] z z z z z aP ty3 z z z ⟨z, z, nl z, Y⟩ z z (fun _ => kp) fun X => bE H fun F o H => cm (r := 0) (ys := ([c] : List Int)) z z z z z z aP ty3 z z z (ap (e := ae eI 3) (r := 1) z) o (fun _ _ _ => kp) fun G L M => ct z (fun l k => fh (i := 0) k z (ff o)) fun t => oP z <| nQ <| aW <| aa [.p, .p, .p] z <| ay <| cd <| cD (RW.at (m (g) (F) (G) (L) (M) (J.wrap (c + 1)) (⟨t, H⟩)) (ss [0] z z) (sb z))
    ·exact aW <| aa [.p, .p, .p, .p] z <| nQ <| aW <| aa [.p, .p, .p] z <| ay <| cd <| cD (RW.at (m (J.wrap (g - D)) (a) (d) (f) (h) (J.wrap (c + 1)) (⟨s, H⟩)) (ss [0] z z) (sb z))
   ·exact bF <| aN <| aR <| aO <| ax <| sR <| oPP z <| nT <| bg (rs := [.tmp 6]) (vs := [S d a.length f]) z ⟨z, Y⟩ (fun w' hw' => by
     obtain rfl := ai H
     exact ⟨_, z, d, a.length, f, h, z, hw'.sel [0] z z⟩)
theorem rp (w : World) {k : List Nat} {p0 : bh} {p1 : Int} {p2 : Int} {b1 : List Value} {r : bh × (List Int) × Bool} (H : kg p0 p1 p2 = U r) (HS : St w k [] w) (g0 : (jn).rd w k p0 b1) :
    Calls Tryz.prog 144 #[.agg b1.toArray, I J p1, I J p2] w (fun en w' => ∃ v, en = .returned v ∧ ∃ (a0 : Option Addr), ∃ (n0 : Nat), ∃ (c0 : Nat), ∃ (F0 : List Nat), ∃ (a1 : Option Addr), ∃ (n1 : Nat), ∃ (c1 : Nat), ∃ (F1 : List Nat), v = .tuple #[.agg #[S a0 n0 c0, I J r.1.c_], S a1 n1 c1, B r.2.2] ∧ St w k [W (ae e8 5) F0 r.1.t_ [S a0 n0 c0], W (ae eI 3) F1 r.2.1 [S a1 n1 c1]] w') := by
 obtain ⟨e5, e6, rfl, q, d0⟩ := iK g0
 obtain ⟨L, M, rfl⟩ := aj q
 obtain rfl := d0
 unfold kg at H
 refine aH Tryz.func144 z Tryz.ntmps144 z (HS) <| sR <| ob _ z fun x => aA z z z z bR (fun _ => kp) fun A => oPP z <| nQ <| yS (fun (s : Int) (t : Bool) (m : Nat) (f : List Int) (g : Option Addr) (h : Nat) (o : List Nat) (j : Int) => St w k [b x 152 [S L p0.t_.length M, I J p0.c_], b A 152 [S N 0 0, I J 0], b m 152 [S g f.length h, I J j], W (ae e8 5) o f [S g f.length h]]) (fun s t m f g h o j => [(1, I J p1), (2, I J p2), (3, O (U ⟨x, 0, N⟩)), (6, O (U ⟨A, 0, N⟩)), (9, O (U ⟨m, 0, N⟩)), (10, I J s), (11, B t)]) (fun s t m f g h o j => iP p0 p1 p2 s t f j = U r) (fun s t m f g h o j H => ?_) (fun J1 => ?_)
 ·unfold iP at H
  refine ak <| sR <| oPP z <| nQ <| cI H z (fun H => ?_) (fun H => ?_)
  ·refine sR <| o1 z (rx 0 0 _ z bR z) <| bE H fun l d1 H => au z rR z z z z (fun d a => fz d d1 (a.carve [] z z) (bt (ad q d a) z)) fun e7 d w2 a b6 => ?_
   obtain ⟨C, e9, D, d2, rfl, P⟩ := b6
   obtain rfl := aI (i := 0) P z
   refine ⟨St w k [_, _, _, _, _], a.comp [] z z P, fun _ _ => Y, ?_⟩
   exact ce (e := eI) z z z z aP ty3 (fun _ => kp) fun Q => sC 0 [S C l.t_.length D, I J l.c_] [_, _] 1 z bR z <| oPP z <| nT <| am <| bg (rs := [.cell 6 152, .tmp 7, .tmp 8]) (vs := [.agg #[S C l.t_.length D, I J l.c_], S (U ⟨Q, 0, N⟩) 0 0, B n]) z ⟨⟨_, [S C l.t_.length D, I J l.c_], _, _, _, z, bR, (bB (T := 152) 0 (bX (i := 1) z) z), z, z⟩, z, z, Y⟩ (fun w' hw' => by
    obtain rfl := ai H
    exact ⟨_, z, C, l.t_.length, D, d2, (U ⟨Q, 0, N⟩), 0, 0, [Q], z, hw'.sel [4, 5] z z⟩)
  ·refine ar <| ax <| ak <| dj 5 [(0, y), (1, y), (2, y), (3, y), (4, n)] (St w k [b x 152 [S L p0.t_.length M, I J p0.c_], b A 152 [S N 0 0, I J 0], b m 152 [S g f.length h, I J j], W (ae e8 5) o f [S g f.length h]]) cj (by kernel_rfl) (aX bn) (tk 4 z) <| bu z (aw z) (rx 0 2 _ z bR z) <| aa [.p, .p, .p] z <| bE H fun b2 d3 H => au z Fq z z z z (fun d a => sx d d3 (a.carve [] z z)) fun f0 d w2 a b7 => ?_
   obtain ⟨b3, f1, b4, d4, rfl, R⟩ := b7
   obtain rfl := aI (i := 0) R z
   refine ⟨St w k [_, _, _, _, _], a.comp [] z z R, (tk 4 z), ?_⟩
   exact aQ <| kd <| sC 0 [S g f.length h, I J j] [_, _] 1 z bR z <| oPP z <| nT <| bg (rs := [.cell 6 152, .tmp 7, .tmp 8]) (vs := [.agg #[S g f.length h, I J j], S b3 b2.length b4, B y]) z ⟨⟨_, [S g f.length h, I J j], _, _, _, z, bR, (bB (T := 152) 0 (bX (i := 1) z) z), z, z⟩, z, z, Y⟩ (fun w' hw' => by
    obtain rfl := ai H
    exact ⟨_, z, g, f.length, h, o, b3, b2.length, b4, d4, z, hw'.sel [3, 4] z z⟩)
 ·refine bE H fun d8 X H => bE H fun c u H => qw 12 [(0, y), (1, y), (2, y)] (Br.alt 3 (Br.pre [] (Br.alt 4 (Br.pre [(5, y), (6, y), (7, y), (8, y), (9, n), (10, n), (11, y)] Br.done) (Br.pre [(9, n), (4, n), (5, y), (6, y), (7, y), (8, y), (10, n), (11, y)] Br.done))) (Br.pre [(9, n), (3, n), (4, n), (5, y), (6, y), (7, y), (8, y), (10, n), (11, y)] Br.done)) (St w k [b x 152 [S L p0.t_.length M, I J p0.c_], b A 152 [S N 0 0, I J 0]]) cj (by kernel_rfl) (aX bn) (tk 2 z) <| bu z (aw z) (rx 0 0 _ z bR z) <| oPP z <| aQ <| eM (tk 2 z) z ?_ ?_
  ·refine oq z (qc z yT (fun d a => kW d X)) (tk 2 z) <| aQ <| eM (tk 2 z) z ?_ ?_
   ·refine au z Bg z z z z (fun d a => mb d u (a.carve [] z z) (bt (ad q d a) z)) (fun d9 d w2 a a8 => ?_)
    obtain ⟨Z, e0, a2, b8, rfl, E⟩ := a8
    obtain rfl := aI (i := 0) E z
    refine ⟨St w k [_, _, _], a.comp [] z z E, (tk 2 z), ?_⟩
    exact aa [.p, .p, .p, .p] z <| aA z z z z bR (fun _ => (tk 2 z)) fun b9 => bq (off := 0) [S Z c.1.t_.length a2, I J c.1.c_] [_, _] (i := 3) z z z z z z bR z z (al z) z z z (tk 2 z) <| oP z <| aQ <| cR <| oP z <| ay <| XW.at (J1 (c.2.1) (c.2.2) (b9) (c.1.t_) (Z) (a2) (b8) (c.1.c_) (H)) (ss [0, 1, 3, 2] z z) (sb z)
   refine dM (tk 2 z) z <| aA z z z z bR (fun _ => (tk 2 z)) fun c2 => au z Bg z z z z (fun d a => mb d u (a.carve [] z z) (bt (ad q d a) z)) fun e1 d w2 a a9 => ?_
   obtain ⟨a3, e2, a4, c3, rfl, F⟩ := a9
   obtain rfl := aI (i := 0) F z
   refine ⟨St w k [_, _, _, _], a.comp [] z z F, (tk 2 z), ?_⟩
   exact aa [.p, .p, .p, .p] z <| bq (off := 0) [S a3 c.1.t_.length a4, I J c.1.c_] [_, _] (i := 2) z z z z z z bR z z (al z) z z z (tk 2 z) <| oP z <| aQ <| cR <| oP z <| ay <| XW.at (J1 (c.2.1) (c.2.2) (c2) (c.1.t_) (a3) (a4) (c3) (c.1.c_) (H)) (ss [0, 1, 2, 3] z z) (sb z)
  refine dM (tk 2 z) z <| aA z z z z bR (fun _ => (tk 2 z)) fun c4 => oq z (qc z yT (fun d a => kW d X)) (tk 2 z) <| au z Bg z z z z (fun d a => mb d u (a.carve [] z z) (bt (ad q d a) z)) fun e3 d w2 a b0 => ?_
  obtain ⟨a5, e4, a6, c5, rfl, G⟩ := b0
  obtain rfl := aI (i := 0) G z
  refine ⟨St w k [_, _, _, _], a.comp [] z z G, (tk 2 z), ?_⟩
  exact aa [.p, .p, .p, .p] z <| bq (off := 0) [S a5 c.1.t_.length a6, I J c.1.c_] [_, _] (i := 2) z z z z z z bR z z (al z) z z z (tk 2 z) <| oP z <| aQ <| cR <| oP z <| ay <| XW.at (J1 (c.2.1) (c.2.2) (c4) (c.1.t_) (a5) (a6) (c5) (c.1.c_) (H)) (ss [0, 1, 2, 3] z z) (sb z)
theorem qW (w : World) {p0 : List Int} {a_0 : Option Addr} {n_0 c_0 : Nat} {r : Int} (H : mQ p0 = U r) (d : (ae eI 3).rd w [] p0 [S a_0 n_0 c_0]) :
    Calls Tryz.prog 178 #[S a_0 n_0 c_0] w (fun en w' => en = .returned (I J r) ∧ Ext [] w w') := by
 obtain rfl := fM d
 unfold mQ at H
 refine aH Tryz.func178 z Tryz.ntmps178 z (St.init w []) <| sR <| oP z <| nR <| oP z <| nQ <| ak <| sR <| oP z <| nQ <| az <| CW.at (hI (fun (a : Int) (c : Int) => St w [] []) (fun a c => [(0, S a_0 p0.length c_0), (3, I J a), (4, I J c)]) (fun kk => fun a c => gI p0 kk a c = U r) (fun _ _ H => ?_) (fun q f a c H => ?_) be ((-1)) (0) (H)) (ss [] z z) (sb z)
 ·unfold gI at H
  exact absurd H (by simp)
 ·unfold gI at H
  refine ak <| sR <| aa [.p, .p, .lenS 31 3 aP, .p] z <| nQ <| cI H z (fun H => ?_) (fun H => ?_)
  ·refine ar <| ax <| ak <| az <| ak <| dW cj (by kernel_rfl) <| aa [.p, .p, .p] z <| bE H fun k g H => aS [(23, B k), (0, S a_0 p0.length c_0), (3, I J a), (4, I J c)] 10 ?_ (fun key => OW.sub (R := [(0, S a_0 p0.length c_0), (3, I J a), (4, I J c), (13, B (decide (a < 0)))]) ?_ (sb z))
   ·refine cC <| ax <| cI H z (fun H => ?_) (fun H => ?_)
    ·exact aW <| oPP z <| ay <| cd <| ax <| aW <| aa [.p, .p, .p] z <| ay <| cD (RW.at (f (c) (J.wrap (c + 1)) (H)) (ss [] z z) (sb z))
    ·exact ar <| cd <| ax <| aW <| aa [.p, .p, .p] z <| ay <| cD (RW.at (f (a) (J.wrap (c + 1)) (H)) (ss [] z z) (sb z))
   ·clear H
    have H := g
    clear g
    generalize (decide (a < 0)) = l at H key ⊢
    cases l
    ·have H := ba z H
     refine oPP z <| bE H fun m h H => bo (e := eI) (xs := p0) (j := c) z z z z z aP ty3 z (ad d) h (by rw [Nat.mul_one]) <| o1 z (aD z z ty3 (bD (ad d) h)) <| oPP z <| bE H fun o i H => bo (e := eI) (xs := p0) (j := a) z z z z z aP ty3 z (ad d) i (by rw [Nat.mul_one]) <| o1 z (aD z z ty3 (bD (ad d) i)) <| oP z <| oP z <| ?_
     obtain rfl := ai H
     exact OW.sub key (sb z)
    ·have H := aZ z H
     refine aa [.p, .p, .p, .p, .p, .p, .p, .p, .p, .p] z ?_
     obtain rfl := ai H
     exact OW.sub key (sb z)
  ·exact bF <| aN <| aR <| aO <| ax <| sR <| oPP z <| nT <| xr 2 z (by cases H; exact q1)
theorem jF (w : World) {p0 : ab} {p1 : av} {p2 : aq} {t : List Value} {u : List Value} {r : Int} (H : lm p0 p1 p2 = U r) (g0 : (aJ).rd w [] p0 t) (g1 : (cu).rd w [] p1 u) :
    Calls Tryz.prog 161 #[.agg t.toArray, .agg u.toArray, .agg #[I J p2.j_, I J p2.c_]] w (fun en w' => en = .returned (I J r) ∧ Ext [] w w') := by
 obtain ⟨b4, b5, rfl, k, l⟩ := aB g0
 obtain ⟨Z, a0, rfl⟩ := aj k
 obtain ⟨a1, a2, rfl⟩ := aj l
 obtain ⟨b6, b7, rfl, v, x⟩ := aK g1
 obtain ⟨a3, a4, rfl⟩ := aj v
 obtain ⟨a5, a6, rfl⟩ := aj x
 unfold lm at H
 refine aH Tryz.func161 z Tryz.ntmps161 z (St.init w []) <| sR <| ob _ z fun A => ob _ z fun C => ob _ z fun D => oP z <| nR <| ce (e := eI) z z z z aP ty3 (fun _ => kp) fun E => oP z <| nQ <| ak <| sR <| oP z <| nQ <| az <| CW.at (iX (fun (d : List Int) (f : Option Addr) (h : Nat) (j : List Nat) (g : Int) => St w [] [b A 27 [S Z p0.b_.length a0, S a1 p0.l_.length a2], b C 69 [S a3 p1.e_.length a4, S a5 p1.d_.length a6], b D 66 [I J p2.j_, I J p2.c_], W (ae eI 3) j d [S f d.length h]]) (fun d f h j g => [(3, O (U ⟨A, 0, N⟩)), (4, O (U ⟨C, 0, N⟩)), (5, O (U ⟨D, 0, N⟩)), (7, S f d.length h), (8, I J g)]) (fun kk => fun d f h j g => f.isNone = n ∧ ep p0 p2 p1 kk d g = U r) (fun _ _ _ _ _ H => ?_) (fun k1 F d f h j g ⟨b1, H⟩ => ?_) be (([] : List Int)) ((U ⟨E, 0, N⟩)) (0) ([E]) (0) (⟨z, H⟩)) (ss [0, 1, 2, 3] z z) (sb z)
 ·unfold ep at H
  exact absurd H (by simp)
 ·unfold ep at H
  refine ak <| sR <| oP z <| o1 z (rx 0 0 _ z cg z) <| o1 z (rx 0 2 _ z cM z) <| bE H fun b8 a7 H => oq z (qc z yi (fun c a => gv c (p1 := p2) a7 (af (ad k c a) (ad l c a)))) tt2 <| oP z <| nQ <| cI H z (fun H => ?_) (fun H => ?_)
  ·refine ar <| ax <| ak <| az <| sR <| o1 z (rx 0 0 _ z cg z) <| o1 z (rx 0 1 _ z cT z) <| o1 z (rx 0 2 _ z cM z) <| oP z <| bE H fun b9 a8 H => au z DD z z z z (fun c a => nr c (p2 := p2) a8 (a.carve [] z z) (af (ad k c a) (ad l c a)) (aF (ad v c a) (ad x c a))) fun c0 c w2 a G => ?_
   obtain ⟨c1, c2, c3, c4, rfl, m⟩ := G
   obtain rfl := aI (i := 0) m z
   refine ⟨St w [] [_, _, _, _, _], a.comp [] z z m, fun _ _ => Y, ?_⟩
   refine oP z <| nQ <| ak <| sR <| aa [.p, .lenS 31 3 aP, .p] z <| nQ <| cI H z (fun H => ?_) (fun H => ?_)
   ·exact sR <| oP z <| nT <| am <| aL <| am <| bU <| aL <| am <| xr 6 z (by cases H; exact q1)
   ·exact ar <| ax <| aW <| oPP z <| bE H fun o L H => oq z (qc z yE (fun c a => mD c L (ap (e := ae eI 3) (r := 4) z c a))) tt2 <| bQ (val := I J) (h1 := fun _ => z) [o] [(0, [I J o])] z z z z z aP ty3 z z z ⟨z, z, nl z, Y⟩ z z (fun _ => kp) fun b2 => bE H fun M q H => cm (r := 3) (ys := ([o] : List Int)) z z z z z z aP ty3 z z z (ap (e := ae eI 3) (r := 5) z) q (fun _ _ _ => kp) fun P Q R => ct z (fun c a => fh (i := 3) a z (ff q)) fun s => oP z <| ay <| cd <| ax <| aW <| aa [.p, .p, .p] z <| ay <| cD (RW.at (F (M) (P) (Q) (R) (J.wrap (g + 1)) (⟨s, H⟩)) (ss [0, 1, 2, 3] z z) (sb z))
  ·exact bF <| aN <| aR <| aO <| ax <| sR <| oP z <| bE H fun b3 X H => oq z (qc z Ds (fun c a => qW c X (ap (e := ae eI 3) (r := 3) z c a))) tt2 <| oP z <| nT <| xr 6 z (by cases H; exact q1)
theorem fb (w : World) {j : List Nat} {p0 : av} {f : List Value} {r : av} (H : mI p0 = U r) (HS : St w j [] w) (t : (cu).rd w j p0 f) :
    Calls Tryz.prog 128 #[.agg f.toArray] w (fun en w' => ∃ v, en = .returned v ∧ ∃ (k : Option Addr), ∃ (l : Nat), ∃ (c0 : Nat), ∃ (u : List Nat), ∃ (m : Option Addr), ∃ (o : Nat), ∃ (c1 : Nat), ∃ (x : List Nat), v = .agg #[S k l c0, S m o c1] ∧ St w j [W (ae eI 3) u r.e_ [S k l c0], W (ae (ae eI 3) 31) x r.d_ [S m o c1]] w') := by
 obtain ⟨A, C, rfl, g, p⟩ := aK t
 obtain ⟨D, E, rfl⟩ := aj g
 obtain ⟨F, G, rfl⟩ := aj p
 unfold mI at H
 exact aH Tryz.func128 z Tryz.ntmps128 z (HS) <| sR <| ob _ z fun L => aA z z z z cT (fun _ => kp) fun M => nR <| ce (e := eI) z z z z aP ty3 (fun _ => kp) fun P => aa [.fa 69 0 0 jz] z <| o1 z (r1 0 0 z cq z) <| bE H fun a q H => cm (r := 2) (ys := p0.e_) z z z z z z aP ty3 z z z (ad g) q (fun _ _ _ => kp) fun c d s => o1 z (bL [(0, [S c a.length d])] [S c a.length d, S N 0 0] z z cT CX z ⟨z, z, nl z, Y⟩ z) <| sC 0 [S c a.length d, S N 0 0] [_, _] 1 z cT z <| nT <| fq (fun _ h => St.pushNil (e := ae eI 3) (T := 31) h) <| bg (rs := [.cell 2 69]) (vs := [.agg #[S c a.length d, S N 0 0]]) z ⟨⟨_, [S c a.length d, S N 0 0], _, _, _, z, cT, (bB (T := 69) 0 (bX (i := 1) z) z), z, z⟩, Y⟩ (fun w' hw' => by
  obtain rfl := ai H
  exact ⟨_, z, c, a.length, d, s, N, 0, 0, [], z, hw'.sel [2, 3] z z⟩)
theorem tE (w : World) {D : List Nat} {p0 : ab} {p1 : ah} {p2 : Int} {p3 : aq} {p4 : List (List Int)} {L1 : List Value} {L2 : List Value} {a_4 : Option Addr} {n_4 c_4 : Nat} {r : ah × Bool} (H : mt p0 p1 p2 p3 p4 = U r) (HS : St w D [] w) (g0 : (aJ).rd w D p0 L1) (g1 : (cz).rd w D p1 L2) (g4 : (ae (ae eI 3) 31).rd w D p4 [S a_4 n_4 c_4]) :
    Calls Tryz.prog 145 #[.agg L1.toArray, .agg L2.toArray, I J p2, .agg #[I J p3.j_, I J p3.c_], S a_4 n_4 c_4] w (fun en w' => ∃ v, en = .returned v ∧ ∃ (a0 : Option Addr), ∃ (n0 : Nat), ∃ (c0 : Nat), ∃ (F0 : List Nat), v = .tuple #[.agg #[S a0 n0 c0, I J r.1.k_], B r.2] ∧ St w D [W (ae (aC) 71) F0 r.1.a_ [S a0 n0 c0]] w') := by
 obtain ⟨HK, HL, rfl, d3, d4⟩ := aB g0
 obtain ⟨q0, q2, rfl⟩ := aj d3
 obtain ⟨q3, q4, rfl⟩ := aj d4
 obtain ⟨HM, HN, rfl, d5, P8⟩ := bZ g1
 obtain ⟨q5, q6, rfl⟩ := aj d5
 obtain rfl := P8
 obtain rfl := fM g4
 unfold mt at H
 refine aH Tryz.func145 z Tryz.ntmps145 z (HS) <| sR <| ob _ z fun a1 => ob _ z fun a2 => ob _ z fun b0 => aA z z z z bx (fun _ => kp) fun a3 => oP z <| nR <| o1 z (rx 0 1 _ z bx z) <| bE H fun o P9 H => au z vw z z z z (fun m c => je m P9 (c.carve [] z z) (aM (ad d5 m c) z)) fun HO m w2 c L5 => ?_
 obtain ⟨a4, HP, a5, n5, rfl, t5⟩ := L5
 obtain rfl := aI (i := 0) t5 z
 refine ⟨St w D [_, _, _, _, _], c.comp [] z z t5, fun _ _ => Y, ?_⟩
 refine aA z z z z bx (fun _ => kp) fun a6 => sC 0 [S a4 o.a_.length a5, I J o.k_] [_, _] 5 z bx z <| nQ <| ak <| sR <| o1 z (rx 0 0 _ z cg z) <| o1 z (rx 0 1 _ z bx z) <| bE H fun L3 Q0 H => oq z (qc z fn8 (fun m c => jH m Q0 (af (ad d3 m c) (ad d4 m c)) (aM (ad d5 m c) z))) tt2 <| oPP z <| bE H fun t6 t7 H => aS [(30, B t6), (2, I J p2), (4, S a_4 p4.length c_4), (5, O (U ⟨a1, 0, N⟩)), (6, O (U ⟨a2, 0, N⟩)), (8, O (U ⟨b0, 0, N⟩)), (10, O (U ⟨a3, 0, N⟩)), (12, O (U ⟨a6, 0, N⟩))] 8 ?_ (fun key => OW.sub (R := [(2, I J p2), (4, S a_4 p4.length c_4), (5, O (U ⟨a1, 0, N⟩)), (6, O (U ⟨a2, 0, N⟩)), (8, O (U ⟨b0, 0, N⟩)), (10, O (U ⟨a3, 0, N⟩)), (12, O (U ⟨a6, 0, N⟩)), (22, B (!L3))]) ?_ (sb z))
 ·refine oP z <| bE H fun t8 t9 H => aS [(39, B t8), (2, I J p2), (4, S a_4 p4.length c_4), (5, O (U ⟨a1, 0, N⟩)), (6, O (U ⟨a2, 0, N⟩)), (8, O (U ⟨b0, 0, N⟩)), (10, O (U ⟨a3, 0, N⟩)), (12, O (U ⟨a6, 0, N⟩))] 8 ?_ (fun key => OW.sub (R := [(2, I J p2), (4, S a_4 p4.length c_4), (5, O (U ⟨a1, 0, N⟩)), (6, O (U ⟨a2, 0, N⟩)), (8, O (U ⟨b0, 0, N⟩)), (10, O (U ⟨a3, 0, N⟩)), (12, O (U ⟨a6, 0, N⟩)), (31, B t6)]) ?_ (sb z))
  ·refine oP z <| bE H fun u0 r2 H => aS [(50, B u0), (2, I J p2), (4, S a_4 p4.length c_4), (5, O (U ⟨a1, 0, N⟩)), (6, O (U ⟨a2, 0, N⟩)), (8, O (U ⟨b0, 0, N⟩)), (10, O (U ⟨a3, 0, N⟩)), (12, O (U ⟨a6, 0, N⟩))] 10 ?_ (fun key => OW.sub (R := [(2, I J p2), (4, S a_4 p4.length c_4), (5, O (U ⟨a1, 0, N⟩)), (6, O (U ⟨a2, 0, N⟩)), (8, O (U ⟨b0, 0, N⟩)), (10, O (U ⟨a3, 0, N⟩)), (12, O (U ⟨a6, 0, N⟩)), (40, B t8)]) ?_ (sb z))
   ·refine oP z <| bE H fun q9 r3 H => aS [(56, B q9), (2, I J p2), (4, S a_4 p4.length c_4), (5, O (U ⟨a1, 0, N⟩)), (6, O (U ⟨a2, 0, N⟩)), (8, O (U ⟨b0, 0, N⟩)), (10, O (U ⟨a3, 0, N⟩)), (12, O (U ⟨a6, 0, N⟩))] 5 ?_ (fun key => OW.sub (R := [(2, I J p2), (4, S a_4 p4.length c_4), (5, O (U ⟨a1, 0, N⟩)), (6, O (U ⟨a2, 0, N⟩)), (8, O (U ⟨b0, 0, N⟩)), (10, O (U ⟨a3, 0, N⟩)), (12, O (U ⟨a6, 0, N⟩)), (51, B u0)]) ?_ (sb z))
    ·refine oP z <| bE H fun L6 r4 H => aS [(64, B L6), (2, I J p2), (4, S a_4 p4.length c_4), (5, O (U ⟨a1, 0, N⟩)), (6, O (U ⟨a2, 0, N⟩)), (8, O (U ⟨b0, 0, N⟩)), (10, O (U ⟨a3, 0, N⟩)), (12, O (U ⟨a6, 0, N⟩))] 7 ?_ (fun key => OW.sub (R := [(2, I J p2), (4, S a_4 p4.length c_4), (5, O (U ⟨a1, 0, N⟩)), (6, O (U ⟨a2, 0, N⟩)), (8, O (U ⟨b0, 0, N⟩)), (10, O (U ⟨a3, 0, N⟩)), (12, O (U ⟨a6, 0, N⟩)), (57, B q9)]) ?_ (sb z))
     ·refine nQ <| cI H z (fun H => ?_) (fun H => ?_)
      ·exact sR <| o1 z (rx 0 5 _ z bx z) <| sC 0 [S a4 o.a_.length a5, I J o.k_] [_, _] 3 z bx z <| oP z <| nT <| am <| bg (rs := [.cell 10 30, .tmp 11]) (vs := [.agg #[S a4 o.a_.length a5, I J o.k_], B n]) z ⟨⟨_, [S a4 o.a_.length a5, I J o.k_], _, _, _, z, bx, (bB (T := 30) 0 (bX (i := 3) z) z), z, z⟩, z, Y⟩ (fun w' hw' => by
        obtain rfl := ai H
        exact ⟨_, z, a4, o.a_.length, a5, n5, z, hw'.sel [4] z z⟩)
      ·refine ar <| ax <| ak <| sR <| oP z <| nQ <| az <| CW.at (fG (fun (e9 : Int) => St w D [b a3 30 [S N 0 0, I J 0], b a6 30 [S a4 o.a_.length a5, I J o.k_], W (ae (aC) 71) n5 o.a_ [S a4 o.a_.length a5], b a1 27 [S q0 p0.b_.length q2, S q3 p0.l_.length q4], b a2 30 [S q5 p1.a_.length q6, I J p1.k_], b b0 66 [I J p3.j_, I J p3.c_]]) (fun e9 => [(2, I J p2), (4, S a_4 p4.length c_4), (5, O (U ⟨a1, 0, N⟩)), (6, O (U ⟨a2, 0, N⟩)), (8, O (U ⟨b0, 0, N⟩)), (10, O (U ⟨a3, 0, N⟩)), (12, O (U ⟨a6, 0, N⟩)), (13, I J e9)]) (fun kk => fun e9 => eR p4 p0 o p1 p2 p3 kk e9 = U r) (fun _ H => ?_) (fun k1 L7 e9 H => ?_) be (0) (H)) (ss [3, 5, 4, 0, 1, 2] z z) (sb z)
       ·unfold eR at H
        exact absurd H (by simp)
       ·unfold eR at H
        refine ak <| sR <| aa [.p, .p, .lenS 67 31 iR, .p] z <| nQ <| cI H z (fun H => ?_) (fun H => ?_)
        ·refine ar <| ax <| ak <| az <| ak <| dW cj (by kernel_rfl) <| o1 z (rx 0 3 _ z cg z) <| oPP z <| bE H fun GT L8 H => cn z z z z z iR cq z g4 L8 fun GU GV r5 x3 => ?_
         obtain ⟨GW, GX, rfl⟩ := aj r5
         refine o1 z (aD z z cq (bW bor x3)) <| bE H fun GY L9 H => oq z (qc z zA (fun m c => jb m L9 (af (ad d3 m c) (ad d4 m c)) (ad r5 m c))) tt2 <| oP z <| cC <| ax <| cI H z (fun H => ?_) (fun H => ?_)
         ·exact sR <| o1 z (rx 0 1 _ z bx z) <| sC 0 [S a4 o.a_.length a5, I J o.k_] [_, _] 0 z bx z <| oP z <| nT <| aL <| am <| bU <| aL <| am <| bg (rs := [.cell 10 30, .tmp 11]) (vs := [.agg #[S a4 o.a_.length a5, I J o.k_], B n]) z ⟨⟨_, [S a4 o.a_.length a5, I J o.k_], _, _, _, z, bx, (bB (T := 30) 0 (bX (i := 0) z) z), z, z⟩, z, Y⟩ (fun w' hw' => by
           obtain rfl := ai H
           exact ⟨_, z, a4, o.a_.length, a5, n5, z, hw'.sel [2] z z⟩)
         ·exact ar <| cd <| ax <| aW <| aa [.p, .p, .p] z <| ay <| cD (RW.at (L7 (J.wrap (e9 + 1)) (H)) (ss [0, 1, 2, 3, 4, 5] z z) (sb z))
        ·refine bF <| aN <| aR <| aO <| ax <| ak <| sR <| aa [.fa 30 0 0 cc] z <| o1 z (r1 0 4 z eC z) <| oP z <| bE H fun r0 M1 H => cn z z z z z dX ca z d5 M1 fun GZ Ha x5 x6 => ?_
         obtain ⟨Hb, Hc, Hd, He, Hf, Hg, Hh, Hi, Hj, Hk, rfl, M2, M3, M4, M5, M6, M7, M8, M9, N0, N1⟩ := bj x5
         obtain rfl := M2
         obtain rfl := M3
         obtain ⟨Hl, Hm, rfl⟩ := aj M4
         obtain rfl := M5
         obtain ⟨Hn, Ho, rfl, N2, N3⟩ := aK M6
         obtain ⟨Hp, Hq, rfl⟩ := aj N2
         obtain ⟨Hr, Hs, rfl⟩ := aj N3
         obtain rfl := M7
         obtain ⟨Ht, Hu, rfl⟩ := aj M8
         obtain rfl := M9
         obtain rfl := N0
         obtain rfl := N1
         refine aa [.fa 71 7 9 lE] z <| o1 z (aD z z ty3 (bW bor (lz x6 9 1))) <| oPP z <| aS [(95, B ((r0.m_ == 6) || (decide ((J.wrap ((p1.a_.length : Int) + (p4.length : Int))) > 31)))), (2, I J p2), (4, S a_4 p4.length c_4), (5, O (U ⟨a1, 0, N⟩)), (6, O (U ⟨a2, 0, N⟩)), (8, O (U ⟨b0, 0, N⟩)), (10, O (U ⟨a3, 0, N⟩)), (12, O (U ⟨a6, 0, N⟩))] 8 ?_ (fun key => OW.sub (R := [(2, I J p2), (4, S a_4 p4.length c_4), (5, O (U ⟨a1, 0, N⟩)), (6, O (U ⟨a2, 0, N⟩)), (8, O (U ⟨b0, 0, N⟩)), (10, O (U ⟨a3, 0, N⟩)), (12, O (U ⟨a6, 0, N⟩)), (87, B (r0.m_ == 6))]) ?_ (sb z))
         ·refine nQ <| cI H z (fun H => ?_) (fun H => ?_)
          ·exact sR <| o1 z (rx 0 1 _ z bx z) <| sC 0 [S a4 o.a_.length a5, I J o.k_] [_, _] 0 z bx z <| oP z <| nT <| am <| bg (rs := [.cell 10 30, .tmp 11]) (vs := [.agg #[S a4 o.a_.length a5, I J o.k_], B n]) z ⟨⟨_, [S a4 o.a_.length a5, I J o.k_], _, _, _, z, bx, (bB (T := 30) 0 (bX (i := 0) z) z), z, z⟩, z, Y⟩ (fun w' hw' => by
            obtain rfl := ai H
            exact ⟨_, z, a4, o.a_.length, a5, n5, z, hw'.sel [2] z z⟩)
          ·refine ar <| ax <| Ao (fun (d6 : Nat) (c3 : Int) (Q : List Int) (c4 : Option Addr) (c5 : Nat) (f0 : List Nat) (X : List (List Int)) (c6 : Option Addr) (c7 : Nat) (f1 : List Nat) (Z : List Int) (c8 : Option Addr) (c9 : Nat) (f2 : List Nat) (x : Int) (d0 : Int) (d1 : Int) => St w D [b a3 30 [S N 0 0, I J 0], b a6 30 [S a4 o.a_.length a5, I J o.k_], W (ae (aC) 71) n5 o.a_ [S a4 o.a_.length a5], b d6 71 [B n, I J p3.j_, I J p3.c_, S N 0 0, I J c3, S c4 Q.length c5, S c6 X.length c7, I J 0, S c8 Z.length c9, I J x, I J d0, I J d1], W (ae eI 3) f0 Q [S c4 Q.length c5], W (ae (ae eI 3) 31) f1 X [S c6 X.length c7], W (ae eI 3) f2 Z [S c8 Z.length c9], b a1 27 [S q0 p0.b_.length q2, S q3 p0.l_.length q4], b a2 30 [S q5 p1.a_.length q6, I J p1.k_]]) (fun d6 c3 Q c4 c5 f0 X c6 c7 f1 Z c8 c9 f2 x d0 d1 => [(2, I J p2), (4, S a_4 p4.length c_4), (5, O (U ⟨a1, 0, N⟩)), (6, O (U ⟨a2, 0, N⟩)), (10, O (U ⟨a3, 0, N⟩)), (12, O (U ⟨a6, 0, N⟩)), (14, O (U ⟨d6, 0, N⟩))]) (fun d6 c3 Q c4 c5 f0 X c6 c7 f1 Z c8 c9 f2 x d0 d1 => lD p4 p0 p2 p1 p3 o c3 Q X Z x d0 d1 = U r) (fun d6 c3 Q c4 c5 f0 X c6 c7 f1 Z c8 c9 f2 x d0 d1 H => ?_) (fun J1 => ?_)
           ·unfold lD at H
            refine ak <| sR <| oP z <| nQ <| az <| CW.weak ?_ (fun _ h => St.pushNil (e := eI) (T := 3) h)
            refine CW.at (DZ (fun (s : List aT) (a7 : Option Addr) (a8 : Nat) (e3 : List Nat) (b1 : List Int) (d7 : Option Addr) (d8 : Nat) (f3 : List Nat) (d2 : Int) => St w D [b a3 30 [S N 0 0, I J 0], b a6 30 [S a7 s.length a8, I J o.k_], W (ae (aC) 71) e3 s [S a7 s.length a8], b d6 71 [B n, I J p3.j_, I J p3.c_, S d7 b1.length d8, I J c3, S c4 Q.length c5, S c6 X.length c7, I J 0, S c8 Z.length c9, I J x, I J d0, I J d1], W (ae eI 3) f3 b1 [S d7 b1.length d8], W (ae eI 3) f0 Q [S c4 Q.length c5], W (ae (ae eI 3) 31) f1 X [S c6 X.length c7], W (ae eI 3) f2 Z [S c8 Z.length c9], b a1 27 [S q0 p0.b_.length q2, S q3 p0.l_.length q4], b a2 30 [S q5 p1.a_.length q6, I J p1.k_]]) (fun s a7 a8 e3 b1 d7 d8 f3 d2 => [(2, I J p2), (4, S a_4 p4.length c_4), (5, O (U ⟨a1, 0, N⟩)), (6, O (U ⟨a2, 0, N⟩)), (10, O (U ⟨a3, 0, N⟩)), (12, O (U ⟨a6, 0, N⟩)), (14, O (U ⟨d6, 0, N⟩)), (15, I J d2)]) (fun kk => fun s a7 a8 e3 b1 d7 d8 f3 d2 => eO p4 p0 x p2 p1 p3 c3 Q X Z d0 d1 o kk s b1 d2 = U r) (fun _ _ _ _ _ _ _ _ _ H => ?_) (fun k2 u1 s a7 a8 e3 b1 d7 d8 f3 d2 H => ?_) be (o.a_) (a4) (a5) (n5) (([] : List Int)) (N) (0) ([]) (0) (H)) (ss [0, 1, 2, 3, 9, 4, 5, 6, 7, 8] z z) (sb z)
            ·unfold eO at H
             exact absurd H (by simp)
            ·unfold eO at H
             refine ak <| sR <| aa [.p, .p, .lenS 67 31 iR, .p] z <| nQ <| cI H z (fun H => ?_) (fun H => ?_)
             ·refine ar <| ax <| ak <| az <| sR <| aa [.fa 71 2 3 ik] z <| o1 z (r1 3 3 z cq z) <| aa [.fa 30 0 0 cc] z <| o1 z (r1 0 1 z eC z) <| aa [.lenS 28 71 dX] z <| bQ (val := I J) (h1 := fun _ => z) [(s.length : Int)] [(0, [I J (s.length : Int)])] z z z z z aP ty3 z z z ⟨z, z, nl z, Y⟩ z z (fun _ => kp) fun r6 => bE H fun d9 r7 H => cm (r := 4) (ys := ([(s.length : Int)] : List Int)) z z z z z z aP ty3 z z z (ap (e := ae eI 3) (r := 10) z) r7 (fun _ _ _ => kp) fun e4 e5 p6 => ct z (fun m c => fh (i := 4) c z (ff r7)) fun Q1 => aa [.fa 71 2 3 ik] z <| sC 3 [S e4 d9.length e5] [_, _, _, _, _, _, _, _, _, _, _, _] 3 z cq z <| nQ <| bE H fun r8 x8 H => bE H fun t r9 H => bE H fun b2 s0 H => qw 18 [(0, y), (1, y), (2, y), (5, y), (6, y), (7, y), (8, y), (10, y), (11, y), (12, y), (13, y), (14, y), (15, y)] (Br.alt 3 (Br.pre [(4, n), (9, n), (16, y), (17, n)] Br.done) (Br.pre [(4, n), (3, n), (9, n), (16, y), (17, n)] Br.done)) (St w D [b a3 30 [S N 0 0, I J 0], b a6 30 [S a7 s.length a8, I J o.k_], W (ae (aC) 71) e3 s [S a7 s.length a8], b d6 71 [B n, I J p3.j_, I J p3.c_, S e4 d9.length e5, I J c3, S c4 Q.length c5, S c6 X.length c7, I J 0, S c8 Z.length c9, I J x, I J d0, I J d1], W (ae eI 3) p6 d9 [S e4 d9.length e5], W (ae eI 3) f0 Q [S c4 Q.length c5], W (ae (ae eI 3) 31) f1 X [S c6 X.length c7], W (ae eI 3) f2 Z [S c8 Z.length c9], b a1 27 [S q0 p0.b_.length q2, S q3 p0.l_.length q4], b a2 30 [S q5 p1.a_.length q6, I J p1.k_], W (ae eI 3) [r6] ([(s.length : Int)] : List Int) [S (U ⟨r6, 0, N⟩) (([(s.length : Int)] : List Int).length) 1]]) cj (by kernel_rfl) (bv (aX (dI (bv (aX bn))))) (tk 11 z) <| aa [.fa 30 0 0 cc] z <| bu z (aw z) (r1 0 1 z eC z) <| bu z (aw z) (rx 0 8 _ z cg z) <| oPP z <| cn z z z z z iR cq z g4 x8 fun R9 S0 n6 u2 => ?_
              obtain ⟨S1, S2, rfl⟩ := aj n6
              refine bu z (aw z) (aD z z cq (bW (fun _ h => h.ext) u2)) <| aa [.fa 71 7 9 lE] z <| bu z (aw z) (r1 9 3 z ty3 z) <| aa [.p, .p, .fa 30 1 1 nt] z <| bu z (aw z) (r1 1 9 z ty3 z) <| aQ <| eM (tk 11 z) z ?_ ?_
              ·refine au z yW z z z z (fun m c => kZ m r9 (c.carve [] z z) (af (ad d3 m c) (ad d4 m c))) (fun S3 m w2 c u3 => ?_)
               obtain ⟨f4, S4, f5, S5, f6, S6, f7, S7, rfl, n7⟩ := u3
               obtain rfl := aI (i := 0) n7 z
               obtain rfl := aI (i := 1) n7 z
               refine ⟨St w D [_, _, _, _, _, _, _, _, _, _, _, _, _], c.comp [] z z n7, (tk 11 z), ?_⟩
               refine ce (e := eI) z z z z aP ty3 (fun _ => (tk 11 z)) fun S8 => cm (r := 13) (ys := r8) z z z z z z aP ty3 z z z (ad n6) s0 (fun _ _ _ => (tk 11 z)) fun f8 f9 S9 => bu z (aw z) (bL [(0, [B y]), (5, [S f4 t.e_.length f5, S f6 t.d_.length f7]), (8, [S f8 b2.length f9]), (9, [I J (J.wrap (x + 1))]), (10, [I J p2]), (11, [I J p1.k_])] [B y, I J 0, I J 0, S N 0 0, I J 0, S f4 t.e_.length f5, S f6 t.d_.length f7, I J 0, S f8 b2.length f9, I J (J.wrap (x + 1)), I J p2, I J p1.k_] z z ca pN z ⟨z, z, nl z, z, z, nl z, z, z, nl z, z, z, nl z, z, z, nl z, z, z, nl z, Y⟩ z) <| fp z (fun _ h => St.pushNil (e := eI) (T := 3) h) <| sX z (fun m c => cE (x0 := y) (x1 := 0) (x2 := 0) (x4 := 0) (x7 := 0) (x9 := J.wrap (x + 1)) (x10 := p2) (x11 := p1.k_) [14, 11, 12, 13] c z z) fun T0 => fp (C' := St w D [_, _, _, _, _, _, _, _, _, _, _, _, _, _, _, _]) z (fun _ h => h) <| iZ [(0, [B y, I J 0, I J 0, S N 0 0, I J 0, S f4 t.e_.length f5, S f6 t.d_.length f7, I J 0, S f8 b2.length f9, I J (J.wrap (x + 1)), I J p2, I J p1.k_])] z z z z z dX ca z z ⟨z, z, nl z, Y⟩ [B y, I J 0, I J 0, S N 0 0, I J 0, S f4 t.e_.length f5, S f6 t.d_.length f7, I J 0, S f8 b2.length f9, I J (J.wrap (x + 1)), I J p2, I J p1.k_] z (fun _ => (tk 11 z)) fun T1 => fp z (fun _ h => vc (p := 16) (q := 15) h z z z) <| aQ <| cR <| bE H fun s1 y0 H => nC (r := 2) (j := 17) z z z z z z dX ca z z z z z z z y0 (fun _ _ _ => kp) fun s2 s3 y1 => aa [.fa 30 0 0 cc] z <| sC 0 [S s2 s1.length s3] [_, _] 1 z eC z <| ay <| cd <| ax <| CW.weak (C' := St w D [_, _, _, _, _, _, _, _, _, _, _]) ?_ (ss [0, 1, 3, 4, 5, 6, 7, 8, 9, 10, 18] z z)
               exact aW <| aa [.p, .p, .p] z <| ay <| cD (RW.at (u1 (s1) (s2) (s3) (y1) (d9) (e4) (e5) (p6) (J.wrap (d2 + 1)) (H)) (ss [0, 1, 10, 2, 3, 4, 5, 6, 7, 8] z z) (sb z))
              refine dM (tk 11 z) z <| ce (e := eI) z z z z aP ty3 (fun _ => (tk 11 z)) fun T2 => au z yW z z z z (fun m c => kZ m r9 (c.carve [] z z) (af (ad d3 m c) (ad d4 m c))) fun T3 m w2 c u4 => ?_
              obtain ⟨g2, T4, g3, T5, g5, T6, g6, T7, rfl, n8⟩ := u4
              obtain rfl := aI (i := 0) n8 z
              obtain rfl := aI (i := 1) n8 z
              refine ⟨St w D [_, _, _, _, _, _, _, _, _, _, _, _, _, _], c.comp [] z z n8, (tk 11 z), ?_⟩
              refine cm (r := 11) (ys := r8) z z z z z z aP ty3 z z z (ad n6) s0 (fun _ _ _ => (tk 11 z)) fun g7 g8 T8 => bu z (aw z) (bL [(0, [B y]), (5, [S g2 t.e_.length g3, S g5 t.d_.length g6]), (8, [S g7 b2.length g8]), (9, [I J (J.wrap (x + 1))]), (10, [I J p2]), (11, [I J p1.k_])] [B y, I J 0, I J 0, S N 0 0, I J 0, S g2 t.e_.length g3, S g5 t.d_.length g6, I J 0, S g7 b2.length g8, I J (J.wrap (x + 1)), I J p2, I J p1.k_] z z ca pN z ⟨z, z, nl z, z, z, nl z, z, z, nl z, z, z, nl z, z, z, nl z, z, z, nl z, Y⟩ z) <| fp z (fun _ h => St.pushNil (e := eI) (T := 3) h) <| sX z (fun m c => cE (x0 := y) (x1 := 0) (x2 := 0) (x4 := 0) (x7 := 0) (x9 := J.wrap (x + 1)) (x10 := p2) (x11 := p1.k_) [14, 12, 13, 11] c z z) fun T9 => fp (C' := St w D [_, _, _, _, _, _, _, _, _, _, _, _, _, _, _, _]) z (fun _ h => h) <| iZ [(0, [B y, I J 0, I J 0, S N 0 0, I J 0, S g2 t.e_.length g3, S g5 t.d_.length g6, I J 0, S g7 b2.length g8, I J (J.wrap (x + 1)), I J p2, I J p1.k_])] z z z z z dX ca z z ⟨z, z, nl z, Y⟩ [B y, I J 0, I J 0, S N 0 0, I J 0, S g2 t.e_.length g3, S g5 t.d_.length g6, I J 0, S g7 b2.length g8, I J (J.wrap (x + 1)), I J p2, I J p1.k_] z (fun _ => (tk 11 z)) fun U0 => fp z (fun _ h => vc (p := 16) (q := 15) h z z z) <| aQ <| cR <| bE H fun s4 y2 H => nC (r := 2) (j := 17) z z z z z z dX ca z z z z z z z y2 (fun _ _ _ => kp) fun s5 s6 y3 => aa [.fa 30 0 0 cc] z <| sC 0 [S s5 s4.length s6] [_, _] 1 z eC z <| ay <| cd <| ax <| CW.weak (C' := St w D [_, _, _, _, _, _, _, _, _, _, _]) ?_ (ss [0, 1, 3, 4, 5, 6, 7, 8, 9, 10, 18] z z)
              exact aW <| aa [.p, .p, .p] z <| ay <| cD (RW.at (u1 (s4) (s5) (s6) (y3) (d9) (e4) (e5) (p6) (J.wrap (d2 + 1)) (H)) (ss [0, 1, 10, 2, 3, 4, 5, 6, 7, 8] z z) (sb z))
             ·refine bF <| aN <| aR <| aO <| ax <| sR <| aa [.fa 30 0 0 cc] z <| o1 z (r1 0 1 z eC z) <| oP z <| o1 z (rx 0 3 _ z ca z) <| bE H fun U1 s7 H => oM z (fun m c => foc (r := 2) c z s7) fun U2 U3 U4 U5 => ct z (fun m c => c.1) fun y4 => ?_
              obtain ⟨q7, q8⟩ := y4
              refine fp (C' := St w D [_, _, _, _, _, _, _, _, _, _, _, _]) z (fun m c => c.2) <| dU z (fun m c => dN (i := 11) c z) fun U6 U7 U8 => dU z (fun _ h => h) fun U9 V1 V2 => dU z (fun _ h => h) fun V3 V4 V5 => dU z (fun _ h => h) fun V6 V7 V8 => ct z (fun m c => c.1) fun y5 => ?_
              subst y5
              refine fp (C' := St w D [_, _, _, _, _, _, _, _, _, _, _, _, _, _, _, _]) z (fun m c => c.2) <| gx z z z z z dX ca z (fU (p := 10) z) q8 q7 (cL s7).1 <| gr (off := 0) [B n, I J p3.j_, I J p3.c_, S d7 b1.length d8, I J c3, S c4 Q.length c5, S c6 X.length c7, I J 0, S c8 Z.length c9, I J x, I J d0, I J d1] (p := 10) (c' := [_, _, _, _, _, _, _, _, _, _, _, _]) z z z z z (by first | rfl | simp only [dm, dB, dd]) z ca z z (al z) z z z kp <| nQ <| ak <| CW.weak (C' := St w D [_, _, _, _, _, _, _, _, _, _, _, _, _, _]) ?_ (ss [0, 1, 3, 4, 5, 6, 7, 8, 9, 10, 12, 13, 14, 15] z z)
              exact aW <| o1 z (rx 0 1 _ z bx z) <| sC 0 [S a7 s.length a8, I J o.k_] [_, _] 0 z bx z <| oP z <| nT <| gO (fun m c => cE (x0 := n) (x1 := p3.j_) (x2 := p3.c_) (x4 := c3) (x7 := 0) (x9 := x) (x10 := d0) (x11 := d1) [3, 4, 5, 6] c z z) fun V9 => fq (C' := St w D [_, _, _, _, _, _, _, _, _, _, _, _, _, _, _]) (fun _ h => h) <| gO (fun m c => unf (p := 9) (q := 14) c z z z q8 q7) fun y6 => fq (C' := St w D [_, _, _, _, _, _, _, _, _, _, _, _, _, _, _, _]) (fun _ h => h) <| bg (rs := [.cell 10 30, .tmp 11]) (vs := [.agg #[S a7 s.length a8, I J o.k_], B y]) z ⟨⟨_, [S a7 s.length a8, I J o.k_], _, _, _, z, bx, (bB (T := 30) 0 (bX (i := 0) z) z), z, z⟩, z, Y⟩ (fun w' hw' => by
               obtain rfl := ai H
               exact ⟨_, z, a7, s.length, a8, y6, z, hw'.sel [15] z z⟩)
           ·refine bE H fun s8 y7 H => bE H fun s9 y8 H => bE H fun A y9 H => bE H fun d z0 H => bE H fun f z1 H => bE H fun g z2 H => bE H fun k e6 H => bE H fun a a9 H => bE H fun l C H => qw 45 [(0, y), (1, y), (2, y), (3, y), (4, y), (5, y), (6, y), (7, y), (8, y), (10, y), (11, y), (12, y), (13, y), (14, y), (15, y), (18, y), (19, y), (20, y), (21, y), (22, y), (23, y), (25, y), (26, y), (27, y), (28, y), (29, y), (30, y), (31, y), (32, y), (33, y), (34, y), (35, y), (36, y), (37, y), (38, y), (39, y), (40, y), (41, y), (42, y)] (Br.alt 9 (Br.pre [] (Br.alt 16 (Br.pre [] (Br.alt 17 (Br.pre [] (Br.alt 24 (Br.pre [(43, y), (44, n)] Br.done) (Br.pre [(44, n), (24, n), (43, y)] Br.done))) (Br.pre [(44, n), (17, n), (24, n), (43, y)] Br.done))) (Br.alt 17 (Br.pre [] (Br.alt 16 (Br.pre [] (Br.alt 24 (Br.pre [(43, y), (44, n)] Br.done) (Br.pre [(44, n), (24, n), (43, y)] Br.done))) (Br.pre [(44, n), (16, n), (24, n), (43, y)] Br.done))) (Br.pre [(44, n)] (Br.alt 16 (Br.pre [(17, n), (24, n), (43, y)] Br.done) (Br.pre [(17, n), (16, n), (24, n), (43, y)] Br.done)))))) (Br.alt 17 (Br.pre [] (Br.alt 9 (Br.pre [] (Br.alt 16 (Br.pre [] (Br.alt 24 (Br.pre [(43, y), (44, n)] Br.done) (Br.pre [(44, n), (24, n), (43, y)] Br.done))) (Br.pre [(44, n), (16, n), (24, n), (43, y)] Br.done))) (Br.pre [(44, n), (9, n), (16, n), (24, n), (43, y)] Br.done))) (Br.pre [(44, n)] (Br.alt 9 (Br.pre [] (Br.alt 16 (Br.pre [(17, n), (24, n), (43, y)] Br.done) (Br.pre [(17, n), (16, n), (24, n), (43, y)] Br.done))) (Br.pre [(17, n), (9, n), (16, n), (24, n), (43, y)] Br.done))))) (St w D [b a3 30 [S N 0 0, I J 0], b a6 30 [S a4 o.a_.length a5, I J o.k_], W (ae (aC) 71) n5 o.a_ [S a4 o.a_.length a5], b a1 27 [S q0 p0.b_.length q2, S q3 p0.l_.length q4], b a2 30 [S q5 p1.a_.length q6, I J p1.k_], b b0 66 [I J p3.j_, I J p3.c_]]) cj (by kernel_rfl) (aX bn) (tk 6 z) <| bu z (aw z) (rx 0 5 _ z cM z) <| bu z (aw z) (rx 0 3 _ z cg z) <| aa [.fa 30 0 0 cc] z <| bu z (aw z) (r1 0 4 z eC z) <| oP z <| cn z z z z z dX ca z d5 y7 fun W0 W1 u5 u6 => ?_
            obtain ⟨W2, W3, W4, W5, W6, W7, W8, W9, X0, X1, rfl, z3, z4, z5, z6, z7, z8, z9, A0, A1, A2⟩ := bj u5
            obtain rfl := z3
            obtain rfl := z4
            obtain ⟨X2, X3, rfl⟩ := aj z5
            obtain rfl := z6
            obtain ⟨X4, X5, rfl, e0, e1⟩ := aK z7
            obtain ⟨A3, A4, rfl⟩ := aj e0
            obtain ⟨A5, A6, rfl⟩ := aj e1
            obtain rfl := z8
            obtain ⟨X6, X7, rfl⟩ := aj z9
            obtain rfl := A0
            obtain rfl := A1
            obtain rfl := A2
            refine aa [.fa 71 4 5 gk] z <| bu z (aw z) (cA (cs := [S A3 s8.n_.e_.length A4, S A5 s8.n_.d_.length A6]) z z cT (bW (fun _ h => h.ext) (lz u6 5 2)) z) <| bu z (aw z) (rx 0 5 _ z cM z) <| aa [.fa 30 0 0 cc] z <| bu z (aw z) (r1 0 4 z eC z) <| oP z <| cn z z z z z dX ca z d5 y8 fun X8 X9 u7 u8 => ?_
            obtain ⟨Y0, Y1, Y2, Y3, Y4, Y5, Y6, Y7, Y8, Y9, rfl, A7, A8, A9, B0, B1, B2, B3, B4, B5, B6⟩ := bj u7
            obtain rfl := A7
            obtain rfl := A8
            obtain ⟨Z0, Z1, rfl⟩ := aj A9
            obtain rfl := B0
            obtain ⟨Z2, Z3, rfl, E, F⟩ := aK B1
            obtain ⟨B7, B8, rfl⟩ := aj E
            obtain ⟨B9, C0, rfl⟩ := aj F
            obtain rfl := B2
            obtain ⟨Z4, Z5, rfl⟩ := aj B3
            obtain rfl := B4
            obtain rfl := B5
            obtain rfl := B6
            refine aa [.fa 71 4 5 gk] z <| bu z (aw z) (cA (cs := [S B7 s9.n_.e_.length B8, S B9 s9.n_.d_.length C0]) z z cT (bW (fun _ h => h.ext) (lz u8 5 2)) z) <| aa [.fa 30 0 0 cc] z <| bu z (aw z) (r1 0 4 z eC z) <| oP z <| cn z z z z z dX ca z d5 y9 fun Z6 Z7 u9 v0 => ?_
            obtain ⟨Z8, Z9, ag, an, bk, bs, ci, cp, cv, df, rfl, C1, C2, C3, C4, C5, C6, u, C7, C8, C9⟩ := bj u9
            obtain rfl := C1
            obtain rfl := C2
            obtain ⟨di, ds, rfl⟩ := aj C3
            obtain rfl := C4
            obtain ⟨ea, eb, rfl, D0, D1⟩ := aK C5
            obtain ⟨ed, ee, rfl⟩ := aj D0
            obtain ⟨ej, em, rfl⟩ := aj D1
            obtain rfl := C6
            obtain ⟨es, et, rfl⟩ := aj u
            obtain rfl := C7
            obtain rfl := C8
            obtain rfl := C9
            refine aa [.fa 71 6 8 qo] z <| bu z (aw z) (aD z z cq (bW (fun _ h => h.ext) (lz v0 8 1))) <| aa [.fa 30 0 0 cc] z <| bu z (aw z) (r1 0 4 z eC z) <| oP z <| cn z z z z z dX ca z d5 z0 fun eu ex v1 v2 => ?_
            obtain ⟨ey, eB, eP, eT, fd, fl, fn, fr, fs, gl, rfl, D2, D3, D4, D5, D6, D7, D8, D9, E0, E1⟩ := bj v1
            obtain rfl := D2
            obtain rfl := D3
            obtain ⟨gs, gu, rfl⟩ := aj D4
            obtain rfl := D5
            obtain ⟨gT, ha, rfl, E2, E3⟩ := aK D6
            obtain ⟨hb, hc, rfl⟩ := aj E2
            obtain ⟨hd, he, rfl⟩ := aj E3
            obtain rfl := D7
            obtain ⟨hf, hg, rfl⟩ := aj D8
            obtain rfl := D9
            obtain rfl := E0
            obtain rfl := E1
            refine aa [.fa 71 7 9 lE] z <| bu z (aw z) (aD z z ty3 (bW (fun _ h => h.ext) (lz v2 9 1))) <| aa [.fa 30 0 0 cc] z <| bu z (aw z) (r1 0 4 z eC z) <| oP z <| cn z z z z z dX ca z d5 z1 fun hh hi v3 v4 => ?_
            obtain ⟨hj, hk, hl, hm, hn, ho, hp, hq, hr, hs, rfl, E4, E5, E6, E7, E8, E9, F1, F2, F3, F4⟩ := bj v3
            obtain rfl := E4
            obtain rfl := E5
            obtain ⟨ht, hu, rfl⟩ := aj E6
            obtain rfl := E7
            obtain ⟨hv, hw, rfl, F5, F6⟩ := aK E8
            obtain ⟨hx, hy, rfl⟩ := aj F5
            obtain ⟨hz, hA, rfl⟩ := aj F6
            obtain rfl := E9
            obtain ⟨hB, hC, rfl⟩ := aj F1
            obtain rfl := F2
            obtain rfl := F3
            obtain rfl := F4
            refine aa [.fa 71 8 10 nz] z <| bu z (aw z) (aD z z ty3 (bW (fun _ h => h.ext) (lz v4 10 1))) <| aa [.fa 30 0 0 cc] z <| bu z (aw z) (r1 0 4 z eC z) <| oP z <| cn z z z z z dX ca z d5 z2 fun hD hE v5 v6 => ?_
            obtain ⟨hF, hJ, hK, hL, hM, hN, hO, hP, hQ, hR, rfl, F7, F8, F9, G0, G1, G2, G3, G4, G5, G6⟩ := bj v5
            obtain rfl := F7
            obtain rfl := F8
            obtain ⟨hS, hT, rfl⟩ := aj F9
            obtain rfl := G0
            obtain ⟨hU, hV, rfl, G7, G8⟩ := aK G1
            obtain ⟨hW, hX, rfl⟩ := aj G7
            obtain ⟨ih, it, rfl⟩ := aj G8
            obtain rfl := G2
            obtain ⟨jj, lo, rfl⟩ := aj G3
            obtain rfl := G4
            obtain rfl := G5
            obtain rfl := G6
            refine aa [.fa 71 9 11 oT] z <| bu z (aw z) (aD z z ty3 (bW (fun _ h => h.ext) (lz v6 11 1))) <| aQ <| eM (tk 6 z) z ?_ ?_
            ·refine oq z (qc z xj (fun m c => jF m (p2 := p3) e6 (af (ad d3 m c) (ad d4 m c)) (aF (ad e0 m c) (ad e1 m c)))) (tk 6 z) <| aQ <| eM (tk 6 z) z ?_ ?_
             ·refine au z pk z z z z (fun m c => fb m a9 (c.carve [] z z) (aF (ad E m c) (ad F m c))) (fun lw m w2 c v7 => ?_)
              obtain ⟨G, md, L, p7, M, mm, P, p8, rfl, n9⟩ := v7
              obtain rfl := aI (i := 0) n9 z
              obtain rfl := aI (i := 1) n9 z
              refine ⟨St w D [_, _, _, _, _, _, _, _], c.comp [] z z n9, (tk 6 z), ?_⟩
              refine aQ <| eM (tk 6 z) z ?_ ?_
              ·refine ce (e := eI) z z z z aP ty3 (fun _ => (tk 6 z)) fun nd => aQ <| eM (tk 6 z) z ?_ ?_
               ·exact cm (r := 8) (ys := A.b_) z z z z z z aP ty3 z z z (ad u) C (fun _ _ _ => (tk 6 z)) fun g9 h0 G9 => bu z (aw z) (bL [(1, [I J p3.j_, I J p3.c_]), (4, [I J k]), (5, [S G a.e_.length L, S M a.d_.length P]), (8, [S g9 l.length h0]), (9, [I J d.m_]), (10, [I J f.p_]), (11, [I J g.s_])] [B n, I J p3.j_, I J p3.c_, S N 0 0, I J k, S G a.e_.length L, S M a.d_.length P, I J 0, S g9 l.length h0, I J d.m_, I J f.p_, I J g.s_] z z ca pN z ⟨z, z, nl z, z, z, nl z, z, z, nl z, z, z, nl z, z, z, nl z, z, z, nl z, z, z, nl z, Y⟩ z) <| aA z z z z ca (fun _ => (tk 6 z)) fun H0 => aQ <| cR <| sC 0 [B n, I J p3.j_, I J p3.c_, S N 0 0, I J k, S G a.e_.length L, S M a.d_.length P, I J 0, S g9 l.length h0, I J d.m_, I J f.p_, I J g.s_] [_, _, _, _, _, _, _, _, _, _, _, _] 9 z ca z <| ay <| XW.at (J1 (H0) (k) (a.e_) (G) (L) (p7) (a.d_) (M) (P) (p8) (l) (g9) (h0) (G9) (d.m_) (f.p_) (g.s_) (H)) (ss [0, 1, 2, 9, 6, 7, 8, 3, 4] z z) (sb z)
               exact dM (tk 6 z) z <| aA z z z z ca (fun _ => (tk 6 z)) fun H1 => cm (r := 8) (ys := A.b_) z z z z z z aP ty3 z z z (ad u) C (fun _ _ _ => (tk 6 z)) fun h2 h3 H2 => bu z (aw z) (bL [(1, [I J p3.j_, I J p3.c_]), (4, [I J k]), (5, [S G a.e_.length L, S M a.d_.length P]), (8, [S h2 l.length h3]), (9, [I J d.m_]), (10, [I J f.p_]), (11, [I J g.s_])] [B n, I J p3.j_, I J p3.c_, S N 0 0, I J k, S G a.e_.length L, S M a.d_.length P, I J 0, S h2 l.length h3, I J d.m_, I J f.p_, I J g.s_] z z ca pN z ⟨z, z, nl z, z, z, nl z, z, z, nl z, z, z, nl z, z, z, nl z, z, z, nl z, z, z, nl z, Y⟩ z) <| aQ <| cR <| sC 0 [B n, I J p3.j_, I J p3.c_, S N 0 0, I J k, S G a.e_.length L, S M a.d_.length P, I J 0, S h2 l.length h3, I J d.m_, I J f.p_, I J g.s_] [_, _, _, _, _, _, _, _, _, _, _, _] 9 z ca z <| ay <| XW.at (J1 (H1) (k) (a.e_) (G) (L) (p7) (a.d_) (M) (P) (p8) (l) (h2) (h3) (H2) (d.m_) (f.p_) (g.s_) (H)) (ss [0, 1, 2, 9, 6, 7, 8, 3, 4] z z) (sb z)
              exact dM (tk 6 z) z <| aA z z z z ca (fun _ => (tk 6 z)) fun H3 => ce (e := eI) z z z z aP ty3 (fun _ => (tk 6 z)) fun nn => cm (r := 9) (ys := A.b_) z z z z z z aP ty3 z z z (ad u) C (fun _ _ _ => (tk 6 z)) fun h4 h5 H4 => bu z (aw z) (bL [(1, [I J p3.j_, I J p3.c_]), (4, [I J k]), (5, [S G a.e_.length L, S M a.d_.length P]), (8, [S h4 l.length h5]), (9, [I J d.m_]), (10, [I J f.p_]), (11, [I J g.s_])] [B n, I J p3.j_, I J p3.c_, S N 0 0, I J k, S G a.e_.length L, S M a.d_.length P, I J 0, S h4 l.length h5, I J d.m_, I J f.p_, I J g.s_] z z ca pN z ⟨z, z, nl z, z, z, nl z, z, z, nl z, z, z, nl z, z, z, nl z, z, z, nl z, z, z, nl z, Y⟩ z) <| aQ <| cR <| sC 0 [B n, I J p3.j_, I J p3.c_, S N 0 0, I J k, S G a.e_.length L, S M a.d_.length P, I J 0, S h4 l.length h5, I J d.m_, I J f.p_, I J g.s_] [_, _, _, _, _, _, _, _, _, _, _, _] 8 z ca z <| ay <| XW.at (J1 (H3) (k) (a.e_) (G) (L) (p7) (a.d_) (M) (P) (p8) (l) (h4) (h5) (H4) (d.m_) (f.p_) (g.s_) (H)) (ss [0, 1, 2, 8, 6, 7, 9, 3, 4] z z) (sb z)
             refine eM (tk 6 z) z ?_ ?_
             ·refine ce (e := eI) z z z z aP ty3 (fun _ => (tk 6 z)) fun oi => aQ <| eM (tk 6 z) z ?_ ?_
              ·refine au z pk z z z z (fun m c => fb m a9 (c.carve [] z z) (aF (ad E m c) (ad F m c))) (fun oj m w2 c v8 => ?_)
               obtain ⟨b3, ok, b4, t0, b5, op, b6, t1, rfl, o0⟩ := v8
               obtain rfl := aI (i := 0) o0 z
               obtain rfl := aI (i := 1) o0 z
               refine ⟨St w D [_, _, _, _, _, _, _, _, _], c.comp [] z z o0, (tk 6 z), ?_⟩
               refine aQ <| eM (tk 6 z) z ?_ ?_
               ·exact cm (r := 6) (ys := A.b_) z z z z z z aP ty3 z z z (ad u) C (fun _ _ _ => (tk 6 z)) fun h6 h7 H5 => bu z (aw z) (bL [(1, [I J p3.j_, I J p3.c_]), (4, [I J k]), (5, [S b3 a.e_.length b4, S b5 a.d_.length b6]), (8, [S h6 l.length h7]), (9, [I J d.m_]), (10, [I J f.p_]), (11, [I J g.s_])] [B n, I J p3.j_, I J p3.c_, S N 0 0, I J k, S b3 a.e_.length b4, S b5 a.d_.length b6, I J 0, S h6 l.length h7, I J d.m_, I J f.p_, I J g.s_] z z ca pN z ⟨z, z, nl z, z, z, nl z, z, z, nl z, z, z, nl z, z, z, nl z, z, z, nl z, z, z, nl z, Y⟩ z) <| aA z z z z ca (fun _ => (tk 6 z)) fun H6 => aQ <| cR <| sC 0 [B n, I J p3.j_, I J p3.c_, S N 0 0, I J k, S b3 a.e_.length b4, S b5 a.d_.length b6, I J 0, S h6 l.length h7, I J d.m_, I J f.p_, I J g.s_] [_, _, _, _, _, _, _, _, _, _, _, _] 9 z ca z <| ay <| XW.at (J1 (H6) (k) (a.e_) (b3) (b4) (t0) (a.d_) (b5) (b6) (t1) (l) (h6) (h7) (H5) (d.m_) (f.p_) (g.s_) (H)) (ss [0, 1, 2, 9, 7, 8, 6, 3, 4] z z) (sb z)
               exact dM (tk 6 z) z <| aA z z z z ca (fun _ => (tk 6 z)) fun H7 => cm (r := 6) (ys := A.b_) z z z z z z aP ty3 z z z (ad u) C (fun _ _ _ => (tk 6 z)) fun h8 h9 H8 => bu z (aw z) (bL [(1, [I J p3.j_, I J p3.c_]), (4, [I J k]), (5, [S b3 a.e_.length b4, S b5 a.d_.length b6]), (8, [S h8 l.length h9]), (9, [I J d.m_]), (10, [I J f.p_]), (11, [I J g.s_])] [B n, I J p3.j_, I J p3.c_, S N 0 0, I J k, S b3 a.e_.length b4, S b5 a.d_.length b6, I J 0, S h8 l.length h9, I J d.m_, I J f.p_, I J g.s_] z z ca pN z ⟨z, z, nl z, z, z, nl z, z, z, nl z, z, z, nl z, z, z, nl z, z, z, nl z, z, z, nl z, Y⟩ z) <| aQ <| cR <| sC 0 [B n, I J p3.j_, I J p3.c_, S N 0 0, I J k, S b3 a.e_.length b4, S b5 a.d_.length b6, I J 0, S h8 l.length h9, I J d.m_, I J f.p_, I J g.s_] [_, _, _, _, _, _, _, _, _, _, _, _] 9 z ca z <| ay <| XW.at (J1 (H7) (k) (a.e_) (b3) (b4) (t0) (a.d_) (b5) (b6) (t1) (l) (h8) (h9) (H8) (d.m_) (f.p_) (g.s_) (H)) (ss [0, 1, 2, 9, 7, 8, 6, 3, 4] z z) (sb z)
              refine dM (tk 6 z) z <| aA z z z z ca (fun _ => (tk 6 z)) fun H9 => au z pk z z z z (fun m c => fb m a9 (c.carve [] z z) (aF (ad E m c) (ad F m c))) fun os m w2 c v9 => ?_
              obtain ⟨i0, pa, i1, I0, i2, ps, i3, I1, rfl, o2⟩ := v9
              obtain rfl := aI (i := 0) o2 z
              obtain rfl := aI (i := 1) o2 z
              refine ⟨St w D [_, _, _, _, _, _, _, _, _, _], c.comp [] z z o2, (tk 6 z), ?_⟩
              exact cm (r := 6) (ys := A.b_) z z z z z z aP ty3 z z z (ad u) C (fun _ _ _ => (tk 6 z)) fun i4 i5 I2 => bu z (aw z) (bL [(1, [I J p3.j_, I J p3.c_]), (4, [I J k]), (5, [S i0 a.e_.length i1, S i2 a.d_.length i3]), (8, [S i4 l.length i5]), (9, [I J d.m_]), (10, [I J f.p_]), (11, [I J g.s_])] [B n, I J p3.j_, I J p3.c_, S N 0 0, I J k, S i0 a.e_.length i1, S i2 a.d_.length i3, I J 0, S i4 l.length i5, I J d.m_, I J f.p_, I J g.s_] z z ca pN z ⟨z, z, nl z, z, z, nl z, z, z, nl z, z, z, nl z, z, z, nl z, z, z, nl z, z, z, nl z, Y⟩ z) <| aQ <| cR <| sC 0 [B n, I J p3.j_, I J p3.c_, S N 0 0, I J k, S i0 a.e_.length i1, S i2 a.d_.length i3, I J 0, S i4 l.length i5, I J d.m_, I J f.p_, I J g.s_] [_, _, _, _, _, _, _, _, _, _, _, _] 7 z ca z <| ay <| XW.at (J1 (H9) (k) (a.e_) (i0) (i1) (I0) (a.d_) (i2) (i3) (I1) (l) (i4) (i5) (I2) (d.m_) (f.p_) (g.s_) (H)) (ss [0, 1, 2, 7, 8, 9, 6, 3, 4] z z) (sb z)
             refine dM (tk 6 z) z <| aA z z z z ca (fun _ => (tk 6 z)) fun t2 => aQ <| eM (tk 6 z) z ?_ ?_
             ·refine au z pk z z z z (fun m c => fb m a9 (c.carve [] z z) (aF (ad E m c) (ad F m c))) (fun pv m w2 c w0 => ?_)
              obtain ⟨i6, px, i7, I3, i8, py, i9, I4, rfl, o3⟩ := w0
              obtain rfl := aI (i := 0) o3 z
              obtain rfl := aI (i := 1) o3 z
              refine ⟨St w D [_, _, _, _, _, _, _, _, _], c.comp [] z z o3, (tk 6 z), ?_⟩
              exact ce (e := eI) z z z z aP ty3 (fun _ => (tk 6 z)) fun qs => cm (r := 9) (ys := A.b_) z z z z z z aP ty3 z z z (ad u) C (fun _ _ _ => (tk 6 z)) fun j0 j1 I5 => bu z (aw z) (bL [(1, [I J p3.j_, I J p3.c_]), (4, [I J k]), (5, [S i6 a.e_.length i7, S i8 a.d_.length i9]), (8, [S j0 l.length j1]), (9, [I J d.m_]), (10, [I J f.p_]), (11, [I J g.s_])] [B n, I J p3.j_, I J p3.c_, S N 0 0, I J k, S i6 a.e_.length i7, S i8 a.d_.length i9, I J 0, S j0 l.length j1, I J d.m_, I J f.p_, I J g.s_] z z ca pN z ⟨z, z, nl z, z, z, nl z, z, z, nl z, z, z, nl z, z, z, nl z, z, z, nl z, z, z, nl z, Y⟩ z) <| aQ <| cR <| sC 0 [B n, I J p3.j_, I J p3.c_, S N 0 0, I J k, S i6 a.e_.length i7, S i8 a.d_.length i9, I J 0, S j0 l.length j1, I J d.m_, I J f.p_, I J g.s_] [_, _, _, _, _, _, _, _, _, _, _, _] 6 z ca z <| ay <| XW.at (J1 (t2) (k) (a.e_) (i6) (i7) (I3) (a.d_) (i8) (i9) (I4) (l) (j0) (j1) (I5) (d.m_) (f.p_) (g.s_) (H)) (ss [0, 1, 2, 6, 7, 8, 9, 3, 4] z z) (sb z)
             refine dM (tk 6 z) z <| ce (e := eI) z z z z aP ty3 (fun _ => (tk 6 z)) fun qy => au z pk z z z z (fun m c => fb m a9 (c.carve [] z z) (aF (ad E m c) (ad F m c))) fun re m w2 c w3 => ?_
             obtain ⟨j2, sp, j3, I6, j4, sz, j5, I7, rfl, o4⟩ := w3
             obtain rfl := aI (i := 0) o4 z
             obtain rfl := aI (i := 1) o4 z
             refine ⟨St w D [_, _, _, _, _, _, _, _, _, _], c.comp [] z z o4, (tk 6 z), ?_⟩
             exact cm (r := 7) (ys := A.b_) z z z z z z aP ty3 z z z (ad u) C (fun _ _ _ => (tk 6 z)) fun j6 j7 I8 => bu z (aw z) (bL [(1, [I J p3.j_, I J p3.c_]), (4, [I J k]), (5, [S j2 a.e_.length j3, S j4 a.d_.length j5]), (8, [S j6 l.length j7]), (9, [I J d.m_]), (10, [I J f.p_]), (11, [I J g.s_])] [B n, I J p3.j_, I J p3.c_, S N 0 0, I J k, S j2 a.e_.length j3, S j4 a.d_.length j5, I J 0, S j6 l.length j7, I J d.m_, I J f.p_, I J g.s_] z z ca pN z ⟨z, z, nl z, z, z, nl z, z, z, nl z, z, z, nl z, z, z, nl z, z, z, nl z, z, z, nl z, Y⟩ z) <| aQ <| cR <| sC 0 [B n, I J p3.j_, I J p3.c_, S N 0 0, I J k, S j2 a.e_.length j3, S j4 a.d_.length j5, I J 0, S j6 l.length j7, I J d.m_, I J f.p_, I J g.s_] [_, _, _, _, _, _, _, _, _, _, _, _] 6 z ca z <| ay <| XW.at (J1 (t2) (k) (a.e_) (j2) (j3) (I6) (a.d_) (j4) (j5) (I7) (l) (j6) (j7) (I8) (d.m_) (f.p_) (g.s_) (H)) (ss [0, 1, 2, 6, 8, 9, 7, 3, 4] z z) (sb z)
            refine eM (tk 6 z) z ?_ ?_
            ·refine ce (e := eI) z z z z aP ty3 (fun _ => (tk 6 z)) fun tb => aQ <| eM (tk 6 z) z ?_ ?_
             ·refine oq z (qc z xj (fun m c => jF m (p2 := p3) e6 (af (ad d3 m c) (ad d4 m c)) (aF (ad e0 m c) (ad e1 m c)))) (tk 6 z) <| aQ <| eM (tk 6 z) z ?_ ?_
              ·refine au z pk z z z z (fun m c => fb m a9 (c.carve [] z z) (aF (ad E m c) (ad F m c))) (fun td m w2 c w4 => ?_)
               obtain ⟨b7, ti, b8, t3, b9, ts, c1, t4, rfl, o5⟩ := w4
               obtain rfl := aI (i := 0) o5 z
               obtain rfl := aI (i := 1) o5 z
               refine ⟨St w D [_, _, _, _, _, _, _, _, _], c.comp [] z z o5, (tk 6 z), ?_⟩
               refine aQ <| eM (tk 6 z) z ?_ ?_
               ·exact cm (r := 6) (ys := A.b_) z z z z z z aP ty3 z z z (ad u) C (fun _ _ _ => (tk 6 z)) fun j8 j9 I9 => bu z (aw z) (bL [(1, [I J p3.j_, I J p3.c_]), (4, [I J k]), (5, [S b7 a.e_.length b8, S b9 a.d_.length c1]), (8, [S j8 l.length j9]), (9, [I J d.m_]), (10, [I J f.p_]), (11, [I J g.s_])] [B n, I J p3.j_, I J p3.c_, S N 0 0, I J k, S b7 a.e_.length b8, S b9 a.d_.length c1, I J 0, S j8 l.length j9, I J d.m_, I J f.p_, I J g.s_] z z ca pN z ⟨z, z, nl z, z, z, nl z, z, z, nl z, z, z, nl z, z, z, nl z, z, z, nl z, z, z, nl z, Y⟩ z) <| aA z z z z ca (fun _ => (tk 6 z)) fun J0 => aQ <| cR <| sC 0 [B n, I J p3.j_, I J p3.c_, S N 0 0, I J k, S b7 a.e_.length b8, S b9 a.d_.length c1, I J 0, S j8 l.length j9, I J d.m_, I J f.p_, I J g.s_] [_, _, _, _, _, _, _, _, _, _, _, _] 9 z ca z <| ay <| XW.at (J1 (J0) (k) (a.e_) (b7) (b8) (t3) (a.d_) (b9) (c1) (t4) (l) (j8) (j9) (I9) (d.m_) (f.p_) (g.s_) (H)) (ss [0, 1, 2, 9, 7, 8, 6, 3, 4] z z) (sb z)
               exact dM (tk 6 z) z <| aA z z z z ca (fun _ => (tk 6 z)) fun J2 => cm (r := 6) (ys := A.b_) z z z z z z aP ty3 z z z (ad u) C (fun _ _ _ => (tk 6 z)) fun k0 k3 J3 => bu z (aw z) (bL [(1, [I J p3.j_, I J p3.c_]), (4, [I J k]), (5, [S b7 a.e_.length b8, S b9 a.d_.length c1]), (8, [S k0 l.length k3]), (9, [I J d.m_]), (10, [I J f.p_]), (11, [I J g.s_])] [B n, I J p3.j_, I J p3.c_, S N 0 0, I J k, S b7 a.e_.length b8, S b9 a.d_.length c1, I J 0, S k0 l.length k3, I J d.m_, I J f.p_, I J g.s_] z z ca pN z ⟨z, z, nl z, z, z, nl z, z, z, nl z, z, z, nl z, z, z, nl z, z, z, nl z, z, z, nl z, Y⟩ z) <| aQ <| cR <| sC 0 [B n, I J p3.j_, I J p3.c_, S N 0 0, I J k, S b7 a.e_.length b8, S b9 a.d_.length c1, I J 0, S k0 l.length k3, I J d.m_, I J f.p_, I J g.s_] [_, _, _, _, _, _, _, _, _, _, _, _] 9 z ca z <| ay <| XW.at (J1 (J2) (k) (a.e_) (b7) (b8) (t3) (a.d_) (b9) (c1) (t4) (l) (k0) (k3) (J3) (d.m_) (f.p_) (g.s_) (H)) (ss [0, 1, 2, 9, 7, 8, 6, 3, 4] z z) (sb z)
              refine dM (tk 6 z) z <| aA z z z z ca (fun _ => (tk 6 z)) fun J4 => au z pk z z z z (fun m c => fb m a9 (c.carve [] z z) (aF (ad E m c) (ad F m c))) fun ty m w2 c w5 => ?_
              obtain ⟨k4, up, k5, J5, k6, vj, k7, J6, rfl, o6⟩ := w5
              obtain rfl := aI (i := 0) o6 z
              obtain rfl := aI (i := 1) o6 z
              refine ⟨St w D [_, _, _, _, _, _, _, _, _, _], c.comp [] z z o6, (tk 6 z), ?_⟩
              exact cm (r := 6) (ys := A.b_) z z z z z z aP ty3 z z z (ad u) C (fun _ _ _ => (tk 6 z)) fun k8 k9 J7 => bu z (aw z) (bL [(1, [I J p3.j_, I J p3.c_]), (4, [I J k]), (5, [S k4 a.e_.length k5, S k6 a.d_.length k7]), (8, [S k8 l.length k9]), (9, [I J d.m_]), (10, [I J f.p_]), (11, [I J g.s_])] [B n, I J p3.j_, I J p3.c_, S N 0 0, I J k, S k4 a.e_.length k5, S k6 a.d_.length k7, I J 0, S k8 l.length k9, I J d.m_, I J f.p_, I J g.s_] z z ca pN z ⟨z, z, nl z, z, z, nl z, z, z, nl z, z, z, nl z, z, z, nl z, z, z, nl z, z, z, nl z, Y⟩ z) <| aQ <| cR <| sC 0 [B n, I J p3.j_, I J p3.c_, S N 0 0, I J k, S k4 a.e_.length k5, S k6 a.d_.length k7, I J 0, S k8 l.length k9, I J d.m_, I J f.p_, I J g.s_] [_, _, _, _, _, _, _, _, _, _, _, _] 7 z ca z <| ay <| XW.at (J1 (J4) (k) (a.e_) (k4) (k5) (J5) (a.d_) (k6) (k7) (J6) (l) (k8) (k9) (J7) (d.m_) (f.p_) (g.s_) (H)) (ss [0, 1, 2, 7, 8, 9, 6, 3, 4] z z) (sb z)
             refine dM (tk 6 z) z <| aA z z z z ca (fun _ => (tk 6 z)) fun J8 => oq z (qc z xj (fun m c => jF m (p2 := p3) e6 (af (ad d3 m c) (ad d4 m c)) (aF (ad e0 m c) (ad e1 m c)))) (tk 6 z) <| au z pk z z z z (fun m c => fb m a9 (c.carve [] z z) (aF (ad E m c) (ad F m c))) fun vA m w2 c w6 => ?_
             obtain ⟨l0, wf, l1, J9, l2, wp, l3, K0, rfl, o7⟩ := w6
             obtain rfl := aI (i := 0) o7 z
             obtain rfl := aI (i := 1) o7 z
             refine ⟨St w D [_, _, _, _, _, _, _, _, _, _], c.comp [] z z o7, (tk 6 z), ?_⟩
             exact cm (r := 6) (ys := A.b_) z z z z z z aP ty3 z z z (ad u) C (fun _ _ _ => (tk 6 z)) fun l4 l5 K1 => bu z (aw z) (bL [(1, [I J p3.j_, I J p3.c_]), (4, [I J k]), (5, [S l0 a.e_.length l1, S l2 a.d_.length l3]), (8, [S l4 l.length l5]), (9, [I J d.m_]), (10, [I J f.p_]), (11, [I J g.s_])] [B n, I J p3.j_, I J p3.c_, S N 0 0, I J k, S l0 a.e_.length l1, S l2 a.d_.length l3, I J 0, S l4 l.length l5, I J d.m_, I J f.p_, I J g.s_] z z ca pN z ⟨z, z, nl z, z, z, nl z, z, z, nl z, z, z, nl z, z, z, nl z, z, z, nl z, z, z, nl z, Y⟩ z) <| aQ <| cR <| sC 0 [B n, I J p3.j_, I J p3.c_, S N 0 0, I J k, S l0 a.e_.length l1, S l2 a.d_.length l3, I J 0, S l4 l.length l5, I J d.m_, I J f.p_, I J g.s_] [_, _, _, _, _, _, _, _, _, _, _, _] 7 z ca z <| ay <| XW.at (J1 (J8) (k) (a.e_) (l0) (l1) (J9) (a.d_) (l2) (l3) (K0) (l) (l4) (l5) (K1) (d.m_) (f.p_) (g.s_) (H)) (ss [0, 1, 2, 7, 8, 9, 6, 3, 4] z z) (sb z)
            refine dM (tk 6 z) z <| aA z z z z ca (fun _ => (tk 6 z)) fun p9 => aQ <| eM (tk 6 z) z ?_ ?_
            ·refine oq z (qc z xj (fun m c => jF m (p2 := p3) e6 (af (ad d3 m c) (ad d4 m c)) (aF (ad e0 m c) (ad e1 m c)))) (tk 6 z) <| aQ <| eM (tk 6 z) z ?_ ?_
             ·refine au z pk z z z z (fun m c => fb m a9 (c.carve [] z z) (aF (ad E m c) (ad F m c))) (fun ws m w2 c w7 => ?_)
              obtain ⟨l6, xs, l7, K2, l8, zs, l9, K3, rfl, o8⟩ := w7
              obtain rfl := aI (i := 0) o8 z
              obtain rfl := aI (i := 1) o8 z
              refine ⟨St w D [_, _, _, _, _, _, _, _, _], c.comp [] z z o8, (tk 6 z), ?_⟩
              exact ce (e := eI) z z z z aP ty3 (fun _ => (tk 6 z)) fun zv => cm (r := 9) (ys := A.b_) z z z z z z aP ty3 z z z (ad u) C (fun _ _ _ => (tk 6 z)) fun m0 m1 K4 => bu z (aw z) (bL [(1, [I J p3.j_, I J p3.c_]), (4, [I J k]), (5, [S l6 a.e_.length l7, S l8 a.d_.length l9]), (8, [S m0 l.length m1]), (9, [I J d.m_]), (10, [I J f.p_]), (11, [I J g.s_])] [B n, I J p3.j_, I J p3.c_, S N 0 0, I J k, S l6 a.e_.length l7, S l8 a.d_.length l9, I J 0, S m0 l.length m1, I J d.m_, I J f.p_, I J g.s_] z z ca pN z ⟨z, z, nl z, z, z, nl z, z, z, nl z, z, z, nl z, z, z, nl z, z, z, nl z, z, z, nl z, Y⟩ z) <| aQ <| cR <| sC 0 [B n, I J p3.j_, I J p3.c_, S N 0 0, I J k, S l6 a.e_.length l7, S l8 a.d_.length l9, I J 0, S m0 l.length m1, I J d.m_, I J f.p_, I J g.s_] [_, _, _, _, _, _, _, _, _, _, _, _] 6 z ca z <| ay <| XW.at (J1 (p9) (k) (a.e_) (l6) (l7) (K2) (a.d_) (l8) (l9) (K3) (l) (m0) (m1) (K4) (d.m_) (f.p_) (g.s_) (H)) (ss [0, 1, 2, 6, 7, 8, 9, 3, 4] z z) (sb z)
             refine dM (tk 6 z) z <| ce (e := eI) z z z z aP ty3 (fun _ => (tk 6 z)) fun An => au z pk z z z z (fun m c => fb m a9 (c.carve [] z z) (aF (ad E m c) (ad F m c))) fun AT m w2 c w8 => ?_
             obtain ⟨m2, Cf, m3, K5, m4, Cs, m5, K6, rfl, o9⟩ := w8
             obtain rfl := aI (i := 0) o9 z
             obtain rfl := aI (i := 1) o9 z
             refine ⟨St w D [_, _, _, _, _, _, _, _, _, _], c.comp [] z z o9, (tk 6 z), ?_⟩
             exact cm (r := 7) (ys := A.b_) z z z z z z aP ty3 z z z (ad u) C (fun _ _ _ => (tk 6 z)) fun m6 m7 K7 => bu z (aw z) (bL [(1, [I J p3.j_, I J p3.c_]), (4, [I J k]), (5, [S m2 a.e_.length m3, S m4 a.d_.length m5]), (8, [S m6 l.length m7]), (9, [I J d.m_]), (10, [I J f.p_]), (11, [I J g.s_])] [B n, I J p3.j_, I J p3.c_, S N 0 0, I J k, S m2 a.e_.length m3, S m4 a.d_.length m5, I J 0, S m6 l.length m7, I J d.m_, I J f.p_, I J g.s_] z z ca pN z ⟨z, z, nl z, z, z, nl z, z, z, nl z, z, z, nl z, z, z, nl z, z, z, nl z, z, z, nl z, Y⟩ z) <| aQ <| cR <| sC 0 [B n, I J p3.j_, I J p3.c_, S N 0 0, I J k, S m2 a.e_.length m3, S m4 a.d_.length m5, I J 0, S m6 l.length m7, I J d.m_, I J f.p_, I J g.s_] [_, _, _, _, _, _, _, _, _, _, _, _] 6 z ca z <| ay <| XW.at (J1 (p9) (k) (a.e_) (m2) (m3) (K5) (a.d_) (m4) (m5) (K6) (l) (m6) (m7) (K7) (d.m_) (f.p_) (g.s_) (H)) (ss [0, 1, 2, 6, 8, 9, 7, 3, 4] z z) (sb z)
            refine dM (tk 6 z) z <| ce (e := eI) z z z z aP ty3 (fun _ => (tk 6 z)) fun Ef => oq z (qc z xj (fun m c => jF m (p2 := p3) e6 (af (ad d3 m c) (ad d4 m c)) (aF (ad e0 m c) (ad e1 m c)))) (tk 6 z) <| au z pk z z z z (fun m c => fb m a9 (c.carve [] z z) (aF (ad E m c) (ad F m c))) fun Fa m w2 c w9 => ?_
            obtain ⟨m8, Fb, m9, K8, n1, Fi, n2, K9, rfl, p5⟩ := w9
            obtain rfl := aI (i := 0) p5 z
            obtain rfl := aI (i := 1) p5 z
            refine ⟨St w D [_, _, _, _, _, _, _, _, _, _], c.comp [] z z p5, (tk 6 z), ?_⟩
            exact cm (r := 7) (ys := A.b_) z z z z z z aP ty3 z z z (ad u) C (fun _ _ _ => (tk 6 z)) fun n3 n4 L0 => bu z (aw z) (bL [(1, [I J p3.j_, I J p3.c_]), (4, [I J k]), (5, [S m8 a.e_.length m9, S n1 a.d_.length n2]), (8, [S n3 l.length n4]), (9, [I J d.m_]), (10, [I J f.p_]), (11, [I J g.s_])] [B n, I J p3.j_, I J p3.c_, S N 0 0, I J k, S m8 a.e_.length m9, S n1 a.d_.length n2, I J 0, S n3 l.length n4, I J d.m_, I J f.p_, I J g.s_] z z ca pN z ⟨z, z, nl z, z, z, nl z, z, z, nl z, z, z, nl z, z, z, nl z, z, z, nl z, z, z, nl z, Y⟩ z) <| aQ <| cR <| sC 0 [B n, I J p3.j_, I J p3.c_, S N 0 0, I J k, S m8 a.e_.length m9, S n1 a.d_.length n2, I J 0, S n3 l.length n4, I J d.m_, I J f.p_, I J g.s_] [_, _, _, _, _, _, _, _, _, _, _, _] 6 z ca z <| ay <| XW.at (J1 (p9) (k) (a.e_) (m8) (m9) (K8) (a.d_) (n1) (n2) (K9) (l) (n3) (n4) (L0) (d.m_) (f.p_) (g.s_) (H)) (ss [0, 1, 2, 6, 8, 9, 7, 3, 4] z z) (sb z)
         ·generalize (r0.m_ == 6) = N4 at key ⊢
          cases N4
          ·exact aa [.fa 30 0 0 cc] z <| o1 z (r1 0 4 z eC z) <| aa [.lenS 28 71 dX, .p, .lenS 67 31 iR, .p, .p] z <| oP z <| OW.sub key (sb z)
          ·exact aa [.p, .p, .p, .p, .p, .p, .p, .p] z <| OW.sub key (sb z)
     ·clear H
      have H := r4
      clear r4
      generalize q9 = N5 at H key ⊢
      cases N5
      ·have H := ba z H
       refine aa [.p, .lenS 67 31 iR] z <| o1 z (rx 0 0 _ z cg z) <| o1 z (rx 0 2 _ z cM z) <| bE H fun Hv N6 H => oq z (qc z yi (fun m c => gv m (p1 := p3) N6 (af (ad d3 m c) (ad d4 m c)))) tt2 <| oP z <| oP z <| ?_
       obtain rfl := ai H
       exact OW.sub key (sb z)
      ·have H := aZ z H
       refine aa [.p, .p, .p, .p, .p, .p, .p] z ?_
       obtain rfl := ai H
       exact OW.sub key (sb z)
    ·clear H
     have H := r3
     clear r3
     generalize u0 = N7 at H key ⊢
     cases N7
     ·have H := ba z H
      refine o1 z (rx 0 0 _ z cg z) <| o1 z (rx 0 2 _ z cM z) <| bE H fun Hw N8 H => oq z (qc z xE (fun m c => gK m (p1 := p3) N8 (af (ad d3 m c) (ad d4 m c)))) tt2 <| oP z <| oP z <| ?_
      obtain rfl := ai H
      exact OW.sub key (sb z)
     ·have H := aZ z H
      refine aa [.p, .p, .p, .p, .p] z ?_
      obtain rfl := ai H
      exact OW.sub key (sb z)
   ·clear H
    have H := r2
    clear r2
    generalize t8 = N9 at H key ⊢
    cases N9
    ·have H := ba z H
     refine aa [.fa 30 0 0 cc] z <| o1 z (r1 0 1 z eC z) <| oP z <| bE H fun HQ Q2 H => cn z z z z z dX ca z d5 Q2 fun HR HT O0 O1 => ?_
     obtain ⟨HU, HV, HW, HX, HY, HZ, Ia, Hx, Hy, Hz, rfl, O2, O3, O4, O5, O6, O7, O8, O9, P0, P1⟩ := bj O0
     obtain rfl := O2
     obtain rfl := O3
     obtain ⟨HA, HB, rfl⟩ := aj O4
     obtain rfl := O5
     obtain ⟨HC, HD, rfl, P2, P3⟩ := aK O6
     obtain ⟨HE, HF, rfl⟩ := aj P2
     obtain ⟨HG, HH, rfl⟩ := aj P3
     obtain rfl := O7
     obtain ⟨HI, HJ, rfl⟩ := aj O8
     obtain rfl := O9
     obtain rfl := P0
     obtain rfl := P1
     refine aa [.fa 71 4 5 gk, .fa 69 1 1 eE] z <| o1 z (aD z z kq (bW bor (lz (lz O1 5 2) 1 1))) <| aa [.lenS 67 31 iR, .p] z <| oP z <| ?_
     obtain rfl := ai H
     exact OW.sub key (sb z)
    ·have H := aZ z H
     refine aa [.p, .p, .p, .p, .p, .p, .p, .p, .p, .p] z ?_
     obtain rfl := ai H
     exact OW.sub key (sb z)
  ·clear H
   have H := t9
   clear t9
   generalize t6 = Q3 at H key ⊢
   cases Q3
   ·have H := ba z H
    refine aa [.fa 30 0 0 cc] z <| o1 z (r1 0 1 z eC z) <| oP z <| bE H fun Ib Q4 H => cn z z z z z dX ca z d5 Q4 fun Ic Id P4 P5 => ?_
    obtain ⟨Ie, If, Ig, Ih, Ii, Ij, Ik, Il, Im, In, rfl, Q5, Q6, Q7, Q8, Q9, R0, R1, R2, R3, R4⟩ := bj P4
    obtain rfl := Q5
    obtain rfl := Q6
    obtain ⟨Io, Ip, rfl⟩ := aj Q7
    obtain rfl := Q8
    obtain ⟨Iq, Ir, rfl, R5, R6⟩ := aK Q9
    obtain ⟨Is, It, rfl⟩ := aj R5
    obtain ⟨Iu, Iv, rfl⟩ := aj R6
    obtain rfl := R0
    obtain ⟨Iw, Ix, rfl⟩ := aj R1
    obtain rfl := R2
    obtain rfl := R3
    obtain rfl := R4
    refine aa [.fa 71 0 0 mg] z <| o1 z (aD z z ty4 (bW bor (lz P5 0 1))) <| oP z <| oP z <| ?_
    obtain rfl := ai H
    exact OW.sub key (sb z)
   ·have H := aZ z H
    refine aa [.p, .p, .p, .p, .p, .p, .p, .p] z ?_
    obtain rfl := ai H
    exact OW.sub key (sb z)
 ·clear H
  have H := t7
  clear t7
  generalize (!L3) = R7 at H key ⊢
  cases R7
  ·have H := ba z H
   refine aa [.p, .fa 30 0 0 cc] z <| o1 z (r1 0 1 z eC z) <| aa [.lenS 28 71 dX, .p] z <| bE H fun Iy R8 H => oq z (qc z iF (fun m c => bl m R8)) tt2 <| oP z <| oP z <| ?_
   obtain rfl := ai H
   exact OW.sub key (sb z)
  ·have H := aZ z H
   refine aa [.p, .p, .p, .p, .p, .p, .p, .p] z ?_
   obtain rfl := ai H
   exact OW.sub key (sb z)
theorem qh (w : World) {q : List Nat} {p0 : ah} {D : List Value} {r : List Int} (H : jo p0 = U r) (HS : St w q [] w) (g0 : (cz).rd w q p0 D) :
    Calls Tryz.prog 179 #[.agg D.toArray] w (fun en w' => ∃ v, en = .returned v ∧ ∃ (a0 : Option Addr), ∃ (n0 : Nat), ∃ (c0 : Nat), ∃ (F0 : List Nat), v = S a0 n0 c0 ∧ St w q [W (ae eI 3) F0 r [S a0 n0 c0]] w') := by
 obtain ⟨i3, i4, rfl, k, c8⟩ := bZ g0
 obtain ⟨c9, d0, rfl⟩ := aj k
 obtain rfl := c8
 unfold jo at H
 refine aH Tryz.func179 z Tryz.ntmps179 z (HS) <| sR <| ob _ z fun h => oP z <| nR <| ce (e := eI) z z z z aP ty3 (fun _ => kp) fun E => oP z <| nQ <| ak <| sR <| oP z <| nQ <| az <| CW.at (iX (fun (a : List Int) (d : Option Addr) (f : Nat) (g : List Nat) (c : Int) => St w q [b h 30 [S c9 p0.a_.length d0, I J p0.k_], W (ae eI 3) g a [S d a.length f]]) (fun a d f g c => [(1, O (U ⟨h, 0, N⟩)), (3, S d a.length f), (4, I J c)]) (fun kk => fun a d f g c => d.isNone = n ∧ dx p0 kk a c = U r) (fun _ _ _ _ _ H => ?_) (fun k1 l a d f g c ⟨s, H⟩ => ?_) be (([] : List Int)) ((U ⟨E, 0, N⟩)) (0) ([E]) (0) (⟨z, H⟩)) (ss [0, 1] z z) (sb z)
 ·unfold dx at H
  exact absurd H (by simp)
 ·unfold dx at H
  refine ak <| sR <| aa [.p, .fa 30 0 0 cc] z <| o1 z (r1 0 0 z eC z) <| aa [.lenS 28 71 dX, .p] z <| nQ <| cI H z (fun H => ?_) (fun H => ?_)
  ·refine ar <| ax <| ak <| az <| sR <| aa [.fa 30 0 0 cc] z <| o1 z (r1 0 0 z eC z) <| oP z <| bE H fun m F H => cn z z z z z dX ca z k F fun d4 d5 t u => ?_
   obtain ⟨d6, d7, d8, d9, e0, e1, e2, e3, e4, e5, rfl, G, L, M, P, Q, X, Z, a1, a2, a3⟩ := bj t
   obtain rfl := G
   obtain rfl := L
   obtain ⟨e6, e7, rfl⟩ := aj M
   obtain rfl := P
   obtain ⟨e9, f0, rfl, a4, a5⟩ := aK Q
   obtain ⟨f1, f2, rfl⟩ := aj a4
   obtain ⟨f3, f4, rfl⟩ := aj a5
   obtain rfl := X
   obtain ⟨f5, f6, rfl⟩ := aj Z
   obtain rfl := a1
   obtain rfl := a2
   obtain rfl := a3
   refine aa [.fa 71 0 0 mg] z <| o1 z (aD z z ty4 (bW bor (lz u 0 1))) <| oP z <| bE H fun a6 j H => aS [(29, B a6), (1, O (U ⟨h, 0, N⟩)), (3, S d a.length f), (4, I J c)] 10 ?_ (fun key => OW.sub (R := [(1, O (U ⟨h, 0, N⟩)), (3, S d a.length f), (4, I J c), (19, B m.q_)]) ?_ (sb z))
   ·refine nQ <| cI H z (fun H => ?_) (fun H => ?_)
    ·exact aW <| oPP z <| bQ (val := I J) (h1 := fun _ => z) [c] [(0, [I J c])] z z z z z aP ty3 z z z ⟨z, z, nl z, Y⟩ z z (fun _ => kp) fun f7 => bE H fun a7 o H => cm (r := 1) (ys := ([c] : List Int)) z z z z z z aP ty3 z z z (ap (e := ae eI 3) (r := 2) z) o (fun _ _ _ => kp) fun a8 a9 b0 => ct z (fun w1 d1 => fh (i := 1) d1 z (ff o)) fun x => oP z <| ay <| cd <| ax <| aW <| aa [.p, .p, .p] z <| ay <| cD (RW.at (l (a7) (a8) (a9) (b0) (J.wrap (c + 1)) (⟨x, H⟩)) (ss [0, 1] z z) (sb z))
    ·exact ar <| cd <| ax <| aW <| aa [.p, .p, .p] z <| ay <| cD (RW.at (l (a) (d) (f) (g) (J.wrap (c + 1)) (⟨s, H⟩)) (ss [0, 1] z z) (sb z))
   ·clear H
    have H := j
    clear j
    generalize m.q_ = b1 at H key ⊢
    cases b1
    ·have H := ba z H
     refine aa [.p, .p, .p, .p, .p, .p, .p, .p, .p, .p] z ?_
     obtain rfl := ai H
     exact OW.sub key (sb z)
    ·have H := aZ z H
     refine aa [.fa 30 0 0 cc] z <| o1 z (r1 0 0 z eC z) <| oP z <| bE H fun f8 b2 H => cn z z z z z dX ca z k b2 fun f9 g1 A C => ?_
     obtain ⟨g2, g3, g4, g5, g6, g7, g8, g9, h0, h2, rfl, b3, b4, b5, b6, b7, b8, b9, c1, c2, c3⟩ := bj A
     obtain rfl := b3
     obtain rfl := b4
     obtain ⟨h3, h4, rfl⟩ := aj b5
     obtain rfl := b6
     obtain ⟨h5, h6, rfl, c4, c5⟩ := aK b7
     obtain ⟨h7, h8, rfl⟩ := aj c4
     obtain ⟨h9, i0, rfl⟩ := aj c5
     obtain rfl := b8
     obtain ⟨i1, i2, rfl⟩ := aj b9
     obtain rfl := c1
     obtain rfl := c2
     obtain rfl := c3
     refine aa [.fa 71 4 5 gk, .fa 69 1 1 eE] z <| o1 z (aD z z kq (bW bor (lz (lz C 5 2) 1 1))) <| aa [.lenS 67 31 iR, .p] z <| oP z <| ?_
     obtain rfl := ai H
     exact OW.sub key (sb z)
  ·exact bF <| aN <| aR <| aO <| ax <| sR <| oPP z <| nT <| bg (rs := [.tmp 2]) (vs := [S d a.length f]) z ⟨z, Y⟩ (fun w' hw' => by
    obtain rfl := ai H
    exact ⟨_, z, d, a.length, f, g, z, hw'.sel [1] z z⟩)
theorem pI (w : World) {p0 : ab} {p1 : av} {i : List Value} {k : List Value} {r : Int} (H : kU p0 p1 = U r) (s : (aJ).rd w [] p0 i) (t : (cu).rd w [] p1 k) :
    Calls Tryz.prog 180 #[.agg i.toArray, .agg k.toArray] w (fun en w' => en = .returned (I J r) ∧ Ext [] w w') := by
 obtain ⟨u, v, rfl, f, g⟩ := aB s
 obtain ⟨x, A, rfl⟩ := aj f
 obtain ⟨C, D, rfl⟩ := aj g
 obtain ⟨E, F, rfl, d, h⟩ := aK t
 obtain ⟨G, L, rfl⟩ := aj d
 obtain ⟨M, P, rfl⟩ := aj h
 unfold kU at H
 refine aH Tryz.func180 z Tryz.ntmps180 z (St.init w []) <| sR <| ob _ z fun Q => ob _ z fun R => oP z <| nQ <| ak <| sR <| o1 z (rx 0 0 _ z cg z) <| o1 z (rx 0 1 _ z cT z) <| bE H fun X m H => oq z (qc z vR (fun c a => fB c m (af (ad f c a) (ad g c a)) (aF (ad d c a) (ad h c a)))) tt2 <| oP z <| nQ <| cI H z (fun H => ?_) (fun H => ?_)
 ·exact sR <| oP z <| nT <| am <| xr 4 z (by cases H; exact q1)
 ·exact ar <| ax <| ak <| dW cj (by kernel_rfl) <| o1 z (rx 0 0 _ z cg z) <| o1 z (rx 0 1 _ z cT z) <| bE H fun Z o H => oq z (qc z AR (fun c a => iM c o (af (ad f c a) (ad g c a)) (aF (ad d c a) (ad h c a)))) tt2 <| aa [.fa 69 0 0 jz] z <| o1 z (r1 0 1 z cq z) <| aa [.fa 69 0 0 jz] z <| o1 z (r1 0 1 z cq z) <| bE H fun p q H => oq z (qc z Ds (fun c a => qW c q (ad d c a))) tt2 <| bE H fun a0 l H => bo (e := eI) (xs := p1.e_) (j := p) z z z z z aP ty3 z (ad d) l (by rw [Nat.mul_one]) <| o1 z (aD z z ty3 (bD (ad d) l)) <| oPP z <| cC <| ax <| qT <| xr 4 z (by cases H; exact q1)
end Go.Vk
