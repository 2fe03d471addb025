/- The code does what the functions of data say. Printed by program. -/
import Derived.Test.YtdckhcfbccnjiaaGreatDoorWWyC
namespace Go.Vk
open Value renaming int → I, slice → S, pointer → O, bool → B
open IntKind renaming i64 → J, u8 → K
open Bool renaming true → y, false → n
open Option renaming some → U, none → N
open Res renaming box → b, own → W
open Go.Proofs Go.RowKit
set_option maxHeartbeats 4000000
set_option maxRecDepth 100000
theorem pK (w : World) {p0 : ab} {p1 : ah} {Z : List Value} {a0 : List Value} {r : Int} (H : kO p0 p1 = U r) (g0 : (aJ).rd w [] p0 Z) (g1 : (cz).rd w [] p1 a0) :
    Calls Tryz.prog 162 #[.agg Z.toArray, .agg a0.toArray] w (fun en w' => en = .returned (I J r) ∧ Ext [] w w') := by
 obtain ⟨j1, j2, rfl, k, l⟩ := aB g0
 obtain ⟨d7, d8, rfl⟩ := aj k
 obtain ⟨d9, e0, rfl⟩ := aj l
 obtain ⟨j3, j4, rfl, h, e1⟩ := bZ g1
 obtain ⟨e2, e3, rfl⟩ := aj h
 obtain rfl := e1
 unfold kO at H
 refine aH Tryz.func162 z Tryz.ntmps162 z (St.init w []) <| sR <| ob _ z fun m => ob _ z fun o => oP z <| nQ <| ak <| sR <| o1 z (rx 0 0 _ z cg z) <| o1 z (rx 0 1 _ z bx z) <| bE H fun j5 e4 H => oq z (qc z fn8 (fun f a => jH f e4 (af (ad k f a) (ad l f a)) (aM (ad h f a) z))) tt2 <| oP z <| nQ <| cI H z (fun H => ?_) (fun H => ?_)
 ·exact sR <| oP z <| nT <| am <| xr 4 z (by cases H; exact q1)
 ·refine ar <| ax <| sR <| oP z <| nR <| o1 z (rx 0 1 _ z bx z) <| bE H fun g e5 H => au z ES z z z z (fun f a => qh f e5 (a.carve [] z z) (aM (ad h f a) z)) fun j6 f w2 a a1 => ?_
  obtain ⟨q, j7, s, e6, rfl, u⟩ := a1
  obtain rfl := aI (i := 0) u z
  refine ⟨St w [] [_, _, _], a.comp [] z z u, fun _ _ => Y, ?_⟩
  refine oP z <| nQ <| ak <| sR <| oP z <| nQ <| az <| CW.at (hI (fun (d : Int) (c : Int) => St w [] [b m 27 [S d7 p0.b_.length d8, S d9 p0.l_.length e0], b o 30 [S e2 p1.a_.length e3, I J p1.k_], W (ae eI 3) e6 g [S q g.length s]]) (fun d c => [(2, O (U ⟨m, 0, N⟩)), (3, O (U ⟨o, 0, N⟩)), (5, I J d), (6, S q g.length s), (7, I J c)]) (fun kk => fun d c => fD g p1 p0 kk d c = U r) (fun _ _ H => ?_) (fun k1 v d c H => ?_) be ((-1)) (0) (H)) (ss [0, 1, 2] z z) (sb z)
  ·unfold fD at H
   exact absurd H (by simp)
  ·unfold fD at H
   refine ak <| sR <| aa [.p, .p, .lenS 31 3 aP, .p] z <| nQ <| cI H z (fun H => ?_) (fun H => ?_)
   ·refine ar <| ax <| ak <| az <| ak <| dW cj (by kernel_rfl) <| aa [.p, .p, .p] z <| bE H fun a2 t H => aS [(43, B a2), (2, O (U ⟨m, 0, N⟩)), (3, O (U ⟨o, 0, N⟩)), (5, I J d), (6, S q g.length s), (7, I J c)] 21 ?_ (fun key => OW.sub (R := [(2, O (U ⟨m, 0, N⟩)), (3, O (U ⟨o, 0, N⟩)), (5, I J d), (6, S q g.length s), (7, I J c), (22, B (decide (d < 0)))]) ?_ (sb z))
    ·refine cC <| ax <| cI H z (fun H => ?_) (fun H => ?_)
     ·exact aW <| oPP z <| bE H fun a3 x H => bo (e := eI) (xs := g) (j := c) z z z z z aP ty3 z (ap (e := ae eI 3) (r := 2) z) x (by rw [Nat.mul_one]) <| o1 z (aD z z ty3 (bD (ap (e := ae eI 3) (r := 2) z) x)) <| oP z <| ay <| cd <| ax <| aW <| aa [.p, .p, .p] z <| ay <| cD (RW.at (v (a3) (J.wrap (c + 1)) (H)) (ss [0, 1, 2] z z) (sb z))
     ·exact ar <| cd <| ax <| aW <| aa [.p, .p, .p] z <| ay <| cD (RW.at (v (d) (J.wrap (c + 1)) (H)) (ss [0, 1, 2] z z) (sb z))
    ·clear H
     have H := t
     clear t
     generalize (decide (d < 0)) = a4 at H key ⊢
     cases a4
     ·have H := ba z H
      refine o1 z (rx 0 0 _ z cg z) <| aa [.fa 30 0 0 cc] z <| o1 z (r1 0 1 z eC z) <| oPP z <| bE H fun f0 A H => bo (e := eI) (xs := g) (j := c) z z z z z aP ty3 z (ap (e := ae eI 3) (r := 2) z) A (by rw [Nat.mul_one]) <| o1 z (aD z z ty3 (bD (ap (e := ae eI 3) (r := 2) z) A)) <| bE H fun C a5 H => cn z z z z z dX ca z h a5 fun f1 f2 M P => ?_
      obtain ⟨f3, f4, f5, f6, f7, f8, f9, g2, g3, g4, rfl, a6, a7, a8, a9, b0, b1, b2, b3, b4, b5⟩ := bj M
      obtain rfl := a6
      obtain rfl := a7
      obtain ⟨g5, g6, rfl⟩ := aj a8
      obtain rfl := a9
      obtain ⟨g7, g8, rfl, D, E⟩ := aK b0
      obtain ⟨b6, b7, rfl⟩ := aj D
      obtain ⟨b8, b9, rfl⟩ := aj E
      obtain rfl := b1
      obtain ⟨g9, h0, rfl⟩ := aj b2
      obtain rfl := b3
      obtain rfl := b4
      obtain rfl := b5
      refine aa [.fa 71 4 5 gk] z <| o1 z (cA (cs := [S b6 C.n_.e_.length b7, S b8 C.n_.d_.length b9]) z z cT (bW bor (lz P 5 2)) z) <| bE H fun h1 c0 H => oq z (qc z Dt (fun f a => pI f c0 (af (ad k f a) (ad l f a)) (aF (ad D f a) (ad E f a)))) tt2 <| o1 z (rx 0 0 _ z cg z) <| aa [.fa 30 0 0 cc] z <| o1 z (r1 0 1 z eC z) <| oP z <| bE H fun F c1 H => cn z z z z z dX ca z h c1 fun h2 h3 Q X => ?_
      obtain ⟨h4, h5, h6, h7, h8, h9, i0, i1, i2, i3, rfl, c2, c3, c4, c5, c6, c7, c8, c9, d0, d1⟩ := bj Q
      obtain rfl := c2
      obtain rfl := c3
      obtain ⟨i4, i5, rfl⟩ := aj c4
      obtain rfl := c5
      obtain ⟨i6, i7, rfl, G, L⟩ := aK c6
      obtain ⟨d2, d3, rfl⟩ := aj G
      obtain ⟨d4, d5, rfl⟩ := aj L
      obtain rfl := c7
      obtain ⟨i8, i9, rfl⟩ := aj c8
      obtain rfl := c9
      obtain rfl := d0
      obtain rfl := d1
      refine aa [.fa 71 4 5 gk] z <| o1 z (cA (cs := [S d2 F.n_.e_.length d3, S d4 F.n_.d_.length d5]) z z cT (bW bor (lz X 5 2)) z) <| bE H fun j0 d6 H => oq z (qc z Dt (fun f a => pI f d6 (af (ad k f a) (ad l f a)) (aF (ad G f a) (ad L f a)))) tt2 <| oP z <| oP z <| ?_
      obtain rfl := ai H
      exact OW.sub key (sb z)
     ·have H := aZ z H
      refine aa [.p, .p, .p, .p, .p, .p, .p, .p, .p, .p, .p, .p, .p, .p, .p, .p, .p, .p, .p, .p, .p] z ?_
      obtain rfl := ai H
      exact OW.sub key (sb z)
   ·exact bF <| aN <| aR <| aO <| ax <| sR <| oPP z <| nT <| xr 4 z (by cases H; exact q1)
theorem tD (w : World) {s : List Nat} {p0 : ab} {p1 : ah} {p2 : Int} {b7 : List Value} {b8 : List Value} {r : ah × (List Int)} (H : mh p0 p1 p2 = U r) (HS : St w s [] w) (g0 : (aJ).rd w s p0 b7) (g1 : (cz).rd w s p1 b8) :
    Calls Tryz.prog 146 #[.agg b7.toArray, .agg b8.toArray, I J p2] w (fun en w' => ∃ v, en = .returned v ∧ ∃ (a0 : Option Addr), ∃ (n0 : Nat), ∃ (c0 : Nat), ∃ (F0 : List Nat), ∃ (a1 : Option Addr), ∃ (n1 : Nat), ∃ (c1 : Nat), ∃ (F1 : List Nat), v = .tuple #[.agg #[S a0 n0 c0, I J r.1.k_], S a1 n1 c1] ∧ St w s [W (ae (aC) 71) F0 r.1.a_ [S a0 n0 c0], W (ae eI 3) F1 r.2 [S a1 n1 c1]] w') := by
 obtain ⟨h8, h9, rfl, a4, a5⟩ := aB g0
 obtain ⟨b9, c2, rfl⟩ := aj a4
 obtain ⟨c3, c4, rfl⟩ := aj a5
 obtain ⟨i0, i1, rfl, a7, f6⟩ := bZ g1
 obtain ⟨i2, i3, rfl⟩ := aj a7
 obtain rfl := f6
 unfold mh at H
 refine aH Tryz.func146 z Tryz.ntmps146 z (HS) <| sR <| ob _ z fun Q => ob _ z fun i4 => aA z z z z bx (fun _ => kp) fun X => oP z <| nR <| o1 z (rx 0 1 _ z bx z) <| bE H fun d f7 H => au z vw z z z z (fun f c => je f f7 (c.carve [] z z) (aM (ad a7 f c) z)) fun i5 f w2 c c6 => ?_
 obtain ⟨k, i6, j, c5, rfl, a8⟩ := c6
 obtain rfl := aI (i := 0) a8 z
 refine ⟨St w s [_, _, _, _], c.comp [] z z a8, fun _ _ => Y, ?_⟩
 refine aA z z z z bx (fun _ => kp) fun Z => sC 0 [S k d.a_.length j, I J d.k_] [_, _] 4 z bx z <| nR <| ce (e := eI) z z z z aP ty3 (fun _ => kp) fun a2 => oP z <| nQ <| ak <| sR <| o1 z (rx 0 0 _ z cg z) <| o1 z (rx 0 1 _ z bx z) <| bE H fun i7 f8 H => oq z (qc z fn8 (fun f c => jH f f8 (af (ad a4 f c) (ad a5 f c)) (aM (ad a7 f c) z))) tt2 <| oP z <| nQ <| cI H z (fun H => ?_) (fun H => ?_)
 ·exact sR <| o1 z (rx 0 4 _ z bx z) <| oP z <| sC 0 [S k d.a_.length j, I J d.k_] [_, _] 2 z bx z <| oP z <| nT <| am <| bg (rs := [.cell 6 30, .tmp 7]) (vs := [.agg #[S k d.a_.length j, I J d.k_], S (U ⟨a2, 0, N⟩) 0 0]) z ⟨⟨_, [S k d.a_.length j, I J d.k_], _, _, _, z, bx, (bB (T := 30) 0 (bX (i := 2) z) z), z, z⟩, z, Y⟩ (fun w' hw' => by
   obtain rfl := ai H
   exact ⟨_, z, k, d.a_.length, j, c5, (U ⟨a2, 0, N⟩), 0, 0, [a2], z, hw'.sel [3, 5] z z⟩)
 ·refine ar <| ax <| ak <| az <| CW.at (wB (fun (m : List aT) (C : List Nat) (g : List Int) (l : Option Addr) (o : Nat) (t : List Nat) => St w s [b Q 27 [S b9 p0.b_.length c2, S c3 p0.l_.length c4], b X 30 [S N 0 0, I J 0], b Z 30 [S k d.a_.length j, I J d.k_], W (ae (aC) 71) C m [S k d.a_.length j], W (ae eI 3) t g [S l g.length o]]) (fun m C g l o t => [(2, I J p2), (3, O (U ⟨Q, 0, N⟩)), (6, O (U ⟨X, 0, N⟩)), (8, O (U ⟨Z, 0, N⟩)), (9, S l g.length o)]) (fun kk => fun m C g l o t => l.isNone = n ∧ ia d p2 p0 kk m g = U r) (fun _ _ _ _ _ _ H => ?_) (fun k1 c7 m C g l o t ⟨f9, H⟩ => ?_) be (d.a_) (c5) (([] : List Int)) ((U ⟨a2, 0, N⟩)) (0) ([a2]) (⟨z, H⟩)) (ss [0, 2, 4, 3, 5] z z) (sb z)
  ·unfold ia at H
   exact absurd H (by simp)
  ·unfold ia at H
   refine ak <| sR <| o1 z (rx 0 2 _ z bx z) <| bE H fun a9 c8 H => oq z (qc z DG (fun f c => oF f c8 (aM (x := (ah.mk m d.k_)) (c0 := [S k d.a_.length j]) (c1 := [I J d.k_]) (ap (e := ae (aC) 71) (r := 3) z f c) z))) tt2 <| aa [.p, .p, .p] z <| bE H fun c9 a6 H => aS [(29, B c9), (2, I J p2), (3, O (U ⟨Q, 0, N⟩)), (6, O (U ⟨X, 0, N⟩)), (8, O (U ⟨Z, 0, N⟩)), (9, S l g.length o)] 5 ?_ (fun key => OW.sub (R := [(2, I J p2), (3, O (U ⟨Q, 0, N⟩)), (6, O (U ⟨X, 0, N⟩)), (8, O (U ⟨Z, 0, N⟩)), (9, S l g.length o), (24, B (decide (a9 > p2)))]) ?_ (sb z))
   ·refine nQ <| cI H z (fun H => ?_) (fun H => ?_)
    ·refine ar <| ax <| az <| sR <| o1 z (rx 0 0 _ z cg z) <| o1 z (rx 0 2 _ z bx z) <| bE H fun D d0 H => oq z (qc z Dn (fun f c => pK f d0 (af (ad a4 f c) (ad a5 f c)) (aM (x := (ah.mk m d.k_)) (c0 := [S k d.a_.length j]) (c1 := [I J d.k_]) (ap (e := ae (aC) 71) (r := 3) z f c) z))) tt2 <| oP z <| nQ <| ak <| bE H fun a E H => rt (fun f c => foc (r := 3) c z E) fun d1 d2 g7 g8 => ku (fun f c => c.1) fun d3 => ?_
     obtain ⟨u, A⟩ := d3
     refine CW.weak (C' := St w s [_, _, _, _, _, _, _]) ?_ (fun f c => c.2)
     refine mM (fun f c => dN (i := 6) c z) fun b0 b1 d4 => mM (fun _ h => h) fun F G d5 => mM (fun _ h => h) fun L M d6 => mM (fun _ h => h) fun b2 b3 d7 => ku (fun f c => c.1) fun d8 => ?_
     subst d8
     refine CW.weak (C' := St w s [_, _, _, _, _, _, _, _, _, _, _]) ?_ (fun f c => c.2)
     refine dj 10 [(0, y), (1, y), (2, y), (3, y), (4, y), (5, y), (6, y), (7, y), (8, y), (9, n)] (St w s [b Q 27 [S b9 p0.b_.length c2, S c3 p0.l_.length c4], b X 30 [S N 0 0, I J 0], b Z 30 [S k d.a_.length j, I J d.k_], Res.nil, W (ae eI 3) t g [S l g.length o], Res.hole (aC) 71 d1 j m D.toNat d2 [B a.q_, I J a.g_.j_, I J a.g_.c_, S b0 a.r_.length b1, I J a.w_, S F a.n_.e_.length G, S L a.n_.d_.length M, I J a.x_, S b2 a.b_.length b3, I J a.m_, I J a.p_, I J a.s_], Res.nil, W (ae eI 3) d4 a.r_ [S b0 a.r_.length b1], W (ae eI 3) d5 a.n_.e_ [S F a.n_.e_.length G], W (ae (ae eI 3) 31) d6 a.n_.d_ [S L a.n_.d_.length M], W (ae eI 3) d7 a.b_ [S b2 a.b_.length b3]]) cj (by kernel_rfl) (aX (bv (dI (bv (aX bn))))) (tk 11 z) <| aa [.fa 30 0 0 cc] z <| bu z (aw z) (r1 0 2 z eC z) <| aa [.p, .fa 30 0 0 cc] z <| bu z (aw z) (r1 0 2 z eC z) <| oP z <| gx z z z z z dX ca z (fU (p := 5) z) A u (cL E).1 <| aa [.fa 71 4 5 gk] z <| bu z (aw z) (qt [S F a.n_.e_.length G, S L a.n_.d_.length M] 5 5 z z z cT (by first | rfl | simp only [dm, dB, dd]) z z) <| bE H fun a3 d9 H => au z pk z z z z (fun f c => fb f d9 (c.carve [] z z) (aF (x := a.n_) (c0 := [S F a.n_.e_.length G]) (c1 := [S L a.n_.d_.length M]) (ap (e := ae eI 3) (r := 8) z f c) (ap (e := ae (ae eI 3) 31) (r := 9) z f c))) fun g9 f w2 c b5 => ?_
     obtain ⟨e0, h0, e1, h2, e2, h3, e3, h4, rfl, P⟩ := b5
     obtain rfl := aI (i := 0) P z
     obtain rfl := aI (i := 1) P z
     refine ⟨St w s [_, _, _, _, _, _, _, _, _, _, _, _, _], c.comp [] z z P, (tk 11 z), ?_⟩
     refine aQ <| kd <| gx z z z z z dX ca z (fU (p := 5) z) A u (cL E).1 <| aa [.fa 71 4 5 gk] z <| gr (off := 5) [S e0 a3.e_.length e1, S e2 a3.d_.length e3] (p := 5) (c' := [_, _, _, _, _, _, _, _, _, _, _, _]) z z z z z (by first | rfl | simp only [dm, dB, dd]) z cT z z (al z) z z z kp <| nQ <| ak <| CW.weak (C' := St w s [_, _, _, _, _, _, _, _, _, _, _]) ?_ (ss [0, 1, 2, 4, 5, 7, 8, 9, 10, 11, 12] z z)
     exact aW <| aa [.fa 30 0 0 cc] z <| o1 z (r1 0 2 z eC z) <| oP z <| gx z z z z z dX ca z (fU (p := 4) z) A u (cL E).1 <| aa [.fa 71 5 7 nV] z <| gr (off := 7) [I J 0] (p := 4) (c' := [_, _, _, _, _, _, _, _, _, _, _, _]) z z z z z (by first | rfl | simp only [dm, dB, dd]) z ty3 z z (al z) z z z kp <| nQ <| aW <| oPP z <| bQ (val := I J) (h1 := fun _ => z) [D] [(0, [I J D])] z z z z z aP ty3 z z z ⟨z, z, nl z, Y⟩ z z (fun _ => kp) fun h5 => bE H fun e4 b4 H => cm (r := 3) (ys := ([D] : List Int)) z z z z z z aP ty3 z z z (ap (e := ae eI 3) (r := 11) z) b4 (fun _ _ _ => kp) fun e5 e6 e7 => ct z (fun f c => fh (i := 3) c z (ff b4)) fun b6 => oP z <| ay <| cd <| gO (fun f c => cE (x0 := a.q_) (x1 := a.g_.j_) (x2 := a.g_.c_) (x4 := a.w_) (x7 := 0) (x9 := a.m_) (x10 := a.p_) (x11 := a.s_) [5, 9, 10, 8] c z z) fun h6 => fq (C' := St w s [_, _, _, _, _, _, _, _, _, _, _, _, _]) (fun _ h => h) <| gO (fun f c => unf (p := 4) (q := 12) c z z z A u) fun e9 => fq (C' := St w s [_, _, _, _, _, _, _, _, _, _, _, _, _, _]) (fun _ h => h) <| cD (RW.at (c7 ((m.set D.toNat ({ a with n_ := a3, x_ := 0 }))) (e9) (e4) (e5) (e6) (e7) (⟨b6, H⟩)) (ss [0, 1, 2, 13, 3] z z) (sb z))
    ·exact bF <| aN <| aR <| aO <| ax <| sR <| o1 z (rx 0 2 _ z bx z) <| oP z <| sC 0 [S k d.a_.length j, I J d.k_] [_, _] 1 z bx z <| oP z <| nT <| bg (rs := [.cell 6 30, .tmp 7]) (vs := [.agg #[S k d.a_.length j, I J d.k_], S l g.length o]) z ⟨⟨_, [S k d.a_.length j, I J d.k_], _, _, _, z, bx, (bB (T := 30) 0 (bX (i := 1) z) z), z, z⟩, z, Y⟩ (fun w' hw' => by
      obtain rfl := ai H
      exact ⟨_, z, k, d.a_.length, j, C, l, g.length, o, t, z, hw'.sel [3, 4] z z⟩)
   ·clear H
    have H := a6
    clear a6
    generalize (decide (a9 > p2)) = f0 at H key ⊢
    cases f0
    ·have H := ba z H
     refine aa [.p, .p, .p, .p, .p] z ?_
     obtain rfl := ai H
     exact OW.sub key (sb z)
    ·have H := aZ z H
     refine o1 z (rx 0 0 _ z cg z) <| o1 z (rx 0 2 _ z bx z) <| bE H fun h7 f1 H => oq z (qc z Dn (fun f c => pK f f1 (af (ad a4 f c) (ad a5 f c)) (aM (x := (ah.mk m d.k_)) (c0 := [S k d.a_.length j]) (c1 := [I J d.k_]) (ap (e := ae (aC) 71) (r := 3) z f c) z))) tt2 <| oP z <| oP z <| ?_
     obtain rfl := ai H
     exact OW.sub key (sb z)
theorem cf (w : World) {D : List Nat} {p0 : ab} {p1 : cB} {p2 : ah} {p3 : aY} {p4 : Int} {p5 : bh} {p6 : Int} {r9 : List Value} {s0 : List Value} {s1 : List Value} {s2 : List Value} {r : ah × bh × Int} (H : kL p0 p1 p2 p3 p4 p5 p6 = U r) (HS : St w D [] w) (g0 : (aJ).rd w D p0 r9) (g2 : (cz).rd w D p2 s0) (g3 : (ew).rd w D p3 s1) (g5 : (jn).rd w D p5 s2) :
    Calls Tryz.prog 125 #[.agg r9.toArray, .agg #[I J p1.G_, I J p1.H_, I J p1.I_, I J p1.m_, I J p1.a_, I J p1.E_, B p1.F_], .agg s0.toArray, .agg s1.toArray, I J p4, .agg s2.toArray, I J p6] w (fun en w' => ∃ v, en = .returned v ∧ ∃ (a0 : Option Addr), ∃ (n0 : Nat), ∃ (c0 : Nat), ∃ (F0 : List Nat), ∃ (a1 : Option Addr), ∃ (n1 : Nat), ∃ (c1 : Nat), ∃ (F1 : List Nat), v = .tuple #[.agg #[S a0 n0 c0, I J r.1.k_], .agg #[S a1 n1 c1, I J r.2.1.c_], I J r.2.2] ∧ St w D [W (ae (aC) 71) F0 r.1.a_ [S a0 n0 c0], W (ae e8 5) F1 r.2.1.t_ [S a1 n1 c1]] w') := by
 obtain ⟨M6, M7, rfl, b7, b8⟩ := aB g0
 obtain ⟨e9, f0, rfl⟩ := aj b7
 obtain ⟨f1, f2, rfl⟩ := aj b8
 obtain ⟨M8, M9, rfl, e3, C0⟩ := bZ g2
 obtain ⟨f3, f4, rfl⟩ := aj e3
 obtain rfl := C0
 obtain ⟨N0, N1, rfl, j6, C1⟩ := fT g3
 obtain ⟨s3, s4, rfl⟩ := aj j6
 obtain rfl := C1
 obtain ⟨N2, N3, rfl, f5, C2⟩ := iK g5
 obtain ⟨f6, f7, rfl⟩ := aj f5
 obtain rfl := C2
 unfold kL at H
 refine aH Tryz.func125 z Tryz.ntmps125 z (HS) <| sR <| ob _ z fun m => ob _ z fun o => ob _ z fun s => ob _ z fun b5 => ob _ z fun t => aA z z z z bx (fun _ => kp) fun A => aA z z z z bR (fun _ => kp) fun u => oP z <| nQ <| ak <| sR <| o1 z (rx 0 0 _ z cg z) <| o1 z (rx 0 1 _ z nU z) <| o1 z (rx 0 2 _ z bx z) <| bE H fun s5 C3 H => oq z (qc z FI (fun d c => wh d (p1 := p1) C3 (af (ad b7 d c) (ad b8 d c)) (aM (ad e3 d c) z))) tt2 <| oPP z <| bE H fun g9 l3 H => aS [(39, B g9), (4, I J p4), (6, I J p6), (7, O (U ⟨m, 0, N⟩)), (8, O (U ⟨o, 0, N⟩)), (9, O (U ⟨s, 0, N⟩)), (10, O (U ⟨b5, 0, N⟩)), (12, O (U ⟨t, 0, N⟩)), (14, O (U ⟨A, 0, N⟩)), (15, O (U ⟨u, 0, N⟩))] 5 ?_ (fun key => OW.sub (R := [(4, I J p4), (6, I J p6), (7, O (U ⟨m, 0, N⟩)), (8, O (U ⟨o, 0, N⟩)), (9, O (U ⟨s, 0, N⟩)), (10, O (U ⟨b5, 0, N⟩)), (12, O (U ⟨t, 0, N⟩)), (14, O (U ⟨A, 0, N⟩)), (15, O (U ⟨u, 0, N⟩)), (34, B (!s5))]) ?_ (sb z))
 ·refine oP z <| aS [(44, B (g9 || (decide (p3.v_ < 0)))), (4, I J p4), (6, I J p6), (7, O (U ⟨m, 0, N⟩)), (8, O (U ⟨o, 0, N⟩)), (9, O (U ⟨s, 0, N⟩)), (10, O (U ⟨b5, 0, N⟩)), (12, O (U ⟨t, 0, N⟩)), (14, O (U ⟨A, 0, N⟩)), (15, O (U ⟨u, 0, N⟩))] 4 ?_ (fun key => OW.sub (R := [(4, I J p4), (6, I J p6), (7, O (U ⟨m, 0, N⟩)), (8, O (U ⟨o, 0, N⟩)), (9, O (U ⟨s, 0, N⟩)), (10, O (U ⟨b5, 0, N⟩)), (12, O (U ⟨t, 0, N⟩)), (14, O (U ⟨A, 0, N⟩)), (15, O (U ⟨u, 0, N⟩)), (40, B g9)]) ?_ (sb z))
  ·refine oP z <| bE H fun l4 l5 H => aS [(49, B l4), (4, I J p4), (6, I J p6), (7, O (U ⟨m, 0, N⟩)), (8, O (U ⟨o, 0, N⟩)), (9, O (U ⟨s, 0, N⟩)), (10, O (U ⟨b5, 0, N⟩)), (12, O (U ⟨t, 0, N⟩)), (14, O (U ⟨A, 0, N⟩)), (15, O (U ⟨u, 0, N⟩))] 4 ?_ (fun key => OW.sub (R := [(4, I J p4), (6, I J p6), (7, O (U ⟨m, 0, N⟩)), (8, O (U ⟨o, 0, N⟩)), (9, O (U ⟨s, 0, N⟩)), (10, O (U ⟨b5, 0, N⟩)), (12, O (U ⟨t, 0, N⟩)), (14, O (U ⟨A, 0, N⟩)), (15, O (U ⟨u, 0, N⟩)), (45, B (g9 || (decide (p3.v_ < 0))))]) ?_ (sb z))
   ·refine oP z <| bE H fun l6 l7 H => aS [(54, B l6), (4, I J p4), (6, I J p6), (7, O (U ⟨m, 0, N⟩)), (8, O (U ⟨o, 0, N⟩)), (9, O (U ⟨s, 0, N⟩)), (10, O (U ⟨b5, 0, N⟩)), (12, O (U ⟨t, 0, N⟩)), (14, O (U ⟨A, 0, N⟩)), (15, O (U ⟨u, 0, N⟩))] 4 ?_ (fun key => OW.sub (R := [(4, I J p4), (6, I J p6), (7, O (U ⟨m, 0, N⟩)), (8, O (U ⟨o, 0, N⟩)), (9, O (U ⟨s, 0, N⟩)), (10, O (U ⟨b5, 0, N⟩)), (12, O (U ⟨t, 0, N⟩)), (14, O (U ⟨A, 0, N⟩)), (15, O (U ⟨u, 0, N⟩)), (50, B l4)]) ?_ (sb z))
    ·refine oP z <| bE H fun C4 l8 H => aS [(62, B C4), (4, I J p4), (6, I J p6), (7, O (U ⟨m, 0, N⟩)), (8, O (U ⟨o, 0, N⟩)), (9, O (U ⟨s, 0, N⟩)), (10, O (U ⟨b5, 0, N⟩)), (12, O (U ⟨t, 0, N⟩)), (14, O (U ⟨A, 0, N⟩)), (15, O (U ⟨u, 0, N⟩))] 7 ?_ (fun key => OW.sub (R := [(4, I J p4), (6, I J p6), (7, O (U ⟨m, 0, N⟩)), (8, O (U ⟨o, 0, N⟩)), (9, O (U ⟨s, 0, N⟩)), (10, O (U ⟨b5, 0, N⟩)), (12, O (U ⟨t, 0, N⟩)), (14, O (U ⟨A, 0, N⟩)), (15, O (U ⟨u, 0, N⟩)), (55, B l6)]) ?_ (sb z))
     ·refine nQ <| cI H z (fun H => ?_) (fun H => ?_)
      ·refine ak <| dj 3 [(0, y), (2, y), (1, n)] (St w D [b m 27 [S e9 p0.b_.length f0, S f1 p0.l_.length f2], b o 130 [I J p1.G_, I J p1.H_, I J p1.I_, I J p1.m_, I J p1.a_, I J p1.E_, B p1.F_], b s 30 [S f3 p2.a_.length f4, I J p2.k_], b b5 33 [S s3 p3.o_.length s4, I J p3.v_], b t 152 [S f6 p5.t_.length f7, I J p5.c_], b A 30 [S N 0 0, I J 0], b u 152 [S N 0 0, I J 0]]) cj (by kernel_rfl) (aX (aX bn)) (tk 7 z) <| bu z (aw z) (rx 0 2 _ z bx z) <| bu z (aw z) (rx 0 4 _ z bR z) <| bE H fun g1 C5 H => au z vw z z z z (fun d c => je d C5 (c.carve [] z z) (aM (ad e3 d c) z)) fun N4 d w2 c s7 => ?_
       obtain ⟨j7, N5, j8, C6, rfl, l9⟩ := s7
       obtain rfl := aI (i := 0) l9 z
       refine ⟨St w D [_, _, _, _, _, _, _, _], c.comp [] z z l9, (tk 7 z), ?_⟩
       refine aQ <| kd <| bE H fun g4 C7 H => au z rR z z z z (fun d c => fz d C7 (c.carve [] z z) (bt (ad f5 d c) z)) fun N6 d w2 c s8 => ?_
       obtain ⟨j9, N7, k0, C8, rfl, m0⟩ := s8
       obtain rfl := aI (i := 0) m0 z
       refine ⟨St w D [_, _, _, _, _, _, _, _, _], c.comp [] z z m0, fun _ _ => Y, ?_⟩
       exact sC 0 [S j7 g1.a_.length j8, I J g1.k_] [_, _] 5 z bx z <| sC 0 [S j9 g4.t_.length k0, I J g4.c_] [_, _] 6 z bR z <| oP z <| nT <| am <| bg (rs := [.cell 14 30, .cell 15 152, .tmp 16]) (vs := [.agg #[S j7 g1.a_.length j8, I J g1.k_], .agg #[S j9 g4.t_.length k0, I J g4.c_], I J 2]) z ⟨⟨_, [S j7 g1.a_.length j8, I J g1.k_], _, _, _, z, bx, (bB (T := 30) 0 (bX (i := 5) z) z), z, z⟩, ⟨_, [S j9 g4.t_.length k0, I J g4.c_], _, _, _, z, bR, (bB (T := 152) 0 (bX (i := 6) z) z), z, z⟩, z, Y⟩ (fun w' hw' => by
        obtain rfl := ai H
        exact ⟨_, z, j7, g1.a_.length, j8, C6, j9, g4.t_.length, k0, C8, z, hw'.sel [7, 8] z z⟩)
      ·refine ar <| ax <| sR <| o1 z (rx 0 0 _ z cg z) <| o1 z (rx 0 2 _ z bx z) <| o1 z (rx 0 3 _ z gm z) <| bE H fun Z C9 H => oq z (qc z FD (fun d c => tN d C9 (af (ad b7 d c) (ad b8 d c)) (aM (ad e3 d c) z) (bM (ad j6 d c) z))) tt2 <| oP z <| nQ <| ak <| ak <| dW cj (by kernel_rfl) <| aa [.fa 30 1 1 nt] z <| o1 z (r1 1 2 z ty3 z) <| oPP z <| bE H fun D0 k2 H => aS [(86, B D0), (4, I J p4), (6, I J p6), (7, O (U ⟨m, 0, N⟩)), (8, O (U ⟨o, 0, N⟩)), (9, O (U ⟨s, 0, N⟩)), (10, O (U ⟨b5, 0, N⟩)), (12, O (U ⟨t, 0, N⟩)), (14, O (U ⟨A, 0, N⟩)), (15, O (U ⟨u, 0, N⟩)), (17, I J Z)] 12 ?_ (fun key => OW.sub (R := [(4, I J p4), (6, I J p6), (7, O (U ⟨m, 0, N⟩)), (8, O (U ⟨o, 0, N⟩)), (9, O (U ⟨s, 0, N⟩)), (10, O (U ⟨b5, 0, N⟩)), (12, O (U ⟨t, 0, N⟩)), (14, O (U ⟨A, 0, N⟩)), (15, O (U ⟨u, 0, N⟩)), (17, I J Z), (74, B (p2.k_ == 99999))]) ?_ (sb z))
       ·refine cC <| ax <| cI H z (fun H => ?_) (fun H => ?_)
        ·refine ak <| dj 3 [(0, y), (2, y), (1, n)] (St w D [b m 27 [S e9 p0.b_.length f0, S f1 p0.l_.length f2], b o 130 [I J p1.G_, I J p1.H_, I J p1.I_, I J p1.m_, I J p1.a_, I J p1.E_, B p1.F_], b s 30 [S f3 p2.a_.length f4, I J p2.k_], b b5 33 [S s3 p3.o_.length s4, I J p3.v_], b t 152 [S f6 p5.t_.length f7, I J p5.c_], b A 30 [S N 0 0, I J 0], b u 152 [S N 0 0, I J 0]]) cj (by kernel_rfl) (aX (aX bn)) (tk 7 z) <| bu z (aw z) (rx 0 2 _ z bx z) <| bu z (aw z) (rx 0 4 _ z bR z) <| bE H fun d0 s9 H => au z vw z z z z (fun d c => je d s9 (c.carve [] z z) (aM (ad e3 d c) z)) fun E7 d w2 c q2 => ?_
         obtain ⟨h0, E8, h1, t0, rfl, k3⟩ := q2
         obtain rfl := aI (i := 0) k3 z
         refine ⟨St w D [_, _, _, _, _, _, _, _], c.comp [] z z k3, (tk 7 z), ?_⟩
         refine aQ <| kd <| bE H fun d1 t1 H => au z rR z z z z (fun d c => fz d t1 (c.carve [] z z) (bt (ad f5 d c) z)) fun E9 d w2 c q3 => ?_
         obtain ⟨h2, F2, h3, t2, rfl, k4⟩ := q3
         obtain rfl := aI (i := 0) k4 z
         refine ⟨St w D [_, _, _, _, _, _, _, _, _], c.comp [] z z k4, fun _ _ => Y, ?_⟩
         exact sC 0 [S h0 d0.a_.length h1, I J d0.k_] [_, _] 5 z bx z <| sC 0 [S h2 d1.t_.length h3, I J d1.c_] [_, _] 6 z bR z <| oP z <| nT <| am <| bg (rs := [.cell 14 30, .cell 15 152, .tmp 16]) (vs := [.agg #[S h0 d0.a_.length h1, I J d0.k_], .agg #[S h2 d1.t_.length h3, I J d1.c_], I J 3]) z ⟨⟨_, [S h0 d0.a_.length h1, I J d0.k_], _, _, _, z, bx, (bB (T := 30) 0 (bX (i := 5) z) z), z, z⟩, ⟨_, [S h2 d1.t_.length h3, I J d1.c_], _, _, _, z, bR, (bB (T := 152) 0 (bX (i := 6) z) z), z, z⟩, z, Y⟩ (fun w' hw' => by
          obtain rfl := ai H
          exact ⟨_, z, h0, d0.a_.length, h1, t0, h2, d1.t_.length, h3, t2, z, hw'.sel [7, 8] z z⟩)
        ·refine ar <| ax <| sR <| o1 z (rx 0 2 _ z bx z) <| bE H fun g t3 H => au z vw z z z z (fun d c => je d t3 (c.carve [] z z) (aM (ad e3 d c) z)) fun F3 d w2 c q4 => ?_
         obtain ⟨E, F4, l, t4, rfl, k5⟩ := q4
         obtain rfl := aI (i := 0) k5 z
         refine ⟨St w D [_, _, _, _, _, _, _, _], c.comp [] z z k5, fun _ _ => Y, ?_⟩
         refine aA z z z z bx (fun _ => kp) fun M => sC 0 [S E g.a_.length l, I J g.k_] [_, _] 8 z bx z <| nR <| aa [.fa 30 0 0 cc] z <| o1 z (r1 0 2 z eC z) <| oP z <| bE H fun a2 t5 H => cn z z z z z dX ca z e3 t5 fun F5 F6 q5 q6 => ?_
         obtain ⟨F7, F8, F9, G0, G1, G2, G3, G4, G5, G6, rfl, t6, t7, m1, t8, t9, u0, m2, u1, u2, u3⟩ := bj q5
         obtain rfl := t6
         obtain rfl := t7
         obtain ⟨u4, u5, rfl⟩ := aj m1
         obtain rfl := t8
         obtain ⟨G7, G8, rfl, m3, m4⟩ := aK t9
         obtain ⟨u6, u7, rfl⟩ := aj m3
         obtain ⟨u8, u9, rfl⟩ := aj m4
         obtain rfl := u0
         obtain ⟨v0, v1, rfl⟩ := aj m2
         obtain rfl := u1
         obtain rfl := u2
         obtain rfl := u3
         refine o1 z (cA (cs := [B a2.q_, I J a2.g_.j_, I J a2.g_.c_, S u4 a2.r_.length u5, I J a2.w_, S u6 a2.n_.e_.length u7, S u8 a2.n_.d_.length u9, I J a2.x_, S v0 a2.b_.length v1, I J a2.m_, I J a2.p_, I J a2.s_]) z z ca (bW bor q6) z) <| bE H fun a v2 H => au z Dq z z z z (fun d c => nB d v2 (c.carve [] z z) (iQ z z (ad m1 d c) z (aF (ad m3 d c) (ad m4 d c)) z (ad m2 d c) z z z)) fun G9 d w2 c q7 => ?_
         obtain ⟨a9, H0, b0, i7, m5, H1, m6, H2, m7, H3, m8, H4, b1, H5, b2, i8, rfl, e5⟩ := q7
         obtain rfl := aI (i := 0) e5 z
         obtain rfl := aI (i := 1) e5 z
         obtain rfl := aI (i := 2) e5 z
         obtain rfl := aI (i := 3) e5 z
         refine ⟨St w D [_, _, _, _, _, _, _, _, _, _, _, _, _], c.comp [] z z e5, fun _ _ => Y, ?_⟩
         refine aA z z z z ca (fun _ => kp) fun d2 => sC 0 [B a.q_, I J a.g_.j_, I J a.g_.c_, S a9 a.r_.length b0, I J a.w_, S m5 a.n_.e_.length m6, S m7 a.n_.d_.length m8, I J a.x_, S b1 a.b_.length b2, I J a.m_, I J a.p_, I J a.s_] [_, _, _, _, _, _, _, _, _, _, _, _] 13 z ca z <| nR <| o1 z (rx 0 0 _ z cg z) <| aa [.fa 71 4 5 gk] z <| o1 z (rx 5 13 _ z cT z) <| o1 z (rx 0 3 _ z gm z) <| oP z <| bE H fun f v3 H => au z yM z z z z (fun d c => kQ d v3 (c.carve [] z z) (af (ad b7 d c) (ad b8 d c)) (aF (x := a.n_) (c0 := [S m5 a.n_.e_.length m6]) (c1 := [S m7 a.n_.d_.length m8]) (ap (e := ae eI 3) (r := 10) z d c) (ap (e := ae (ae eI 3) 31) (r := 11) z d c)) (bM (ad j6 d c) z)) fun H6 d w2 c q8 => ?_
         obtain ⟨a3, H7, a4, i9, a5, H8, a6, j0, rfl, h4⟩ := q8
         obtain rfl := aI (i := 0) h4 z
         obtain rfl := aI (i := 1) h4 z
         refine ⟨St w D [_, _, _, _, _, _, _, _, _, _, _, _, _, _, _, _], c.comp [] z z h4, fun _ _ => Y, ?_⟩
         refine aa [.p, .p, .p, .fa 71 4 5 gk] z <| sC 5 [S a3 f.1.e_.length a4, S a5 f.1.d_.length a6] [_, _, _, _, _, _, _, _, _, _, _, _] 13 z cT z <| nR <| aa [.fa 30 1 1 nt] z <| o1 z (r1 1 2 z ty3 z) <| aa [.p, .fa 30 1 1 nt] z <| sC 1 [I J (J.wrap (p2.k_ + 1))] [_, _] 8 z ty3 z <| nR <| oP z <| nQ <| wq (fun (C : Int) (g6 : Bool) => St w D [b t 152 [S f6 p5.t_.length f7, I J p5.c_], b A 30 [S N 0 0, I J 0], b u 152 [S N 0 0, I J 0], b M 30 [S E g.a_.length l, I J (J.wrap (p2.k_ + 1))], W (ae (aC) 71) t4 g.a_ [S E g.a_.length l], b d2 71 [B a.q_, I J a.g_.j_, I J a.g_.c_, S a9 a.r_.length b0, I J a.w_, S a3 f.1.e_.length a4, S a5 f.1.d_.length a6, I J C, S b1 a.b_.length b2, I J a.m_, I J a.p_, I J a.s_], W (ae eI 3) i7 a.r_ [S a9 a.r_.length b0], W (ae eI 3) i9 f.1.e_ [S a3 f.1.e_.length a4], W (ae (ae eI 3) 31) j0 f.1.d_ [S a5 f.1.d_.length a6], W (ae eI 3) i8 a.b_ [S b1 a.b_.length b2], b m 27 [S e9 p0.b_.length f0, S f1 p0.l_.length f2], b o 130 [I J p1.G_, I J p1.H_, I J p1.I_, I J p1.m_, I J p1.a_, I J p1.E_, B p1.F_], b s 30 [S f3 p2.a_.length f4, I J p2.k_]]) (fun C g6 => [(6, I J p6), (7, O (U ⟨m, 0, N⟩)), (8, O (U ⟨o, 0, N⟩)), (9, O (U ⟨s, 0, N⟩)), (12, O (U ⟨t, 0, N⟩)), (14, O (U ⟨A, 0, N⟩)), (15, O (U ⟨u, 0, N⟩)), (17, I J Z), (18, O (U ⟨M, 0, N⟩)), (19, O (U ⟨d2, 0, N⟩)), (20, B g6)]) (fun C g6 => fW g Z p5 a f p2 p0 p1 p6 C g6 = U r) (fun C g6 H => ?_) (fun J1 => ?_)
         ·unfold fW at H
          refine sR <| aa [.fa 30 0 0 cc] z <| o1 z (r1 0 3 z eC z) <| oP z <| o1 z (rx 0 5 _ z ca z) <| bE H fun G m9 H => oM z (fun d c => foc (r := 4) c z m9) fun n2 n3 H9 I0 => ct z (fun d c => c.1) fun v5 => ?_
          obtain ⟨f8, f9⟩ := v5
          refine fp (C' := St w D [_, _, _, _, _, _, _, _, _, _, _, _, _, _, _]) z (fun d c => c.2) <| dU z (fun d c => dN (i := 14) c z) fun n4 n5 n6 => dU z (fun _ h => h) fun n7 n8 n9 => dU z (fun _ h => h) fun o0 o2 o3 => dU z (fun _ h => h) fun o4 o5 o6 => ct z (fun d c => c.1) fun v6 => ?_
          subst v6
          refine fp (C' := St w D [_, _, _, _, _, _, _, _, _, _, _, _, _, _, _, _, _, _, _]) z (fun d c => c.2) <| gx z z z z z dX ca z (fU (p := 13) z) f9 f8 (cL m9).1 <| gr (off := 0) [B a.q_, I J a.g_.j_, I J a.g_.c_, S a9 a.r_.length b0, I J a.w_, S a3 f.1.e_.length a4, S a5 f.1.d_.length a6, I J C, S b1 a.b_.length b2, I J a.m_, I J a.p_, I J a.s_] (p := 13) (c' := [_, _, _, _, _, _, _, _, _, _, _, _]) z z z z z (by first | rfl | simp only [dm, dB, dd]) z ca z z (al z) z z z kp <| nQ <| ak <| ak <| CW.weak (C' := St w D [_, _, _, _, _, _, _, _, _, _, _, _, _, _, _, _, _]) ?_ (ss [0, 1, 2, 3, 5, 6, 7, 8, 9, 10, 11, 12, 13, 15, 16, 17, 18] z z)
          refine aW <| oPP z <| nQ <| cI H z (fun H => ?_) (fun H => ?_)
          ·refine ak <| dj 3 [(0, y), (1, y), (2, n)] (St w D [b t 152 [S f6 p5.t_.length f7, I J p5.c_], b A 30 [S N 0 0, I J 0], b u 152 [S N 0 0, I J 0], b M 30 [S E g.a_.length l, I J (J.wrap (p2.k_ + 1))], b d2 71 [B a.q_, I J a.g_.j_, I J a.g_.c_, S a9 a.r_.length b0, I J a.w_, S a3 f.1.e_.length a4, S a5 f.1.d_.length a6, I J C, S b1 a.b_.length b2, I J a.m_, I J a.p_, I J a.s_], W (ae eI 3) i7 a.r_ [S a9 a.r_.length b0], W (ae eI 3) i9 f.1.e_ [S a3 f.1.e_.length a4], W (ae (ae eI 3) 31) j0 f.1.d_ [S a5 f.1.d_.length a6], W (ae eI 3) i8 a.b_ [S b1 a.b_.length b2], b m 27 [S e9 p0.b_.length f0, S f1 p0.l_.length f2], b o 130 [I J p1.G_, I J p1.H_, I J p1.I_, I J p1.m_, I J p1.a_, I J p1.E_, B p1.F_], b s 30 [S f3 p2.a_.length f4, I J p2.k_], Res.hole (aC) 71 n2 l g.a_ Z.toNat n3 [B a.q_, I J a.g_.j_, I J a.g_.c_, S a9 a.r_.length b0, I J a.w_, S a3 f.1.e_.length a4, S a5 f.1.d_.length a6, I J C, S b1 a.b_.length b2, I J a.m_, I J a.p_, I J a.s_], W (ae eI 3) n6 G.r_ [S n4 G.r_.length n5], W (ae eI 3) n9 G.n_.e_ [S n7 G.n_.e_.length n8], W (ae (ae eI 3) 31) o3 G.n_.d_ [S o0 G.n_.d_.length o2], W (ae eI 3) o6 G.b_ [S o4 G.b_.length o5]]) cj (by kernel_rfl) (aX (aX bn)) (tk 17 z) <| bu z (aw z) (rx 0 3 _ z bx z) <| bu z (aw z) (rx 0 0 _ z bR z) <| bE H fun d3 v7 H => au z rR z z z z (fun d c => fz d v7 (c.carve [] z z) (bt (ad f5 d c) z)) fun I1 d w2 c q9 => ?_
           obtain ⟨h5, I2, h6, v8, rfl, k6⟩ := q9
           obtain rfl := aI (i := 0) k6 z
           refine ⟨St w D [_, _, _, _, _, _, _, _, _, _, _, _, _, _, _, _, _, _], c.comp [] z z k6, (tk 17 z), ?_⟩
           exact aQ <| kd <| sC 0 [S E g.a_.length l, I J (J.wrap (p2.k_ + 1))] [_, _] 1 z bx z <| sC 0 [S h5 d3.t_.length h6, I J d3.c_] [_, _] 2 z bR z <| oP z <| nT <| am <| gO (fun d c => cE (x0 := a.q_) (x1 := a.g_.j_) (x2 := a.g_.c_) (x4 := a.w_) (x7 := C) (x9 := a.m_) (x10 := a.p_) (x11 := a.s_) [5, 6, 7, 8] c z z) fun I3 => fq (C' := St w D [_, _, _, _, _, _, _, _, _, _, _, _, _, _, _, _, _, _, _]) (fun _ h => h) <| gO (fun d c => unf (p := 12) (q := 18) c z z z f9 f8) fun v9 => fq (C' := St w D [_, _, _, _, _, _, _, _, _, _, _, _, _, _, _, _, _, _, _, _]) (fun _ h => h) <| bg (rs := [.cell 14 30, .cell 15 152, .tmp 16]) (vs := [.agg #[S E g.a_.length l, I J (J.wrap (p2.k_ + 1))], .agg #[S h5 d3.t_.length h6, I J d3.c_], I J 0]) z ⟨⟨_, [S E g.a_.length l, I J (J.wrap (p2.k_ + 1))], _, _, _, z, bx, (bB (T := 30) 0 (bX (i := 1) z) z), z, z⟩, ⟨_, [S h5 d3.t_.length h6, I J d3.c_], _, _, _, z, bR, (bB (T := 152) 0 (bX (i := 2) z) z), z, z⟩, z, Y⟩ (fun w' hw' => by
            obtain rfl := ai H
            exact ⟨_, z, E, g.a_.length, l, v9, h5, d3.t_.length, h6, v8, z, hw'.sel [19, 17] z z⟩)
          ·refine ar <| ax <| sR <| o1 z (rx 0 9 _ z cg z) <| o1 z (rx 0 10 _ z nU z) <| o1 z (rx 0 4 _ z ca z) <| bE H fun k w0 H => oq z (qc z FJ (fun d c => vb d (p1 := p1) w0 (af (ad b7 d c) (ad b8 d c)) (iQ (x := ({ a with n_ := f.1, x_ := C })) (c0 := [B a.q_]) (c1 := [I J a.g_.j_, I J a.g_.c_]) (c2 := [S a9 a.r_.length b0]) (c3 := [I J a.w_]) (c4 := [S a3 f.1.e_.length a4, S a5 f.1.d_.length a6]) (c5 := [I J C]) (c6 := [S b1 a.b_.length b2]) (c7 := [I J a.m_]) (c8 := [I J a.p_]) (c9 := [I J a.s_]) z z (ap (e := ae eI 3) (r := 5) z d c) z (aF (x := f.1) (c0 := [S a3 f.1.e_.length a4]) (c1 := [S a5 f.1.d_.length a6]) (ap (e := ae eI 3) (r := 6) z d c) (ap (e := ae (ae eI 3) 31) (r := 7) z d c)) z (ap (e := ae eI 3) (r := 8) z d c) z z z))) tt2 <| aa [.p, .p, .p] z <| aA z z z z cM (fun _ => kp) fun b3 => sC 0 [I J k.1.j_, I J k.1.c_] [_, _] 17 z cM z <| oP z <| nQ <| ak <| ak <| dW cj (by kernel_rfl) <| aa [.p, .p, .p] z <| aS [(151, B ((k.2 != 1) && (k.2 != 2))), (6, I J p6), (7, O (U ⟨m, 0, N⟩)), (8, O (U ⟨o, 0, N⟩)), (9, O (U ⟨s, 0, N⟩)), (12, O (U ⟨t, 0, N⟩)), (14, O (U ⟨A, 0, N⟩)), (15, O (U ⟨u, 0, N⟩)), (17, I J Z), (18, O (U ⟨M, 0, N⟩)), (19, O (U ⟨d2, 0, N⟩)), (21, O (U ⟨b3, 0, N⟩))] 3 ?_ (fun key => OW.sub (R := [(6, I J p6), (7, O (U ⟨m, 0, N⟩)), (8, O (U ⟨o, 0, N⟩)), (9, O (U ⟨s, 0, N⟩)), (12, O (U ⟨t, 0, N⟩)), (14, O (U ⟨A, 0, N⟩)), (15, O (U ⟨u, 0, N⟩)), (17, I J Z), (18, O (U ⟨M, 0, N⟩)), (19, O (U ⟨d2, 0, N⟩)), (21, O (U ⟨b3, 0, N⟩)), (22, I J k.2), (148, B (k.2 != 1))]) ?_ (sb z))
           ·refine oP z <| aS [(158, B (((k.2 != 1) && (k.2 != 2)) || (decide (a.m_ ≥ p1.m_)))), (6, I J p6), (7, O (U ⟨m, 0, N⟩)), (8, O (U ⟨o, 0, N⟩)), (9, O (U ⟨s, 0, N⟩)), (12, O (U ⟨t, 0, N⟩)), (14, O (U ⟨A, 0, N⟩)), (15, O (U ⟨u, 0, N⟩)), (17, I J Z), (18, O (U ⟨M, 0, N⟩)), (21, O (U ⟨b3, 0, N⟩))] 6 ?_ (fun key => OW.sub (R := [(6, I J p6), (7, O (U ⟨m, 0, N⟩)), (8, O (U ⟨o, 0, N⟩)), (9, O (U ⟨s, 0, N⟩)), (12, O (U ⟨t, 0, N⟩)), (14, O (U ⟨A, 0, N⟩)), (15, O (U ⟨u, 0, N⟩)), (17, I J Z), (18, O (U ⟨M, 0, N⟩)), (19, O (U ⟨d2, 0, N⟩)), (21, O (U ⟨b3, 0, N⟩)), (152, B ((k.2 != 1) && (k.2 != 2)))]) ?_ (sb z))
            ·refine oP z <| bE H fun w3 k7 H => aS [(170, B w3), (6, I J p6), (7, O (U ⟨m, 0, N⟩)), (8, O (U ⟨o, 0, N⟩)), (9, O (U ⟨s, 0, N⟩)), (12, O (U ⟨t, 0, N⟩)), (14, O (U ⟨A, 0, N⟩)), (15, O (U ⟨u, 0, N⟩)), (17, I J Z), (18, O (U ⟨M, 0, N⟩)), (21, O (U ⟨b3, 0, N⟩))] 11 ?_ (fun key => OW.sub (R := [(6, I J p6), (7, O (U ⟨m, 0, N⟩)), (8, O (U ⟨o, 0, N⟩)), (9, O (U ⟨s, 0, N⟩)), (12, O (U ⟨t, 0, N⟩)), (14, O (U ⟨A, 0, N⟩)), (15, O (U ⟨u, 0, N⟩)), (17, I J Z), (18, O (U ⟨M, 0, N⟩)), (21, O (U ⟨b3, 0, N⟩)), (159, B (((k.2 != 1) && (k.2 != 2)) || (decide (a.m_ ≥ p1.m_))))]) ?_ (sb z))
             ·refine cC <| ax <| cI H z (fun H => ?_) (fun H => ?_)
              ·refine ak <| dj 3 [(0, y), (1, y), (2, n)] (St w D [b t 152 [S f6 p5.t_.length f7, I J p5.c_], b A 30 [S N 0 0, I J 0], b u 152 [S N 0 0, I J 0], b M 30 [S E g.a_.length l, I J (J.wrap (p2.k_ + 1))], b d2 71 [B a.q_, I J a.g_.j_, I J a.g_.c_, S a9 a.r_.length b0, I J a.w_, S a3 f.1.e_.length a4, S a5 f.1.d_.length a6, I J C, S b1 a.b_.length b2, I J a.m_, I J a.p_, I J a.s_], W (ae eI 3) i7 a.r_ [S a9 a.r_.length b0], W (ae eI 3) i9 f.1.e_ [S a3 f.1.e_.length a4], W (ae (ae eI 3) 31) j0 f.1.d_ [S a5 f.1.d_.length a6], W (ae eI 3) i8 a.b_ [S b1 a.b_.length b2], b m 27 [S e9 p0.b_.length f0, S f1 p0.l_.length f2], b o 130 [I J p1.G_, I J p1.H_, I J p1.I_, I J p1.m_, I J p1.a_, I J p1.E_, B p1.F_], b s 30 [S f3 p2.a_.length f4, I J p2.k_], Res.hole (aC) 71 n2 l g.a_ Z.toNat n3 [B a.q_, I J a.g_.j_, I J a.g_.c_, S a9 a.r_.length b0, I J a.w_, S a3 f.1.e_.length a4, S a5 f.1.d_.length a6, I J C, S b1 a.b_.length b2, I J a.m_, I J a.p_, I J a.s_], W (ae eI 3) n6 G.r_ [S n4 G.r_.length n5], W (ae eI 3) n9 G.n_.e_ [S n7 G.n_.e_.length n8], W (ae (ae eI 3) 31) o3 G.n_.d_ [S o0 G.n_.d_.length o2], W (ae eI 3) o6 G.b_ [S o4 G.b_.length o5], b b3 66 [I J k.1.j_, I J k.1.c_]]) cj (by kernel_rfl) (aX (aX bn)) (tk 18 z) <| bu z (aw z) (rx 0 3 _ z bx z) <| bu z (aw z) (rx 0 0 _ z bR z) <| bE H fun d4 w4 H => au z rR z z z z (fun d c => fz d w4 (c.carve [] z z) (bt (ad f5 d c) z)) fun I4 d w2 c r0 => ?_
               obtain ⟨h7, I5, h8, w5, rfl, k8⟩ := r0
               obtain rfl := aI (i := 0) k8 z
               refine ⟨St w D [_, _, _, _, _, _, _, _, _, _, _, _, _, _, _, _, _, _, _], c.comp [] z z k8, (tk 18 z), ?_⟩
               exact aQ <| kd <| sC 0 [S E g.a_.length l, I J (J.wrap (p2.k_ + 1))] [_, _] 1 z bx z <| sC 0 [S h7 d4.t_.length h8, I J d4.c_] [_, _] 2 z bR z <| oP z <| nT <| am <| gO (fun d c => cE (x0 := a.q_) (x1 := a.g_.j_) (x2 := a.g_.c_) (x4 := a.w_) (x7 := C) (x9 := a.m_) (x10 := a.p_) (x11 := a.s_) [5, 6, 7, 8] c z z) fun I6 => fq (C' := St w D [_, _, _, _, _, _, _, _, _, _, _, _, _, _, _, _, _, _, _, _]) (fun _ h => h) <| gO (fun d c => unf (p := 12) (q := 19) c z z z f9 f8) fun w6 => fq (C' := St w D [_, _, _, _, _, _, _, _, _, _, _, _, _, _, _, _, _, _, _, _, _]) (fun _ h => h) <| bg (rs := [.cell 14 30, .cell 15 152, .tmp 16]) (vs := [.agg #[S E g.a_.length l, I J (J.wrap (p2.k_ + 1))], .agg #[S h7 d4.t_.length h8, I J d4.c_], I J 0]) z ⟨⟨_, [S E g.a_.length l, I J (J.wrap (p2.k_ + 1))], _, _, _, z, bx, (bB (T := 30) 0 (bX (i := 1) z) z), z, z⟩, ⟨_, [S h7 d4.t_.length h8, I J d4.c_], _, _, _, z, bR, (bB (T := 152) 0 (bX (i := 2) z) z), z, z⟩, z, Y⟩ (fun w' hw' => by
                obtain rfl := ai H
                exact ⟨_, z, E, g.a_.length, l, w6, h7, d4.t_.length, h8, w5, z, hw'.sel [20, 18] z z⟩)
              ·refine ar <| ax <| sR <| ce (e := ae eI 3) z z z z iR cq (fun _ => kp) fun o7 => oP z <| nR <| o1 z (rx 0 0 _ z bR z) <| bE H fun h9 w7 H => au z rR z z z z (fun d c => fz d w7 (c.carve [] z z) (bt (ad f5 d c) z)) fun I7 d w2 c r2 => ?_
               obtain ⟨o8, I8, o9, w8, rfl, k9⟩ := r2
               obtain rfl := aI (i := 0) k9 z
               refine ⟨St w D [_, _, _, _, _, _, _, _, _, _, _, _, _, _, _, _, _, _, _, _], c.comp [] z z k9, fun _ _ => Y, ?_⟩
               refine aA z z z z bR (fun _ => kp) fun i0 => sC 0 [S o8 h9.t_.length o9, I J h9.c_] [_, _] 20 z bR z <| nQ <| ak <| sR <| oP z <| nQ <| az <| DJ (fun d c => cE (x0 := a.q_) (x1 := a.g_.j_) (x2 := a.g_.c_) (x4 := a.w_) (x7 := C) (x9 := a.m_) (x10 := a.p_) (x11 := a.s_) [5, 6, 7, 8] c z z) fun I9 => CW.weak (C' := St w D [_, _, _, _, _, _, _, _, _, _, _, _, _, _, _, _, _, _, _, _, _, _]) ?_ (fun _ h => h)
               refine DJ (fun d c => unf (p := 12) (q := 21) c z z z f9 f8) fun j1 => CW.weak (C' := St w D [_, _, _, _, _, _, _, _, _, _, _, _, _, _, _, _, _, _, _, _, _, _, _]) ?_ (fun _ h => h)
               refine CW.at (yp (fun (b4 : List (List Int)) (d5 : Option Addr) (d6 : Nat) (e6 : List Nat) (F : List Int) (P : Option Addr) (Q : Nat) (d7 : List Nat) (a7 : Int) (e7 : Int) => St w D [b t 152 [S f6 p5.t_.length f7, I J p5.c_], b A 30 [S N 0 0, I J 0], b u 152 [S N 0 0, I J 0], b M 30 [S E g.a_.length l, I J (J.wrap (p2.k_ + 1))], W (ae (aC) 71) j1 (g.a_.set Z.toNat ({ a with n_ := f.1, x_ := C })) [S E g.a_.length l], b b3 66 [I J k.1.j_, I J k.1.c_], W (ae (ae eI 3) 31) e6 b4 [S d5 b4.length d6], b i0 152 [S P F.length Q, I J a7], W (ae e8 5) d7 F [S P F.length Q], b m 27 [S e9 p0.b_.length f0, S f1 p0.l_.length f2], b o 130 [I J p1.G_, I J p1.H_, I J p1.I_, I J p1.m_, I J p1.a_, I J p1.E_, B p1.F_], b s 30 [S f3 p2.a_.length f4, I J p2.k_]]) (fun b4 d5 d6 e6 F P Q d7 a7 e7 => [(6, I J p6), (7, O (U ⟨m, 0, N⟩)), (8, O (U ⟨o, 0, N⟩)), (9, O (U ⟨s, 0, N⟩)), (12, O (U ⟨t, 0, N⟩)), (14, O (U ⟨A, 0, N⟩)), (15, O (U ⟨u, 0, N⟩)), (17, I J Z), (18, O (U ⟨M, 0, N⟩)), (21, O (U ⟨b3, 0, N⟩)), (23, S d5 b4.length d6), (24, O (U ⟨i0, 0, N⟩)), (25, I J e7)]) (fun kk => fun b4 d5 d6 e6 F P Q d7 a7 e7 => dS p0 k p6 p2 p5 g Z a f C p1 kk b4 F a7 e7 = U r) (fun _ _ _ _ _ _ _ _ _ _ H => ?_) (fun k1 w9 b4 d5 d6 e6 F P Q d7 a7 e7 H => ?_) be (([] : List (List Int))) ((U ⟨o7, 0, N⟩)) (0) ([o7]) (h9.t_) (o8) (o9) (w8) (h9.c_) (0) (H)) (ss [0, 1, 2, 3, 22, 17, 18, 20, 19, 9, 10, 11] z z) (sb z)
               ·unfold dS at H
                exact absurd H (by simp)
               ·unfold dS at H
                refine ak <| sR <| oP z <| o1 z (rx 0 9 _ z cg z) <| o1 z (rx 0 5 _ z cM z) <| bE H fun J0 x3 H => oq z (qc z yi (fun d c => gv d (p1 := k.1) x3 (af (ad b7 d c) (ad b8 d c)))) tt2 <| oP z <| nQ <| cI H z (fun H => ?_) (fun H => ?_)
                ·refine ar <| ax <| ak <| az <| sR <| o1 z (rx 0 7 _ z bR z) <| aa [.fa 27 0 0 cY] z <| o1 z (r1 0 9 z hZ z) <| aa [.lenS 24 63 gD, .p] z <| bE H fun X x5 H => au z FP z z z z (fun d c => rp d x5 (c.carve [] z z) (bt (x := (bh.mk F a7)) (c0 := [S P F.length Q]) (c1 := [I J a7]) (ap (e := ae e8 5) (r := 8) z d c) z)) fun J2 d w2 c r3 => ?_
                 obtain ⟨g7, J3, g8, p7, j2, J4, j3, x6, rfl, i1⟩ := r3
                 obtain rfl := aI (i := 0) i1 z
                 obtain rfl := aI (i := 1) i1 z
                 refine ⟨St w D [_, _, _, _, _, _, _, _, _, _, _, _, _, _], c.comp [] z z i1, fun _ _ => Y, ?_⟩
                 refine aa [.p, .p, .p, .p] z <| aA z z z z bR (fun _ => kp) fun x8 => sC 0 [S g7 X.1.t_.length g8, I J X.1.c_] [_, _] 14 z bR z <| oPP z <| nQ <| ak <| sR <| oPP z <| nQ <| cI H z (fun H => ?_) (fun H => ?_)
                 ·refine ak <| dj 3 [(0, y), (2, y), (1, n)] (St w D [b t 152 [S f6 p5.t_.length f7, I J p5.c_], b A 30 [S N 0 0, I J 0], b u 152 [S N 0 0, I J 0], b M 30 [S E g.a_.length l, I J (J.wrap (p2.k_ + 1))], W (ae (aC) 71) j1 (g.a_.set Z.toNat ({ a with n_ := f.1, x_ := C })) [S E g.a_.length l], b b3 66 [I J k.1.j_, I J k.1.c_], W (ae (ae eI 3) 31) e6 b4 [S d5 b4.length d6], b i0 152 [S P F.length Q, I J a7], W (ae e8 5) d7 F [S P F.length Q], b m 27 [S e9 p0.b_.length f0, S f1 p0.l_.length f2], b o 130 [I J p1.G_, I J p1.H_, I J p1.I_, I J p1.m_, I J p1.a_, I J p1.E_, B p1.F_], b s 30 [S f3 p2.a_.length f4, I J p2.k_], W (ae e8 5) p7 X.1.t_ [S g7 X.1.t_.length g8], W (ae eI 3) x6 X.2.1 [S j2 X.2.1.length j3], b x8 152 [S g7 X.1.t_.length g8, I J X.1.c_]]) cj (by kernel_rfl) (aX (aX (bv (aX (dI (bv (aX bn))))))) (tk 15 z) <| bu z (aw z) (rx 0 11 _ z bx z) <| bu z (aw z) (rx 0 0 _ z bR z) <| bE H fun d8 y0 H => au z vw z z z z (fun d c => je d y0 (c.carve [] z z) (aM (ad e3 d c) z)) fun J5 d w2 c r4 => ?_
                  obtain ⟨i2, J6, i3, y1, rfl, l0⟩ := r4
                  obtain rfl := aI (i := 0) l0 z
                  refine ⟨St w D [_, _, _, _, _, _, _, _, _, _, _, _, _, _, _, _], c.comp [] z z l0, (tk 15 z), ?_⟩
                  refine aQ <| kd <| bE H fun d9 y2 H => au z rR z z z z (fun d c => fz d y2 (c.carve [] z z) (bt (ad f5 d c) z)) fun J7 d w2 c r5 => ?_
                  obtain ⟨i4, J8, i5, y3, rfl, l1⟩ := r5
                  obtain rfl := aI (i := 0) l1 z
                  refine ⟨St w D [_, _, _, _, _, _, _, _, _, _, _, _, _, _, _, _, _], c.comp [] z z l1, fun _ _ => Y, ?_⟩
                  exact sC 0 [S i2 d8.a_.length i3, I J d8.k_] [_, _] 1 z bx z <| sC 0 [S i4 d9.t_.length i5, I J d9.c_] [_, _] 2 z bR z <| oP z <| nT <| am <| aL <| am <| bU <| aL <| am <| bg (rs := [.cell 14 30, .cell 15 152, .tmp 16]) (vs := [.agg #[S i2 d8.a_.length i3, I J d8.k_], .agg #[S i4 d9.t_.length i5, I J d9.c_], I J 4]) z ⟨⟨_, [S i2 d8.a_.length i3, I J d8.k_], _, _, _, z, bx, (bB (T := 30) 0 (bX (i := 1) z) z), z, z⟩, ⟨_, [S i4 d9.t_.length i5, I J d9.c_], _, _, _, z, bR, (bB (T := 152) 0 (bX (i := 2) z) z), z, z⟩, z, Y⟩ (fun w' hw' => by
                   obtain rfl := ai H
                   exact ⟨_, z, i2, d8.a_.length, i3, y1, i4, d9.t_.length, i5, y3, z, hw'.sel [15, 16] z z⟩)
                 ·refine ar <| ax <| sR <| o1 z (rx 0 14 _ z bR z) <| sC 0 [S g7 X.1.t_.length g8, I J X.1.c_] [_, _] 7 z bR z <| nQ <| aW <| oPP z <| iZ [(0, [S j2 X.2.1.length j3])] z z z z z iR cq z z ⟨z, z, nl z, Y⟩ [S j2 X.2.1.length j3] z (fun _ => kp) fun J9 => fp z (fun _ h => vc (p := 15) (q := 13) h z z z) <| bE H fun y4 y5 H => nC (r := 6) (j := 16) z z z z z z iR cq z z z z z z z y5 (fun _ _ _ => kp) fun y6 y7 y8 => oP z <| ay <| cd <| ax <| CW.weak (C' := St w D [_, _, _, _, _, _, _, _, _, _, _, _, _, _]) ?_ (ss [0, 1, 2, 3, 4, 5, 7, 8, 9, 10, 11, 12, 14, 17] z z)
                  exact aW <| aa [.p, .p, .p] z <| ay <| cD (RW.at (w9 (y4) (y6) (y7) (y8) (X.1.t_) (g7) (g8) (p7) (X.1.c_) (J.wrap (e7 + 1)) (H)) (ss [0, 1, 2, 3, 4, 5, 13, 6, 11, 8, 9, 10] z z) (sb z))
                ·refine bF <| aN <| aR <| aO <| ax <| sR <| o1 z (rx 0 9 _ z cg z) <| o1 z (rx 0 3 _ z bx z) <| oP z <| o1 z (rx 0 5 _ z cM z) <| oP z <| bE H fun e0 y9 H => au z Fv z z z z (fun d c => tE d (p3 := k.1) y9 (c.carve [] z z) (af (ad b7 d c) (ad b8 d c)) (aM (x := (ah.mk (g.a_.set Z.toNat ({ a with n_ := f.1, x_ := C })) (J.wrap (p2.k_ + 1)))) (c0 := [S E g.a_.length l]) (c1 := [I J (J.wrap (p2.k_ + 1))]) (ap (e := ae (aC) 71) (r := 4) z d c) z) (ap (e := ae (ae eI 3) 31) (r := 6) z d c)) fun K0 d w2 c r6 => ?_
                 obtain ⟨j4, K1, j5, z0, rfl, l2⟩ := r6
                 obtain rfl := aI (i := 0) l2 z
                 refine ⟨St w D [_, _, _, _, _, _, _, _, _, _, _, _, _], c.comp [] z z l2, fun _ _ => Y, ?_⟩
                 refine aa [.p, .p, .p] z <| sC 0 [S j4 e0.1.a_.length j5, I J e0.1.k_] [_, _] 3 z bx z <| nR <| o1 z (rx 0 9 _ z cg z) <| o1 z (rx 0 3 _ z bx z) <| aa [.fa 130 5 5 rA] z <| o1 z (r1 5 10 z ty3 z) <| bE H fun L z1 H => au z EO z z z z (fun d c => tD d z1 (c.carve [] z z) (af (ad b7 d c) (ad b8 d c)) (aM (x := e0.1) (c0 := [S j4 e0.1.a_.length j5]) (c1 := [I J e0.1.k_]) (ap (e := ae (aC) 71) (r := 12) z d c) z)) fun K2 d w2 c r7 => ?_
                 obtain ⟨e1, K3, e2, p8, z2, K4, z3, z4, rfl, i6⟩ := r7
                 obtain rfl := aI (i := 0) i6 z
                 obtain rfl := aI (i := 1) i6 z
                 refine ⟨St w D [_, _, _, _, _, _, _, _, _, _, _, _, _, _, _], c.comp [] z z i6, fun _ _ => Y, ?_⟩
                 exact aa [.p, .p, .p] z <| sC 0 [S e1 L.1.a_.length e2, I J L.1.k_] [_, _] 3 z bx z <| nQ <| ak <| dj 3 [(0, y), (1, y), (2, n)] (St w D [b t 152 [S f6 p5.t_.length f7, I J p5.c_], Res.nil, b u 152 [S N 0 0, I J 0], b M 30 [S e1 L.1.a_.length e2, I J L.1.k_], W (ae (aC) 71) j1 (g.a_.set Z.toNat ({ a with n_ := f.1, x_ := C })) [S E g.a_.length l], b b3 66 [I J k.1.j_, I J k.1.c_], W (ae (ae eI 3) 31) e6 b4 [S d5 b4.length d6], b i0 152 [S P F.length Q, I J a7], W (ae e8 5) d7 F [S P F.length Q], b m 27 [S e9 p0.b_.length f0, S f1 p0.l_.length f2], b o 130 [I J p1.G_, I J p1.H_, I J p1.I_, I J p1.m_, I J p1.a_, I J p1.E_, B p1.F_], b s 30 [S f3 p2.a_.length f4, I J p2.k_], W (ae (aC) 71) z0 e0.1.a_ [S j4 e0.1.a_.length j5], W (ae (aC) 71) p8 L.1.a_ [S e1 L.1.a_.length e2], W (ae eI 3) z4 L.2 [S z2 L.2.length z3]]) cj (by kernel_rfl) (aX bn) (sm [y, n, y, y, y, y, y, y, y, y, y, y, y, y, y] z) <| bu z (aw z) (rx 0 3 _ z bx z) <| bu z (aw z) (rx 0 7 _ z bR z) <| bq (off := 0) [S e1 L.1.a_.length e2, I J L.1.k_] [_, _] (i := 1) z z z z z z bx z z (al z) z z z (sm [y, n, y, y, y, y, y, y, y, y, y, y, y, y, y] z) <| aQ <| kd <| sC 0 [S P F.length Q, I J a7] [_, _] 2 z bR z <| oP z <| nT <| bg (rs := [.cell 14 30, .cell 15 152, .tmp 16]) (vs := [.agg #[S e1 L.1.a_.length e2, I J L.1.k_], .agg #[S P F.length Q, I J a7], I J 1]) z ⟨⟨_, [S e1 L.1.a_.length e2, I J L.1.k_], _, _, _, z, bx, (bB (T := 30) 0 (bX (i := 1) z) z), z, z⟩, ⟨_, [S P F.length Q, I J a7], _, _, _, z, bR, (bB (T := 152) 0 (bX (i := 2) z) z), z, z⟩, z, Y⟩ (fun w' hw' => by
                  obtain rfl := ai H
                  exact ⟨_, z, e1, L.1.a_.length, e2, p8, P, F.length, Q, d7, z, hw'.sel [13, 8] z z⟩)
             ·clear H
              have H := k7
              clear k7
              generalize (((k.2 != 1) && (k.2 != 2)) || (decide (a.m_ ≥ p1.m_))) = z5 at H key ⊢
              cases z5
              ·have H := ba z H
               refine aa [.fa 30 0 0 cc] z <| o1 z (r1 0 3 z eC z) <| aa [.lenS 28 71 dX] z <| o1 z (rx 0 9 _ z cg z) <| o1 z (rx 0 17 _ z cM z) <| bE H fun K5 z6 H => oq z (qc z yi (fun d c => gv d (p1 := k.1) z6 (af (ad b7 d c) (ad b8 d c)))) tt2 <| aa [.p, .fa 130 4 4 wv] z <| o1 z (r1 4 10 z ty3 z) <| oP z <| oP z <| ?_
               obtain rfl := ai H
               exact OW.sub key (sb z)
              ·have H := aZ z H
               refine aa [.p, .p, .p, .p, .p, .p, .p, .p, .p, .p, .p] z ?_
               obtain rfl := ai H
               exact OW.sub key (sb z)
            ·generalize ((k.2 != 1) && (k.2 != 2)) = z7 at key ⊢
             cases z7
             ·exact aa [.fa 71 7 9 lE] z <| o1 z (r1 9 4 z ty3 z) <| aa [.fa 130 3 3 vP] z <| o1 z (r1 3 10 z ty3 z) <| oP z <| oP z <| OW.sub key (sb z)
             ·exact aa [.p, .p, .p, .p, .p, .p] z <| OW.sub key (sb z)
           ·generalize (k.2 != 1) = z8 at key ⊢
            cases z8
            ·exact aa [.p, .p, .p] z <| OW.sub key (sb z)
            ·exact oPP z <| oP z <| OW.sub key (sb z)
         ·refine sR <| aa [.fa 71 4 5 gk, .fa 69 1 1 eE] z <| o1 z (r1 6 13 z kq z) <| aa [.lenS 67 31 iR, .p] z <| nQ <| cI H z (fun H => ?_) (fun H => ?_)
          ·refine sR <| aa [.fa 71 5 7 nV] z <| o1 z (r1 7 13 z ty3 z) <| aa [.p, .p, .fa 71 5 7 nV] z <| sC 7 [I J (J.wrap (a.x_ + p4))] [_, _, _, _, _, _, _, _, _, _, _, _] 13 z ty3 z <| nR <| aa [.fa 71 5 7 nV] z <| o1 z (r1 7 13 z ty3 z) <| aa [.fa 130 2 2 yV] z <| o1 z (r1 2 1 z ty3 z) <| oP z <| nQ <| cI H z (fun H => ?_) (fun H => ?_)
           ·refine sR <| aa [.fa 71 5 7 nV] z <| sC 7 [I J 0] [_, _, _, _, _, _, _, _, _, _, _, _] 13 z ty3 z <| nQ <| CW.weak (C' := St w D [_, _, _, _, _, _, _, _, _, _, _, _, _, _, _, _]) ?_ (ss [0, 1, 2, 3, 4, 5, 6, 7, 8, 9, 10, 11, 12, 13, 14, 15] z z)
            exact aW <| oP z <| ay <| XW.at (J1 (0) (y) (H)) (ss [4, 5, 6, 8, 7, 13, 9, 14, 15, 12, 0, 1, 2] z z) (sb z)
           ·exact ar <| XW.at (J1 (J.wrap (a.x_ + p4)) (n) (H)) (ss [4, 5, 6, 8, 7, 13, 9, 14, 15, 12, 0, 1, 2] z z) (sb z)
          ·exact ar <| XW.at (J1 (a.x_) (n) (H)) (ss [4, 5, 6, 8, 7, 13, 9, 14, 15, 12, 0, 1, 2] z z) (sb z)
       ·clear H
        have H := k2
        clear k2
        generalize (p2.k_ == 99999) = z9 at H key ⊢
        cases z9
        ·have H := ba z H
         refine o1 z (rx 0 0 _ z cg z) <| aa [.fa 30 0 0 cc] z <| o1 z (r1 0 2 z eC z) <| oP z <| bE H fun s6 D1 H => cn z z z z z dX ca z e3 D1 fun K6 K7 A0 r8 => ?_
         obtain ⟨K8, K9, L0, L1, L2, L3, L4, L5, L6, L7, rfl, A1, A2, A3, A4, A5, A6, A7, A8, A9, B0⟩ := bj A0
         obtain rfl := A1
         obtain rfl := A2
         obtain ⟨L8, L9, rfl⟩ := aj A3
         obtain rfl := A4
         obtain ⟨M1, M2, rfl, p9, q0⟩ := aK A5
         obtain ⟨B1, B2, rfl⟩ := aj p9
         obtain ⟨B3, B4, rfl⟩ := aj q0
         obtain rfl := A6
         obtain ⟨M3, M4, rfl⟩ := aj A7
         obtain rfl := A8
         obtain rfl := A9
         obtain rfl := B0
         refine aa [.fa 71 4 5 gk] z <| o1 z (cA (cs := [S B1 s6.n_.e_.length B2, S B3 s6.n_.d_.length B4]) z z cT (bW bor (lz r8 5 2)) z) <| bE H fun M5 B5 H => oq z (qc z AR (fun d c => iM d B5 (af (ad b7 d c) (ad b8 d c)) (aF (ad p9 d c) (ad q0 d c)))) tt2 <| aa [.p, .p, .p] z <| oP z <| ?_
         obtain rfl := ai H
         exact OW.sub key (sb z)
        ·have H := aZ z H
         refine aa [.p, .p, .p, .p, .p, .p, .p, .p, .p, .p, .p, .p] z ?_
         obtain rfl := ai H
         exact OW.sub key (sb z)
     ·clear H
      have H := l8
      clear l8
      generalize l6 = D2 at H key ⊢
      cases D2
      ·have H := ba z H
       refine aa [.p, .fa 27 0 0 cY] z <| o1 z (r1 0 0 z hZ z) <| aa [.lenS 24 63 gD] z <| bE H fun N8 D3 H => oq z (qc z iF (fun d c => bl d D3)) tt2 <| oP z <| oP z <| ?_
       obtain rfl := ai H
       exact OW.sub key (sb z)
      ·have H := aZ z H
       refine aa [.p, .p, .p, .p, .p, .p, .p] z ?_
       obtain rfl := ai H
       exact OW.sub key (sb z)
    ·clear H
     have H := l7
     clear l7
     generalize l4 = D4 at H key ⊢
     cases D4
     ·have H := ba z H
      refine o1 z (rx 0 4 _ z bR z) <| bE H fun N9 D5 H => oq z (qc z DF (fun d c => pT d D5 (bt (ad f5 d c) z))) tt2 <| oP z <| oP z <| ?_
      obtain rfl := ai H
      exact OW.sub key (sb z)
     ·have H := aZ z H
      refine aa [.p, .p, .p, .p] z ?_
      obtain rfl := ai H
      exact OW.sub key (sb z)
   ·clear H
    have H := l5
    clear l5
    generalize (g9 || (decide (p3.v_ < 0))) = D6 at H key ⊢
    cases D6
    ·have H := ba z H
     refine oP z <| bE H fun O0 D7 H => oq z (qc z iF (fun d c => bl d D7)) tt2 <| oP z <| oP z <| ?_
     obtain rfl := ai H
     exact OW.sub key (sb z)
    ·have H := aZ z H
     refine aa [.p, .p, .p, .p] z ?_
     obtain rfl := ai H
     exact OW.sub key (sb z)
  ·generalize g9 = D8 at key ⊢
   cases D8
   ·exact aa [.fa 33 1 1 oR] z <| o1 z (r1 1 3 z ty3 z) <| oP z <| oP z <| OW.sub key (sb z)
   ·exact aa [.p, .p, .p, .p] z <| OW.sub key (sb z)
 ·clear H
  have H := l3
  clear l3
  generalize (!s5) = D9 at H key ⊢
  cases D9
  ·have H := ba z H
   refine o1 z (rx 0 0 _ z cg z) <| o1 z (rx 0 3 _ z gm z) <| bE H fun O1 E0 H => oq z (qc z Ca (fun d c => nK d E0 (af (ad b7 d c) (ad b8 d c)) (bM (ad j6 d c) z))) tt2 <| oP z <| oP z <| ?_
   obtain rfl := ai H
   exact OW.sub key (sb z)
  ·have H := aZ z H
   refine aa [.p, .p, .p, .p, .p] z ?_
   obtain rfl := ai H
   exact OW.sub key (sb z)
theorem lg (w : World) {E : List Nat} {p0b : List Int} {p0 : ao} {p1 : ab} {p2 : cB} {p3 : Int} {b_0 : Nat} {a_p0b : Option Addr} {n_p0b c_p0b : Nat} {w7 : List Value} {r : ah × (List aY) × ao} (H : lA p0b p0 p1 p2 p3 = U r) (HS : St w E [b b_0 91 [S a_p0b p0b.length c_p0b, I J p0.i_, I J p0.h_]] w) (g_p0b : (ae e8 5).rd w E p0b [S a_p0b n_p0b c_p0b]) (g1 : (aJ).rd w E p1 w7) :
    Calls Tryz.prog 96 #[O (U ⟨b_0, 0, N⟩), .agg w7.toArray, .agg #[I J p2.G_, I J p2.H_, I J p2.I_, I J p2.m_, I J p2.a_, I J p2.E_, B p2.F_], I J p3] w (fun en w' => ∃ v, en = .returned v ∧ ∃ (a0 : Option Addr), ∃ (n0 : Nat), ∃ (c0 : Nat), ∃ (F0 : List Nat), ∃ (a1 : Option Addr), ∃ (n1 : Nat), ∃ (c1 : Nat), ∃ (F1 : List Nat), v = .tuple #[.agg #[S a0 n0 c0, I J r.1.k_], S a1 n1 c1] ∧ St w E [W (ae (aC) 71) F0 r.1.a_ [S a0 n0 c0], W (ae (ew) 33) F1 r.2.1 [S a1 n1 c1], b b_0 91 [S a_p0b n_p0b c_p0b, I J r.2.2.i_, I J r.2.2.h_]] w') := by
 obtain rfl := fM g_p0b
 obtain ⟨K4, K5, rfl, F, G⟩ := aB g1
 obtain ⟨j2, j3, rfl⟩ := aj F
 obtain ⟨j4, j5, rfl⟩ := aj G
 unfold lA at H
 refine aH Tryz.func96 z Tryz.ntmps96 z (HS) <| sR <| ob _ z fun e1 => ob _ z fun e2 => aA z z z z bx (fun _ => kp) fun e3 => oP z <| nR <| oP z <| o1 z (rx 0 1 _ z cg z) <| bE H fun K6 y1 H => au z EL z z z z (fun d a => nm d y1 (a.carve [0] z z) (rdB [0] z z a g_p0b) (af (rdB [0] z z a F) (rdB [0] z z a G))) fun K7 d L a x2 => ?_
 obtain ⟨K8, K9, L0, L1, rfl, j6⟩ := x2
 obtain rfl := aI (i := 0) j6 z
 refine ⟨St w E [_, _, _, _, _, _], a.comp [0] z z j6, fun _ _ => Y, ?_⟩
 refine oP z <| nR <| o1 z (rx 0 1 _ z cg z) <| oP z <| bE H fun e7 y2 H => au z FW z z z z (fun d a => tH d y2 (a.carve [] z z) (af (ad F d a) (ad G d a)) (ap (e := ae eI 3) (r := 4) z d a)) fun L2 d L a x3 => ?_
 obtain ⟨w8, L3, w9, y3, rfl, j7⟩ := x3
 obtain rfl := aI (i := 0) j7 z
 refine ⟨St w E [_, _, _, _, _, _, _], a.comp [] z z j7, fun _ _ => Y, ?_⟩
 refine aA z z z z bx (fun _ => kp) fun e4 => sC 0 [S w8 e7.a_.length w9, I J e7.k_] [_, _] 7 z bx z <| nR <| ce (e := ew) z z z z By gm (fun _ => kp) fun x0 => oP z <| nR <| aa [.p, .fa 27 0 0 cY] z <| o1 z (r1 0 1 z hZ z) <| aa [.lenS 24 63 gD] z <| bE H fun d8 y4 H => au z qq z z z z (fun d a => cJ d y4 (a.carve [5] z z) (rdB [5] z z a g_p0b)) fun L4 d L a x4 => ?_
 obtain ⟨rfl, x5⟩ := x4
 refine ⟨St w E [_, _, _, _, _, _, _, _, _, _], a.comp [5] z z x5, fun _ _ => Y, ?_⟩
 refine oPP z <| nQ <| ak <| ak <| CW.weak (C' := St w E [_, _, _, _, _, _, _, _]) ?_ (ss [1, 2, 3, 4, 6, 7, 8, 9] z z)
 refine aW <| oP z <| nQ <| az <| CW.at (Cl (fun (b5 : Int) (b6 : Int) (k : List aT) (t : Option Addr) (u : Nat) (a8 : List Nat) (m : Int) (M : List aY) (R : Option Addr) (X : Nat) (a9 : List Nat) (a5 : Int) => St w E [b b_0 91 [S a_p0b p0b.length c_p0b, I J b5, I J b6], b e4 30 [S t k.length u, I J m], W (ae (aC) 71) a8 k [S t k.length u], W (ae (ew) 33) a9 M [S R M.length X], b e1 27 [S j2 p1.b_.length j3, S j4 p1.l_.length j5], b e2 130 [I J p2.G_, I J p2.H_, I J p2.I_, I J p2.m_, I J p2.a_, I J p2.E_, B p2.F_], b e3 30 [S N 0 0, I J 0]]) (fun b5 b6 k t u a8 m M R X a9 a5 => [(0, O (U ⟨b_0, 0, N⟩)), (3, I J p3), (5, O (U ⟨e1, 0, N⟩)), (6, O (U ⟨e2, 0, N⟩)), (8, O (U ⟨e3, 0, N⟩)), (11, O (U ⟨e4, 0, N⟩)), (12, S R M.length X), (13, I J (J.wrap (1 + d8.1))), (14, I J a5)]) (fun kk => fun b5 b6 k t u a8 m M R X a9 a5 => dK p3 p0b p1 p2 d8 kk b5 b6 k m M a5 = U r) (fun _ _ _ _ _ _ _ _ _ _ _ _ H => ?_) (fun k1 x6 b5 b6 k t u a8 m M R X a9 a5 H => ?_) be (d8.2.i_) (d8.2.h_) (e7.a_) (w8) (w9) (y3) (e7.k_) (([] : List aY)) ((U ⟨x0, 0, N⟩)) (0) ([x0]) (0) (H)) (ss [7, 5, 4, 6, 0, 1, 2] z z) (sb z)
 ·unfold dK at H
  exact absurd H (by simp)
 ·unfold dK at H
  refine ak <| sR <| aa [.p, .p, .p] z <| nQ <| cI H z (fun H => ?_) (fun H => ?_)
  ·refine ar <| ax <| ak <| az <| sR <| oP z <| o1 z (rx 0 4 _ z cg z) <| bE H fun f o5 H => au z Er z z z z (fun d a => nv d o5 (a.carve [0] z z) (rdB [0] z z a g_p0b) (af (rdB [0] z z a F) (rdB [0] z z a G))) fun y5 d L a j8 => ?_
   obtain ⟨o, y6, s, e9, rfl, e5⟩ := j8
   obtain rfl := aI (i := 0) e5 z
   refine ⟨St w E [_, _, _, _, _, _, _, _, _], a.comp [0] z z e5, fun _ _ => Y, ?_⟩
   refine aA z z z z gm (fun _ => kp) fun d9 => sC 0 [S o f.1.o_.length s, I J f.1.v_] [_, _] 9 z gm z <| nR <| oP z <| bE H fun g o6 H => au z Gk z z z z (fun d a => sJ d o6 (a.carve [8] z z) (rdB [8] z z a g_p0b)) fun y7 d L a j9 => ?_
   obtain ⟨A, y8, C, o7, rfl, e6⟩ := j9
   obtain rfl := aI (i := 0) e6 z
   refine ⟨St w E [_, _, _, _, _, _, _, _, _, _, _, _], a.comp [8] z z e6, fun _ _ => Y, ?_⟩
   refine o1 z (bL [(0, [S A g.1.length C])] [S A g.1.length C, I J 0] z z bR DE z ⟨z, z, nl z, Y⟩ z) <| aA z z z z bR (fun _ => kp) fun o8 => sC 0 [S A g.1.length C, I J 0] [_, _] 12 z bR z <| nQ <| yS (fun (a6 : Int) (a7 : Int) (b0 : Nat) (Q : List aT) (a2 : Option Addr) (a3 : Nat) (b1 : List Nat) (a4 : Int) => St w E [b b_0 91 [S a_p0b p0b.length c_p0b, I J a6, I J a7], b e4 30 [S t k.length u, I J m], W (ae (aC) 71) a8 k [S t k.length u], W (ae (ew) 33) a9 M [S R M.length X], b d9 33 [S o f.1.o_.length s, I J f.1.v_], W (ae eI 3) e9 f.1.o_ [S o f.1.o_.length s], b b0 30 [S a2 Q.length a3, I J a4], W (ae (aC) 71) b1 Q [S a2 Q.length a3], b e1 27 [S j2 p1.b_.length j3, S j4 p1.l_.length j5], b e2 130 [I J p2.G_, I J p2.H_, I J p2.I_, I J p2.m_, I J p2.a_, I J p2.E_, B p2.F_], b e3 30 [S N 0 0, I J 0]]) (fun a6 a7 b0 Q a2 a3 b1 a4 => [(0, O (U ⟨b_0, 0, N⟩)), (3, I J p3), (5, O (U ⟨e1, 0, N⟩)), (6, O (U ⟨e2, 0, N⟩)), (8, O (U ⟨e3, 0, N⟩)), (11, O (U ⟨e4, 0, N⟩)), (12, S R M.length X), (13, I J (J.wrap (1 + d8.1))), (14, I J a5), (15, O (U ⟨d9, 0, N⟩)), (17, O (U ⟨b0, 0, N⟩))]) (fun a6 a7 b0 Q a2 a3 b1 a4 => lb M f (dK p3 p0b p1 p2 d8 k1) a5 a6 a7 Q a4 = U r) (fun a6 a7 b0 Q a2 a3 b1 a4 H => ?_) (fun Z => ?_)
   ·unfold lb at H
    refine sR <| o1 z (rx 0 6 _ z bx z) <| sC 0 [S a2 Q.length a3, I J a4] [_, _] 1 z bx z <| nQ <| aW <| oP z <| o1 z (rx 0 4 _ z gm z) <| sX z (fun d a => wH (x1 := f.1.v_) [5] a z z) fun y9 => fp (C' := St w E [_, _, _, _, _, _, _, _, _, _, _, _]) z (fun _ h => h) <| iZ [(0, [S o f.1.o_.length s, I J f.1.v_])] z z z z z By gm z z ⟨z, z, nl z, Y⟩ [S o f.1.o_.length s, I J f.1.v_] z (fun _ => kp) fun z0 => fp z (fun _ h => vc (p := 12) (q := 11) h z z z) <| bE H fun o9 p4 H => nC (r := 3) (j := 13) z z z z z z By gm z z z z z z z p4 (fun _ _ _ => kp) fun p5 p6 p7 => oP z <| ay <| cd <| ax <| CW.weak (C' := St w E [_, _, _, _, _, _, _, _, _, _]) ?_ (ss [0, 1, 2, 4, 6, 7, 8, 9, 10, 14] z z)
    exact aW <| aa [.p, .p, .p] z <| ay <| cD (RW.at (x6 (a6) (a7) (Q) (a2) (a3) (b1) (a4) (o9) (p5) (p6) (p7) (J.wrap (a5 + 1)) (H)) (ss [0, 1, 5, 9, 6, 7, 8] z z) (sb z))
   ·refine CW.weak (C' := St w E [_, _, _, _, _, _, _, _, _, _, _]) ?_ (ss [1, 2, 3, 4, 5, 6, 7, 9, 10, 11, 12] z z)
    refine bE H fun l P H => bE H fun c D H => qw 18 [(0, y), (1, y), (2, y), (3, y), (4, y), (7, y), (8, y)] (Br.alt 5 (Br.pre [] (Br.alt 6 (Br.pre [] (Br.alt 9 (Br.pre [(10, y), (11, y), (12, y), (13, y)] (Br.alt 14 (Br.pre [(15, n), (16, n), (17, n)] Br.done) (Br.pre [(15, n), (14, n), (16, n), (17, n)] Br.done))) (Br.alt 14 (Br.pre [] (Br.alt 9 (Br.pre [(10, y), (11, y), (12, y), (13, y), (15, n), (16, n), (17, n)] Br.done) (Br.pre [(15, n), (9, n), (10, y), (11, y), (12, y), (13, y), (16, n), (17, n)] Br.done))) (Br.pre [(15, n)] (Br.alt 9 (Br.pre [(10, y), (11, y), (12, y), (13, y), (14, n), (16, n), (17, n)] Br.done) (Br.pre [(14, n), (9, n), (10, y), (11, y), (12, y), (13, y), (16, n), (17, n)] Br.done)))))) (Br.alt 14 (Br.pre [] (Br.alt 6 (Br.pre [] (Br.alt 9 (Br.pre [(10, y), (11, y), (12, y), (13, y), (15, n), (16, n), (17, n)] Br.done) (Br.pre [(15, n), (9, n), (10, y), (11, y), (12, y), (13, y), (16, n), (17, n)] Br.done))) (Br.pre [(15, n), (6, n), (9, n), (10, y), (11, y), (12, y), (13, y), (16, n), (17, n)] Br.done))) (Br.pre [(15, n)] (Br.alt 6 (Br.pre [] (Br.alt 9 (Br.pre [(10, y), (11, y), (12, y), (13, y), (14, n), (16, n), (17, n)] Br.done) (Br.pre [(14, n), (9, n), (10, y), (11, y), (12, y), (13, y), (16, n), (17, n)] Br.done))) (Br.pre [(14, n), (6, n), (9, n), (10, y), (11, y), (12, y), (13, y), (16, n), (17, n)] Br.done)))))) (Br.alt 14 (Br.pre [] (Br.alt 5 (Br.pre [] (Br.alt 6 (Br.pre [] (Br.alt 9 (Br.pre [(10, y), (11, y), (12, y), (13, y), (15, n), (16, n), (17, n)] Br.done) (Br.pre [(15, n), (9, n), (10, y), (11, y), (12, y), (13, y), (16, n), (17, n)] Br.done))) (Br.pre [(15, n), (6, n), (9, n), (10, y), (11, y), (12, y), (13, y), (16, n), (17, n)] Br.done))) (Br.pre [(15, n), (5, n), (6, n), (9, n), (10, y), (11, y), (12, y), (13, y), (16, n), (17, n)] Br.done))) (Br.pre [(15, n)] (Br.alt 5 (Br.pre [] (Br.alt 6 (Br.pre [] (Br.alt 9 (Br.pre [(10, y), (11, y), (12, y), (13, y), (14, n), (16, n), (17, n)] Br.done) (Br.pre [(14, n), (9, n), (10, y), (11, y), (12, y), (13, y), (16, n), (17, n)] Br.done))) (Br.pre [(14, n), (6, n), (9, n), (10, y), (11, y), (12, y), (13, y), (16, n), (17, n)] Br.done))) (Br.pre [(14, n), (5, n), (6, n), (9, n), (10, y), (11, y), (12, y), (13, y), (16, n), (17, n)] Br.done))))) (St w E [b e4 30 [S t k.length u, I J m], W (ae (aC) 71) a8 k [S t k.length u], W (ae (ew) 33) a9 M [S R M.length X], b e1 27 [S j2 p1.b_.length j3, S j4 p1.l_.length j5], b e2 130 [I J p2.G_, I J p2.H_, I J p2.I_, I J p2.m_, I J p2.a_, I J p2.E_, B p2.F_], b e3 30 [S N 0 0, I J 0], W (ae eI 3) e9 f.1.o_ [S o f.1.o_.length s], b d9 33 [S o f.1.o_.length s, I J f.1.v_], W (ae e8 5) o7 g.1 [S A g.1.length C], Res.nil, b o8 152 [S A g.1.length C, I J 0]]) cj (by kernel_rfl) (aX (bv (aX (dI (bv (aX bn)))))) (sm [y, y, y, y, y, y, y, y, y, n, y] z) <| bu z (aw z) (rx 0 3 _ z cg z) <| bu z (aw z) (rx 0 4 _ z nU z) <| bu z (aw z) (rx 0 0 _ z bx z) <| bu z (aw z) (rx 0 7 _ z gm z) <| oP z <| bu z (aw z) (rx 0 10 _ z bR z) <| oP z <| aQ <| eM (sm [y, y, y, y, y, y, y, y, y, n, y] z) z ?_ ?_
    ·refine bQ (val := I J) (h1 := fun _ => z) [1, 3, 7, 7] [(0, [I J 1]), (1, [I J 3]), (2, [I J 7]), (3, [I J 7])] z z z z z aP ty3 z z z ⟨z, z, nl z, z, z, nl z, z, z, nl z, z, z, nl z, Y⟩ z z (fun _ => (sm [y, y, y, y, y, y, y, y, y, n, y] z)) fun z1 => aQ <| eM (sm [y, y, y, y, y, y, y, y, y, n, y] z) z ?_ ?_
     ·refine au z jY z z z z (fun d a => bb d P (a.carve [9] z z) (rdB [9] z z a g_p0b) (rdO 11 [9] z a z z)) (fun z2 d L a k0 => ?_)
      obtain ⟨rfl, k2⟩ := k0
      refine ⟨St w E [_, _, _, _, _, _, _, _, _, _, _, _, _], a.comp [9] z z k2, (sm [y, y, y, y, y, y, y, y, y, n, y] z), ?_⟩
      refine aQ <| eM (sm [y, y, y, y, y, y, y, y, y, n, y] z) z ?_ ?_
      ·refine au z mC z z z z (fun d a => cf d (p1 := p2) D (a.carve [] z z) (af (ad F d a) (ad G d a)) (aM (x := (ah.mk k m)) (c0 := [S t k.length u]) (c1 := [I J m]) (ap (e := ae (aC) 71) (r := 1) z d a) z) (bM (x := f.1) (c0 := [S o f.1.o_.length s]) (c1 := [I J f.1.v_]) (ap (e := ae eI 3) (r := 6) z d a) z) (bt (x := (bh.mk g.1 0)) (c0 := [S A g.1.length C]) (c1 := [I J 0]) (ap (e := ae e8 5) (r := 8) z d a) z)) (fun z3 d L a k3 => ?_)
       obtain ⟨b2, z4, b3, f0, f1, z5, f2, z6, rfl, b7⟩ := k3
       obtain rfl := aI (i := 0) b7 z
       obtain rfl := aI (i := 1) b7 z
       refine ⟨St w E [_, _, _, _, _, _, _, _, _, _, _, _, _, _, _], a.comp [] z z b7, (sm [y, y, y, y, y, y, y, y, y, n, y] z), ?_⟩
       refine aa [.p, .p, .p, .p] z <| aQ <| eM (sm [y, y, y, y, y, y, y, y, y, n, y] z) z ?_ ?_
       ·exact aA z z z z bx (fun _ => (sm [y, y, y, y, y, y, y, y, y, n, y] z)) fun p8 => aA z z z z bR (fun _ => (sm [y, y, y, y, y, y, y, y, y, n, y] z)) fun z7 => bq (off := 0) [S b2 c.1.a_.length b3, I J c.1.k_] [_, _] (i := 15) z z z z z z bx z z (al z) z z z (sm [y, y, y, y, y, y, y, y, y, n, y] z) <| bq (off := 0) [S f1 c.2.1.t_.length f2, I J c.2.1.c_] [_, _] (i := 16) z z z z z z bR z z (al z) z z z (sm [y, y, y, y, y, y, y, y, y, n, y] z) <| aQ <| cR <| oP z <| ay <| XW.at (Z (l.2.i_) (l.2.h_) (p8) (c.1.a_) (b2) (b3) (f0) (c.1.k_) (H)) (ss [12, 0, 1, 2, 7, 6, 15, 13, 3, 4, 5] z z) (sb z)
       exact dM (sm [y, y, y, y, y, y, y, y, y, n, y] z) z <| aA z z z z bR (fun _ => (sm [y, y, y, y, y, y, y, y, y, n, y] z)) fun z8 => aA z z z z bx (fun _ => (sm [y, y, y, y, y, y, y, y, y, n, y] z)) fun p9 => bq (off := 0) [S b2 c.1.a_.length b3, I J c.1.k_] [_, _] (i := 16) z z z z z z bx z z (al z) z z z (sm [y, y, y, y, y, y, y, y, y, n, y] z) <| bq (off := 0) [S f1 c.2.1.t_.length f2, I J c.2.1.c_] [_, _] (i := 15) z z z z z z bR z z (al z) z z z (sm [y, y, y, y, y, y, y, y, y, n, y] z) <| aQ <| cR <| oP z <| ay <| XW.at (Z (l.2.i_) (l.2.h_) (p9) (c.1.a_) (b2) (b3) (f0) (c.1.k_) (H)) (ss [12, 0, 1, 2, 7, 6, 16, 13, 3, 4, 5] z z) (sb z)
      refine eM (sm [y, y, y, y, y, y, y, y, y, n, y] z) z ?_ ?_
      ·refine aA z z z z bx (fun _ => (sm [y, y, y, y, y, y, y, y, y, n, y] z)) fun f3 => aQ <| eM (sm [y, y, y, y, y, y, y, y, y, n, y] z) z ?_ ?_
       ·refine au z mC z z z z (fun d a => cf d (p1 := p2) D (a.carve [] z z) (af (ad F d a) (ad G d a)) (aM (x := (ah.mk k m)) (c0 := [S t k.length u]) (c1 := [I J m]) (ap (e := ae (aC) 71) (r := 1) z d a) z) (bM (x := f.1) (c0 := [S o f.1.o_.length s]) (c1 := [I J f.1.v_]) (ap (e := ae eI 3) (r := 6) z d a) z) (bt (x := (bh.mk g.1 0)) (c0 := [S A g.1.length C]) (c1 := [I J 0]) (ap (e := ae e8 5) (r := 8) z d a) z)) (fun z9 d L a k4 => ?_)
        obtain ⟨f4, A0, f5, q0, q2, A1, q3, A2, rfl, b8⟩ := k4
        obtain rfl := aI (i := 0) b8 z
        obtain rfl := aI (i := 1) b8 z
        refine ⟨St w E [_, _, _, _, _, _, _, _, _, _, _, _, _, _, _, _], a.comp [] z z b8, (sm [y, y, y, y, y, y, y, y, y, n, y] z), ?_⟩
        exact aa [.p, .p, .p, .p] z <| aA z z z z bR (fun _ => (sm [y, y, y, y, y, y, y, y, y, n, y] z)) fun A3 => bq (off := 0) [S f4 c.1.a_.length f5, I J c.1.k_] [_, _] (i := 13) z z z z z z bx z z (al z) z z z (sm [y, y, y, y, y, y, y, y, y, n, y] z) <| bq (off := 0) [S q2 c.2.1.t_.length q3, I J c.2.1.c_] [_, _] (i := 16) z z z z z z bR z z (al z) z z z (sm [y, y, y, y, y, y, y, y, y, n, y] z) <| aQ <| cR <| oP z <| ay <| XW.at (Z (l.2.i_) (l.2.h_) (f3) (c.1.a_) (f4) (f5) (q0) (c.1.k_) (H)) (ss [12, 0, 1, 2, 7, 6, 13, 14, 3, 4, 5] z z) (sb z)
       refine dM (sm [y, y, y, y, y, y, y, y, y, n, y] z) z <| aA z z z z bR (fun _ => (sm [y, y, y, y, y, y, y, y, y, n, y] z)) fun A4 => au z mC z z z z (fun d a => cf d (p1 := p2) D (a.carve [] z z) (af (ad F d a) (ad G d a)) (aM (x := (ah.mk k m)) (c0 := [S t k.length u]) (c1 := [I J m]) (ap (e := ae (aC) 71) (r := 1) z d a) z) (bM (x := f.1) (c0 := [S o f.1.o_.length s]) (c1 := [I J f.1.v_]) (ap (e := ae eI 3) (r := 6) z d a) z) (bt (x := (bh.mk g.1 0)) (c0 := [S A g.1.length C]) (c1 := [I J 0]) (ap (e := ae e8 5) (r := 8) z d a) z)) fun A5 d L a k5 => ?_
       obtain ⟨f6, A6, f7, q4, q5, A7, q6, A8, rfl, b9⟩ := k5
       obtain rfl := aI (i := 0) b9 z
       obtain rfl := aI (i := 1) b9 z
       refine ⟨St w E [_, _, _, _, _, _, _, _, _, _, _, _, _, _, _, _, _], a.comp [] z z b9, (sm [y, y, y, y, y, y, y, y, y, n, y] z), ?_⟩
       exact aa [.p, .p, .p, .p] z <| bq (off := 0) [S f6 c.1.a_.length f7, I J c.1.k_] [_, _] (i := 13) z z z z z z bx z z (al z) z z z (sm [y, y, y, y, y, y, y, y, y, n, y] z) <| bq (off := 0) [S q5 c.2.1.t_.length q6, I J c.2.1.c_] [_, _] (i := 14) z z z z z z bR z z (al z) z z z (sm [y, y, y, y, y, y, y, y, y, n, y] z) <| aQ <| cR <| oP z <| ay <| XW.at (Z (l.2.i_) (l.2.h_) (f3) (c.1.a_) (f6) (f7) (q4) (c.1.k_) (H)) (ss [12, 0, 1, 2, 7, 6, 13, 15, 3, 4, 5] z z) (sb z)
      refine dM (sm [y, y, y, y, y, y, y, y, y, n, y] z) z <| aA z z z z bR (fun _ => (sm [y, y, y, y, y, y, y, y, y, n, y] z)) fun A9 => aQ <| eM (sm [y, y, y, y, y, y, y, y, y, n, y] z) z ?_ ?_
      ·refine au z mC z z z z (fun d a => cf d (p1 := p2) D (a.carve [] z z) (af (ad F d a) (ad G d a)) (aM (x := (ah.mk k m)) (c0 := [S t k.length u]) (c1 := [I J m]) (ap (e := ae (aC) 71) (r := 1) z d a) z) (bM (x := f.1) (c0 := [S o f.1.o_.length s]) (c1 := [I J f.1.v_]) (ap (e := ae eI 3) (r := 6) z d a) z) (bt (x := (bh.mk g.1 0)) (c0 := [S A g.1.length C]) (c1 := [I J 0]) (ap (e := ae e8 5) (r := 8) z d a) z)) (fun B0 d L a k6 => ?_)
       obtain ⟨f8, B1, f9, q7, q8, B2, q9, B3, rfl, c2⟩ := k6
       obtain rfl := aI (i := 0) c2 z
       obtain rfl := aI (i := 1) c2 z
       refine ⟨St w E [_, _, _, _, _, _, _, _, _, _, _, _, _, _, _, _], a.comp [] z z c2, (sm [y, y, y, y, y, y, y, y, y, n, y] z), ?_⟩
       exact aa [.p, .p, .p, .p] z <| aA z z z z bx (fun _ => (sm [y, y, y, y, y, y, y, y, y, n, y] z)) fun r0 => bq (off := 0) [S f8 c.1.a_.length f9, I J c.1.k_] [_, _] (i := 16) z z z z z z bx z z (al z) z z z (sm [y, y, y, y, y, y, y, y, y, n, y] z) <| bq (off := 0) [S q8 c.2.1.t_.length q9, I J c.2.1.c_] [_, _] (i := 13) z z z z z z bR z z (al z) z z z (sm [y, y, y, y, y, y, y, y, y, n, y] z) <| aQ <| cR <| oP z <| ay <| XW.at (Z (l.2.i_) (l.2.h_) (r0) (c.1.a_) (f8) (f9) (q7) (c.1.k_) (H)) (ss [12, 0, 1, 2, 7, 6, 16, 14, 3, 4, 5] z z) (sb z)
      refine dM (sm [y, y, y, y, y, y, y, y, y, n, y] z) z <| aA z z z z bx (fun _ => (sm [y, y, y, y, y, y, y, y, y, n, y] z)) fun r2 => au z mC z z z z (fun d a => cf d (p1 := p2) D (a.carve [] z z) (af (ad F d a) (ad G d a)) (aM (x := (ah.mk k m)) (c0 := [S t k.length u]) (c1 := [I J m]) (ap (e := ae (aC) 71) (r := 1) z d a) z) (bM (x := f.1) (c0 := [S o f.1.o_.length s]) (c1 := [I J f.1.v_]) (ap (e := ae eI 3) (r := 6) z d a) z) (bt (x := (bh.mk g.1 0)) (c0 := [S A g.1.length C]) (c1 := [I J 0]) (ap (e := ae e8 5) (r := 8) z d a) z)) fun B4 d L a k7 => ?_
      obtain ⟨g0, B5, g2, r3, r4, B6, r5, B7, rfl, c3⟩ := k7
      obtain rfl := aI (i := 0) c3 z
      obtain rfl := aI (i := 1) c3 z
      refine ⟨St w E [_, _, _, _, _, _, _, _, _, _, _, _, _, _, _, _, _], a.comp [] z z c3, (sm [y, y, y, y, y, y, y, y, y, n, y] z), ?_⟩
      exact aa [.p, .p, .p, .p] z <| bq (off := 0) [S g0 c.1.a_.length g2, I J c.1.k_] [_, _] (i := 14) z z z z z z bx z z (al z) z z z (sm [y, y, y, y, y, y, y, y, y, n, y] z) <| bq (off := 0) [S r4 c.2.1.t_.length r5, I J c.2.1.c_] [_, _] (i := 13) z z z z z z bR z z (al z) z z z (sm [y, y, y, y, y, y, y, y, y, n, y] z) <| aQ <| cR <| oP z <| ay <| XW.at (Z (l.2.i_) (l.2.h_) (r2) (c.1.a_) (g0) (g2) (r3) (c.1.k_) (H)) (ss [12, 0, 1, 2, 7, 6, 14, 15, 3, 4, 5] z z) (sb z)
     refine eM (sm [y, y, y, y, y, y, y, y, y, n, y] z) z ?_ ?_
     ·refine aA z z z z bx (fun _ => (sm [y, y, y, y, y, y, y, y, y, n, y] z)) fun e0 => aQ <| eM (sm [y, y, y, y, y, y, y, y, y, n, y] z) z ?_ ?_
      ·refine au z jY z z z z (fun d a => bb d P (a.carve [9] z z) (rdB [9] z z a g_p0b) (rdO 11 [9] z a z z)) (fun B8 d L a k8 => ?_)
       obtain ⟨rfl, k9⟩ := k8
       refine ⟨St w E [_, _, _, _, _, _, _, _, _, _, _, _, _, _], a.comp [9] z z k9, (sm [y, y, y, y, y, y, y, y, y, n, y] z), ?_⟩
       refine aQ <| eM (sm [y, y, y, y, y, y, y, y, y, n, y] z) z ?_ ?_
       ·refine au z mC z z z z (fun d a => cf d (p1 := p2) D (a.carve [] z z) (af (ad F d a) (ad G d a)) (aM (x := (ah.mk k m)) (c0 := [S t k.length u]) (c1 := [I J m]) (ap (e := ae (aC) 71) (r := 1) z d a) z) (bM (x := f.1) (c0 := [S o f.1.o_.length s]) (c1 := [I J f.1.v_]) (ap (e := ae eI 3) (r := 6) z d a) z) (bt (x := (bh.mk g.1 0)) (c0 := [S A g.1.length C]) (c1 := [I J 0]) (ap (e := ae e8 5) (r := 8) z d a) z)) (fun B9 d L a l0 => ?_)
        obtain ⟨g3, C0, g4, r6, r7, C1, r8, C2, rfl, c4⟩ := l0
        obtain rfl := aI (i := 0) c4 z
        obtain rfl := aI (i := 1) c4 z
        refine ⟨St w E [_, _, _, _, _, _, _, _, _, _, _, _, _, _, _, _], a.comp [] z z c4, (sm [y, y, y, y, y, y, y, y, y, n, y] z), ?_⟩
        exact aa [.p, .p, .p, .p] z <| aA z z z z bR (fun _ => (sm [y, y, y, y, y, y, y, y, y, n, y] z)) fun C3 => bq (off := 0) [S g3 c.1.a_.length g4, I J c.1.k_] [_, _] (i := 12) z z z z z z bx z z (al z) z z z (sm [y, y, y, y, y, y, y, y, y, n, y] z) <| bq (off := 0) [S r7 c.2.1.t_.length r8, I J c.2.1.c_] [_, _] (i := 16) z z z z z z bR z z (al z) z z z (sm [y, y, y, y, y, y, y, y, y, n, y] z) <| aQ <| cR <| oP z <| ay <| XW.at (Z (l.2.i_) (l.2.h_) (e0) (c.1.a_) (g3) (g4) (r6) (c.1.k_) (H)) (ss [13, 0, 1, 2, 7, 6, 12, 14, 3, 4, 5] z z) (sb z)
       refine dM (sm [y, y, y, y, y, y, y, y, y, n, y] z) z <| aA z z z z bR (fun _ => (sm [y, y, y, y, y, y, y, y, y, n, y] z)) fun C4 => au z mC z z z z (fun d a => cf d (p1 := p2) D (a.carve [] z z) (af (ad F d a) (ad G d a)) (aM (x := (ah.mk k m)) (c0 := [S t k.length u]) (c1 := [I J m]) (ap (e := ae (aC) 71) (r := 1) z d a) z) (bM (x := f.1) (c0 := [S o f.1.o_.length s]) (c1 := [I J f.1.v_]) (ap (e := ae eI 3) (r := 6) z d a) z) (bt (x := (bh.mk g.1 0)) (c0 := [S A g.1.length C]) (c1 := [I J 0]) (ap (e := ae e8 5) (r := 8) z d a) z)) fun C5 d L a l1 => ?_
       obtain ⟨g5, C6, g6, r9, s0, C7, s1, C8, rfl, c5⟩ := l1
       obtain rfl := aI (i := 0) c5 z
       obtain rfl := aI (i := 1) c5 z
       refine ⟨St w E [_, _, _, _, _, _, _, _, _, _, _, _, _, _, _, _, _], a.comp [] z z c5, (sm [y, y, y, y, y, y, y, y, y, n, y] z), ?_⟩
       exact aa [.p, .p, .p, .p] z <| bq (off := 0) [S g5 c.1.a_.length g6, I J c.1.k_] [_, _] (i := 12) z z z z z z bx z z (al z) z z z (sm [y, y, y, y, y, y, y, y, y, n, y] z) <| bq (off := 0) [S s0 c.2.1.t_.length s1, I J c.2.1.c_] [_, _] (i := 14) z z z z z z bR z z (al z) z z z (sm [y, y, y, y, y, y, y, y, y, n, y] z) <| aQ <| cR <| oP z <| ay <| XW.at (Z (l.2.i_) (l.2.h_) (e0) (c.1.a_) (g5) (g6) (r9) (c.1.k_) (H)) (ss [13, 0, 1, 2, 7, 6, 12, 15, 3, 4, 5] z z) (sb z)
      refine dM (sm [y, y, y, y, y, y, y, y, y, n, y] z) z <| aA z z z z bR (fun _ => (sm [y, y, y, y, y, y, y, y, y, n, y] z)) fun C9 => au z jY z z z z (fun d a => bb d P (a.carve [9] z z) (rdB [9] z z a g_p0b) (rdO 11 [9] z a z z)) fun D0 d L a l2 => ?_
      obtain ⟨rfl, l3⟩ := l2
      refine ⟨St w E [_, _, _, _, _, _, _, _, _, _, _, _, _, _, _], a.comp [9] z z l3, (sm [y, y, y, y, y, y, y, y, y, n, y] z), ?_⟩
      refine au z mC z z z z (fun d a => cf d (p1 := p2) D (a.carve [] z z) (af (ad F d a) (ad G d a)) (aM (x := (ah.mk k m)) (c0 := [S t k.length u]) (c1 := [I J m]) (ap (e := ae (aC) 71) (r := 1) z d a) z) (bM (x := f.1) (c0 := [S o f.1.o_.length s]) (c1 := [I J f.1.v_]) (ap (e := ae eI 3) (r := 6) z d a) z) (bt (x := (bh.mk g.1 0)) (c0 := [S A g.1.length C]) (c1 := [I J 0]) (ap (e := ae e8 5) (r := 8) z d a) z)) (fun D1 d L a l4 => ?_)
      obtain ⟨g7, D2, g8, s2, s3, D3, s4, D4, rfl, c6⟩ := l4
      obtain rfl := aI (i := 0) c6 z
      obtain rfl := aI (i := 1) c6 z
      refine ⟨St w E [_, _, _, _, _, _, _, _, _, _, _, _, _, _, _, _, _], a.comp [] z z c6, (sm [y, y, y, y, y, y, y, y, y, n, y] z), ?_⟩
      exact aa [.p, .p, .p, .p] z <| bq (off := 0) [S g7 c.1.a_.length g8, I J c.1.k_] [_, _] (i := 12) z z z z z z bx z z (al z) z z z (sm [y, y, y, y, y, y, y, y, y, n, y] z) <| bq (off := 0) [S s3 c.2.1.t_.length s4, I J c.2.1.c_] [_, _] (i := 13) z z z z z z bR z z (al z) z z z (sm [y, y, y, y, y, y, y, y, y, n, y] z) <| aQ <| cR <| oP z <| ay <| XW.at (Z (l.2.i_) (l.2.h_) (e0) (c.1.a_) (g7) (g8) (s2) (c.1.k_) (H)) (ss [14, 0, 1, 2, 7, 6, 12, 15, 3, 4, 5] z z) (sb z)
     refine dM (sm [y, y, y, y, y, y, y, y, y, n, y] z) z <| aA z z z z bR (fun _ => (sm [y, y, y, y, y, y, y, y, y, n, y] z)) fun D5 => aQ <| eM (sm [y, y, y, y, y, y, y, y, y, n, y] z) z ?_ ?_
     ·refine au z jY z z z z (fun d a => bb d P (a.carve [9] z z) (rdB [9] z z a g_p0b) (rdO 11 [9] z a z z)) (fun D6 d L a l5 => ?_)
      obtain ⟨rfl, l6⟩ := l5
      refine ⟨St w E [_, _, _, _, _, _, _, _, _, _, _, _, _, _], a.comp [9] z z l6, (sm [y, y, y, y, y, y, y, y, y, n, y] z), ?_⟩
      refine aQ <| eM (sm [y, y, y, y, y, y, y, y, y, n, y] z) z ?_ ?_
      ·refine au z mC z z z z (fun d a => cf d (p1 := p2) D (a.carve [] z z) (af (ad F d a) (ad G d a)) (aM (x := (ah.mk k m)) (c0 := [S t k.length u]) (c1 := [I J m]) (ap (e := ae (aC) 71) (r := 1) z d a) z) (bM (x := f.1) (c0 := [S o f.1.o_.length s]) (c1 := [I J f.1.v_]) (ap (e := ae eI 3) (r := 6) z d a) z) (bt (x := (bh.mk g.1 0)) (c0 := [S A g.1.length C]) (c1 := [I J 0]) (ap (e := ae e8 5) (r := 8) z d a) z)) (fun D7 d L a l7 => ?_)
       obtain ⟨g9, D8, h0, s5, s6, D9, s7, E0, rfl, c7⟩ := l7
       obtain rfl := aI (i := 0) c7 z
       obtain rfl := aI (i := 1) c7 z
       refine ⟨St w E [_, _, _, _, _, _, _, _, _, _, _, _, _, _, _, _], a.comp [] z z c7, (sm [y, y, y, y, y, y, y, y, y, n, y] z), ?_⟩
       exact aa [.p, .p, .p, .p] z <| aA z z z z bx (fun _ => (sm [y, y, y, y, y, y, y, y, y, n, y] z)) fun s8 => bq (off := 0) [S g9 c.1.a_.length h0, I J c.1.k_] [_, _] (i := 16) z z z z z z bx z z (al z) z z z (sm [y, y, y, y, y, y, y, y, y, n, y] z) <| bq (off := 0) [S s6 c.2.1.t_.length s7, I J c.2.1.c_] [_, _] (i := 12) z z z z z z bR z z (al z) z z z (sm [y, y, y, y, y, y, y, y, y, n, y] z) <| aQ <| cR <| oP z <| ay <| XW.at (Z (l.2.i_) (l.2.h_) (s8) (c.1.a_) (g9) (h0) (s5) (c.1.k_) (H)) (ss [13, 0, 1, 2, 7, 6, 16, 14, 3, 4, 5] z z) (sb z)
      refine dM (sm [y, y, y, y, y, y, y, y, y, n, y] z) z <| aA z z z z bx (fun _ => (sm [y, y, y, y, y, y, y, y, y, n, y] z)) fun s9 => au z mC z z z z (fun d a => cf d (p1 := p2) D (a.carve [] z z) (af (ad F d a) (ad G d a)) (aM (x := (ah.mk k m)) (c0 := [S t k.length u]) (c1 := [I J m]) (ap (e := ae (aC) 71) (r := 1) z d a) z) (bM (x := f.1) (c0 := [S o f.1.o_.length s]) (c1 := [I J f.1.v_]) (ap (e := ae eI 3) (r := 6) z d a) z) (bt (x := (bh.mk g.1 0)) (c0 := [S A g.1.length C]) (c1 := [I J 0]) (ap (e := ae e8 5) (r := 8) z d a) z)) fun E1 d L a l8 => ?_
      obtain ⟨h2, E2, h3, t0, t1, E3, t2, E4, rfl, c8⟩ := l8
      obtain rfl := aI (i := 0) c8 z
      obtain rfl := aI (i := 1) c8 z
      refine ⟨St w E [_, _, _, _, _, _, _, _, _, _, _, _, _, _, _, _, _], a.comp [] z z c8, (sm [y, y, y, y, y, y, y, y, y, n, y] z), ?_⟩
      exact aa [.p, .p, .p, .p] z <| bq (off := 0) [S h2 c.1.a_.length h3, I J c.1.k_] [_, _] (i := 14) z z z z z z bx z z (al z) z z z (sm [y, y, y, y, y, y, y, y, y, n, y] z) <| bq (off := 0) [S t1 c.2.1.t_.length t2, I J c.2.1.c_] [_, _] (i := 12) z z z z z z bR z z (al z) z z z (sm [y, y, y, y, y, y, y, y, y, n, y] z) <| aQ <| cR <| oP z <| ay <| XW.at (Z (l.2.i_) (l.2.h_) (s9) (c.1.a_) (h2) (h3) (t0) (c.1.k_) (H)) (ss [13, 0, 1, 2, 7, 6, 14, 15, 3, 4, 5] z z) (sb z)
     refine dM (sm [y, y, y, y, y, y, y, y, y, n, y] z) z <| aA z z z z bx (fun _ => (sm [y, y, y, y, y, y, y, y, y, n, y] z)) fun t3 => au z jY z z z z (fun d a => bb d P (a.carve [9] z z) (rdB [9] z z a g_p0b) (rdO 11 [9] z a z z)) fun E5 d L a l9 => ?_
     obtain ⟨rfl, m0⟩ := l9
     refine ⟨St w E [_, _, _, _, _, _, _, _, _, _, _, _, _, _, _], a.comp [9] z z m0, (sm [y, y, y, y, y, y, y, y, y, n, y] z), ?_⟩
     refine au z mC z z z z (fun d a => cf d (p1 := p2) D (a.carve [] z z) (af (ad F d a) (ad G d a)) (aM (x := (ah.mk k m)) (c0 := [S t k.length u]) (c1 := [I J m]) (ap (e := ae (aC) 71) (r := 1) z d a) z) (bM (x := f.1) (c0 := [S o f.1.o_.length s]) (c1 := [I J f.1.v_]) (ap (e := ae eI 3) (r := 6) z d a) z) (bt (x := (bh.mk g.1 0)) (c0 := [S A g.1.length C]) (c1 := [I J 0]) (ap (e := ae e8 5) (r := 8) z d a) z)) (fun E6 d L a m1 => ?_)
     obtain ⟨h4, E7, h5, t4, t5, E8, t6, E9, rfl, c9⟩ := m1
     obtain rfl := aI (i := 0) c9 z
     obtain rfl := aI (i := 1) c9 z
     refine ⟨St w E [_, _, _, _, _, _, _, _, _, _, _, _, _, _, _, _, _], a.comp [] z z c9, (sm [y, y, y, y, y, y, y, y, y, n, y] z), ?_⟩
     exact aa [.p, .p, .p, .p] z <| bq (off := 0) [S h4 c.1.a_.length h5, I J c.1.k_] [_, _] (i := 13) z z z z z z bx z z (al z) z z z (sm [y, y, y, y, y, y, y, y, y, n, y] z) <| bq (off := 0) [S t5 c.2.1.t_.length t6, I J c.2.1.c_] [_, _] (i := 12) z z z z z z bR z z (al z) z z z (sm [y, y, y, y, y, y, y, y, y, n, y] z) <| aQ <| cR <| oP z <| ay <| XW.at (Z (l.2.i_) (l.2.h_) (t3) (c.1.a_) (h4) (h5) (t4) (c.1.k_) (H)) (ss [14, 0, 1, 2, 7, 6, 13, 15, 3, 4, 5] z z) (sb z)
    refine eM (sm [y, y, y, y, y, y, y, y, y, n, y] z) z ?_ ?_
    ·refine aA z z z z bx (fun _ => (sm [y, y, y, y, y, y, y, y, y, n, y] z)) fun b4 => aQ <| eM (sm [y, y, y, y, y, y, y, y, y, n, y] z) z ?_ ?_
     ·refine bQ (val := I J) (h1 := fun _ => z) [1, 3, 7, 7] [(0, [I J 1]), (1, [I J 3]), (2, [I J 7]), (3, [I J 7])] z z z z z aP ty3 z z z ⟨z, z, nl z, z, z, nl z, z, z, nl z, z, z, nl z, Y⟩ z z (fun _ => (sm [y, y, y, y, y, y, y, y, y, n, y] z)) fun F2 => aQ <| eM (sm [y, y, y, y, y, y, y, y, y, n, y] z) z ?_ ?_
      ·refine au z jY z z z z (fun d a => bb d P (a.carve [9] z z) (rdB [9] z z a g_p0b) (rdO 12 [9] z a z z)) (fun F3 d L a m2 => ?_)
       obtain ⟨rfl, m3⟩ := m2
       refine ⟨St w E [_, _, _, _, _, _, _, _, _, _, _, _, _, _], a.comp [9] z z m3, (sm [y, y, y, y, y, y, y, y, y, n, y] z), ?_⟩
       refine aQ <| eM (sm [y, y, y, y, y, y, y, y, y, n, y] z) z ?_ ?_
       ·refine au z mC z z z z (fun d a => cf d (p1 := p2) D (a.carve [] z z) (af (ad F d a) (ad G d a)) (aM (x := (ah.mk k m)) (c0 := [S t k.length u]) (c1 := [I J m]) (ap (e := ae (aC) 71) (r := 1) z d a) z) (bM (x := f.1) (c0 := [S o f.1.o_.length s]) (c1 := [I J f.1.v_]) (ap (e := ae eI 3) (r := 6) z d a) z) (bt (x := (bh.mk g.1 0)) (c0 := [S A g.1.length C]) (c1 := [I J 0]) (ap (e := ae e8 5) (r := 8) z d a) z)) (fun F4 d L a m4 => ?_)
        obtain ⟨h6, F5, h7, t7, t8, F6, t9, F7, rfl, d0⟩ := m4
        obtain rfl := aI (i := 0) d0 z
        obtain rfl := aI (i := 1) d0 z
        refine ⟨St w E [_, _, _, _, _, _, _, _, _, _, _, _, _, _, _, _], a.comp [] z z d0, (sm [y, y, y, y, y, y, y, y, y, n, y] z), ?_⟩
        exact aa [.p, .p, .p, .p] z <| aA z z z z bR (fun _ => (sm [y, y, y, y, y, y, y, y, y, n, y] z)) fun F8 => bq (off := 0) [S h6 c.1.a_.length h7, I J c.1.k_] [_, _] (i := 11) z z z z z z bx z z (al z) z z z (sm [y, y, y, y, y, y, y, y, y, n, y] z) <| bq (off := 0) [S t8 c.2.1.t_.length t9, I J c.2.1.c_] [_, _] (i := 16) z z z z z z bR z z (al z) z z z (sm [y, y, y, y, y, y, y, y, y, n, y] z) <| aQ <| cR <| oP z <| ay <| XW.at (Z (l.2.i_) (l.2.h_) (b4) (c.1.a_) (h6) (h7) (t7) (c.1.k_) (H)) (ss [13, 0, 1, 2, 7, 6, 11, 14, 3, 4, 5] z z) (sb z)
       refine dM (sm [y, y, y, y, y, y, y, y, y, n, y] z) z <| aA z z z z bR (fun _ => (sm [y, y, y, y, y, y, y, y, y, n, y] z)) fun F9 => au z mC z z z z (fun d a => cf d (p1 := p2) D (a.carve [] z z) (af (ad F d a) (ad G d a)) (aM (x := (ah.mk k m)) (c0 := [S t k.length u]) (c1 := [I J m]) (ap (e := ae (aC) 71) (r := 1) z d a) z) (bM (x := f.1) (c0 := [S o f.1.o_.length s]) (c1 := [I J f.1.v_]) (ap (e := ae eI 3) (r := 6) z d a) z) (bt (x := (bh.mk g.1 0)) (c0 := [S A g.1.length C]) (c1 := [I J 0]) (ap (e := ae e8 5) (r := 8) z d a) z)) fun G0 d L a m5 => ?_
       obtain ⟨h8, G1, h9, u0, u1, G2, u2, G3, rfl, d1⟩ := m5
       obtain rfl := aI (i := 0) d1 z
       obtain rfl := aI (i := 1) d1 z
       refine ⟨St w E [_, _, _, _, _, _, _, _, _, _, _, _, _, _, _, _, _], a.comp [] z z d1, (sm [y, y, y, y, y, y, y, y, y, n, y] z), ?_⟩
       exact aa [.p, .p, .p, .p] z <| bq (off := 0) [S h8 c.1.a_.length h9, I J c.1.k_] [_, _] (i := 11) z z z z z z bx z z (al z) z z z (sm [y, y, y, y, y, y, y, y, y, n, y] z) <| bq (off := 0) [S u1 c.2.1.t_.length u2, I J c.2.1.c_] [_, _] (i := 14) z z z z z z bR z z (al z) z z z (sm [y, y, y, y, y, y, y, y, y, n, y] z) <| aQ <| cR <| oP z <| ay <| XW.at (Z (l.2.i_) (l.2.h_) (b4) (c.1.a_) (h8) (h9) (u0) (c.1.k_) (H)) (ss [13, 0, 1, 2, 7, 6, 11, 15, 3, 4, 5] z z) (sb z)
      refine dM (sm [y, y, y, y, y, y, y, y, y, n, y] z) z <| aA z z z z bR (fun _ => (sm [y, y, y, y, y, y, y, y, y, n, y] z)) fun G4 => au z jY z z z z (fun d a => bb d P (a.carve [9] z z) (rdB [9] z z a g_p0b) (rdO 12 [9] z a z z)) fun G5 d L a m6 => ?_
      obtain ⟨rfl, m7⟩ := m6
      refine ⟨St w E [_, _, _, _, _, _, _, _, _, _, _, _, _, _, _], a.comp [9] z z m7, (sm [y, y, y, y, y, y, y, y, y, n, y] z), ?_⟩
      refine au z mC z z z z (fun d a => cf d (p1 := p2) D (a.carve [] z z) (af (ad F d a) (ad G d a)) (aM (x := (ah.mk k m)) (c0 := [S t k.length u]) (c1 := [I J m]) (ap (e := ae (aC) 71) (r := 1) z d a) z) (bM (x := f.1) (c0 := [S o f.1.o_.length s]) (c1 := [I J f.1.v_]) (ap (e := ae eI 3) (r := 6) z d a) z) (bt (x := (bh.mk g.1 0)) (c0 := [S A g.1.length C]) (c1 := [I J 0]) (ap (e := ae e8 5) (r := 8) z d a) z)) (fun G6 d L a m8 => ?_)
      obtain ⟨i0, G7, i1, u3, u4, G8, u5, G9, rfl, d2⟩ := m8
      obtain rfl := aI (i := 0) d2 z
      obtain rfl := aI (i := 1) d2 z
      refine ⟨St w E [_, _, _, _, _, _, _, _, _, _, _, _, _, _, _, _, _], a.comp [] z z d2, (sm [y, y, y, y, y, y, y, y, y, n, y] z), ?_⟩
      exact aa [.p, .p, .p, .p] z <| bq (off := 0) [S i0 c.1.a_.length i1, I J c.1.k_] [_, _] (i := 11) z z z z z z bx z z (al z) z z z (sm [y, y, y, y, y, y, y, y, y, n, y] z) <| bq (off := 0) [S u4 c.2.1.t_.length u5, I J c.2.1.c_] [_, _] (i := 13) z z z z z z bR z z (al z) z z z (sm [y, y, y, y, y, y, y, y, y, n, y] z) <| aQ <| cR <| oP z <| ay <| XW.at (Z (l.2.i_) (l.2.h_) (b4) (c.1.a_) (i0) (i1) (u3) (c.1.k_) (H)) (ss [14, 0, 1, 2, 7, 6, 11, 15, 3, 4, 5] z z) (sb z)
     refine dM (sm [y, y, y, y, y, y, y, y, y, n, y] z) z <| aA z z z z bR (fun _ => (sm [y, y, y, y, y, y, y, y, y, n, y] z)) fun H0 => bQ (val := I J) (h1 := fun _ => z) [1, 3, 7, 7] [(0, [I J 1]), (1, [I J 3]), (2, [I J 7]), (3, [I J 7])] z z z z z aP ty3 z z z ⟨z, z, nl z, z, z, nl z, z, z, nl z, z, z, nl z, Y⟩ z z (fun _ => (sm [y, y, y, y, y, y, y, y, y, n, y] z)) fun H1 => au z jY z z z z (fun d a => bb d P (a.carve [9] z z) (rdB [9] z z a g_p0b) (rdO 13 [9] z a z z)) fun H2 d L a m9 => ?_
     obtain ⟨rfl, n2⟩ := m9
     refine ⟨St w E [_, _, _, _, _, _, _, _, _, _, _, _, _, _, _], a.comp [9] z z n2, (sm [y, y, y, y, y, y, y, y, y, n, y] z), ?_⟩
     refine au z mC z z z z (fun d a => cf d (p1 := p2) D (a.carve [] z z) (af (ad F d a) (ad G d a)) (aM (x := (ah.mk k m)) (c0 := [S t k.length u]) (c1 := [I J m]) (ap (e := ae (aC) 71) (r := 1) z d a) z) (bM (x := f.1) (c0 := [S o f.1.o_.length s]) (c1 := [I J f.1.v_]) (ap (e := ae eI 3) (r := 6) z d a) z) (bt (x := (bh.mk g.1 0)) (c0 := [S A g.1.length C]) (c1 := [I J 0]) (ap (e := ae e8 5) (r := 8) z d a) z)) (fun H3 d L a n3 => ?_)
     obtain ⟨i2, H4, i3, u6, u7, H5, u8, H6, rfl, d3⟩ := n3
     obtain rfl := aI (i := 0) d3 z
     obtain rfl := aI (i := 1) d3 z
     refine ⟨St w E [_, _, _, _, _, _, _, _, _, _, _, _, _, _, _, _, _], a.comp [] z z d3, (sm [y, y, y, y, y, y, y, y, y, n, y] z), ?_⟩
     exact aa [.p, .p, .p, .p] z <| bq (off := 0) [S i2 c.1.a_.length i3, I J c.1.k_] [_, _] (i := 11) z z z z z z bx z z (al z) z z z (sm [y, y, y, y, y, y, y, y, y, n, y] z) <| bq (off := 0) [S u7 c.2.1.t_.length u8, I J c.2.1.c_] [_, _] (i := 12) z z z z z z bR z z (al z) z z z (sm [y, y, y, y, y, y, y, y, y, n, y] z) <| aQ <| cR <| oP z <| ay <| XW.at (Z (l.2.i_) (l.2.h_) (b4) (c.1.a_) (i2) (i3) (u6) (c.1.k_) (H)) (ss [14, 0, 1, 2, 7, 6, 11, 15, 3, 4, 5] z z) (sb z)
    refine dM (sm [y, y, y, y, y, y, y, y, y, n, y] z) z <| aA z z z z bR (fun _ => (sm [y, y, y, y, y, y, y, y, y, n, y] z)) fun H7 => aQ <| eM (sm [y, y, y, y, y, y, y, y, y, n, y] z) z ?_ ?_
    ·refine bQ (val := I J) (h1 := fun _ => z) [1, 3, 7, 7] [(0, [I J 1]), (1, [I J 3]), (2, [I J 7]), (3, [I J 7])] z z z z z aP ty3 z z z ⟨z, z, nl z, z, z, nl z, z, z, nl z, z, z, nl z, Y⟩ z z (fun _ => (sm [y, y, y, y, y, y, y, y, y, n, y] z)) fun H8 => aQ <| eM (sm [y, y, y, y, y, y, y, y, y, n, y] z) z ?_ ?_
     ·refine au z jY z z z z (fun d a => bb d P (a.carve [9] z z) (rdB [9] z z a g_p0b) (rdO 12 [9] z a z z)) (fun H9 d L a n4 => ?_)
      obtain ⟨rfl, n5⟩ := n4
      refine ⟨St w E [_, _, _, _, _, _, _, _, _, _, _, _, _, _], a.comp [9] z z n5, (sm [y, y, y, y, y, y, y, y, y, n, y] z), ?_⟩
      refine aQ <| eM (sm [y, y, y, y, y, y, y, y, y, n, y] z) z ?_ ?_
      ·refine au z mC z z z z (fun d a => cf d (p1 := p2) D (a.carve [] z z) (af (ad F d a) (ad G d a)) (aM (x := (ah.mk k m)) (c0 := [S t k.length u]) (c1 := [I J m]) (ap (e := ae (aC) 71) (r := 1) z d a) z) (bM (x := f.1) (c0 := [S o f.1.o_.length s]) (c1 := [I J f.1.v_]) (ap (e := ae eI 3) (r := 6) z d a) z) (bt (x := (bh.mk g.1 0)) (c0 := [S A g.1.length C]) (c1 := [I J 0]) (ap (e := ae e8 5) (r := 8) z d a) z)) (fun I0 d L a n6 => ?_)
       obtain ⟨i4, I1, i5, u9, v0, I2, v1, I3, rfl, d4⟩ := n6
       obtain rfl := aI (i := 0) d4 z
       obtain rfl := aI (i := 1) d4 z
       refine ⟨St w E [_, _, _, _, _, _, _, _, _, _, _, _, _, _, _, _], a.comp [] z z d4, (sm [y, y, y, y, y, y, y, y, y, n, y] z), ?_⟩
       exact aa [.p, .p, .p, .p] z <| aA z z z z bx (fun _ => (sm [y, y, y, y, y, y, y, y, y, n, y] z)) fun v2 => bq (off := 0) [S i4 c.1.a_.length i5, I J c.1.k_] [_, _] (i := 16) z z z z z z bx z z (al z) z z z (sm [y, y, y, y, y, y, y, y, y, n, y] z) <| bq (off := 0) [S v0 c.2.1.t_.length v1, I J c.2.1.c_] [_, _] (i := 11) z z z z z z bR z z (al z) z z z (sm [y, y, y, y, y, y, y, y, y, n, y] z) <| aQ <| cR <| oP z <| ay <| XW.at (Z (l.2.i_) (l.2.h_) (v2) (c.1.a_) (i4) (i5) (u9) (c.1.k_) (H)) (ss [13, 0, 1, 2, 7, 6, 16, 14, 3, 4, 5] z z) (sb z)
      refine dM (sm [y, y, y, y, y, y, y, y, y, n, y] z) z <| aA z z z z bx (fun _ => (sm [y, y, y, y, y, y, y, y, y, n, y] z)) fun v3 => au z mC z z z z (fun d a => cf d (p1 := p2) D (a.carve [] z z) (af (ad F d a) (ad G d a)) (aM (x := (ah.mk k m)) (c0 := [S t k.length u]) (c1 := [I J m]) (ap (e := ae (aC) 71) (r := 1) z d a) z) (bM (x := f.1) (c0 := [S o f.1.o_.length s]) (c1 := [I J f.1.v_]) (ap (e := ae eI 3) (r := 6) z d a) z) (bt (x := (bh.mk g.1 0)) (c0 := [S A g.1.length C]) (c1 := [I J 0]) (ap (e := ae e8 5) (r := 8) z d a) z)) fun I4 d L a n7 => ?_
      obtain ⟨i6, I5, i7, v4, v5, I6, v6, I7, rfl, d5⟩ := n7
      obtain rfl := aI (i := 0) d5 z
      obtain rfl := aI (i := 1) d5 z
      refine ⟨St w E [_, _, _, _, _, _, _, _, _, _, _, _, _, _, _, _, _], a.comp [] z z d5, (sm [y, y, y, y, y, y, y, y, y, n, y] z), ?_⟩
      exact aa [.p, .p, .p, .p] z <| bq (off := 0) [S i6 c.1.a_.length i7, I J c.1.k_] [_, _] (i := 14) z z z z z z bx z z (al z) z z z (sm [y, y, y, y, y, y, y, y, y, n, y] z) <| bq (off := 0) [S v5 c.2.1.t_.length v6, I J c.2.1.c_] [_, _] (i := 11) z z z z z z bR z z (al z) z z z (sm [y, y, y, y, y, y, y, y, y, n, y] z) <| aQ <| cR <| oP z <| ay <| XW.at (Z (l.2.i_) (l.2.h_) (v3) (c.1.a_) (i6) (i7) (v4) (c.1.k_) (H)) (ss [13, 0, 1, 2, 7, 6, 14, 15, 3, 4, 5] z z) (sb z)
     refine dM (sm [y, y, y, y, y, y, y, y, y, n, y] z) z <| aA z z z z bx (fun _ => (sm [y, y, y, y, y, y, y, y, y, n, y] z)) fun v7 => au z jY z z z z (fun d a => bb d P (a.carve [9] z z) (rdB [9] z z a g_p0b) (rdO 12 [9] z a z z)) fun I8 d L a n8 => ?_
     obtain ⟨rfl, n9⟩ := n8
     refine ⟨St w E [_, _, _, _, _, _, _, _, _, _, _, _, _, _, _], a.comp [9] z z n9, (sm [y, y, y, y, y, y, y, y, y, n, y] z), ?_⟩
     refine au z mC z z z z (fun d a => cf d (p1 := p2) D (a.carve [] z z) (af (ad F d a) (ad G d a)) (aM (x := (ah.mk k m)) (c0 := [S t k.length u]) (c1 := [I J m]) (ap (e := ae (aC) 71) (r := 1) z d a) z) (bM (x := f.1) (c0 := [S o f.1.o_.length s]) (c1 := [I J f.1.v_]) (ap (e := ae eI 3) (r := 6) z d a) z) (bt (x := (bh.mk g.1 0)) (c0 := [S A g.1.length C]) (c1 := [I J 0]) (ap (e := ae e8 5) (r := 8) z d a) z)) (fun I9 d L a o0 => ?_)
     obtain ⟨i8, J0, i9, v8, v9, J2, w0, J3, rfl, d6⟩ := o0
     obtain rfl := aI (i := 0) d6 z
     obtain rfl := aI (i := 1) d6 z
     refine ⟨St w E [_, _, _, _, _, _, _, _, _, _, _, _, _, _, _, _, _], a.comp [] z z d6, (sm [y, y, y, y, y, y, y, y, y, n, y] z), ?_⟩
     exact aa [.p, .p, .p, .p] z <| bq (off := 0) [S i8 c.1.a_.length i9, I J c.1.k_] [_, _] (i := 13) z z z z z z bx z z (al z) z z z (sm [y, y, y, y, y, y, y, y, y, n, y] z) <| bq (off := 0) [S v9 c.2.1.t_.length w0, I J c.2.1.c_] [_, _] (i := 11) z z z z z z bR z z (al z) z z z (sm [y, y, y, y, y, y, y, y, y, n, y] z) <| aQ <| cR <| oP z <| ay <| XW.at (Z (l.2.i_) (l.2.h_) (v7) (c.1.a_) (i8) (i9) (v8) (c.1.k_) (H)) (ss [14, 0, 1, 2, 7, 6, 13, 15, 3, 4, 5] z z) (sb z)
    refine dM (sm [y, y, y, y, y, y, y, y, y, n, y] z) z <| aA z z z z bx (fun _ => (sm [y, y, y, y, y, y, y, y, y, n, y] z)) fun w3 => bQ (val := I J) (h1 := fun _ => z) [1, 3, 7, 7] [(0, [I J 1]), (1, [I J 3]), (2, [I J 7]), (3, [I J 7])] z z z z z aP ty3 z z z ⟨z, z, nl z, z, z, nl z, z, z, nl z, z, z, nl z, Y⟩ z z (fun _ => (sm [y, y, y, y, y, y, y, y, y, n, y] z)) fun J4 => au z jY z z z z (fun d a => bb d P (a.carve [9] z z) (rdB [9] z z a g_p0b) (rdO 13 [9] z a z z)) fun J5 d L a o2 => ?_
    obtain ⟨rfl, o3⟩ := o2
    refine ⟨St w E [_, _, _, _, _, _, _, _, _, _, _, _, _, _, _], a.comp [9] z z o3, (sm [y, y, y, y, y, y, y, y, y, n, y] z), ?_⟩
    refine au z mC z z z z (fun d a => cf d (p1 := p2) D (a.carve [] z z) (af (ad F d a) (ad G d a)) (aM (x := (ah.mk k m)) (c0 := [S t k.length u]) (c1 := [I J m]) (ap (e := ae (aC) 71) (r := 1) z d a) z) (bM (x := f.1) (c0 := [S o f.1.o_.length s]) (c1 := [I J f.1.v_]) (ap (e := ae eI 3) (r := 6) z d a) z) (bt (x := (bh.mk g.1 0)) (c0 := [S A g.1.length C]) (c1 := [I J 0]) (ap (e := ae e8 5) (r := 8) z d a) z)) (fun J6 d L a o4 => ?_)
    obtain ⟨j0, J7, j1, w4, w5, J8, w6, J9, rfl, d7⟩ := o4
    obtain rfl := aI (i := 0) d7 z
    obtain rfl := aI (i := 1) d7 z
    refine ⟨St w E [_, _, _, _, _, _, _, _, _, _, _, _, _, _, _, _, _], a.comp [] z z d7, (sm [y, y, y, y, y, y, y, y, y, n, y] z), ?_⟩
    exact aa [.p, .p, .p, .p] z <| bq (off := 0) [S j0 c.1.a_.length j1, I J c.1.k_] [_, _] (i := 12) z z z z z z bx z z (al z) z z z (sm [y, y, y, y, y, y, y, y, y, n, y] z) <| bq (off := 0) [S w5 c.2.1.t_.length w6, I J c.2.1.c_] [_, _] (i := 11) z z z z z z bR z z (al z) z z z (sm [y, y, y, y, y, y, y, y, y, n, y] z) <| aQ <| cR <| oP z <| ay <| XW.at (Z (l.2.i_) (l.2.h_) (w3) (c.1.a_) (j0) (j1) (w4) (c.1.k_) (H)) (ss [14, 0, 1, 2, 7, 6, 12, 15, 3, 4, 5] z z) (sb z)
  ·exact bF <| aN <| aR <| aO <| ax <| sR <| o1 z (rx 0 1 _ z bx z) <| oP z <| sC 0 [S t k.length u, I J m] [_, _] 6 z bx z <| oP z <| nT <| bg (rs := [.cell 8 30, .tmp 9]) (vs := [.agg #[S t k.length u, I J m], S R M.length X]) z ⟨⟨_, [S t k.length u, I J m], _, _, _, z, bx, (bB (T := 30) 0 (bX (i := 6) z) z), z, z⟩, z, Y⟩ (fun w' hw' => by
    obtain rfl := ai H
    exact ⟨_, z, t, k.length, u, a8, R, M.length, X, a9, z, hw'.sel [2, 3, 0] z z⟩)
theorem sy (w : World) {f : List Nat} {p0b : List Int} {p0 : ao} {p1 : ab} {b_0 : Nat} {a_p0b : Option Addr} {n_p0b c_p0b : Nat} {a8 : List Value} {r : ah × ao} (H : lj p0b p0 p1 = U r) (HS : St w f [b b_0 91 [S a_p0b p0b.length c_p0b, I J p0.i_, I J p0.h_]] w) (g_p0b : (ae e8 5).rd w f p0b [S a_p0b n_p0b c_p0b]) (g1 : (aJ).rd w f p1 a8) :
    Calls Tryz.prog 57 #[O (U ⟨b_0, 0, N⟩), .agg a8.toArray] w (fun en w' => ∃ v, en = .returned v ∧ ∃ (a0 : Option Addr), ∃ (n0 : Nat), ∃ (c0 : Nat), ∃ (F0 : List Nat), v = .agg #[S a0 n0 c0, I J r.1.k_] ∧ St w f [W (ae (aC) 71) F0 r.1.a_ [S a0 n0 c0], b b_0 91 [S a_p0b n_p0b c_p0b, I J r.2.i_, I J r.2.h_]] w') := by
 obtain rfl := fM g_p0b
 obtain ⟨f3, f4, rfl, q, s⟩ := aB g1
 obtain ⟨a9, b0, rfl⟩ := aj q
 obtain ⟨b1, b2, rfl⟩ := aj s
 unfold lj at H
 refine aH Tryz.func57 z Tryz.ntmps57 z (HS) <| sR <| ob _ z fun P => aA z z z z bx (fun _ => kp) fun Q => nR <| oP z <| bE H fun d c9 H => au z Gf z z z z (fun e a => sO e c9 (a.carve [0] z z) (rdB [0] z z a g_p0b)) fun f5 e l a b3 => ?_
 obtain ⟨rfl, b4⟩ := b3
 refine ⟨St w f [_, _, _, _], a.comp [0] z z b4, fun _ _ => Y, ?_⟩
 refine aA z z z z nU (fun _ => kp) fun R => sC 0 [I J d.1.G_, I J d.1.H_, I J d.1.I_, I J d.1.m_, I J d.1.a_, I J d.1.E_, B d.1.F_] [_, _, _, _, _, _, _] 4 z nU z <| nR <| aa [.fa 130 5 5 rA] z <| sC 5 [I J 2000] [_, _, _, _, _, _, _] 4 z ty3 z <| nQ <| wx (fun (t : Int) (u : Int) (g : Int) => St w f [b b_0 91 [S a_p0b p0b.length c_p0b, I J t, I J u], b P 27 [S a9 p1.b_.length b0, S b1 p1.l_.length b2], b Q 30 [S N 0 0, I J 0], b R 130 [I J d.1.G_, I J d.1.H_, I J d.1.I_, I J d.1.m_, I J d.1.a_, I J g, B d.1.F_]]) (fun t u g => [(0, O (U ⟨b_0, 0, N⟩)), (3, O (U ⟨P, 0, N⟩)), (4, O (U ⟨Q, 0, N⟩)), (5, O (U ⟨R, 0, N⟩))]) (fun t u g => iG p0b p1 d t u g = U r) (fun t u g H => ?_) (fun J1 => ?_)
 ·unfold iG at H
  refine ak <| bE H fun f6 X H => bE H fun c M H => qw 12 [(0, y), (1, y), (2, y), (3, y)] (Br.alt 4 (Br.pre [] (Br.alt 5 (Br.pre [] (Br.alt 6 (Br.pre [(7, y), (8, y), (9, y), (10, n), (11, n)] Br.done) (Br.pre [(10, n), (6, n), (7, y), (8, y), (9, y), (11, n)] Br.done))) (Br.pre [(10, n), (5, n), (6, n), (7, y), (8, y), (9, y), (11, n)] Br.done))) (Br.pre [(10, n), (4, n), (5, n), (6, n), (7, y), (8, y), (9, y), (11, n)] Br.done)) (St w f [Res.nil, b P 27 [S a9 p1.b_.length b0, S b1 p1.l_.length b2], b Q 30 [S N 0 0, I J 0], b R 130 [I J d.1.G_, I J d.1.H_, I J d.1.I_, I J d.1.m_, I J d.1.a_, I J g, B d.1.F_]]) cj (by kernel_rfl) (aX bn) (sm [n, y, y, y] z) <| oP z <| bu z (aw z) (rx 0 1 _ z cg z) <| bu z (aw z) (rx 0 3 _ z nU z) <| oP z <| aQ <| eM (sm [n, y, y, y] z) z ?_ ?_
  ·refine bQ (val := I J) (h1 := fun _ => z) [0, 2, 12, 40, 60] [(0, [I J 0]), (1, [I J 2]), (2, [I J 12]), (3, [I J 40]), (4, [I J 60])] z z z z z aP ty3 z z z ⟨z, z, nl z, z, z, nl z, z, z, nl z, z, z, nl z, z, z, nl z, Y⟩ z z (fun _ => (sm [n, y, y, y] z)) fun f7 => aQ <| eM (sm [n, y, y, y] z) z ?_ ?_
   ·refine au z jY z z z z (fun e a => bb e X (a.carve [0] z z) (rdB [0] z z a g_p0b) (rdO 4 [0] z a z z)) (fun f8 e l a b5 => ?_)
    obtain ⟨rfl, b6⟩ := b5
    refine ⟨St w f [_, _, _, _, _, _], a.comp [0] z z b6, (sm [n, y, y, y] z), ?_⟩
    refine aQ <| eM (sm [n, y, y, y] z) z ?_ ?_
    ·refine au z Ck z z z z (fun e a => lg e (p2 := ({ d.1 with E_ := g })) M (a.carve [5] z z) (rdB [5] z z a g_p0b) (af (rdB [5] z z a q) (rdB [5] z z a s))) (fun f9 e l a b7 => ?_)
     obtain ⟨x, g0, A, d1, g2, g3, g4, g5, rfl, F⟩ := b7
     obtain rfl := aI (i := 0) F z
     obtain rfl := aI (i := 1) F z
     refine ⟨St w f [_, _, _, _, _, _, _, _, _], a.comp [5] z z F, (sm [n, y, y, y] z), ?_⟩
     refine aa [.p, .p, .p] z <| aA z z z z bx (fun _ => (sm [n, y, y, y] z)) fun g6 => bq (off := 0) [S x c.1.a_.length A, I J c.1.k_] [_, _] (i := 9) z z z z z z bx z z (al z) z z z (sm [n, y, y, y] z) <| aQ <| cR <| oP z <| nQ <| ak <| CW.weak (C' := St w f [_, _, _, _, _, _, _, _]) ?_ (ss [1, 2, 3, 4, 6, 7, 8, 9] z z)
     exact aW <| o1 z (rx 0 7 _ z bx z) <| sC 0 [S x c.1.a_.length A, I J c.1.k_] [_, _] 1 z bx z <| nT <| bg (rs := [.cell 4 30]) (vs := [.agg #[S x c.1.a_.length A, I J c.1.k_]]) z ⟨⟨_, [S x c.1.a_.length A, I J c.1.k_], _, _, _, z, bx, (bB (T := 30) 0 (bX (i := 1) z) z), z, z⟩, Y⟩ (fun w' hw' => by
      obtain rfl := ai H
      exact ⟨_, z, x, c.1.a_.length, A, d1, z, hw'.sel [4, 6] z z⟩)
    refine dM (sm [n, y, y, y] z) z <| aA z z z z bx (fun _ => (sm [n, y, y, y] z)) fun g7 => au z Ck z z z z (fun e a => lg e (p2 := ({ d.1 with E_ := g })) M (a.carve [5] z z) (rdB [5] z z a g_p0b) (af (rdB [5] z z a q) (rdB [5] z z a s))) fun g8 e l a b8 => ?_
    obtain ⟨C, g9, D, d2, h0, h2, h3, h4, rfl, G⟩ := b8
    obtain rfl := aI (i := 0) G z
    obtain rfl := aI (i := 1) G z
    refine ⟨St w f [_, _, _, _, _, _, _, _, _, _], a.comp [5] z z G, (sm [n, y, y, y] z), ?_⟩
    refine aa [.p, .p, .p] z <| bq (off := 0) [S C c.1.a_.length D, I J c.1.k_] [_, _] (i := 6) z z z z z z bx z z (al z) z z z (sm [n, y, y, y] z) <| aQ <| cR <| oP z <| nQ <| ak <| CW.weak (C' := St w f [_, _, _, _, _, _, _, _]) ?_ (ss [1, 2, 3, 4, 6, 7, 8, 9] z z)
    exact aW <| o1 z (rx 0 4 _ z bx z) <| sC 0 [S C c.1.a_.length D, I J c.1.k_] [_, _] 1 z bx z <| nT <| bg (rs := [.cell 4 30]) (vs := [.agg #[S C c.1.a_.length D, I J c.1.k_]]) z ⟨⟨_, [S C c.1.a_.length D, I J c.1.k_], _, _, _, z, bx, (bB (T := 30) 0 (bX (i := 1) z) z), z, z⟩, Y⟩ (fun w' hw' => by
     obtain rfl := ai H
     exact ⟨_, z, C, c.1.a_.length, D, d2, z, hw'.sel [5, 7] z z⟩)
   refine dM (sm [n, y, y, y] z) z <| aA z z z z bx (fun _ => (sm [n, y, y, y] z)) fun h5 => au z jY z z z z (fun e a => bb e X (a.carve [0] z z) (rdB [0] z z a g_p0b) (rdO 4 [0] z a z z)) fun h6 e l a b9 => ?_
   obtain ⟨rfl, c1⟩ := b9
   refine ⟨St w f [_, _, _, _, _, _, _], a.comp [0] z z c1, (sm [n, y, y, y] z), ?_⟩
   refine au z Ck z z z z (fun e a => lg e (p2 := ({ d.1 with E_ := g })) M (a.carve [6] z z) (rdB [6] z z a g_p0b) (af (rdB [6] z z a q) (rdB [6] z z a s))) (fun h7 e l a c2 => ?_)
   obtain ⟨E, d5, h, c3, d6, d7, d8, d9, rfl, L⟩ := c2
   obtain rfl := aI (i := 0) L z
   obtain rfl := aI (i := 1) L z
   refine ⟨St w f [_, _, _, _, _, _, _, _, _, _], a.comp [6] z z L, (sm [n, y, y, y] z), ?_⟩
   refine aa [.p, .p, .p] z <| bq (off := 0) [S E c.1.a_.length h, I J c.1.k_] [_, _] (i := 5) z z z z z z bx z z (al z) z z z (sm [n, y, y, y] z) <| aQ <| cR <| oP z <| nQ <| ak <| CW.weak (C' := St w f [_, _, _, _, _, _, _, _]) ?_ (ss [1, 2, 3, 4, 5, 7, 8, 9] z z)
   exact aW <| o1 z (rx 0 4 _ z bx z) <| sC 0 [S E c.1.a_.length h, I J c.1.k_] [_, _] 1 z bx z <| nT <| bg (rs := [.cell 4 30]) (vs := [.agg #[S E c.1.a_.length h, I J c.1.k_]]) z ⟨⟨_, [S E c.1.a_.length h, I J c.1.k_], _, _, _, z, bx, (bB (T := 30) 0 (bX (i := 1) z) z), z, z⟩, Y⟩ (fun w' hw' => by
    obtain rfl := ai H
    exact ⟨_, z, E, c.1.a_.length, h, c3, z, hw'.sel [5, 7] z z⟩)
  refine dM (sm [n, y, y, y] z) z <| aA z z z z bx (fun _ => (sm [n, y, y, y] z)) fun e0 => bQ (val := I J) (h1 := fun _ => z) [0, 2, 12, 40, 60] [(0, [I J 0]), (1, [I J 2]), (2, [I J 12]), (3, [I J 40]), (4, [I J 60])] z z z z z aP ty3 z z z ⟨z, z, nl z, z, z, nl z, z, z, nl z, z, z, nl z, z, z, nl z, Y⟩ z z (fun _ => (sm [n, y, y, y] z)) fun e1 => au z jY z z z z (fun e a => bb e X (a.carve [0] z z) (rdB [0] z z a g_p0b) (rdO 5 [0] z a z z)) fun e2 e l a a1 => ?_
  obtain ⟨rfl, a2⟩ := a1
  refine ⟨St w f [_, _, _, _, _, _, _], a.comp [0] z z a2, (sm [n, y, y, y] z), ?_⟩
  refine au z Ck z z z z (fun e a => lg e (p2 := ({ d.1 with E_ := g })) M (a.carve [6] z z) (rdB [6] z z a g_p0b) (af (rdB [6] z z a q) (rdB [6] z z a s))) (fun e3 e l a a3 => ?_)
  obtain ⟨j, e4, k, c4, e5, e6, e7, e9, rfl, m⟩ := a3
  obtain rfl := aI (i := 0) m z
  obtain rfl := aI (i := 1) m z
  refine ⟨St w f [_, _, _, _, _, _, _, _, _, _], a.comp [6] z z m, (sm [n, y, y, y] z), ?_⟩
  refine aa [.p, .p, .p] z <| bq (off := 0) [S j c.1.a_.length k, I J c.1.k_] [_, _] (i := 4) z z z z z z bx z z (al z) z z z (sm [n, y, y, y] z) <| aQ <| cR <| oP z <| nQ <| ak <| CW.weak (C' := St w f [_, _, _, _, _, _, _, _]) ?_ (ss [1, 2, 3, 4, 5, 7, 8, 9] z z)
  exact aW <| o1 z (rx 0 3 _ z bx z) <| sC 0 [S j c.1.a_.length k, I J c.1.k_] [_, _] 1 z bx z <| nT <| bg (rs := [.cell 4 30]) (vs := [.agg #[S j c.1.a_.length k, I J c.1.k_]]) z ⟨⟨_, [S j c.1.a_.length k, I J c.1.k_], _, _, _, z, bx, (bB (T := 30) 0 (bX (i := 1) z) z), z, z⟩, Y⟩ (fun w' hw' => by
   obtain rfl := ai H
   exact ⟨_, z, j, c.1.a_.length, k, c4, z, hw'.sel [5, 7] z z⟩)
 ·refine sR <| oP z <| bE H fun Z c5 H => au z xD z z z z (fun e a => gL e c5 (a.carve [3] z z) (rdB [3] z z a g_p0b)) fun f0 e l a a4 => ?_
  obtain ⟨rfl, a5⟩ := a4
  refine ⟨St w f [_, _, _, _, _, _], a.comp [3] z z a5, fun _ _ => Y, ?_⟩
  refine nQ <| cI H z (fun H => ?_) (fun H => ?_)
  ·refine CW.weak (C' := St w f [_, _, _, _]) ?_ (ss [1, 2, 4, 5] z z)
   refine aW <| oP z <| bQ (val := I J) (h1 := fun _ => z) [62, 80, 120] [(0, [I J 62]), (1, [I J 80]), (2, [I J 120])] z z z z z aP ty3 z z z ⟨z, z, nl z, z, z, nl z, z, z, nl z, Y⟩ z z (fun _ => kp) fun f1 => bE H fun o c6 H => au z jY z z z z (fun e a => bb e c6 (a.carve [3] z z) (rdB [3] z z a g_p0b) (rdO 4 [3] z a z z)) fun f2 e l a a6 => ?_
   obtain ⟨rfl, a7⟩ := a6
   refine ⟨St w f [_, _, _, _, _, _], a.comp [3] z z a7, fun _ _ => Y, ?_⟩
   exact aa [.fa 130 5 5 rA] z <| sC 5 [I J o.1] [_, _, _, _, _, _, _] 2 z ty3 z <| ay <| XW.at (J1 (o.2.i_) (o.2.h_) (o.1) (H)) (ss [5, 0, 1, 2] z z) (sb z)
  ·exact ar <| XW.at (J1 (Z.2.i_) (Z.2.h_) (2000) (H)) (ss [5, 1, 2, 4] z z) (sb z)
theorem tv (w : World) {u : List Nat} {p0b : List Int} {p0 : ao} {p1 : ab} {b_0 : Nat} {a_p0b : Option Addr} {n_p0b c_p0b : Nat} {a1 : List Value} {r : aq × ao} (H : mj p0b p0 p1 = U r) (HS : St w u [b b_0 91 [S a_p0b p0b.length c_p0b, I J p0.i_, I J p0.h_]] w) (g_p0b : (ae e8 5).rd w u p0b [S a_p0b n_p0b c_p0b]) (g1 : (aJ).rd w u p1 a1) :
    Calls Tryz.prog 97 #[O (U ⟨b_0, 0, N⟩), .agg a1.toArray] w (fun en w' => ∃ v, en = .returned v ∧ v = .agg #[I J r.1.j_, I J r.1.c_] ∧ St w u [b b_0 91 [S a_p0b n_p0b c_p0b, I J r.2.i_, I J r.2.h_]] w') := by
 obtain rfl := fM g_p0b
 obtain ⟨b9, c0, rfl, a2, a3⟩ := aB g1
 obtain ⟨E, F, rfl⟩ := aj a2
 obtain ⟨G, L, rfl⟩ := aj a3
 unfold mj at H
 refine aH Tryz.func97 z Tryz.ntmps97 z (HS) <| sR <| ob _ z fun x => aA z z z z cM (fun _ => kp) fun A => nR <| ce (e := bH) z z z z nW cM (fun _ => kp) fun a4 => oP z <| nQ <| ak <| sR <| oP z <| nQ <| az <| CW.at (iX (fun (o : List aq) (s : Option Addr) (t : Nat) (C : List Nat) (c : Int) => St w u [b b_0 91 [S a_p0b p0b.length c_p0b, I J p0.i_, I J p0.h_], b x 27 [S E p1.b_.length F, S G p1.l_.length L], b A 66 [I J 0, I J 0], W (ae (bH) 66) C o [S s o.length t]]) (fun o s t C c => [(0, O (U ⟨b_0, 0, N⟩)), (3, O (U ⟨x, 0, N⟩)), (4, O (U ⟨A, 0, N⟩)), (5, S s o.length t), (6, I J c)]) (fun kk => fun o s t C c => s.isNone = n ∧ du p1 p0 p0b kk o c = U r) (fun _ _ _ _ _ H => ?_) (fun k1 a5 o s t C c ⟨a6, H⟩ => ?_) be (([] : List aq)) ((U ⟨a4, 0, N⟩)) (0) ([a4]) (0) (⟨z, H⟩)) (ss [0, 1, 2, 3] z z) (sb z)
 ·unfold du at H
  exact absurd H (by simp)
 ·unfold du at H
  refine ak <| sR <| aa [.p, .fa 27 0 0 cY] z <| o1 z (r1 0 1 z hZ z) <| aa [.lenS 24 63 gD, .p] z <| nQ <| cI H z (fun H => ?_) (fun H => ?_)
  ·refine ar <| ax <| ak <| az <| sR <| oP z <| nQ <| az <| CW.at (iX (fun (d : List aq) (g : Option Addr) (k : Nat) (m : List Nat) (a : Int) => St w u [b b_0 91 [S a_p0b p0b.length c_p0b, I J p0.i_, I J p0.h_], b x 27 [S E p1.b_.length F, S G p1.l_.length L], b A 66 [I J 0, I J 0], W (ae (bH) 66) m d [S g d.length k]]) (fun d g k m a => [(0, O (U ⟨b_0, 0, N⟩)), (3, O (U ⟨x, 0, N⟩)), (4, O (U ⟨A, 0, N⟩)), (5, S g d.length k), (6, I J c), (7, I J a)]) (fun kk => fun d g k m a => g.isNone = n ∧ dG p1 c (du p1 p0 p0b k1) kk d a = U r) (fun _ _ _ _ _ H => ?_) (fun k2 M d g k m a ⟨D, H⟩ => ?_) be (o) (s) (t) (C) ((-1)) (⟨a6, H⟩)) (ss [0, 1, 2, 3] z z) (sb z)
   ·unfold dG at H
    exact absurd H (by simp)
   ·unfold dG at H
    refine ak <| sR <| oPP z <| nQ <| cI H z (fun H => ?_) (fun H => ?_)
    ·refine ar <| ax <| ak <| az <| sR <| oPP z <| o1 z (bL [(0, [I J c]), (1, [I J a])] [I J c, I J a] z z cM wE z ⟨z, z, nl z, z, z, nl z, Y⟩ z) <| aA z z z z cM (fun _ => kp) fun a7 => sC 0 [I J c, I J a] [_, _] 4 z cM z <| nR <| o1 z (rx 0 1 _ z cg z) <| o1 z (rx 0 4 _ z cM z) <| bE H fun b7 a8 H => oq z (qc z xE (fun q f => gK q (p1 := (aq.mk c a)) a8 (af (ad a2 q f) (ad a3 q f)))) tt2 <| nQ <| cI H z (fun H => ?_) (fun H => ?_)
     ·refine aW <| oP z <| o1 z (rx 0 4 _ z cM z) <| rH ([(aq.mk c a)] : List aq) [(0, [I J c, I J a])] z z z z z nW cM z z z z ⟨z, z, nl z, Y⟩ z (fun _ => kp) (fun P => (?_ : OW _ _ _ (St w u [b b_0 91 [S a_p0b p0b.length c_p0b, I J p0.i_, I J p0.h_], b x 27 [S E p1.b_.length F, S G p1.l_.length L], b A 66 [I J 0, I J 0], W (ae (bH) 66) m d [S g d.length k], b a7 66 [I J c, I J a], W (ae (bH) 66) [P] [(aq.mk c a)] [S (U ⟨P, 0, N⟩) ([(aq.mk c a)] : List aq).length 1]]) _ _ _))
      exact bE H fun a9 Q H => qK (r := 3) (ys := ([(aq.mk c a)] : List aq)) z z z z z z nW cM z z z z z (fun q f => ap (e := ae (bH) 66) (r := 5) z q f) Q (fun _ _ _ => kp) fun b0 b1 b2 => ct z (fun q f => fh (i := 3) f z (ff Q)) fun X => oP z <| ay <| cd <| ax <| aW <| aa [.p, .p, .p] z <| ay <| cD (RW.at (M (a9) (b0) (b1) (b2) (J.wrap (a + 1)) (⟨X, H⟩)) (ss [0, 1, 2, 3] z z) (sb z))
     ·exact ar <| cd <| ax <| aW <| aa [.p, .p, .p] z <| ay <| cD (RW.at (M (d) (g) (k) (m) (J.wrap (a + 1)) (⟨D, H⟩)) (ss [0, 1, 2, 3] z z) (sb z))
    ·exact bF <| aN <| aR <| aO <| cd <| ax <| aW <| aa [.p, .p, .p] z <| ay <| cD (RW.at (a5 (d) (g) (k) (m) (J.wrap (c + 1)) (⟨D, H⟩)) (ss [0, 1, 2, 3] z z) (sb z))
  ·refine bF <| aN <| aR <| aO <| ax <| ak <| sR <| aa [.p, .lenS 155 66 nW, .p] z <| nQ <| cI H z (fun H => ?_) (fun H => ?_)
   ·exact sR <| o1 z (bL [] [I J 0, I J 0] z z cM wE z Y z) <| sC 0 [I J 0, I J 0] [_, _] 2 z cM z <| nT <| am <| bg (rs := [.cell 4 66]) (vs := [.agg #[I J 0, I J 0]]) z ⟨⟨_, [I J 0, I J 0], _, _, _, z, cM, (bB (T := 66) 0 (bX (i := 2) z) z), z, z⟩, Y⟩ (fun w' hw' => by
     obtain rfl := ai H
     exact ⟨_, z, z, hw'.sel [0] z z⟩)
   ·refine ar <| ax <| sR <| aa [.p, .p, .p, .lenS 155 66 nW] z <| bE H fun b3 b4 H => au z qq z z z z (fun q f => cJ q b4 (f.carve [0] z z) (rdB [0] z z f g_p0b)) fun b8 q w2 f Z => ?_
    obtain ⟨rfl, a0⟩ := Z
    refine ⟨St w u [_, _, _, _, _], f.comp [0] z z a0, fun _ _ => Y, ?_⟩
    exact bE H fun l R H => bo (e := bH) (xs := o) (j := b3.1) z z z z z nW cM z (fun q f => ap (e := ae (bH) 66) (r := 3) z q f) R z <| o1 z (cA (cs := [I J l.j_, I J l.c_]) z z cM (oc (oB (fun q f => ap (e := ae (bH) 66) (r := 3) z q f) R (fun _ _ h => h)) z) z) <| sC 0 [I J l.j_, I J l.c_] [_, _] 2 z cM z <| nT <| bg (rs := [.cell 4 66]) (vs := [.agg #[I J l.j_, I J l.c_]]) z ⟨⟨_, [I J l.j_, I J l.c_], _, _, _, z, cM, (bB (T := 66) 0 (bX (i := 2) z) z), z, z⟩, Y⟩ (fun w' hw' => by
     obtain rfl := ai H
     exact ⟨_, z, z, hw'.sel [4] z z⟩)
theorem uC (w : World) {e : List Nat} {p0b : List Int} {p0 : ao} {p1 : ab} {b_0 : Nat} {a_p0b : Option Addr} {n_p0b c_p0b : Nat} {h : List Value} {r : aq × ao} (H : nq p0b p0 p1 = U r) (HS : St w e [b b_0 91 [S a_p0b p0b.length c_p0b, I J p0.i_, I J p0.h_]] w) (g_p0b : (ae e8 5).rd w e p0b [S a_p0b n_p0b c_p0b]) (F : (aJ).rd w e p1 h) :
    Calls Tryz.prog 59 #[O (U ⟨b_0, 0, N⟩), .agg h.toArray] w (fun en w' => ∃ v, en = .returned v ∧ v = .agg #[I J r.1.j_, I J r.1.c_] ∧ St w e [b b_0 91 [S a_p0b n_p0b c_p0b, I J r.2.i_, I J r.2.h_]] w') := by
 obtain rfl := fM g_p0b
 obtain ⟨G, L, rfl, j, k⟩ := aB F
 obtain ⟨M, P, rfl⟩ := aj j
 obtain ⟨Q, R, rfl⟩ := aj k
 unfold nq at H
 refine aH Tryz.func59 z Tryz.ntmps59 z (HS) <| sR <| ob _ z fun X => aA z z z z cM (fun _ => kp) fun Z => nR <| oP z <| o1 z (rx 0 1 _ z cg z) <| bE H fun c A H => au z Gu z z z z (fun d a => tv d A (a.carve [0] z z) (rdB [0] z z a g_p0b) (af (rdB [0] z z a j) (rdB [0] z z a k))) fun a0 d l a m => ?_
 obtain ⟨rfl, o⟩ := m
 refine ⟨St w e [_, _, _, _], a.comp [0] z z o, fun _ _ => Y, ?_⟩
 refine aA z z z z cM (fun _ => kp) fun a1 => sC 0 [I J c.1.j_, I J c.1.c_] [_, _] 4 z cM z <| nQ <| ak <| sR <| oP z <| bE H fun a2 C H => au z qq z z z z (fun d a => cJ d C (a.carve [3] z z) (rdB [3] z z a g_p0b)) fun a3 d l a p => ?_
 obtain ⟨rfl, q⟩ := p
 refine ⟨St w e [_, _, _, _, _, _], a.comp [3] z z q, fun _ _ => Y, ?_⟩
 refine nQ <| az <| ak <| CW.weak (C' := St w e [_, _, _, _]) ?_ (ss [1, 2, 4, 5] z z)
 refine aW <| oPP z <| nQ <| cI H z (fun H => ?_) (fun H => ?_)
 ·refine aW <| oP z <| bQ (val := I J) (h1 := fun _ => z) [(-2), 1, 2, 3, 4, 9223372036854775807] [(0, [I J (-2)]), (1, [I J 1]), (2, [I J 2]), (3, [I J 3]), (4, [I J 4]), (5, [I J 9223372036854775807])] z z z z z aP ty3 z z z ⟨z, z, nl z, z, z, nl z, z, z, nl z, z, z, nl z, z, z, nl z, z, z, nl z, Y⟩ z z (fun _ => kp) fun a4 => bE H fun f D H => au z jY z z z z (fun d a => bb d D (a.carve [3] z z) (rdB [3] z z a g_p0b) (rdO 4 [3] z a z z)) fun a5 d l a s => ?_
  obtain ⟨rfl, t⟩ := s
  refine ⟨St w e [_, _, _, _, _, _], a.comp [3] z z t, fun _ _ => Y, ?_⟩
  exact aa [.fa 66 1 1 mR] z <| sC 1 [I J f.1] [_, _] 2 z ty3 z <| ay <| cd <| ax <| sR <| o1 z (rx 0 2 _ z cM z) <| sC 0 [I J c.1.j_, I J f.1] [_, _] 1 z cM z <| nT <| bg (rs := [.cell 4 66]) (vs := [.agg #[I J c.1.j_, I J f.1]]) z ⟨⟨_, [I J c.1.j_, I J f.1], _, _, _, z, cM, (bB (T := 66) 0 (bX (i := 1) z) z), z, z⟩, Y⟩ (fun w' hw' => by
   obtain rfl := ai H
   exact ⟨_, z, z, hw'.sel [5] z z⟩)
 ·refine sR <| oPP z <| nQ <| cI H z (fun H => ?_) (fun H => ?_)
  ·refine aW <| oP z <| bQ (val := I J) (h1 := fun _ => z) [(-1), 5, 4, 9223372036854775807] [(0, [I J (-1)]), (1, [I J 5]), (2, [I J 4]), (3, [I J 9223372036854775807])] z z z z z aP ty3 z z z ⟨z, z, nl z, z, z, nl z, z, z, nl z, z, z, nl z, Y⟩ z z (fun _ => kp) fun a6 => bE H fun g E H => au z jY z z z z (fun d a => bb d E (a.carve [3] z z) (rdB [3] z z a g_p0b) (rdO 4 [3] z a z z)) fun a7 d l a u => ?_
   obtain ⟨rfl, x⟩ := u
   refine ⟨St w e [_, _, _, _, _, _], a.comp [3] z z x, fun _ _ => Y, ?_⟩
   exact aa [.fa 66 0 0 jI] z <| sC 0 [I J g.1] [_, _] 2 z ty3 z <| ay <| cd <| ax <| sR <| o1 z (rx 0 2 _ z cM z) <| sC 0 [I J g.1, I J c.1.c_] [_, _] 1 z cM z <| nT <| bg (rs := [.cell 4 66]) (vs := [.agg #[I J g.1, I J c.1.c_]]) z ⟨⟨_, [I J g.1, I J c.1.c_], _, _, _, z, cM, (bB (T := 66) 0 (bX (i := 1) z) z), z, z⟩, Y⟩ (fun w' hw' => by
    obtain rfl := ai H
    exact ⟨_, z, z, hw'.sel [5] z z⟩)
  ·exact ar <| cd <| ax <| sR <| o1 z (rx 0 2 _ z cM z) <| sC 0 [I J c.1.j_, I J c.1.c_] [_, _] 1 z cM z <| nT <| bg (rs := [.cell 4 66]) (vs := [.agg #[I J c.1.j_, I J c.1.c_]]) z ⟨⟨_, [I J c.1.j_, I J c.1.c_], _, _, _, z, cM, (bB (T := 66) 0 (bX (i := 1) z) z), z, z⟩, Y⟩ (fun w' hw' => by
    obtain rfl := ai H
    exact ⟨_, z, z, hw'.sel [3] z z⟩)
theorem tx (w : World) {d : List Nat} {p0b : List Int} {p0 : ao} {p1 : ab} {b_0 : Nat} {a_p0b : Option Addr} {n_p0b c_p0b : Nat} {j : List Value} {r : (List Int) × ao} (H : ms p0b p0 p1 = U r) (HS : St w d [b b_0 91 [S a_p0b p0b.length c_p0b, I J p0.i_, I J p0.h_]] w) (g_p0b : (ae e8 5).rd w d p0b [S a_p0b n_p0b c_p0b]) (Z : (aJ).rd w d p1 j) :
    Calls Tryz.prog 60 #[O (U ⟨b_0, 0, N⟩), .agg j.toArray] w (fun en w' => ∃ v, en = .returned v ∧ ∃ (F : Option Addr), ∃ (G : Nat), ∃ (c0 : Nat), ∃ (F0 : List Nat), v = S F G c0 ∧ St w d [W (ae eI 3) F0 r.1 [S F G c0], b b_0 91 [S a_p0b n_p0b c_p0b, I J r.2.i_, I J r.2.h_]] w') := by
 obtain rfl := fM g_p0b
 obtain ⟨a3, a4, rfl, k, l⟩ := aB Z
 obtain ⟨a5, a6, rfl⟩ := aj k
 obtain ⟨a7, a8, rfl⟩ := aj l
 unfold ms at H
 refine aH Tryz.func60 z Tryz.ntmps60 z (HS) <| sR <| ob _ z fun a9 => oP z <| nR <| oP z <| o1 z (rx 0 1 _ z cg z) <| bE H fun m L H => au z EL z z z z (fun c a => nm c L (a.carve [0] z z) (rdB [0] z z a g_p0b) (af (rdB [0] z z a k) (rdB [0] z z a l))) fun b0 c M a x => ?_
 obtain ⟨o, b1, p, P, rfl, f⟩ := x
 obtain rfl := aI (i := 0) f z
 refine ⟨St w d [_, _, _, _], a.comp [0] z z f, fun _ _ => Y, ?_⟩
 refine oP z <| nQ <| ak <| sR <| oP z <| bE H fun b2 Q H => au z qq z z z z (fun c a => cJ c Q (a.carve [3] z z) (rdB [3] z z a g_p0b)) fun b3 c M a A => ?_
 obtain ⟨rfl, C⟩ := A
 refine ⟨St w d [_, _, _, _, _], a.comp [3] z z C, fun _ _ => Y, ?_⟩
 refine nQ <| az <| ak <| CW.weak (C' := St w d [_, _, _]) ?_ (ss [1, 2, 4] z z)
 refine aW <| oPP z <| nQ <| cI H z (fun H => ?_) (fun H => ?_)
 ·refine aW <| oPP z <| bQ (val := I J) (h1 := fun _ => z) [0, 5, 4, (-1)] [(0, [I J 0]), (1, [I J 5]), (2, [I J 4]), (3, [I J (-1)])] z z z z z aP ty3 z z z ⟨z, z, nl z, z, z, nl z, z, z, nl z, z, z, nl z, Y⟩ z z (fun _ => kp) fun b4 => bE H fun g R H => au z jY z z z z (fun c a => bb c R (a.carve [2] z z) (rdB [2] z z a g_p0b) (rdO 3 [2] z a z z)) fun b5 c M a D => ?_
  obtain ⟨rfl, E⟩ := D
  refine ⟨St w d [_, _, _, _, _], a.comp [2] z z E, fun _ _ => Y, ?_⟩
  exact bQ (val := I J) (h1 := fun _ => z) [g.1] [(0, [I J g.1])] z z z z z aP ty3 z z z ⟨z, z, nl z, Y⟩ z z (fun _ => kp) fun b6 => bE H fun q s H => cm (r := 1) (ys := ([g.1] : List Int)) z z z z z z aP ty3 z z z (ap (e := ae eI 3) (r := 5) z) s (fun _ _ _ => kp) fun t u X => ct z (fun c a => fh (i := 1) a z (ff s)) fun a2 => oP z <| ay <| cd <| ax <| sR <| oPP z <| nT <| bg (rs := [.tmp 4]) (vs := [S t q.length u]) z ⟨z, Y⟩ (fun w' hw' => by
   obtain rfl := ai H
   exact ⟨_, z, t, q.length, u, X, z, hw'.sel [1, 4] z z⟩)
 ·refine sR <| oPP z <| nQ <| cI H z (fun H => ?_) (fun H => ?_)
  ·exact aW <| ce (e := eI) z z z z aP ty3 (fun _ => kp) fun h => oP z <| ay <| cd <| ax <| sR <| oPP z <| nT <| bg (rs := [.tmp 4]) (vs := [S (U ⟨h, 0, N⟩) 0 0]) z ⟨z, Y⟩ (fun w' hw' => by
    obtain rfl := ai H
    exact ⟨_, z, (U ⟨h, 0, N⟩), 0, 0, [h], z, hw'.sel [3, 2] z z⟩)
  ·exact ar <| cd <| ax <| sR <| oPP z <| nT <| bg (rs := [.tmp 4]) (vs := [S o m.1.length p]) z ⟨z, Y⟩ (fun w' hw' => by
    obtain rfl := ai H
    exact ⟨_, z, o, m.1.length, p, P, z, hw'.sel [1, 2] z z⟩)
end Go.Vk
